/- From a contract over the plain heap to the law's own walk: the numbers that came in are frozen. -/
import Derived.Test.YtagoolooikpabaaGreatDoorHVGA
namespace Go.Proofs.YtagoolooikpabaaGreatDoor
open Go Go.RowKit
theorem add_block (a : Addr) (n : Nat) : (a.add n).block = a.block := by unfold Addr.add; split <;> rfl
theorem relRows_ints {w : World} {Z : Nat → Nat → Option Value} (hZ : ∀ b o v, w.cell? ⟨b, o, none⟩ = some v → Z b o = some v) {b : Nat} : ∀ (zs : List Int) (o : Nat), (∀ j (h : j < zs.length), w.cell? ⟨b, o + j, none⟩ = some (.int .i64 zs[j])) → relRows Z (zs.map encI) b o 1
 | [], _, _ => trivial
 | z :: zs, o, h => by
  refine ⟨⟨⟨_, hZ _ _ _ (h 0 (by simp)), rfl⟩, trivial⟩, relRows_ints hZ zs (o + 1) (fun j hj => ?_)⟩
  have := h (j + 1) (by simpa using hj)
  rw [show o + 1 + j = o + (j + 1) by omega]
  simpa using this
theorem law_top {f : FuncId} (zs : List Int) (h : ACalls Tryz.prog f [.c (.lst 1 (zs.map encI))] [] (fun v _ => v = (.c (.bool true)))) {a : Option Addr} {n cap : Nat} {w : World} (hkn : Kn (lowB w.heap.size) w) (hn : zs.length = n) (hc : n ≤ cap) (h0 : a = none → n = 0 ∧ cap = 0)
  (hz : ∀ x, a = some x → ∀ j, j < n → w.cell? (x.add j) = some (.int .i64 (zs.getD j 0))) : Calls Tryz.prog f #[.slice a n cap] w fun e w' => e = .returned (.bool true) ∧ Below w.heap.size w w' := by
 let Z : Nat → Nat → Option Value := fun b o => w.cell? ⟨b, o, none⟩
 have hs : Sim (lowB w.heap.size) w ⟨fun _ => default, Z⟩ [] w := by
  refine ⟨⟨rfl, rfl, rfl, Nat.le_refl _, fun _ _ => rfl⟩, fun _ hk => hk, hkn, fun i o h => by simp at h, fun i o h => by simp at h, fun i j o o' _ h => by simp at h, fun i o h => by simp at h, fun b o v hv => ?_, fun i o h => by simp at h⟩
  have hv' : w.cell? ⟨b, o, none⟩ = some v := hv
  unfold World.cell? at hv'
  split at hv'
  ·rename_i cur ty fr hb
   exact ⟨cur, ty, fr, hb, by simpa using hv'⟩
  ·cases hv'
 have hr : argsRel ⟨fun _ => default, Z⟩ [.c (.lst 1 (zs.map encI))] #[.slice a n cap] := by
  refine ⟨⟨a, cap, by simp [hn], by simp [hn, hc], by simp [encI], fun ha => ?_, fun x hx => ⟨?_, ?_⟩⟩, trivial⟩
  ·obtain ⟨h1, h2⟩ := h0 ha
   subst h1
   exact ⟨by simpa using hn, h2⟩
  ·by_cases h1 : zs.length = 0
   ·left; simpa using h1
   ·right
    have h2 := World.cell?_spot (hz x hx 0 (by omega))
    simpa [Addr.add] using h2
  ·refine relRows_ints (w := w) (fun b o v h => h) zs x.off (fun j hj => ?_)
   have h1 := hz x hx j (by omega)
   have h2 : x.add j = ⟨x.block, x.off + j, none⟩ := by
    have h3 := World.cell?_spot h1
    unfold Addr.add at h3 ⊢
    split
    ·rename_i h4
     subst h4
     rw [if_pos rfl] at h3
     cases x
     simp_all
    ·rfl
   rw [h2] at h1
   rw [h1]
   simp [List.getD, hj]
 refine (h (lowB w.heap.size) w _ w _ hs hr (by intro x hx; simp at hx; subst hx; trivial)).mono fun e w' he => ?_
 obtain ⟨ι2, u, av, H', rfl, k2, k3, k4, k5, k6, rfl⟩ := he
 have : u = .bool true := k5
 subst this
 exact ⟨rfl, k4.below.low⟩
end Go.Proofs.YtagoolooikpabaaGreatDoor
