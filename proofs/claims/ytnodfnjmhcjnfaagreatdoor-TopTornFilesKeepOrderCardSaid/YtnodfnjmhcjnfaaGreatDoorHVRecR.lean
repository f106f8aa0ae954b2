/- Several texts in one: Recover and Salvage: the program at any length, and the document, and what follows. No condition. -/
import Derived.Test.YtnodfnjmhcjnfaaGreatDoorHVWalk2
import Derived.Test.YtnodfnjmhcjnfaaGreatDoorHVBlkP
import Derived.Test.YtnodfnjmhcjnfaaGreatDoorHVGF
import Derived.Test.YtnodfnjmhcjnfaaGreatDoorHVGA
/- Recover and Salvage: the program at any length, and the document. Condition: the bytes fit. -/
namespace Go.Proofs.YtnodfnjmhcjnfaaGreatDoor
open Go Go.RowKit
set_option maxRecDepth 100000
set_option linter.all false
set_option maxHeartbeats 2000000
variable {H : Hp} {K : AV → Hp → Prop}
def recR (l : List UInt8) : List UInt8 × Int × Int := if 200000 < l.length then ([], 0, 2) else (l.take (par l).2.1, (l.length : Int) - (par l).2.1, 0)
theorem recoverB_a (l : List UInt8) (hl : l.length ≤ 100000000) (hk : K (.tup [.c (.lst 1 ((recR l).1.map encU)), (.c (.int .i64 ((recR l).2.1))), (.c (.int .i64 ((recR l).2.2)))]) H) : ACalls Tryz.prog 40 [.c (.lst 1 (l.map encU))] H K := by
  unfold recR at hk
  by_cases h : 200000 < l.length
  · rw [if_pos h] at hk
    have e0 : ((200000 : Int) < l.length) = True := by simp; omega
    refine acalls Tryz.func40 rfl (by kernel_rfl) (by simp (disch := first | omega | (simp only [go_sem]; first | done | omega)) only [go_sem]) (fun hH => ?_)
    simp (disch := first | omega | (simp only [go_sem]; first | done | omega)) only [go_sem, e0]
    exact Ret.nil [1] (by simp) (Ret.same (by simp) hk)
  · rw [if_neg h] at hk
    exact recover_a l (by omega) hk
end Go.Proofs.YtnodfnjmhcjnfaaGreatDoor
/- sample.Slice. Condition: lengths are no more than a machine holds. -/
namespace Go.Proofs.YtnodfnjmhcjnfaaGreatDoor
open Go Go.RowKit
set_option maxRecDepth 100000
set_option linter.all false
set_option maxHeartbeats 1000000
variable {H : Hp} {K : AV → Hp → Prop}
theorem slice_a (l : List Smp) (w : Win) (hl : l.length ≤ 1000000) (hk1 : firstE [serF l, winE w] ≠ 0 → K (.tup [.c (.lst 3 []), (.c (.int .i64 (firstE [serF l, winE w])))]) H) (hk0 : firstE [serF l, winE w] = 0 → K (.tup [.c (.lst 3 ((withinF l w).map encS)), (.c (.int .i64 0))]) H) :
    ACalls Tryz.prog 42 [.c (.lst 3 (l.map encS)), .agg (encW w)] H K := by
  refine acalls Tryz.func42 rfl (by kernel_rfl) (by simp (disch := first | omega | (simp only [go_sem]; first | done | omega)) only [go_sem]) (fun hH => ?_)
  simp (disch := first | omega | (simp only [go_sem]; first | done | omega)) only [go_sem]
  refine windowFault_a l w (by omega) ?_
  simp (disch := first | omega | (simp only [go_sem]; first | done | omega)) only [go_sem]
  by_cases h0 : firstE [serF l, winE w] = 0
  · rw [h0]
    simp (disch := first | omega | (simp only [go_sem]; first | done | omega)) only [go_sem]
    refine within_a l w hl ?_
    simp (disch := first | omega | (simp only [go_sem]; first | done | omega)) only [go_sem]
    exact Ret.drop hH (Nat.le_refl _) (by simp [AV.ok, AV.ok1, AC.ok]) (hk0 h0)
  · simp (disch := first | omega | (simp only [go_sem]; first | done | omega)) only [go_sem]
    exact Ret.nilT hH (Nat.le_refl _) rfl (hk1 h0)
end Go.Proofs.YtnodfnjmhcjnfaaGreatDoor
/- From a contract over the plain heap to the law's own walk: the numbers that came in are frozen. -/
namespace Go.Proofs.YtnodfnjmhcjnfaaGreatDoor
open Go Go.RowKit
theorem add_block (a : Addr) (n : Nat) : (a.add n).block = a.block := by unfold Addr.add; split <;> rfl
theorem relRows_ints {w : World} {Z : Nat → Nat → Option Value} (hZ : ∀ b o v, w.cell? ⟨b, o, none⟩ = some v → Z b o = some v) {b : Nat} : ∀ (zs : List Int) (o : Nat), (∀ j (h : j < zs.length), w.cell? ⟨b, o + j, none⟩ = some (.int .i64 zs[j])) → relRows Z (zs.map encI) b o 1
  | [], _, _ => trivial
  | z :: zs, o, h => by
    refine ⟨⟨⟨_, hZ _ _ _ (h 0 (by simp)), rfl⟩, trivial⟩, relRows_ints hZ zs (o + 1) (fun j hj => ?_)⟩
    have := h (j + 1) (by simpa using hj)
    rw [show o + 1 + j = o + (j + 1) by omega]
    simpa using this
theorem law_top {f : FuncId} (zs : List Int) (h : ACalls Tryz.prog f [.c (.lst 1 (zs.map encI))] [] (fun v _ => v = (.c (.bool true)))) {a : Option Addr} {n cap : Nat} {w : World} (hn : zs.length = n) (hc : n ≤ cap) (h0 : a = none → n = 0 ∧ cap = 0)
    (hz : ∀ x, a = some x → ∀ j, j < n → w.cell? (x.add j) = some (.int .i64 (zs.getD j 0))) : Calls Tryz.prog f #[.slice a n cap] w fun e w' => e = .returned (.bool true) ∧ Below w.heap.size w w' := by
  let Z : Nat → Nat → Option Value := fun b o => w.cell? ⟨b, o, none⟩
  have hs : Sim (lowB w.heap.size) w ⟨fun _ => default, Z⟩ [] w := by
    refine ⟨⟨rfl, rfl, rfl, Nat.le_refl _, fun _ _ => rfl⟩, fun _ hk => hk, fun i o h => by simp at h, fun i o h => by simp at h, fun i j o o' _ h => by simp at h, fun i o h => by simp at h, fun b o v hv => ?_, fun i o h => by simp at h⟩
    have hv' : w.cell? ⟨b, o, none⟩ = some v := hv
    unfold World.cell? at hv'
    split at hv'
    · rename_i cur ty fr hb
      exact ⟨cur, ty, fr, hb, by simpa using hv'⟩
    · cases hv'
  have hr : argsRel ⟨fun _ => default, Z⟩ [.c (.lst 1 (zs.map encI))] #[.slice a n cap] := by
    refine ⟨⟨a, cap, by simp [hn], by simp [hn, hc], by simp [encI], fun ha => ?_, fun x hx => ⟨?_, ?_⟩⟩, trivial⟩
    · obtain ⟨h1, h2⟩ := h0 ha
      subst h1
      exact ⟨by simpa using hn, h2⟩
    · by_cases h1 : zs.length = 0
      · left; simpa using h1
      · right
        have h2 := World.cell?_spot (hz x hx 0 (by omega))
        simpa [Addr.add] using h2
    · refine relRows_ints (w := w) (fun b o v h => h) zs x.off (fun j hj => ?_)
      have h1 := hz x hx j (by omega)
      have h2 : x.add j = ⟨x.block, x.off + j, none⟩ := by
        have h3 := World.cell?_spot h1
        unfold Addr.add at h3 ⊢
        split
        · rename_i h4
          subst h4
          rw [if_pos rfl] at h3
          cases x
          simp_all
        · rfl
      rw [h2] at h1
      rw [h1]
      simp [List.getD, hj]
  refine (h (lowB w.heap.size) w _ w _ hs hr (by intro x hx; simp at hx; subst hx; trivial)).mono fun e w' he => ?_
  obtain ⟨ι2, u, av, H', rfl, k2, k3, k4, k5, k6, rfl⟩ := he
  have : u = .bool true := k5
  subst this
  exact ⟨rfl, k4.below.low⟩
end Go.Proofs.YtnodfnjmhcjnfaaGreatDoor
