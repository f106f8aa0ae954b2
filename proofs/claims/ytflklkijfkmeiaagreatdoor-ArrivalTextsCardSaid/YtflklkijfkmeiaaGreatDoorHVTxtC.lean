/- Several texts in one: A strings, and what follows. No condition. -/
import Derived.Test.YtflklkijfkmeiaaGreatDoorHVTxtB
import Derived.Shelf.Strings.BuilderK
import Derived.Test.YtflklkijfkmeiaaGreatDoorHVGB
/- A strings.Builder's string. -/
namespace Go.Proofs.YtflklkijfkmeiaaGreatDoor
open Go Go.RowKit Go.Shelf
set_option maxRecDepth 100000
set_option linter.all false
set_option maxHeartbeats 4000000
variable {H : Hp} {K : AV → Hp → Prop}
theorem bldStr1 (b g cap : Nat) (l : List UInt8) (w : World) (h0 : l ≠ []) (hcap : l.length ≤ cap) (hcm : cap ≤ 9223372036854775807) (h1 : w.cell? ⟨b, 1, none⟩ = some (.slice (some ⟨g, 0, none⟩) l.length cap)) (hsh : w.shape? g = some (5, cap))
    (hcells : ∀ (j : Nat) x, l[j]? = some x → w.cell? ((⟨g, 0, none⟩ : Addr).add j) = some (.int .u8 x.toNat)) :
    Calls Tryz.prog 92 #[.pointer (some ⟨b, 0, none⟩)] w fun e w' => e = .returned (.string ⟨l.toArray⟩) ∧ w' = w.drew.freeze ⟨g, 0, none⟩ l.length := by
  have hl0 : l.length ≠ 0 := by simpa using h0
  have mixed : Tryz.prog.follows .mixedOrders = true := by kernel_rfl
  have hf : Tryz.prog.funcs[92]? = some Tryz.f92 := by kernel_rfl
  have hn : Tryz.f92.ntmps = 14 := by kernel_rfl
  have t127 : Tryz.prog.underlying 204 = some (.pointer 5) := by kernel_rfl
  have hcb : Tryz.prog.cellsOf 5 = 1 := by kernel_rfl
  have c1 : w.drew.cell? ⟨b, 1, none⟩ = some (.slice (some ⟨g, 0, none⟩) l.length cap) := h1
  have hSD : (Builtin.unsafeSliceData_ #[130] 204 #[.slice (some ⟨g, 0, none⟩) l.length cap]).run Tryz.prog w.drew = .ok (.pointer (some ⟨g, 0, none⟩)) w.drew :=
    Lib.run_unsafeSliceData_row _ _ _ _ _ _ (by omega)
  have hUS : (Builtin.unsafeString_ #[204, 3] 9 #[.pointer (some ⟨g, 0, none⟩), .int .i64 l.length]).run Tryz.prog w.drew = .ok (.string ⟨l.toArray⟩) (w.drew.freeze ⟨g, 0, none⟩ l.length) :=
    Lib.run_unsafeString_row w.drew 204 3 9 5 t127 hcb g cap hsh l h0 hcap (by omega) hcells
  go_enter hf, hn
  go_wp2
  go_region_o
  all_goals (go_wp2; go_ret; exact ⟨rfl, rfl⟩)
theorem bldStr0 (b : Nat) (w : World) (h1 : w.cell? ⟨b, 1, none⟩ = some (.slice none 0 0)) :
    Calls Tryz.prog 92 #[.pointer (some ⟨b, 0, none⟩)] w fun e w' => e = .returned (.string ⟨#[]⟩) ∧ w' = w.drew := by
  have mixed : Tryz.prog.follows .mixedOrders = true := by kernel_rfl
  have hf : Tryz.prog.funcs[92]? = some Tryz.f92 := by kernel_rfl
  have hn : Tryz.f92.ntmps = 14 := by kernel_rfl
  have c1 : w.drew.cell? ⟨b, 1, none⟩ = some (.slice none 0 0) := h1
  have hSD : (Builtin.unsafeSliceData_ #[130] 204 #[.slice none 0 0]).run Tryz.prog w.drew = .ok (.pointer none) w.drew := rfl
  have hUS : (Builtin.unsafeString_ #[204, 3] 9 #[.pointer none, .int .i64 0]).run Tryz.prog w.drew = .ok (.string .empty) w.drew := Lib.run_unsafeString_none w.drew _ _ _ none
  go_enter hf, hn
  go_wp2
  go_region_o
  all_goals (go_wp2; go_ret; exact ⟨rfl, rfl⟩)
theorem froze_grown (w : World) (g n : Nat) : w.grownBy (w.drew.freeze ⟨g, 0, none⟩ n) (some g) := by
  unfold World.freeze
  split
  · exact ⟨rfl, rfl, rfl, Nat.le_refl _, fun _ _ _ => rfl⟩
  · refine ⟨rfl, rfl, rfl, by dsimp only; rw [Array.size_modify]; exact Nat.le_refl _, fun k hk hg => ?_⟩
    have hne : ¬ g = k := fun e => hg (by rw [e])
    simp only [Array.getElem?_modify]
    rw [if_neg hne]
    rfl
theorem dead_dead {i m : Nat} (him : i ≠ m) {B : Nat → Prop} {w0 w : World} {ι : En} {o o2 : AObj} (hs : Sim B w0 ι H w) (hi : H[i]? = some o) (ho : o.owned = true) (hj : H[m]? = some o2) (h2 : o2.owned = true ∨ o2 = .dead) : Sim B w0 ι ((H.set i .dead).set m .dead) w := by
  have h1 := hs.dead hi ho
  have hj' : (H.set i .dead)[m]? = some o2 := by rw [List.getElem?_set_ne (by omega)]; exact hj
  rcases h2 with h2 | h2
  · exact h1.dead hj' h2
  · subst h2
    rw [show (H.set i .dead).set m .dead = H.set i .dead by
      apply List.ext_getElem?
      intro n
      by_cases hn : m = n
      · subst hn; rw [List.getElem?_set_self (getElem?_lt hj'), hj']
      · rw [List.getElem?_set_ne hn]]
    exact h1
theorem str_a {i m : Nat} {p : Bool} (him : i ≠ m) (l : List UInt8) (hi : H[i]? = some (bldO p i m l)) (hj : H[m]? = some (grO 5 1 (l.map encU))) (hk : K (.c (.str (tB l))) ((H.set i .dead).set m .dead)) : ACalls Tryz.prog 92 [.c (.ptr (some (i, 0, 0)))] H K := by
  intro B w0 ι w vs hs hr ho
  obtain ⟨vl⟩ := vs
  match vl, hr with
  | [v], hr =>
    have hv : v = ptrOf ι (i, 0, 0) := hr.1
    subst hv
    have hgo : (grO 5 1 (l.map encU)).owned = true ∨ grO 5 1 (l.map encU) = .dead := by
      cases l with
      | nil => exact .inr rfl
      | cons x t => exact .inl rfl
    have hdd := dead_dead him hs hi rfl hj hgo
    obtain ⟨hsz, hcap, cur, fr, hb, hc, how⟩ := hs.obj i _ hi
    obtain ⟨rfl, hoff, hcs, hml⟩ := how rfl
    obtain ⟨u, hu1, hu2⟩ := hc 0 _ rfl 1 (grV m l) rfl
    have hp : ptrOf ι (i, 0, 0) = .pointer (some ⟨(ι i).block, 0, none⟩) := by unfold ptrOf Loc.at; rw [hoff]; simp
    have h1 : w.cell? ⟨(ι i).block, 1, none⟩ = some u := by
      rw [Lib.cell_of_heap hb]
      rw [hoff] at hu1
      simpa using hu1
    rw [hp]
    cases hl : l with
    | nil =>
      subst hl
      have hu : (0 : Nat) = 0 ∧ u = .slice none 0 0 := hu2
      rw [hu.2] at h1
      refine Calls.mono (bldStr0 (ι i).block w h1) ?_
      rintro e w' ⟨rfl, rfl⟩
      exact ⟨ι, _, .c (.str (tB [])), _, rfl, Agree.refl _ _, by simp, hdd.heap rfl rfl rfl rfl, rfl, trivial, hk⟩
    | cons x t =>
      have hne : l ≠ [] := by rw [hl]; simp
      rw [grV_pos _ hne] at hu2
      have hle : l.map encU ≠ [] := by simpa using hne
      rw [grO_pos _ _ hle] at hj
      obtain ⟨a, ha1, ha2, ha3⟩ := hu2
      obtain ⟨gsz, gcap, gcur, gfr, gb, gc, gow⟩ := hs.obj m _ hj
      obtain ⟨rfl, goff, gcs, gml⟩ := gow rfl
      have ha : a = ⟨(ι m).block, 0, none⟩ := by
        rw [ha3 (.inr rfl)]
        unfold Loc.at
        rw [goff]
        simp
      rw [ha1, ha] at h1
      rw [List.length_map] at gcap
      refine Calls.mono (bldStr1 (ι i).block (ι m).block (ι m).cap l w hne gcap (by unfold maxLen at gml; omega) h1 (by unfold World.shape?; rw [gb]; dsimp only; rw [gcs, Nat.mul_one]) (fun j y hy => ?_)) ?_
      · obtain ⟨z, hz1, hz2⟩ := gc j (encU y) (by rw [List.getElem?_map, hy]; rfl) 0 _ rfl
        have hz : z = .int .u8 y.toNat := hz2
        subst hz
        rw [goff] at hz1
        have hadd : (⟨(ι m).block, 0, none⟩ : Addr).add j = ⟨(ι m).block, 0 + j, none⟩ := by unfold Addr.add; split <;> simp_all
        rw [hadd, Lib.cell_of_heap gb]
        simpa using hz1
      · rintro e w' ⟨rfl, rfl⟩
        refine ⟨ι, _, .c (.str (tB l)), _, rfl, Agree.refl _ _, by simp, ?_, rfl, trivial, hk⟩
        refine hdd.grownRow (froze_grown w (ι m).block l.length) ?_
        intro b hb2
        injection hb2 with hb2
        subst hb2
        refine ⟨hs.base m _ hj rfl, fun o => hs.apart m _ hj rfl o, fun k o hk1 hk2 he => ?_⟩
        have hk3 : k ≠ m := fun e => by
          subst e
          rw [List.getElem?_set_self (by rw [List.length_set]; exact getElem?_lt hj)] at hk1
          injection hk1 with hk1
          subst hk1
          cases hk2
        have hk4 : k ≠ i := fun e => by
          subst e
          rw [List.getElem?_set_ne (by omega), List.getElem?_set_self (getElem?_lt hi)] at hk1
          injection hk1 with hk1
          subst hk1
          cases hk2
        rw [List.getElem?_set_ne (Ne.symm hk3), List.getElem?_set_ne (Ne.symm hk4)] at hk1
        exact hs.sep m k _ o (Ne.symm hk3) hj rfl hk1 hk2 he.symm
end Go.Proofs.YtflklkijfkmeiaaGreatDoor
/- sample.Text. Condition: the series is right, or not. -/
namespace Go.Proofs.YtflklkijfkmeiaaGreatDoor
open Go Go.RowKit
set_option maxRecDepth 100000
set_option linter.all false
set_option maxHeartbeats 2000000
variable {H : Hp} {K : AV → Hp → Prop}
theorem lineT_len {x : Smp} (ht : -1000000000000000 < x.t ∧ x.t < 1000000000000000) (hv : -1000000000000000 < x.v ∧ x.v < 1000000000000000) : (lineT x).length ≤ 43 := by
  have h1 := itoa_len ht
  have h2 := itoa_len hv
  have h3 := wordF_len x.q
  unfold lineT
  simp only [List.length_append, List.length_cons]
  omega
end Go.Proofs.YtflklkijfkmeiaaGreatDoor
