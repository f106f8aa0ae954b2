/- strings.NewReplacer and Replace, in the heap's words. Condition: two pairs of one byte each. -/
import Derived.Test.YtagoolooikpabaaGreatDoorHVOnc
import Derived.Test.YtagoolooikpabaaGreatDoorHVSortS
set_option linter.all false
namespace Go.Proofs.YtagoolooikpabaaGreatDoor
open Go Go.RowKit Go.Shelf
set_option maxRecDepth 100000
set_option maxHeartbeats 4000000
variable {H : Hp} {K : AV → Hp → Prop}
def rpO (j : Nat) : AObj := .row 159 5 [[.int .u32 0, .int .i32 0, .int .u32 0, .nili, .sl (some (j, 0)) 4]] true
theorem newRp_a (l : List ByteArray) (hl : l.length = 4) (hk : K (.c (.ptr (some (H.length + 1, 0, 0)))) (H ++ [.row 9 1 (l.map encSs) true, rpO H.length])) : ACalls Tryz.prog 39 [.c (.lst 1 (l.map encSs))] H K := by
 obtain ⟨a, b, c, d, rfl⟩ : ∃ a b c d, l = [a, b, c, d] := by
  match l, hl with
  | [a, b, c, d], _ => exact ⟨a, b, c, d, rfl⟩
 refine acalls Tryz.func39 rfl (by kernel_rfl) (by simp (disch := first | omega | (simp only [go_sem]; try omega)) only [go_sem]) (fun hH => ?_)
 simp (disch := first | omega | (simp only [go_sem]; try omega)) only [go_sem]
 refine app_lst ?_
 simp (disch := first | omega | (simp only [go_sem]; try omega)) only [go_sem]
 exact Ret.same (by simp) hk
theorem newRp_lit (l : List ByteArray) (hl : l.length = 4) {i ty n : Nat} {els : List (List AC)} {own : Bool} (hi : H[i]? = some (.row ty 1 els own)) (he : els = l.map encSs) (hn : n = 4) (hk : K (.c (.ptr (some (H.length + 1, 0, 0)))) (H.set i .dead ++ [.row 9 1 (l.map encSs) true, rpO H.length])) : ACalls Tryz.prog 39 [.c (.sl (some (i, 0)) n)] H K := by
 subst he hn
 refine ACalls.lit hi (by simp [pureL, encSs, AC.pure]) (args' := [.c (.lst 1 (l.map encSs))]) ?_ (newRp_a l hl ?_)
 ·have ht : (l.map encSs).take 4 = l.map encSs := List.take_of_length_le (by simp [hl])
  simp [AV.frz1, AC.frz, hl, ht]
 ·simpa using hk
theorem rowCellAt {B : Nat → Prop} {w0 w : World} {ι : En} (hs : Sim B w0 ι H w) {i ty sz : Nat} {e : List AC} (hi : H[i]? = some (.row ty sz [e] true)) {j : Nat} {x : AC} (hx : e[j]? = some x) : ∃ u, w.cell? ⟨(ι i).block, j, none⟩ = some u ∧ x.rel ι u := by
 have h := hs.obj i _ hi
 obtain ⟨u, h1, h2⟩ := row_cell h (k := 0) (j := j) rfl hx
 obtain ⟨_, _, cur, fr, _, _, g5⟩ := h
 obtain ⟨_, g7, _, _⟩ := g5 rfl
 have eat : (ι i).at 0 j = ⟨(ι i).block, j, none⟩ := by simp [Loc.at, g7]
 rw [eat] at h1
 exact ⟨u, h1, h2⟩
theorem replRp_a {i j : Nat} (l : List ByteArray) (hl : l.length = 4) (hz : ∀ x ∈ l, x.size = 1) (hi : H[i]? = some (rpO j)) (hj : H[j]? = some (.row 9 1 (l.map encSs) true)) (s : ByteArray) (hsz : s.size ≤ 1000000) (hk : ∀ t : ByteArray, t.size = s.size → K (.c (.str t)) (H.set i .dead)) :
  ACalls Tryz.prog 40 [.c (.ptr (some (i, 0, 0))), (.c (.str s))] H K := by
 intro B w0 ι w vs hs hr ho
 obtain ⟨vl⟩ := vs
 match vl, hr with
 | [v, u], hr =>
 have hv : v = ptrOf ι (i, 0, 0) := hr.1
 have hu : u = .string s := hr.2.1
 subst hv hu
 have hoi := hs.obj i _ hi
 obtain ⟨_, _, cur, fr, g3, _, g5⟩ := hoi
 obtain ⟨g6, g7, _, _⟩ := g5 rfl
 subst g6
 have e0 : ptrOf ι (i, 0, 0) = .pointer (some ⟨(ι i).block, 0, none⟩) := by unfold ptrOf; simp [Loc.at, g7]
 rw [e0]
 obtain ⟨u0, c0, r0⟩ := rowCellAt hs hi (j := 0) rfl
 obtain ⟨u1, c1, r1⟩ := rowCellAt hs hi (j := 1) rfl
 obtain ⟨u3, c3, r3⟩ := rowCellAt hs hi (j := 3) rfl
 obtain ⟨u4, c4, r4⟩ := rowCellAt hs hi (j := 4) rfl
 have r0 : u0 = .int .u32 0 := r0
 have r1 : u1 = .int .i32 0 := r1
 obtain ⟨a, r4, _, r5⟩ := r4
 have hoj := hs.obj j _ hj
 obtain ⟨_, k2, cur2, fr2, k3, k4, k5⟩ := hoj
 obtain ⟨_, k7, _, _⟩ := k5 rfl
 rw [List.length_map, hl] at k2
 have ha := r5 (.inr rfl)
 have ha : a = ⟨(ι j).block, 0, none⟩ := by rw [ha]; simp [Loc.at, k7]
 subst r0 r1 r4 ha
 have hne : (ι j).block ≠ (ι i).block := hs.sep j i _ _ (fun e => by subst e; rw [hi] at hj; cases hj) hj rfl hi rfl
 have hcell : ∀ k, k < 4 → w.cell? ⟨(ι j).block, k, none⟩ = some (.string (l.getD k ⟨#[]⟩)) := fun k hk => by
  have hkl : k < l.length := by omega
  obtain ⟨u, h1, h2⟩ := row_cell (hs.obj j _ hj) (k := k) (j := 0) (e := [.str (l[k]'hkl)]) (x := .str (l[k]'hkl)) (by simp [hkl, encSs]) rfl
  have h2 : u = .string (l[k]'hkl) := h2
  have eat : (ι j).at k 0 = ⟨(ι j).block, k, none⟩ := by
   have hsz : (ι j).sz = 1 := (hs.obj j _ hj).1
   simp [Loc.at, k7, hsz]
  rw [eat] at h1
  rw [h1, h2]
  simp [List.getD, hkl]
 have hfr : ∀ k, w.frozen? ⟨(ι i).block, k, none⟩ = false := fun k => by simp [World.frozen?, g3]
 refine Calls.mono (repRp (ι i).block (ι j).block _ (fun k => l.getD k ⟨#[]⟩) s w u3 (fun k hk => ?_) hsz c0 c1 c3 c4 hfr hne hcell) ?_
 ·have hkl : k < l.length := by omega
  have := hz l[k] (List.getElem_mem hkl)
  simpa [List.getD, hkl] using this
 ·rintro e w' ⟨⟨t, ht, rfl⟩, hg⟩
  have hd : Sim B w0 ι (H.set i .dead) w' := (hs.dead hi rfl).grownRow hg (by
   intro b hb
   injection hb with hb
   subst hb
   refine ⟨hs.base i _ hi rfl, hs.apart i _ hi rfl, fun q o hq hlv => ?_⟩
   by_cases e : q = i
   ·subst e
    rw [List.getElem?_set_self (getElem?_lt hi)] at hq
    injection hq with hq
    subst hq
    cases hlv
   ·rw [List.getElem?_set_ne (fun e' => e e'.symm)] at hq
    exact (hs.sep i q _ _ (fun e' => e e'.symm) hi rfl hq hlv).symm)
  exact ⟨ι, _, (.c (.str t)), _, rfl, Agree.refl _ _, by simp, hd, rfl, trivial, hk t ht⟩
end Go.Proofs.YtagoolooikpabaaGreatDoor
