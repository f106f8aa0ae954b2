/- Memory: loads, stores, new variables, over the plain heap. No condition. -/
import Derived.Test.YtkmkkjlfnobciaaGreatDoorCoreStep
import Derived.Laws.Tables
namespace Go.Proofs.YtkmkkjlfnobciaaGreatDoor
open Go Go.RowKit
set_option linter.all false

section
variable {P : Program} {B : Nat} {w0 w w' : World} {ι ι' : En} {H : Hp} {F : Fr} {a : Act} {N n m : Nat} {Q : Exit → Act → World → Prop} {next : Act → World → Prop} {o : Oper}

theorem relL_build : ∀ (cs : List AC) (f : Nat → Option Value), (∀ (j : Nat) (x : AC), cs[j]? = some x → ∃ u, f j = some u ∧ x.rel ι u) → ∃ vs, relL ι cs vs ∧ ∀ (j : Nat) (v : Value), vs[j]? = some v → f j = some v
  | [], _, _ => ⟨[], trivial, fun j v h => by simp at h⟩
  | x :: cs, f, h => by
    obtain ⟨u, h1, h2⟩ := h 0 x rfl
    obtain ⟨vs, h3, h4⟩ := relL_build cs (fun j => f (j + 1)) (fun j y hj => h (j + 1) y (by simpa using hj))
    refine ⟨u :: vs, ⟨h2, h3⟩, fun j v hj => ?_⟩
    cases j with
    | zero => simp at hj; subst hj; exact h1
    | succ j => simp at hj; exact h4 j v hj
theorem row_cell {L : Loc} {ty sz : Nat} {els : List (List AC)} {own : Bool} (h : (AObj.row ty sz els own).holds ι w L) {k j : Nat} {e : List AC} {x : AC} (hk : els[k]? = some e) (hj : e[j]? = some x) :
    ∃ u, w.cell? (L.at k j) = some u ∧ x.rel ι u := by
  obtain ⟨h1, _, cur, fr, h3, h4, _⟩ := h
  obtain ⟨u, h5, h6⟩ := h4 k e hk j x hj
  refine ⟨u, ?_, h6⟩
  simp only [World.cell?, Loc.at, h3, h1]
  simpa using h5
theorem at_add (L : Loc) (k j q : Nat) : (L.at k j).add q = L.at k (j + q) := by
  unfold Addr.add Loc.at
  split
  · subst_vars; rfl
  · simp [Nat.add_assoc]
theorem add_none (b o k : Nat) : (⟨b, o, none⟩ : Addr).add k = ⟨b, o + k, none⟩ := by
  unfold Addr.add
  split
  · subst_vars; rfl
  · rfl
/-- a load of one cell, of a struct -/
theorem run_loadVar_c {ad : Addr} {u : Value} {t : TypeId} (h1 : w.cell? ad = some u) (ht : aggT P t = false) (hu : (P.underlying t).isSome = true) : (loadVar t ad).run P w = .ok u w := by
  obtain ⟨d, hd⟩ := Option.isSome_iff_exists.1 hu
  unfold aggT at ht
  rw [hd] at ht
  have : (isAgg t).run P w = .ok false w := by
    unfold isAgg
    rw [Sem.run_bind, run_underlying hd]
    cases d <;> simp_all
  unfold loadVar
  rw [Sem.run_bind, this]
  simp [h1]
theorem froz_cell {b o : Nat} {u : Value} (hs : Sim B w0 ι H w) (h : ι.fz b o = some u) : w.cell? ⟨b, o, none⟩ = some u := by
  obtain ⟨cur, ty, fr, h1, h2⟩ := hs.froz b o u h
  simp only [World.cell?, h1]
  simpa using h2
theorem fp_cell {cs : List AC} {b o : Nat} (hs : Sim B w0 ι H w) (h : relCells ι.fz cs b o) {j : Nat} {x : AC} (hj : cs[j]? = some x) : ∃ u, w.cell? ⟨b, o + j, none⟩ = some u ∧ x.rel ι u := by
  obtain ⟨u, h1, h2⟩ := relCells_get h j x hj
  exact ⟨u, froz_cell hs h1, AC.rel_of_relZ h2⟩
/-- a load of one cell -/
theorem run_load_c {i k j : Nat} {ty sz : Nat} {els : List (List AC)} {own : Bool} {e : List AC} {x : AC} {t : TypeId} (hs : Sim B w0 ι H w) (hi : H[i]? = some (.row ty sz els own)) (hk : els[k]? = some e) (hj : e[j]? = some x) (ht : aggT P t = false) (hu : (P.underlying t).isSome = true) :
    ∃ u, (loadVar t ((ι i).at k j)).run P w = .ok u w ∧ x.rel ι u := by
  obtain ⟨u, h1, h2⟩ := row_cell (hs.obj i _ hi) hk hj
  refine ⟨u, ?_, h2⟩
  obtain ⟨d, hd⟩ := Option.isSome_iff_exists.1 hu
  unfold aggT at ht
  rw [hd] at ht
  have : (isAgg t).run P w = .ok false w := by
    unfold isAgg
    rw [Sem.run_bind, run_underlying hd]
    cases d <;> simp_all
  unfold loadVar
  rw [Sem.run_bind, this]
  simp [h1]
theorem run_isAgg {t : TypeId} (ht : aggT P t = true) (w : World) : (isAgg t).run P w = .ok true w := by
  unfold aggT at ht
  split at ht
  · rename_i h; unfold isAgg; rw [Sem.run_bind, run_underlying h]; rfl
  · rename_i h; unfold isAgg; rw [Sem.run_bind, run_underlying h]; rfl
  · cases ht
theorem run_sizeOf {t : TypeId} (h : (P.info? t).isSome = true) (w : World) : (sizeOf t).run P w = .ok (szT P t) w := by
  obtain ⟨i, hi⟩ := Option.isSome_iff_exists.1 h
  simp [sizeOf, typeInfo, hi, szT]
/-- a load of a struct -/
theorem run_load_agg {i k j : Nat} {ty sz : Nat} {els : List (List AC)} {own : Bool} {e : List AC} {t : TypeId} (hs : Sim B w0 ι H w) (hi : H[i]? = some (.row ty sz els own)) (hk : els[k]? = some e) (hj : j + szT P t ≤ e.length) (ht : aggT P t = true) (hinfo : (P.info? t).isSome = true) :
    ∃ vs : List Value, (loadVar t ((ι i).at k j)).run P w = .ok (.agg vs.toArray) w ∧ relL ι ((e.drop j).take (szT P t)) vs := by
  have hc : ∀ (q : Nat) (x : AC), ((e.drop j).take (szT P t))[q]? = some x → ∃ u, w.cell? (((ι i).at k j).add q) = some u ∧ x.rel ι u := by
    intro q x hx
    rw [List.getElem?_take] at hx
    split at hx
    · rw [List.getElem?_drop] at hx
      rw [at_add]
      exact row_cell (hs.obj i _ hi) hk hx
    · cases hx
  obtain ⟨vs, h1, h2⟩ := relL_build _ _ hc
  refine ⟨vs, ?_, h1⟩
  have hlen : vs.length = szT P t := by
    rw [← relL_len h1, List.length_take, List.length_drop]; omega
  have := run_loadCells_list (P := P) w ((ι i).at k j) vs h2
  rw [hlen] at this
  unfold loadVar
  rw [Sem.run_bind, run_isAgg ht, Result.andThen_ok, if_pos rfl, Sem.run_bind, run_sizeOf hinfo, Result.andThen_ok, Sem.run_bind, this]
  rfl

theorem run_load_fagg {cs : List AC} {b o : Nat} {t : TypeId} (hs : Sim B w0 ι H w) (h : relCells ι.fz cs b o) (hj : szT P t ≤ cs.length) (ht : aggT P t = true) (hinfo : (P.info? t).isSome = true) :
    ∃ vs : List Value, (loadVar t ⟨b, o, none⟩).run P w = .ok (.agg vs.toArray) w ∧ relL ι (cs.take (szT P t)) vs := by
  have hc : ∀ (q : Nat) (x : AC), (cs.take (szT P t))[q]? = some x → ∃ u, w.cell? ((⟨b, o, none⟩ : Addr).add q) = some u ∧ x.rel ι u := by
    intro q x hx
    rw [List.getElem?_take] at hx
    split at hx
    · rw [add_none]; exact fp_cell hs h hx
    · cases hx
  obtain ⟨vs, h1, h2⟩ := relL_build _ _ hc
  refine ⟨vs, ?_, h1⟩
  have hlen : vs.length = szT P t := by
    rw [← relL_len h1, List.length_take]; omega
  have := run_loadCells_list (P := P) w ⟨b, o, none⟩ vs h2
  rw [hlen] at this
  unfold loadVar
  rw [Sem.run_bind, run_isAgg ht, Result.andThen_ok, if_pos rfl, Sem.run_bind, run_sizeOf hinfo, Result.andThen_ok, Sem.run_bind, this]
  rfl

/-! ### A store -/
def setC (e : List AC) (j : Nat) (cs : List AC) : List AC := e.take j ++ cs ++ e.drop (j + cs.length)
theorem splice_get {α : Type} (l : List α) (o : Nat) (m : List α) (p : Nat) (ho : o + m.length ≤ l.length) :
    (l.take o ++ m ++ l.drop (o + m.length))[p]? = if p < o then l[p]? else if p < o + m.length then m[p - o]? else l[p]? := by
  have h1 : (l.take o).length = o := by rw [List.length_take]; omega
  by_cases hp : p < o
  · rw [if_pos hp, List.append_assoc, List.getElem?_append_left (by omega), List.getElem?_take, if_pos hp]
  · rw [if_neg hp, List.append_assoc, List.getElem?_append_right (by omega), h1]
    by_cases hp2 : p < o + m.length
    · rw [if_pos hp2, List.getElem?_append_left (by omega)]
    · rw [if_neg hp2, List.getElem?_append_right (by omega), List.getElem?_drop]
      congr 1; omega
theorem mul_apart {k k' sz j j' : Nat} (h : k < k') (hj : j < sz) : k * sz + j < k' * sz + j' := by
  have h1 : (k + 1) * sz ≤ k' * sz := Nat.mul_le_mul_right _ h
  rw [Nat.add_mul] at h1; omega
theorem run_store_row {i k j : Nat} {ty sz : Nat} {els : List (List AC)} {e cs : List AC} {vs : List Value} (hs : Sim B w0 ι H w) (hi : H[i]? = some (.row ty sz els true)) (hk : els[k]? = some e) (hj : j + cs.length ≤ sz) (hr : relL ι cs vs) (ho : ∀ x ∈ cs, x.ok H.length) :
    ∃ w', (storeCells ((ι i).at k j) vs 0).run P w = .ok () w' ∧ Sim B w0 ι (H.set i (.row ty sz (els.set k (setC e j cs)) true)) w' := by
  have hlenE := (hs.scope i _ hi e (List.mem_of_getElem? hk)).1
  obtain ⟨h1, h2, cur, fr, h3, h4, h5⟩ := hs.obj i _ hi
  obtain ⟨rfl, hoff, hcs, hcm⟩ := h5 rfl
  have hkl : k < els.length := getElem?_lt hk
  have hlv := relL_len hr
  have hfit : k * sz + j + vs.length ≤ cur.size := by
    have : (k + 1) * sz ≤ (ι i).cap * sz := Nat.mul_le_mul_right _ (by omega)
    rw [Nat.add_mul] at this; omega
  have hone : ∀ v ∈ vs, v.oneCell' = true := by
    intro v hv
    obtain ⟨q, hq⟩ := List.getElem?_of_mem hv
    have hq' : q < cs.length := by rw [hlv]; exact getElem?_lt hq
    obtain ⟨u, h6, h7⟩ := relL_get hr q cs[q] (by simp [hq'])
    rw [hq] at h6; injection h6 with h6; subst h6
    exact AC.rel_one h7
  have hat : (ι i).at k j = ⟨(ι i).block, k * sz + j, none⟩ := by simp [Loc.at, hoff, h1]
  have hrun := run_storeCells_at P (ι i).block (k * sz + j) ty vs 0 cur w h3 (by simpa using hfit) hone
  simp only [Nat.add_zero] at hrun
  rw [hat]
  refine ⟨_, hrun, hs.set hi rfl (fun q hq => setRow_other w _ q _ hq) (setRow_size _ _ _) rfl rfl rfl ?_ ?_⟩
  · intro x hx
    rcases List.mem_or_eq_of_mem_set hx with hx | rfl
    · exact hs.scope i _ hi x hx
    · refine ⟨by simp [setC]; omega, fun y hy => ?_⟩
      simp only [setC, List.mem_append] at hy
      rcases hy with (hy | hy) | hy
      · exact (hs.scope i _ hi e (List.mem_of_getElem? hk)).2 y (List.mem_of_mem_take hy)
      · exact ho y hy
      · exact (hs.scope i _ hi e (List.mem_of_getElem? hk)).2 y (List.mem_of_mem_drop hy)
  · refine ⟨h1, by simpa using h2, _, (0, 0), setRow_heap w _ cur _ ty _ h3, fun k' e' hk' j' x hj' => ?_, fun _ => ⟨rfl, hoff, by simp; omega, hcm⟩⟩
    rw [hoff, Nat.zero_add]
    have hget := splice_get cur.toList (k * sz + j) vs (k' * sz + j') (by simpa using hfit)
    have hold : ∀ {e'' : List AC}, els[k']? = some e'' → e''[j']? = some x → ∃ u, cur[k' * sz + j']? = some u ∧ x.rel ι u := by
      intro e'' ha hb
      have := h4 k' e'' ha j' x hb
      rwa [hoff, Nat.zero_add] at this
    have hcur : ∀ p : Nat, cur.toList[p]? = cur[p]? := fun p => Array.getElem?_toList
    rw [show (cur.toList.take (k * sz + j) ++ vs ++ cur.toList.drop (k * sz + j + vs.length)).toArray[k' * sz + j']? = (cur.toList.take (k * sz + j) ++ vs ++ cur.toList.drop (k * sz + j + vs.length))[k' * sz + j']? by simp, hget, hcur]
    by_cases hkk : k = k'
    · subst hkk
      rw [List.getElem?_set_self hkl] at hk'
      injection hk' with hk'
      subst hk'
      have hsp := splice_get e j cs j' (by omega)
      rw [setC] at hj'
      rw [hsp] at hj'
      by_cases c1 : j' < j
      · rw [if_pos c1] at hj'
        rw [if_pos (by omega)]
        exact hold hk hj'
      · rw [if_neg c1] at hj'
        rw [if_neg (by omega)]
        by_cases c2 : j' < j + cs.length
        · rw [if_pos c2] at hj'
          rw [if_pos (by omega), show k * sz + j' - (k * sz + j) = j' - j by omega]
          exact relL_get hr _ _ hj'
        · rw [if_neg c2] at hj'
          rw [if_neg (by omega)]
          exact hold hk hj'
    · rw [List.getElem?_set_ne hkk] at hk'
      have hj'l : j' < sz := by
        have := (hs.scope i _ hi e' (List.mem_of_getElem? hk')).1
        have := getElem?_lt hj'
        omega
      have hq := hold hk' hj'
      rcases Nat.lt_or_gt_of_ne hkk with hlt | hlt
      · have := mul_apart (j := j + cs.length - 1) (j' := j') (sz := sz) hlt
        by_cases hz : sz = 0
        · omega
        · have h8 := this (by omega)
          rw [if_neg (by omega)]
          by_cases hc0 : cs.length = 0
          · rw [if_neg (by omega)]; exact hq
          · rw [if_neg (by omega)]; exact hq
      · have := mul_apart (j := j') (j' := j) hlt hj'l
        rw [if_pos (by omega)]
        exact hq
end
end Go.Proofs.YtkmkkjlfnobciaaGreatDoor
