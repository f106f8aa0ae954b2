/- Overridden fixes can be left out; parts of right fixes come together to all of them. No program in sight. -/
import Derived.Test.YtgcjenfdndhhpaaGreatDoorHVFixJ
import Derived.Test.YtgcjenfdndhhpaaGreatDoorHVFixI
import Derived.Test.YtgcjenfdndhhpaaGreatDoorHVFixP
namespace Go.Proofs.YtgcjenfdndhhpaaGreatDoor
open Go Go.RowKit
set_option maxRecDepth 100000
set_option linter.all false
theorem trF_up {a : Int} {l : List Fix} (hs : l.Pairwise (fun x y => x.made ≤ y.made)) : trF a l.length l = fxUp l a := by
  rw [trF_filter hs l.length (Nat.le_refl _) (fun k hk hle => by omega)]
  have e : l = fxUp l a ++ l.dropWhile (fun f => decide (f.made ≤ a)) := (List.takeWhile_append_dropWhile).symm
  conv => lhs; rw [e, List.filter_append]
  have e1 : (fxUp l a).filter (fun x => !decide (a < x.made)) = fxUp l a := by
    rw [List.filter_eq_self]
    intro x hx
    have := fxUp_made x hx
    simpa using this
  have e2 : (l.dropWhile (fun f => decide (f.made ≤ a))).filter (fun x => !decide (a < x.made)) = [] := by
    rw [List.filter_eq_nil_iff]
    intro x hx
    have := rest_late l hs x hx
    simpa using this
  rw [e1, e2, List.append_nil]
/-- those whose index is not told -/
def lfF (o : List Int) : Nat → List Fix → List Fix
  | _, [] => []
  | k, x :: r => (if (k : Int) ∈ o then [] else [x]) ++ lfF o (k + 1) r
theorem lfF_app (o : List Int) : ∀ (a : List Fix) (k : Nat) (b : List Fix), lfF o k (a ++ b) = lfF o k a ++ lfF o (k + a.length) b
  | [], k, b => by simp [lfF]
  | x :: r, k, b => by
    rw [List.cons_append, lfF, lfF, lfF_app o r (k + 1) b, List.append_assoc, List.length_cons]
    congr 3
    omega
theorem lfF_next (o : List Int) {l : List Fix} {k : Nat} (h : k < l.length) : lfF o 0 (l.take (k + 1)) = lfF o 0 (l.take k) ++ (if (k : Int) ∈ o then [] else [l[k]]) := by
  rw [List.take_succ_eq_append_getElem h, lfF_app, List.length_take]
  congr 1
  have e : 0 + min k l.length = k := by omega
  rw [e, lfF, lfF, List.append_nil]
theorem lfF_len (o : List Int) : ∀ (l : List Fix) (k : Nat), (lfF o k l).length ≤ l.length
  | [], k => by simp [lfF]
  | x :: r, k => by
    have := lfF_len o r (k + 1)
    rw [lfF, List.length_append, List.length_cons]
    split <;> simp <;> omega
theorem lfF_sub (o : List Int) : ∀ (l : List Fix) (k : Nat), (lfF o k l).Sublist l
  | [], k => by simp [lfF]
  | x :: r, k => by
    have := lfF_sub o r (k + 1)
    rw [lfF]
    split
    · exact this.cons _
    · exact this.cons_cons _
theorem lfF_none (o : List Int) : ∀ (l : List Fix) (k : Nat), (∀ i ∈ o, i < k) → lfF o k l = l
  | [], k, _ => rfl
  | x :: r, k, h => by
    rw [lfF, if_neg (fun hk => by have := h _ hk; omega), lfF_none o r (k + 1) (fun i hi => by have := h i hi; omega)]
    rfl
theorem lfF_kp (o : List Int) : ∀ (l : List Fix) (k : Nat), (∀ (i : Nat) (h : i < l.length), ((k + i : Nat) : Int) ∈ o ↔ gnB l[i] (l.drop (i + 1)) = true) → lfF o k l = kpF l
  | [], k, _ => rfl
  | x :: r, k, h => by
    have h0 := h 0 (by simp)
    simp only [Nat.add_zero, List.getElem_cons_zero, Nat.zero_add, List.drop_succ_cons, List.drop_zero] at h0
    have ih := lfF_kp o r (k + 1) (fun i hi => by
      have := h (i + 1) (by simpa using hi)
      simp only [List.getElem_cons_succ, List.drop_succ_cons] at this
      rw [← this]
      have e : k + 1 + i = k + (i + 1) := by omega
      rw [e])
    rw [lfF, kpF, ih]
    by_cases c : gnB x r = true
    · rw [if_pos (h0.2 c), if_pos c]; rfl
    · rw [if_neg (fun hh => c (h0.1 hh)), if_neg c]; rfl
theorem ovF_mem {g : List Fix} {n : Nat} {i : Int} : i ∈ ovF g n ↔ ∃ k : Nat, k < n ∧ i = k ∧ ∃ x, g[k]? = some x ∧ gnB x (g.drop (k + 1)) = true := by
  unfold ovF
  rw [List.mem_map]
  constructor
  · rintro ⟨k, hk, rfl⟩
    rw [List.mem_filter, List.mem_range] at hk
    obtain ⟨h1, h2⟩ := hk
    refine ⟨k, h1, rfl, ?_⟩
    cases hg : g[k]? with
    | none => rw [hg] at h2; cases h2
    | some x => rw [hg] at h2; exact ⟨x, rfl, h2⟩
  · rintro ⟨k, h1, rfl, x, h2, h3⟩
    refine ⟨k, ?_, rfl⟩
    rw [List.mem_filter, List.mem_range]
    refine ⟨h1, ?_⟩
    rw [h2]
    exact h3
theorem left_kp {g rest : List Fix} : lfF (ovF g g.length) 0 (g ++ rest) = kpF g ++ rest := by
  rw [lfF_app, lfF_kp _ g 0 (fun i hi => ?_), lfF_none _ rest _ (fun i hi => ?_)]
  · obtain ⟨k, hk, rfl, _⟩ := ovF_mem.1 hi
    omega
  · rw [ovF_mem]
    constructor
    · rintro ⟨k, h1, h2, x, h3, h4⟩
      have e : k = i := by omega
      subst e
      rw [List.getElem?_eq_getElem hi] at h3
      injection h3 with h3
      subst h3
      exact h4
    · intro h
      exact ⟨i, hi, by omega, g[i], List.getElem?_eq_getElem hi, h⟩
theorem kpF_sub : ∀ l : List Fix, (kpF l).Sublist l
  | [] => List.Sublist.refl _
  | x :: r => by
    rw [kpF]
    split
    · exact (kpF_sub r).cons _
    · exact (kpF_sub r).cons_cons _
theorem fxUp_kp {f : List Fix} {a : Int} : fxUp (kpF (fxUp f a) ++ f.dropWhile (fun f => decide (f.made ≤ a))) a = kpF (fxUp f a) := by
  have e : ∀ l, fxUp l a = l.takeWhile (fun f => decide (f.made ≤ a)) := fun _ => rfl
  have h1 : ∀ x ∈ kpF (fxUp f a), decide (x.made ≤ a) = true := fun x hx => by
    have := fxUp_made x ((kpF_sub _).subset hx)
    simpa using this
  generalize kpF (fxUp f a) = k at *
  rw [e, List.takeWhile_append_of_pos h1]
  have h2 : (f.dropWhile (fun f => decide (f.made ≤ a))).takeWhile (fun f => decide (f.made ≤ a)) = [] := by
    cases hd : f.dropWhile (fun f => decide (f.made ≤ a)) with
    | nil => rfl
    | cons y r =>
      have hy : ¬ decide (y.made ≤ a) = true := by
        have := List.head_dropWhile_not (fun f : Fix => decide (f.made ≤ a)) (l := f) (by rw [hd]; simp)
        simp only [hd, List.head_cons] at this
        rw [this]; simp
      rw [List.takeWhile_cons, if_neg hy]
  rw [h2, List.append_nil]
theorem left_up {f : List Fix} {a : Int} (hs : f.Pairwise (fun x y => x.made ≤ y.made)) : fxUp (lfF (ovF (trF a f.length f) (trF a f.length f).length) 0 f) a = kpF (fxUp f a) := by
  rw [trF_up hs]
  have e : f = fxUp f a ++ f.dropWhile (fun f => decide (f.made ≤ a)) := (List.takeWhile_append_dropWhile).symm
  have e2 : lfF (ovF (fxUp f a) (fxUp f a).length) 0 f = kpF (fxUp f a) ++ f.dropWhile (fun f => decide (f.made ≤ a)) := by
    have := left_kp (g := fxUp f a) (rest := f.dropWhile (fun f => decide (f.made ≤ a)))
    rwa [← e] at this
  rw [e2, fxUp_kp]
/-- fixes that are overridden can be left out -/
theorem left_same {l : List Smp} {f : List Fix} {a : Int} (hn : (l.map (·.t)).Nodup) (hv : ∀ x ∈ l, x.q = 2 → x.v = 0) (hs : f.Pairwise (fun x y => x.made ≤ y.made)) (hk : ∀ y ∈ f, (y.kind = 1 ∨ y.kind = 2 ∨ y.kind = 3) ∧ fxV y) : serM (fxM l (fxUp (lfF (ovF (trF a f.length f) (trF a f.length f).length) 0 f) a)) = serM (fxM l (fxUp f a)) := by
  rw [left_up hs]
  refine serM_ext (fxM_nd hn) (fxM_nd hn) (fun t => ?_)
  have h0 : ((l.foldl (fun m x => putS x m) []).map (·.t)).Nodup := by rw [puts_id l [] (by simpa using hn), List.nil_append]; exact hn
  unfold fxM
  rw [fnd_aps _ _ h0, fnd_aps _ _ h0]
  refine kp_same _ _ (fun y hy => hk y ((fxUp_sub f a).subset hy)) (fun x hx => ?_)
  rw [puts_id l [] (by simpa using hn), List.nil_append] at hx
  obtain ⟨h1, h2⟩ := fnd_some hx
  exact ⟨h2, hv x h1⟩
/-- right fixes, in plain words -/
theorem fxC_lt {a b : Fix} : fxC a b ≤ 0 ↔ ¬ fxLt b a = true := by
  have := fxC_flip a b
  unfold fxLt
  rw [decide_eq_true_eq]
  omega
theorem fxGo_iff : ∀ (l : List Fix) (p : Option Fix), fxGo p l = 0 ↔ (∀ x ∈ l, fxErr x = 0) ∧ (∀ b, p = some b → ∀ x ∈ l, fxLt b x = true) ∧ l.Pairwise (fun x y => fxLt x y = true)
  | [], p => by simp [fxGo]
  | a :: t, p => by
    have ih := fxGo_iff t (some a)
    rw [fxGo]
    constructor
    · intro h
      split at h
      · rename_i h1; exact absurd h h1
      · rename_i h1
        have h1 : fxS p a = 0 := Classical.not_not.1 h1
        obtain ⟨i1, i2, i3⟩ := ih.1 h
        unfold fxS at h1
        split at h1
        · rename_i h2; exact absurd h1 h2
        · rename_i h2
          have h2 : fxErr a = 0 := Classical.not_not.1 h2
          refine ⟨fun x hx => ?_, fun b hb x hx => ?_, List.pairwise_cons.2 ⟨i2 a rfl, i3⟩⟩
          · rcases List.mem_cons.1 hx with rfl | hx
            · exact h2
            · exact i1 x hx
          · subst hb
            dsimp only at h1
            have hba : fxLt b a = true := by
              split at h1
              · cases h1
              · rename_i h3
                rw [fxC_lt] at h3
                exact Classical.not_not.1 h3
            rcases List.mem_cons.1 hx with rfl | hx
            · exact hba
            · exact fxLt_trans _ _ _ hba (i2 a rfl x hx)
    · rintro ⟨h1, h2, h3⟩
      rw [List.pairwise_cons] at h3
      have e : fxS p a = 0 := by
        unfold fxS
        rw [if_neg (by simp [h1 a (by simp)])]
        cases p with
        | none => rfl
        | some b =>
          dsimp only
          rw [if_neg]
          rw [fxC_lt]
          simp [h2 b rfl a (by simp)]
      rw [if_neg (by simp [e])]
      exact ih.2 ⟨fun x hx => h1 x (by simp [hx]), fun b hb x hx => by injection hb with hb; subst hb; exact h3.1 x hx, h3.2⟩
theorem fxF_iff {l : List Fix} : fxF l = 0 ↔ l.length ≤ 2000 ∧ (∀ x ∈ l, fxErr x = 0) ∧ l.Pairwise (fun x y => fxLt x y = true) ∧ l.Pairwise (fun x y => sameX x y = false) := by
  constructor
  · intro h
    obtain ⟨h1, h2, h3⟩ := fxF_go h
    obtain ⟨h4, _, h5⟩ := (fxGo_iff l none).1 h2
    exact ⟨h1, h4, h5, (twF_iff l).1 h3⟩
  · rintro ⟨h1, h2, h3, h4⟩
    have h5 := (fxGo_iff l none).2 ⟨h2, by simp, h3⟩
    have h6 := (twF_iff l).2 h4
    unfold fxF
    rw [if_neg (by omega), if_neg (by simp [h5]), h6]
    rfl
theorem fxF_sub {l m : List Fix} (h : fxF m = 0) (hs : l.Sublist m) : fxF l = 0 := by
  obtain ⟨h1, h2, h3, h4⟩ := fxF_iff.1 h
  exact fxF_iff.2 ⟨Nat.le_trans hs.length_le h1, fun x hx => h2 x (hs.subset hx), h3.sublist hs, h4.sublist hs⟩
/-- two parts of right fixes come together to all of them -/
theorem merge_parts {p q f : List Fix} (h : fxF f = 0) (hp : p.Sublist f) (hq : q.Sublist f) (hall : ∀ x ∈ f, x ∈ p ∨ x ∈ q) : mgX p q = f := by
  obtain ⟨h1, h2, h3, h4⟩ := fxF_iff.1 h
  have hm : ∀ x, x ∈ p ++ q ↔ x ∈ f := fun x => by
    rw [List.mem_append]
    exact ⟨fun h => h.elim (fun h => hp.subset h) (fun h => hq.subset h), hall x⟩
  have hc : ¬ CfX (p ++ q) := fun ⟨x, hx, y, hy, h5⟩ => apart h4 ⟨x, (hm x).1 hx, y, (hm y).1 hy, h5⟩
  have hlt := mgX_lt hc
  have nd : ∀ {l : List Fix}, l.Pairwise (fun x y => fxLt x y = true) → l.Nodup := fun hl => hl.imp (fun {x y} h e => by subst e; rw [fxLt_irrefl] at h; cases h)
  have hpm : (mgX p q).Perm f := (List.perm_ext_iff_of_nodup (nd hlt) (nd h3)).2 (fun x => by rw [mgX_mem, hm])
  refine sorted_perm hpm (hlt.imp fun {x y} h => ?_) h3
  have := fxLt_asymm x y h
  unfold fxLt at this
  simpa using this
end Go.Proofs.YtgcjenfdndhhpaaGreatDoor
