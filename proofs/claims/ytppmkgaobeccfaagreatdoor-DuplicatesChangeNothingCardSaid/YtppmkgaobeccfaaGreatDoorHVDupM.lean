/- Arrivals without those that are there twice: the same is stored, missing and merged. No program in sight. -/
import Derived.Test.YtppmkgaobeccfaaGreatDoorHVArrS
import Derived.Test.YtppmkgaobeccfaaGreatDoorHVStoM
import Derived.Test.YtppmkgaobeccfaaGreatDoorHVGC
namespace Go.Proofs.YtppmkgaobeccfaaGreatDoor
open Go Go.RowKit
set_option maxRecDepth 100000
set_option linter.all false
set_option maxHeartbeats 1000000
def ltA (a b : Arr) : Prop := arLt a b = true
theorem arS_zero {p : Option Arr} {a : Arr} : arS p a = 0 ↔ arrErr a = 0 ∧ ∀ b, p = some b → ltA b a := by
  have hf : ∀ b, ¬ arrC a b ≤ 0 ↔ ltA b a := fun b => by
    have := arrC_flip a b
    unfold ltA arLt
    rw [decide_eq_true_eq]
    omega
  unfold arS
  by_cases he : arrErr a = 0
  · rw [if_neg (by simp [he])]
    cases p with
    | none => simp [he]
    | some b =>
      dsimp only
      by_cases h : arrC a b ≤ 0
      · rw [if_pos h]
        simp only [he, true_and]
        constructor
        · intro h2; omega
        · intro h2; exact absurd h ((hf b).2 (h2 b rfl))
      · rw [if_neg h]
        simp only [he, true_and, true_iff]
        intro c hc
        injection hc with hc
        subst hc
        exact (hf b).1 h
  · rw [if_pos he]
    constructor
    · intro h; exact absurd h he
    · rintro ⟨h, _⟩; exact h
theorem arGo_iff : ∀ (l : List Arr) (p : Option Arr), arGo p l = 0 ↔ (∀ x ∈ l, arrErr x = 0) ∧ l.Pairwise ltA ∧ ∀ b, p = some b → ∀ x ∈ l, ltA b x
  | [], p => by simp [arGo]
  | a :: t, p => by
    have ih := arGo_iff t (some a)
    unfold arGo
    by_cases h : arS p a = 0
    · rw [if_neg (by simp [h]), ih, List.pairwise_cons]
      obtain ⟨h1, h2⟩ := arS_zero.1 h
      constructor
      · rintro ⟨g1, g2, g3⟩
        refine ⟨?_, ⟨fun x hx => g3 a rfl x hx, g2⟩, ?_⟩
        · intro x hx
          rcases List.mem_cons.1 hx with rfl | hx
          · exact h1
          · exact g1 x hx
        · intro b hb x hx
          rcases List.mem_cons.1 hx with rfl | hx
          · exact h2 b hb
          · exact arLt_trans _ _ _ (h2 b hb) (g3 a rfl x hx)
      · rintro ⟨g1, ⟨g2, g3⟩, g4⟩
        refine ⟨fun x hx => g1 x (List.mem_cons_of_mem _ hx), g3, ?_⟩
        intro b hb x hx
        injection hb with hb
        subst hb
        exact g2 x hx
    · rw [if_pos h]
      constructor
      · intro h2; exact absurd h2 h
      · rintro ⟨g1, g2, g3⟩
        exact absurd (arS_zero.2 ⟨g1 a (by simp), fun b hb => g3 b hb a (by simp)⟩) h
theorem arF_iff (l : List Arr) : arF l = 0 ↔ l.length ≤ 2000 ∧ (∀ x ∈ l, arrErr x = 0) ∧ l.Pairwise ltA ∧ (nodesF l).length ≤ 50 ∧ cfF [] l = false := by
  have hg := arGo_iff l none
  unfold arF
  by_cases h1 : 2000 < l.length
  · rw [if_pos h1]
    constructor
    · intro h; omega
    · rintro ⟨h, _⟩; omega
  rw [if_neg h1]
  by_cases h2 : arGo none l = 0
  · rw [if_neg (by simp [h2])]
    obtain ⟨g1, g2, _⟩ := hg.1 h2
    by_cases h3 : 50 < (nodesF l).length
    · rw [if_pos h3]
      constructor
      · intro h; omega
      · rintro ⟨_, _, _, h, _⟩; omega
    · rw [if_neg h3]
      cases h4 : cfF [] l with
      | true => simp
      | false => simp; exact ⟨by omega, g1, g2, by omega⟩
  · rw [if_pos h2]
    constructor
    · intro h; exact absurd h h2
    · rintro ⟨_, g1, g2, _⟩
      exact absurd (hg.2 ⟨g1, g2, fun b hb => by cases hb⟩) h2
theorem nodup_len {l1 l2 : List ByteArray} (h1 : l1.Nodup) (h2 : l2.Nodup) (hs : ∀ x ∈ l1, x ∈ l2) : l1.length ≤ l2.length := by
  have p : (l2.filter (fun x => l1.any (fun m => decide (x = m)))).Perm l1 := (List.perm_ext_iff_of_nodup (List.Pairwise.filter _ h2) h1).2 (fun x => by
    rw [List.mem_filter, List.any_eq_true]
    constructor
    · rintro ⟨_, m, hm, e⟩
      have e := of_decide_eq_true e
      subst e
      exact hm
    · intro h
      exact ⟨hs x h, x, h, by simp⟩)
  rw [← p.length_eq]
  exact List.length_filter_le _ _
theorem arF_sub {l l' : List Arr} (h : arF l = 0) (hs : l'.Sublist l) : arF l' = 0 := by
  obtain ⟨h1, h2, h3, h4, h5⟩ := (arF_iff l).1 h
  refine (arF_iff l').2 ⟨Nat.le_trans hs.length_le h1, fun x hx => h2 x (hs.subset hx), h3.sublist hs, ?_, ?_⟩
  · obtain ⟨a1, a2⟩ := nodesF_prop l
    obtain ⟨b1, b2⟩ := nodesF_prop l'
    refine Nat.le_trans (nodup_len b1 a1 (fun x hx => ?_)) h4
    rw [a2]
    obtain ⟨y, hy, rfl⟩ := List.mem_map.1 ((b2 x).1 hx)
    exact List.mem_map.2 ⟨y, hs.subset hy, rfl⟩
  · cases hc : cfF [] l' with
    | false => rfl
    | true =>
      obtain ⟨x, hx, y, hy, g⟩ := (cfF_Cf l').1 hc
      rw [(cfF_Cf l).2 ⟨x, hs.subset hx, y, hs.subset hy, g⟩] at h5
      cases h5
theorem arr_one {a : List Arr} (hc : cfF [] a = false) {x y : Arr} (hx : x ∈ a) (hy : y ∈ a) (h1 : arLt x y = false) (h2 : arLt y x = false) : x = y := by
  obtain ⟨ht, hk⟩ := arrC_zero h1 h2
  have hpp : x.p = y.p := by
    by_cases h : x.p = y.p
    · exact h
    · have : cfF [] a = true := (cfF_Cf a).2 ⟨x, hx, y, hy, hk, h⟩
      rw [hc] at this; cases this
  have hn := (sameK_iff.1 hk).1
  cases x; cases y; simp_all
theorem mg_is {a p q : List Arr} (h : arF a = 0) (hp : p.Sublist a) (hq : q.Sublist a) (hall : ∀ x ∈ a, x ∈ p ∨ x ∈ q) : mgT p q = (a, 0) := by
  obtain ⟨h1, h2, h3, h4, h5⟩ := (arF_iff a).1 h
  have hin : ∀ x, x ∈ p ++ q ↔ x ∈ a := fun x => by
    rw [List.mem_append]
    exact ⟨fun g => g.elim (fun g => hp.subset g) (fun g => hq.subset g), hall x⟩
  have hm : mgM p q = a := by
    have hs := isortG_sortedS arLt_trans arLt_ntrans arLt_asymm (p ++ q)
    have hmem : ∀ x, x ∈ isortG arLt (p ++ q) ↔ x ∈ a := fun x => by rw [isortG_mem, hin]
    have hs2 : (isortG arLt (p ++ q)).Pairwise (fun x y => arLt y x = false ∧ x ∈ a ∧ y ∈ a) := List.Pairwise.imp_of_mem (fun {x y} hx hy g => ⟨g, (hmem x).1 hx, (hmem y).1 hy⟩) hs
    have hl := cplF_lt (r := fun x y => arLt y x = false ∧ x ∈ a ∧ y ∈ a) (fun x y g1 g2 => arr_one h5 g1.2.1 g1.2.2 g2.1 g1.1) hs2
    have hl2 : (cplF (isortG arLt (p ++ q))).Pairwise ltA := hl.imp (fun {x y} g => by
      unfold ltA
      cases hb : arLt x y with
      | true => rfl
      | false => exact absurd (arr_one h5 g.1.2.1 g.1.2.2 hb g.1.1) g.2)
    have nd : ∀ l : List Arr, l.Pairwise ltA → l.Nodup := fun l g => g.imp (fun {x y} g e => by
      subst e
      unfold ltA at g
      rw [arLt_irrefl] at g
      cases g)
    have hperm : (mgM p q).Perm a := (List.perm_ext_iff_of_nodup (nd _ hl2) (nd _ h3)).2 (fun x => (mgM_mem p q x).trans (hin x))
    refine List.Perm.eq_of_pairwise (le := ltA) ?_ hl2 h3 hperm
    intro x y _ _ g1 g2
    unfold ltA at g1 g2
    rw [arLt_asymm x y g1] at g2
    cases g2
  unfold mgT
  rw [arF_sub h hp, arF_sub h hq, if_neg (by simp [firstE])]
  unfold mgR
  rw [hm, h5, if_neg (by simp), if_neg (by omega)]
/-- the first arrivals of all packets, themselves -/
def lfF (l : List Arr) (k : Nat) : List Arr := (fiN l k).filterMap (fun i => l[i]?)
theorem lfF_next (l : List Arr) {k : Nat} (h : k < l.length) : lfF l (k + 1) = lfF l k ++ (if isD l k = true then [] else [l[k]]) := by
  unfold lfF
  rw [fiN_next, List.filterMap_append]
  congr 1
  cases hd : isD l k with
  | true => simp
  | false => simp [List.getElem?_eq_getElem h]
theorem lfF_sub (l : List Arr) : ∀ k, k ≤ l.length → (lfF l k).Sublist (l.take k)
  | 0, _ => by simp [lfF, fiN]
  | k + 1, h => by
    rw [lfF_next l (by omega), List.take_succ_eq_append_getElem (by omega)]
    have ih := lfF_sub l k (by omega)
    cases isD l k with
    | true => rw [if_pos rfl, List.append_nil]; exact ih.trans (List.sublist_append_left _ _)
    | false => exact ih.append (List.Sublist.refl _)
theorem isD_at (l : List Arr) {k : Nat} (h : k < l.length) : isD l k = (l.take k).any (fun b => sameK l[k] b) := by unfold isD; rw [List.getElem?_eq_getElem h]
theorem lfF_apart (l : List Arr) : ∀ k, k ≤ l.length → (lfF l k).Pairwise (fun x y => sameK y x = false)
  | 0, _ => by simp [lfF, fiN]
  | k + 1, h => by
    rw [lfF_next l (by omega)]
    have ih := lfF_apart l k (by omega)
    cases hd : isD l k with
    | true => rw [if_pos rfl, List.append_nil]; exact ih
    | false =>
      rw [if_neg (by simp)]
      refine List.pairwise_append.2 ⟨ih, List.pairwise_singleton _ _, ?_⟩
      intro x hx y hy
      simp at hy
      subst hy
      rw [isD_at l (by omega), List.any_eq_false] at hd
      have := hd x ((lfF_sub l k (by omega)).subset hx)
      simpa using this
theorem lfF_all (l : List Arr) : ∀ k, k ≤ l.length → ∀ x ∈ l.take k, ∃ y ∈ lfF l k, sameK x y = true
  | 0, _, x, hx => by simp at hx
  | k + 1, h, x, hx => by
    rw [List.take_succ_eq_append_getElem (by omega)] at hx
    rw [lfF_next l (by omega)]
    rcases List.mem_append.1 hx with hx | hx
    · obtain ⟨y, hy, e⟩ := lfF_all l k (by omega) x hx
      exact ⟨y, List.mem_append_left _ hy, e⟩
    · simp at hx
      subst hx
      cases hd : isD l k with
      | true =>
        rw [isD_at l (by omega), List.any_eq_true] at hd
        obtain ⟨b, hb, e⟩ := hd
        obtain ⟨y, hy, e2⟩ := lfF_all l k (by omega) b hb
        refine ⟨y, by simpa using hy, ?_⟩
        have e := sameK_iff.1 e
        have e2 := sameK_iff.1 e2
        exact sameK_iff.2 ⟨e.1.trans e2.1, e.2.trans e2.2⟩
      | false => exact ⟨l[k], by simp, sameK_rfl _⟩
theorem apart_isD {l : List Arr} (h : l.Pairwise (fun x y => sameK y x = false)) {k : Nat} (hk : k < l.length) : isD l k = false := by
  rw [isD_at l hk, List.any_eq_false]
  intro b hb
  obtain ⟨i, hi, rfl⟩ := List.getElem_of_mem hb
  rw [List.length_take] at hi
  rw [List.getElem_take]
  have := (List.pairwise_iff_getElem.1 h) i k (by omega) hk (by omega)
  simpa using this
theorem lfF_self {l : List Arr} (h : l.Pairwise (fun x y => sameK y x = false)) : ∀ k, k ≤ l.length → lfF l k = l.take k
  | 0, _ => by simp [lfF, fiN]
  | k + 1, hk => by
    rw [lfF_next l (by omega), apart_isD h (by omega), if_neg (by simp), lfF_self h k (by omega), List.take_succ_eq_append_getElem (by omega)]
def stE (cs : List NCl) (tag : ByteArray) (s : List Smp) (a : Arr) : List Smp := if a.p.tag ≠ tag then s else if s.any (fun y => decide (y.t = (stX cs a).t)) = true then s else s ++ [stX cs a]
theorem stP_fold (l : List Arr) (cs : List NCl) (tag : ByteArray) : ∀ k, k ≤ l.length → (stP l cs tag k).1 = (lfF l k).foldl (stE cs tag) []
  | 0, _ => by simp [lfF, fiN, stP]
  | k + 1, h => by
    rw [stP_next, lfF_next l (by omega)]
    have ih := stP_fold l cs tag k (by omega)
    cases isD l k with
    | true => rw [if_pos rfl, if_pos rfl, List.append_nil]; exact ih
    | false =>
      rw [if_neg (by simp), if_neg (by simp), List.foldl_append, ← ih]
      unfold stS
      rw [List.getElem?_eq_getElem (show k < l.length by omega)]
      simp only [List.foldl_cons, List.foldl_nil, stE]
      split
      · rfl
      · split <;> rfl
theorem stored_same (l : List Arr) (cs : List NCl) (tag : ByteArray) : (stR (lfF l l.length) cs tag).1 = (stR l cs tag).1 := by
  have h := lfF_apart l l.length (Nat.le_refl _)
  unfold stR
  dsimp only
  rw [stP_fold _ cs tag _ (Nat.le_refl _), lfF_self h _ (Nat.le_refl _), List.take_length, stP_fold l cs tag _ (Nat.le_refl _)]
theorem evF_iff {l : List Arr} {n : ByteArray} {y : Int} : y ∈ evF l n ↔ ∃ a ∈ l, a.nd = n ∧ a.p.n = y := by
  rw [← arvF_mem]
  unfold arvF
  rw [cplF_mem, srtI_mem]
  unfold nsF
  rw [List.mem_map]
  constructor
  · rintro ⟨a, ha, rfl⟩
    obtain ⟨g1, g2⟩ := List.mem_filter.1 ha
    exact ⟨a, g1, by simpa using g2, rfl⟩
  · rintro ⟨a, ha, h1, rfl⟩
    exact ⟨a, List.mem_filter.2 ⟨ha, by simpa using h1⟩, rfl⟩
theorem evF_same (l : List Arr) (n : ByteArray) (y : Int) : y ∈ evF (lfF l l.length) n ↔ y ∈ evF l n := by
  have hs := lfF_sub l l.length (Nat.le_refl _)
  have ha := lfF_all l l.length (Nat.le_refl _)
  rw [List.take_length] at hs ha
  rw [evF_iff, evF_iff]
  constructor
  · rintro ⟨a, h1, h2⟩
    exact ⟨a, hs.subset h1, h2⟩
  · rintro ⟨a, h1, rfl, rfl⟩
    obtain ⟨b, hb, e⟩ := ha a h1
    have e := sameK_iff.1 e
    exact ⟨b, hb, e.1.symm, e.2.symm⟩
theorem moF_same {l : List Arr} (h : arF l = 0) (n : ByteArray) : moF (lfF l l.length) n = moF l n := by
  have hs := lfF_sub l l.length (Nat.le_refl _)
  rw [List.take_length] at hs
  have h' := arF_sub h hs
  have b1 := evF_bd (n := n) h
  have b2 := evF_bd (n := n) h'
  have m1 := moF_max n l
  have m2 := moF_max n (lfF l l.length)
  have e := evF_same l n
  rcases moF_in n l with i1 | i1
  · rcases moF_in n (lfF l l.length) with i2 | i2
    · omega
    · have := m1 _ ((e _).1 i2)
      have := (b2 _ i2).1
      omega
  · have g1 := m2 _ ((e _).2 i1)
    rcases moF_in n (lfF l l.length) with i2 | i2
    · have := (b1 _ i1).1
      omega
    · have := m1 _ ((e _).1 i2)
      omega
theorem missing_same {l : List Arr} (h : arF l = 0) (n : ByteArray) : miF (lfF l l.length) n = miF l n := by
  unfold miF
  rw [moF_same h]
  unfold msF
  refine List.filter_congr (fun x _ => ?_)
  rw [decide_eq_decide.2 (evF_same l n x)]
theorem stE_times (cs : List NCl) (tag : ByteArray) : ∀ (l : List Arr) (s : List Smp), s.Pairwise (fun x y => x.t ≠ y.t) → (l.foldl (stE cs tag) s).Pairwise (fun x y => x.t ≠ y.t)
  | [], _, h => h
  | a :: l, s, h => by
    rw [List.foldl_cons]
    refine stE_times cs tag l _ ?_
    unfold stE
    split
    · exact h
    · split
      · exact h
      · rename_i c
        refine List.pairwise_append.2 ⟨h, List.pairwise_singleton _ _, ?_⟩
        intro x hx y hy e
        simp at hy
        subst hy
        exact c (List.any_eq_true.2 ⟨x, hx, by simpa using e⟩)
theorem stE_mem (cs : List NCl) (tag : ByteArray) : ∀ (l : List Arr) (s : List Smp) (x : Smp), x ∈ l.foldl (stE cs tag) s → x ∈ s ∨ ∃ a ∈ l, x = stX cs a
  | [], _, x, h => Or.inl h
  | a :: l, s, x, h => by
    rw [List.foldl_cons] at h
    rcases stE_mem cs tag l _ x h with h | ⟨b, hb, e⟩
    · unfold stE at h
      split at h
      · exact Or.inl h
      · split at h
        · exact Or.inl h
        · rcases List.mem_append.1 h with h | h
          · exact Or.inl h
          · simp at h
            exact Or.inr ⟨a, by simp, h⟩
    · exact Or.inr ⟨b, List.mem_cons_of_mem _ hb, e⟩
theorem stX_bd2 {cs : List NCl} {a : Arr} (ha : smpErr a.p.s = 0) : 0 ≤ (stX cs a).t ∧ (stX cs a).t ≤ 345686399999 := by
  have := smpErr_bd ha
  exact corrF_bd this.1 this.2
theorem stored_ser {l : List Arr} {cs : List NCl} (tag : ByteArray) (h : arF l = 0) : serF (stR l cs tag).1 = 0 := by
  have hlen := stP_len l cs tag l.length
  have hl := ((arF_iff l).1 h).1
  have hf := stP_fold l cs tag l.length (Nat.le_refl _)
  have hs := lfF_sub l l.length (Nat.le_refl _)
  rw [List.take_length] at hs
  unfold stR
  dsimp only
  refine serF_of (by rw [isortG_len]; omega) (fun x hx => ?_) ?_
  · rw [isortG_mem, hf] at hx
    rcases stE_mem cs tag _ _ x hx with hx | ⟨a, ha, rfl⟩
    · simp at hx
    · have he := arrErr_smp (arF_all h a (hs.subset ha))
      have hb := stX_bd2 (cs := cs) he
      unfold smpErr at he ⊢
      unfold stX at hb ⊢
      dsimp only at hb ⊢
      split at he
      · omega
      · rw [if_neg (by omega)]
        exact he
  · rw [incS_iff]
    have h1 := isortG_sorted tLt (fun x => x.t) (fun x y => rfl) (stP l cs tag l.length).1
    have h2 : (isortG tLt (stP l cs tag l.length).1).Pairwise (fun x y => x.t ≠ y.t) := by
      rw [hf]
      exact ((isortG_perm tLt _).pairwise_iff (fun {x y} g e => g e.symm)).2 (stE_times cs tag _ [] List.Pairwise.nil)
    exact (h1.and h2).imp (fun g => by omega)
end Go.Proofs.YtppmkgaobeccfaaGreatDoor
