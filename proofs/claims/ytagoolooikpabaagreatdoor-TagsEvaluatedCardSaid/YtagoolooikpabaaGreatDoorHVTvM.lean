/- Several texts in one: What calculated tags are at a moment: by their order, and what follows. No condition. -/
import Derived.Test.YtagoolooikpabaaGreatDoorHVClM
import Derived.Test.YtagoolooikpabaaGreatDoorHVLkp
set_option linter.all false
namespace Go.Proofs.YtagoolooikpabaaGreatDoor
open Go Go.RowKit
set_option maxRecDepth 100000
set_option maxHeartbeats 1000000
def exT (cs : List Cal) (t : Nme) : Ex := match cs.find? (trK t) with
 | some x => exC x
 | none => .num 0
theorem evP_congr {look look2 : List UInt8 → Int → Vl} {m : Int} : ∀ {e : Ex}, (∀ p ∈ leafE e, ∀ k, look p.1 k = look2 p.1 k) → evP look m e = evP look2 m e
 | .num _, _ => rfl
 | .tag x s, h => by
  unfold evP
  rw [h (x, s.getD 0) (by simp [leafE])]
 | .neg a, h => by
  unfold evP
  rw [evP_congr (e := a) h]
 | .bin c a b, h => by
  unfold evP
  rw [evP_congr (e := a) (fun p hp => h p (by simp [leafE, hp])), evP_congr (e := b) (fun p hp => h p (by simp [leafE, hp]))]
 | .f1 f a, h => by
  unfold evP
  rw [evP_congr (e := a) h]
 | .f2 f a b, h => by
  unfold evP
  rw [evP_congr (e := a) (fun p hp => h p (by simp [leafE, hp])), evP_congr (e := b) (fun p hp => h p (by simp [leafE, hp]))]
 | .f3 f a b c, h => by
  unfold evP
  rw [evP_congr (e := a) (fun p hp => h p (by simp [leafE, hp])), evP_congr (e := b) (fun p hp => h p (by simp [leafE, hp])), evP_congr (e := c) (fun p hp => h p (by simp [leafE, hp]))]
def fnV (v : Vl) : Vl := bdV v.n v.q 1000000
def valP (cs : List Cal) (rec : List UInt8 → Int → Vl) : Nat → List UInt8 → Int → Vl
 | 0, x, m => if tB x ∈ nmC cs then badV else rec x m
 | f + 1, x, m => if tB x ∈ nmC cs then fnV (evP (valP cs rec f) m (exT cs (tB x))) else rec x m
def valL (cs : List Cal) (rec : List UInt8 → Int → Vl) (x : List UInt8) (m : Int) : Vl := valP cs rec cs.length x m
theorem valP_rec {cs : List Cal} {rec : List UInt8 → Int → Vl} {x : List UInt8} (h : tB x ∉ nmC cs) (m : Int) : ∀ f, valP cs rec f x m = rec x m
 | 0 => by unfold valP; rw [if_neg h]
 | f + 1 => by unfold valP; rw [if_neg h]
theorem leaf_tags {e : Ex} {p : List UInt8 × Int} (h : p ∈ leafE e) : tB p.1 ∈ tagsE e := by
 unfold tagsE
 rw [cplF_mem, srtS_mem]
 exact List.mem_map.2 ⟨p, h, rfl⟩
theorem leaf_kid {cs : List Cal} {t : Nme} (ht : t ∈ nmC cs) (hF : clF cs = 0) {p : List UInt8 × Int} (h : p ∈ leafE (exT cs t)) (hp : tB p.1 ∈ nmC cs) : tB p.1 ∈ kidC cs t := by
 obtain ⟨x, _, _, hf⟩ := find_some ht hF
 unfold kidC
 unfold exT at h
 rw [hf] at h ⊢
 exact List.mem_filter.2 ⟨leaf_tags h, by simpa using hp⟩
theorem valP_deep {cs : List Cal} (hF : clF cs = 0) {rec : List UInt8 → Int → Vl} {o : List Nme} (ho : orderG (nmC cs) (kidC cs) = some o) : ∀ (f i : Nat) (hi : i < o.length) (x : List UInt8) (m : Int), tB x = o[i] → i < f → valP cs rec f x m = valP cs rec (f + 1) x m
 | 0, i, hi, x, m, e, h => by omega
 | f + 1, i, hi, x, m, e, h => by
  obtain ⟨⟨k1, k2, k3⟩, k4⟩ := orderG_ok ho
  have hn : tB x ∈ nmC cs := e ▸ k2 _ (List.getElem_mem hi)
  show (if tB x ∈ nmC cs then fnV (evP (valP cs rec f) m (exT cs (tB x))) else rec x m) = if tB x ∈ nmC cs then fnV (evP (valP cs rec (f + 1)) m (exT cs (tB x))) else rec x m
  rw [if_pos hn, if_pos hn]
  congr 1
  refine evP_congr (fun p hp k => ?_)
  by_cases hc : tB p.1 ∈ nmC cs
  ·have hk := leaf_kid hn hF hp hc
   rw [e] at hk
   have h1 := k3 i hi _ hk
   obtain ⟨q, hq, e2⟩ := List.getElem_of_mem h1
   rw [List.length_take] at hq
   rw [List.getElem_take] at e2
   exact valP_deep hF ho f q oMg p.1 k e2.symm oMg
  ·rw [valP_rec hc, valP_rec hc]
theorem valL_calc {cs : List Cal} (hF : clF cs = 0) {rec : List UInt8 → Int → Vl} {o : List Nme} (ho : orderG (nmC cs) (kidC cs) = some o) {x : List UInt8} (m : Int) (hx : tB x ∈ nmC cs) : valL cs rec x m = fnV (evP (valL cs rec) m (exT cs (tB x))) := by
 obtain ⟨⟨k1, k2, k3⟩, k4⟩ := orderG_ok ho
 have k5 : o.length = cs.length := by rw [k4]; unfold nmC; rw [List.length_map]
 have hall := nodup_all k1 k2 oMg
 obtain ⟨i, hi, e⟩ := List.getElem_of_mem (hall _ hx)
 unfold valL
 rw [valP_deep hF ho cs.length i hi x m e.symm oMg]
 conv => lhs; unfold valP
 rw [if_pos hx]
theorem valL_rec {cs : List Cal} {rec : List UInt8 → Int → Vl} {x : List UInt8} (h : tB x ∉ nmC cs) (m : Int) : valL cs rec x m = rec x m := valP_rec h m _
theorem exT_ok {cs : List Cal} (hF : clF cs = 0) (t : Nme) : ExOk (exT cs t) ∧ szE (exT cs t) ≤ 501 := by
 unfold exT
 split
 ·rename_i x hx
  exact exC_ok hF (List.mem_of_find?_eq_some hx)
 ·exact ⟨⟨by decide, by decide⟩, by decide⟩
theorem fnV_ok {v : Vl} (h : VlOk v) : VlOk (fnV v) := bdV_ok h.2.1 (by decide)
theorem valP_ok {cs : List Cal} (hF : clF cs = 0) {rec : List UInt8 → Int → Vl} (hr : ∀ x m, VlOk (rec x m)) : ∀ f x m, VlOk (valP cs rec f x m)
 | 0, x, m => by
  unfold valP
  split
  ·exact badV_ok
  ·exact hr _ _
 | f + 1, x, m => by
  unfold valP
  split
  ·exact fnV_ok (evP_ok (valP_ok hF hr f) m _ (exT_ok hF _).1)
  ·exact hr _ _
theorem valL_ok {cs : List Cal} (hF : clF cs = 0) {rec : List UInt8 → Int → Vl} (hr : ∀ x m, VlOk (rec x m)) (x : List UInt8) (m : Int) : VlOk (valL cs rec x m) := valP_ok hF hr _ _ _
end Go.Proofs.YtagoolooikpabaaGreatDoor
namespace Go.Proofs.YtagoolooikpabaaGreatDoor
open Go Go.RowKit
set_option maxRecDepth 100000
set_option maxHeartbeats 1000000
abbrev Ky := Nme × Int
instance (priority := 10000) memDecK (x : Ky) (l : List Ky) : Decidable (x ∈ l) := @List.instDecidableMemOfLawfulBEq Ky instBEqOfDecidableEq inferInstance x l
def addK (M : List Ky) (k : Ky) : List Ky := if k ∈ M then M else M ++ [k]
def addL (M l : List Ky) : List Ky := l.foldl addK M
def kidP (cs : List Cal) (s : Int) (p : List UInt8 × Int) : List Ky := if tB p.1 ∈ nmC cs then [(tB p.1, s + p.2)] else []
def kidK (cs : List Cal) (x : Ky) : List Ky := ((leafE (exT cs x.1)).map (kidP cs x.2)).flatten
def shG (cs : List Cal) : Nat → Nat → List Ky → Option (List Ky)
 | 0, _, S => some S
 | f + 1, i, S => if h : i < S.length then (if 1000 < S.length then none else shG cs f (i + 1) (addL S (kidK cs S[i]))) else some S
def shR (cs : List Cal) (A : List Nme) : Option (List Ky) := shG cs 2000 0 (addL [] (A.map fun t => (t, 0)))
theorem addK_mem {M : List Ky} {k x : Ky} : x ∈ addK M k ↔ x ∈ M ∨ x = k := by
 unfold addK
 split
 ·rename_i h
  exact ⟨.inl, fun g => g.elim id (fun e => e ▸ h)⟩
 ·simp
theorem addK_nodup {M : List Ky} {k : Ky} (h : M.Nodup) : (addK M k).Nodup := by
 unfold addK
 split
 ·exact h
 ·rename_i hn
  rw [List.nodup_append]
  refine ⟨h, by simp, fun a ha b hb e => ?_⟩
  rw [List.mem_singleton] at hb
  subst hb; subst e
  exact hn ha
theorem addK_pre (M : List Ky) (k : Ky) : M <+: addK M k := by
 unfold addK
 split
 ·exact List.prefix_refl _
 ·exact List.prefix_append _ _
theorem addL_mem {x : Ky} : ∀ {l M : List Ky}, x ∈ addL M l ↔ x ∈ M ∨ x ∈ l
 | [], M => by simp [addL]
 | k :: l, M => by
  show x ∈ addL (addK M k) l ↔ _
  rw [addL_mem, addK_mem]
  simp [or_assoc]
theorem addL_nodup : ∀ {l M : List Ky}, M.Nodup → (addL M l).Nodup
 | [], _, h => h
 | k :: l, M, h => addL_nodup (l := l) (addK_nodup h)
theorem addL_pre : ∀ (l M : List Ky), M <+: addL M l
 | [], M => List.prefix_refl _
 | k :: l, M => (addK_pre M k).trans (addL_pre l (addK M k))
theorem addK_len (M : List Ky) (k : Ky) : M.length ≤ (addK M k).length ∧ (addK M k).length ≤ M.length + 1 := by
 unfold addK
 split <;> simp
theorem addL_len : ∀ (l M : List Ky), M.length ≤ (addL M l).length ∧ (addL M l).length ≤ M.length + l.length
 | [], M => by simp [addL]
 | k :: l, M => by
  have h1 := addK_len M k
  have h2 := addL_len l (addK M k)
  show M.length ≤ (addL (addK M k) l).length ∧ (addL (addK M k) l).length ≤ _
  rw [List.length_cons]
  omega
theorem addL_snoc (M l : List Ky) (k : Ky) : addL M (l ++ [k]) = addK (addL M l) k := by unfold addL; rw [List.foldl_append]; rfl
theorem addL_app (M l l2 : List Ky) : addL M (l ++ l2) = addL (addL M l) l2 := by unfold addL; rw [List.foldl_append]
theorem pre_at {α : Type} {M N : List α} (h : M <+: N) {i : Nat} (hi : i < M.length) : ∃ h2 : i < N.length, N[i] = M[i] := by
 obtain ⟨t, rfl⟩ := h
 exact ⟨by simp; omega, List.getElem_append_left hi⟩
inductive ShC (cs : List Cal) (A : List Nme) : Ky → Prop
 | base (t : Nme) : t ∈ A → ShC cs A (t, 0)
 | step (x y : Ky) : ShC cs A x → y ∈ kidK cs x → ShC cs A y
structure ShAt (cs : List Cal) (A : List Nme) (i : Nat) (S : List Ky) : Prop where
 nodup : S.Nodup
 cl : ∀ x ∈ S, ShC cs A x
 base : ∀ t ∈ A, (t, 0) ∈ S
 kids : ∀ j (h : j < S.length), j < i → ∀ y ∈ kidK cs S[j], y ∈ S
 le : i ≤ S.length
 big : 1000 < S.length → i < S.length
 small : i ≤ 1000
theorem ShAt.zero (cs : List Cal) (A : List Nme) : ShAt cs A 0 (addL [] (A.map fun t => (t, 0))) :=
 ⟨addL_nodup List.nodup_nil, fun x hx => by
  rcases addL_mem.1 hx with h | h
  ·cases h
  ·obtain ⟨t, ht, rfl⟩ := List.mem_map.1 h
   exact .base t ht, fun t ht => addL_mem.2 (.inr (List.mem_map.2 ⟨t, ht, rfl⟩)), fun j _ h => absurd h oMg, Nat.zero_le _, fun h => by omega, by omega⟩
theorem ShAt.step {cs : List Cal} {A : List Nme} {i : Nat} {S : List Ky} (h : ShAt cs A i S) (hi : i < S.length) (hs : ¬ 1000 < S.length) : ShAt cs A (i + 1) (addL S (kidK cs S[i])) := by
 have hl := addL_len (kidK cs S[i]) S
 refine ⟨addL_nodup h.nodup, fun x hx => ?_, fun t ht => addL_mem.2 (.inl (h.base t ht)), fun j hj hji y hy => ?_, by omega, fun _ => by omega, by omega⟩
 ·rcases addL_mem.1 hx with g | g
  ·exact h.cl x g
  ·exact .step _ _ (h.cl _ (List.getElem_mem hi)) g
 ·obtain ⟨h2, e⟩ := pre_at (addL_pre (kidK cs S[i]) S) (i := j) oMg
  rw [e] at hy
  rcases Nat.lt_or_ge j i with h3 | h3
  ·exact addL_mem.2 (.inl (h.kids j oMg h3 y hy))
  ·obtain rfl : j = i := by omega
   exact addL_mem.2 (.inr hy)
theorem ShAt.full {cs : List Cal} {A : List Nme} {i : Nat} {S : List Ky} (h : ShAt cs A i S) (hi : ¬ i < S.length) : S.length ≤ 1000 ∧ ∀ x, ShC cs A x ↔ x ∈ S := by
 refine ⟨?_, fun x => ⟨fun hx => ?_, h.cl x⟩⟩
 ·have := h.big; omega
 ·induction hx with
  | base t ht => exact h.base t ht
  | step x y _ hy ih =>
   obtain ⟨j, hj, rfl⟩ := List.getElem_of_mem ih
   have := h.le
   exact h.kids j hj oMg y hy
theorem shG_spec {cs : List Cal} {A : List Nme} : ∀ (f i : Nat) (S : List Ky), ShAt cs A i S → 2000 ≤ f + i → (shG cs f i S = none → ∃ L : List Ky, L.Nodup ∧ 1000 < L.length ∧ ∀ x ∈ L, ShC cs A x) ∧ ∀ R, shG cs f i S = some R → R.Nodup ∧ R.length ≤ 1000 ∧ ∀ x, ShC cs A x ↔ x ∈ R
 | 0, i, S, h, hf => by have := h.small; omega
 | f + 1, i, S, h, hf => by
  unfold shG
  by_cases hi : i < S.length
  ·rw [dif_pos hi]
   by_cases hs : 1000 < S.length
   ·rw [if_pos hs]
    exact ⟨fun _ => ⟨S, h.nodup, hs, h.cl⟩, fun R e => by cases e⟩
   ·rw [if_neg hs]
    exact shG_spec f (i + 1) _ (h.step hi hs) oMg
  ·rw [dif_neg hi]
   refine ⟨fun e => (by cases e), fun R e => ?_⟩
   injection e with e
   subst e
   obtain ⟨h1, h2⟩ := h.full hi
   exact ⟨h.nodup, h1, h2⟩
theorem shR_none {cs : List Cal} {A : List Nme} (h : shR cs A = none) : ∃ L : List Ky, L.Nodup ∧ 1000 < L.length ∧ ∀ x ∈ L, ShC cs A x := (shG_spec 2000 0 _ (ShAt.zero cs A) oMg).1 h
theorem shR_some {cs : List Cal} {A : List Nme} {R : List Ky} (h : shR cs A = some R) : R.Nodup ∧ R.length ≤ 1000 ∧ ∀ x, ShC cs A x ↔ x ∈ R := (shG_spec 2000 0 _ (ShAt.zero cs A) oMg).2 R h
theorem ShC.imp {cs : List Cal} {A B : List Nme} (h : ∀ t ∈ A, t ∈ B) {x : Ky} (hx : ShC cs A x) : ShC cs B x := by
 induction hx with
 | base t ht => exact .base t (h t ht)
 | step x y _ hy ih => exact .step x y ih hy
theorem shR_big {cs : List Cal} {A B : List Nme} (h : ∀ t ∈ A, t ∈ B) (hA : shR cs A = none) : shR cs B = none := by
 obtain ⟨L, h1, h2, h3⟩ := shR_none hA
 cases hB : shR cs B with
 | none => rfl
 | some R =>
  obtain ⟨g1, g2, g3⟩ := shR_some hB
  have := nodup_len h1 (fun x hx => (g3 x).1 ((h3 x hx).imp h))
  omega
theorem shR_same {cs : List Cal} {A B : List Nme} (h : ∀ t, t ∈ A ↔ t ∈ B) : shR cs A = none ↔ shR cs B = none :=
 ⟨shR_big fun t ht => (h t).1 ht, shR_big fun t ht => (h t).2 ht⟩
end Go.Proofs.YtagoolooikpabaaGreatDoor
