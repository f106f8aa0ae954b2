/- The document's shiftedOf: which shifted tags are wanted. Condition: the calculated tags are right. -/
import Derived.Test.YtagoolooikpabaaGreatDoorHVShf
set_option linter.all false
namespace Go.Proofs.YtagoolooikpabaaGreatDoor
open Go Go.RowKit
set_option maxRecDepth 100000
set_option maxHeartbeats 4000000
variable {H : Hp} {K : AV → Hp → Prop}
attribute [go_sem] kyA
theorem appKyQ {i q ty : Nat} {own : Bool} {J : AV → Hp → Prop} (l : List Ky) (x : Ky) (l2 : List Ky) (e : l2 = l ++ [x]) (hi : H[i]? = some (grO 192 2 (l.map kyA))) (hj : H[q]? = some (.row ty 2 [[.str x.1, .int .i64 x.2]] own)) (hb : l.length ≤ 1000000000)
  (h : J (.c (grV H.length l2)) (H.set i .dead ++ [grO 192 2 (l2.map kyA)])) : aBuiltin Tryz.prog .append #[119, 119] [.c (grV i l), .c (.sl (some (q, 0)) 1)] H J := by
 subst e
 exact app_grR (enc := kyA) (e := 192) (sz := 2) (bs := 24) (z := [.str .empty, .int .i64 0]) l [x] kRf kRf kRf kRf hi (by rw [hj]; rfl) sMp rfl (by decide) (by simp; omega) (by simp; omega) h
theorem ky_eq (a b : Ky) : (decide (a.1 = b.1) && decide (a.2 = b.2)) = decide (a = b) := by
 obtain ⟨a1, a2⟩ := a
 obtain ⟨b1, b2⟩ := b
 simp
theorem ixRwKy_a {i ty n : Nat} {own : Bool} (l : List Ky) (x : Ky) (hi : H[i]? = some (.row ty 2 (l.map kyA) own)) (hn : n = l.length) (hlen : l.length ≤ 1099511627776) (hk : ∀ r : Int, (0 ≤ r ↔ x ∈ l) → K (.c (.int .i64 r)) H) : ACalls Tryz.prog 182 [.c (.sl (some (i, 0)) n), .agg [.str x.1, .int .i64 x.2]] H K := by
 subst hn
 have hilt := getElem?_lt hi
 refine acalls Tryz.func182 rfl kRf gT (fun hH => ?_)
 refine gO ?_
 refine AWp.loop (H.length + 1) [0, 3, 7] [8] (fun (k : Nat) => k ≤ l.length ∧ ∀ j (h : j < l.length), j < k → l[j] ≠ x) (fun (k : Nat) => [(8, (.c (.int .i64 k)))]) (fun (k : Nat) => H ++ [.row 192 2 [[.str x.1, .int .i64 x.2]] true]) (fun (k : Nat) => l.length - k) kRf (fun _ => rfl) kRf sOo sOm kl ?_ (fun k hk1 _ _ => ?_)
 ·exact Next.mk 0 sMp wk
 obtain ⟨hk1, hk2⟩ := hk1
 by_cases hlt : k < l.length
 ·refine gO1 hi ?_
  refine w_draw kRf dKn ?_
  refine gO1 hi ?_
  refine acond_b (fun c => ?_) (fun c => ?_)
  ·have c2 : l[k] = x := by
    have h := ky_eq l[k] x
    revert c
    simp only [Bool.and_eq_true, decide_eq_true_eq]
    rintro ⟨c1, c2⟩
    exact Prod.ext (by first | exact c1 | exact c1.symm) (by first | exact c2 | exact c2.symm)
   refine gO ?_
   refine Ret.drop hH lRf trivial (hk k ?_)
   simp only [Int.natCast_nonneg, true_iff]
   rw [← c2]
   exact List.getElem_mem _
  ·have c2 : l[k] ≠ x := fun e => by
    rw [e] at c
    simp at c
   refine gO ?_
   refine Next.mk (k + 1) ⟨⟨by omega, fun j h hj => ?_⟩, by omega⟩ wk
   rcases Nat.lt_or_ge j k with h1 | h1
   ·exact hk2 j h h1
   ·obtain rfl : j = k := by omega
    exact c2
 ·refine gO ?_
  refine Ret.drop hH lRf trivial (hk (-1) ?_)
  have : x ∉ l := by
   intro hx
   obtain ⟨j, hj, e⟩ := List.getElem_of_mem hx
   exact hk2 j hj oMg e
  simp [this]
theorem ixNoKy_a (x : Ky) (hk : K (.c (.int .i64 (-1))) H) : ACalls Tryz.prog 182 [.c (.sl none 0), .agg [.str x.1, .int .i64 x.2]] H K := by
 refine acalls Tryz.func182 rfl kRf gT (fun hH => ?_)
 refine gO ?_
 refine AWp.rounds 0 kRf ?_
 refine gO ?_
 exact Ret.drop hH lRf trivial hk
theorem hasGrKy_a {i : Nat} (l : List Ky) (x : Ky) (hi : H[i]? = some (grO 192 2 (l.map kyA))) (hlen : l.length ≤ 1099511627776) (hk : K (.c (.bool (decide (x ∈ l)))) H) : ACalls Tryz.prog 135 [.c (grV i l), .agg [.str x.1, .int .i64 x.2]] H K := by
 cases l with
 | nil =>
  show ACalls _ _ [.c (.sl none 0), _] H K
  refine acalls Tryz.func135 rfl kRf gT (fun hH => ?_)
  refine gO ?_
  refine ixNoKy_a x ?_
  refine gO ?_
  exact Ret.drop hH lRf trivial hk
 | cons y t =>
  rw [grV_pos _ sMp]
  rw [grO_pos _ _ sMp] at hi
  have hil := getElem?_lt hi
  refine acalls Tryz.func135 rfl kRf gT (fun hH => ?_)
  refine gO ?_
  refine ixRwKy_a (y :: t) x (by first | exact hi | (rw [List.getElem?_append_left hil]; exact hi)) rfl hlen (fun r hr => ?_)
  refine gO ?_
  refine Ret.drop hH lRf trivial ?_
  rw [show decide (0 ≤ r) = decide (x ∈ y :: t) by rw [Bool.eq_iff_iff, decide_eq_true_eq, decide_eq_true_eq]; exact hr]
  exact hk
def sqS (H : Hp) (S : List Ky) (j : Nat) (L : Hp) : Hp := H ++ (.row 119 1 [[grV (H.length + 1 + j) S]] true :: L)
theorem sqS_len (H : Hp) (S : List Ky) (j : Nat) (L : Hp) : (sqS H S j L).length = H.length + 1 + L.length := by unfold sqS; simp; omega
theorem sqS_0 (H : Hp) (S : List Ky) (j : Nat) (L : Hp) : (sqS H S j L)[H.length]? = some (.row 119 1 [[grV (H.length + 1 + j) S]] true) := by unfold sqS; simp
theorem sqS_L (H : Hp) (S : List Ky) (j : Nat) (L : Hp) (p : Nat) : (sqS H S j L)[H.length + 1 + p]? = L[p]? := by
 unfold sqS
 rw [List.getElem?_append_right oMg, show H.length + 1 + p - H.length = p + 1 by omega]
 simp
theorem sqS_put (H : Hp) (S S2 : List Ky) (j : Nat) (L : Hp) (hj : j < L.length) (r1 r2 g : AObj) : ((sqS H S j L ++ [r1, r2]).set (H.length + 1 + j) .dead ++ [g]).set H.length (.row 119 1 [[grV (H.length + 1 + (L.length + 2)) S2]] true) = sqS H S2 (L.length + 2) (L.set j .dead ++ [r1, r2, g]) := by
 unfold sqS
 rw [show H.length + 1 + j = H.length + (j + 1) by omega]
 simp only [set_at, List.set_cons_succ, List.set_cons_zero, List.append_assoc, List.cons_append, List.nil_append]
 rw [List.set_append_left _ _ hj]
 have h0 := fun (A L : Hp) (o : AObj) => set_at A L 0 o
 simp only [Nat.add_zero] at h0
 simp only [h0, List.set_cons_zero, List.append_assoc, List.cons_append, List.nil_append]
theorem put_sq (S : List Ky) {j : Nat} {L : Hp} (hL : L[j]? = some (grO 192 2 (S.map kyA))) (x : Ky) (hS : S.length ≤ 100000) (hk : ∀ (j2 : Nat) (L2 : Hp), L2[j2]? = some (grO 192 2 ((addK S x).map kyA)) → (∀ p, p < L.length → p ≠ j → L2[p]? = L[p]? ∧ p ≠ j2) → L.length ≤ L2.length → K (.tup []) (sqS H (addK S x) j2 L2)) : ACalls Tryz.prog 134 [.agg [.str x.1, .int .i64 x.2], .c (.ptr (some (H.length, 0, 0)))] (sqS H S j L) K := by
 obtain ⟨Z, hZ⟩ : ∃ Z, Z = sqS H S j L := ⟨_, rfl⟩
 have h0 := sqS_0 H S j L
 have hj := (sqS_L H S j L j).trans hL
 have hjl := getElem?_lt hL
 have hl := sqS_len H S j L
 have hle := addK_len S x
 rw [← hZ] at h0 hj hl
 by_cases hm : x ∈ S
 ·have e : addK S x = S := if_pos hm
  rw [e] at hk
  have hk := hk j L hL (fun p _ h => ⟨rfl, h⟩) lRf
  rw [← hZ] at hk
  rw [← hZ]
  clear hZ
  refine acalls Tryz.func134 rfl kRf gT (fun hH => ?_)
  refine gO1 h0 ?_
  refine hasGrKy_a S x (by rw [List.getElem?_append_left oMg]; exact hj) oMg ?_
  rw [decide_eq_true hm]
  refine gO ?_
  exact Ret.drop (v := .tup []) hH lRf oKs hk
 ·have e : addK S x = S ++ [x] := if_neg hm
  rw [← hZ]
  refine acalls Tryz.func134 rfl kRf gT (fun hH => ?_)
  refine gO1 h0 ?_
  refine hasGrKy_a S x (by rw [List.getElem?_append_left oMg]; exact hj) oMg ?_
  rw [decide_eq_false hm]
  refine gO1 h0 ?_
  refine appKyQ S x (addK S x) e (by rw [List.getElem?_append_left oMg]; exact hj) (by rw [List.getElem?_append_right oMg, show Z.length + 1 - Z.length = 1 by omega]; rfl) oMg ?_
  obtain ⟨Y, hY⟩ : ∃ Y, Y = (Z ++ [AObj.row 192 2 [[.str x.1, .int .i64 x.2]] true, AObj.row 192 2 [[.str x.1, .int .i64 x.2]] true]).set (H.length + 1 + j) .dead ++ [grO 192 2 ((addK S x).map kyA)] := ⟨_, rfl⟩
  have hY0 : Y[H.length]? = some (.row 119 1 [[grV (H.length + 1 + j) S]] true) := by
   rw [hY, List.getElem?_append_left (by simp; omega), List.getElem?_set_ne oMg, List.getElem?_append_left oMg]
   exact h0
  have hk := hk (L.length + 2) (L.set j .dead ++ [AObj.row 192 2 [[.str x.1, .int .i64 x.2]] true, AObj.row 192 2 [[.str x.1, .int .i64 x.2]] true, grO 192 2 ((addK S x).map kyA)]) (by rw [List.getElem?_append_right sMp, List.length_set, Nat.add_sub_cancel_left]; rfl) (fun p hp1 hp2 => ⟨by rw [List.getElem?_append_left (by simpa using hp1), List.getElem?_set_ne (Ne.symm hp2)], by omega⟩) sMp
  rw [← hY]
  have hln : (Z ++ [AObj.row 192 2 [[.str x.1, .int .i64 x.2]] true, AObj.row 192 2 [[.str x.1, .int .i64 x.2]] true]).length = H.length + 1 + (L.length + 2) := by simp; omega
  rw [hln]
  have hYl : Y.length = H.length + 4 + L.length := by rw [hY, List.length_append, List.length_set, hln]; simp; omega
  have hfin := sqS_put H S (addK S x) j L hjl (AObj.row 192 2 [[.str x.1, .int .i64 x.2]] true) (AObj.row 192 2 [[.str x.1, .int .i64 x.2]] true) (grO 192 2 ((addK S x).map kyA))
  rw [← hZ, ← hY] at hfin
  rw [← hfin] at hk
  clear hY hZ
  refine gO1 hY0 ?_
  exact Ret.same (by rw [List.length_set]; omega) hk
def lfX : Ex → List UInt8 × Int
 | .tag w s => (w, max 0 (s.getD (-1)))
 | _ => ([], 0)
theorem leafX_lf : ∀ {e : Ex}, ExOk e → (leafX e).map lfX = leafE e
 | .num _, _ => rfl
 | .tag w none, _ => rfl
 | .tag w (some n), he => by
  have h := he.2 n rfl
  show [(w, max 0 n)] = [(w, n)]
  rw [show max 0 n = n by omega]
 | .neg a, he => leafX_lf (e := a) he
 | .bin _ a b, he => by
  show (leafX a ++ leafX b).map lfX = leafE a ++ leafE b
  rw [List.map_append, leafX_lf he.2.1, leafX_lf he.2.2]
 | .f1 _ a, he => leafX_lf (e := a) he.2
 | .f2 _ a b, he => by
  show (leafX a ++ leafX b).map lfX = leafE a ++ leafE b
  rw [List.map_append, leafX_lf he.2.1, leafX_lf he.2.2]
 | .f3 _ a b c, he => by
  show (leafX a ++ (leafX b ++ leafX c)).map lfX = leafE a ++ leafE b ++ leafE c
  rw [List.map_append, List.map_append, leafX_lf he.2.1, leafX_lf he.2.2.1, leafX_lf he.2.2.2, List.append_assoc]
theorem shiftedOf_a {cs : List Cal} (hF : clF cs = 0) (hfn : ∀ x ∈ cs, x.fine) (A : List Nme) (hA : A.length ≤ 1000) (hAm : ∀ t ∈ A, t ∈ nmC cs) (hk0 : shR cs A = none → K (.c (.sl none 0)) H) (hk1 : ∀ R, shR cs A = some R → ∀ (j : Nat) (G : Hp), G[j]? = some (grO 192 2 (R.map kyA)) → K (.c (grV (H.length + j) R)) (H ++ G)) : ACalls Tryz.prog 84 [.c (.lst 2 (cs.map encCl)), .c (.lst 1 (A.map encSs))] H K := by
 have he1 : entersB Tryz.prog 134 = true := by kernel_rfl
 have hcl := (clF_ok hF).1
 refine acalls Tryz.func84 rfl kRf gT (fun hH => ?_)
 refine gO1 he1 ?_
 refine AWp.loop (H.length + 1) [0, 5, 6, 16, 17] [18] (fun (s : Nat × Nat × Hp) => s.1 ≤ A.length ∧ s.2.2[s.2.1]? = some (grO 192 2 ((addL [] ((A.take s.1).map fun t => (t, 0))).map kyA))) (fun (s : Nat × Nat × Hp) => [(18, (.c (.int .i64 (s.1))))]) (fun (s : Nat × Nat × Hp) => sqS H (addL [] ((A.take s.1).map fun t => (t, 0))) s.2.1 s.2.2) (fun (s : Nat × Nat × Hp) => A.length - s.1) kRf (fun _ => rfl) kRf sOo sOm kl ?_ (fun s hs1 _ hH2 => ?_)
 ·refine Next.mk (0, 0, [.dead]) ⟨by simp, rfl⟩ ?_
  exact WkL.padP [_] sMp
 obtain ⟨k, j, L⟩ := s
 obtain ⟨hs1, hs2⟩ := hs1
 dsimp only at hs1 hs2 ⊢
 have h0 := sqS_0 H (addL [] ((A.take k).map fun t => (t, 0))) j L
 by_cases hlt : k < A.length
 ·have hsn : addK (addL [] ((A.take k).map fun t => (t, 0))) (A[k], 0) = addL [] ((A.take (k + 1)).map fun t => (t, 0)) := by
   rw [List.take_succ_eq_append_getElem hlt, List.map_append, List.map_cons, List.map_nil, addL_snoc]
  have hsl := addL_len ((A.take k).map fun t => ((t, 0) : Ky)) []
  rw [List.length_map, List.length_take, List.length_nil] at hsl
  simp (disch := first | omega | (simp only [go_sem]; try omega)) only [go_sem, hlt, he1]
  refine put_sq _ hs2 (A[k], 0) oMg (fun j2 L2 k1 k2 k3 => ?_)
  rw [hsn] at k1 ⊢
  refine gO ?_
  refine Next.mk (k + 1, j2, L2) ⟨⟨by dsimp only; omega, k1⟩, by dsimp only; omega⟩ ?_
  refine gO ?_
  exact WkL.refl (by rw [sqS_len]; omega)
 ·have hke : k = A.length := by omega
  subst hke
  rw [List.take_of_length_le lRf] at hs2 ⊢
  have hsl := addL_len (A.map fun t => ((t, 0) : Ky)) []
  rw [List.length_map, List.length_nil] at hsl
  have hB := ShB.zero (cs := cs) hAm
  have hR : shG cs 2000 0 (addL [] (A.map fun t => (t, 0))) = shR cs A := rfl
  generalize addL [] (A.map fun t => ((t, 0) : Ky)) = S0 at *
  have hl0 := sqS_len H S0 j L
  refine gO ?_
  refine AWp.loop (H.length + 1) [0, 5, 6] [9] (fun (s : Nat × List Ky × Nat × Hp × Nat) => s.1 ≤ s.2.1.length ∧ s.1 ≤ 1000 ∧ 2000 ≤ s.2.2.2.2 + s.1 ∧ shG cs s.2.2.2.2 s.1 s.2.1 = shR cs A ∧ ShB cs s.1 s.2.1 ∧ s.2.1.length ≤ 2000 ∧ s.2.2.2.1[s.2.2.1]? = some (grO 192 2 (s.2.1.map kyA))) (fun (s : Nat × List Ky × Nat × Hp × Nat) => [(9, (.c (.int .i64 (s.1))))]) (fun (s : Nat × List Ky × Nat × Hp × Nat) => sqS H s.2.1 s.2.2.1 s.2.2.2.1) (fun (s : Nat × List Ky × Nat × Hp × Nat) => 2000 - s.1) kRf (fun _ => rfl) kRf sOo sOm kl ?_ (fun s hs3 _ hH2 => ?_)
  ·refine Next.mk (0, S0, j, L, 2000) ⟨Nat.zero_le _, by dsimp only; omega, by dsimp only; omega, hR, hB, by dsimp only; omega, hs2⟩ ?_
   refine gO ?_
   exact WkL.refl (by rw [sqS_len]; omega)
  clear hs2 hs1 hsl hB hR h0 hl0
  obtain ⟨i, S, j, L, f⟩ := s
  obtain ⟨m1, m2, m3, m4, m5, m6, m7⟩ := hs3
  dsimp only at m1 m2 m3 m4 m5 m6 m7 ⊢
  have h0 := sqS_0 H S j L
  have hj := (sqS_L H S j L j).trans m7
  have hl := sqS_len H S j L
  have hjl := getElem?_lt m7
  by_cases hlt : i < S.length
  ·have hne : S ≠ [] := by rintro rfl; exact absurd hlt sMp
   obtain ⟨g, rfl⟩ : ∃ g, f = g + 1 := ⟨f - 1, by omega⟩
   unfold shG at m4
   rw [dif_pos hlt] at m4
   by_cases hbig : 1000 < S.length
   ·rw [if_pos hbig] at m4
    have hk0 := hk0 m4.symm
    refine gO3 h0 hlt hbig ?_
    unfold sqS
    exact Ret.drop hH lRf oKs hk0
   ·rw [if_neg hbig] at m4
    obtain ⟨b1, b2, b3⟩ := m5 _ (List.getElem_mem hlt)
    have hB2 := m5.step hF hlt
    rw [grV_pos _ hne] at h0
    rw [grO_pos _ _ (by simpa using hne)] at hj
    simp (disch := first | omega | (simp only [go_sem]; try omega)) only [go_sem, h0, hlt, hbig, hj]
    refine calAt_a cs S[i].1 oMg (fun hn => ?_) (fun q hq1 hq2 hq3 => ?_)
    ·obtain ⟨y, hy, e⟩ := List.mem_map.1 b1
     exact absurd e (hn y hy)
    have hf := find_at hF hq1
    rw [hq2] at hf
    have hex : exT cs S[i].1 = exC cs[q] := by unfold exT; rw [hf]
    have hok := exC_ok hF (List.getElem_mem hq1)
    obtain ⟨ex, he⟩ : ∃ ex, cs[q].ex = tB ex := ⟨tL cs[q].ex, rfl⟩
    have hp := ((clF_ok hF).2.1 _ (List.getElem_mem hq1)).2
    have hfn2 := (hfn _ (List.getElem_mem hq1)).2
    rw [he, tL_tB] at hp
    rw [he, tB_size] at hfn2
    have hkk : kidK cs S[i] = (((leafX (exC cs[q])).map lfX).map (kidP cs S[i].2)).flatten := by unfold kidK; rw [hex, leafX_lf hok.1]
    have hXl := leafX_len (exC cs[q])
    have hXt := leafX_tag (exC cs[q])
    have hXb : ∀ x ∈ leafX (exC cs[q]), 0 ≤ (lfX x).2 ∧ (lfX x).2 ≤ 86400000 := fun x hx => leaf_bd hok.1 _ (by rw [← leafX_lf hok.1]; exact List.mem_map.2 ⟨x, hx, rfl⟩)
    rw [hkk] at m4 hB2
    have happ : ∀ r, sqS H S j L ++ [r] = sqS H S j (L ++ [r]) := fun r => by unfold sqS; simp
    refine gO1 he ?_
    refine parsedQ_a ex hfn2 (fun e' he' => ?_) (fun a c h => by rw [hp] at h; cases h)
    rw [hp] at he'
    injection he' with he'
    subst he'
    refine gO2 encT_l encT_t ?_
    refine leaves_a 1000 (exC cs[q]) oMg oMg hok.1 ?_
    generalize leafX (exC cs[q]) = X at *
    refine gO ?_
    have hdl := fun k => kidP_len cs S[i].2 ((X.take k).map lfX)
    simp only [List.length_map, List.length_take] at hdl
    rw [happ]
    have hlt1 := sqS_len H S j (L ++ [AObj.row 173 5 [encT (exC cs[q])] true])
    refine AWp.loop (H.length + 1) [0, 5, 6, 9, 53, 54] [55] (fun (s : Nat × Nat × Hp) => s.1 ≤ X.length ∧ s.2.2[s.2.1]? = some (grO 192 2 ((addL S ((((X.take s.1).map lfX).map (kidP cs S[i].2)).flatten)).map kyA))) (fun (s : Nat × Nat × Hp) => [(55, (.c (.int .i64 (s.1))))]) (fun (s : Nat × Nat × Hp) => sqS H (addL S ((((X.take s.1).map lfX).map (kidP cs S[i].2)).flatten)) s.2.1 s.2.2) (fun (s : Nat × Nat × Hp) => X.length - s.1) kRf (fun _ => rfl) kRf sOo sOm kl ?_ (fun s hs4 _ hH3 => ?_)
    ·refine Next.mk (0, j, L ++ [AObj.row 173 5 [encT (exC cs[q])] true]) ⟨Nat.zero_le _, by dsimp only; rw [List.getElem?_append_left hjl]; exact m7⟩ ?_
     refine gO ?_
     exact WkL.refl (by rw [sqS_len]; omega)
    obtain ⟨k, j1, L1⟩ := s
    obtain ⟨n1, n2⟩ := hs4
    dsimp only at n1 n2 ⊢
    have hdk := hdl k
    have hal2 := addL_len ((((X.take k).map lfX).map (kidP cs S[i].2)).flatten) S
    by_cases hlk : k < X.length
    ·obtain ⟨w, sx, hx⟩ := hXt X[k] (List.getElem_mem hlk)
     have hxb := hXb X[k] (List.getElem_mem hlk)
     have hxl : lfX X[k] = (w, max 0 (sx.getD (-1))) := by rw [hx]; rfl
     rw [hxl] at hxb
     have hxe : encT (.tag w sx) = [.int .u8 119, .str (tB w), .int .i64 0, .sl none 0, .int .i64 (sx.getD (-1))] := rfl
     have hsn : addL S ((((X.take (k + 1)).map lfX).map (kidP cs S[i].2)).flatten) = addL (addL S ((((X.take k).map lfX).map (kidP cs S[i].2)).flatten)) (kidP cs S[i].2 (w, max 0 (sx.getD (-1)))) := by
      rw [List.take_succ_eq_append_getElem hlk, List.map_append, List.map_append, List.flatten_append, addL_app, List.map_cons, List.map_nil, hxl]
      simp
     obtain ⟨p1, p2⟩ := pre_at (addL_pre ((((X.take k).map lfX).map (kidP cs S[i].2)).flatten) S) hlt
     generalize addL S ((((X.take k).map lfX).map (kidP cs S[i].2)).flatten) = S1 at *
     have g0 := sqS_0 H S1 j1 L1
     have gj := (sqS_L H S1 j1 L1 j1).trans n2
     have gl := sqS_len H S1 j1 L1
     have gjl := getElem?_lt n2
     have happ1 : ∀ r, sqS H S1 j1 L1 ++ [r] = sqS H S1 j1 (L1 ++ [r]) := fun r => by unfold sqS; simp
     have hne1 : S1 ≠ [] := by rintro rfl; exact absurd p1 sMp
     rw [grV_pos _ hne1] at g0
     rw [grO_pos _ _ (by simpa using hne1)] at gj
     refine gO3 hlk hx hxe ?_
     refine calAt_a cs (tB w) oMg (fun hn => ?_) (fun z hz1 hz2 hz3 => ?_)
     ·have hkp : kidP cs S[i].2 (w, max 0 (sx.getD (-1))) = [] := if_neg (fun hm => by
       obtain ⟨y, hy, e⟩ := List.mem_map.1 hm
       exact hn y hy e)
      rw [hkp] at hsn
      have hsn : addL S ((((X.take (k + 1)).map lfX).map (kidP cs S[i].2)).flatten) = S1 := hsn
      refine gO ?_
      rw [happ1]
      refine Next.mk (k + 1, j1, L1 ++ [AObj.row 173 5 [[.int .u8 119, .str (tB w), .int .i64 0, .sl none 0, .int .i64 (sx.getD (-1))]] true]) ⟨⟨by dsimp only; omega, by dsimp only; rw [hsn, List.getElem?_append_left gjl]; exact n2⟩, by dsimp only; omega⟩ ?_
      dsimp only
      rw [hsn]
      refine gO ?_
      exact WkL.refl (by rw [sqS_len]; omega)
     ·have hm : tB w ∈ nmC cs := hz2 ▸ nmC_mem (List.getElem_mem hz1)
      have hkp : kidP cs S[i].2 (w, max 0 (sx.getD (-1))) = [(tB w, S[i].2 + max 0 (sx.getD (-1)))] := if_pos hm
      rw [hkp] at hsn
      have hsn : addL S ((((X.take (k + 1)).map lfX).map (kidP cs S[i].2)).flatten) = addK S1 (tB w, S[i].2 + max 0 (sx.getD (-1))) := hsn
      refine gO ?_
      refine w_tree (.one 0 (.one 1 (.one 2 (.one 3 (.one 4 (.one 5 (.one 6 (.one 7 (.one 8 (.one 9 (.one 10 (.one 11 (.one 12 (.one 13 .done)))))))))))))) kRf dKn ?_
      refine gO4 g0 gj p1 p2 ?_
      repeat' first | (rw [happ1]; refine put_sq S1 (by rw [List.getElem?_append_left gjl]; exact n2) (tB w, S[i].2 + max 0 (sx.getD (-1))) oMg (fun j2 L2 k1 k2 k3 => ?_); rw [← hsn] at k1 ⊢; refine gO ?_; refine Next.mk (k + 1, j2, L2) ⟨⟨by dsimp only; omega, k1⟩, by dsimp only; omega⟩ ?_; refine gO ?_; exact WkL.refl (by rw [sqS_len]; omega)) | apply And.intro
    ·have hke : k = X.length := by omega
     subst hke
     rw [List.take_of_length_le lRf] at n2 hal2 hdk ⊢
     have g2 := sqS_len H (addL S (((X.map lfX).map (kidP cs S[i].2)).flatten)) j1 L1
     refine gO1 hlk ?_
     refine Next.mk (i + 1, addL S (((X.map lfX).map (kidP cs S[i].2)).flatten), j1, L1, g) ⟨⟨by dsimp only; omega, by dsimp only; omega, by dsimp only; omega, m4, hB2, by dsimp only; omega, n2⟩, by dsimp only; omega⟩ ?_
     refine gO ?_
     exact WkL.refl (by rw [sqS_len]; omega)
  ·have hR : shR cs A = some S := by
    rw [← m4]
    cases f with
    | zero => rfl
    | succ f => unfold shG; rw [dif_neg hlt]
   have hk := hk1 S hR (j + 1) (.row 119 1 [[grV (H.length + 1 + j) S]] true :: L) (by simpa using m7)
   refine gO2 h0 hlt ?_
   refine Ret.same (by rw [hl]; omega) ?_
   rw [show H.length + 1 + j = H.length + (j + 1) by omega]
   unfold sqS
   rw [show H.length + 1 + j = H.length + (j + 1) by omega] at hk ⊢
   exact hk
end Go.Proofs.YtagoolooikpabaaGreatDoor
