/- expr.trees.shifts: which shifted tags are wanted. Condition: the calculated tags are right. -/
import Derived.Test.YtagoolooikpabaaGreatDoorHVMem
import Derived.Test.YtagoolooikpabaaGreatDoorHVTre
set_option linter.all false
namespace Go.Proofs.YtagoolooikpabaaGreatDoor
open Go Go.RowKit
set_option maxRecDepth 100000
set_option maxHeartbeats 4000000
variable {H : Hp} {K : AV → Hp → Prop}
attribute [go_sem] kyA
@[go_sem] theorem mapK_sb : mapK Tryz.prog 180 = some 182 := kRf
@[go_sem] theorem mapZ_sb : (mapE Tryz.prog 180).bind (zeroA Tryz.prog) = some (.c (.bool false)) := kRf
theorem fields_sb : fieldsK Tryz.prog 182 = some [(0, 3), (1, 1)] := kRf
theorem keyT_sb (k : Ky) : keyT Tryz.prog 182 (.agg [.str k.1, .int .i64 k.2]) = true := kRf
@[go_sem] def truA (_ : Ky) : AV := .c (.bool true)
theorem appKyP {i q ty : Nat} {own : Bool} {J : AV → Hp → Prop} (l : List Ky) (x : Ky) (l2 : List Ky) (e : l2 = l ++ [x]) (hi : H[i]? = some (grO 182 2 (l.map kyA))) (hj : H[q]? = some (.row ty 2 [[.str x.1, .int .i64 x.2]] own)) (hb : l.length ≤ 1000000000)
  (h : J (.c (grV H.length l2)) (H.set i .dead ++ [grO 182 2 (l2.map kyA)])) : aBuiltin Tryz.prog .append #[107, 107] [.c (grV i l), .c (.sl (some (q, 0)) 1)] H J := by
 subst e
 exact app_grR (enc := kyA) (e := 182) (sz := 2) (bs := 24) (z := [.str .empty, .int .i64 0]) l [x] kRf kRf kRf kRf hi (by rw [hj]; rfl) sMp rfl (by decide) (by simp; omega) (by simp; omega) h
def shS (H : Hp) (a : Nat) (S : List Ky) (j : Nat) (L : Hp) : Hp := H ++ (.row 76 1 [[.map (some a)]] true :: mpO (S.map (memE truA)) :: .row 180 1 [[.map (some (H.length + 1))]] true :: .row 107 1 [[grV (H.length + 5 + j) S]] true :: .row 183 1 [[.fn 125 [] [(H.length + 2, 0, 0), (H.length + 3, 0, 0)]]] true :: L)
theorem shS_len (H : Hp) (a : Nat) (S : List Ky) (j : Nat) (L : Hp) : (shS H a S j L).length = H.length + 5 + L.length := by unfold shS; simp; omega
theorem shS_lt (H : Hp) (a : Nat) (S : List Ky) (j : Nat) (L : Hp) {i : Nat} (h : i < H.length) : (shS H a S j L)[i]? = H[i]? := by unfold shS; rw [List.getElem?_append_left h]
theorem shS_0 (H : Hp) (a : Nat) (S : List Ky) (j : Nat) (L : Hp) : (shS H a S j L)[H.length]? = some (.row 76 1 [[.map (some a)]] true) := by unfold shS; simp
theorem shS_1 (H : Hp) (a : Nat) (S : List Ky) (j : Nat) (L : Hp) : (shS H a S j L)[H.length + 1]? = some (mpO (S.map (memE truA))) := by unfold shS; simp
theorem shS_2 (H : Hp) (a : Nat) (S : List Ky) (j : Nat) (L : Hp) : (shS H a S j L)[H.length + 2]? = some (.row 180 1 [[.map (some (H.length + 1))]] true) := by unfold shS; simp
theorem shS_3 (H : Hp) (a : Nat) (S : List Ky) (j : Nat) (L : Hp) : (shS H a S j L)[H.length + 3]? = some (.row 107 1 [[grV (H.length + 5 + j) S]] true) := by unfold shS; simp
theorem shS_4 (H : Hp) (a : Nat) (S : List Ky) (j : Nat) (L : Hp) : (shS H a S j L)[H.length + 4]? = some (.row 183 1 [[.fn 125 [] [(H.length + 2, 0, 0), (H.length + 3, 0, 0)]]] true) := by unfold shS; simp
theorem shS_L (H : Hp) (a : Nat) (S : List Ky) (j : Nat) (L : Hp) (p : Nat) : (shS H a S j L)[H.length + 5 + p]? = L[p]? := by
 unfold shS
 rw [List.getElem?_append_right oMg, show H.length + 5 + p - H.length = p + 5 by omega]
 simp
theorem set_at (A L : Hp) (k : Nat) (o : AObj) : (A ++ L).set (A.length + k) o = A ++ L.set k o := by rw [List.set_append_right _ _ oMg, Nat.add_sub_cancel_left]
theorem shS_put (H : Hp) (a : Nat) (S S2 : List Ky) (j : Nat) (L : Hp) (hj : j < L.length) (r1 r2 g : AObj) : (((shS H a S j L).set (H.length + 1) (mpO (S2.map (memE truA))) ++ [r1, r2]).set (H.length + 5 + j) .dead ++ [g]).set (H.length + 3) (.row 107 1 [[grV (H.length + 5 + (L.length + 2)) S2]] true) = shS H a S2 (L.length + 2) (L.set j .dead ++ [r1, r2, g]) := by
 unfold shS
 rw [show H.length + 5 + j = H.length + (j + 5) by omega]
 simp only [set_at, List.set_cons_succ, List.set_cons_zero, List.append_assoc, List.cons_append, List.nil_append]
 rw [List.set_append_left _ _ hj]
 simp only [set_at, List.set_cons_succ, List.set_cons_zero, List.append_assoc, List.cons_append, List.nil_append]
theorem put_sh {a : Nat} (S : List Ky) {j : Nat} {L : Hp} (hL : L[j]? = some (grO 182 2 (S.map kyA))) (x : Ky) (hS : S.length ≤ 100000) (hk : ∀ (j2 : Nat) (L2 : Hp), L2[j2]? = some (grO 182 2 ((addK S x).map kyA)) → (∀ p, p < L.length → p ≠ j → L2[p]? = L[p]? ∧ p ≠ j2) → L.length ≤ L2.length → K (.tup []) (shS H a (addK S x) j2 L2)) : ACalls Tryz.prog 125 [.agg [.str x.1, .int .i64 x.2], .c (.ptr (some (H.length + 2, 0, 0))), .c (.ptr (some (H.length + 3, 0, 0)))] (shS H a S j L) K := by
 obtain ⟨Z, hZ⟩ : ∃ Z, Z = shS H a S j L := ⟨_, rfl⟩
 have h1 := shS_1 H a S j L
 have h2 := shS_2 H a S j L
 have h3 := shS_3 H a S j L
 have hj := (shS_L H a S j L j).trans hL
 have hjl := getElem?_lt hL
 have hl := shS_len H a S j L
 have hg := get_mem fields_sb x (keyT_sb x) truA (.c (.bool false)) S
 have hp := put_mem fields_sb x (keyT_sb x) truA S
 have hle := addK_len S x
 rw [← hZ] at h1 h2 h3 hj hl
 by_cases hm : x ∈ S
 ·have e : addK S x = S := if_pos hm
  rw [e] at hk
  have hk := hk j L hL (fun p _ h => ⟨rfl, h⟩) lRf
  rw [← hZ] at hk
  rw [if_pos hm] at hg
  rw [← hZ]
  clear hZ
  refine acalls Tryz.func125 rfl kRf gT (fun hH => ?_)
  refine gO3 h1 h2 h3 ?_
  refine look_mp kRf hg rfl ?_
  refine gO ?_
  exact Ret.drop (v := .tup []) hH lRf oKs hk
 ·have e : addK S x = S ++ [x] := if_neg hm
  rw [if_neg hm] at hg
  rw [← hZ]
  refine acalls Tryz.func125 rfl kRf gT (fun hH => ?_)
  refine gO3 h1 h2 h3 ?_
  refine look_mp kRf hg rfl ?_
  refine gO3 h1 h2 h3 ?_
  refine mup_mp kRf hp ?_
  refine gO3 h1 h2 h3 ?_
  refine appKyP S x (addK S x) e (by rw [List.getElem?_append_left (by rw [List.length_set]; omega), List.getElem?_set_ne oMg]; exact hj) (by rw [List.getElem?_append_right (by rw [List.length_set]; omega), List.length_set, show Z.length + 1 - Z.length = 1 by omega]; rfl) oMg ?_
  obtain ⟨Y, hY⟩ : ∃ Y, Y = (Z.set (H.length + 1) (mpO ((addK S x).map (memE truA))) ++ [AObj.row 182 2 [[.str x.1, .int .i64 x.2]] true, AObj.row 182 2 [[.str x.1, .int .i64 x.2]] true]).set (H.length + 5 + j) .dead ++ [grO 182 2 ((addK S x).map kyA)] := ⟨_, rfl⟩
  have hY3 : Y[H.length + 3]? = some (.row 107 1 [[grV (H.length + 5 + j) S]] true) := by
   rw [hY, List.getElem?_append_left (by simp; omega), List.getElem?_set_ne oMg, List.getElem?_append_left (by rw [List.length_set]; omega), List.getElem?_set_ne oMg]
   exact h3
  have hk := hk (L.length + 2) (L.set j .dead ++ [AObj.row 182 2 [[.str x.1, .int .i64 x.2]] true, AObj.row 182 2 [[.str x.1, .int .i64 x.2]] true, grO 182 2 ((addK S x).map kyA)]) (by rw [List.getElem?_append_right sMp, List.length_set, Nat.add_sub_cancel_left]; rfl) (fun p hp1 hp2 => ⟨by rw [List.getElem?_append_left (by simpa using hp1), List.getElem?_set_ne (Ne.symm hp2)], by omega⟩) sMp
  rw [← hY]
  have hln : (Z.set (H.length + 1) (mpO ((addK S x).map (memE truA))) ++ [AObj.row 182 2 [[.str x.1, .int .i64 x.2]] true, AObj.row 182 2 [[.str x.1, .int .i64 x.2]] true]).length = H.length + 5 + (L.length + 2) := by simp; omega
  rw [hln]
  have hYl : Y.length = H.length + 8 + L.length := by rw [hY, List.length_append, List.length_set, hln]; simp; omega
  have hfin := shS_put H a S (addK S x) j L hjl (AObj.row 182 2 [[.str x.1, .int .i64 x.2]] true) (AObj.row 182 2 [[.str x.1, .int .i64 x.2]] true) (grO 182 2 ((addK S x).map kyA))
  rw [← hZ, ← hY] at hfin
  rw [← hfin] at hk
  clear hY hZ
  refine gO1 hY3 ?_
  exact Ret.same (by rw [List.length_set]; omega) hk
def shI (H : Hp) (a : Nat) (cs : List Cal) (S0 : List Ky) (x : Ky) (q : Nat) (D : List (List UInt8 × Int)) (X : Hp) : Prop := ∃ j L, X = shS H a (addL S0 ((D.map (kidP cs x.2)).flatten)) j L ∧ L[j]? = some (grO 182 2 ((addL S0 ((D.map (kidP cs x.2)).flatten)).map kyA)) ∧ L[q]? = some (.row 182 2 [[.str x.1, .int .i64 x.2]] true) ∧ q ≠ j
theorem shI_snoc (cs : List Cal) (S0 : List Ky) (x : Ky) (D : List (List UInt8 × Int)) (p : List UInt8 × Int) : addL S0 (((D ++ [p]).map (kidP cs x.2)).flatten) = addL (addL S0 ((D.map (kidP cs x.2)).flatten)) (kidP cs x.2 p) := by
 rw [List.map_append, List.flatten_append, addL_app]
 simp
theorem kidP_len (cs : List Cal) (s : Int) : ∀ D : List (List UInt8 × Int), ((D.map (kidP cs s)).flatten).length ≤ D.length
 | [] => by simp
 | p :: D => by
  have h1 := kidP_len cs s D
  have h2 : (kidP cs s p).length ≤ 1 := by unfold kidP; split <;> simp
  rw [List.map_cons, List.flatten_cons, List.length_append, List.length_cons]
  omega
theorem shTakes {cs : List Cal} (hF : clF cs = 0) {H : Hp} {a : Nat} (ha : H[a]? = some (trO cs)) {S0 : List Ky} (hS : S0.length ≤ 1000) {x : Ky} (hx : -1000000000000 ≤ x.2 ∧ x.2 ≤ 1000000000000) {q : Nat} : TakesE (shI H a cs S0 x q) (fun p => 0 ≤ p.2 ∧ p.2 ≤ 86400000) 126 [(H.length, 0, 0), (H.length + 4, 0, 0), (H.length + 5 + q, 0, 0)] := by
 have he1 : entersB Tryz.prog 125 = true := by kernel_rfl
 refine ⟨by kernel_rfl, ?_⟩
 rintro _ K D p ⟨j, L, rfl, hj, hq, hqj⟩ hp hD hk
 have hql := getElem?_lt hq
 have hdl := kidP_len cs x.2 D
 have hsn := shI_snoc cs S0 x D p
 have hsl := addL_len ((D.map (kidP cs x.2)).flatten) S0
 have hk2 : ∀ j2 L2, L2[j2]? = some (grO 182 2 ((addL (addL S0 ((D.map (kidP cs x.2)).flatten)) (kidP cs x.2 p)).map kyA)) → (∀ p, p < L.length → p ≠ j → L2[p]? = L[p]? ∧ p ≠ j2) → L.length ≤ L2.length → K (.tup []) (shS H a (addL (addL S0 ((D.map (kidP cs x.2)).flatten)) (kidP cs x.2 p)) j2 L2) := fun j2 L2 h1 h2 h3 => by
  refine hk _ ⟨j2, L2, by rw [hsn], by rw [hsn]; exact h1, (h2 q hql hqj).1.trans hq, (h2 q hql hqj).2⟩ ?_
  rw [shS_len, shS_len]
  omega
 generalize addL S0 ((D.map (kidP cs x.2)).flatten) = S at *
 have hal := getElem?_lt ha
 have hg := get_tr (tB p.1) cs
 obtain ⟨Z, hZ⟩ : ∃ Z, Z = shS H a S j L := ⟨_, rfl⟩
 have h0 := shS_0 H a S j L
 have h4 := shS_4 H a S j L
 have hGq := (shS_L H a S j L q).trans hq
 have hza := (shS_lt H a S j L hal).trans ha
 have hl := shS_len H a S j L
 rw [← hZ] at h0 h4 hGq hza hl ⊢
 unfold trO at hza
 by_cases hc : tB p.1 ∈ nmC cs
 ·have e : kidP cs x.2 p = [(tB p.1, x.2 + p.2)] := if_pos hc
  have e2 : addL S [(tB p.1, x.2 + p.2)] = addK S (tB p.1, x.2 + p.2) := rfl
  rw [e, e2] at hk2
  obtain ⟨c, _, _, hf⟩ := find_some hc hF
  rw [hf] at hg
  refine acalls Tryz.func126 rfl kRf gT (fun hH => ?_)
  refine gO4 h0 h4 hGq hza ?_
  refine look_mp kRf hg rfl ?_
  refine gO4 h0 h4 hGq he1 ?_
  rw [hZ]
  refine put_sh S hj (tB p.1, x.2 + p.2) oMg (fun j2 L2 k1 k2 k3 => ?_)
  refine gO ?_
  exact Ret.same (by rw [shS_len, shS_len]; omega) (hk2 j2 L2 k1 k2 k3)
 ·have e : kidP cs x.2 p = [] := if_neg hc
  have e2 : addL S [] = S := rfl
  rw [e, e2] at hk2
  have hk2 := hk2 j L hj (fun p _ h => ⟨rfl, h⟩) lRf
  rw [← hZ] at hk2
  rw [find_none hc] at hg
  refine acalls Tryz.func126 rfl kRf gT (fun hH => ?_)
  refine gO4 h0 h4 hGq hza ?_
  refine look_mp kRf hg rfl ?_
  refine gO ?_
  exact Ret.same lRf hk2
theorem leaf_bd : ∀ {e : Ex}, ExOk e → ∀ p ∈ leafE e, 0 ≤ p.2 ∧ p.2 ≤ 86400000
 | .num _, _, p, h => by cases h
 | .tag x none, _, p, h => by rw [List.mem_singleton.1 h]; exact ⟨Int.le_refl _, by show (0 : Int) ≤ _; omega⟩
 | .tag x (some n), he, p, h => by rw [List.mem_singleton.1 h]; exact he.2 n rfl
 | .neg a, he, p, h => leaf_bd (e := a) he p h
 | .bin _ a b, he, p, h => (List.mem_append.1 h).elim (leaf_bd he.2.1 p) (leaf_bd he.2.2 p)
 | .f1 _ a, he, p, h => leaf_bd (e := a) he.2 p h
 | .f2 _ a b, he, p, h => (List.mem_append.1 h).elim (leaf_bd he.2.1 p) (leaf_bd he.2.2 p)
 | .f3 _ a b c, he, p, h => (List.mem_append.1 h).elim (fun h => (List.mem_append.1 h).elim (leaf_bd he.2.1 p) (leaf_bd he.2.2.1 p)) (leaf_bd he.2.2.2 p)
def ShB (cs : List Cal) (i : Nat) (S : List Ky) : Prop := ∀ x ∈ S, x.1 ∈ nmC cs ∧ 0 ≤ x.2 ∧ x.2 ≤ 86400000 * i
theorem ShB.step {cs : List Cal} (hF : clF cs = 0) {i : Nat} {S : List Ky} (h : ShB cs i S) {k : Nat} (hk : k < S.length) : ShB cs (i + 1) (addL S (kidK cs S[k])) := by
 intro x hx
 rcases addL_mem.1 hx with g | g
 ·obtain ⟨h1, h2, h3⟩ := h x g
  exact ⟨h1, h2, by omega⟩
 ·obtain ⟨h1, h2, h3⟩ := h _ (List.getElem_mem hk)
  unfold kidK at g
  obtain ⟨l, hl, hxl⟩ := List.mem_flatten.1 g
  obtain ⟨p, hp, rfl⟩ := List.mem_map.1 hl
  have hb := leaf_bd (exT_ok hF S[k].1).1 p hp
  unfold kidP at hxl
  split at hxl
  ·rename_i hm
   rw [List.mem_singleton.1 hxl]
   exact ⟨hm, by dsimp only; omega, by dsimp only; omega⟩
  ·cases hxl
theorem ShB.zero {cs : List Cal} {A : List Nme} (h : ∀ t ∈ A, t ∈ nmC cs) : ShB cs 0 (addL [] (A.map fun t => (t, 0))) := by
 intro x hx
 rcases addL_mem.1 hx with g | g
 ·cases g
 ·obtain ⟨t, ht, rfl⟩ := List.mem_map.1 g
  exact ⟨h t ht, Int.le_refl _, by simp⟩
def shV (o : Option (List Ky)) : AV := match o with
 | some R => .tup [.c (.lst 2 (R.map kyA)), (.c (.bool true))]
 | none => .tup [.c (.lst 2 []), (.c (.bool false))]
theorem shifts_a {cs : List Cal} (hF : clF cs = 0) {a : Nat} (ha : H[a]? = some (trO cs)) (A : List Nme) (hA : A.length ≤ 1000) (hAm : ∀ t ∈ A, t ∈ nmC cs) (hk : K (shV (shR cs A)) H) : ACalls Tryz.prog 77 [.c (.map (some a)), .c (.lst 1 (A.map encSs))] H K := by
 have he1 : entersB Tryz.prog 125 = true := by kernel_rfl
 have he2 : entersB Tryz.prog 126 = true := by kernel_rfl
 have hal := getElem?_lt ha
 refine acalls Tryz.func77 rfl kRf gT (fun hH => ?_)
 refine gO1 he1 ?_
 refine AWp.loop (H.length + 5) [2, 7, 8, 15, 16] [17] (fun (s : Nat × Nat × Hp) => s.1 ≤ A.length ∧ s.2.2[s.2.1]? = some (grO 182 2 ((addL [] ((A.take s.1).map fun t => (t, 0))).map kyA))) (fun (s : Nat × Nat × Hp) => [(17, (.c (.int .i64 (s.1))))]) (fun (s : Nat × Nat × Hp) => shS H a (addL [] ((A.take s.1).map fun t => (t, 0))) s.2.1 s.2.2) (fun (s : Nat × Nat × Hp) => A.length - s.1) kRf (fun _ => rfl) kRf sOo sOm kl ?_ (fun s hs1 _ hH2 => ?_)
 ·refine Next.mk (0, 0, [.dead]) ⟨by simp, rfl⟩ ?_
  exact WkL.padP [_, _, _, _, _] sMp
 obtain ⟨k, j, L⟩ := s
 obtain ⟨hs1, hs2⟩ := hs1
 dsimp only at hs1 hs2 ⊢
 have h4 := shS_4 H a (addL [] ((A.take k).map fun t => (t, 0))) j L
 by_cases hlt : k < A.length
 ·have hsn : addK (addL [] ((A.take k).map fun t => (t, 0))) (A[k], 0) = addL [] ((A.take (k + 1)).map fun t => (t, 0)) := by
   rw [List.take_succ_eq_append_getElem hlt, List.map_append, List.map_cons, List.map_nil, addL_snoc]
  have hsl := addL_len ((A.take k).map fun t => ((t, 0) : Ky)) []
  rw [List.length_map, List.length_take, List.length_nil] at hsl
  simp (disch := first | omega | (simp only [go_sem]; try omega)) only [go_sem, h4, hlt, he1]
  refine put_sh _ hs2 (A[k], 0) oMg (fun j2 L2 k1 k2 k3 => ?_)
  rw [hsn] at k1 ⊢
  refine gO ?_
  refine Next.mk (k + 1, j2, L2) ⟨⟨by dsimp only; omega, k1⟩, by dsimp only; omega⟩ ?_
  refine gO ?_
  exact WkL.refl (by rw [shS_len]; omega)
 ·have hke : k = A.length := by omega
  subst hke
  rw [List.take_of_length_le lRf] at hs2 ⊢
  have hsl := addL_len (A.map fun t => ((t, 0) : Ky)) []
  rw [List.length_map, List.length_nil] at hsl
  have hB := ShB.zero (cs := cs) hAm
  have hR : shG cs 2000 0 (addL [] (A.map fun t => (t, 0))) = shR cs A := rfl
  generalize addL [] (A.map fun t => ((t, 0) : Ky)) = S0 at *
  have hl0 := shS_len H a S0 j L
  refine gO ?_
  refine AWp.loop (H.length + 5) [2, 7, 8] [11] (fun (s : Nat × List Ky × Nat × Hp × Nat) => s.1 ≤ s.2.1.length ∧ s.1 ≤ 1000 ∧ 2000 ≤ s.2.2.2.2 + s.1 ∧ shG cs s.2.2.2.2 s.1 s.2.1 = shR cs A ∧ ShB cs s.1 s.2.1 ∧ s.2.1.length ≤ 2000 ∧ s.2.2.2.1[s.2.2.1]? = some (grO 182 2 (s.2.1.map kyA))) (fun (s : Nat × List Ky × Nat × Hp × Nat) => [(11, (.c (.int .i64 (s.1))))]) (fun (s : Nat × List Ky × Nat × Hp × Nat) => shS H a s.2.1 s.2.2.1 s.2.2.2.1) (fun (s : Nat × List Ky × Nat × Hp × Nat) => 2000 - s.1) kRf (fun _ => rfl) kRf sOo sOm kl ?_ (fun s hs3 _ hH2 => ?_)
  ·refine Next.mk (0, S0, j, L, 2000) ⟨Nat.zero_le _, by dsimp only; omega, by dsimp only; omega, hR, hB, by dsimp only; omega, hs2⟩ ?_
   refine gO ?_
   exact WkL.refl (by rw [shS_len]; omega)
  clear hs2 hs1 hsl hB hR h4 hl0
  obtain ⟨i, S, j, L, f⟩ := s
  obtain ⟨m1, m2, m3, m4, m5, m6, m7⟩ := hs3
  dsimp only at m1 m2 m3 m4 m5 m6 m7 ⊢
  have h0 := shS_0 H a S j L
  have h3 := shS_3 H a S j L
  have h4 := shS_4 H a S j L
  have hj := (shS_L H a S j L j).trans m7
  have hza := (shS_lt H a S j L hal).trans ha
  have hl := shS_len H a S j L
  have hjl := getElem?_lt m7
  by_cases hlt : i < S.length
  ·have hne : S ≠ [] := by rintro rfl; exact absurd hlt sMp
   obtain ⟨g, rfl⟩ : ∃ g, f = g + 1 := ⟨f - 1, by omega⟩
   unfold shG at m4
   rw [dif_pos hlt] at m4
   by_cases hbig : 1000 < S.length
   ·rw [if_pos hbig] at m4
    rw [← m4] at hk
    refine gO3 h3 hlt hbig ?_
    unfold shS
    exact Ret.nilT hH lRf rfl hk
   ·rw [if_neg hbig] at m4
    obtain ⟨b1, b2, b3⟩ := m5 _ (List.getElem_mem hlt)
    have hB2 := m5.step hF hlt
    obtain ⟨c, hcm, _, hf⟩ := find_some b1 hF
    have hg := get_tr S[i].1 cs
    rw [hf] at hg
    have hex : exT cs S[i].1 = exC c := by unfold exT; rw [hf]
    have hok := exC_ok hF hcm
    have hlf := leaf_sz (exC c)
    have hkk : kidK cs S[i] = ((leafE (exC c)).map (kidP cs S[i].2)).flatten := by unfold kidK; rw [hex]
    have hkl := kidP_len cs S[i].2 (leafE (exC c))
    rw [hkk] at m4 hB2
    have hal2 := addL_len (((leafE (exC c)).map (kidP cs S[i].2)).flatten) S
    have happ : ∀ r, shS H a S j L ++ [r] = shS H a S j (L ++ [r]) := fun r => by unfold shS; simp
    rw [grV_pos _ hne] at h3
    rw [grO_pos _ _ (by simpa using hne)] at hj
    unfold trO at hza
    simp (disch := first | omega | (simp only [go_sem]; try omega)) only [go_sem, h3, hlt, hbig, hj, h0, hza]
    refine look_mp kRf hg rfl ?_
    refine gO1 he2 ?_
    rw [happ, hl]
    refine eachI_a (shTakes hF ha (S0 := S) oMg (x := S[i]) oMg (q := L.length)) (exC c) [] ⟨j, L ++ [.row 182 2 [[.str S[i].1, .int .i64 S[i].2]] true], rfl, by rw [List.getElem?_append_left hjl]; exact m7, by simp, by omega⟩ (leaf_bd hok.1) (by simp only [List.length_nil]; omega) hok.1 (fun Y hI hle => ?_)
    obtain ⟨j2, L2, rfl, k1, k2, k3⟩ := hI
    rw [List.nil_append] at k1 ⊢
    have hl2 := shS_len H a (addL S (((leafE (exC c)).map (kidP cs S[i].2)).flatten)) j2 L2
    refine gO ?_
    refine Next.mk (i + 1, addL S (((leafE (exC c)).map (kidP cs S[i].2)).flatten), j2, L2, g) ⟨⟨by dsimp only; omega, by dsimp only; omega, by dsimp only; omega, m4, hB2, by dsimp only; omega, k1⟩, by dsimp only; omega⟩ ?_
    refine gO ?_
    exact WkL.refl oMg
  ·have hR : shR cs A = some S := by
    rw [← m4]
    cases f with
    | zero => rfl
    | succ f => unfold shG; rw [dif_neg hlt]
   have hR2 := (shR_some hR).2.1
   rw [hR] at hk
   have hk : K (.tup [.c (.lst 2 (S.map kyA)), (.c (.bool true))]) H := hk
   refine gO2 h3 hlt ?_
   refine w_tree (.one 0 (.one 1 (.one 2 (.one 3 (.one 4 (.one 5 .done)))))) kRf dKn ?_
   refine gO2 h3 hR2 ?_
   unfold shS
   repeat' first | (exact Ret.frzGrT (j + 5) hH lRf (by simpa using m7) (pureL_map _ pUr) rfl (by rw [show H.length + 5 + j = H.length + (j + 5) by omega]; exact (map_grV _ _ _).symm) hk) | apply And.intro
end Go.Proofs.YtagoolooikpabaaGreatDoor
