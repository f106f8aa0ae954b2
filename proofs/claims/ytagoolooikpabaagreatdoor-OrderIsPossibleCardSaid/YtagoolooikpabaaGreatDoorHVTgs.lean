/- Tags of expressions, the program's side. Condition: no more nodes than the source gives. -/
import Derived.Test.YtagoolooikpabaaGreatDoorHVKnd
import Derived.Test.YtagoolooikpabaaGreatDoorHVCpt
set_option linter.all false
namespace Go.Proofs.YtagoolooikpabaaGreatDoor
open Go Go.RowKit
set_option maxRecDepth 100000
set_option maxHeartbeats 4000000
def nmsE (e : Ex) : List ByteArray := (leafE e).map fun p => tB p.1
theorem nmsE_len (e : Ex) : (nmsE e).length ≤ szE e := by unfold nmsE; rw [List.length_map]; exact leaf_sz e
def tgS (A : Hp) (L : List ByteArray) (G : Hp) : Hp := A ++ (.row 29 1 [[grV (A.length + 1 + G.length) L]] true :: (G ++ [grO 9 1 (L.map encSs)]))
theorem tgS_len (A : Hp) (L : List ByteArray) (G : Hp) : (tgS A L G).length = A.length + G.length + 2 := by unfold tgS; simp; omega
theorem push_a {A G : Hp} {K : AV → Hp → Prop} (L : List ByteArray) (x : ByteArray) (v : Int) (hL : L.length ≤ 100000) (hk : ∀ G' : Hp, G.length ≤ G'.length → K (.tup []) (tgS A (L ++ [x]) G')) : ACalls Tryz.prog 106 [(.c (.str x)), (.c (.int .i64 v)), .c (.ptr (some (A.length, 0, 0)))] (tgS A L G) K := by
 have h0 : (tgS A L G)[A.length]? = some (.row 29 1 [[grV (A.length + 1 + G.length) L]] true) := by unfold tgS; simp
 have hj : (tgS A L G)[A.length + 1 + G.length]? = some (grO 9 1 (L.map encSs)) := by
  unfold tgS
  rw [List.getElem?_append_right (by omega), show A.length + 1 + G.length - A.length = G.length + 1 by omega, List.getElem?_cons_succ, List.getElem?_append_right (Nat.le_refl _), Nat.sub_self]
  rfl
 obtain ⟨L2, hL2⟩ : ∃ L2, L2 = L ++ [x] := ⟨_, rfl⟩
 rw [← hL2] at hk
 obtain ⟨r, hr⟩ : ∃ r, r = AObj.row 9 1 [[.str x]] true := ⟨_, rfl⟩
 have hlen := tgS_len A L G
 have e1 : (tgS A L G ++ [r]).set (A.length + 1 + G.length) .dead = A ++ (.row 29 1 [[grV (A.length + 1 + G.length) L]] true :: (G ++ [.dead, r])) := by
  unfold tgS
  rw [List.append_assoc, List.set_append_right _ _ (by omega), show A.length + 1 + G.length - A.length = G.length + 1 by omega, List.cons_append, List.set_cons_succ, List.append_assoc, List.set_append_right _ _ (Nat.le_refl _), Nat.sub_self]
  rfl
 have e2 : ∀ (o o2 : AObj) (M N : Hp), (A ++ (o :: M) ++ N).set A.length o2 = A ++ (o2 :: (M ++ N)) := by
  intro o o2 M N
  rw [List.append_assoc, List.set_append_right _ _ (Nat.le_refl _), Nat.sub_self]
  rfl
 have e3 : ∀ (o : AObj) (M N : Hp), (A ++ (o :: M) ++ N)[A.length]? = some o := by
  intro o M N
  rw [List.append_assoc, List.getElem?_append_right (Nat.le_refl _), Nat.sub_self]
  rfl
 have hk := hk (G ++ [.dead, r]) (by simp)
 have hsz := tgS_len A L2 (G ++ [.dead, r])
 unfold tgS at hk hsz
 rw [show A.length + 1 + (G ++ [.dead, r]).length = (tgS A L G).length + 1 by rw [hlen]; simp; omega] at hk hsz
 refine acalls Tryz.func106 rfl (by kernel_rfl) (by simp (disch := first | omega | (simp only [go_sem]; try omega)) only [go_sem]) (fun hH => ?_)
 simp (disch := first | omega | (simp only [go_sem]; try omega)) only [go_sem, h0]
 rw [← hr]
 refine appSs L x L2 hL2 (by rw [List.getElem?_append_left (by omega)]; exact hj) (by rw [hr]; exact (by first | ((repeat first | exact at0 (by simp) | refine atS ?_); done) | assumption)) (by omega) ?_
 rw [e1]
 simp (disch := first | omega | (simp only [go_sem]; try omega)) only [go_sem, e2, e3]
 rw [List.append_assoc] at hk hsz
 refine Ret.same ?_ hk
 rw [hlen]
 simp
 omega
theorem each_a : ∀ (e : Ex) {A G : Hp} {K : AV → Hp → Prop} (L : List ByteArray), L.length + szE e ≤ 1000 → ExOk e → (∀ G' : Hp, G.length ≤ G'.length → K (.tup []) (tgS A (L ++ nmsE e) G')) → ACalls Tryz.prog 105 [.c (.fp (encNd e)), .c (.fn 106 [] [(A.length, 0, 0)])] (tgS A L G) K
 | .num n, A, G, K, L, hs, he, hk => by
  have hk := hk G (Nat.le_refl _)
  rw [show L ++ nmsE (.num n) = L from List.append_nil _] at hk
  unfold encNd
  refine acalls Tryz.func105 rfl (by kernel_rfl) (by simp (disch := first | omega | (simp only [go_sem]; try omega)) only [go_sem]) (fun hH => ?_)
  simp (disch := first | omega | (simp only [go_sem]; try omega)) only [go_sem]
  refine AWp.rounds 0 (by kernel_rfl) ?_
  simp (disch := first | omega | (simp only [go_sem]; try omega)) only [go_sem]
  exact Ret.same (Nat.le_refl _) hk
 | .tag x none, A, G, K, L, hs, he, hk => by
  simp only [szE] at hs
  have hent : entersB Tryz.prog 106 = true := by kernel_rfl
  unfold encNd
  refine acalls Tryz.func105 rfl (by kernel_rfl) (by simp (disch := first | omega | (simp only [go_sem]; try omega)) only [go_sem]) (fun hH => ?_)
  simp (disch := first | omega | (simp only [go_sem]; try omega)) only [go_sem, hent]
  refine w_draw (by kernel_rfl) (by decide +kernel) ?_
  simp (disch := first | omega | (simp only [go_sem]; try omega)) only [go_sem, hent]
  refine push_a L (tB x) 0 (by omega) (fun G1 h1 => ?_)
  simp (disch := first | omega | (simp only [go_sem]; try omega)) only [go_sem]
  refine AWp.rounds 0 (by kernel_rfl) ?_
  simp (disch := first | omega | (simp only [go_sem]; try omega)) only [go_sem]
  exact Ret.same (by rw [tgS_len, tgS_len]; omega) (hk G1 h1)
 | .tag x (some v), A, G, K, L, hs, he, hk => by
  simp only [szE] at hs
  have hent : entersB Tryz.prog 106 = true := by kernel_rfl
  unfold encNd
  refine acalls Tryz.func105 rfl (by kernel_rfl) (by simp (disch := first | omega | (simp only [go_sem]; try omega)) only [go_sem]) (fun hH => ?_)
  simp (disch := first | omega | (simp only [go_sem]; try omega)) only [go_sem, hent]
  refine w_draw (by kernel_rfl) (by decide +kernel) ?_
  simp (disch := first | omega | (simp only [go_sem]; try omega)) only [go_sem, hent]
  refine push_a L (tB x) v (by omega) (fun G1 h1 => ?_)
  simp (disch := first | omega | (simp only [go_sem]; try omega)) only [go_sem]
  refine AWp.rounds 0 (by kernel_rfl) ?_
  simp (disch := first | omega | (simp only [go_sem]; try omega)) only [go_sem]
  exact Ret.same (by rw [tgS_len, tgS_len]; omega) (hk G1 h1)
 | .neg a, A, G, K, L, hs, he, hk => by
  simp only [szE] at hs
  unfold encNd
  refine acalls Tryz.func105 rfl (by kernel_rfl) (by simp (disch := first | omega | (simp only [go_sem]; try omega)) only [go_sem]) (fun hH => ?_)
  simp (disch := first | omega | (simp only [go_sem]; try omega)) only [go_sem]
  refine AWp.rounds 1 (by kernel_rfl) ?_
  simp (disch := first | omega | (simp only [go_sem]; try omega)) only [go_sem]
  refine each_a a L (by omega) he (fun G1 h1 => ?_)
  have hk := hk G1 h1
  rw [show nmsE (.neg a) = nmsE a from rfl] at hk
  simp (disch := first | omega | (simp only [go_sem]; try omega)) only [go_sem]
  exact Ret.same (by rw [tgS_len, tgS_len]; omega) hk
 | .bin c a b, A, G, K, L, hs, he, hk => by
  simp only [szE] at hs
  have := nmsE_len a
  have := nmsE_len b
  obtain ⟨⟨k1, k2, k3⟩, k4⟩ := op_kind (c := c) he.1
  unfold encNd
  refine acalls Tryz.func105 rfl (by kernel_rfl) (by simp (disch := first | omega | (simp only [go_sem]; try omega)) only [go_sem]) (fun hH => ?_)
  simp (disch := first | omega | (simp only [go_sem]; try omega)) only [go_sem, k2]
  refine AWp.rounds 2 (by kernel_rfl) ?_
  simp (disch := first | omega | (simp only [go_sem]; try omega)) only [go_sem]
  refine each_a a (L) (by first | omega | (simp only [List.length_append]; omega)) he.2.1 (fun G1 h1 => ?_)
  simp (disch := first | omega | (simp only [go_sem]; try omega)) only [go_sem]
  refine each_a b (L ++ nmsE a) (by first | omega | (simp only [List.length_append]; omega)) he.2.2 (fun G2 h2 => ?_)
  have hk := hk G2 (by omega)
  rw [show L ++ nmsE (Ex.bin c a b) = L ++ (nmsE a ++ nmsE b) by simp [nmsE, leafE]] at hk
  simp (disch := first | omega | (simp only [go_sem]; try omega)) only [go_sem]
  exact Ret.same (by rw [tgS_len, tgS_len]; omega) hk
 | .f1 f a, A, G, K, L, hs, he, hk => by
  simp only [szE] at hs
  have := nmsE_len a
  obtain ⟨k1, k2, k3⟩ := fn_kind (f := f) (by have := he.1; omega)
  unfold encNd
  refine acalls Tryz.func105 rfl (by kernel_rfl) (by simp (disch := first | omega | (simp only [go_sem]; try omega)) only [go_sem]) (fun hH => ?_)
  simp (disch := first | omega | (simp only [go_sem]; try omega)) only [go_sem, k2]
  refine AWp.rounds 1 (by kernel_rfl) ?_
  simp (disch := first | omega | (simp only [go_sem]; try omega)) only [go_sem]
  refine each_a a (L) (by first | omega | (simp only [List.length_append]; omega)) he.2 (fun G1 h1 => ?_)
  have hk := hk G1 (by omega)
  rw [show L ++ nmsE (Ex.f1 f a) = L ++ nmsE a by simp [nmsE, leafE]] at hk
  simp (disch := first | omega | (simp only [go_sem]; try omega)) only [go_sem]
  exact Ret.same (by rw [tgS_len, tgS_len]; omega) hk
 | .f2 f a b, A, G, K, L, hs, he, hk => by
  simp only [szE] at hs
  have := nmsE_len a
  have := nmsE_len b
  obtain ⟨k1, k2, k3⟩ := fn_kind (f := f) (by have := he.1; omega)
  unfold encNd
  refine acalls Tryz.func105 rfl (by kernel_rfl) (by simp (disch := first | omega | (simp only [go_sem]; try omega)) only [go_sem]) (fun hH => ?_)
  simp (disch := first | omega | (simp only [go_sem]; try omega)) only [go_sem, k2]
  refine AWp.rounds 2 (by kernel_rfl) ?_
  simp (disch := first | omega | (simp only [go_sem]; try omega)) only [go_sem]
  refine each_a a (L) (by first | omega | (simp only [List.length_append]; omega)) he.2.1 (fun G1 h1 => ?_)
  simp (disch := first | omega | (simp only [go_sem]; try omega)) only [go_sem]
  refine each_a b (L ++ nmsE a) (by first | omega | (simp only [List.length_append]; omega)) he.2.2 (fun G2 h2 => ?_)
  have hk := hk G2 (by omega)
  rw [show L ++ nmsE (Ex.f2 f a b) = L ++ (nmsE a ++ nmsE b) by simp [nmsE, leafE]] at hk
  simp (disch := first | omega | (simp only [go_sem]; try omega)) only [go_sem]
  exact Ret.same (by rw [tgS_len, tgS_len]; omega) hk
 | .f3 f a b c, A, G, K, L, hs, he, hk => by
  simp only [szE] at hs
  have := nmsE_len a
  have := nmsE_len b
  have := nmsE_len c
  obtain ⟨k1, k2, k3⟩ := fn_kind (f := f) (by have := he.1; omega)
  unfold encNd
  refine acalls Tryz.func105 rfl (by kernel_rfl) (by simp (disch := first | omega | (simp only [go_sem]; try omega)) only [go_sem]) (fun hH => ?_)
  simp (disch := first | omega | (simp only [go_sem]; try omega)) only [go_sem, k2]
  refine AWp.rounds 3 (by kernel_rfl) ?_
  simp (disch := first | omega | (simp only [go_sem]; try omega)) only [go_sem]
  refine each_a a (L) (by first | omega | (simp only [List.length_append]; omega)) he.2.1 (fun G1 h1 => ?_)
  simp (disch := first | omega | (simp only [go_sem]; try omega)) only [go_sem]
  refine each_a b (L ++ nmsE a) (by first | omega | (simp only [List.length_append]; omega)) he.2.2.1 (fun G2 h2 => ?_)
  simp (disch := first | omega | (simp only [go_sem]; try omega)) only [go_sem]
  refine each_a c (L ++ (nmsE a ++ nmsE b)) (by first | omega | (simp only [List.length_append]; omega)) he.2.2.2 (fun G3 h3 => ?_)
  have hk := hk G3 (by omega)
  rw [show L ++ nmsE (Ex.f3 f a b c) = L ++ (nmsE a ++ (nmsE b ++ nmsE c)) by simp [nmsE, leafE]] at hk
  simp (disch := first | omega | (simp only [go_sem]; try omega)) only [go_sem]
  exact Ret.same (by rw [tgS_len, tgS_len]; omega) hk
theorem ACalls.padD {P : Program} {f : FuncId} {args : List AV} {H : Hp} {K : AV → Hp → Prop} (h : ACalls P f args (H ++ [.dead]) K) : ACalls P f args H K := by
 intro B w0 ι w vs hs hr ho
 obtain ⟨ι', h1, h2, h3, _, _⟩ := WkL.pad (m := H.length) (vs := []) (Nat.le_refl _) B w0 ι w [] hs trivial (by simp)
 refine (h B w0 ι' w vs h3 (rel1L_agree h1 ho hr) (fun x hx => AV.ok1_mono (by simp) (ho x hx))).mono fun e w' he => ?_
 obtain ⟨ι2, u, av, H', rfl, k2, k3, k4, k5, k6, k7⟩ := he
 exact ⟨ι2, u, av, H', rfl, h1.trans k2 (by simp), by simp at k3; omega, k4, k5, k6, k7⟩
def tagsE (e : Ex) : List ByteArray := cplF (srtS (nmsE e))
theorem tagsN_a {H : Hp} {K : AV → Hp → Prop} (e : Ex) (hs : szE e ≤ 1000) (he : ExOk e) (hk : K (.c (.lst 1 ((tagsE e).map encSs))) H) : ACalls Tryz.prog 53 [.c (.fp (encNd e))] H K := by
 unfold tagsE at hk
 refine acalls Tryz.func53 rfl (by kernel_rfl) (by simp (disch := first | omega | (simp only [go_sem]; try omega)) only [go_sem]) (fun hH => ?_)
 simp (disch := first | omega | (simp only [go_sem]; try omega)) only [go_sem]
 refine ACalls.padD ?_
 have e0 : H ++ [AObj.row 29 1 [[.sl none 0]] true] ++ [.dead] = tgS H [] [] := by unfold tgS; simp [grV, grO]
 rw [e0]
 refine each_a e (A := H) (G := []) [] (by simpa using hs) he (fun G hG => ?_)
 rw [List.nil_append]
 have hln := nmsE_len e
 generalize nmsE e = L at *
 have hat : (tgS H L G)[H.length]? = some (.row 29 1 [[grV (H.length + 1 + G.length) L]] true) := by unfold tgS; simp
 obtain ⟨j, hj⟩ : ∃ j, j = H.length + 1 + G.length := ⟨_, rfl⟩
 have hj0 : (tgS H L G)[j]? = some (grO 9 1 (L.map encSs)) := by
  unfold tgS
  rw [hj, List.getElem?_append_right (by omega), show H.length + 1 + G.length - H.length = G.length + 1 by omega, List.getElem?_cons_succ, List.getElem?_append_right (Nat.le_refl _), Nat.sub_self]
  rfl
 have htl := tgS_len H L G
 have hlt := getElem?_lt hj0
 rw [← hj] at hat
 have hat2 : ∀ X : AObj, ((tgS H L G).set j X)[H.length]? = some (.row 29 1 [[grV j L]] true) := fun X => by rw [List.getElem?_set_ne (by omega)]; exact hat
 have hdr : ∀ X : AObj, ∃ G2, (tgS H L G).set j X = H ++ G2 := fun X => by
  refine ⟨(.row 29 1 [[grV (H.length + 1 + G.length) L]] true :: (G ++ [grO 9 1 (L.map encSs)])).set (j - H.length) X, ?_⟩
  unfold tgS
  rw [List.set_append_right _ _ (by omega)]
 simp (disch := first | omega | (simp only [go_sem]; try omega)) only [go_sem, hat]
 refine sortVSs_a L hj0 (by omega) ?_
 simp (disch := first | omega | (simp only [go_sem]; try omega)) only [go_sem, hat2]
 have hvl : grV j L = grV j (srtS L) := by
  have hSl := srtS_len L
  cases L with
  | nil => rw [List.length_eq_zero_iff.1 hSl]
  | cons x t => rw [grV_pos _ (by simp), grV_pos _ (by intro h; rw [h] at hSl; simp at hSl), hSl]
 rw [hvl]
 refine compactVSs_a (srtS L) (List.getElem?_set_self hlt) (by rw [srtS_len]; omega) ?_
 rw [List.set_set]
 obtain ⟨G2, hG2⟩ := hdr .dead
 rw [hG2]
 simp (disch := first | omega | (simp only [go_sem]; try omega)) only [go_sem]
 exact Ret.drop hH (Nat.le_refl _) (by simp [AV.ok, AV.ok1, AC.ok]) hk
theorem tagsP_a {H : Hp} {K : AV → Hp → Prop} (l : List UInt8) (hl : l.length ≤ 1000000) (hne : ∀ a c, parF l = .error (a, c) → c ≠ 0) (hk1 : ∀ e, parF l = .ok e → K (.tup [.c (.lst 1 ((tagsE e).map encSs)), (.c (.int .i64 0)), (.c (.int .i64 0))]) H) (hk2 : ∀ a c, parF l = .error (a, c) → K (.tup [.c (.lst 1 []), (.c (.int .i64 a)), (.c (.int .i64 c))]) H) : ACalls Tryz.prog 34 [(.c (.str (tB l)))] H K := by
 refine acalls Tryz.func34 rfl (by kernel_rfl) (by simp (disch := first | omega | (simp only [go_sem]; try omega)) only [go_sem]) (fun hH => ?_)
 simp (disch := first | omega | (simp only [go_sem]; try omega)) only [go_sem]
 refine parse_a l hl (fun e h => ?_) (fun a c h => ?_)
 ·have hk := hk1 e h
  have hs := par_sz h
  simp (disch := first | omega | (simp only [go_sem]; try omega)) only [go_sem]
  refine tagsN_a e (by omega) (par_good h) ?_
  simp (disch := first | omega | (simp only [go_sem]; try omega)) only [go_sem]
  exact Ret.same (Nat.le_refl _) hk
 ·have hk := hk2 a c h
  have hc := hne a c h
  simp (disch := first | omega | (simp only [go_sem]; try omega)) only [go_sem, hc]
  exact Ret.nilS (Nat.le_refl _) rfl hk
end Go.Proofs.YtagoolooikpabaaGreatDoor
