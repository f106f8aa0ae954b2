/- Several texts in one: Tags of expressions, the program's side, and what follows. No condition. -/
import Derived.Test.YtagoolooikpabaaGreatDoorHVQrsG
import Derived.Test.YtagoolooikpabaaGreatDoorHVCpt
set_option linter.all false
namespace Go.Proofs.YtagoolooikpabaaGreatDoor
open Go Go.RowKit
set_option maxRecDepth 100000
set_option maxHeartbeats 4000000
def nmsE (e : Ex) : List ByteArray := (leafE e).map fun p => tB p.1
theorem nmsE_len (e : Ex) : (nmsE e).length ≤ szE e := by unfold nmsE; rw [List.length_map]; exact leaf_sz e
def tgS (A : Hp) (L : List ByteArray) (G : Hp) : Hp := A ++ (.row 29 1 [[grV (A.length + 1 + G.length) L]] true :: (G ++ [grO 9 1 (L.map encSs)]))
theorem tgS_len (A : Hp) (L : List ByteArray) (G : Hp) : (tgS A L G).length = A.length + G.length + 2 := by unfold tgS; simp; omega
theorem push_a {A G : Hp} {K : AV → Hp → Prop} (L : List ByteArray) (x : ByteArray) (v : Int) (hL : L.length ≤ 100000) (hk : ∀ G' : Hp, G.length ≤ G'.length → K (.tup []) (tgS A (L ++ [x]) G')) : ACalls Tryz.prog 106 [(.c (.str x)), (.c (.int .i64 v)), .c (.ptr (some (A.length, 0, 0)))] (tgS A L G) K := by
 have h0 : (tgS A L G)[A.length]? = some (.row 29 1 [[grV (A.length + 1 + G.length) L]] true) := by unfold tgS; simp
 have hj : (tgS A L G)[A.length + 1 + G.length]? = some (grO 9 1 (L.map encSs)) := by
  unfold tgS
  rw [List.getElem?_append_right (by omega), show A.length + 1 + G.length - A.length = G.length + 1 by omega, List.getElem?_cons_succ, List.getElem?_append_right (Nat.le_refl _), Nat.sub_self]
  rfl
 obtain ⟨L2, hL2⟩ : ∃ L2, L2 = L ++ [x] := ⟨_, rfl⟩
 rw [← hL2] at hk
 obtain ⟨r, hr⟩ : ∃ r, r = AObj.row 9 1 [[.str x]] true := ⟨_, rfl⟩
 have hlen := tgS_len A L G
 have e1 : (tgS A L G ++ [r]).set (A.length + 1 + G.length) .dead = A ++ (.row 29 1 [[grV (A.length + 1 + G.length) L]] true :: (G ++ [.dead, r])) := by
  unfold tgS
  rw [List.append_assoc, List.set_append_right _ _ (by omega), show A.length + 1 + G.length - A.length = G.length + 1 by omega, List.cons_append, List.set_cons_succ, List.append_assoc, List.set_append_right _ _ (Nat.le_refl _), Nat.sub_self]
  rfl
 have e2 : ∀ (o o2 : AObj) (M N : Hp), (A ++ (o :: M) ++ N).set A.length o2 = A ++ (o2 :: (M ++ N)) := by
  intro o o2 M N
  rw [List.append_assoc, List.set_append_right _ _ (Nat.le_refl _), Nat.sub_self]
  rfl
 have e3 : ∀ (o : AObj) (M N : Hp), (A ++ (o :: M) ++ N)[A.length]? = some o := by
  intro o M N
  rw [List.append_assoc, List.getElem?_append_right (Nat.le_refl _), Nat.sub_self]
  rfl
 have hk := hk (G ++ [.dead, r]) (by simp)
 have hsz := tgS_len A L2 (G ++ [.dead, r])
 unfold tgS at hk hsz
 rw [show A.length + 1 + (G ++ [.dead, r]).length = (tgS A L G).length + 1 by rw [hlen]; simp; omega] at hk hsz
 refine acalls Tryz.func106 rfl (by kernel_rfl) (by simp (disch := first | omega | (simp only [go_sem]; try omega)) only [go_sem]) (fun hH => ?_)
 simp (disch := first | omega | (simp only [go_sem]; try omega)) only [go_sem, h0]
 rw [← hr]
 refine appSs L x L2 hL2 (by rw [List.getElem?_append_left (by omega)]; exact hj) (by rw [hr]; exact (by first | ((repeat first | exact at0 (by simp) | refine atS ?_); done) | assumption)) (by omega) ?_
 rw [e1]
 simp (disch := first | omega | (simp only [go_sem]; try omega)) only [go_sem, e2, e3]
 rw [List.append_assoc] at hk hsz
 refine Ret.same ?_ hk
 rw [hlen]
 simp
 omega
theorem each_a : ∀ (e : Ex) {A G : Hp} {K : AV → Hp → Prop} (L : List ByteArray), L.length + szE e ≤ 1000 → ExOk e → (∀ G' : Hp, G.length ≤ G'.length → K (.tup []) (tgS A (L ++ nmsE e) G')) → ACalls Tryz.prog 105 [.c (.fp (encNd e)), .c (.fn 106 [] [(A.length, 0, 0)])] (tgS A L G) K
 | .num n, A, G, K, L, hs, he, hk => by
  have hk := hk G (Nat.le_refl _)
  rw [show L ++ nmsE (.num n) = L from List.append_nil _] at hk
  unfold encNd
  refine acalls Tryz.func105 rfl (by kernel_rfl) (by simp (disch := first | omega | (simp only [go_sem]; try omega)) only [go_sem]) (fun hH => ?_)
  simp (disch := first | omega | (simp only [go_sem]; try omega)) only [go_sem]
  refine AWp.rounds 0 (by kernel_rfl) ?_
  simp (disch := first | omega | (simp only [go_sem]; try omega)) only [go_sem]
  exact Ret.same (Nat.le_refl _) hk
 | .tag x none, A, G, K, L, hs, he, hk => by
  simp only [szE] at hs
  have hent : entersB Tryz.prog 106 = true := by kernel_rfl
  unfold encNd
  refine acalls Tryz.func105 rfl (by kernel_rfl) (by simp (disch := first | omega | (simp only [go_sem]; try omega)) only [go_sem]) (fun hH => ?_)
  simp (disch := first | omega | (simp only [go_sem]; try omega)) only [go_sem, hent]
  refine w_draw (by kernel_rfl) (by decide +kernel) ?_
  simp (disch := first | omega | (simp only [go_sem]; try omega)) only [go_sem, hent]
  refine push_a L (tB x) 0 (by omega) (fun G1 h1 => ?_)
  simp (disch := first | omega | (simp only [go_sem]; try omega)) only [go_sem]
  refine AWp.rounds 0 (by kernel_rfl) ?_
  simp (disch := first | omega | (simp only [go_sem]; try omega)) only [go_sem]
  exact Ret.same (by rw [tgS_len, tgS_len]; omega) (hk G1 h1)
 | .tag x (some v), A, G, K, L, hs, he, hk => by
  simp only [szE] at hs
  have hent : entersB Tryz.prog 106 = true := by kernel_rfl
  unfold encNd
  refine acalls Tryz.func105 rfl (by kernel_rfl) (by simp (disch := first | omega | (simp only [go_sem]; try omega)) only [go_sem]) (fun hH => ?_)
  simp (disch := first | omega | (simp only [go_sem]; try omega)) only [go_sem, hent]
  refine w_draw (by kernel_rfl) (by decide +kernel) ?_
  simp (disch := first | omega | (simp only [go_sem]; try omega)) only [go_sem, hent]
  refine push_a L (tB x) v (by omega) (fun G1 h1 => ?_)
  simp (disch := first | omega | (simp only [go_sem]; try omega)) only [go_sem]
  refine AWp.rounds 0 (by kernel_rfl) ?_
  simp (disch := first | omega | (simp only [go_sem]; try omega)) only [go_sem]
  exact Ret.same (by rw [tgS_len, tgS_len]; omega) (hk G1 h1)
 | .neg a, A, G, K, L, hs, he, hk => by
  simp only [szE] at hs
  unfold encNd
  refine acalls Tryz.func105 rfl (by kernel_rfl) (by simp (disch := first | omega | (simp only [go_sem]; try omega)) only [go_sem]) (fun hH => ?_)
  simp (disch := first | omega | (simp only [go_sem]; try omega)) only [go_sem]
  refine AWp.rounds 1 (by kernel_rfl) ?_
  simp (disch := first | omega | (simp only [go_sem]; try omega)) only [go_sem]
  refine each_a a L (by omega) he (fun G1 h1 => ?_)
  have hk := hk G1 h1
  rw [show nmsE (.neg a) = nmsE a from rfl] at hk
  simp (disch := first | omega | (simp only [go_sem]; try omega)) only [go_sem]
  exact Ret.same (by rw [tgS_len, tgS_len]; omega) hk
 | .bin c a b, A, G, K, L, hs, he, hk => by
  simp only [szE] at hs
  have := nmsE_len a
  have := nmsE_len b
  obtain ⟨⟨k1, k2, k3⟩, k4⟩ := op_kind (c := c) he.1
  unfold encNd
  refine acalls Tryz.func105 rfl (by kernel_rfl) (by simp (disch := first | omega | (simp only [go_sem]; try omega)) only [go_sem]) (fun hH => ?_)
  simp (disch := first | omega | (simp only [go_sem]; try omega)) only [go_sem, k2]
  refine AWp.rounds 2 (by kernel_rfl) ?_
  simp (disch := first | omega | (simp only [go_sem]; try omega)) only [go_sem]
  refine each_a a (L) (by first | omega | (simp only [List.length_append]; omega)) he.2.1 (fun G1 h1 => ?_)
  simp (disch := first | omega | (simp only [go_sem]; try omega)) only [go_sem]
  refine each_a b (L ++ nmsE a) (by first | omega | (simp only [List.length_append]; omega)) he.2.2 (fun G2 h2 => ?_)
  have hk := hk G2 (by omega)
  rw [show L ++ nmsE (Ex.bin c a b) = L ++ (nmsE a ++ nmsE b) by simp [nmsE, leafE]] at hk
  simp (disch := first | omega | (simp only [go_sem]; try omega)) only [go_sem]
  exact Ret.same (by rw [tgS_len, tgS_len]; omega) hk
 | .f1 f a, A, G, K, L, hs, he, hk => by
  simp only [szE] at hs
  have := nmsE_len a
  obtain ⟨k1, k2, k3⟩ := fn_kind (f := f) (by have := he.1; omega)
  unfold encNd
  refine acalls Tryz.func105 rfl (by kernel_rfl) (by simp (disch := first | omega | (simp only [go_sem]; try omega)) only [go_sem]) (fun hH => ?_)
  simp (disch := first | omega | (simp only [go_sem]; try omega)) only [go_sem, k2]
  refine AWp.rounds 1 (by kernel_rfl) ?_
  simp (disch := first | omega | (simp only [go_sem]; try omega)) only [go_sem]
  refine each_a a (L) (by first | omega | (simp only [List.length_append]; omega)) he.2 (fun G1 h1 => ?_)
  have hk := hk G1 (by omega)
  rw [show L ++ nmsE (Ex.f1 f a) = L ++ nmsE a by simp [nmsE, leafE]] at hk
  simp (disch := first | omega | (simp only [go_sem]; try omega)) only [go_sem]
  exact Ret.same (by rw [tgS_len, tgS_len]; omega) hk
 | .f2 f a b, A, G, K, L, hs, he, hk => by
  simp only [szE] at hs
  have := nmsE_len a
  have := nmsE_len b
  obtain ⟨k1, k2, k3⟩ := fn_kind (f := f) (by have := he.1; omega)
  unfold encNd
  refine acalls Tryz.func105 rfl (by kernel_rfl) (by simp (disch := first | omega | (simp only [go_sem]; try omega)) only [go_sem]) (fun hH => ?_)
  simp (disch := first | omega | (simp only [go_sem]; try omega)) only [go_sem, k2]
  refine AWp.rounds 2 (by kernel_rfl) ?_
  simp (disch := first | omega | (simp only [go_sem]; try omega)) only [go_sem]
  refine each_a a (L) (by first | omega | (simp only [List.length_append]; omega)) he.2.1 (fun G1 h1 => ?_)
  simp (disch := first | omega | (simp only [go_sem]; try omega)) only [go_sem]
  refine each_a b (L ++ nmsE a) (by first | omega | (simp only [List.length_append]; omega)) he.2.2 (fun G2 h2 => ?_)
  have hk := hk G2 (by omega)
  rw [show L ++ nmsE (Ex.f2 f a b) = L ++ (nmsE a ++ nmsE b) by simp [nmsE, leafE]] at hk
  simp (disch := first | omega | (simp only [go_sem]; try omega)) only [go_sem]
  exact Ret.same (by rw [tgS_len, tgS_len]; omega) hk
 | .f3 f a b c, A, G, K, L, hs, he, hk => by
  simp only [szE] at hs
  have := nmsE_len a
  have := nmsE_len b
  have := nmsE_len c
  obtain ⟨k1, k2, k3⟩ := fn_kind (f := f) (by have := he.1; omega)
  unfold encNd
  refine acalls Tryz.func105 rfl (by kernel_rfl) (by simp (disch := first | omega | (simp only [go_sem]; try omega)) only [go_sem]) (fun hH => ?_)
  simp (disch := first | omega | (simp only [go_sem]; try omega)) only [go_sem, k2]
  refine AWp.rounds 3 (by kernel_rfl) ?_
  simp (disch := first | omega | (simp only [go_sem]; try omega)) only [go_sem]
  refine each_a a (L) (by first | omega | (simp only [List.length_append]; omega)) he.2.1 (fun G1 h1 => ?_)
  simp (disch := first | omega | (simp only [go_sem]; try omega)) only [go_sem]
  refine each_a b (L ++ nmsE a) (by first | omega | (simp only [List.length_append]; omega)) he.2.2.1 (fun G2 h2 => ?_)
  simp (disch := first | omega | (simp only [go_sem]; try omega)) only [go_sem]
  refine each_a c (L ++ (nmsE a ++ nmsE b)) (by first | omega | (simp only [List.length_append]; omega)) he.2.2.2 (fun G3 h3 => ?_)
  have hk := hk G3 (by omega)
  rw [show L ++ nmsE (Ex.f3 f a b c) = L ++ (nmsE a ++ (nmsE b ++ nmsE c)) by simp [nmsE, leafE]] at hk
  simp (disch := first | omega | (simp only [go_sem]; try omega)) only [go_sem]
  exact Ret.same (by rw [tgS_len, tgS_len]; omega) hk
theorem ACalls.padD {P : Program} {f : FuncId} {args : List AV} {H : Hp} {K : AV → Hp → Prop} (h : ACalls P f args (H ++ [.dead]) K) : ACalls P f args H K := by
 intro B w0 ι w vs hs hr ho
 obtain ⟨ι', h1, h2, h3, _, _⟩ := WkL.pad (m := H.length) (vs := []) (Nat.le_refl _) B w0 ι w [] hs trivial (by simp)
 refine (h B w0 ι' w vs h3 (rel1L_agree h1 ho hr) (fun x hx => AV.ok1_mono (by simp) (ho x hx))).mono fun e w' he => ?_
 obtain ⟨ι2, u, av, H', rfl, k2, k3, k4, k5, k6, k7⟩ := he
 exact ⟨ι2, u, av, H', rfl, h1.trans k2 (by simp), by simp at k3; omega, k4, k5, k6, k7⟩
def tagsE (e : Ex) : List ByteArray := cplF (srtS (nmsE e))
theorem tagsN_a {H : Hp} {K : AV → Hp → Prop} (e : Ex) (hs : szE e ≤ 1000) (he : ExOk e) (hk : K (.c (.lst 1 ((tagsE e).map encSs))) H) : ACalls Tryz.prog 53 [.c (.fp (encNd e))] H K := by
 unfold tagsE at hk
 refine acalls Tryz.func53 rfl (by kernel_rfl) (by simp (disch := first | omega | (simp only [go_sem]; try omega)) only [go_sem]) (fun hH => ?_)
 simp (disch := first | omega | (simp only [go_sem]; try omega)) only [go_sem]
 refine ACalls.padD ?_
 have e0 : H ++ [AObj.row 29 1 [[.sl none 0]] true] ++ [.dead] = tgS H [] [] := by unfold tgS; simp [grV, grO]
 rw [e0]
 refine each_a e (A := H) (G := []) [] (by simpa using hs) he (fun G hG => ?_)
 rw [List.nil_append]
 have hln := nmsE_len e
 generalize nmsE e = L at *
 have hat : (tgS H L G)[H.length]? = some (.row 29 1 [[grV (H.length + 1 + G.length) L]] true) := by unfold tgS; simp
 obtain ⟨j, hj⟩ : ∃ j, j = H.length + 1 + G.length := ⟨_, rfl⟩
 have hj0 : (tgS H L G)[j]? = some (grO 9 1 (L.map encSs)) := by
  unfold tgS
  rw [hj, List.getElem?_append_right (by omega), show H.length + 1 + G.length - H.length = G.length + 1 by omega, List.getElem?_cons_succ, List.getElem?_append_right (Nat.le_refl _), Nat.sub_self]
  rfl
 have htl := tgS_len H L G
 have hlt := getElem?_lt hj0
 rw [← hj] at hat
 have hat2 : ∀ X : AObj, ((tgS H L G).set j X)[H.length]? = some (.row 29 1 [[grV j L]] true) := fun X => by rw [List.getElem?_set_ne (by omega)]; exact hat
 have hdr : ∀ X : AObj, ∃ G2, (tgS H L G).set j X = H ++ G2 := fun X => by
  refine ⟨(.row 29 1 [[grV (H.length + 1 + G.length) L]] true :: (G ++ [grO 9 1 (L.map encSs)])).set (j - H.length) X, ?_⟩
  unfold tgS
  rw [List.set_append_right _ _ (by omega)]
 simp (disch := first | omega | (simp only [go_sem]; try omega)) only [go_sem, hat]
 refine sortVSs_a L hj0 (by omega) ?_
 simp (disch := first | omega | (simp only [go_sem]; try omega)) only [go_sem, hat2]
 have hvl : grV j L = grV j (srtS L) := by
  have hSl := srtS_len L
  cases L with
  | nil => rw [List.length_eq_zero_iff.1 hSl]
  | cons x t => rw [grV_pos _ (by simp), grV_pos _ (by intro h; rw [h] at hSl; simp at hSl), hSl]
 rw [hvl]
 refine compactVSs_a (srtS L) (List.getElem?_set_self hlt) (by rw [srtS_len]; omega) ?_
 rw [List.set_set]
 obtain ⟨G2, hG2⟩ := hdr .dead
 rw [hG2]
 simp (disch := first | omega | (simp only [go_sem]; try omega)) only [go_sem]
 exact Ret.drop hH (Nat.le_refl _) (by simp [AV.ok, AV.ok1, AC.ok]) hk
end Go.Proofs.YtagoolooikpabaaGreatDoor
namespace Go.Proofs.YtagoolooikpabaaGreatDoor
open Go Go.RowKit
set_option maxRecDepth 100000
set_option maxHeartbeats 4000000
def leafX : Ex → List Ex
 | .num _ => []
 | .tag x s => [.tag x s]
 | .neg a => leafX a
 | .bin _ a b => leafX a ++ leafX b
 | .f1 _ a => leafX a
 | .f2 _ a b => leafX a ++ leafX b
 | .f3 _ a b c => leafX a ++ (leafX b ++ leafX c)
def nmX : Ex → ByteArray
 | .tag x _ => tB x
 | _ => ⟨#[]⟩
theorem leafX_nms : ∀ e : Ex, (leafX e).map nmX = nmsE e
 | .num _ => rfl
 | .tag x s => rfl
 | .neg a => leafX_nms a
 | .bin c a b => by
  show (leafX a ++ leafX b).map nmX = (leafE a ++ leafE b).map _
  rw [List.map_append, List.map_append, leafX_nms a, leafX_nms b]; rfl
 | .f1 f a => leafX_nms a
 | .f2 f a b => by
  show (leafX a ++ leafX b).map nmX = (leafE a ++ leafE b).map _
  rw [List.map_append, List.map_append, leafX_nms a, leafX_nms b]; rfl
 | .f3 f a b c => by
  show (leafX a ++ (leafX b ++ leafX c)).map nmX = (leafE a ++ leafE b ++ leafE c).map _
  rw [List.append_assoc, List.map_append, List.map_append, List.map_append, List.map_append, leafX_nms a, leafX_nms b, leafX_nms c]; rfl
theorem leafX_len (e : Ex) : (leafX e).length ≤ szE e := by
 have := congrArg List.length (leafX_nms e)
 rw [List.length_map] at this
 rw [this]
 exact nmsE_len e
theorem leafX_tag : ∀ (e : Ex), ∀ x ∈ leafX e, ∃ w s, x = .tag w s
 | .num _, x, h => by cases h
 | .tag w s, x, h => ⟨w, s, List.mem_singleton.1 h⟩
 | .neg a, x, h => leafX_tag a x h
 | .bin c a b, x, h => (List.mem_append.1 h).elim (leafX_tag a x) (leafX_tag b x)
 | .f1 f a, x, h => leafX_tag a x h
 | .f2 f a b, x, h => (List.mem_append.1 h).elim (leafX_tag a x) (leafX_tag b x)
 | .f3 f a b c, x, h => (List.mem_append.1 h).elim (leafX_tag a x) (fun h => (List.mem_append.1 h).elim (leafX_tag b x) (leafX_tag c x))
theorem pickG {α : Type} {A G : Hp} {m ty j q e sz : Nat} {x : List AC} {T : List α} {enc : α → List AC} (r : Int) (hA : HOk A) (hm : m ≤ A.length + 1) (h0 : G[0]? = some (.row ty 5 [x] true)) (hx : okT x) (hj : j = A.length + q) (he : ∀ y, (enc y).all AC.pure = true ∧ (enc y).length = sz) (hq : G[q]? = some (grO e sz (T.map enc))) (h1 : 1 ≤ q) :
  WkL m [(.c (.int .i64 r)), .c (grV j T)] (A ++ G) [(.c (.int .i64 r)), .c (grV (A.length + 1) T)] (A ++ [.row ty 5 [x] true, grO e sz (T.map enc)]) := by
 subst hj
 have hp : pureL [x] = true := by
  unfold pureL
  simp only [List.all_cons, List.all_nil, Bool.and_true]
  exact hx.2
 have hpT : pureL (T.map enc) = true := by
  unfold pureL
  rw [List.all_eq_true]
  intro y hy
  obtain ⟨z, hz, rfl⟩ := List.mem_map.1 hy
  exact (he z).1
 refine WkL.pickR [0, q] 1 hA hm (by simp) (by simp) ?_ (by simp; omega) ?_ ?_ ?_
 ·simp only [List.map_cons, List.map_nil]
  rw [grO_ren _ _ _ hpT, pureO_ren (show (AObj.row ty 5 [x] true).pureO = true from hp), h0, hq]
 ·intro o ho
  simp only [List.mem_cons, List.not_mem_nil, or_false] at ho
  rcases ho with rfl | rfl
  ·exact hx.row _ _ _
  ·exact okN_grO (fun x => ⟨(he x).2, (he x).1⟩)
 ·simp only [List.map_cons, List.map_nil, av_ren_gr]
  rw [pickS_add]
  rfl
 ·intro v hv
  simp only [List.mem_cons, List.not_mem_nil, or_false] at hv
  rcases hv with rfl | rfl
  ·trivial
  ·exact grV_ok (by simp) _
theorem encT_pureL (M : List Ex) : pureL (M.map encT) = true := by
 unfold pureL
 rw [List.all_eq_true]
 intro y hy
 obtain ⟨z, hz, rfl⟩ := List.mem_map.1 hy
 exact (encT_ok z).2
theorem leafL_len : ∀ L : List Ex, (∀ x ∈ L, szE x ≤ 1000) → (L.flatMap leafX).length ≤ 1000 * L.length
 | [], _ => by simp
 | x :: L, h => by
  have h1 := leafL_len L (fun y hy => h y (List.mem_cons_of_mem _ hy))
  have h2 := leafX_len x
  have h3 := h x (by simp)
  rw [List.flatMap_cons, List.length_append, List.length_cons]
  omega
theorem app_none {i : Nat} {H : Hp} {J : AV → Hp → Prop} {M : List Ex} (h : J (.c (grV i M)) H) : aBuiltin Tryz.prog .append #[171, 171] [.c (grV i M), .c (.lst 5 ([].map encT))] H J := by
 have he : elemT Tryz.prog 171 = some 173 := by kernel_rfl
 cases M with
 | nil =>
  refine ⟨rfl, ?_⟩
  rw [he]
  exact ⟨by kernel_rfl, fun _ => h, fun h => absurd h (by simp)⟩
 | cons x t =>
  refine ⟨rfl, ?_⟩
  rw [he]
  exact ⟨by kernel_rfl, fun _ => h, fun h => absurd h (by simp)⟩
theorem leavesK_a {H : Hp} {K : AV → Hp → Prop} (kd : Int) (s : ByteArray) (L : List Ex) (h9 : ¬ kd = 119) (hL : L.length ≤ 3 ∧ ∀ x ∈ L, szE x ≤ 1000)
  (ih : ∀ x ∈ L, ∀ {H : Hp} {K : AV → Hp → Prop}, K (.c (.lst 5 ((leafX x).map encT))) H → ACalls Tryz.prog 136 [.agg (encT x)] H K)
  (hk : K (.c (.lst 5 ((L.flatMap leafX).map encT))) H) : ACalls Tryz.prog 136 [.agg [.int .u8 kd, .str s, .int .i64 0, .lst 5 (L.map encT), .int .i64 0]] H K := by
 have hml : (L.map encT).length = L.length := List.length_map ..
 have hge : ∀ (k : Nat) (h : k < L.length) (h' : k < (L.map encT).length), (L.map encT)[k]'h' = encT L[k] := fun k h h' => List.getElem_map ..
 refine acalls Tryz.func136 rfl (by kernel_rfl) (by simp (disch := first | omega | (simp only [go_sem]; try omega)) only [go_sem]) (fun hH => ?_)
 simp (disch := first | omega | (simp only [go_sem]; try omega)) only [go_sem, hml, h9]
 refine AWp.loop (H.length + 1) [14, 15] [16, 3] (fun (k : Nat) => k ≤ L.length) (fun (k : Nat) => [(16, (.c (.int .i64 k))), (3, .c (grV (H.length + 1) ((L.take k).flatMap leafX)))]) (fun (k : Nat) => H ++ [.row 173 5 [[.int .u8 kd, .str s, .int .i64 0, .lst 5 (L.map encT), .int .i64 0]] true, grO 173 5 (((L.take k).flatMap leafX).map encT)]) (fun (k : Nat) => L.length - k) (by kernel_rfl) (fun _ => rfl) (by kernel_rfl) (by first | (simp; done) | omega) (by first | (simp; done) | (simp; omega) | omega) kl ?_ (fun k q _ _ => ?_)
 ·refine Next.mk 0 (Nat.zero_le _) ?_
  exact WkL.padP [.row 173 5 [[.int .u8 kd, .str s, .int .i64 0, .lst 5 (L.map encT), .int .i64 0]] true] (by simp)
 by_cases hlt : k < L.length
 ·have hnx : (L.take (k + 1)).flatMap leafX = (L.take k).flatMap leafX ++ leafX L[k] := by rw [List.take_succ_eq_append_getElem hlt, List.flatMap_append]; simp
  have hnl : ((L.take k).flatMap leafX).length ≤ 3000 := by
   have := leafL_len (L.take k) (fun x hx => hL.2 x (List.mem_of_mem_take hx))
   rw [List.length_take] at this
   omega
  have h7 := encT_l L[k]
  have h6 := encT_t L[k]
  have hxl := leafX_len L[k]
  have hxs := hL.2 L[k] (List.getElem_mem hlt)
  generalize (L.take k).flatMap leafX = M at *
  simp (disch := first | omega | (simp only [go_sem]; try omega)) only [go_sem, hlt, hml, hge k hlt, h6, h7]
  refine ih L[k] (List.getElem_mem hlt) ?_
  simp (disch := first | omega | (simp only [go_sem]; try omega)) only [go_sem]
  have hpk : ∀ (q : Nat) (G : Hp) (M2 : List Ex), G[0]? = some (.row 173 5 [[.int .u8 kd, .str s, .int .i64 0, .lst 5 (L.map encT), .int .i64 0]] true) → G[q]? = some (grO 173 5 (M2.map encT)) → 1 ≤ q → WkL (H.length + 1) [(.c (.int .i64 ((k + 1 : Nat)))), .c (grV (H.length + q) M2)] (H ++ G) [(.c (.int .i64 ((k + 1 : Nat)))), .c (grV (H.length + 1) M2)] (H ++ [.row 173 5 [[.int .u8 kd, .str s, .int .i64 0, .lst 5 (L.map encT), .int .i64 0]] true, grO 173 5 (M2.map encT)]) := fun q G M2 h0 hq h1 => pickG _ hH (by omega) h0 ⟨rfl, rfl⟩ rfl (fun y => ⟨(encT_ok y).2, encT_l y⟩) hq h1
  by_cases he : leafX L[k] = []
  ·rw [he, List.append_nil] at hnx
   rw [he]
   refine app_none ?_
   simp (disch := first | omega | (simp only [go_sem]; try omega)) only [go_sem]
   refine Next.mk (k + 1) ⟨by omega, by omega⟩ ?_
   rw [hnx]
   simp (disch := first | omega | (simp only [go_sem]; try omega)) only [go_sem]
   exact hpk 1 _ M rfl rfl (by omega)
  ·obtain ⟨M2, hM2⟩ : ∃ M2, M2 = M ++ leafX L[k] := ⟨_, rfl⟩
   rw [← hM2] at hnx
   refine app_grL (enc := encT) (e := 173) (sz := 5) (bs := 64) (z := zT) M (leafX L[k]) (by kernel_rfl) (by kernel_rfl) (by kernel_rfl) (by kernel_rfl) (by first | ((repeat first | exact at0 (by simp) | refine atS ?_); done) | assumption) he rfl (by decide) (by omega) (by omega) ?_
   rw [← hM2]
   simp (disch := first | omega | (simp only [go_sem]; try omega)) only [go_sem]
   refine Next.mk (k + 1) ⟨by omega, by omega⟩ ?_
   rw [hnx]
   simp (disch := first | omega | (simp only [go_sem]; try omega)) only [go_sem]
   exact hpk 3 _ M2 rfl rfl (by omega)
 ·have hkl : k = L.length := by omega
  subst hkl
  rw [List.take_length]
  simp (disch := first | omega | (simp only [go_sem]; try omega)) only [go_sem, hml]
  exact Ret.frzGr 1 hH (Nat.le_refl _) rfl (encT_pureL _) (map_grV encT _ _).symm hk
theorem appNil1 {q ty : Nat} {x : List AC} {own : Bool} {H : Hp} {J : AV → Hp → Prop} (hj : H[q]? = some (.row ty 5 [x] own)) (h : J (.c (.sl (some (H.length, 0)) 1)) (H ++ [.row 173 5 [x] true])) : aBuiltin Tryz.prog .append #[171, 171] [.c (.sl none 0), .c (.sl (some (q, 0)) 1)] H J := by
 have he : elemT Tryz.prog 171 = some 173 := by kernel_rfl
 have hz : szT Tryz.prog 173 = 5 := by kernel_rfl
 have hb : Tryz.prog.bytesOf 173 = 64 := by kernel_rfl
 refine ⟨rfl, ?_⟩
 rw [he]
 refine ⟨by kernel_rfl, fun h => absurd h (by decide), fun _ => ⟨[], [x], ⟨rfl, rfl⟩, ⟨_, _, _, by rw [hz]; exact hj, by simp, rfl⟩, by rw [hz]; decide, by rw [hb]; decide, by decide, .inl ?_⟩⟩
 rw [hz]
 exact h
theorem leaves_a : ∀ (N : Nat) (e : Ex) {H : Hp} {K : AV → Hp → Prop}, szE e ≤ N → N ≤ 1000 → ExOk e → K (.c (.lst 5 ((leafX e).map encT))) H → ACalls Tryz.prog 136 [.agg (encT e)] H K
 | 0, e, H, K, hs, hN, he, hk => by have := hgt_sz e; omega
 | N + 1, .num n, H, K, hs, hN, he, hk => by
  unfold encT
  refine acalls Tryz.func136 rfl (by kernel_rfl) (by simp (disch := first | omega | (simp only [go_sem]; try omega)) only [go_sem]) (fun hH => ?_)
  simp (disch := first | omega | (simp only [go_sem]; try omega)) only [go_sem]
  refine AWp.rounds 0 (by kernel_rfl) ?_
  simp (disch := first | omega | (simp only [go_sem]; try omega)) only [go_sem]
  exact Ret.nil [5] (by simp) (Ret.drop hH (Nat.le_refl _) (by simp [AV.ok, AV.ok1, AC.ok, AV.nilz, AC.nilz]) hk)
 | N + 1, .tag x s, H, K, hs, hN, he, hk => by
  have h7 := encT_l (.tag x s)
  have h6 := encT_t (.tag x s)
  have hk2 : K (.c (.lst 5 [encT (.tag x s)])) H := hk
  unfold encT at h6 h7 hk2 ⊢
  refine acalls Tryz.func136 rfl (by kernel_rfl) (by simp (disch := first | omega | (simp only [go_sem]; try omega)) only [go_sem]) (fun hH => ?_)
  simp (disch := first | omega | (simp only [go_sem]; try omega)) only [go_sem, h6, h7]
  refine appNil1 (at1 (by simp)) ?_
  simp (disch := first | omega | (simp only [go_sem]; try omega)) only [go_sem]
  refine AWp.rounds 0 (by kernel_rfl) ?_
  simp (disch := first | omega | (simp only [go_sem]; try omega)) only [go_sem]
  exact Ret.frzRow 2 hH (Nat.le_refl _) rfl rfl rfl rfl hk2
 | N + 1, .neg a, H, K, hs, hN, he, hk => by
  simp only [szE] at hs
  refine leavesK_a 109 ⟨#[]⟩ [a] (by decide) ⟨by simp, fun x hx => by rw [List.mem_singleton.1 hx]; omega⟩ (fun x hx => ?_) (by simpa [leafX] using hk)
  rw [List.mem_singleton.1 hx]
  intro H K hk
  exact leaves_a N a (by omega) (by omega) he hk
 | N + 1, .bin c a b, H, K, hs, hN, he, hk => by
  simp only [szE] at hs
  refine leavesK_a c.toNat ⟨#[]⟩ [a, b] ?_ ⟨by simp, fun x hx => ?_⟩ (fun x hx => ?_) (by simpa [leafX] using hk)
  ·have h1 := he.1
   simp only [List.mem_cons, List.not_mem_nil, or_false] at h1
   rcases h1 with rfl | rfl | rfl | rfl | rfl | rfl <;> decide
  ·simp only [List.mem_cons, List.not_mem_nil, or_false] at hx
   rcases hx with rfl | rfl <;> omega
  ·simp only [List.mem_cons, List.not_mem_nil, or_false] at hx
   rcases hx with rfl | rfl
   ·intro H K hk
    exact leaves_a N _ (by omega) (by omega) he.2.1 hk
   ·intro H K hk
    exact leaves_a N _ (by omega) (by omega) he.2.2 hk
 | N + 1, .f1 f a, H, K, hs, hN, he, hk => by
  simp only [szE] at hs
  refine leavesK_a 102 (tB f) [a] (by decide) ⟨by simp, fun x hx => by rw [List.mem_singleton.1 hx]; omega⟩ (fun x hx => ?_) (by simpa [leafX] using hk)
  rw [List.mem_singleton.1 hx]
  intro H K hk
  exact leaves_a N a (by omega) (by omega) he.2 hk
 | N + 1, .f2 f a b, H, K, hs, hN, he, hk => by
  simp only [szE] at hs
  refine leavesK_a 102 (tB f) [a, b] (by decide) ⟨by simp, fun x hx => ?_⟩ (fun x hx => ?_) (by simpa [leafX] using hk)
  ·simp only [List.mem_cons, List.not_mem_nil, or_false] at hx
   rcases hx with rfl | rfl <;> omega
  ·simp only [List.mem_cons, List.not_mem_nil, or_false] at hx
   rcases hx with rfl | rfl
   ·intro H K hk
    exact leaves_a N _ (by omega) (by omega) he.2.1 hk
   ·intro H K hk
    exact leaves_a N _ (by omega) (by omega) he.2.2 hk
 | N + 1, .f3 f a b c, H, K, hs, hN, he, hk => by
  simp only [szE] at hs
  refine leavesK_a 102 (tB f) [a, b, c] (by decide) ⟨by simp, fun x hx => ?_⟩ (fun x hx => ?_) (by simpa [leafX] using hk)
  ·simp only [List.mem_cons, List.not_mem_nil, or_false] at hx
   rcases hx with rfl | rfl | rfl <;> omega
  ·simp only [List.mem_cons, List.not_mem_nil, or_false] at hx
   rcases hx with rfl | rfl | rfl
   ·intro H K hk
    exact leaves_a N _ (by omega) (by omega) he.2.1 hk
   ·intro H K hk
    exact leaves_a N _ (by omega) (by omega) he.2.2.1 hk
   ·intro H K hk
    exact leaves_a N _ (by omega) (by omega) he.2.2.2 hk
theorem tagsT_a {H : Hp} {K : AV → Hp → Prop} (e : Ex) (hs : szE e ≤ 1000) (he : ExOk e) (hk : K (.c (.lst 1 ((tagsE e).map encSs))) H) : ACalls Tryz.prog 117 [.agg (encT e)] H K := by
 have h7 := encT_l e
 have h6 := encT_t e
 have hnm := leafX_nms e
 have htg := leafX_tag e
 have hxl := leafX_len e
 unfold tagsE at hk
 rw [← hnm] at hk
 refine acalls Tryz.func117 rfl (by kernel_rfl) (by simp (disch := first | omega | (simp only [go_sem]; try omega)) only [go_sem]) (fun hH => ?_)
 simp (disch := first | omega | (simp only [go_sem]; try omega)) only [go_sem, h6, h7]
 refine leaves_a 1000 e hs (Nat.le_refl _) he ?_
 generalize leafX e = L at *
 have hml : (L.map encT).length = L.length := List.length_map ..
 have hge : ∀ (k : Nat) (h : k < L.length) (h' : k < (L.map encT).length), (L.map encT)[k]'h' = encT L[k] := fun k h h' => List.getElem_map ..
 simp (disch := first | omega | (simp only [go_sem]; try omega)) only [go_sem, hml]
 refine AWp.loop (H.length + 1) [7, 8] [9, 3] (fun (k : Nat) => k ≤ L.length) (fun (k : Nat) => [(9, (.c (.int .i64 k))), (3, .c (grV (H.length + 1) ((L.take k).map nmX)))]) (fun (k : Nat) => H ++ [.row 173 5 [encT e] true, grO 9 1 (((L.take k).map nmX).map encSs)]) (fun (k : Nat) => L.length - k) (by kernel_rfl) (fun _ => rfl) (by kernel_rfl) (by first | (simp; done) | omega) (by first | (simp; done) | (simp; omega) | omega) kl ?_ (fun k q _ _ => ?_)
 ·refine Next.mk 0 (Nat.zero_le _) ?_
  exact WkL.padP [.row 173 5 [encT e] true] (by simp)
 by_cases hlt : k < L.length
 ·have hnx : (L.take (k + 1)).map nmX = (L.take k).map nmX ++ [nmX L[k]] := by rw [List.take_succ_eq_append_getElem hlt, List.map_append]; rfl
  have hnl : ((L.take k).map nmX).length ≤ 1000 := by rw [List.length_map, List.length_take]; omega
  obtain ⟨w, s, hw⟩ := htg L[k] (List.getElem_mem hlt)
  generalize (L.take k).map nmX = M at *
  obtain ⟨M2, hM2⟩ : ∃ M2, M2 = M ++ [nmX L[k]] := ⟨_, rfl⟩
  rw [← hM2] at hnx
  have hgt : encT L[k] = [.int .u8 119, .str (tB w), .int .i64 0, .sl none 0, .int .i64 (s.getD (-1))] := by rw [hw]; rfl
  rw [hw] at hM2
  simp (disch := first | omega | (simp only [go_sem]; try omega)) only [go_sem, hlt, hml, hgt]
  refine appSs M (tB w) M2 hM2 (by first | ((repeat first | exact at0 (by simp) | refine atS ?_); done) | assumption) (by first | ((repeat first | exact at0 (by simp) | refine atS ?_); done) | assumption) (by omega) ?_
  simp (disch := first | omega | (simp only [go_sem]; try omega)) only [go_sem]
  refine Next.mk (k + 1) ⟨by omega, by omega⟩ ?_
  rw [hnx]
  simp (disch := first | omega | (simp only [go_sem]; try omega)) only [go_sem]
  exact pickG (q := 4) _ hH (by simp) rfl (encT_ok e) rfl (fun y => ⟨rfl, rfl⟩) rfl (by omega)
 ·have hkl : k = L.length := by omega
  subst hkl
  rw [List.take_length]
  generalize L.map nmX = M at *
  have hMl : M.length ≤ 1000 := by
   have := nmsE_len e
   rw [hnm]
   omega
  simp (disch := first | omega | (simp only [go_sem]; try omega)) only [go_sem, hml]
  refine sortVSs_a M (by first | ((repeat first | exact at0 (by simp) | refine atS ?_); done) | assumption) (by omega) ?_
  have hvl : grV (H.length + 1) M = grV (H.length + 1) (srtS M) := by
   have hSl := srtS_len M
   cases M with
   | nil => rw [List.length_eq_zero_iff.1 hSl]
   | cons x t => rw [grV_pos _ (by simp), grV_pos _ (by intro h; rw [h] at hSl; simp at hSl), hSl]
  simp (disch := first | omega | (simp only [go_sem]; try omega)) only [go_sem]
  rw [hvl]
  refine compactVSs_a (srtS M) (by first | ((repeat first | exact at0 (by simp) | refine atS ?_); done) | assumption) (by rw [srtS_len]; omega) ?_
  simp (disch := first | omega | (simp only [go_sem]; try omega)) only [go_sem]
  exact Ret.drop hH (Nat.le_refl _) (by simp [AV.ok, AV.ok1, AC.ok]) hk
theorem tagsIn_a {H : Hp} {K : AV → Hp → Prop} (l : List UInt8) (hl : l.length ≤ 1000000) (e : Ex) (h : parF l = .ok e) (hk : K (.c (.lst 1 ((tagsE e).map encSs))) H) : ACalls Tryz.prog 67 [(.c (.str (tB l)))] H K := by
 refine acalls Tryz.func67 rfl (by kernel_rfl) (by simp (disch := first | omega | (simp only [go_sem]; try omega)) only [go_sem]) (fun hH => ?_)
 simp (disch := first | omega | (simp only [go_sem]; try omega)) only [go_sem]
 refine parsedQ_a l hl (fun e' h' => ?_) (fun a c h' => ?_)
 ·rw [h] at h'
  injection h' with h'
  subst h'
  have hs := par_sz h
  have h7 := encT_l e
  have h6 := encT_t e
  simp (disch := first | omega | (simp only [go_sem]; try omega)) only [go_sem, h6, h7]
  refine tagsT_a e (by omega) (par_good h) ?_
  simp (disch := first | omega | (simp only [go_sem]; try omega)) only [go_sem]
  exact Ret.drop hH (Nat.le_refl _) (by simp [AV.ok, AV.ok1, AC.ok]) hk
 ·rw [h] at h'; cases h'
end Go.Proofs.YtagoolooikpabaaGreatDoor
