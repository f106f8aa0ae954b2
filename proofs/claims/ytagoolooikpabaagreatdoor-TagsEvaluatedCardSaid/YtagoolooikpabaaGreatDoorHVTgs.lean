/- Several texts in one: Tags of expressions, the program's side, and what follows. No condition. -/
import Derived.Test.YtagoolooikpabaaGreatDoorHVEncT
import Derived.Test.YtagoolooikpabaaGreatDoorHVCpt
set_option linter.all false
namespace Go.Proofs.YtagoolooikpabaaGreatDoor
open Go Go.RowKit
set_option maxRecDepth 100000
set_option maxHeartbeats 4000000
def nmsE (e : Ex) : List ByteArray := (leafE e).map fun p => tB p.1
theorem nmsE_len (e : Ex) : (nmsE e).length ≤ szE e := by unfold nmsE; rw [List.length_map]; exact leaf_sz e
def tgS (A : Hp) (L : List ByteArray) (G : Hp) : Hp := A ++ (.row 29 1 [[grV (A.length + 1 + G.length) L]] true :: (G ++ [grO 9 1 (L.map encSs)]))
theorem tgS_len (A : Hp) (L : List ByteArray) (G : Hp) : (tgS A L G).length = A.length + G.length + 2 := by unfold tgS; simp; omega
theorem push_a {A G : Hp} {K : AV → Hp → Prop} (L : List ByteArray) (x : ByteArray) (v : Int) (hL : L.length ≤ 100000) (hk : ∀ G' : Hp, G.length ≤ G'.length → K (.tup []) (tgS A (L ++ [x]) G')) : ACalls Tryz.prog 106 [(.c (.str x)), (.c (.int .i64 v)), .c (.ptr (some (A.length, 0, 0)))] (tgS A L G) K := by
 have h0 : (tgS A L G)[A.length]? = some (.row 29 1 [[grV (A.length + 1 + G.length) L]] true) := by unfold tgS; simp
 have hj : (tgS A L G)[A.length + 1 + G.length]? = some (grO 9 1 (L.map encSs)) := by
  unfold tgS
  rw [List.getElem?_append_right oMg, show A.length + 1 + G.length - A.length = G.length + 1 by omega, List.getElem?_cons_succ, List.getElem?_append_right lRf, Nat.sub_self]
  rfl
 obtain ⟨L2, hL2⟩ : ∃ L2, L2 = L ++ [x] := ⟨_, rfl⟩
 rw [← hL2] at hk
 obtain ⟨r, hr⟩ : ∃ r, r = AObj.row 9 1 [[.str x]] true := ⟨_, rfl⟩
 have hlen := tgS_len A L G
 have e1 : (tgS A L G ++ [r]).set (A.length + 1 + G.length) .dead = A ++ (.row 29 1 [[grV (A.length + 1 + G.length) L]] true :: (G ++ [.dead, r])) := by
  unfold tgS
  rw [List.append_assoc, List.set_append_right _ _ oMg, show A.length + 1 + G.length - A.length = G.length + 1 by omega, List.cons_append, List.set_cons_succ, List.append_assoc, List.set_append_right _ _ lRf, Nat.sub_self]
  rfl
 have e2 : ∀ (o o2 : AObj) (M N : Hp), (A ++ (o :: M) ++ N).set A.length o2 = A ++ (o2 :: (M ++ N)) := by
  intro o o2 M N
  rw [List.append_assoc, List.set_append_right _ _ lRf, Nat.sub_self]
  rfl
 have e3 : ∀ (o : AObj) (M N : Hp), (A ++ (o :: M) ++ N)[A.length]? = some o := by
  intro o M N
  rw [List.append_assoc, List.getElem?_append_right lRf, Nat.sub_self]
  rfl
 have hk := hk (G ++ [.dead, r]) sMp
 have hsz := tgS_len A L2 (G ++ [.dead, r])
 unfold tgS at hk hsz
 rw [show A.length + 1 + (G ++ [.dead, r]).length = (tgS A L G).length + 1 by rw [hlen]; simp; omega] at hk hsz
 refine acalls Tryz.func106 rfl kRf gT (fun hH => ?_)
 refine gO1 h0 ?_
 rw [← hr]
 refine appSs L x L2 hL2 (by rw [List.getElem?_append_left oMg]; exact hj) (by rw [hr]; exact aTT) oMg ?_
 rw [e1]
 refine gO2 e2 e3 ?_
 rw [List.append_assoc] at hk hsz
 refine Ret.same ?_ hk
 rw [hlen]
 simp
 omega
theorem each_a : ∀ (e : Ex) {A G : Hp} {K : AV → Hp → Prop} (L : List ByteArray), L.length + szE e ≤ 1000 → ExOk e → (∀ G' : Hp, G.length ≤ G'.length → K (.tup []) (tgS A (L ++ nmsE e) G')) → ACalls Tryz.prog 105 [.c (.fp (encNd e)), .c (.fn 106 [] [(A.length, 0, 0)])] (tgS A L G) K
 | .num n, A, G, K, L, hs, he, hk => by
  have hk := hk G lRf
  rw [show L ++ nmsE (.num n) = L from List.append_nil _] at hk
  unfold encNd
  refine acalls Tryz.func105 rfl kRf gT (fun hH => ?_)
  refine gO ?_
  refine AWp.rounds 0 kRf ?_
  refine gO ?_
  exact Ret.same lRf hk
 | .tag x none, A, G, K, L, hs, he, hk => by
  simp only [szE] at hs
  have hent : entersB Tryz.prog 106 = true := by kernel_rfl
  unfold encNd
  refine acalls Tryz.func105 rfl kRf gT (fun hH => ?_)
  refine gO1 hent ?_
  refine w_draw kRf dKn ?_
  refine gO1 hent ?_
  refine push_a L (tB x) 0 oMg (fun G1 h1 => ?_)
  refine gO ?_
  refine AWp.rounds 0 kRf ?_
  refine gO ?_
  exact Ret.same (by rw [tgS_len, tgS_len]; omega) (hk G1 h1)
 | .tag x (some v), A, G, K, L, hs, he, hk => by
  simp only [szE] at hs
  have hent : entersB Tryz.prog 106 = true := by kernel_rfl
  unfold encNd
  refine acalls Tryz.func105 rfl kRf gT (fun hH => ?_)
  refine gO1 hent ?_
  refine w_draw kRf dKn ?_
  refine gO1 hent ?_
  refine push_a L (tB x) v oMg (fun G1 h1 => ?_)
  refine gO ?_
  refine AWp.rounds 0 kRf ?_
  refine gO ?_
  exact Ret.same (by rw [tgS_len, tgS_len]; omega) (hk G1 h1)
 | .neg a, A, G, K, L, hs, he, hk => by
  simp only [szE] at hs
  unfold encNd
  refine acalls Tryz.func105 rfl kRf gT (fun hH => ?_)
  refine gO ?_
  refine AWp.rounds 1 kRf ?_
  refine gO ?_
  refine each_a a L oMg he (fun G1 h1 => ?_)
  have hk := hk G1 h1
  rw [show nmsE (.neg a) = nmsE a from rfl] at hk
  refine gO ?_
  exact Ret.same (by rw [tgS_len, tgS_len]; omega) hk
 | .bin c a b, A, G, K, L, hs, he, hk => by
  simp only [szE] at hs
  have := nmsE_len a
  have := nmsE_len b
  obtain ⟨⟨k1, k2, k3⟩, k4⟩ := op_kind (c := c) he.1
  unfold encNd
  refine acalls Tryz.func105 rfl kRf gT (fun hH => ?_)
  refine gO1 k2 ?_
  refine AWp.rounds 2 kRf ?_
  refine gO ?_
  refine each_a a (L) (by first | omega | (simp only [List.length_append]; omega)) he.2.1 (fun G1 h1 => ?_)
  refine gO ?_
  refine each_a b (L ++ nmsE a) (by first | omega | (simp only [List.length_append]; omega)) he.2.2 (fun G2 h2 => ?_)
  have hk := hk G2 oMg
  rw [show L ++ nmsE (Ex.bin c a b) = L ++ (nmsE a ++ nmsE b) by simp [nmsE, leafE]] at hk
  refine gO ?_
  exact Ret.same (by rw [tgS_len, tgS_len]; omega) hk
 | .f1 f a, A, G, K, L, hs, he, hk => by
  simp only [szE] at hs
  have := nmsE_len a
  obtain ⟨k1, k2, k3⟩ := fn_kind (f := f) (by have := he.1; omega)
  unfold encNd
  refine acalls Tryz.func105 rfl kRf gT (fun hH => ?_)
  refine gO1 k2 ?_
  refine AWp.rounds 1 kRf ?_
  refine gO ?_
  refine each_a a (L) (by first | omega | (simp only [List.length_append]; omega)) he.2 (fun G1 h1 => ?_)
  have hk := hk G1 oMg
  rw [show L ++ nmsE (Ex.f1 f a) = L ++ nmsE a by simp [nmsE, leafE]] at hk
  refine gO ?_
  exact Ret.same (by rw [tgS_len, tgS_len]; omega) hk
 | .f2 f a b, A, G, K, L, hs, he, hk => by
  simp only [szE] at hs
  have := nmsE_len a
  have := nmsE_len b
  obtain ⟨k1, k2, k3⟩ := fn_kind (f := f) (by have := he.1; omega)
  unfold encNd
  refine acalls Tryz.func105 rfl kRf gT (fun hH => ?_)
  refine gO1 k2 ?_
  refine AWp.rounds 2 kRf ?_
  refine gO ?_
  refine each_a a (L) (by first | omega | (simp only [List.length_append]; omega)) he.2.1 (fun G1 h1 => ?_)
  refine gO ?_
  refine each_a b (L ++ nmsE a) (by first | omega | (simp only [List.length_append]; omega)) he.2.2 (fun G2 h2 => ?_)
  have hk := hk G2 oMg
  rw [show L ++ nmsE (Ex.f2 f a b) = L ++ (nmsE a ++ nmsE b) by simp [nmsE, leafE]] at hk
  refine gO ?_
  exact Ret.same (by rw [tgS_len, tgS_len]; omega) hk
 | .f3 f a b c, A, G, K, L, hs, he, hk => by
  simp only [szE] at hs
  have := nmsE_len a
  have := nmsE_len b
  have := nmsE_len c
  obtain ⟨k1, k2, k3⟩ := fn_kind (f := f) (by have := he.1; omega)
  unfold encNd
  refine acalls Tryz.func105 rfl kRf gT (fun hH => ?_)
  refine gO1 k2 ?_
  refine AWp.rounds 3 kRf ?_
  refine gO ?_
  refine each_a a (L) (by first | omega | (simp only [List.length_append]; omega)) he.2.1 (fun G1 h1 => ?_)
  refine gO ?_
  refine each_a b (L ++ nmsE a) (by first | omega | (simp only [List.length_append]; omega)) he.2.2.1 (fun G2 h2 => ?_)
  refine gO ?_
  refine each_a c (L ++ (nmsE a ++ nmsE b)) (by first | omega | (simp only [List.length_append]; omega)) he.2.2.2 (fun G3 h3 => ?_)
  have hk := hk G3 oMg
  rw [show L ++ nmsE (Ex.f3 f a b c) = L ++ (nmsE a ++ (nmsE b ++ nmsE c)) by simp [nmsE, leafE]] at hk
  refine gO ?_
  exact Ret.same (by rw [tgS_len, tgS_len]; omega) hk
theorem ACalls.padD {P : Program} {f : FuncId} {args : List AV} {H : Hp} {K : AV → Hp → Prop} (h : ACalls P f args (H ++ [.dead]) K) : ACalls P f args H K := by
 intro B w0 ι w vs hs hr ho
 obtain ⟨ι', h1, h2, h3, _, _⟩ := WkL.pad (m := H.length) (vs := []) lRf B w0 ι w [] hs trivial sMp
 refine (h B w0 ι' w vs h3 (rel1L_agree h1 ho hr) (fun x hx => AV.ok1_mono sMp (ho x hx))).mono fun e w' he => ?_
 obtain ⟨ι2, u, av, H', rfl, k2, k3, k4, k5, k6, k7⟩ := he
 exact ⟨ι2, u, av, H', rfl, h1.trans k2 sMp, by simp at k3; omega, k4, k5, k6, k7⟩
def tagsE (e : Ex) : List ByteArray := cplF (srtS (nmsE e))
end Go.Proofs.YtagoolooikpabaaGreatDoor
namespace Go.Proofs.YtagoolooikpabaaGreatDoor
open Go Go.RowKit
set_option maxRecDepth 100000
set_option maxHeartbeats 1000000
structure TakesE (I : List (List UInt8 × Int) → Hp → Prop) (P : List UInt8 × Int → Prop) (f : FuncId) (cs : List (Nat × Nat × Nat)) : Prop where
 ent : entersB Tryz.prog f = true
 one : ∀ (X : Hp) (K : AV → Hp → Prop) (D : List (List UInt8 × Int)) (p : List UInt8 × Int), I D X → P p → D.length < 1000 → (∀ Y, I (D ++ [p]) Y → X.length ≤ Y.length → K (.tup []) Y) → ACalls Tryz.prog f ((.c (.str (tB p.1))) :: (.c (.int .i64 (p.2))) :: cs.map (fun p => AV.c (.ptr (some p)))) X K
theorem eachI_a {I : List (List UInt8 × Int) → Hp → Prop} {P : List UInt8 × Int → Prop} {f : FuncId} {cs : List (Nat × Nat × Nat)} (hf : TakesE I P f cs) : ∀ (e : Ex) {X : Hp} {K : AV → Hp → Prop} (D : List (List UInt8 × Int)), I D X → (∀ p ∈ leafE e, P p) → D.length + (leafE e).length ≤ 1000 → ExOk e → (∀ Y, I (D ++ leafE e) Y → X.length ≤ Y.length → K (.tup []) Y) → ACalls Tryz.prog 105 [.c (.fp (encNd e)), .c (.fn f [] cs)] X K
 | .num n, X, K, D, hI, hP, hD, he, hk => by
  have hk := hk X (by rw [show D ++ leafE (.num n) = D from List.append_nil _]; exact hI) lRf
  unfold encNd
  refine acalls Tryz.func105 rfl kRf gT (fun hH => ?_)
  refine gO ?_
  refine AWp.rounds 0 kRf ?_
  refine gO ?_
  exact Ret.same lRf hk
 | .tag x none, X, K, D, hI, hP, hD, he, hk => by
  have hent := hf.ent
  unfold encNd
  refine acalls Tryz.func105 rfl kRf gT (fun hH => ?_)
  refine gO1 hent ?_
  refine w_draw kRf dKn ?_
  refine gO1 hent ?_
  refine hf.one X _ D (x, 0) hI (hP _ (List.mem_singleton.2 rfl)) (by simp [leafE] at hD; omega) (fun Y h1 h2 => ?_)
  refine gO ?_
  refine AWp.rounds 0 kRf ?_
  refine gO ?_
  exact Ret.same h2 (hk Y h1 h2)
 | .tag x (some v), X, K, D, hI, hP, hD, he, hk => by
  have hent := hf.ent
  unfold encNd
  refine acalls Tryz.func105 rfl kRf gT (fun hH => ?_)
  refine gO1 hent ?_
  refine w_draw kRf dKn ?_
  refine gO1 hent ?_
  refine hf.one X _ D (x, v) hI (hP _ (List.mem_singleton.2 rfl)) (by simp [leafE] at hD; omega) (fun Y h1 h2 => ?_)
  refine gO ?_
  refine AWp.rounds 0 kRf ?_
  refine gO ?_
  exact Ret.same h2 (hk Y h1 h2)
 | .neg a, X, K, D, hI, hP, hD, he, hk => by
  unfold encNd
  refine acalls Tryz.func105 rfl kRf gT (fun hH => ?_)
  refine gO ?_
  refine AWp.rounds 1 kRf ?_
  refine gO ?_
  refine eachI_a hf a D hI hP hD he (fun Y h1 h2 => ?_)
  refine gO ?_
  exact Ret.same h2 (hk Y h1 h2)
 | .bin c a b, X, K, D, hI, hP, hD, he, hk => by
  obtain ⟨⟨k1, k2, k3⟩, k4⟩ := op_kind (c := c) he.1
  unfold encNd
  refine acalls Tryz.func105 rfl kRf gT (fun hH => ?_)
  refine gO1 k2 ?_
  refine AWp.rounds 2 kRf ?_
  refine gO ?_
  refine eachI_a hf a D hI (fun p hp => hP p (by simp [leafE, hp])) (by simp [leafE] at hD ⊢; omega) he.2.1 (fun Y h1 h2 => ?_)
  refine gO ?_
  refine eachI_a hf b (D ++ leafE a) h1 (fun p hp => hP p (by simp [leafE, hp])) (by simp [leafE] at hD ⊢; omega) he.2.2 (fun Z h3 h4 => ?_)
  rw [List.append_assoc] at h3
  refine gO ?_
  exact Ret.same (Nat.le_trans h2 h4) (hk Z h3 (Nat.le_trans h2 h4))
 | .f1 g a, X, K, D, hI, hP, hD, he, hk => by
  obtain ⟨k1, k2, k3⟩ := fn_kind (f := g) (by have := he.1; omega)
  unfold encNd
  refine acalls Tryz.func105 rfl kRf gT (fun hH => ?_)
  refine gO1 k2 ?_
  refine AWp.rounds 1 kRf ?_
  refine gO ?_
  refine eachI_a hf a D hI hP hD he.2 (fun Y h1 h2 => ?_)
  refine gO ?_
  exact Ret.same h2 (hk Y h1 h2)
 | .f2 g a b, X, K, D, hI, hP, hD, he, hk => by
  obtain ⟨k1, k2, k3⟩ := fn_kind (f := g) (by have := he.1; omega)
  unfold encNd
  refine acalls Tryz.func105 rfl kRf gT (fun hH => ?_)
  refine gO1 k2 ?_
  refine AWp.rounds 2 kRf ?_
  refine gO ?_
  refine eachI_a hf a D hI (fun p hp => hP p (by simp [leafE, hp])) (by simp [leafE] at hD ⊢; omega) he.2.1 (fun Y h1 h2 => ?_)
  refine gO ?_
  refine eachI_a hf b (D ++ leafE a) h1 (fun p hp => hP p (by simp [leafE, hp])) (by simp [leafE] at hD ⊢; omega) he.2.2 (fun Z h3 h4 => ?_)
  rw [List.append_assoc] at h3
  refine gO ?_
  exact Ret.same (Nat.le_trans h2 h4) (hk Z h3 (Nat.le_trans h2 h4))
 | .f3 g a b c, X, K, D, hI, hP, hD, he, hk => by
  obtain ⟨k1, k2, k3⟩ := fn_kind (f := g) (by have := he.1; omega)
  unfold encNd
  refine acalls Tryz.func105 rfl kRf gT (fun hH => ?_)
  refine gO1 k2 ?_
  refine AWp.rounds 3 kRf ?_
  refine gO ?_
  refine eachI_a hf a D hI (fun p hp => hP p (by simp [leafE, hp])) (by simp [leafE] at hD ⊢; omega) he.2.1 (fun Y h1 h2 => ?_)
  refine gO ?_
  refine eachI_a hf b (D ++ leafE a) h1 (fun p hp => hP p (by simp [leafE, hp])) (by simp [leafE] at hD ⊢; omega) he.2.2.1 (fun Z h3 h4 => ?_)
  refine gO ?_
  refine eachI_a hf c (D ++ leafE a ++ leafE b) h3 (fun p hp => hP p (by simp [leafE, hp])) (by simp [leafE] at hD ⊢; omega) he.2.2.2 (fun W h5 h6 => ?_)
  rw [List.append_assoc, List.append_assoc, ← List.append_assoc (leafE a)] at h5
  refine gO ?_
  exact Ret.same oMg (hk W h5 oMg)
end Go.Proofs.YtagoolooikpabaaGreatDoor
namespace Go.Proofs.YtagoolooikpabaaGreatDoor
open Go Go.RowKit
set_option maxRecDepth 100000
set_option maxHeartbeats 4000000
def leafX : Ex → List Ex
 | .num _ => []
 | .tag x s => [.tag x s]
 | .neg a => leafX a
 | .bin _ a b => leafX a ++ leafX b
 | .f1 _ a => leafX a
 | .f2 _ a b => leafX a ++ leafX b
 | .f3 _ a b c => leafX a ++ (leafX b ++ leafX c)
def nmX : Ex → ByteArray
 | .tag x _ => tB x
 | _ => ⟨#[]⟩
theorem leafX_nms : ∀ e : Ex, (leafX e).map nmX = nmsE e
 | .num _ => rfl
 | .tag x s => rfl
 | .neg a => leafX_nms a
 | .bin c a b => by
  show (leafX a ++ leafX b).map nmX = (leafE a ++ leafE b).map _
  rw [List.map_append, List.map_append, leafX_nms a, leafX_nms b]; rfl
 | .f1 f a => leafX_nms a
 | .f2 f a b => by
  show (leafX a ++ leafX b).map nmX = (leafE a ++ leafE b).map _
  rw [List.map_append, List.map_append, leafX_nms a, leafX_nms b]; rfl
 | .f3 f a b c => by
  show (leafX a ++ (leafX b ++ leafX c)).map nmX = (leafE a ++ leafE b ++ leafE c).map _
  rw [List.append_assoc, List.map_append, List.map_append, List.map_append, List.map_append, leafX_nms a, leafX_nms b, leafX_nms c]; rfl
theorem leafX_len (e : Ex) : (leafX e).length ≤ szE e := by
 have := congrArg List.length (leafX_nms e)
 rw [List.length_map] at this
 rw [this]
 exact nmsE_len e
theorem leafX_tag : ∀ (e : Ex), ∀ x ∈ leafX e, ∃ w s, x = .tag w s
 | .num _, x, h => by cases h
 | .tag w s, x, h => ⟨w, s, List.mem_singleton.1 h⟩
 | .neg a, x, h => leafX_tag a x h
 | .bin c a b, x, h => (List.mem_append.1 h).elim (leafX_tag a x) (leafX_tag b x)
 | .f1 f a, x, h => leafX_tag a x h
 | .f2 f a b, x, h => (List.mem_append.1 h).elim (leafX_tag a x) (leafX_tag b x)
 | .f3 f a b c, x, h => (List.mem_append.1 h).elim (leafX_tag a x) (fun h => (List.mem_append.1 h).elim (leafX_tag b x) (leafX_tag c x))
theorem pickG {α : Type} {A G : Hp} {m ty j q e sz : Nat} {x : List AC} {T : List α} {enc : α → List AC} (r : Int) (hA : HOk A) (hm : m ≤ A.length + 1) (h0 : G[0]? = some (.row ty 5 [x] true)) (hx : okT x) (hj : j = A.length + q) (he : ∀ y, (enc y).all AC.pure = true ∧ (enc y).length = sz) (hq : G[q]? = some (grO e sz (T.map enc))) (h1 : 1 ≤ q) :
  WkL m [(.c (.int .i64 r)), .c (grV j T)] (A ++ G) [(.c (.int .i64 r)), .c (grV (A.length + 1) T)] (A ++ [.row ty 5 [x] true, grO e sz (T.map enc)]) := by
 subst hj
 have hp : pureL [x] = true := by
  unfold pureL
  simp only [List.all_cons, List.all_nil, Bool.and_true]
  exact hx.2
 have hpT : pureL (T.map enc) = true := by
  unfold pureL
  rw [List.all_eq_true]
  intro y hy
  obtain ⟨z, hz, rfl⟩ := List.mem_map.1 hy
  exact (he z).1
 refine WkL.pickR [0, q] 1 hA hm sMp sMp ?_ (by simp; omega) ?_ ?_ ?_
 ·simp only [List.map_cons, List.map_nil]
  rw [grO_ren _ _ _ hpT, pureO_ren (show (AObj.row ty 5 [x] true).pureO = true from hp), h0, hq]
 ·intro o ho
  simp only [List.mem_cons, List.not_mem_nil, or_false] at ho
  rcases ho with rfl | rfl
  ·exact hx.row _ _ _
  ·exact okN_grO (fun x => ⟨(he x).2, (he x).1⟩)
 ·simp only [List.map_cons, List.map_nil, av_ren_gr]
  rw [pickS_add]
  rfl
 ·intro v hv
  simp only [List.mem_cons, List.not_mem_nil, or_false] at hv
  rcases hv with rfl | rfl
  ·trivial
  ·exact grV_ok sMp _
theorem encT_pureL (M : List Ex) : pureL (M.map encT) = true := by
 unfold pureL
 rw [List.all_eq_true]
 intro y hy
 obtain ⟨z, hz, rfl⟩ := List.mem_map.1 hy
 exact (encT_ok z).2
theorem leafL_len : ∀ L : List Ex, (∀ x ∈ L, szE x ≤ 1000) → (L.flatMap leafX).length ≤ 1000 * L.length
 | [], _ => by simp
 | x :: L, h => by
  have h1 := leafL_len L (fun y hy => h y (List.mem_cons_of_mem _ hy))
  have h2 := leafX_len x
  have h3 := h x sMp
  rw [List.flatMap_cons, List.length_append, List.length_cons]
  omega
theorem app_none {i : Nat} {H : Hp} {J : AV → Hp → Prop} {M : List Ex} (h : J (.c (grV i M)) H) : aBuiltin Tryz.prog .append #[171, 171] [.c (grV i M), .c (.lst 5 ([].map encT))] H J := by
 have he : elemT Tryz.prog 171 = some 173 := by kernel_rfl
 cases M with
 | nil =>
  refine ⟨rfl, ?_⟩
  rw [he]
  exact ⟨by kernel_rfl, fun _ => h, fun h => absurd h sMp⟩
 | cons x t =>
  refine ⟨rfl, ?_⟩
  rw [he]
  exact ⟨by kernel_rfl, fun _ => h, fun h => absurd h sMp⟩
theorem leavesK_a {H : Hp} {K : AV → Hp → Prop} (kd : Int) (s : ByteArray) (L : List Ex) (h9 : ¬ kd = 119) (hL : L.length ≤ 3 ∧ ∀ x ∈ L, szE x ≤ 1000)
  (ih : ∀ x ∈ L, ∀ {H : Hp} {K : AV → Hp → Prop}, K (.c (.lst 5 ((leafX x).map encT))) H → ACalls Tryz.prog 136 [.agg (encT x)] H K)
  (hk : K (.c (.lst 5 ((L.flatMap leafX).map encT))) H) : ACalls Tryz.prog 136 [.agg [.int .u8 kd, .str s, .int .i64 0, .lst 5 (L.map encT), .int .i64 0]] H K := by
 have hml : (L.map encT).length = L.length := List.length_map ..
 have hge : ∀ (k : Nat) (h : k < L.length) (h' : k < (L.map encT).length), (L.map encT)[k]'h' = encT L[k] := fun k h h' => List.getElem_map ..
 refine acalls Tryz.func136 rfl kRf gT (fun hH => ?_)
 refine gO2 hml h9 ?_
 refine AWp.loop (H.length + 1) [14, 15] [16, 3] (fun (k : Nat) => k ≤ L.length) (fun (k : Nat) => [(16, (.c (.int .i64 k))), (3, .c (grV (H.length + 1) ((L.take k).flatMap leafX)))]) (fun (k : Nat) => H ++ [.row 173 5 [[.int .u8 kd, .str s, .int .i64 0, .lst 5 (L.map encT), .int .i64 0]] true, grO 173 5 (((L.take k).flatMap leafX).map encT)]) (fun (k : Nat) => L.length - k) kRf (fun _ => rfl) kRf sOo sOm kl ?_ (fun k q _ _ => ?_)
 ·refine Next.mk 0 (Nat.zero_le _) ?_
  exact WkL.padP [.row 173 5 [[.int .u8 kd, .str s, .int .i64 0, .lst 5 (L.map encT), .int .i64 0]] true] sMp
 by_cases hlt : k < L.length
 ·have hnx : (L.take (k + 1)).flatMap leafX = (L.take k).flatMap leafX ++ leafX L[k] := by rw [List.take_succ_eq_append_getElem hlt, List.flatMap_append]; simp
  have hnl : ((L.take k).flatMap leafX).length ≤ 3000 := by
   have := leafL_len (L.take k) (fun x hx => hL.2 x (List.mem_of_mem_take hx))
   rw [List.length_take] at this
   omega
  have h7 := encT_l L[k]
  have h6 := encT_t L[k]
  have hxl := leafX_len L[k]
  have hxs := hL.2 L[k] (List.getElem_mem hlt)
  generalize (L.take k).flatMap leafX = M at *
  simp (disch := first | omega | (simp only [go_sem]; try omega)) only [go_sem, hlt, hml, hge k hlt, h6, h7]
  refine ih L[k] (List.getElem_mem hlt) ?_
  refine gO ?_
  have hpk : ∀ (q : Nat) (G : Hp) (M2 : List Ex), G[0]? = some (.row 173 5 [[.int .u8 kd, .str s, .int .i64 0, .lst 5 (L.map encT), .int .i64 0]] true) → G[q]? = some (grO 173 5 (M2.map encT)) → 1 ≤ q → WkL (H.length + 1) [(.c (.int .i64 ((k + 1 : Nat)))), .c (grV (H.length + q) M2)] (H ++ G) [(.c (.int .i64 ((k + 1 : Nat)))), .c (grV (H.length + 1) M2)] (H ++ [.row 173 5 [[.int .u8 kd, .str s, .int .i64 0, .lst 5 (L.map encT), .int .i64 0]] true, grO 173 5 (M2.map encT)]) := fun q G M2 h0 hq h1 => pickG _ hH oMg h0 ⟨rfl, rfl⟩ rfl (fun y => ⟨(encT_ok y).2, encT_l y⟩) hq h1
  by_cases he : leafX L[k] = []
  ·rw [he, List.append_nil] at hnx
   rw [he]
   refine app_none ?_
   refine gO ?_
   refine Next.mk (k + 1) ⟨by omega, by omega⟩ ?_
   rw [hnx]
   refine gO ?_
   exact hpk 1 _ M rfl rfl oMg
  ·obtain ⟨M2, hM2⟩ : ∃ M2, M2 = M ++ leafX L[k] := ⟨_, rfl⟩
   rw [← hM2] at hnx
   refine app_grL (enc := encT) (e := 173) (sz := 5) (bs := 64) (z := zT) M (leafX L[k]) kRf kRf kRf kRf aTT he rfl (by decide) oMg oMg ?_
   rw [← hM2]
   refine gO ?_
   refine Next.mk (k + 1) ⟨by omega, by omega⟩ ?_
   rw [hnx]
   refine gO ?_
   exact hpk 3 _ M2 rfl rfl oMg
 ·have hkl : k = L.length := by omega
  subst hkl
  rw [List.take_length]
  refine gO1 hml ?_
  exact Ret.frzGr 1 hH lRf rfl (encT_pureL _) (map_grV encT _ _).symm hk
theorem appNil1 {q ty : Nat} {x : List AC} {own : Bool} {H : Hp} {J : AV → Hp → Prop} (hj : H[q]? = some (.row ty 5 [x] own)) (h : J (.c (.sl (some (H.length, 0)) 1)) (H ++ [.row 173 5 [x] true])) : aBuiltin Tryz.prog .append #[171, 171] [.c (.sl none 0), .c (.sl (some (q, 0)) 1)] H J := by
 have he : elemT Tryz.prog 171 = some 173 := by kernel_rfl
 have hz : szT Tryz.prog 173 = 5 := by kernel_rfl
 have hb : Tryz.prog.bytesOf 173 = 64 := by kernel_rfl
 refine ⟨rfl, ?_⟩
 rw [he]
 refine ⟨by kernel_rfl, fun h => absurd h (by decide), fun _ => ⟨[], [x], ⟨rfl, rfl⟩, ⟨_, _, _, by rw [hz]; exact hj, by simp, rfl⟩, by rw [hz]; decide, by rw [hb]; decide, by decide, .inl ?_⟩⟩
 rw [hz]
 exact h
theorem leaves_a : ∀ (N : Nat) (e : Ex) {H : Hp} {K : AV → Hp → Prop}, szE e ≤ N → N ≤ 1000 → ExOk e → K (.c (.lst 5 ((leafX e).map encT))) H → ACalls Tryz.prog 136 [.agg (encT e)] H K
 | 0, e, H, K, hs, hN, he, hk => by have := hgt_sz e; omega
 | N + 1, .num n, H, K, hs, hN, he, hk => by
  unfold encT
  refine acalls Tryz.func136 rfl kRf gT (fun hH => ?_)
  refine gO ?_
  refine AWp.rounds 0 kRf ?_
  refine gO ?_
  exact Ret.nil [5] sMp (Ret.drop hH lRf (by simp [AV.ok, AV.ok1, AC.ok, AV.nilz, AC.nilz]) hk)
 | N + 1, .tag x s, H, K, hs, hN, he, hk => by
  have h7 := encT_l (.tag x s)
  have h6 := encT_t (.tag x s)
  have hk2 : K (.c (.lst 5 [encT (.tag x s)])) H := hk
  unfold encT at h6 h7 hk2 ⊢
  refine acalls Tryz.func136 rfl kRf gT (fun hH => ?_)
  refine gO2 h6 h7 ?_
  refine appNil1 (at1 sMp) ?_
  refine gO ?_
  refine AWp.rounds 0 kRf ?_
  refine gO ?_
  exact Ret.frzRow 2 hH lRf rfl rfl rfl rfl hk2
 | N + 1, .neg a, H, K, hs, hN, he, hk => by
  simp only [szE] at hs
  refine leavesK_a 109 ⟨#[]⟩ [a] (by decide) ⟨by simp, fun x hx => by rw [List.mem_singleton.1 hx]; omega⟩ (fun x hx => ?_) (by simpa [leafX] using hk)
  rw [List.mem_singleton.1 hx]
  intro H K hk
  exact leaves_a N a oMg oMg he hk
 | N + 1, .bin c a b, H, K, hs, hN, he, hk => by
  simp only [szE] at hs
  refine leavesK_a c.toNat ⟨#[]⟩ [a, b] ?_ ⟨by simp, fun x hx => ?_⟩ (fun x hx => ?_) (by simpa [leafX] using hk)
  ·have h1 := he.1
   simp only [List.mem_cons, List.not_mem_nil, or_false] at h1
   rcases h1 with rfl | rfl | rfl | rfl | rfl | rfl <;> decide
  ·simp only [List.mem_cons, List.not_mem_nil, or_false] at hx
   rcases hx with rfl | rfl <;> omega
  ·simp only [List.mem_cons, List.not_mem_nil, or_false] at hx
   rcases hx with rfl | rfl
   ·intro H K hk
    exact leaves_a N _ oMg oMg he.2.1 hk
   ·intro H K hk
    exact leaves_a N _ oMg oMg he.2.2 hk
 | N + 1, .f1 f a, H, K, hs, hN, he, hk => by
  simp only [szE] at hs
  refine leavesK_a 102 (tB f) [a] (by decide) ⟨by simp, fun x hx => by rw [List.mem_singleton.1 hx]; omega⟩ (fun x hx => ?_) (by simpa [leafX] using hk)
  rw [List.mem_singleton.1 hx]
  intro H K hk
  exact leaves_a N a oMg oMg he.2 hk
 | N + 1, .f2 f a b, H, K, hs, hN, he, hk => by
  simp only [szE] at hs
  refine leavesK_a 102 (tB f) [a, b] (by decide) ⟨by simp, fun x hx => ?_⟩ (fun x hx => ?_) (by simpa [leafX] using hk)
  ·simp only [List.mem_cons, List.not_mem_nil, or_false] at hx
   rcases hx with rfl | rfl <;> omega
  ·simp only [List.mem_cons, List.not_mem_nil, or_false] at hx
   rcases hx with rfl | rfl
   ·intro H K hk
    exact leaves_a N _ oMg oMg he.2.1 hk
   ·intro H K hk
    exact leaves_a N _ oMg oMg he.2.2 hk
 | N + 1, .f3 f a b c, H, K, hs, hN, he, hk => by
  simp only [szE] at hs
  refine leavesK_a 102 (tB f) [a, b, c] (by decide) ⟨by simp, fun x hx => ?_⟩ (fun x hx => ?_) (by simpa [leafX] using hk)
  ·simp only [List.mem_cons, List.not_mem_nil, or_false] at hx
   rcases hx with rfl | rfl | rfl <;> omega
  ·simp only [List.mem_cons, List.not_mem_nil, or_false] at hx
   rcases hx with rfl | rfl | rfl
   ·intro H K hk
    exact leaves_a N _ oMg oMg he.2.1 hk
   ·intro H K hk
    exact leaves_a N _ oMg oMg he.2.2.1 hk
   ·intro H K hk
    exact leaves_a N _ oMg oMg he.2.2.2 hk
end Go.Proofs.YtagoolooikpabaaGreatDoor
namespace Go.Proofs.YtagoolooikpabaaGreatDoor
open Go Go.RowKit
set_option maxRecDepth 100000
set_option maxHeartbeats 2000000
section
variable {H : Hp} {K : AV → Hp → Prop}
theorem compactOTg_a {i n : Nat} (l : List ByteArray) (hi : H[i]? = some (.row 9 1 (l.map encSs) true)) (hn : n = l.length) (hlen : l.length ≤ 1000000)
  (hk : K (.c (.sl (some (i, 0)) (cplF l).length)) (H.set i (.row 9 1 ((cplF l).map encSs) true))) :
  ACalls Tryz.prog 108 [.c (.sl (some (i, 0)) n)] H K := by
 subst hn
 have hilt := getElem?_lt hi
 refine acalls Tryz.func108 rfl kRf gT (fun hH => ?_)
 refine gO ?_
 by_cases h2 : l.length < 2
 ·rw [cplF_few l h2, set_same hi] at hk
  refine gO ?_
  exact Ret.same lRf hk
 refine gO ?_
 refine AWp.loop (H.length) [0] [3] (fun (k : Nat) => 1 ≤ k ∧ k ≤ l.length ∧ cplF (l.take k) = l.take k) (fun (k : Nat) => [(3, (.c (.int .i64 k)))]) (fun (k : Nat) => H) (fun (k : Nat) => l.length - k) kRf (fun _ => rfl) kRf sOo sOm kl ?_ (fun k hk1' _ _ => ?_)
 ·refine Next.mk 1 ⟨Nat.le_refl _, by omega, ?_⟩ wk
  exact cplF_few _ (by rw [List.length_take]; omega)
 obtain ⟨k1, k2, k3⟩ := hk1'
 by_cases hlt : k < l.length
 ·have hsu := cplF_succ l k1 hlt
  rw [k3] at hsu
  have hix : ((k : Int) - 1).toNat = k - 1 := by omega
  refine gO ?_
  refine w_draw kRf dKn ?_
  refine gO2 hi hix ?_
  refine acond_b (fun c => ?_) (fun c => ?_)
  ·-- two that are equal: what follows is moved up
   rw [if_pos (of_decide_eq_true c), List.append_nil] at hsu
   refine gO1 hi ?_
   refine AWp.loop (H.length) [0, 4] [5, 3] (fun (s : Nat × List ByteArray) => 1 ≤ s.1 ∧ k + s.1 ≤ l.length ∧ s.2.length = l.length ∧ (cplF (l.take (k + s.1))).length < k + s.1 ∧ s.2.take (cplF (l.take (k + s.1))).length = cplF (l.take (k + s.1)) ∧ s.2.drop (k + s.1 - 1) = l.drop (k + s.1 - 1)) (fun (s : Nat × List ByteArray) => [(5, (.c (.int .i64 (s.1)))), (3, (.c (.int .i64 (((cplF (l.take (k + s.1))).length)))))]) (fun (s : Nat × List ByteArray) => H.set i (.row 9 1 (s.2.map encSs) true)) (fun (s : Nat × List ByteArray) => l.length - s.1) kRf (fun _ => rfl) kRf sOo sOm kl ?_ (fun s hs _ _ => ?_)
   ·have hkl : (cplF (l.take (k + 1))).length = k := by rw [hsu, List.length_take]; omega
    refine Next.mk (1, l) ⟨Nat.le_refl _, by dsimp only; omega, rfl, by dsimp only; omega, ?_, rfl⟩ ?_
    ·dsimp only
     rw [hkl]
     exact hsu.symm
    ·dsimp only
     rw [hkl, set_same hi]
     exact wk
   obtain ⟨m, cur⟩ := s
   obtain ⟨s1, s2, s3, s4, s5, s6⟩ := hs
   dsimp only at s1 s2 s3 s4 s5 s6 ⊢
   obtain ⟨g, hg⟩ : ∃ g, g = cplF (l.take (k + m)) := ⟨_, rfl⟩
   rw [← hg] at s4 s5 ⊢
   by_cases hm : k + m < l.length
   ·have hnx := cplF_succ l (show 1 ≤ k + m by omega) hm
    rw [← hg] at hnx
    have hjc : k + m < cur.length := by omega
    have hjc2 : k + m - 1 < cur.length := by omega
    have hc1 : cur[k + m] = l[k + m] := by
     have h1 := congrArg (fun z => z[1]?) s6
     simp only [List.getElem?_drop] at h1
     rw [show k + m - 1 + 1 = k + m by omega, List.getElem?_eq_getElem hjc, List.getElem?_eq_getElem hm] at h1
     exact Option.some.inj h1
    have hc0 : cur[k + m - 1] = l[k + m - 1] := by
     have h1 := congrArg (fun z => z[0]?) s6
     simp only [List.getElem?_drop, Nat.add_zero] at h1
     rw [List.getElem?_eq_getElem hjc2, List.getElem?_eq_getElem (by omega : k + m - 1 < l.length)] at h1
     exact Option.some.inj h1
    have hgc : g.length < cur.length := by omega
    have hc0' : cur[k + ((m : Int) - 1).toNat]'oMg = l[k + m - 1] := by
     have e : k + ((m : Int) - 1).toNat = k + m - 1 := by omega
     simp only [e]
     exact hc0
    have hdr : cur.drop (k + m) = l.drop (k + m) := by
     have h1 := congrArg (List.drop 1) s6
     rw [List.drop_drop, List.drop_drop, show k + m - 1 + 1 = k + m by omega] at h1
     exact h1
    refine gO ?_
    refine w_draw kRf dKn ?_
    refine gO2 hc1 hc0' ?_
    refine acond_b (fun c => ?_) (fun c => ?_)
    ·rw [if_pos (of_decide_eq_true c), List.append_nil] at hnx
     refine gO ?_
     refine Next.mk (m + 1, cur) ?_ ?_
     ·dsimp only
      rw [← Nat.add_assoc, hnx, show k + m + 1 - 1 = k + m by omega]
      exact ⟨⟨by omega, by omega, s3, by omega, s5, hdr⟩, by omega⟩
     ·dsimp only
      rw [← Nat.add_assoc, hnx]
      exact wk
    ·rw [if_neg (of_decide_eq_false c)] at hnx
     refine gO1 hc1 ?_
     have hset : (cur.map encSs).set g.length (encSs l[k + m]) = (cur.set g.length l[k + m]).map encSs := by rw [List.map_set]
     simp only [encSs] at hset
     refine Next.mk (m + 1, cur.set g.length l[k + m]) ?_ ?_
     ·dsimp only
      rw [← Nat.add_assoc, hnx, show k + m + 1 - 1 = k + m by omega]
      refine ⟨⟨by omega, by omega, by simpa using s3, by simp; omega, ?_, ?_⟩, by omega⟩
      ·rw [List.length_append, List.length_singleton, List.take_succ_eq_append_getElem (by simpa using hgc), List.getElem_set_self]
       congr 1
       rw [List.take_set_of_le lRf]
       exact s5
      ·rw [List.drop_set_of_lt oMg]
       exact hdr
     ·dsimp only
      rw [← Nat.add_assoc, hnx, ← hset]
      exact wk
   ·have hjl : k + m = l.length := by omega
    rw [hjl, List.take_length] at hg
    rw [← hg] at hk
    refine gO ?_
    refine aclr_pos _ _ (List.getElem?_set_self hilt) oMg rfl (by simp; omega) ?_
    rw [List.set_set, ← List.map_take, s5]
    refine gO ?_
    exact Ret.same sMp hk
  ·rw [if_neg (of_decide_eq_false c)] at hsu
   refine gO ?_
   refine Next.mk (k + 1) ⟨⟨by omega, by omega, ?_⟩, by omega⟩ wk
   rw [hsu, List.take_succ_eq_append_getElem hlt]
 ·have hkl : k = l.length := by omega
  subst hkl
  rw [List.take_length] at k3
  rw [k3, set_same hi] at hk
  refine gO ?_
  exact Ret.same lRf hk
theorem indexRxTg_a (f : FuncId) (caps : List (Nat × Nat × Nat)) (p : ByteArray → Bool) (he : entersB Tryz.prog f = true) (hc : ∀ (a b c : Nat), (a, b, c) ∈ caps → a < H.length) {i ty n : Nat} {own : Bool} (l : List ByteArray) (hi : H[i]? = some (.row ty 1 (l.map encSs) own)) (hn : n = l.length) (hf : ∀ (x : ByteArray) (K : AV → Hp → Prop), x ∈ l → K (.c (.bool (p x))) H → ACalls Tryz.prog f ((.c (.str x)) :: caps.map fun q => .c (.ptr (some q))) H K) (hlen : l.length ≤ 1099511627776)
  (hk0 : l.any p = false → K (.c (.int .i64 (-1))) H) (hk1 : ∀ k : Nat, (h : k < l.length) → p l[k] = true → (∀ j (h : j < l.length), j < k → p l[j] = false) → K (.c (.int .i64 k)) H) : ACalls Tryz.prog 50 [.c (.sl (some (i, 0)) n), .c (.fn f [] caps)] H K := by
 subst hn
 have hilt := getElem?_lt hi
 refine acalls Tryz.func50 rfl kRf gT (fun hH => ?_)
 refine gO ?_
 refine AWp.loop (H.length) [0, 1, 7] [8] (fun (k : Nat) => k ≤ l.length ∧ ∀ j (h : j < l.length), j < k → p l[j] = false) (fun (k : Nat) => [(8, (.c (.int .i64 k)))]) (fun (k : Nat) => H) (fun (k : Nat) => l.length - k) kRf (fun _ => rfl) kRf sOo sOm kl ?_ (fun k hk1' _ _ => ?_)
 ·exact Next.mk 0 sMp wk
 obtain ⟨hk1', hk2⟩ := hk1'
 by_cases hlt : k < l.length
 ·refine gO2 he hi ?_
  refine hf l[k] _ (List.getElem_mem hlt) ?_
  refine gO ?_
  refine acond_b (fun c => ?_) (fun c => ?_)
  ·refine gO ?_
   exact Ret.same lRf (hk1 k hlt c hk2)
  ·refine gO ?_
   refine Next.mk (k + 1) ⟨⟨by omega, fun j h hj => ?_⟩, by omega⟩ wk
   rcases Nat.lt_or_ge j k with h1 | h1
   ·exact hk2 j h h1
   ·obtain rfl : j = k := by omega
    simpa using c
 ·refine gO ?_
  refine Ret.same lRf (hk0 ?_)
  rw [List.any_eq_false]
  intro x hx
  obtain ⟨j, hj, rfl⟩ := List.getElem_of_mem hx
  simpa using hk2 j hj oMg
theorem delxTg_a (f : FuncId) (caps : List (Nat × Nat × Nat)) (p : ByteArray → Bool) (he : entersB Tryz.prog f = true) (hc : ∀ (a b c : Nat), (a, b, c) ∈ caps → a < H.length) {i n : Nat} (l : List ByteArray) (hi : H[i]? = some (.row 9 1 (l.map encSs) true)) (hn : n = l.length) (hf : ∀ (G : Hp) (x : ByteArray) (K : AV → Hp → Prop), (∀ a : Nat, a < H.length → a ≠ i → G[a]? = H[a]?) → x ∈ l → K (.c (.bool (p x))) G → ACalls Tryz.prog f ((.c (.str x)) :: caps.map fun q => .c (.ptr (some q))) G K) (hlen : l.length ≤ 1000000)
  (hk : K (.c (.lst 1 ((l.filter (fun x => !p x)).map encSs))) (H.set i .dead)) : ACalls Tryz.prog 103 [.c (.sl (some (i, 0)) n), .c (.fn f [] caps)] H K := by
 subst hn
 have hilt := getElem?_lt hi
 refine acalls Tryz.func103 rfl kRf gT (fun hH => ?_)
 refine gO ?_
 refine indexRxTg_a f caps p he hc l hi rfl (fun x K hx hK => hf H x K (fun _ _ _ => rfl) hx hK) oMg (fun h0 => ?_) (fun q hq hpq hbe => ?_)
 ·refine gO ?_
  have e : l.filter (fun x => !p x) = l := by
   rw [List.filter_eq_self]
   intro x hx
   have := List.any_eq_false.1 h0 x hx
   simpa using this
  rw [e] at hk
  refine Ret.frzDead hi (pureL_map _ pUr) sMp lRf ?_
  rw [List.take_of_length_le sMp]
  exact hk
 ·have hfq : (l.take q).filter (fun x => !p x) = l.take q := by
   rw [List.filter_eq_self]
   intro x hx
   obtain ⟨j, hj, rfl⟩ := List.getElem_of_mem hx
   rw [List.length_take] at hj
   rw [List.getElem_take, hbe j oMg oMg]
   rfl
  have hfq1 : (l.take (q + 1)).filter (fun x => !p x) = l.take q := by
   rw [List.take_succ_eq_append_getElem hq, List.filter_append, hfq]
   simp [hpq]
  refine gO ?_
  refine AWp.loop (H.length) [0, 1] [6, 5] (fun (s : Nat × List ByteArray) => q + 1 ≤ s.1 ∧ s.1 ≤ l.length ∧ s.2.length = l.length ∧ ((l.take s.1).filter (fun x => !p x)).length < s.1 ∧ s.2.take ((l.take s.1).filter (fun x => !p x)).length = (l.take s.1).filter (fun x => !p x) ∧ s.2.drop s.1 = l.drop s.1) (fun (s : Nat × List ByteArray) => [(6, (.c (.int .i64 (s.1)))), (5, (.c (.int .i64 (((l.take s.1).filter (fun x => !p x)).length))))]) (fun (s : Nat × List ByteArray) => H.set i (.row 9 1 (s.2.map encSs) true)) (fun (s : Nat × List ByteArray) => l.length - s.1) kRf (fun _ => rfl) kRf sOo sOm kl ?_ (fun s hs _ _ => ?_)
  ·refine Next.mk (q + 1, l) ⟨Nat.le_refl _, by dsimp only; omega, rfl, by dsimp only; rw [hfq1, List.length_take]; omega, by dsimp only; rw [hfq1, List.length_take, Nat.min_eq_left oMg], rfl⟩ ?_
   have hlq : ((l.take (q + 1)).filter (fun x => !p x)).length = q := by rw [hfq1, List.length_take]; omega
   dsimp only
   rw [hlq, set_same hi]
   exact wk
  obtain ⟨j, cur⟩ := s
  obtain ⟨s1, s2, s3, s4, s5, s6⟩ := hs
  dsimp only at s1 s2 s3 s4 s5 s6
  obtain ⟨g, hg⟩ : ∃ g, g = (l.take j).filter (fun x => !p x) := ⟨_, rfl⟩
  rw [← hg] at s4 s5 ⊢
  have hcaps : ∀ (o : AObj) (M : Hp) (a : Nat), a < H.length → a ≠ i → (H.set i o ++ M)[a]? = H[a]? := fun o M a h1 h2 => by
   rw [List.getElem?_append_left (by rw [List.length_set]; exact h1), List.getElem?_set_ne (Ne.symm h2)]
  by_cases hlt : j < l.length
  ·have hjc : j < cur.length := by omega
   have hcj : cur[j] = l[j] := by
    have h1 := congrArg (fun z => z[0]?) s6
    simp only [List.getElem?_drop, Nat.add_zero] at h1
    rw [List.getElem?_eq_getElem hjc, List.getElem?_eq_getElem hlt] at h1
    exact Option.some.inj h1
   have hgc : g.length < cur.length := by omega
   have hnx : (l.take (j + 1)).filter (fun x => !p x) = g ++ (if p l[j] = true then [] else [l[j]]) := by
    rw [List.take_succ_eq_append_getElem hlt, List.filter_append, ← hg]
    congr 1
    by_cases c : p l[j] = true <;> simp [c]
   have hdr : ∀ v, (cur.set g.length v).drop (j + 1) = l.drop (j + 1) := fun v => by
    rw [List.drop_set_of_lt oMg, ← List.drop_drop, s6, List.drop_drop]
   have hdr0 : cur.drop (j + 1) = l.drop (j + 1) := by rw [← List.drop_drop, s6, List.drop_drop]
   refine gO2 he hcj ?_
   refine hf _ l[j] _ (fun a h1 h2 => by first | exact hcaps _ _ a h1 h2 | exact List.getElem?_set_ne (Ne.symm h2)) (List.getElem_mem hlt) ?_
   refine gO ?_
   refine acond_b (fun c => ?_) (fun c => ?_)
   ·rw [if_pos c, List.append_nil] at hnx
    refine gO ?_
    refine Next.mk (j + 1, cur) ?_ ?_
    ·dsimp only; rw [hnx]; exact ⟨⟨by omega, by omega, s3, by omega, s5, hdr0⟩, by omega⟩
    ·dsimp only; rw [hnx]; exact wk
   ·rw [if_neg (by simp [c])] at hnx
    refine gO ?_
    have hset : (cur.map encSs).set g.length (encSs l[j]) = (cur.set g.length l[j]).map encSs := by rw [List.map_set]
    simp only [encSs] at hset
    refine Next.mk (j + 1, cur.set g.length l[j]) ?_ ?_
    ·dsimp only
     rw [hnx]
     refine ⟨⟨by omega, by omega, by simpa using s3, by simp; omega, ?_, hdr _⟩, by omega⟩
     rw [List.length_append, List.length_singleton, List.take_succ_eq_append_getElem (by simpa using hgc), List.getElem_set_self]
     congr 1
     rw [List.take_set_of_le lRf]
     exact s5
    ·dsimp only
     have hok2 : HOk (H.set i (.row 9 1 ((cur.set g.length l[j]).map encSs) true)) := HOk.set hH (okN_map pUr)
     rw [hnx, ← hset]
     rw [← hset] at hok2
     exact wk
  ·have hjl : j = l.length := by omega
   subst hjl
   rw [List.take_length] at hg
   rw [← hg] at hk
   refine gO ?_
   refine aclr_pos _ _ (List.getElem?_set_self hilt) oMg rfl (by simp; omega) ?_
   rw [List.set_set, ← List.map_take, s5]
   refine gO ?_
   refine Ret.frzDead (List.getElem?_set_self hilt) (pureL_map _ pUr) sMp sMp ?_
   rw [List.set_set, List.take_of_length_le sMp]
   exact hk
theorem indexNxTg_a (f : FuncId) (caps : List (Nat × Nat × Nat)) (hk : K (.c (.int .i64 (-1))) H) : ACalls Tryz.prog 50 [.c (.lst 1 []), .c (.fn f [] caps)] H K := by
 refine acalls Tryz.func50 rfl kRf gT (fun hH => ?_)
 refine gO ?_
 refine AWp.rounds 0 kRf ?_
 refine gO ?_
 exact Ret.same lRf hk
theorem delxNilTg_a (f : FuncId) (caps : List (Nat × Nat × Nat)) (hk : K (.c (.lst 1 [])) H) : ACalls Tryz.prog 103 [.c (.lst 1 []), .c (.fn f [] caps)] H K := by
 refine acalls Tryz.func103 rfl kRf gT (fun hH => ?_)
 refine gO ?_
 refine indexNxTg_a f caps ?_
 refine gO ?_
 exact Ret.same lRf hk
theorem delxGrTg_a (f : FuncId) (caps : List (Nat × Nat × Nat)) (p : ByteArray → Bool) (he : entersB Tryz.prog f = true) (hc : ∀ (a b c : Nat), (a, b, c) ∈ caps → a < H.length) {i : Nat} (l : List ByteArray) (hi : H[i]? = some (grO 9 1 (l.map encSs))) (hf : ∀ (G : Hp) (x : ByteArray) (K : AV → Hp → Prop), (∀ a : Nat, a < H.length → a ≠ i → G[a]? = H[a]?) → x ∈ l → K (.c (.bool (p x))) G → ACalls Tryz.prog f ((.c (.str x)) :: caps.map fun q => .c (.ptr (some q))) G K) (hlen : l.length ≤ 1000000)
  (hk : K (.c (.lst 1 ((l.filter (fun x => !p x)).map encSs))) (H.set i .dead)) : ACalls Tryz.prog 103 [.c (grV i l), .c (.fn f [] caps)] H K := by
 cases l with
 | nil =>
  rw [set_same (o := .dead) hi] at hk
  refine ACalls.nilz [1] sMp ?_
  exact delxNilTg_a f caps hk
 | cons x xs => exact delxTg_a f caps p he hc (x :: xs) hi sMp hf hlen hk
theorem compactVO_a (l : List ByteArray) {i : Nat} (hi : H[i]? = some (grO 9 1 (l.map encSs))) (hlen : l.length ≤ 1000000)
  (hk : K (.c (grV i (cplF l))) (H.set i (grO 9 1 ((cplF l).map encSs)))) : ACalls Tryz.prog 108 [.c (grV i l)] H K := by
 cases l with
 | nil =>
  have hi2 : H[i]? = some AObj.dead := hi
  have hk : K (.c (.sl none 0)) (H.set i .dead) := hk
  rw [set_same hi2] at hk
  refine acalls Tryz.func108 rfl kRf gT (fun hH => ?_)
  refine gO ?_
  exact Ret.same lRf hk
 | cons x t =>
  refine compactOTg_a (x :: t) hi rfl hlen ?_
  have hne : cplF (x :: t) ≠ [] := by unfold cplF; simp
  rw [grV_pos _ hne, grO_pos _ _ (by simpa using hne)] at hk
  exact hk
end
theorem Ret.ownAt {H G : Hp} {K : AV → Hp → Prop} {n j : Nat} (l : List ByteArray) (hH : HOk H) (hn : n ≤ H.length) (hj : G[j]? = some (grO 9 1 (l.map encSs))) (hk : K (.c (grV H.length l)) (H ++ [grO 9 1 (l.map encSs)])) : Ret n (.c (grV (H.length + j) l)) (H ++ G) K := by
 cases l with
 | nil => exact Ret.cut hH hn trivial (Ret.pad hn (Ret.same (by simp; omega) hk))
 | cons x t =>
  refine Ret.pick [j] hH hn (L := [.row 9 1 ((x :: t).map encSs) true]) (by simp [hj, grO]) sMp (by simp [AObj.pureO, pureL, encSs, AC.pure]) (v' := .c (.sl (some (H.length, 0)) (t.length + 1))) ?_ oKs hk
  simp [AV.ren, AV.ren1, AC.ren, pickS, grV]
theorem tagsO_a {H : Hp} {K : AV → Hp → Prop} (e : Ex) (hs : szE e ≤ 1000) (he : ExOk e) (hk : K (.c (grV H.length (tagsE e))) (H ++ [grO 9 1 ((tagsE e).map encSs)])) : ACalls Tryz.prog 53 [.c (.fp (encNd e))] H K := by
 unfold tagsE at hk
 refine acalls Tryz.func53 rfl kRf gT (fun hH => ?_)
 refine gO ?_
 refine ACalls.padD ?_
 have e0 : H ++ [AObj.row 29 1 [[.sl none 0]] true] ++ [.dead] = tgS H [] [] := by unfold tgS; simp [grV, grO]
 rw [e0]
 refine each_a e (A := H) (G := []) [] (by simpa using hs) he (fun G hG => ?_)
 rw [List.nil_append]
 have hln := nmsE_len e
 generalize nmsE e = L at *
 have hat : (tgS H L G)[H.length]? = some (.row 29 1 [[grV (H.length + 1 + G.length) L]] true) := by unfold tgS; simp
 obtain ⟨j, hj⟩ : ∃ j, j = H.length + 1 + G.length := ⟨_, rfl⟩
 have hj0 : (tgS H L G)[j]? = some (grO 9 1 (L.map encSs)) := by
  unfold tgS
  rw [hj, List.getElem?_append_right oMg, show H.length + 1 + G.length - H.length = G.length + 1 by omega, List.getElem?_cons_succ, List.getElem?_append_right lRf, Nat.sub_self]
  rfl
 have htl := tgS_len H L G
 have hlt := getElem?_lt hj0
 rw [← hj] at hat
 have hat2 : ∀ X : AObj, ((tgS H L G).set j X)[H.length]? = some (.row 29 1 [[grV j L]] true) := fun X => by rw [List.getElem?_set_ne oMg]; exact hat
 have hdr : ∀ X : AObj, ∃ G2, (tgS H L G).set j X = H ++ G2 ∧ G2[j - H.length]? = some X := fun X => by
  refine ⟨(.row 29 1 [[grV (H.length + 1 + G.length) L]] true :: (G ++ [grO 9 1 (L.map encSs)])).set (j - H.length) X, ?_, ?_⟩
  ·unfold tgS
   rw [List.set_append_right _ _ oMg]
  ·rw [List.getElem?_set_self]
   simp
   omega
 refine gO1 hat ?_
 refine sortVSs_a L hj0 oMg ?_
 refine gO1 hat2 ?_
 have hvl : grV j L = grV j (srtS L) := by
  have hSl := srtS_len L
  cases L with
  | nil => rw [List.length_eq_zero_iff.1 hSl]
  | cons x t => rw [grV_pos _ sMp, grV_pos _ (by intro h; rw [h] at hSl; simp at hSl), hSl]
 rw [hvl]
 refine compactVO_a (srtS L) (List.getElem?_set_self hlt) (by rw [srtS_len]; omega) ?_
 rw [List.set_set]
 obtain ⟨G2, hG2, hG3⟩ := hdr (grO 9 1 ((cplF (srtS L)).map encSs))
 rw [hG2]
 refine gO ?_
 have hq := Ret.ownAt (n := H.length) (cplF (srtS L)) hH lRf hG3 hk
 rw [show H.length + (j - H.length) = j by omega] at hq
 exact hq
end Go.Proofs.YtagoolooikpabaaGreatDoor
namespace Go.Proofs.YtagoolooikpabaaGreatDoor
open Go Go.RowKit
set_option maxRecDepth 100000
set_option maxHeartbeats 2000000
theorem tagsTO_a {H : Hp} {K : AV → Hp → Prop} (e : Ex) (hs : szE e ≤ 1000) (he : ExOk e) (hk : K (.c (grV H.length (tagsE e))) (H ++ [grO 9 1 ((tagsE e).map encSs)])) : ACalls Tryz.prog 117 [.agg (encT e)] H K := by
 have h7 := encT_l e
 have h6 := encT_t e
 have hnm := leafX_nms e
 have htg := leafX_tag e
 have hxl := leafX_len e
 unfold tagsE at hk
 rw [← hnm] at hk
 refine acalls Tryz.func117 rfl kRf gT (fun hH => ?_)
 refine gO2 h6 h7 ?_
 refine leaves_a 1000 e hs lRf he ?_
 generalize leafX e = L at *
 have hml : (L.map encT).length = L.length := List.length_map ..
 have hge : ∀ (k : Nat) (h : k < L.length) (h' : k < (L.map encT).length), (L.map encT)[k]'h' = encT L[k] := fun k h h' => List.getElem_map ..
 refine gO1 hml ?_
 refine AWp.loop (H.length + 1) [7, 8] [9, 3] (fun (k : Nat) => k ≤ L.length) (fun (k : Nat) => [(9, (.c (.int .i64 k))), (3, .c (grV (H.length + 1) ((L.take k).map nmX)))]) (fun (k : Nat) => H ++ [.row 173 5 [encT e] true, grO 9 1 (((L.take k).map nmX).map encSs)]) (fun (k : Nat) => L.length - k) kRf (fun _ => rfl) kRf sOo sOm kl ?_ (fun k q _ _ => ?_)
 ·refine Next.mk 0 (Nat.zero_le _) ?_
  exact WkL.padP [.row 173 5 [encT e] true] sMp
 by_cases hlt : k < L.length
 ·have hnx : (L.take (k + 1)).map nmX = (L.take k).map nmX ++ [nmX L[k]] := by rw [List.take_succ_eq_append_getElem hlt, List.map_append]; rfl
  have hnl : ((L.take k).map nmX).length ≤ 1000 := by rw [List.length_map, List.length_take]; omega
  obtain ⟨w, s, hw⟩ := htg L[k] (List.getElem_mem hlt)
  generalize (L.take k).map nmX = M at *
  obtain ⟨M2, hM2⟩ : ∃ M2, M2 = M ++ [nmX L[k]] := ⟨_, rfl⟩
  rw [← hM2] at hnx
  have hgt : encT L[k] = [.int .u8 119, .str (tB w), .int .i64 0, .sl none 0, .int .i64 (s.getD (-1))] := by rw [hw]; rfl
  rw [hw] at hM2
  refine gO3 hlt hml hgt ?_
  refine appSs M (tB w) M2 hM2 aTT aTT oMg ?_
  refine gO ?_
  refine Next.mk (k + 1) ⟨by omega, by omega⟩ ?_
  rw [hnx]
  refine gO ?_
  exact pickG (q := 4) _ hH sMp rfl (encT_ok e) rfl (fun y => ⟨rfl, rfl⟩) rfl oMg
 ·have hkl : k = L.length := by omega
  subst hkl
  rw [List.take_length]
  generalize L.map nmX = M at *
  have hMl : M.length ≤ 1000 := by
   have := nmsE_len e
   rw [hnm]
   omega
  refine gO1 hml ?_
  refine sortVSs_a M aTT oMg ?_
  have hvl : grV (H.length + 1) M = grV (H.length + 1) (srtS M) := by
   have hSl := srtS_len M
   cases M with
   | nil => rw [List.length_eq_zero_iff.1 hSl]
   | cons x t => rw [grV_pos _ sMp, grV_pos _ (by intro h; rw [h] at hSl; simp at hSl), hSl]
  refine gO ?_
  rw [hvl]
  refine compactVO_a (srtS M) aTT (by rw [srtS_len]; omega) ?_
  refine gO ?_
  exact Ret.ownAt (j := 1) _ hH lRf rfl hk
theorem tagsInO_a {H : Hp} {K : AV → Hp → Prop} (l : List UInt8) (hl : l.length ≤ 1000000) (e : Ex) (h : parF l = .ok e) (hk : K (.c (grV H.length (tagsE e))) (H ++ [grO 9 1 ((tagsE e).map encSs)])) : ACalls Tryz.prog 67 [(.c (.str (tB l)))] H K := by
 refine acalls Tryz.func67 rfl kRf gT (fun hH => ?_)
 refine gO ?_
 refine parsedQ_a l hl (fun e' h' => ?_) (fun a c h' => ?_)
 ·rw [h] at h'
  injection h' with h'
  subst h'
  have hs := par_sz h
  have h7 := encT_l e
  have h6 := encT_t e
  refine gO2 h6 h7 ?_
  refine tagsTO_a e oMg (par_good h) ?_
  refine gO ?_
  exact Ret.ownAt (j := 1) _ hH lRf rfl hk
 ·rw [h] at h'; cases h'
end Go.Proofs.YtagoolooikpabaaGreatDoor
