/- Several texts in one: What an expression comes to: expr, and what follows. No condition. -/
import Derived.Test.YtagoolooikpabaaGreatDoorHVEvl
set_option linter.all false
namespace Go.Proofs.YtagoolooikpabaaGreatDoor
open Go Go.RowKit
set_option maxRecDepth 100000
set_option maxHeartbeats 4000000
@[go_sem] theorem kde_wAbs_abs : decide ((tB wAbs : ByteArray) = ⟨#[97, 98, 115]⟩) = true := (by decide)
@[go_sem] theorem kde_wAbs_good : decide ((tB wAbs : ByteArray) = ⟨#[103, 111, 111, 100]⟩) = false := (by decide)
@[go_sem] theorem kde_wAbs_if : decide ((tB wAbs : ByteArray) = ⟨#[105, 102]⟩) = false := (by decide)
@[go_sem] theorem kde_wGd_abs : decide ((tB wGd : ByteArray) = ⟨#[97, 98, 115]⟩) = false := (by decide)
@[go_sem] theorem kde_wGd_good : decide ((tB wGd : ByteArray) = ⟨#[103, 111, 111, 100]⟩) = true := (by decide)
@[go_sem] theorem kde_wMin_abs : decide ((tB wMin : ByteArray) = ⟨#[97, 98, 115]⟩) = false := (by decide)
@[go_sem] theorem kde_wMin_good : decide ((tB wMin : ByteArray) = ⟨#[103, 111, 111, 100]⟩) = false := (by decide)
@[go_sem] theorem kde_wMin_if : decide ((tB wMin : ByteArray) = ⟨#[105, 102]⟩) = false := (by decide)
@[go_sem] theorem kde_wMax_abs : decide ((tB wMax : ByteArray) = ⟨#[97, 98, 115]⟩) = false := (by decide)
@[go_sem] theorem kde_wMax_good : decide ((tB wMax : ByteArray) = ⟨#[103, 111, 111, 100]⟩) = false := (by decide)
@[go_sem] theorem kde_wMax_if : decide ((tB wMax : ByteArray) = ⟨#[105, 102]⟩) = false := (by decide)
@[go_sem] theorem kde_wIf_abs : decide ((tB wIf : ByteArray) = ⟨#[97, 98, 115]⟩) = false := (by decide)
@[go_sem] theorem kde_wIf_good : decide ((tB wIf : ByteArray) = ⟨#[103, 111, 111, 100]⟩) = false := (by decide)
@[go_sem] theorem kde_wIf_if : decide ((tB wIf : ByteArray) = ⟨#[105, 102]⟩) = true := (by decide)
def LookOk (A : Hp) (f : FuncId) (fs cs : List (Nat × Nat × Nat)) (look : List UInt8 → Int → Vl) : Prop :=
 entersB Tryz.prog f = true ∧ (∀ p ∈ fs ++ cs, p.1 < A.length) ∧ ∀ (G : Hp) (K : AV → Hp → Prop) (x : List UInt8) (m : Int), x.length ≤ 40 → 0 ≤ m → m ≤ 1000000000000 → K (.agg (encV (look x m))) (A ++ G) → ACalls Tryz.prog f (fs.map (fun p => AV.c (.ptr (some p))) ++ (.c (.str (tB x))) :: (.c (.int .i64 m)) :: cs.map (fun p => AV.c (.ptr (some p)))) (A ++ G) K
theorem LookOk.app {A : Hp} {f : FuncId} {fs cs : List (Nat × Nat × Nat)} {look : List UInt8 → Int → Vl} (h : LookOk A f fs cs look) (G : Hp) : LookOk (A ++ G) f fs cs look := by
 refine ⟨h.1, fun p hp => by have := h.2.1 p hp; simp; omega, fun G2 K x m h1 h2 h3 hk => ?_⟩
 rw [List.append_assoc] at hk
 have := h.2.2 (G ++ G2) K x m h1 h2 h3 hk
 rw [List.append_assoc]
 exact this
theorem LookOk.at {A : Hp} {f : FuncId} {fs cs : List (Nat × Nat × Nat)} {look : List UInt8 → Int → Vl} (h : LookOk A f fs cs look) (G : Hp) {K : AV → Hp → Prop} (x : List UInt8) (m : Int) (h1 : x.length ≤ 40) (h2 : 0 ≤ m) (h3 : m ≤ 1000000000000) (hk : K (.agg (encV (look x m))) (A ++ G)) : ACalls Tryz.prog f (fs.map (fun p => AV.c (.ptr (some p))) ++ (.c (.str (tB x))) :: (.c (.int .i64 m)) :: cs.map (fun p => AV.c (.ptr (some p)))) (A ++ G) K := h.2.2 G K x m h1 h2 h3 hk
theorem kid_a {H : Hp} {K : AV → Hp → Prop} {f : FuncId} {fs cs : List (Nat × Nat × Nat)} {kind : ByteArray} {n k : Int} {x : ByteArray} {b : Bool} {L : List Ex} {m : Int} {i j q : Nat} (hk0 : 0 ≤ k ∧ k < L.length)
  (hi : H[i]? = some (.row 83 1 [[.fp [.str kind, .int .i64 n, .str x, .lst 1 (L.map fun x => [.fp (encNd x)]), .bool b]]] true)) (hj : H[j]? = some (.row 3 1 [[.int .i64 m]] true)) (hq : H[q]? = some (.row 111 1 [[.fn f fs cs]] true))
  (v : Vl) (hv : ∀ (K : AV → Hp → Prop) (G : Hp) (h : k.toNat < L.length), K (.agg (encV v)) (H ++ G) → ACalls Tryz.prog 119 [.c (.fp (encNd L[k.toNat])), (.c (.int .i64 m)), .c (.fn f fs cs)] (H ++ G) K)
  (hk : K (.agg (encV v)) H) : ACalls Tryz.prog 173 [(.c (.int .i64 k)), .c (.ptr (some (i, 0, 0))), .c (.ptr (some (j, 0, 0))), .c (.ptr (some (q, 0, 0)))] H K := by
 have hil := getElem?_lt hi
 have hjl := getElem?_lt hj
 have hql := getElem?_lt hq
 have hml : (L.map fun x => [AC.fp (encNd x)]).length = L.length := List.length_map ..
 have hkl : k.toNat < L.length := by omega
 refine acalls Tryz.func173 rfl kRf gT (fun hH => ?_)
 refine gO3 hi hj hq ?_
 refine w_tree (.one 0 (.one 1 (.one 2 (.one 3 (.one 4 (.one 5 (.one 6 (.one 7 (.one 8 (.one 9 (.one 10 .done))))))))))) kRf dKn ?_
 refine gO4 hi hj hq hml ?_
 refine hv _ _ hkl ?_
 refine gO ?_
 exact Ret.drop hH lRf oKs hk
theorem eval_a {f : FuncId} {fs cs : List (Nat × Nat × Nat)} {look : List UInt8 → Int → Vl} (hlv : ∀ x m, VlOk (look x m)) (m : Int) (hm : 0 ≤ m ∧ m ≤ 1000000000000) : ∀ (N : Nat) (e : Ex) {H : Hp} {K : AV → Hp → Prop}, LookOk H f fs cs look → szE e ≤ N → ExOk e → K (.agg (encV (evP look m e))) H → ACalls Tryz.prog 119 [.c (.fp (encNd e)), (.c (.int .i64 m)), .c (.fn f fs cs)] H K
 | 0, e, H, K, hl, hs, he, hk => by have := hgt_sz e; omega
 | N + 1, .num n, H, K, hl, hs, he, hk => by
  unfold encNd
  refine acalls Tryz.func119 rfl kRf gT (fun hH => ?_)
  refine gO ?_
  exact Ret.drop hH lRf oKs hk
 | N + 1, .tag x s, H, K, hl, hs, he, hk => by
  have hx := he.1.2.1
  have hent := hl.1
  have hsb : 0 ≤ s.getD 0 ∧ s.getD 0 ≤ 86400000 := by
   cases s with
   | none => exact ⟨by decide, by decide⟩
   | some n => exact he.2 n rfl
  have hN : ∃ b, encNd (.tag x s) = [.str ⟨#[116, 97, 103]⟩, .int .i64 (s.getD 0), .str (tB x), .sl none 0, .bool b] := by
   cases s with
   | none => exact ⟨false, rfl⟩
   | some n => exact ⟨true, rfl⟩
  obtain ⟨b, hN⟩ := hN
  rw [hN]
  have hk : K (.agg (encV (if m < s.getD 0 then badV else look x (m - s.getD 0)))) H := hk
  by_cases hlt : m < s.getD 0
  ·rw [if_pos hlt] at hk
   refine acalls Tryz.func119 rfl kRf gT (fun hH => ?_)
   refine gO ?_
   refine w_draw kRf dKn ?_
   refine gO1 hlt ?_
   refine badE_a ?_
   refine gO ?_
   exact Ret.drop hH lRf oKs hk
  ·rw [if_neg hlt] at hk
   refine acalls Tryz.func119 rfl kRf gT (fun hH => ?_)
   refine gO ?_
   refine w_draw kRf dKn ?_
   refine gO1 hlt ?_
   refine w_draw kRf dKn ?_
   refine gO1 hent ?_
   refine hl.at _ x (m - s.getD 0) hx oMg oMg ?_
   refine gO ?_
   exact Ret.drop hH lRf oKs hk
 | N + 1, .neg a, H, K, hl, hs, he, hk => by
  simp only [szE] at hs
  have hk : K (.agg (encV (bdV (-(evP look m a).n) (evP look m a).q 1000000000000))) H := hk
  have hent : entersB Tryz.prog 173 = true := by kernel_rfl
  unfold encNd
  have hv0 := evP_ok hlv m a he
  have ih := fun {H : Hp} {K : AV → Hp → Prop} (hl : LookOk H f fs cs look) (hk : K (.agg (encV (evP look m a))) H) => eval_a hlv m hm N a hl oMg he hk
  refine acalls Tryz.func119 rfl kRf gT (fun hH => ?_)
  refine gO1 hent ?_
  refine kid_a (L := [a]) (k := 0) ⟨by decide, by simp⟩ (at0 sMp) (at1 sMp) (at2 sMp) (evP look m a) (fun K G h hk => ih ((hl.app _).app _) hk) ?_
  generalize evP look m a = v at *
  obtain ⟨b1, b2, _⟩ := hv0
  have hneg : (0 : Int) - v.n = -v.n := by omega
  refine gO1 hneg ?_
  refine boundedE_a _ _ _ (by decide) ?_
  refine gO ?_
  exact Ret.drop hH lRf oKs hk
 | N + 1, .f1 g a, H, K, hl, hs, he, hk => by
  simp only [szE] at hs
  have ih := fun (x : Ex) (hx : szE x ≤ N) (hxo : ExOk x) {H : Hp} {K : AV → Hp → Prop} (hl : LookOk H f fs cs look) (hk : K (.agg (encV (evP look m x))) H) => eval_a hlv m hm N x hl hx hxo hk
  have hent : entersB Tryz.prog 173 = true := by kernel_rfl
  have hv0 := evP_ok hlv m a he.2
  have hg := he.1
  rcases fn1 hg with rfl | rfl
  ·have hk : K (.agg (encV (bdV (max (evP look m a).n (-(evP look m a).n)) (evP look m a).q 1000000000000))) H := hk
   unfold encNd
   refine acalls Tryz.func119 rfl kRf gT (fun hH => ?_)
   refine gO1 hent ?_
   refine kid_a (L := [a]) (k := 0) ⟨by decide, by simp⟩ (at0 sMp) (at1 sMp) (at2 sMp) (evP look m a) (fun K G h hk => ih a oMg he.2 ((hl.app _).app _) hk) ?_
   generalize evP look m a = v at *
   obtain ⟨b1, b2, _⟩ := hv0
   have hneg : (0 : Int) - v.n = -v.n := by omega
   refine gO1 hneg ?_
   refine boundedE_a _ _ _ (by decide) ?_
   refine gO ?_
   exact Ret.drop hH lRf oKs hk
  ·have hk : K (.agg (encV (bdV (oneV ((evP look m a).q = 0)) 0 1))) H := hk
   unfold encNd
   refine acalls Tryz.func119 rfl kRf gT (fun hH => ?_)
   refine gO1 hent ?_
   refine kid_a (L := [a]) (k := 0) ⟨by decide, by simp⟩ (at0 sMp) (at1 sMp) (at2 sMp) (evP look m a) (fun K G h hk => ih a oMg he.2 ((hl.app _).app _) hk) ?_
   generalize evP look m a = v at *
   refine gO ?_
   refine ofE_a (v.q = 0) 0 ?_
   refine gO ?_
   exact Ret.drop hH lRf oKs hk
 | N + 1, .bin c a b, H, K, hl, hs, he, hk => by
  simp only [szE] at hs
  have ih := fun (x : Ex) (hx : szE x ≤ N) (hxo : ExOk x) {H : Hp} {K : AV → Hp → Prop} (hl : LookOk H f fs cs look) (hk : K (.agg (encV (evP look m x))) H) => eval_a hlv m hm N x hl hx hxo hk
  have hent : entersB Tryz.prog 173 = true := by kernel_rfl
  have va := evP_ok hlv m a he.2.1
  have vb := evP_ok hlv m b he.2.2
  have hk : K (.agg (encV (twoV c (evP look m a) (evP look m b)))) H := hk
  obtain ⟨⟨k1, k2, k3⟩, k4⟩ := op_kind (c := c) he.1
  have hc := he.1
  have k5 : decide (tB [c] = ⟨#[97, 98, 115]⟩) = false ∧ decide (tB [c] = ⟨#[103, 111, 111, 100]⟩) = false ∧ decide (tB [c] = ⟨#[105, 102]⟩) = false := by
   have h := he.1
   simp only [List.mem_cons, List.not_mem_nil, or_false] at h
   rcases h with rfl | rfl | rfl | rfl | rfl | rfl <;> exact ⟨by decide, by decide, by decide⟩
  obtain ⟨k5, k6, k7⟩ := k5
  unfold encNd
  refine acalls Tryz.func119 rfl kRf gT (fun hH => ?_)
  simp (disch := first | omega | (simp only [go_sem]; try omega)) only [go_sem, hent, k1, k2, k3, k5, k6, k7]
  refine w_tree (.one 4 (.one 6 (.two 0 (.one 1 (.one 2 (.two 3 (.one 5 (.one 7 (.one 8 (.one 9 .done)))) 5 (.two 3 (.one 7 (.one 8 (.one 9 .done))) 7 (.one 3 (.one 8 (.one 9 .done))))))) 5 (.two 0 (.one 1 (.one 2 (.two 3 (.one 7 (.one 8 (.one 9 .done))) 7 (.one 3 (.one 8 (.one 9 .done)))))) 7 (.one 0 (.one 1 (.one 2 (.one 3 (.one 8 (.one 9 .done)))))))))) kRf dKn ?_
  refine gO1 hent ?_
  repeat' first | (refine kid_a (L := [a, b]) (k := 0) ⟨by decide, by simp⟩ (at0 sMp) (at1 sMp) (at2 sMp) (evP look m a) (fun K G h hk => ih a oMg he.2.1 ((hl.app _).app _) hk) ?_; refine gO1 hent ?_) | (refine kid_a (L := [a, b]) (k := 1) ⟨by decide, by simp⟩ (at0 sMp) (at1 sMp) (at2 sMp) (evP look m b) (fun K G h hk => ih b oMg he.2.2 ((hl.app _).app _) hk) ?_; refine gO1 hent ?_) | (refine twoE_a c hc _ _ va vb ?_; refine gO ?_) | (exact Ret.drop hH lRf oKs hk) | apply And.intro
 | N + 1, .f2 g a b, H, K, hl, hs, he, hk => by
  simp only [szE] at hs
  have ih := fun (x : Ex) (hx : szE x ≤ N) (hxo : ExOk x) {H : Hp} {K : AV → Hp → Prop} (hl : LookOk H f fs cs look) (hk : K (.agg (encV (evP look m x))) H) => eval_a hlv m hm N x hl hx hxo hk
  have hent : entersB Tryz.prog 173 = true := by kernel_rfl
  rcases fn2 he.1 with rfl | rfl
  ·have hk : K (.agg (encV (bdV (min (evP look m a).n (evP look m b).n) (max (evP look m a).q (evP look m b).q) 1000000000000))) H := hk
   unfold encNd
   refine acalls Tryz.func119 rfl kRf gT (fun hH => ?_)
   refine gO1 hent ?_
   refine w_tree (.one 4 (.one 6 (.two 0 (.one 1 (.one 2 (.two 3 (.one 5 (.one 7 (.one 8 (.one 9 .done)))) 5 (.two 3 (.one 7 (.one 8 (.one 9 .done))) 7 (.one 3 (.one 8 (.one 9 .done))))))) 5 (.two 0 (.one 1 (.one 2 (.two 3 (.one 7 (.one 8 (.one 9 .done))) 7 (.one 3 (.one 8 (.one 9 .done)))))) 7 (.one 0 (.one 1 (.one 2 (.one 3 (.one 8 (.one 9 .done)))))))))) kRf dKn ?_
   refine gO1 hent ?_
   repeat' first | (refine kid_a (L := [a, b]) (k := 0) ⟨by decide, by simp⟩ (at0 sMp) (at1 sMp) (at2 sMp) (evP look m a) (fun K G h hk => ih a oMg he.2.1 ((hl.app _).app _) hk) ?_; refine gO1 hent ?_) | (refine kid_a (L := [a, b]) (k := 1) ⟨by decide, by simp⟩ (at0 sMp) (at1 sMp) (at2 sMp) (evP look m b) (fun K G h hk => ih b oMg he.2.2 ((hl.app _).app _) hk) ?_; refine gO1 hent ?_) | (refine minE_a _ _ ?_; refine gO ?_) | (exact Ret.drop hH lRf oKs hk) | apply And.intro
  ·have hk : K (.agg (encV (bdV (max (evP look m a).n (evP look m b).n) (max (evP look m a).q (evP look m b).q) 1000000000000))) H := hk
   unfold encNd
   refine acalls Tryz.func119 rfl kRf gT (fun hH => ?_)
   refine gO1 hent ?_
   refine w_tree (.one 4 (.one 6 (.two 0 (.one 1 (.one 2 (.two 3 (.one 5 (.one 7 (.one 8 (.one 9 .done)))) 5 (.two 3 (.one 7 (.one 8 (.one 9 .done))) 7 (.one 3 (.one 8 (.one 9 .done))))))) 5 (.two 0 (.one 1 (.one 2 (.two 3 (.one 7 (.one 8 (.one 9 .done))) 7 (.one 3 (.one 8 (.one 9 .done)))))) 7 (.one 0 (.one 1 (.one 2 (.one 3 (.one 8 (.one 9 .done)))))))))) kRf dKn ?_
   refine gO1 hent ?_
   repeat' first | (refine kid_a (L := [a, b]) (k := 0) ⟨by decide, by simp⟩ (at0 sMp) (at1 sMp) (at2 sMp) (evP look m a) (fun K G h hk => ih a oMg he.2.1 ((hl.app _).app _) hk) ?_; refine gO1 hent ?_) | (refine kid_a (L := [a, b]) (k := 1) ⟨by decide, by simp⟩ (at0 sMp) (at1 sMp) (at2 sMp) (evP look m b) (fun K G h hk => ih b oMg he.2.2 ((hl.app _).app _) hk) ?_; refine gO1 hent ?_) | (refine maxE_a _ _ ?_; refine gO ?_) | (exact Ret.drop hH lRf oKs hk) | apply And.intro
 | N + 1, .f3 g a b c, H, K, hl, hs, he, hk => by
  simp only [szE] at hs
  have ih := fun (x : Ex) (hx : szE x ≤ N) (hxo : ExOk x) {H : Hp} {K : AV → Hp → Prop} (hl : LookOk H f fs cs look) (hk : K (.agg (encV (evP look m x))) H) => eval_a hlv m hm N x hl hx hxo hk
  have hent : entersB Tryz.prog 173 = true := by kernel_rfl
  obtain rfl := fn3 he.1
  have va := evP_ok hlv m a he.2.1
  have vb := evP_ok hlv m b he.2.2.1
  have vc := evP_ok hlv m c he.2.2.2
  have hk : K (.agg (encV (if (evP look m a).q = 2 then badV else bdV (if (evP look m a).n = 0 then (evP look m c).n else (evP look m b).n) (max (if (evP look m a).n = 0 then (evP look m c).q else (evP look m b).q) (evP look m a).q) 1000000000000))) H := hk
  unfold encNd
  refine acalls Tryz.func119 rfl kRf gT (fun hH => ?_)
  refine gO1 hent ?_
  refine kid_a (L := [a, b, c]) (k := 0) ⟨by decide, by simp⟩ (at0 sMp) (at1 sMp) (at2 sMp) (evP look m a) (fun K G h hk => ih a oMg he.2.1 ((hl.app _).app _) hk) ?_
  by_cases h2 : (evP look m a).q = 2
  ·rw [if_pos h2] at hk
   refine gO1 h2 ?_
   refine badE_a ?_
   refine gO ?_
   exact Ret.drop hH lRf oKs hk
  rw [if_neg h2] at hk
  by_cases h0 : (evP look m a).n = 0
  ·rw [if_pos h0, if_pos h0] at hk
   refine gO2 h2 h0 ?_
   refine kid_a (L := [a, b, c]) (k := 2) ⟨by decide, by simp⟩ (at0 sMp) (at1 sMp) (at2 sMp) (evP look m c) (fun K G h hk => ih c oMg he.2.2.2 ((hl.app _).app _) hk) ?_
   refine gO2 h2 h0 ?_
   refine boundedE_a _ _ _ (by decide) ?_
   refine gO ?_
   exact Ret.drop hH lRf oKs hk
  ·rw [if_neg h0, if_neg h0] at hk
   refine gO2 h2 h0 ?_
   refine kid_a (L := [a, b, c]) (k := 1) ⟨by decide, by simp⟩ (at0 sMp) (at1 sMp) (at2 sMp) (evP look m b) (fun K G h hk => ih b oMg he.2.2.1 ((hl.app _).app _) hk) ?_
   refine gO2 h2 h0 ?_
   refine boundedE_a _ _ _ (by decide) ?_
   refine gO ?_
   exact Ret.drop hH lRf oKs hk
end Go.Proofs.YtagoolooikpabaaGreatDoor
namespace Go.Proofs.YtagoolooikpabaaGreatDoor
open Go Go.RowKit
set_option maxRecDepth 100000
set_option maxHeartbeats 4000000
structure LookSt (lo : Int) (T : Hp → Prop) (f : FuncId) (fs cs : List (Nat × Nat × Nat)) (look : List UInt8 → Int → Vl) (P : ByteArray → Prop) : Prop where
 ent : entersB Tryz.prog f = true
 ptr : ∀ X, T X → ∀ p ∈ fs ++ cs, p.1 < X.length
 sim : ∀ X Y, T X → T Y → Y.length = X.length ∧ ∀ G, HOk (X ++ G) → HOk (Y ++ G)
 ask : ∀ (X G : Hp) (K : AV → Hp → Prop) (x : List UInt8) (m : Int), T X → P (tB x) → x.length ≤ 40 → lo ≤ m → m ≤ 1000000000000 → (∀ Y, T Y → K (.agg (encV (look x m))) (Y ++ G)) → ACalls Tryz.prog f (fs.map (fun p => AV.c (.ptr (some p))) ++ (.c (.str (tB x))) :: (.c (.int .i64 m)) :: cs.map (fun p => AV.c (.ptr (some p)))) (X ++ G) K
def TA (T : Hp → Prop) (R : Hp) : Hp → Prop := fun Z => ∃ Y, T Y ∧ Z = Y ++ R
theorem LookSt.app {lo : Int} {T : Hp → Prop} {f : FuncId} {fs cs : List (Nat × Nat × Nat)} {look : List UInt8 → Int → Vl} {P : ByteArray → Prop} (h : LookSt lo T f fs cs look P) (R : Hp) : LookSt lo (TA T R) f fs cs look P := by
 refine ⟨h.ent, ?_, ?_, ?_⟩
 ·rintro _ ⟨X, hX, rfl⟩ p hp
  have := h.ptr X hX p hp
  simp; omega
 ·rintro _ _ ⟨X, hX, rfl⟩ ⟨Y, hY, rfl⟩
  obtain ⟨g1, g2⟩ := h.sim X Y hX hY
  refine ⟨by simp [g1], fun G hG => ?_⟩
  rw [List.append_assoc] at hG ⊢
  exact g2 _ hG
 ·rintro _ G K x m ⟨X, hX, rfl⟩ h1 h2 h3 h4 hk
  rw [List.append_assoc]
  refine h.ask X (R ++ G) K x m hX h1 h2 h3 h4 (fun Y hY => ?_)
  rw [← List.append_assoc]
  exact hk _ ⟨Y, hY, rfl⟩
theorem LookSt.okd {lo : Int} {T : Hp → Prop} {f : FuncId} {fs cs : List (Nat × Nat × Nat)} {look : List UInt8 → Int → Vl} {P : ByteArray → Prop} (h : LookSt lo T f fs cs look P) {X Y : Hp} (hX : T X) (hY : T Y) (hH : HOk X) : HOk Y := by
 have := (h.sim X Y hX hY).2 [] (by rw [List.append_nil]; exact hH)
 rwa [List.append_nil] at this
theorem kidS_a {lo : Int} {T : Hp → Prop} {P : ByteArray → Prop} {look : List UInt8 → Int → Vl} {X R : Hp} {K : AV → Hp → Prop} {f : FuncId} {fs cs : List (Nat × Nat × Nat)} {kind : ByteArray} {n k : Int} {x : ByteArray} {b : Bool} {L : List Ex} {m : Int} {i j q : Nat} (hl : LookSt lo T f fs cs look P) (hX : T X) (hk0 : 0 ≤ k ∧ k < L.length)
  (hi : (X ++ R)[i]? = some (.row 83 1 [[.fp [.str kind, .int .i64 n, .str x, .lst 1 (L.map fun x => [.fp (encNd x)]), .bool b]]] true)) (hj : (X ++ R)[j]? = some (.row 3 1 [[.int .i64 m]] true)) (hq : (X ++ R)[q]? = some (.row 111 1 [[.fn f fs cs]] true))
  (v : Vl) (hv : ∀ (K : AV → Hp → Prop) (G : Hp) (h : k.toNat < L.length), (∀ Y, T Y → K (.agg (encV v)) (Y ++ G)) → ACalls Tryz.prog 119 [.c (.fp (encNd L[k.toNat])), (.c (.int .i64 m)), .c (.fn f fs cs)] (X ++ G) K)
  (hk : ∀ Y, T Y → Y.length = X.length → K (.agg (encV v)) (Y ++ R)) : ACalls Tryz.prog 173 [(.c (.int .i64 k)), .c (.ptr (some (i, 0, 0))), .c (.ptr (some (j, 0, 0))), .c (.ptr (some (q, 0, 0)))] (X ++ R) K := by
 have hil := getElem?_lt hi
 have hjl := getElem?_lt hj
 have hql := getElem?_lt hq
 have hml : (L.map fun x => [AC.fp (encNd x)]).length = L.length := List.length_map ..
 have hkl : k.toNat < L.length := by omega
 have hk2 : ∀ Y, T Y → ∀ Z, Z = Y ++ R → Z.length = (X ++ R).length → K (.agg (encV v)) Z := fun Y hY Z e h => by
  subst e
  exact hk Y hY (hl.sim X Y hX hY).1
 have hv2 : ∀ (K : AV → Hp → Prop) (G : Hp) (h : k.toNat < L.length), (∀ Z, TA T R Z → Z.length = (X ++ R).length → K (.agg (encV v)) (Z ++ G)) → ACalls Tryz.prog 119 [.c (.fp (encNd L[k.toNat])), (.c (.int .i64 m)), .c (.fn f fs cs)] (X ++ R ++ G) K := fun K G h hK => by
  rw [List.append_assoc]
  refine hv K _ h (fun Y hY => ?_)
  rw [← List.append_assoc]
  exact hK _ ⟨Y, hY, rfl⟩ (by simp [(hl.sim X Y hX hY).1])
 have hok : ∀ Z, TA T R Z → HOk (X ++ R) → HOk Z := fun Z hZ h => (hl.app R).okd ⟨X, hX, rfl⟩ hZ h
 clear hk hv
 generalize X ++ R = H at *
 refine acalls Tryz.func173 rfl kRf gT (fun hH => ?_)
 refine gO3 hi hj hq ?_
 refine w_tree (.one 0 (.one 1 (.one 2 (.one 3 (.one 4 (.one 5 (.one 6 (.one 7 (.one 8 (.one 9 (.one 10 .done))))))))))) kRf dKn ?_
 refine gO4 hi hj hq hml ?_
 refine hv2 _ _ hkl (fun Z hZ hle => ?_)
 rw [← hle]
 refine gO ?_
 obtain ⟨Y, hY, e⟩ := hZ
 exact Ret.drop (hok Z ⟨Y, hY, e⟩ hH) lRf oKs (hk2 Y hY Z e hle)
theorem evalS_a {lo : Int} (hlo : lo ≤ 0) {P : ByteArray → Prop} {f : FuncId} {fs cs : List (Nat × Nat × Nat)} {look : List UInt8 → Int → Vl} (hlv : ∀ x m, VlOk (look x m)) (m : Int) (hm : 0 ≤ m ∧ m ≤ 1000000000000) : ∀ (N : Nat) (e : Ex) {T : Hp → Prop} {X : Hp} {K : AV → Hp → Prop}, LookSt lo T f fs cs look P → T X → szE e ≤ N → ExOk e → (∀ p ∈ leafE e, P (tB p.1)) → (∀ Y, T Y → K (.agg (encV (evP look m e))) Y) → ACalls Tryz.prog 119 [.c (.fp (encNd e)), (.c (.int .i64 m)), .c (.fn f fs cs)] X K
 | 0, e, T, X, K, hl, hX, hs, he, hP, hk => by have := hgt_sz e; omega
 | N + 1, .num n, T, X, K, hl, hX, hs, he, hP, hk => by
  unfold encNd
  refine acalls Tryz.func119 rfl kRf gT (fun hH => ?_)
  refine gO ?_
  exact Ret.drop hH lRf oKs (hk _ hX)
 | N + 1, .tag x s, T, X, K, hl, hX, hs, he, hP, hk => by
  have hx := he.1.2.1
  have hent := hl.1
  have hsb : 0 ≤ s.getD 0 ∧ s.getD 0 ≤ 86400000 := by
   cases s with
   | none => exact ⟨by decide, by decide⟩
   | some n => exact he.2 n rfl
  have hN : ∃ b, encNd (.tag x s) = [.str ⟨#[116, 97, 103]⟩, .int .i64 (s.getD 0), .str (tB x), .sl none 0, .bool b] := by
   cases s with
   | none => exact ⟨false, rfl⟩
   | some n => exact ⟨true, rfl⟩
  obtain ⟨b, hN⟩ := hN
  rw [hN]
  have hk : ∀ Y, T Y → K (.agg (encV (if m < s.getD 0 then badV else look x (m - s.getD 0)))) Y := hk
  by_cases hlt : m < s.getD 0
  ·simp only [if_pos hlt] at hk
   refine acalls Tryz.func119 rfl kRf gT (fun hH => ?_)
   refine gO ?_
   refine w_draw kRf dKn ?_
   refine gO1 hlt ?_
   refine badE_a ?_
   refine gO ?_
   exact Ret.drop hH lRf oKs (hk _ hX)
  ·simp only [if_neg hlt] at hk
   refine acalls Tryz.func119 rfl kRf gT (fun hH => ?_)
   refine gO ?_
   refine w_draw kRf dKn ?_
   refine gO1 hlt ?_
   refine w_draw kRf dKn ?_
   refine gO1 hent ?_
   refine hl.ask X _ _ x (m - s.getD 0) hX (hP (x, s.getD 0) (List.mem_singleton.2 rfl)) hx oMg oMg (fun Y hY => ?_)
   rw [← (hl.sim X Y hX hY).1]
   replace hH := hl.okd hX hY hH
   replace hX := hY
   refine gO ?_
   exact Ret.drop hH lRf oKs (hk _ hX)
 | N + 1, .neg a, T, X, K, hl, hX, hs, he, hP, hk => by
  simp only [szE] at hs
  have hk : ∀ Y, T Y → K (.agg (encV (bdV (-(evP look m a).n) (evP look m a).q 1000000000000))) Y := hk
  have hent : entersB Tryz.prog 173 = true := by kernel_rfl
  unfold encNd
  have hv0 := evP_ok hlv m a he
  have ih := fun {X : Hp} {G : Hp} {K : AV → Hp → Prop} (hX : T X) (hk : ∀ Y, T Y → K (.agg (encV (evP look m a))) (Y ++ G)) => evalS_a hlo hlv m hm N a (hl.app G) ⟨X, hX, rfl⟩ oMg he hP (by rintro _ ⟨Y, hY, rfl⟩; exact hk Y hY)
  refine acalls Tryz.func119 rfl kRf gT (fun hH => ?_)
  refine gO1 hent ?_
  refine kidS_a hl hX (L := [a]) (k := 0) ⟨by decide, by simp⟩ (at0 sMp) (at1 sMp) (at2 sMp) (evP look m a) (fun K G h hk => ih hX hk) ?_; intro X hX2 hle; rw [← hle]; replace hH := hl.okd hX hX2 hH; replace hX := hX2; clear hX2 hle
  generalize evP look m a = v at *
  obtain ⟨b1, b2, _⟩ := hv0
  have hneg : (0 : Int) - v.n = -v.n := by omega
  refine gO1 hneg ?_
  refine boundedE_a _ _ _ (by decide) ?_
  refine gO ?_
  exact Ret.drop hH lRf oKs (hk _ hX)
 | N + 1, .f1 g a, T, X, K, hl, hX, hs, he, hP, hk => by
  simp only [szE] at hs
  have ih := fun (x : Ex) (hx : szE x ≤ N) (hxo : ExOk x) (hxP : ∀ p ∈ leafE x, P (tB p.1)) {X : Hp} {G : Hp} {K : AV → Hp → Prop} (hX : T X) (hk : ∀ Y, T Y → K (.agg (encV (evP look m x))) (Y ++ G)) => evalS_a hlo hlv m hm N x (hl.app G) ⟨X, hX, rfl⟩ hx hxo hxP (by rintro _ ⟨Y, hY, rfl⟩; exact hk Y hY)
  have hent : entersB Tryz.prog 173 = true := by kernel_rfl
  have hv0 := evP_ok hlv m a he.2
  have hg := he.1
  rcases fn1 hg with rfl | rfl
  ·have hk : ∀ Y, T Y → K (.agg (encV (bdV (max (evP look m a).n (-(evP look m a).n)) (evP look m a).q 1000000000000))) Y := hk
   unfold encNd
   refine acalls Tryz.func119 rfl kRf gT (fun hH => ?_)
   refine gO1 hent ?_
   refine kidS_a hl hX (L := [a]) (k := 0) ⟨by decide, by simp⟩ (at0 sMp) (at1 sMp) (at2 sMp) (evP look m a) (fun K G h hk => ih a oMg he.2 (fun p hp => hP p (by simp [leafE, hp])) hX hk) ?_; intro X hX2 hle; rw [← hle]; replace hH := hl.okd hX hX2 hH; replace hX := hX2; clear hX2 hle
   generalize evP look m a = v at *
   obtain ⟨b1, b2, _⟩ := hv0
   have hneg : (0 : Int) - v.n = -v.n := by omega
   refine gO1 hneg ?_
   refine boundedE_a _ _ _ (by decide) ?_
   refine gO ?_
   exact Ret.drop hH lRf oKs (hk _ hX)
  ·have hk : ∀ Y, T Y → K (.agg (encV (bdV (oneV ((evP look m a).q = 0)) 0 1))) Y := hk
   unfold encNd
   refine acalls Tryz.func119 rfl kRf gT (fun hH => ?_)
   refine gO1 hent ?_
   refine kidS_a hl hX (L := [a]) (k := 0) ⟨by decide, by simp⟩ (at0 sMp) (at1 sMp) (at2 sMp) (evP look m a) (fun K G h hk => ih a oMg he.2 (fun p hp => hP p (by simp [leafE, hp])) hX hk) ?_; intro X hX2 hle; rw [← hle]; replace hH := hl.okd hX hX2 hH; replace hX := hX2; clear hX2 hle
   generalize evP look m a = v at *
   refine gO ?_
   refine ofE_a (v.q = 0) 0 ?_
   refine gO ?_
   exact Ret.drop hH lRf oKs (hk _ hX)
 | N + 1, .bin c a b, T, X, K, hl, hX, hs, he, hP, hk => by
  simp only [szE] at hs
  have ih := fun (x : Ex) (hx : szE x ≤ N) (hxo : ExOk x) (hxP : ∀ p ∈ leafE x, P (tB p.1)) {X : Hp} {G : Hp} {K : AV → Hp → Prop} (hX : T X) (hk : ∀ Y, T Y → K (.agg (encV (evP look m x))) (Y ++ G)) => evalS_a hlo hlv m hm N x (hl.app G) ⟨X, hX, rfl⟩ hx hxo hxP (by rintro _ ⟨Y, hY, rfl⟩; exact hk Y hY)
  have hent : entersB Tryz.prog 173 = true := by kernel_rfl
  have va := evP_ok hlv m a he.2.1
  have vb := evP_ok hlv m b he.2.2
  have hk : ∀ Y, T Y → K (.agg (encV (twoV c (evP look m a) (evP look m b)))) Y := hk
  obtain ⟨⟨k1, k2, k3⟩, k4⟩ := op_kind (c := c) he.1
  have hc := he.1
  have k5 : decide (tB [c] = ⟨#[97, 98, 115]⟩) = false ∧ decide (tB [c] = ⟨#[103, 111, 111, 100]⟩) = false ∧ decide (tB [c] = ⟨#[105, 102]⟩) = false := by
   have h := he.1
   simp only [List.mem_cons, List.not_mem_nil, or_false] at h
   rcases h with rfl | rfl | rfl | rfl | rfl | rfl <;> exact ⟨by decide, by decide, by decide⟩
  obtain ⟨k5, k6, k7⟩ := k5
  unfold encNd
  refine acalls Tryz.func119 rfl kRf gT (fun hH => ?_)
  simp (disch := first | omega | (simp only [go_sem]; try omega)) only [go_sem, hent, k1, k2, k3, k5, k6, k7]
  refine w_tree (.one 4 (.one 6 (.two 0 (.one 1 (.one 2 (.two 3 (.one 5 (.one 7 (.one 8 (.one 9 .done)))) 5 (.two 3 (.one 7 (.one 8 (.one 9 .done))) 7 (.one 3 (.one 8 (.one 9 .done))))))) 5 (.two 0 (.one 1 (.one 2 (.two 3 (.one 7 (.one 8 (.one 9 .done))) 7 (.one 3 (.one 8 (.one 9 .done)))))) 7 (.one 0 (.one 1 (.one 2 (.one 3 (.one 8 (.one 9 .done)))))))))) kRf dKn ?_
  refine gO1 hent ?_
  repeat' first | (refine kidS_a hl hX (L := [a, b]) (k := 0) ⟨by decide, by simp⟩ (at0 sMp) (at1 sMp) (at2 sMp) (evP look m a) (fun K G h hk => ih a oMg he.2.1 (fun p hp => hP p (by simp [leafE, hp])) hX hk) ?_; intro X hX2 hle; rw [← hle]; replace hH := hl.okd hX hX2 hH; replace hX := hX2; clear hX2 hle; refine gO1 hent ?_) | (refine kidS_a hl hX (L := [a, b]) (k := 1) ⟨by decide, by simp⟩ (at0 sMp) (at1 sMp) (at2 sMp) (evP look m b) (fun K G h hk => ih b oMg he.2.2 (fun p hp => hP p (by simp [leafE, hp])) hX hk) ?_; intro X hX2 hle; rw [← hle]; replace hH := hl.okd hX hX2 hH; replace hX := hX2; clear hX2 hle; refine gO1 hent ?_) | (refine twoE_a c hc _ _ va vb ?_; refine gO ?_) | (exact Ret.drop hH lRf oKs (hk _ hX)) | apply And.intro
 | N + 1, .f2 g a b, T, X, K, hl, hX, hs, he, hP, hk => by
  simp only [szE] at hs
  have ih := fun (x : Ex) (hx : szE x ≤ N) (hxo : ExOk x) (hxP : ∀ p ∈ leafE x, P (tB p.1)) {X : Hp} {G : Hp} {K : AV → Hp → Prop} (hX : T X) (hk : ∀ Y, T Y → K (.agg (encV (evP look m x))) (Y ++ G)) => evalS_a hlo hlv m hm N x (hl.app G) ⟨X, hX, rfl⟩ hx hxo hxP (by rintro _ ⟨Y, hY, rfl⟩; exact hk Y hY)
  have hent : entersB Tryz.prog 173 = true := by kernel_rfl
  rcases fn2 he.1 with rfl | rfl
  ·have hk : ∀ Y, T Y → K (.agg (encV (bdV (min (evP look m a).n (evP look m b).n) (max (evP look m a).q (evP look m b).q) 1000000000000))) Y := hk
   unfold encNd
   refine acalls Tryz.func119 rfl kRf gT (fun hH => ?_)
   refine gO1 hent ?_
   refine w_tree (.one 4 (.one 6 (.two 0 (.one 1 (.one 2 (.two 3 (.one 5 (.one 7 (.one 8 (.one 9 .done)))) 5 (.two 3 (.one 7 (.one 8 (.one 9 .done))) 7 (.one 3 (.one 8 (.one 9 .done))))))) 5 (.two 0 (.one 1 (.one 2 (.two 3 (.one 7 (.one 8 (.one 9 .done))) 7 (.one 3 (.one 8 (.one 9 .done)))))) 7 (.one 0 (.one 1 (.one 2 (.one 3 (.one 8 (.one 9 .done)))))))))) kRf dKn ?_
   refine gO1 hent ?_
   repeat' first | (refine kidS_a hl hX (L := [a, b]) (k := 0) ⟨by decide, by simp⟩ (at0 sMp) (at1 sMp) (at2 sMp) (evP look m a) (fun K G h hk => ih a oMg he.2.1 (fun p hp => hP p (by simp [leafE, hp])) hX hk) ?_; intro X hX2 hle; rw [← hle]; replace hH := hl.okd hX hX2 hH; replace hX := hX2; clear hX2 hle; refine gO1 hent ?_) | (refine kidS_a hl hX (L := [a, b]) (k := 1) ⟨by decide, by simp⟩ (at0 sMp) (at1 sMp) (at2 sMp) (evP look m b) (fun K G h hk => ih b oMg he.2.2 (fun p hp => hP p (by simp [leafE, hp])) hX hk) ?_; intro X hX2 hle; rw [← hle]; replace hH := hl.okd hX hX2 hH; replace hX := hX2; clear hX2 hle; refine gO1 hent ?_) | (refine minE_a _ _ ?_; refine gO ?_) | (exact Ret.drop hH lRf oKs (hk _ hX)) | apply And.intro
  ·have hk : ∀ Y, T Y → K (.agg (encV (bdV (max (evP look m a).n (evP look m b).n) (max (evP look m a).q (evP look m b).q) 1000000000000))) Y := hk
   unfold encNd
   refine acalls Tryz.func119 rfl kRf gT (fun hH => ?_)
   refine gO1 hent ?_
   refine w_tree (.one 4 (.one 6 (.two 0 (.one 1 (.one 2 (.two 3 (.one 5 (.one 7 (.one 8 (.one 9 .done)))) 5 (.two 3 (.one 7 (.one 8 (.one 9 .done))) 7 (.one 3 (.one 8 (.one 9 .done))))))) 5 (.two 0 (.one 1 (.one 2 (.two 3 (.one 7 (.one 8 (.one 9 .done))) 7 (.one 3 (.one 8 (.one 9 .done)))))) 7 (.one 0 (.one 1 (.one 2 (.one 3 (.one 8 (.one 9 .done)))))))))) kRf dKn ?_
   refine gO1 hent ?_
   repeat' first | (refine kidS_a hl hX (L := [a, b]) (k := 0) ⟨by decide, by simp⟩ (at0 sMp) (at1 sMp) (at2 sMp) (evP look m a) (fun K G h hk => ih a oMg he.2.1 (fun p hp => hP p (by simp [leafE, hp])) hX hk) ?_; intro X hX2 hle; rw [← hle]; replace hH := hl.okd hX hX2 hH; replace hX := hX2; clear hX2 hle; refine gO1 hent ?_) | (refine kidS_a hl hX (L := [a, b]) (k := 1) ⟨by decide, by simp⟩ (at0 sMp) (at1 sMp) (at2 sMp) (evP look m b) (fun K G h hk => ih b oMg he.2.2 (fun p hp => hP p (by simp [leafE, hp])) hX hk) ?_; intro X hX2 hle; rw [← hle]; replace hH := hl.okd hX hX2 hH; replace hX := hX2; clear hX2 hle; refine gO1 hent ?_) | (refine maxE_a _ _ ?_; refine gO ?_) | (exact Ret.drop hH lRf oKs (hk _ hX)) | apply And.intro
 | N + 1, .f3 g a b c, T, X, K, hl, hX, hs, he, hP, hk => by
  simp only [szE] at hs
  have ih := fun (x : Ex) (hx : szE x ≤ N) (hxo : ExOk x) (hxP : ∀ p ∈ leafE x, P (tB p.1)) {X : Hp} {G : Hp} {K : AV → Hp → Prop} (hX : T X) (hk : ∀ Y, T Y → K (.agg (encV (evP look m x))) (Y ++ G)) => evalS_a hlo hlv m hm N x (hl.app G) ⟨X, hX, rfl⟩ hx hxo hxP (by rintro _ ⟨Y, hY, rfl⟩; exact hk Y hY)
  have hent : entersB Tryz.prog 173 = true := by kernel_rfl
  obtain rfl := fn3 he.1
  have va := evP_ok hlv m a he.2.1
  have vb := evP_ok hlv m b he.2.2.1
  have vc := evP_ok hlv m c he.2.2.2
  have hk : ∀ Y, T Y → K (.agg (encV (if (evP look m a).q = 2 then badV else bdV (if (evP look m a).n = 0 then (evP look m c).n else (evP look m b).n) (max (if (evP look m a).n = 0 then (evP look m c).q else (evP look m b).q) (evP look m a).q) 1000000000000))) Y := hk
  unfold encNd
  refine acalls Tryz.func119 rfl kRf gT (fun hH => ?_)
  refine gO1 hent ?_
  refine kidS_a hl hX (L := [a, b, c]) (k := 0) ⟨by decide, by simp⟩ (at0 sMp) (at1 sMp) (at2 sMp) (evP look m a) (fun K G h hk => ih a oMg he.2.1 (fun p hp => hP p (by simp [leafE, hp])) hX hk) ?_; intro X hX2 hle; rw [← hle]; replace hH := hl.okd hX hX2 hH; replace hX := hX2; clear hX2 hle
  by_cases h2 : (evP look m a).q = 2
  ·simp only [if_pos h2] at hk
   refine gO1 h2 ?_
   refine badE_a ?_
   refine gO ?_
   exact Ret.drop hH lRf oKs (hk _ hX)
  simp only [if_neg h2] at hk
  by_cases h0 : (evP look m a).n = 0
  ·simp only [if_pos h0] at hk
   refine gO2 h2 h0 ?_
   refine kidS_a hl hX (L := [a, b, c]) (k := 2) ⟨by decide, by simp⟩ (at0 sMp) (at1 sMp) (at2 sMp) (evP look m c) (fun K G h hk => ih c oMg he.2.2.2 (fun p hp => hP p (by simp [leafE, hp])) hX hk) ?_; intro X hX2 hle; rw [← hle]; replace hH := hl.okd hX hX2 hH; replace hX := hX2; clear hX2 hle
   refine gO2 h2 h0 ?_
   refine boundedE_a _ _ _ (by decide) ?_
   refine gO ?_
   exact Ret.drop hH lRf oKs (hk _ hX)
  ·simp only [if_neg h0] at hk
   refine gO2 h2 h0 ?_
   refine kidS_a hl hX (L := [a, b, c]) (k := 1) ⟨by decide, by simp⟩ (at0 sMp) (at1 sMp) (at2 sMp) (evP look m b) (fun K G h hk => ih b oMg he.2.2.1 (fun p hp => hP p (by simp [leafE, hp])) hX hk) ?_; intro X hX2 hle; rw [← hle]; replace hH := hl.okd hX hX2 hH; replace hX := hX2; clear hX2 hle
   refine gO2 h2 h0 ?_
   refine boundedE_a _ _ _ (by decide) ?_
   refine gO ?_
   exact Ret.drop hH lRf oKs (hk _ hX)
end Go.Proofs.YtagoolooikpabaaGreatDoor
