/- Several texts in one: The plain law of levels, costs, quotas: no program in sight, and what follows. No condition. -/
import Derived.Test.YtagoolooikpabaaGreatDoorHTypes
import Derived.LoopNIn
set_option linter.all false
namespace Go.Proofs.YtagoolooikpabaaGreatDoor
open Go Go.RowKit
set_option maxRecDepth 100000
def errGo {α : Type} (f : Nat → α → α → Int) : Nat → α → List α → Int
 | _, _, [] => 0
 | i, p, x :: t => if f i p x = 0 then errGo f (i + 1) x t else f i p x
def prv {α : Type} (p0 : α) (l : List α) (k : Nat) : α := (p0 :: l).getD k p0
theorem prv_succ {α : Type} (p0 : α) (l : List α) (k : Nat) (h : k < l.length) : prv p0 l (k + 1) = l[k] := by simp [prv, List.getD, h]
theorem prv_pos {α : Type} (p0 : α) (l : List α) (k : Nat) (h : k ≤ l.length) (h0 : 0 < k) : prv p0 l k = l[k - 1]'(by omega) := by
 obtain ⟨j, rfl⟩ : ∃ j, k = j + 1 := ⟨k - 1, by omega⟩
 rw [prv_succ p0 l j (by omega)]; rfl
theorem errGo_step {α : Type} (f : Nat → α → α → Int) (p0 : α) (l : List α) (k : Nat) (h : k < l.length) :
  errGo f k (prv p0 l k) (l.drop k) = if f k (prv p0 l k) l[k] = 0 then errGo f (k + 1) (prv p0 l (k + 1)) (l.drop (k + 1)) else f k (prv p0 l k) l[k] := by
 rw [prv_succ p0 l k h, List.drop_eq_getElem_cons h]; rfl
theorem errGo_end {α : Type} (f : Nat → α → α → Int) (p : α) (l : List α) (k : Nat) (h : l.length ≤ k) : errGo f k p (l.drop k) = 0 := by
 rw [List.drop_eq_nil_of_le h]; rfl
structure Level where
 step : Int
 keep : Int
deriving DecidableEq
def upDiv (a b : Int) : Int := (a + b - 1) / b
def costL (x : Level) (rate : Int) : Int := if x.step = 0 then upDiv (x.keep * rate) 3600000 else upDiv x.keep x.step + 1
def Level.ok (x : Level) : Prop := 0 ≤ x.step ∧ x.step ≤ 86400000 ∧ 1 ≤ x.keep ∧ x.keep ≤ 345686400000
def costs (l : List Level) (rate : Int) : Int := (l.map (costL · rate)).sum
def firstE : List Int → Int
 | [] => 0
 | x :: t => if x = 0 then firstE t else x
theorem firstE_drop (l : List Int) (k : Nat) (h : k < l.length) : firstE (l.drop k) = if l[k] = 0 then firstE (l.drop (k + 1)) else l[k] := by
 rw [List.drop_eq_getElem_cons h]; rfl
def mostL (x : Level) (rate budget : Int) : Int := if x.step = 0 then budget * 3600000 / rate else (budget - 1) * x.step
def budgetL (l : List Level) (x : Level) (rate quota : Int) : Int := max 0 (quota - (costs l rate - costL x rate))
def keepL (l : List Level) (x : Level) (least rate quota : Int) : Int := min x.keep (max least (mostL x rate (budgetL l x rate quota)))
end Go.Proofs.YtagoolooikpabaaGreatDoor
namespace Go.Proofs.YtagoolooikpabaaGreatDoor
open Go Go.RowKit
set_option maxRecDepth 100000
section
variable (H : Hp) (K : AV → Hp → Prop)
theorem in_a (n lo hi : Int) (hk : K (.c (.bool (decide (lo ≤ n ∧ n ≤ hi)))) H) : ACalls Tryz.prog 111 [(.c (.int .i64 n)), (.c (.int .i64 lo)), (.c (.int .i64 hi))] H K := by
 refine acalls Tryz.func111 rfl (by kernel_rfl) (by simp (disch := first | omega | (simp only [go_sem]; try omega)) only [go_sem]) (fun hH => ?_)
 simp (disch := first | omega | (simp only [go_sem]; try omega)) only [go_sem]
 repeat' (first | ((first | refine acond_d ?_ ?_ | refine acond_b ?_ ?_ | refine ag_d ?_ ?_ | refine ag_n ?_ ?_ | refine ag_bt ?_ ?_ | refine ag_bf ?_ ?_) <;> intro c <;> try simp (disch := first | omega | (simp only [go_sem]; try omega)) only [go_sem, c]) | ((first | refine w_draw (by kernel_rfl) (by decide +kernel) ?_) <;> try simp (disch := first | omega | (simp only [go_sem]; try omega)) only [go_sem]))
 all_goals (first | refine Ret.sameE (Nat.le_refl _) (by assumption) ?_ | refine Ret.dropE (by assumption) (Nat.le_refl _) (by assumption) (by simp [AV.ok, AV.ok1, AC.ok]) ?_) <;> (first | rfl | (simp only [AV.c.injEq, AC.bool.injEq]; rw [Bool.eq_iff_iff]; simp only [Bool.not_eq_true', decide_eq_true_eq, decide_eq_false_iff_not, Bool.and_eq_true, Bool.or_eq_true]; omega) | grind | (simp [*]; done) | (simp [*]; omega))
end
variable {H : Hp} {K : AV → Hp → Prop}
def encI (n : Int) : List AC := [.int .i64 n]
attribute [go_sem] encI
end Go.Proofs.YtagoolooikpabaaGreatDoor
namespace Go.Proofs.YtagoolooikpabaaGreatDoor
open Go Go.RowKit
set_option maxRecDepth 100000
variable {H : Hp} {K : AV → Hp → Prop}
abbrev strO (zs : List Int) (k : Int) : AObj := .row 25 2 [[.lst 1 (zs.map encI), .int .i64 k]] true
def Str (H : Hp) (s : Nat) (zs : List Int) (k : Int) : Prop := zs.length ≤ 9223372036854775807 ∧ 0 ≤ k ∧ k ≤ 1099511627776 ∧ H[s]? = some (strO zs k)
theorem Str.lt {s : Nat} {zs : List Int} {k : Int} (h : Str H s zs k) : s < H.length := getElem?_lt h.2.2.2
theorem HOk.str {s : Nat} {zs : List Int} {k : Int} (h : HOk H) : HOk (H.set s (strO zs k)) := HOk.set h (okN_pure (by simp [pureL, AC.pure]) (by simp) _)
theorem Str.app {s : Nat} {zs : List Int} {k : Int} (h : Str H s zs k) (L : Hp) : Str (H ++ L) s zs k := ⟨h.1, h.2.1, h.2.2.1, get_old h.2.2.2 L⟩
theorem Str.set {s : Nat} {zs : List Int} {k k' : Int} (h : Str H s zs k) (h1 : 0 ≤ k') (h2 : k' ≤ 1099511627776) : Str (H.set s (strO zs k')) s zs k' := ⟨h.1, h1, h2, List.getElem?_set_self h.lt⟩
theorem Str.pos {s : Nat} {zs : List Int} {k : Int} (h : Str H s zs k) : 0 ≤ k := h.2.1
theorem below_a (x n : Int) (h1 : 1 ≤ n) (hn : n ≤ 9223372036854775807) (hk : ∀ r : Int, 0 ≤ r → r < n → K (.c (.int .i64 r)) H) : ACalls Tryz.prog 99 [(.c (.int .i64 x)), (.c (.int .i64 n))] H K := by
 have hb : -n < x.tmod n := by have := Int.lt_tmod_of_pos x (b := n) (by omega); omega
 have hc : x.tmod n < n := Int.tmod_lt_of_pos x (by omega)
 have hn1 : ¬n < 1 := by omega
 refine acalls Tryz.func99 rfl (by kernel_rfl) (by simp (disch := first | omega | (simp only [go_sem]; try omega)) only [go_sem]) (fun hH => ?_)
 simp (disch := first | omega | (simp only [go_sem]; try omega)) only [go_sem, hn1]
 repeat' (first | ((first | refine acond_d ?_ ?_ | refine acond_b ?_ ?_ | refine ag_d ?_ ?_ | refine ag_n ?_ ?_ | refine ag_bt ?_ ?_ | refine ag_bf ?_ ?_) <;> intro c <;> try simp (disch := first | omega | (simp only [go_sem]; try omega)) only [go_sem, c]) | ((first | refine w_draw (by kernel_rfl) (by decide +kernel) ?_) <;> try simp (disch := first | omega | (simp only [go_sem]; try omega)) only [go_sem]))
 all_goals exact Ret.same (Nat.le_refl _) (hk _ (by omega) (by omega))
theorem next_a (s : Nat) (zs : List Int) (k n : Int) (hs : Str H s zs k) (h1 : 1 ≤ n) (hn : n ≤ 9223372036854775807)
  (hk : ∀ r : Int, 0 ≤ r → r < n → K (.c (.int .i64 r)) (H.set s (strO zs (k + 1)))) : ACalls Tryz.prog 45 [.c (.ptr (some (s, 0, 0))), (.c (.int .i64 n))] H K := by
 have hlt := hs.lt
 obtain ⟨hz, hk0, hk1, hs⟩ := hs
 by_cases h0 : zs.length = 0
 ·refine acalls Tryz.func45 rfl (by kernel_rfl) (by simp (disch := first | omega | (simp only [go_sem]; try omega)) only [go_sem]) (fun hH => ?_)
  simp (disch := first | omega | (simp only [go_sem]; try omega)) only [go_sem, hs, h0]
  repeat' (first | ((first | refine acond_d ?_ ?_ | refine acond_b ?_ ?_ | refine ag_d ?_ ?_ | refine ag_n ?_ ?_ | refine ag_bt ?_ ?_ | refine ag_bf ?_ ?_) <;> intro c <;> try simp (disch := first | omega | (simp only [go_sem]; try omega)) only [go_sem, c]) | ((first | refine w_draw (by kernel_rfl) (by decide +kernel) ?_ | refine below_a _ _ (by omega) (by omega) (fun r _ _ => ?_)) <;> try simp (disch := first | omega | (simp only [go_sem]; try omega)) only [go_sem]))
  exact Ret.same (by simp) (hk _ (by omega) (by omega))
 ·obtain ⟨j, hj⟩ : ∃ j : Nat, k % (zs.length : Int) = j := ⟨(k % (zs.length : Int)).toNat, by have := Int.emod_nonneg k (b := (zs.length : Int)) (by omega); omega⟩
  have hjl : j < zs.length := by have := Int.emod_lt_of_pos k (b := (zs.length : Int)) (by omega); omega
  have h0' : ¬ (zs.length : Int) = 0 := by omega
  refine acalls Tryz.func45 rfl (by kernel_rfl) (by simp (disch := first | omega | (simp only [go_sem]; try omega)) only [go_sem]) (fun hH => ?_)
  simp (disch := first | omega | (simp only [go_sem]; try omega)) only [go_sem, hs, h0']
  repeat' (first | ((first | refine acond_d ?_ ?_ | refine acond_b ?_ ?_ | refine ag_d ?_ ?_ | refine ag_n ?_ ?_ | refine ag_bt ?_ ?_ | refine ag_bf ?_ ?_) <;> intro c <;> try simp (disch := first | omega | (simp only [go_sem]; try omega)) only [go_sem, c]) | ((first | refine w_draw (by kernel_rfl) (by decide +kernel) ?_ | refine below_a _ _ (by omega) (by omega) (fun r _ _ => ?_)) <;> try simp (disch := first | omega | (simp only [go_sem]; try omega)) only [go_sem]))
  exact Ret.same (by simp) (hk _ (by omega) (by omega))
theorem range_a (s : Nat) (zs : List Int) (k a b : Int) (hs : Str H s zs k) (ha : -4611686018427387904 ≤ a) (hb : b ≤ 4611686018427387900) (hab : a ≤ b)
  (hk : ∀ r : Int, a ≤ r → r ≤ b → K (.c (.int .i64 r)) (H.set s (strO zs (k + 1)))) : ACalls Tryz.prog 43 [.c (.ptr (some (s, 0, 0))), (.c (.int .i64 a)), (.c (.int .i64 b))] H K := by
 have hab' : ¬b < a := by omega
 refine acalls Tryz.func43 rfl (by kernel_rfl) (by simp (disch := first | omega | (simp only [go_sem]; try omega)) only [go_sem]) (fun hH => ?_)
 simp (disch := first | omega | (simp only [go_sem]; try omega)) only [go_sem, hab']
 repeat' (first | ((first | refine acond_d ?_ ?_ | refine acond_b ?_ ?_ | refine ag_d ?_ ?_ | refine ag_n ?_ ?_ | refine ag_bt ?_ ?_ | refine ag_bf ?_ ?_) <;> intro c <;> try simp (disch := first | omega | (simp only [go_sem]; try omega)) only [go_sem, c]) | ((first | refine w_draw (by kernel_rfl) (by decide +kernel) ?_ | refine next_a s _ _ _ hs (by omega) (by omega) (fun r _ _ => ?_)) <;> try simp (disch := first | omega | (simp only [go_sem]; try omega)) only [go_sem]))
 exact Ret.same (by simp) (hk _ (by omega) (by omega))
theorem flip_a (s : Nat) (zs : List Int) (k n : Int) (hs : Str H s zs k) (h1 : 1 ≤ n) (hn : n ≤ 9223372036854775807)
  (hk : ∀ b : Bool, K (.c (.bool b)) (H.set s (strO zs (k + 1)))) : ACalls Tryz.prog 22 [.c (.ptr (some (s, 0, 0))), (.c (.int .i64 n))] H K := by
 refine acalls Tryz.func22 rfl (by kernel_rfl) (by simp (disch := first | omega | (simp only [go_sem]; try omega)) only [go_sem]) (fun hH => ?_)
 simp (disch := first | omega | (simp only [go_sem]; try omega)) only [go_sem]
 repeat' (first | ((first | refine acond_d ?_ ?_ | refine acond_b ?_ ?_ | refine ag_d ?_ ?_ | refine ag_n ?_ ?_ | refine ag_bt ?_ ?_ | refine ag_bf ?_ ?_) <;> intro c <;> try simp (disch := first | omega | (simp only [go_sem]; try omega)) only [go_sem, c]) | ((first | refine w_draw (by kernel_rfl) (by decide +kernel) ?_ | refine next_a s _ _ _ hs (by omega) (by omega) (fun r _ _ => ?_)) <;> try simp (disch := first | omega | (simp only [go_sem]; try omega)) only [go_sem]))
 exact Ret.same (by simp) (hk _)
end Go.Proofs.YtagoolooikpabaaGreatDoor
namespace Go.Proofs.YtagoolooikpabaaGreatDoor
open Go Go.RowKit
set_option maxRecDepth 100000
set_option maxHeartbeats 1000000
theorem grV_ren (σ : Nat → Nat) (i : Nat) {α : Type} (l : List α) : (grV i l).ren σ = grV (σ i) l := by cases l <;> rfl
theorem av_ren_gr (σ : Nat → Nat) (i : Nat) {α : Type} (l : List α) : (AV.c (grV i l)).ren σ = .c (grV (σ i) l) := congrArg AV.c (grV_ren σ i l)
theorem grV_ok {n i : Nat} (h : i < n) {α : Type} (l : List α) : (grV i l).ok n := by
 cases l with
 | nil => trivial
 | cons x xs => exact h
theorem pickS_add (a : Nat) (ids : List Nat) (j : Nat) : pickS a ids (a + j) = a + ids.getD j 0 := by unfold pickS; rw [if_neg (by omega), Nat.add_sub_cancel_left]
theorem pureO_gr {e sz : Nat} {l : List (List AC)} (h : pureL l = true) : (grO e sz l).pureO = true := by
 cases l with
 | nil => rfl
 | cons x xs => exact h
theorem map_grV {α β : Type} (enc : α → β) (i : Nat) (l : List α) : grV i (l.map enc) = grV i l := by cases l <;> simp [grV]
theorem row_ren (σ : Nat → Nat) (ty sz : Nat) (els : List (List AC)) (own : Bool) : (AObj.row ty sz els own).ren σ = .row ty sz (els.map fun e => e.map (AC.ren σ)) own := rfl
theorem grO_ren (σ : Nat → Nat) (e sz : Nat) {l : List (List AC)} (h : pureL l = true) : (grO e sz l).ren σ = grO e sz l := pureO_ren (pureO_gr h)
theorem WkL.pickR {A G L : Hp} {m : Nat} {vs vs' : List AV} (ids : List Nat) (p : Nat) (hA : HOk A) (hm : m ≤ A.length + p) (hp : p ≤ L.length) (hid : ∀ j, j < p → ids.getD j 0 = j) (hL : ids.map (fun j => G[j]?) = L.map (fun o => some (o.ren (pickS A.length ids)))) (hd : ids.Nodup)
  (hok : ∀ o ∈ L, o.okN (A.length + L.length)) (hv : vs = vs'.map (AV.ren (pickS A.length ids))) (ho : ∀ x ∈ vs', x.ok (A.length + L.length)) : WkL m vs (A ++ G) vs' (A ++ L) := by
 have hlen : ids.length = L.length := by have := congrArg List.length hL; simpa using this
 have hget : ∀ (j : Nat) (o : AObj), L[j]? = some o → ∃ q, ids[j]? = some q ∧ G[q]? = some (o.ren (pickS A.length ids)) := by
  intro j o hj
  have h1 : (L.map (fun o => some (o.ren (pickS A.length ids))))[j]? = some (some (o.ren (pickS A.length ids))) := by rw [List.getElem?_map, hj]; rfl
  rw [← hL, List.getElem?_map] at h1
  cases hq : ids[j]? with
  | none => rw [hq] at h1; cases h1
  | some q => rw [hq] at h1; exact ⟨q, rfl, by simpa using h1⟩
 have hlo : ∀ i, i < A.length → pickS A.length ids i = i := fun i hi => by simp [pickS, hi]
 have hlo2 : ∀ i, i < A.length + p → pickS A.length ids i = i := fun i hi => by
  rcases Nat.lt_or_ge i A.length with h | h
  ·exact hlo i h
  ·unfold pickS
   rw [if_neg (by omega), hid _ (by omega)]; omega
 intro B w0 ι w us hs hr hov
 have hok' : HOk (A ++ L) := by
  intro i o hi
  rw [List.length_append]
  rcases Nat.lt_or_ge i A.length with h | h
  ·rw [List.getElem?_append_left h] at hi; exact AObj.okN_mono (by omega) (hA i o hi)
  ·rw [List.getElem?_append_right h] at hi
   exact hok o (List.mem_of_getElem? hi)
 refine WkL.ren (m := m) (pickS A.length ids) (fun i hi => hlo2 i (by omega)) (by rw [List.length_append]; omega) (fun i o hi hl => ?_) (fun i j hi hj hij => ?_) hv (by rw [List.length_append]; exact ho) hok' B w0 ι w us hs hr hov
 ·rcases Nat.lt_or_ge i A.length with h | h
  ·rw [List.getElem?_append_left h] at hi
   rw [hlo i h, AObj.ren_id (n := A.length) hlo (hA i o hi), List.getElem?_append_left h]; exact hi
  ·rw [List.getElem?_append_right h] at hi
   obtain ⟨q, h1, h2⟩ := hget _ _ hi
   have : pickS A.length ids i = A.length + q := by
    unfold pickS
    rw [if_neg (by omega), List.getD_eq_getElem?_getD, h1]; rfl
   rw [this, List.getElem?_append_right (by omega)]
   simpa using h2
 ·rw [List.length_append] at hi hj
  have key : ∀ i, i < A.length + L.length → A.length ≤ i → ∃ q, ids[i - A.length]? = some q ∧ pickS A.length ids i = A.length + q := by
   intro i h1 h2
   have h3 : i - A.length < ids.length := by omega
   refine ⟨ids[i - A.length], List.getElem?_eq_getElem h3, ?_⟩
   unfold pickS
   rw [if_neg (by omega), List.getD_eq_getElem?_getD, List.getElem?_eq_getElem h3]; rfl
  rcases Nat.lt_or_ge i A.length with h1 | h1 <;> rcases Nat.lt_or_ge j A.length with h2 | h2
  ·rw [hlo i h1, hlo j h2] at hij; exact hij
  ·obtain ⟨q, g1, g2⟩ := key j hj h2
   rw [hlo i h1, g2] at hij; omega
  ·obtain ⟨q, g1, g2⟩ := key i hi h1
   rw [hlo j h2, g2] at hij; omega
  ·obtain ⟨q, g1, g2⟩ := key i hi h1
   obtain ⟨q', g1', g2'⟩ := key j hj h2
   rw [g2, g2'] at hij
   have hq : q = q' := by omega
   subst hq
   have hi' : i - A.length < ids.length := by omega
   have hj' : j - A.length < ids.length := by omega
   rw [List.getElem?_eq_getElem hi'] at g1
   rw [List.getElem?_eq_getElem hj'] at g1'
   have h5 : ids[i - A.length] = ids[j - A.length] := (Option.some.inj g1).trans (Option.some.inj g1').symm
   have h6 : i - A.length = j - A.length := by
    rcases Nat.lt_trichotomy (i - A.length) (j - A.length) with h | h | h
    ·exact absurd h5 (List.pairwise_iff_getElem.1 hd _ _ hi' hj' h)
    ·exact h
    ·exact absurd h5.symm (List.pairwise_iff_getElem.1 hd _ _ hj' hi' h)
   omega
theorem WkL.pickAt {A G L : Hp} {m : Nat} {vs vs' : List AV} (P : Hp) (ids : List Nat) (hA : HOk A) (hP : ∀ o ∈ P, o.okN (A.length + P.length)) (hm : m ≤ A.length + P.length) (hL : ids.map (fun j => G[j]?) = L.map some) (hd : ids.Nodup) (hp : L.all AObj.pureO = true)
  (hv : vs = vs'.map (AV.ren (pickS (A.length + P.length) ids))) (ho : ∀ x ∈ vs', x.ok (A.length + P.length + L.length)) : WkL m vs (A ++ (P ++ G)) vs' (A ++ (P ++ L)) := by
 have hAP : HOk (A ++ P) := by
  intro i q hq
  rw [List.length_append]
  rcases Nat.lt_or_ge i A.length with h | h
  ·rw [List.getElem?_append_left h] at hq; exact AObj.okN_mono (by omega) (hA i q hq)
  ·rw [List.getElem?_append_right h] at hq; exact hP q (List.mem_of_getElem? hq)
 rw [← List.append_assoc, ← List.append_assoc]
 exact WkL.pick ids hAP (by rw [List.length_append]; exact hm) hL hd hp (by rw [List.length_append]; exact hv) (by rw [List.length_append]; exact ho)
theorem WkL.padP {A : Hp} {m : Nat} {vs : List AV} (P : Hp) (hm : m ≤ A.length + P.length) : WkL m vs (A ++ P) vs (A ++ (P ++ [.dead])) := by
 rw [← List.append_assoc]
 exact WkL.pad (by rw [List.length_append]; exact hm)
section
variable (P : Program) (H : Hp) (J : AV → Hp → Prop)
@[go_sem] theorem blt_lenG (t i : Nat) {α : Type} (l : List α) : aBuiltin P .len #[t] [.c (grV i l)] H J = aIf ((elemT P t).isSome = true) (.c (.int .i64 l.length)) H J := by cases l <;> rfl
@[go_sem] theorem aix_gr (i s : Nat) {α : Type} (l : List α) (kd : IntKind) (q : Int) (i1 : Bool) (h : 0 ≤ q ∧ q < l.length) : aIx (.c (grV i l)) (.c (.int kd q)) (some s) i1 H J = aIx2 H[i]? i 0 l.length q s i1 H J := by
 cases l with
 | nil => simp at h; omega
 | cons x xs => rfl
@[go_sem] theorem aix2_gr (ty sz i k n s : Nat) (els : List (List AC)) (q : Int) (h : 0 < els.length) : aIx2 (some (grO ty sz els)) i k n q s true H J = aIf (s = sz ∧ 0 ≤ q ∧ q < n) (.c (.ptr (some (i, k + q.toNat, 0)))) H J := by
 cases els with
 | nil => simp at h
 | cons x xs => simp [aIx2, grO]
@[go_sem] theorem elOf_gr (ty sz k : Nat) (els : List (List AC)) : elOf (some (grO ty sz els)) k = els[k]? := by
 cases els <;> simp [elOf, grO]
@[go_sem] theorem ast2_gr (ty sz i k j szt : Nat) (cs : List AC) (els : List (List AC)) (i1 : Bool) (h : 0 < els.length) : aSt2 (some (grO ty sz els)) i k j cs i1 szt H J = aSt3 els[k]? ty sz els i k j cs i1 szt H J := by
 cases els with
 | nil => simp at h
 | cons x xs => rfl
end
section
variable {P : Program} {H A G : Hp} {K J : AV → Hp → Prop} {n : Nat}
theorem app_gr {α : Type} {t i j k e sz bs m : Nat} {enc : α → List AC} {z : List AC} (l : List α) (x : α) (he : elemT P t = some e) (hz : zeroT P e = some z) (hsz : szT P e = sz) (hbs : P.bytesOf e = bs) (hi : H[i]? = some (grO e sz (l.map enc))) (hx : srcO H[j]? sz k 1 = some [enc x]) (hzl : z.length = sz) (hs : 0 < sz)
  (hb : (l.length + 1) * bs ≤ 140737488355328) (hn : l.length + 1 ≤ 9223372036854775807) (hm : m = 1)
  (h : J (.c (grV H.length (l ++ [x]))) (H.set i .dead ++ [grO e sz ((l ++ [x]).map enc)])) : aBuiltin P .append #[t, t] [.c (grV i l), .c (.sl (some (j, k)) m)] H J := by
 subst hsz; subst hbs; subst hm
 have key : ∀ (r : Option (Nat × Nat)) (n : Nat), grV i (l.map enc) = .sl r n → aBuiltin P .append #[t, t] [.c (.sl r n), .c (.sl (some (j, k)) 1)] H J := by
  intro r n hr
  refine app_sl ?_
  rw [he]
  simp only [Option.bind_some, Option.elim_some, hz, hx]
  refine ⟨trivial, hzl, ?_⟩
  refine appL_gr hi hs (by simpa using hb) (by simpa using hn) ?_ r n hr
  have e1 : grV H.length (l ++ [x]) = .sl (some (H.length, 0)) ((l.map enc).length + 1) := by rw [grV_snoc]; simp
  have e2 : grO e (szT P e) ((l ++ [x]).map enc) = .row e (szT P e) (l.map enc ++ [enc x]) true := by simp [grO_snoc]
  rw [e1, e2] at h
  exact h
 rw [← map_grV enc i l]
 cases h0 : l.map enc with
 | nil => rw [h0] at key; exact key _ _ rfl
 | cons y ys => rw [h0] at key; exact key _ _ rfl
theorem appL_grM {e sz bs i : Nat} {l m : List (List AC)} (hi : H[i]? = some (grO e sz l)) (hs : 0 < sz) (hm : m ≠ []) (hb : (l.length + m.length) * bs ≤ 140737488355328) (hn : l.length + m.length ≤ 9223372036854775807)
  (h : J (.c (.sl (some (H.length, 0)) (l.length + m.length))) (H.set i .dead ++ [.row e sz (l ++ m) true])) : ∀ (r : Option (Nat × Nat)) (n : Nat), grV i l = .sl r n → aAppL e sz bs r n m H J := by
 intro r n hr
 obtain ⟨x, xs, rfl⟩ := List.exists_cons_of_ne_nil hm
 cases l with
 | nil =>
  injection hr with h1 h2
  subst h1; subst h2
  have hd : H.set i .dead = H := by
   apply List.ext_getElem?
   intro j
   by_cases e : i = j
   ·subst e; rw [List.getElem?_set_self (getElem?_lt hi), hi]; rfl
   ·rw [List.getElem?_set_ne e]
  rw [hd] at h
  refine ⟨⟨rfl, hs, by simpa using hb, by simpa using hn⟩, ?_⟩
  simpa using h
 | cons y ys =>
  injection hr with h1 h2
  subst h1; subst h2
  show _ ∧ _
  refine ⟨rfl, ?_⟩
  rw [hi]
  show aIf _ _ _ _
  refine ⟨⟨rfl, rfl, Nat.le_refl _, hs, hb, hn⟩, ?_⟩
  rw [List.take_of_length_le (Nat.le_refl _)]
  exact h
theorem app_grR {α : Type} {t i j k m e sz bs : Nat} {enc : α → List AC} {z : List AC} (l mm : List α) (he : elemT P t = some e) (hz : zeroT P e = some z) (hsz : szT P e = sz) (hbs : P.bytesOf e = bs) (hi : H[i]? = some (grO e sz (l.map enc))) (hx : srcO H[j]? sz k m = some (mm.map enc)) (hm : mm ≠ []) (hzl : z.length = sz) (hs : 0 < sz)
  (hb : (l.length + mm.length) * bs ≤ 140737488355328) (hn : l.length + mm.length ≤ 9223372036854775807)
  (h : J (.c (grV H.length (l ++ mm))) (H.set i .dead ++ [grO e sz ((l ++ mm).map enc)])) : aBuiltin P .append #[t, t] [.c (grV i l), .c (.sl (some (j, k)) m)] H J := by
 subst hsz; subst hbs
 have key : ∀ (r : Option (Nat × Nat)) (n : Nat), grV i (l.map enc) = .sl r n → aBuiltin P .append #[t, t] [.c (.sl r n), .c (.sl (some (j, k)) m)] H J := by
  intro r n hr
  refine app_sl ?_
  rw [he]
  simp only [Option.bind_some, Option.elim_some, hz, hx]
  refine ⟨trivial, hzl, ?_⟩
  refine appL_grM hi hs (by simpa using hm) (by simpa using hb) (by simpa using hn) ?_ r n hr
  rw [grV_pos _ (by simp [hm]), grO_pos _ _ (by simp [hm])] at h
  simpa using h
 rw [← map_grV enc i l]
 cases h0 : l.map enc with
 | nil => rw [h0] at key; exact key _ _ rfl
 | cons y ys => rw [h0] at key; exact key _ _ rfl
theorem app_grS {t t' i e : Nat} {enc : UInt8 → List AC} (l : List UInt8) (s : ByteArray) (henc : enc = fun b => [.int .u8 b.toNat]) (h1 : P.underlying t' = some .string) (he : elemT P t = some e) (hz : (P.info? e).bind (·.zero) = some (.int .u8 0)) (hsz : szT P e = 1) (hbs : P.bytesOf e = 1) (hi : H[i]? = some (grO e 1 (l.map enc))) (hm : 0 < s.size)
  (hb : l.length + s.size ≤ 140737488355328)
  (h : J (.c (grV H.length (l ++ s.data.toList))) (H.set i .dead ++ [grO e 1 ((l ++ s.data.toList).map enc)])) : aBuiltin P .append #[t, t'] [.c (grV i l), .c (.str s)] H J := by
 subst henc
 have hl : s.data.toList.length = s.size := Array.length_toList
 have hne : s.data.toList ≠ [] := by intro h0; rw [h0] at hl; simp at hl; omega
 have key : ∀ (r : Option (Nat × Nat)) (n : Nat), grV i (l.map fun b => [AC.int .u8 b.toNat]) = .sl r n → aBuiltin P .append #[t, t'] [.c (.sl r n), .c (.str s)] H J := by
  intro r n hr
  refine app_str0 h1 he hz hsz hbs ?_
  refine appL_grM hi (by decide) (by simpa using hne) (by simp; omega) (by simp; omega) ?_ r n hr
  rw [grV_pos _ (by simp [hne]), grO_pos _ _ (by simp [hne])] at h
  simpa using h
 rw [← map_grV (fun b : UInt8 => [AC.int .u8 b.toNat]) i l]
 cases h0 : l.map fun b => [AC.int .u8 b.toNat] with
 | nil => rw [h0] at key; exact key _ _ rfl
 | cons y ys => rw [h0] at key; exact key _ _ rfl
theorem Ret.frzGr {ty sz : Nat} {l : List (List AC)} {x : AC} (j : Nat) (hA : HOk A) (hn : n ≤ A.length) (hj : G[j]? = some (grO ty sz l)) (hp : pureL l = true) (hx : x = grV (A.length + j) l) (hk : K (.c (.lst sz l)) A) : Ret n (.c x) (A ++ G) K := by
 subst hx
 cases l with
 | nil => exact Ret.nil [sz] (by simp; omega) (Ret.drop hA hn (by simp [grV, AV.nilz, AC.nilz, AV.ok, AV.ok1, AC.ok]) hk)
 | cons y ys => exact Ret.frzAt j hA hn hk hj hp (by simp [AV.ok, AV.ok1, AC.ok]) (by simp [AV.frz, AV.frz1, AC.frz, grV])
theorem Ret.frzGrT {ty sz : Nat} {l : List (List AC)} {x : AC} {ts : List AV} (j : Nat) (hA : HOk A) (hn : n ≤ A.length) (hj : G[j]? = some (grO ty sz l)) (hp : pureL l = true) (ht : tailOk ts = true) (hx : x = grV (A.length + j) l) (hk : K (.tup (.c (.lst sz l) :: ts)) A) : Ret n (.tup (.c x :: ts)) (A ++ G) K := by
 subst hx
 have ho : (AV.tup (.c (.lst sz l) :: ts)).ok A.length := by
  intro y hy
  rcases List.mem_cons.1 hy with rfl | hy
  ·trivial
  ·exact tail_ok1 _ ht y hy
 cases l with
 | nil =>
  refine Ret.nil [sz] (by simp; omega) ?_
  have e : (AV.tup (.c (grV (A.length + j) ([] : List (List AC))) :: ts)).nilz [sz] = .tup (.c (.lst sz []) :: ts) := by
   simp [AV.nilz, AV.nilz.go, grV, AC.nilz]
  rw [e]
  exact Ret.drop hA hn ho hk
 | cons y ys =>
  refine Ret.frzAt j hA hn hk hj hp ho ?_
  simp only [AV.frz, List.map_cons, tail_frz ht]
  simp [AV.frz1, AC.frz, grV]
theorem Ret.nilT {sz : Nat} {ts : List AV} (hA : HOk A) (hn : n ≤ A.length) (ht : tailOk ts = true) (hk : K (.tup (.c (.lst sz []) :: ts)) A) : Ret n (.tup (.c (.sl none 0) :: ts)) (A ++ G) K := by
 refine Ret.nil [sz] (by simp; omega) ?_
 have e : (AV.tup (.c (.sl none 0) :: ts)).nilz [sz] = .tup (.c (.lst sz []) :: ts) := by simp [AV.nilz, AV.nilz.go, AC.nilz]
 rw [e]
 refine Ret.drop hA hn ?_ hk
 intro y hy
 rcases List.mem_cons.1 hy with rfl | hy
 ·trivial
 ·exact tail_ok1 _ ht y hy
theorem ACalls.nilz {P : Program} {f : FuncId} {args : List AV} {H : Hp} {K : AV → Hp → Prop} (szs : List Nat) (hs : szs ≠ []) (h : ACalls P f (AV.nilz.go szs args) H K) : ACalls P f args H K := by
 intro B w0 ι w vs hm hr ho
 have e : (AV.tup args).nilz szs = .tup (AV.nilz.go szs args) := by cases szs with | nil => exact absurd rfl hs | cons _ _ => rfl
 obtain ⟨h1, h2⟩ := AV.nilz_rel (n := H.length) (x := .tup args) (v := .tuple vs.toList.toArray) szs ⟨_, rfl, hr⟩ ho
 rw [e] at h1 h2
 obtain ⟨us, h3, h4⟩ := h1
 injection h3 with h3
 have h5 : vs.toList = us := by have := congrArg Array.toList h3; simpa using this
 subst h5
 exact h B w0 ι w vs hm h4 h2
theorem set_same {H : Hp} {i : Nat} {o : AObj} (hi : H[i]? = some o) : H.set i o = H := by
 have hlt := getElem?_lt hi
 apply List.ext_getElem?
 intro j
 by_cases e : i = j
 ·subst e; rw [List.getElem?_set_self hlt, hi]
 ·rw [List.getElem?_set_ne e]
theorem ACalls.postR {P : Program} {f : FuncId} {args : List AV} {H : Hp} {K K1 : AV → Hp → Prop} (h : ACalls P f args H K1) (hk : HOk H → ∀ v H', K1 v H' → Ret H.length v H' K) : ACalls P f args H K := by
 intro B w0 ι w vs hs hr ho
 refine (h B w0 ι w vs hs hr ho).mono fun e w' he => ?_
 obtain ⟨ι2, u, av, H', rfl, k2, k3, k4, k5, k6, k7⟩ := he
 obtain ⟨v2, H2, h1, h2⟩ := hk hs.hok av H' k7 k4.hok k6
 obtain ⟨ι3, g1, g2, g3, g4, g5⟩ := h1 B w0 ι2 w' [u] k4 ⟨k5, trivial⟩ (by intro x hx; rw [List.mem_singleton] at hx; subst hx; exact k6)
 exact ⟨ι3, u, v2, H2, rfl, k2.trans g1 (Nat.le_refl _), g2, g3, g4.1, g5 v2 (by simp), h2⟩
theorem Ret.nilS {sz : Nat} {ts : List AV} (hn : n ≤ A.length) (ht : tailOk ts = true) (hk : K (.tup (.c (.lst sz []) :: ts)) A) : Ret n (.tup (.c (.sl none 0) :: ts)) A K := by
 refine Ret.nil [sz] hn ?_
 have e : (AV.tup (.c (.sl none 0) :: ts)).nilz [sz] = .tup (.c (.lst sz []) :: ts) := by simp [AV.nilz, AV.nilz.go, AC.nilz]
 rw [e]
 exact Ret.same hn hk
end
end Go.Proofs.YtagoolooikpabaaGreatDoor
namespace Go.Proofs.YtagoolooikpabaaGreatDoor
open Go Go.RowKit
set_option maxRecDepth 100000
section
variable {P : Program} {n N : Nat} {L : List Tmp} {F : Fr} {H : Hp}
def QR (P : Program) (n N : Nat) (L : List Tmp) (c : Code) (Q : AExit → Fr → Hp → Prop) : Nat → AExit → Fr → Hp → Prop
 | 0 => fun e F H => match e with | .normal => False | e => Q e F H
 | k + 1 => fun e F H => match e with | .normal => AWp P n N L c (QR P n N L c Q k) F H | e => Q e F H
theorem AWp.rounds {c : Code} {Q : AExit → Fr → Hp → Prop} (k : Nat) (hc : codeOk N c = true) (h : AWp P n N L c (QR P n N L c Q k) F H) : AWp P n N L (.loop c) Q F H := by
 intro rr dd B w0 ι0 ι a w hA hn hs hF
 have key : ∀ (k : Nat) (F' : Fr) (H' : Hp) (ι' : En) (a' : Act) (w' : World), Agree n ι0 ι' → n ≤ H'.length → Sim B w0 ι' H' w' → FOk dd N ι' H'.length F' a' → (∀ t ∈ L, t ∉ asg c → F' t = F t) → AWp P n N L c (QR P n N L c Q k) F' H' → Code.roundsIn (fen rr) 0 P c (CQ dd B w0 ι0 n N (QF L (.loop c) F Q)) (k + 1) a' w' := by
  intro k
  induction k with
  | zero =>
   intro F' H' ι' a' w' g1 g2 g3 g4 g5 g6
   rw [roundsIn_succ]
   refine wpIn_mono (awp_sound c _ hc g1 g2 g3 g4 (awp_frame g6)) ?_
   intro e a2 w2 he
   cases e with
   | normal => obtain ⟨ι2, F2, H2, k1, k2, k3, k4, k5, k6⟩ := he; exact k5.elim
   | exit id => obtain ⟨ι2, F2, H2, k1, k2, k3, k4, k5, k6⟩ := he; exact ⟨ι2, F2, H2, k1, k2, k3, k4, k5, fun t ht hm => (k6 t ht hm).trans (g5 t ht hm)⟩
   | ret => obtain ⟨ι2, F2, H2, k1, k2, k3, k4, k5, k6⟩ := he; exact ⟨ι2, F2, H2, k1, k2, k3, k4, k5, fun t ht hm => (k6 t ht hm).trans (g5 t ht hm)⟩
   | _ => exact he
  | succ k ih =>
   intro F' H' ι' a' w' g1 g2 g3 g4 g5 g6
   rw [roundsIn_succ]
   refine wpIn_mono (awp_sound c _ hc g1 g2 g3 g4 (awp_frame g6)) ?_
   intro e a2 w2 he
   cases e with
   | normal => obtain ⟨ι2, F2, H2, k1, k2, k3, k4, k5, k6⟩ := he; exact ih F2 H2 ι2 a2 w2 k1 k2 k3 k4 (fun t ht hm => (k6 t ht hm).trans (g5 t ht hm)) k5
   | exit id => obtain ⟨ι2, F2, H2, k1, k2, k3, k4, k5, k6⟩ := he; exact ⟨ι2, F2, H2, k1, k2, k3, k4, k5, fun t ht hm => (k6 t ht hm).trans (g5 t ht hm)⟩
   | ret => obtain ⟨ι2, F2, H2, k1, k2, k3, k4, k5, k6⟩ := he; exact ⟨ι2, F2, H2, k1, k2, k3, k4, k5, fun t ht hm => (k6 t ht hm).trans (g5 t ht hm)⟩
   | _ => exact he
 exact wpIn_loop_rounds (k + 1) (key k F H ι a w hA hn hs hF (fun _ _ _ => rfl) h)
@[go_sem ↓] theorem qr_n (c : Code) (Q : AExit → Fr → Hp → Prop) (k : Nat) : QR P n N L c Q (k + 1) .normal F H = AWp P n N L c (QR P n N L c Q k) F H := (rfl)
@[go_sem ↓] theorem qr_e (c : Code) (Q : AExit → Fr → Hp → Prop) (k id : Nat) : QR P n N L c Q k (.exit id) F H = Q (.exit id) F H := by cases k <;> rfl
end
end Go.Proofs.YtagoolooikpabaaGreatDoor
namespace Go.Proofs.YtagoolooikpabaaGreatDoor
open Go Go.RowKit
set_option maxRecDepth 100000
variable {H : Hp} {K : AV → Hp → Prop}
theorem isNaN_a (x : Int) (hk : K (.c (.bool false)) H) : ACalls Tryz.prog 240 [(.c (.int .i64 x))] H K := by
 refine acalls Tryz.func240 rfl (by kernel_rfl) (by simp (disch := first | omega | (simp only [go_sem]; try omega)) only [go_sem]) (fun hH => ?_)
 simp (disch := first | omega | (simp only [go_sem]; try omega)) only [go_sem]
 (first | refine Ret.sameE (Nat.le_refl _) (by assumption) ?_ | refine Ret.dropE (by assumption) (Nat.le_refl _) (by assumption) (by simp [AV.ok, AV.ok1, AC.ok]) ?_) <;> simp
theorem compare_a (x y : Int) (hk : K (.c (.int .i64 (if x < y then -1 else if y < x then 1 else 0))) H) : ACalls Tryz.prog 188 [(.c (.int .i64 x)), (.c (.int .i64 y))] H K := by
 refine acalls Tryz.func188 rfl (by kernel_rfl) (by simp (disch := first | omega | (simp only [go_sem]; try omega)) only [go_sem]) (fun hH => ?_)
 simp (disch := first | omega | (simp only [go_sem]; try omega)) only [go_sem]
 repeat' (first | ((first | refine acond_d ?_ ?_ | refine acond_b ?_ ?_ | refine ag_d ?_ ?_ | refine ag_n ?_ ?_ | refine ag_bt ?_ ?_ | refine ag_bf ?_ ?_) <;> intro c <;> try simp (disch := first | omega | (simp only [go_sem]; try omega)) only [go_sem, c]) | ((first | refine w_draw (by kernel_rfl) (by decide +kernel) ?_ | refine isNaN_a _ ?_) <;> try simp (disch := first | omega | (simp only [go_sem]; try omega)) only [go_sem]))
 all_goals (first | refine Ret.sameE (Nat.le_refl _) (by assumption) ?_ | refine Ret.dropE (by assumption) (Nat.le_refl _) (by assumption) (by simp [AV.ok, AV.ok1, AC.ok]) ?_) <;> (first | rfl | (simp only [AV.c.injEq, AC.bool.injEq]; rw [Bool.eq_iff_iff]; simp only [Bool.not_eq_true', decide_eq_true_eq, decide_eq_false_iff_not, Bool.and_eq_true, Bool.or_eq_true]; omega) | grind | (simp [*]; done) | (simp [*]; omega))
end Go.Proofs.YtagoolooikpabaaGreatDoor
