/- Several texts in one: Expressions that are drawn: how long they are, and what follows. No condition. -/
import Derived.Test.YtagoolooikpabaaGreatDoorHVTxtB
import Derived.Test.YtagoolooikpabaaGreatDoorHVSortS
set_option linter.all false
namespace Go.Proofs.YtagoolooikpabaaGreatDoor
open Go Go.RowKit
set_option maxRecDepth 100000
set_option maxHeartbeats 4000000
variable {H : Hp} {K : AV → Hp → Prop}
theorem someS_a (s : Nat) (zs : List Int) (k : Int) (l : List ByteArray) (hs : Str H s zs k) (h0 : 0 < l.length) (h1 : l.length ≤ 1000)
  (hk : ∀ r : ByteArray, r ∈ l → K (.c (.str r)) (H.set s (strO zs (k + 1)))) : ACalls Tryz.prog 7 [.c (.ptr (some (s, 0, 0))), .c (.lst 1 (l.map encSs))] H K := by
 refine acalls Tryz.func7 rfl kRf gT (fun hH => ?_)
 refine gO ?_
 repeat' (first | ((first | refine acond_d ?_ ?_ | refine acond_b ?_ ?_ | refine ag_d ?_ ?_ | refine ag_n ?_ ?_ | refine ag_bt ?_ ?_ | refine ag_bf ?_ ?_) <;> intro c <;> try refine gO1 c ?_) | ((first | refine w_draw kRf dKn ?_ | refine next_a s _ _ _ hs oMg oMg (fun r _ _ => ?_)) <;> try refine gO ?_))
 exact Ret.same sMp (hk _ (List.getElem_mem _))
theorem someS_lit (s : Nat) (zs : List Int) (k : Int) (l : List ByteArray) {i ty n : Nat} {els : List (List AC)} {own : Bool} (hi : H[i]? = some (.row ty 1 els own)) (he : els = l.map encSs) (hn : n = l.length) (hs : Str H s zs k) (hne : i ≠ s) (h0 : 0 < l.length) (h1 : l.length ≤ 1000)
  (hk : ∀ r : ByteArray, r ∈ l → K (.c (.str r)) ((H.set i .dead).set s (strO zs (k + 1)))) : ACalls Tryz.prog 7 [.c (.ptr (some (s, 0, 0))), .c (.sl (some (i, 0)) n)] H K := by
 subst he hn
 refine ACalls.lit hi (by simp [pureL, encSs, AC.pure]) (args' := [.c (.ptr (some (s, 0, 0))), .c (.lst 1 (l.map encSs))]) ?_ (someS_a s zs k l ⟨hs.1, hs.2.1, hs.2.2.1, ?_⟩ h0 h1 hk)
 ·simp [AV.frz1, AC.frz]
  rw [List.take_of_length_le sMp]
 ·rw [List.getElem?_set_ne hne]; exact hs.2.2.2
def eB : Nat → Nat
 | 0 => 5
 | d + 1 => 3 * eB d + 7
def eJ : Nat → Int
 | 0 => 1
 | d + 1 => 3 * eJ d + 3
theorem eB_le {d : Nat} (h : d ≤ 3) : 5 ≤ eB d ∧ eB d ≤ 1000 := by
 match d, h with
 | 0, _ => decide
 | 1, _ => decide
 | 2, _ => decide
 | 3, _ => decide
theorem eJ_le {d : Nat} (h : d ≤ 3) : 0 ≤ eJ d ∧ eJ d ≤ 100 := by
 match d, h with
 | 0, _ => decide
 | 1, _ => decide
 | 2, _ => decide
 | 3, _ => decide
def DrE (f : FuncId) (args : List AV) (s : Nat) (zs : List Int) (j : Int) (d : Nat) (H : Hp) (K : AV → Hp → Prop) : Prop :=
 (∀ (r : ByteArray) (j' : Int), j ≤ j' → j' ≤ j + eJ d → r.size ≤ eB d → K (.c (.str r)) (H.set s (strO zs j'))) → ACalls Tryz.prog f args H K
theorem exprIn_a (s : Nat) (zs : List Int) (j : Int) (d : Nat) (hd : d ≤ 2) {p q : Nat} (hp : H[p]? = some (.row 23 1 [[.ptr (some (s, 0, 0))]] true)) (hq : H[q]? = some (.row 3 1 [[.int .i64 (d + 1 : Nat)]] true))
  (ih : ∀ K, DrE 42 [.c (.ptr (some (s, 0, 0))), (.c (.int .i64 d))] s zs j d H K) (hk : ∀ (r : ByteArray) (j' : Int), j ≤ j' → j' ≤ j + eJ d → r.size ≤ eB d → K (.c (.str r)) (H.set s (strO zs j'))) :
  ACalls Tryz.prog 97 [.c (.ptr (some (p, 0, 0))), .c (.ptr (some (q, 0, 0)))] H K := by
 refine acalls Tryz.func97 rfl kRf gT (fun hH => ?_)
 refine gO2 hp hq ?_
 rw [show ((d + 1 : Nat) : Int) - 1 = (d : Int) by omega]
 refine ih _ (fun r j' h1 h2 h3 => ?_)
 refine gO ?_
 exact Ret.same sMp (hk r j' h1 h2 h3)
theorem dzM (a : Array UInt8) : (ByteArray.mk a).size = a.size := rfl
theorem dzL {n : Nat} {r : ByteArray} {l : List ByteArray} (h : r ∈ l) (hl : l.all (fun x => decide (x.size ≤ n)) = true) : r.size ≤ n := of_decide_eq_true (List.all_eq_true.1 hl r h)
theorem expr_a : ∀ (d : Nat), d ≤ 3 → ∀ {H : Hp} (K : AV → Hp → Prop) (s : Nat) (zs : List Int) (j : Int), Str H s zs j → j + 1000 * (d : Int) ≤ 1091000000000 → DrE 42 [.c (.ptr (some (s, 0, 0))), (.c (.int .i64 d))] s zs j d H K
 | 0, _, H, K, s, zs, j, hs, hj => by
  intro hk
  have hlt := hs.lt
  have hpos := hs.pos
  refine acalls Tryz.func42 rfl kRf gT (fun hH => ?_)
  refine gO ?_
  refine someS_lit s zs j [⟨#[97]⟩, ⟨#[98]⟩, ⟨#[99]⟩, ⟨#[120]⟩, ⟨#[49]⟩, ⟨#[48]⟩, ⟨#[55]⟩, ⟨#[97, 64, 49, 48]⟩, ⟨#[98, 64, 53]⟩, ⟨#[49, 50]⟩, ⟨#[121]⟩, ⟨#[120, 64, 51]⟩] aTT rfl rfl (by first | exact hs | exact hs.app _ | exact hs.set oMg oMg | exact (hs.set oMg oMg).app _) oMg sMp sMp (fun r hr => ?_)
  have hrs : r.size ≤ 5 := by
   simp only [List.mem_cons, List.not_mem_nil, or_false] at hr
   rcases hr with rfl | rfl | rfl | rfl | rfl | rfl | rfl | rfl | rfl | rfl | rfl | rfl <;> decide
  refine gO ?_
  exact Ret.drop (HOk.str hH) sMp trivial (hk r _ oMg (by simp only [eJ]; omega) hrs)
 | d + 1, hd, H, K, s, zs, j, hs, hj => by
  intro hk
  have hlt := hs.lt
  have hpos := hs.pos
  have hb := eB_le (d := d) oMg
  have hJ := eJ_le (d := d) oMg
  have ih := @expr_a d oMg
  have hent : entersB Tryz.prog 97 = true := by kernel_rfl
  refine acalls Tryz.func42 rfl kRf gT (fun hH => ?_)
  refine gO1 hent ?_
  refine next_a s zs j 9 (by first | exact hs | exact hs.app _ | exact hs.set oMg oMg | exact (hs.set oMg oMg).app _) oMg oMg (fun q h1 h2 => ?_)
  have hcl : ∀ {J : AV → Hp → Prop} (j1 : Int) (G : Hp), 0 ≤ j1 → j1 + 1000 * (d : Int) ≤ 1091000000000 → (∀ (r : ByteArray) (j' : Int), j1 ≤ j' → j' ≤ j1 + eJ d → r.size ≤ eB d → J (.c (.str r)) (H.set s (strO zs j') ++ (.row 23 1 [[.ptr (some (s, 0, 0))]] true :: .row 3 1 [[.int .i64 (d + 1 : Nat)]] true :: G))) → ACalls Tryz.prog 97 [.c (.ptr (some (H.length, 0, 0))), .c (.ptr (some (H.length + 1, 0, 0)))] (H.set s (strO zs j1) ++ (.row 23 1 [[.ptr (some (s, 0, 0))]] true :: .row 3 1 [[.int .i64 (d + 1 : Nat)]] true :: G)) J := by
   intro J j1 G g0 g1 hJ
   have hst : Str (H.set s (strO zs j1) ++ (.row 23 1 [[.ptr (some (s, 0, 0))]] true :: .row 3 1 [[.int .i64 (d + 1 : Nat)]] true :: G)) s zs j1 := (hs.set g0 oMg).app _
   refine exprIn_a s zs j1 d oMg (by rw [List.getElem?_append_right sMp]; simp) (by rw [List.getElem?_append_right sMp]; simp) (fun K => ih K s zs j1 hst oMg) (fun r j' h1 h2 h3 => ?_)
   rw [List.set_append_left _ _ (by simpa using hlt), List.set_set]
   exact hJ r j' h1 h2 h3
  have hq : q = 0 ∨ q = 1 ∨ q = 2 ∨ q = 3 ∨ q = 4 ∨ q = 5 ∨ q = 6 ∨ q = 7 ∨ q = 8 := by omega
  rcases hq with rfl | rfl | rfl | rfl | rfl | rfl | rfl | rfl | rfl
  ·refine gO1 hent ?_
   refine w_tree (.one 0 (.one 6 (.three 1 (.one 2 (.one 3 (.one 4 (.one 5 (.one 7 (.one 8 (.one 9 .done))))))) 2 (.two 1 (.one 3 (.one 4 (.one 5 (.one 7 (.one 8 (.one 9 .done)))))) 3 (.one 1 (.one 4 (.one 5 (.one 7 (.one 8 (.one 9 .done))))))) 3 (.two 1 (.one 2 (.one 4 (.one 5 (.one 7 (.one 8 (.one 9 .done)))))) 2 (.one 1 (.one 4 (.one 5 (.one 7 (.one 8 (.one 9 .done)))))))))) kRf dKn ?_
   refine gO1 hent ?_
   repeat' first | (refine hcl _ _ oMg oMg (fun r j1 g1 g2 g3 => ?_); refine gO1 hent ?_) | (refine someS_lit s zs _ [⟨#[43]⟩, ⟨#[32, 45, 32]⟩, ⟨#[32, 43, 32]⟩, ⟨#[45]⟩] aTT rfl rfl (by first | exact hs | exact hs.app _ | exact hs.set oMg oMg | exact (hs.set oMg oMg).app _) oMg sMp sMp (fun r hr => ?_); have hz := dzL (n := 5) hr (by decide); refine gO1 hent ?_) | (refine ⟨by first | omega | (simp only [ByteArray.size_append, dzM, List.size_toArray, List.length_cons, List.length_nil, eB]; omega), ?_⟩; refine gO1 hent ?_) | (exact Ret.drop (HOk.str hH) sMp trivial (hk _ _ oMg (by simp only [eJ]; omega) (by first | omega | (simp only [ByteArray.size_append, dzM, List.size_toArray, List.length_cons, List.length_nil, eB]; omega)))) | apply And.intro
  ·refine gO1 hent ?_
   refine w_tree (.one 0 (.one 6 (.three 1 (.one 2 (.one 3 (.one 4 (.one 5 (.one 7 (.one 8 (.one 9 .done))))))) 2 (.two 1 (.one 3 (.one 4 (.one 5 (.one 7 (.one 8 (.one 9 .done)))))) 3 (.one 1 (.one 4 (.one 5 (.one 7 (.one 8 (.one 9 .done))))))) 3 (.two 1 (.one 2 (.one 4 (.one 5 (.one 7 (.one 8 (.one 9 .done)))))) 2 (.one 1 (.one 4 (.one 5 (.one 7 (.one 8 (.one 9 .done)))))))))) kRf dKn ?_
   refine gO1 hent ?_
   repeat' first | (refine hcl _ _ oMg oMg (fun r j1 g1 g2 g3 => ?_); refine gO1 hent ?_) | (refine someS_lit s zs _ [⟨#[42]⟩, ⟨#[47]⟩, ⟨#[32, 42, 32]⟩] aTT rfl rfl (by first | exact hs | exact hs.app _ | exact hs.set oMg oMg | exact (hs.set oMg oMg).app _) oMg sMp sMp (fun r hr => ?_); have hz := dzL (n := 5) hr (by decide); refine gO1 hent ?_) | (refine ⟨by first | omega | (simp only [ByteArray.size_append, dzM, List.size_toArray, List.length_cons, List.length_nil, eB]; omega), ?_⟩; refine gO1 hent ?_) | (exact Ret.drop (HOk.str hH) sMp trivial (hk _ _ oMg (by simp only [eJ]; omega) (by first | omega | (simp only [ByteArray.size_append, dzM, List.size_toArray, List.length_cons, List.length_nil, eB]; omega)))) | apply And.intro
  ·refine gO1 hent ?_
   repeat' first | (refine hcl _ _ oMg oMg (fun r j1 g1 g2 g3 => ?_); refine gO1 hent ?_) | (refine ⟨by first | omega | (simp only [ByteArray.size_append, dzM, List.size_toArray, List.length_cons, List.length_nil, eB]; omega), ?_⟩; refine gO1 hent ?_) | (exact Ret.drop (HOk.str hH) sMp trivial (hk _ _ oMg (by simp only [eJ]; omega) (by first | omega | (simp only [ByteArray.size_append, dzM, List.size_toArray, List.length_cons, List.length_nil, eB]; omega)))) | apply And.intro
  ·refine gO1 hent ?_
   repeat' first | (refine hcl _ _ oMg oMg (fun r j1 g1 g2 g3 => ?_); refine gO1 hent ?_) | (refine ⟨by first | omega | (simp only [ByteArray.size_append, dzM, List.size_toArray, List.length_cons, List.length_nil, eB]; omega), ?_⟩; refine gO1 hent ?_) | (exact Ret.drop (HOk.str hH) sMp trivial (hk _ _ oMg (by simp only [eJ]; omega) (by first | omega | (simp only [ByteArray.size_append, dzM, List.size_toArray, List.length_cons, List.length_nil, eB]; omega)))) | apply And.intro
  ·refine gO1 hent ?_
   repeat' first | (refine hcl _ _ oMg oMg (fun r j1 g1 g2 g3 => ?_); refine gO1 hent ?_) | (refine someS_lit s zs _ [⟨#[109, 105, 110]⟩, ⟨#[109, 97, 120]⟩] aTT rfl rfl (by first | exact hs | exact hs.app _ | exact hs.set oMg oMg | exact (hs.set oMg oMg).app _) oMg sMp sMp (fun r hr => ?_); have hz := dzL (n := 5) hr (by decide); refine gO1 hent ?_) | (refine ⟨by first | omega | (simp only [ByteArray.size_append, dzM, List.size_toArray, List.length_cons, List.length_nil, eB]; omega), ?_⟩; refine gO1 hent ?_) | (exact Ret.drop (HOk.str hH) sMp trivial (hk _ _ oMg (by simp only [eJ]; omega) (by first | omega | (simp only [ByteArray.size_append, dzM, List.size_toArray, List.length_cons, List.length_nil, eB]; omega)))) | apply And.intro
  ·refine gO1 hent ?_
   repeat' first | (refine hcl _ _ oMg oMg (fun r j1 g1 g2 g3 => ?_); refine gO1 hent ?_) | (refine someS_lit s zs _ [⟨#[97, 98, 115]⟩, ⟨#[103, 111, 111, 100]⟩] aTT rfl rfl (by first | exact hs | exact hs.app _ | exact hs.set oMg oMg | exact (hs.set oMg oMg).app _) oMg sMp sMp (fun r hr => ?_); have hz := dzL (n := 5) hr (by decide); refine gO1 hent ?_) | (refine ⟨by first | omega | (simp only [ByteArray.size_append, dzM, List.size_toArray, List.length_cons, List.length_nil, eB]; omega), ?_⟩; refine gO1 hent ?_) | (exact Ret.drop (HOk.str hH) sMp trivial (hk _ _ oMg (by simp only [eJ]; omega) (by first | omega | (simp only [ByteArray.size_append, dzM, List.size_toArray, List.length_cons, List.length_nil, eB]; omega)))) | apply And.intro
  ·refine gO1 hent ?_
   repeat' first | (refine hcl _ _ oMg oMg (fun r j1 g1 g2 g3 => ?_); refine gO1 hent ?_) | (refine ⟨by first | omega | (simp only [ByteArray.size_append, dzM, List.size_toArray, List.length_cons, List.length_nil, eB]; omega), ?_⟩; refine gO1 hent ?_) | (exact Ret.drop (HOk.str hH) sMp trivial (hk _ _ oMg (by simp only [eJ]; omega) (by first | omega | (simp only [ByteArray.size_append, dzM, List.size_toArray, List.length_cons, List.length_nil, eB]; omega)))) | apply And.intro
  ·refine gO1 hent ?_
   refine w_tree (.one 0 (.one 9 (.three 1 (.one 2 (.one 3 (.one 4 (.one 5 (.one 6 (.one 7 (.one 8 (.one 10 (.one 11 (.one 12 (.one 13 .done))))))))))) 4 (.two 1 (.one 2 (.one 3 (.one 5 (.one 6 (.one 7 (.one 8 (.one 10 (.one 11 (.one 12 (.one 13 .done)))))))))) 5 (.one 1 (.one 2 (.one 3 (.one 6 (.one 7 (.one 8 (.one 10 (.one 11 (.one 12 (.one 13 .done))))))))))) 5 (.two 1 (.one 2 (.one 3 (.one 4 (.one 6 (.one 7 (.one 8 (.one 10 (.one 11 (.one 12 (.one 13 .done)))))))))) 4 (.one 1 (.one 2 (.one 3 (.one 6 (.one 7 (.one 8 (.one 10 (.one 11 (.one 12 (.one 13 .done)))))))))))))) kRf dKn ?_
   refine gO1 hent ?_
   repeat' first | (refine hcl _ _ oMg oMg (fun r j1 g1 g2 g3 => ?_); refine gO1 hent ?_) | (refine someS_lit s zs _ [⟨#[60]⟩, ⟨#[61]⟩, ⟨#[32, 61, 32]⟩] aTT rfl rfl (by first | exact hs | exact hs.app _ | exact hs.set oMg oMg | exact (hs.set oMg oMg).app _) oMg sMp sMp (fun r hr => ?_); have hz := dzL (n := 5) hr (by decide); refine gO1 hent ?_) | (refine ⟨by first | omega | (simp only [ByteArray.size_append, dzM, List.size_toArray, List.length_cons, List.length_nil, eB]; omega), ?_⟩; refine gO1 hent ?_) | (exact Ret.drop (HOk.str hH) sMp trivial (hk _ _ oMg (by simp only [eJ]; omega) (by first | omega | (simp only [ByteArray.size_append, dzM, List.size_toArray, List.length_cons, List.length_nil, eB]; omega)))) | apply And.intro
  ·refine gO1 hent ?_
   repeat' first | (refine hcl _ _ oMg oMg (fun r j1 g1 g2 g3 => ?_); refine gO1 hent ?_) | (refine ⟨by first | omega | (simp only [ByteArray.size_append, dzM, List.size_toArray, List.length_cons, List.length_nil, eB]; omega), ?_⟩; refine gO1 hent ?_) | (exact Ret.drop (HOk.str hH) sMp trivial (hk _ _ oMg (by simp only [eJ]; omega) (by first | omega | (simp only [ByteArray.size_append, dzM, List.size_toArray, List.length_cons, List.length_nil, eB]; omega)))) | apply And.intro
end Go.Proofs.YtagoolooikpabaaGreatDoor
namespace Go.Proofs.YtagoolooikpabaaGreatDoor
open Go Go.RowKit
set_option maxRecDepth 100000
set_option maxHeartbeats 4000000
variable {H : Hp} {K : AV → Hp → Prop}
theorem unbyte_mapR : ∀ l : List UInt8, unbyte (l.map encU) = some l
 | [] => rfl
 | b :: l => by
  have ih := unbyte_mapR l
  have hb : UInt8.ofNat ((b.toNat : Int)).toNat = b := by simp
  simp only [List.map_cons, encU, unbyte] at ih ⊢
  simp [ih, hb]
  have := UInt8.toNat_lt b
  omega
theorem WkL.frzGr2 {A : Hp} {n ty sz : Nat} {l : List (List AC)} (hA : HOk A) (hn : n ≤ A.length) (hp : pureL l = true) : WkL n [.c (grV A.length l)] (A ++ [grO ty sz l]) [.c (.lst sz l)] A := by
 cases l with
 | nil =>
  have h1 : WkL n [.c (.sl none 0)] (A ++ [AObj.dead]) [(AV.c (.sl none 0)).nilz [sz]] (A ++ [AObj.dead]) := by
   intro B w0 ι w us hs hr ho
   match us, hr with
   | [u], hr =>
    obtain ⟨h1, h2⟩ := AV.nilz_rel [sz] hr.1 (ho (.c (.sl none 0)) sMp)
    exact ⟨ι, Agree.refl _ _, by simp; omega, hs, ⟨h1, trivial⟩, by intro x hx; rw [List.mem_singleton] at hx; subst hx; exact h2⟩
  exact h1.trans (WkL.drop hA hn (by simp [AV.nilz, AC.nilz, AV.ok, AV.ok1, AC.ok]))
 | cons x xs => exact WkL.frzCl1 hA hn hp
theorem letter_a (e : ByteArray) (x : Int) {i : Nat} (hi : H[i]? = some (.row 9 1 [[.str e]] true)) (hsz : e.size ≤ 100000) (hx : -10 ≤ x ∧ x ≤ 1000000) (hk : ∀ b, K (.c (.bool b)) H) : ACalls Tryz.prog 98 [(.c (.int .i64 x)), .c (.ptr (some (i, 0, 0)))] H K := by
 by_cases h0 : 0 ≤ x
 ·by_cases h1 : x < (e.size : Int)
  ·by_cases h2 : 97 ≤ byteAt e x.toNat
   ·refine acalls Tryz.func98 rfl kRf gT (fun hH => ?_)
    refine gO4 hi h0 h1 h2 ?_
    exact Ret.same lRf (hk _)
   ·refine acalls Tryz.func98 rfl kRf gT (fun hH => ?_)
    refine gO4 hi h0 h1 h2 ?_
    exact Ret.same lRf (hk _)
  ·refine acalls Tryz.func98 rfl kRf gT (fun hH => ?_)
   refine gO3 hi h0 h1 ?_
   exact Ret.same lRf (hk _)
 ·refine acalls Tryz.func98 rfl kRf gT (fun hH => ?_)
  refine gO2 hi h0 ?_
  exact Ret.same lRf (hk _)
theorem replaced_a (e nm bY : ByteArray) (hsz : e.size ≤ 1000) (hn : nm.size = 1) (hb : bY.size = 1) (hk : ∀ t : ByteArray, t.size = e.size → K (.c (.str t)) H) : ACalls Tryz.prog 44 [(.c (.str e)), (.c (.str nm)), (.c (.str bY))] H K := by
 have hent : entersB Tryz.prog 98 = true := by kernel_rfl
 refine acallsS Tryz.func44 rfl gT (fun hH => ?_)
 (refine SWp.go kRf ?_; refine gO ?_)
 (refine SWp.go kRf ?_; refine gO ?_)
 (refine SWp.go kRf ?_; refine gO ?_)
 refine SWp.cut (H.length + 1) [3] [7] (fun (L : List UInt8) => L.length = e.size) (fun (L : List UInt8) => [(7, .c (.lst 1 (L.map encU)))]) (fun (L : List UInt8) => H ++ [.row 9 1 [[.str e]] true]) (fun _ => rfl) kRf sOo sOm kl ?_ (fun L hL _ _ => ?_)
 ·refine SWp.of kRf ?_
  refine gO ?_
  refine AWp.loop (H.length + 1) [1, 2, 3, 8, 12] [7, 13] (fun (L : List UInt8) => L.length ≤ e.size) (fun (L : List UInt8) => [(7, .c (grV (H.length + 1) L)), (13, (.c (.int .i64 (L.length))))]) (fun (L : List UInt8) => H ++ [.row 9 1 [[.str e]] true, grO 5 1 (L.map encU)]) (fun (L : List UInt8) => e.size - L.length) kRf (fun _ => rfl) kRf sOo sOm kl ?_ (fun L hL _ hA => ?_)
  ·refine Next.mk [] (Nat.zero_le _) ?_
   refine gO ?_
   exact WkL.padP [_] sMp
  by_cases hlt : L.length < e.size
  ·refine gO1 hlt ?_
   refine w_tree (.one 0 (.one 1 (.one 2 (.one 3 (.one 4 (.one 5 (.one 6 (.one 7 (.one 8 (.one 9 (.one 10 (.one 11 (.one 12 (.one 13 (.one 14 (.one 15 (.one 16 (.one 17 (.one 18 (.one 19 .done)))))))))))))))))))) kRf dKn ?_
   have hA1 : HOk (H ++ [.row 9 1 [[.str e]] true]) := HOk.app hH (okN_pure rfl rfl _)
   have hfin : ∀ (x : List UInt8), x.length = 1 → (L ++ x).length ≤ e.size ∧ e.size - (L ++ x).length < e.size - L.length := fun x hx => by rw [List.length_append, hx]; omega
   by_cases hq : byteAt e L.length = byteAt nm 0
   ·refine gO4 hlt hn hent hq ?_
    refine letter_a e _ aTT oMg oMg (fun b => ?_)
    cases b
    ·refine gO1 hent ?_
     refine letter_a e _ aTT oMg oMg (fun b => ?_)
     cases b
     ·refine gO1 hent ?_
      refine appUs L bY aTT oMg oMg ?_
      refine gO ?_
      refine Next.mk (L ++ bY.data.toList) (hfin _ hb) ?_
      ((try refine gO ?_); (first | refine WkL.pickAt [_] [0] ?_ ?_ ?_ rfl ?_ ?_ ?_ ?_ | refine WkL.pickAt [_] [1] ?_ ?_ ?_ rfl ?_ ?_ ?_ ?_ | refine WkL.pickAt [_] [2] ?_ ?_ ?_ rfl ?_ ?_ ?_ ?_ | refine WkL.pickAt [_] [3] ?_ ?_ ?_ rfl ?_ ?_ ?_ ?_ | refine WkL.pickAt [_] [4] ?_ ?_ ?_ rfl ?_ ?_ ?_ ?_ | refine WkL.pickAt [_] [5] ?_ ?_ ?_ rfl ?_ ?_ ?_ ?_ | refine WkL.pickAt [_] [6] ?_ ?_ ?_ rfl ?_ ?_ ?_ ?_ | refine WkL.pickAt [_] [7] ?_ ?_ ?_ rfl ?_ ?_ ?_ ?_ | refine WkL.pickAt [_] [8] ?_ ?_ ?_ rfl ?_ ?_ ?_ ?_) <;> exact cLs)
     ·refine gO1 hent ?_
      refine appUr L [e.data.toList.getD L.length 0] aTT (by simp [srcO, encU, byteAt]) sMp (by simp; omega) ?_
      refine gO ?_
      refine Next.mk (L ++ [e.data.toList.getD L.length 0]) (hfin _ rfl) ?_
      ((try refine gO ?_); (first | refine WkL.pickAt [_] [0] ?_ ?_ ?_ rfl ?_ ?_ ?_ ?_ | refine WkL.pickAt [_] [1] ?_ ?_ ?_ rfl ?_ ?_ ?_ ?_ | refine WkL.pickAt [_] [2] ?_ ?_ ?_ rfl ?_ ?_ ?_ ?_ | refine WkL.pickAt [_] [3] ?_ ?_ ?_ rfl ?_ ?_ ?_ ?_ | refine WkL.pickAt [_] [4] ?_ ?_ ?_ rfl ?_ ?_ ?_ ?_ | refine WkL.pickAt [_] [5] ?_ ?_ ?_ rfl ?_ ?_ ?_ ?_ | refine WkL.pickAt [_] [6] ?_ ?_ ?_ rfl ?_ ?_ ?_ ?_ | refine WkL.pickAt [_] [7] ?_ ?_ ?_ rfl ?_ ?_ ?_ ?_ | refine WkL.pickAt [_] [8] ?_ ?_ ?_ rfl ?_ ?_ ?_ ?_) <;> exact cLs)
    ·refine gO1 hent ?_
     refine appUr L [e.data.toList.getD L.length 0] aTT (by simp [srcO, encU, byteAt]) sMp (by simp; omega) ?_
     refine gO ?_
     refine Next.mk (L ++ [e.data.toList.getD L.length 0]) (hfin _ rfl) ?_
     ((try refine gO ?_); (first | refine WkL.pickAt [_] [0] ?_ ?_ ?_ rfl ?_ ?_ ?_ ?_ | refine WkL.pickAt [_] [1] ?_ ?_ ?_ rfl ?_ ?_ ?_ ?_ | refine WkL.pickAt [_] [2] ?_ ?_ ?_ rfl ?_ ?_ ?_ ?_ | refine WkL.pickAt [_] [3] ?_ ?_ ?_ rfl ?_ ?_ ?_ ?_ | refine WkL.pickAt [_] [4] ?_ ?_ ?_ rfl ?_ ?_ ?_ ?_ | refine WkL.pickAt [_] [5] ?_ ?_ ?_ rfl ?_ ?_ ?_ ?_ | refine WkL.pickAt [_] [6] ?_ ?_ ?_ rfl ?_ ?_ ?_ ?_ | refine WkL.pickAt [_] [7] ?_ ?_ ?_ rfl ?_ ?_ ?_ ?_ | refine WkL.pickAt [_] [8] ?_ ?_ ?_ rfl ?_ ?_ ?_ ?_) <;> exact cLs)
   ·refine gO4 hlt hn hent hq ?_
    refine appUr L [e.data.toList.getD L.length 0] aTT (by simp [srcO, encU, byteAt]) sMp (by simp; omega) ?_
    refine gO ?_
    refine Next.mk (L ++ [e.data.toList.getD L.length 0]) (hfin _ rfl) ?_
    ((try refine gO ?_); (first | refine WkL.pickAt [_] [0] ?_ ?_ ?_ rfl ?_ ?_ ?_ ?_ | refine WkL.pickAt [_] [1] ?_ ?_ ?_ rfl ?_ ?_ ?_ ?_ | refine WkL.pickAt [_] [2] ?_ ?_ ?_ rfl ?_ ?_ ?_ ?_ | refine WkL.pickAt [_] [3] ?_ ?_ ?_ rfl ?_ ?_ ?_ ?_ | refine WkL.pickAt [_] [4] ?_ ?_ ?_ rfl ?_ ?_ ?_ ?_ | refine WkL.pickAt [_] [5] ?_ ?_ ?_ rfl ?_ ?_ ?_ ?_ | refine WkL.pickAt [_] [6] ?_ ?_ ?_ rfl ?_ ?_ ?_ ?_ | refine WkL.pickAt [_] [7] ?_ ?_ ?_ rfl ?_ ?_ ?_ ?_ | refine WkL.pickAt [_] [8] ?_ ?_ ?_ rfl ?_ ?_ ?_ ?_) <;> exact cLs)
  ·refine gO1 hlt ?_
   refine Next.mk L oMg ?_
   have e2 := WkL.frzGr2 (A := H ++ [.row 9 1 [[.str e]] true]) (n := H.length + 1) (ty := 5) (sz := 1) (l := L.map encU) (HOk.app hH (okN_pure rfl rfl _)) sMp (pureL_U L)
   rw [grV_map, List.length_append, List.append_assoc] at e2
   refine gO ?_
   exact e2
 refine SWp.of kRf ?_
 refine gO ?_
 rw [unbyte_mapR]
 refine gO ?_
 exact Ret.drop hH lRf trivial (hk _ (by show L.toArray.size = _; simpa using hL))
end Go.Proofs.YtagoolooikpabaaGreatDoor
