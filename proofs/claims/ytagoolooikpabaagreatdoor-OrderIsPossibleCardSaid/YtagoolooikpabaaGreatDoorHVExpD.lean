/- Expressions that are drawn: how long they are. No condition. -/
import Derived.Test.YtagoolooikpabaaGreatDoorHVTxtB
import Derived.Test.YtagoolooikpabaaGreatDoorHVSortS
set_option linter.all false
namespace Go.Proofs.YtagoolooikpabaaGreatDoor
open Go Go.RowKit
set_option maxRecDepth 100000
set_option maxHeartbeats 4000000
variable {H : Hp} {K : AV → Hp → Prop}
theorem someS_a (s : Nat) (zs : List Int) (k : Int) (l : List ByteArray) (hs : Str H s zs k) (h0 : 0 < l.length) (h1 : l.length ≤ 1000)
  (hk : ∀ r : ByteArray, r ∈ l → K (.c (.str r)) (H.set s (strO zs (k + 1)))) : ACalls Tryz.prog 7 [.c (.ptr (some (s, 0, 0))), .c (.lst 1 (l.map encSs))] H K := by
 refine acalls Tryz.func7 rfl (by kernel_rfl) (by simp (disch := first | omega | (simp only [go_sem]; try omega)) only [go_sem]) (fun hH => ?_)
 simp (disch := first | omega | (simp only [go_sem]; try omega)) only [go_sem]
 repeat' (first | ((first | refine acond_d ?_ ?_ | refine acond_b ?_ ?_ | refine ag_d ?_ ?_ | refine ag_n ?_ ?_ | refine ag_bt ?_ ?_ | refine ag_bf ?_ ?_) <;> intro c <;> try simp (disch := first | omega | (simp only [go_sem]; try omega)) only [go_sem, c]) | ((first | refine w_draw (by kernel_rfl) (by decide +kernel) ?_ | refine next_a s _ _ _ hs (by omega) (by omega) (fun r _ _ => ?_)) <;> try simp (disch := first | omega | (simp only [go_sem]; try omega)) only [go_sem]))
 exact Ret.same (by simp) (hk _ (List.getElem_mem _))
theorem someS_lit (s : Nat) (zs : List Int) (k : Int) (l : List ByteArray) {i ty n : Nat} {els : List (List AC)} {own : Bool} (hi : H[i]? = some (.row ty 1 els own)) (he : els = l.map encSs) (hn : n = l.length) (hs : Str H s zs k) (hne : i ≠ s) (h0 : 0 < l.length) (h1 : l.length ≤ 1000)
  (hk : ∀ r : ByteArray, r ∈ l → K (.c (.str r)) ((H.set i .dead).set s (strO zs (k + 1)))) : ACalls Tryz.prog 7 [.c (.ptr (some (s, 0, 0))), .c (.sl (some (i, 0)) n)] H K := by
 subst he hn
 refine ACalls.lit hi (by simp [pureL, encSs, AC.pure]) (args' := [.c (.ptr (some (s, 0, 0))), .c (.lst 1 (l.map encSs))]) ?_ (someS_a s zs k l ⟨hs.1, hs.2.1, hs.2.2.1, ?_⟩ h0 h1 hk)
 ·simp [AV.frz1, AC.frz]
  rw [List.take_of_length_le (by simp)]
 ·rw [List.getElem?_set_ne hne]; exact hs.2.2.2
def eB : Nat → Nat
 | 0 => 5
 | d + 1 => 3 * eB d + 7
def eJ : Nat → Int
 | 0 => 1
 | d + 1 => 3 * eJ d + 3
theorem eB_le {d : Nat} (h : d ≤ 3) : 5 ≤ eB d ∧ eB d ≤ 1000 := by
 match d, h with
 | 0, _ => decide
 | 1, _ => decide
 | 2, _ => decide
 | 3, _ => decide
theorem eJ_le {d : Nat} (h : d ≤ 3) : 0 ≤ eJ d ∧ eJ d ≤ 100 := by
 match d, h with
 | 0, _ => decide
 | 1, _ => decide
 | 2, _ => decide
 | 3, _ => decide
def DrE (f : FuncId) (args : List AV) (s : Nat) (zs : List Int) (j : Int) (d : Nat) (H : Hp) (K : AV → Hp → Prop) : Prop :=
 (∀ (r : ByteArray) (j' : Int), j ≤ j' → j' ≤ j + eJ d → r.size ≤ eB d → K (.c (.str r)) (H.set s (strO zs j'))) → ACalls Tryz.prog f args H K
theorem exprIn_a (s : Nat) (zs : List Int) (j : Int) (d : Nat) (hd : d ≤ 2) {p q : Nat} (hp : H[p]? = some (.row 23 1 [[.ptr (some (s, 0, 0))]] true)) (hq : H[q]? = some (.row 3 1 [[.int .i64 (d + 1 : Nat)]] true))
  (ih : ∀ K, DrE 42 [.c (.ptr (some (s, 0, 0))), (.c (.int .i64 d))] s zs j d H K) (hk : ∀ (r : ByteArray) (j' : Int), j ≤ j' → j' ≤ j + eJ d → r.size ≤ eB d → K (.c (.str r)) (H.set s (strO zs j'))) :
  ACalls Tryz.prog 97 [.c (.ptr (some (p, 0, 0))), .c (.ptr (some (q, 0, 0)))] H K := by
 refine acalls Tryz.func97 rfl (by kernel_rfl) (by simp (disch := first | omega | (simp only [go_sem]; try omega)) only [go_sem]) (fun hH => ?_)
 simp (disch := first | omega | (simp only [go_sem]; try omega)) only [go_sem, hp, hq]
 rw [show ((d + 1 : Nat) : Int) - 1 = (d : Int) by omega]
 refine ih _ (fun r j' h1 h2 h3 => ?_)
 simp (disch := first | omega | (simp only [go_sem]; try omega)) only [go_sem]
 exact Ret.same (by simp) (hk r j' h1 h2 h3)
theorem dzM (a : Array UInt8) : (ByteArray.mk a).size = a.size := rfl
theorem dzL {n : Nat} {r : ByteArray} {l : List ByteArray} (h : r ∈ l) (hl : l.all (fun x => decide (x.size ≤ n)) = true) : r.size ≤ n := of_decide_eq_true (List.all_eq_true.1 hl r h)
theorem expr_a : ∀ (d : Nat), d ≤ 3 → ∀ {H : Hp} (K : AV → Hp → Prop) (s : Nat) (zs : List Int) (j : Int), Str H s zs j → j + 1000 * (d : Int) ≤ 1091000000000 → DrE 42 [.c (.ptr (some (s, 0, 0))), (.c (.int .i64 d))] s zs j d H K
 | 0, _, H, K, s, zs, j, hs, hj => by
  intro hk
  have hlt := hs.lt
  have hpos := hs.pos
  refine acalls Tryz.func42 rfl (by kernel_rfl) (by simp (disch := first | omega | (simp only [go_sem]; try omega)) only [go_sem]) (fun hH => ?_)
  simp (disch := first | omega | (simp only [go_sem]; try omega)) only [go_sem]
  refine someS_lit s zs j [⟨#[97]⟩, ⟨#[98]⟩, ⟨#[99]⟩, ⟨#[120]⟩, ⟨#[49]⟩, ⟨#[48]⟩, ⟨#[55]⟩, ⟨#[97, 64, 49, 48]⟩, ⟨#[98, 64, 53]⟩, ⟨#[49, 50]⟩, ⟨#[121]⟩, ⟨#[120, 64, 51]⟩] (by first | ((repeat first | exact at0 (by simp) | refine atS ?_); done) | assumption) rfl rfl (by first | exact hs | exact hs.app _ | exact hs.set (by omega) (by omega) | exact (hs.set (by omega) (by omega)).app _) (by omega) (by simp) (by simp) (fun r hr => ?_)
  have hrs : r.size ≤ 5 := by
   simp only [List.mem_cons, List.not_mem_nil, or_false] at hr
   rcases hr with rfl | rfl | rfl | rfl | rfl | rfl | rfl | rfl | rfl | rfl | rfl | rfl <;> decide
  simp (disch := first | omega | (simp only [go_sem]; try omega)) only [go_sem]
  exact Ret.drop (HOk.str hH) (by simp) trivial (hk r _ (by omega) (by simp only [eJ]; omega) hrs)
 | d + 1, hd, H, K, s, zs, j, hs, hj => by
  intro hk
  have hlt := hs.lt
  have hpos := hs.pos
  have hb := eB_le (d := d) (by omega)
  have hJ := eJ_le (d := d) (by omega)
  have ih := @expr_a d (by omega)
  have hent : entersB Tryz.prog 97 = true := by kernel_rfl
  refine acalls Tryz.func42 rfl (by kernel_rfl) (by simp (disch := first | omega | (simp only [go_sem]; try omega)) only [go_sem]) (fun hH => ?_)
  simp (disch := first | omega | (simp only [go_sem]; try omega)) only [go_sem, hent]
  refine next_a s zs j 9 (by first | exact hs | exact hs.app _ | exact hs.set (by omega) (by omega) | exact (hs.set (by omega) (by omega)).app _) (by omega) (by omega) (fun q h1 h2 => ?_)
  have hcl : ∀ {J : AV → Hp → Prop} (j1 : Int) (G : Hp), 0 ≤ j1 → j1 + 1000 * (d : Int) ≤ 1091000000000 → (∀ (r : ByteArray) (j' : Int), j1 ≤ j' → j' ≤ j1 + eJ d → r.size ≤ eB d → J (.c (.str r)) (H.set s (strO zs j') ++ (.row 23 1 [[.ptr (some (s, 0, 0))]] true :: .row 3 1 [[.int .i64 (d + 1 : Nat)]] true :: G))) → ACalls Tryz.prog 97 [.c (.ptr (some (H.length, 0, 0))), .c (.ptr (some (H.length + 1, 0, 0)))] (H.set s (strO zs j1) ++ (.row 23 1 [[.ptr (some (s, 0, 0))]] true :: .row 3 1 [[.int .i64 (d + 1 : Nat)]] true :: G)) J := by
   intro J j1 G g0 g1 hJ
   have hst : Str (H.set s (strO zs j1) ++ (.row 23 1 [[.ptr (some (s, 0, 0))]] true :: .row 3 1 [[.int .i64 (d + 1 : Nat)]] true :: G)) s zs j1 := (hs.set g0 (by omega)).app _
   refine exprIn_a s zs j1 d (by omega) (by rw [List.getElem?_append_right (by simp)]; simp) (by rw [List.getElem?_append_right (by simp)]; simp) (fun K => ih K s zs j1 hst (by omega)) (fun r j' h1 h2 h3 => ?_)
   rw [List.set_append_left _ _ (by simpa using hlt), List.set_set]
   exact hJ r j' h1 h2 h3
  have hq : q = 0 ∨ q = 1 ∨ q = 2 ∨ q = 3 ∨ q = 4 ∨ q = 5 ∨ q = 6 ∨ q = 7 ∨ q = 8 := by omega
  rcases hq with rfl | rfl | rfl | rfl | rfl | rfl | rfl | rfl | rfl
  ·simp (disch := first | omega | (simp only [go_sem]; try omega)) only [go_sem, hent]
   refine w_tree (.one 0 (.one 6 (.three 1 (.one 2 (.one 3 (.one 4 (.one 5 (.one 7 (.one 8 (.one 9 .done))))))) 2 (.two 1 (.one 3 (.one 4 (.one 5 (.one 7 (.one 8 (.one 9 .done)))))) 3 (.one 1 (.one 4 (.one 5 (.one 7 (.one 8 (.one 9 .done))))))) 3 (.two 1 (.one 2 (.one 4 (.one 5 (.one 7 (.one 8 (.one 9 .done)))))) 2 (.one 1 (.one 4 (.one 5 (.one 7 (.one 8 (.one 9 .done)))))))))) (by kernel_rfl) (by decide +kernel) ?_
   simp (disch := first | omega | (simp only [go_sem]; try omega)) only [go_sem, hent]
   repeat' first | (refine hcl _ _ (by omega) (by omega) (fun r j1 g1 g2 g3 => ?_); simp (disch := first | omega | (simp only [go_sem]; try omega)) only [go_sem, hent]) | (refine someS_lit s zs _ [⟨#[43]⟩, ⟨#[32, 45, 32]⟩, ⟨#[32, 43, 32]⟩, ⟨#[45]⟩] (by first | ((repeat first | exact at0 (by simp) | refine atS ?_); done) | assumption) rfl rfl (by first | exact hs | exact hs.app _ | exact hs.set (by omega) (by omega) | exact (hs.set (by omega) (by omega)).app _) (by omega) (by simp) (by simp) (fun r hr => ?_); have hz := dzL (n := 5) hr (by decide); simp (disch := first | omega | (simp only [go_sem]; try omega)) only [go_sem, hent]) | (refine ⟨by first | omega | (simp only [ByteArray.size_append, dzM, List.size_toArray, List.length_cons, List.length_nil, eB]; omega), ?_⟩; simp (disch := first | omega | (simp only [go_sem]; try omega)) only [go_sem, hent]) | (exact Ret.drop (HOk.str hH) (by simp) trivial (hk _ _ (by omega) (by simp only [eJ]; omega) (by first | omega | (simp only [ByteArray.size_append, dzM, List.size_toArray, List.length_cons, List.length_nil, eB]; omega)))) | apply And.intro
  ·simp (disch := first | omega | (simp only [go_sem]; try omega)) only [go_sem, hent]
   refine w_tree (.one 0 (.one 6 (.three 1 (.one 2 (.one 3 (.one 4 (.one 5 (.one 7 (.one 8 (.one 9 .done))))))) 2 (.two 1 (.one 3 (.one 4 (.one 5 (.one 7 (.one 8 (.one 9 .done)))))) 3 (.one 1 (.one 4 (.one 5 (.one 7 (.one 8 (.one 9 .done))))))) 3 (.two 1 (.one 2 (.one 4 (.one 5 (.one 7 (.one 8 (.one 9 .done)))))) 2 (.one 1 (.one 4 (.one 5 (.one 7 (.one 8 (.one 9 .done)))))))))) (by kernel_rfl) (by decide +kernel) ?_
   simp (disch := first | omega | (simp only [go_sem]; try omega)) only [go_sem, hent]
   repeat' first | (refine hcl _ _ (by omega) (by omega) (fun r j1 g1 g2 g3 => ?_); simp (disch := first | omega | (simp only [go_sem]; try omega)) only [go_sem, hent]) | (refine someS_lit s zs _ [⟨#[42]⟩, ⟨#[47]⟩, ⟨#[32, 42, 32]⟩] (by first | ((repeat first | exact at0 (by simp) | refine atS ?_); done) | assumption) rfl rfl (by first | exact hs | exact hs.app _ | exact hs.set (by omega) (by omega) | exact (hs.set (by omega) (by omega)).app _) (by omega) (by simp) (by simp) (fun r hr => ?_); have hz := dzL (n := 5) hr (by decide); simp (disch := first | omega | (simp only [go_sem]; try omega)) only [go_sem, hent]) | (refine ⟨by first | omega | (simp only [ByteArray.size_append, dzM, List.size_toArray, List.length_cons, List.length_nil, eB]; omega), ?_⟩; simp (disch := first | omega | (simp only [go_sem]; try omega)) only [go_sem, hent]) | (exact Ret.drop (HOk.str hH) (by simp) trivial (hk _ _ (by omega) (by simp only [eJ]; omega) (by first | omega | (simp only [ByteArray.size_append, dzM, List.size_toArray, List.length_cons, List.length_nil, eB]; omega)))) | apply And.intro
  ·simp (disch := first | omega | (simp only [go_sem]; try omega)) only [go_sem, hent]
   repeat' first | (refine hcl _ _ (by omega) (by omega) (fun r j1 g1 g2 g3 => ?_); simp (disch := first | omega | (simp only [go_sem]; try omega)) only [go_sem, hent]) | (refine ⟨by first | omega | (simp only [ByteArray.size_append, dzM, List.size_toArray, List.length_cons, List.length_nil, eB]; omega), ?_⟩; simp (disch := first | omega | (simp only [go_sem]; try omega)) only [go_sem, hent]) | (exact Ret.drop (HOk.str hH) (by simp) trivial (hk _ _ (by omega) (by simp only [eJ]; omega) (by first | omega | (simp only [ByteArray.size_append, dzM, List.size_toArray, List.length_cons, List.length_nil, eB]; omega)))) | apply And.intro
  ·simp (disch := first | omega | (simp only [go_sem]; try omega)) only [go_sem, hent]
   repeat' first | (refine hcl _ _ (by omega) (by omega) (fun r j1 g1 g2 g3 => ?_); simp (disch := first | omega | (simp only [go_sem]; try omega)) only [go_sem, hent]) | (refine ⟨by first | omega | (simp only [ByteArray.size_append, dzM, List.size_toArray, List.length_cons, List.length_nil, eB]; omega), ?_⟩; simp (disch := first | omega | (simp only [go_sem]; try omega)) only [go_sem, hent]) | (exact Ret.drop (HOk.str hH) (by simp) trivial (hk _ _ (by omega) (by simp only [eJ]; omega) (by first | omega | (simp only [ByteArray.size_append, dzM, List.size_toArray, List.length_cons, List.length_nil, eB]; omega)))) | apply And.intro
  ·simp (disch := first | omega | (simp only [go_sem]; try omega)) only [go_sem, hent]
   repeat' first | (refine hcl _ _ (by omega) (by omega) (fun r j1 g1 g2 g3 => ?_); simp (disch := first | omega | (simp only [go_sem]; try omega)) only [go_sem, hent]) | (refine someS_lit s zs _ [⟨#[109, 105, 110]⟩, ⟨#[109, 97, 120]⟩] (by first | ((repeat first | exact at0 (by simp) | refine atS ?_); done) | assumption) rfl rfl (by first | exact hs | exact hs.app _ | exact hs.set (by omega) (by omega) | exact (hs.set (by omega) (by omega)).app _) (by omega) (by simp) (by simp) (fun r hr => ?_); have hz := dzL (n := 5) hr (by decide); simp (disch := first | omega | (simp only [go_sem]; try omega)) only [go_sem, hent]) | (refine ⟨by first | omega | (simp only [ByteArray.size_append, dzM, List.size_toArray, List.length_cons, List.length_nil, eB]; omega), ?_⟩; simp (disch := first | omega | (simp only [go_sem]; try omega)) only [go_sem, hent]) | (exact Ret.drop (HOk.str hH) (by simp) trivial (hk _ _ (by omega) (by simp only [eJ]; omega) (by first | omega | (simp only [ByteArray.size_append, dzM, List.size_toArray, List.length_cons, List.length_nil, eB]; omega)))) | apply And.intro
  ·simp (disch := first | omega | (simp only [go_sem]; try omega)) only [go_sem, hent]
   repeat' first | (refine hcl _ _ (by omega) (by omega) (fun r j1 g1 g2 g3 => ?_); simp (disch := first | omega | (simp only [go_sem]; try omega)) only [go_sem, hent]) | (refine someS_lit s zs _ [⟨#[97, 98, 115]⟩, ⟨#[103, 111, 111, 100]⟩] (by first | ((repeat first | exact at0 (by simp) | refine atS ?_); done) | assumption) rfl rfl (by first | exact hs | exact hs.app _ | exact hs.set (by omega) (by omega) | exact (hs.set (by omega) (by omega)).app _) (by omega) (by simp) (by simp) (fun r hr => ?_); have hz := dzL (n := 5) hr (by decide); simp (disch := first | omega | (simp only [go_sem]; try omega)) only [go_sem, hent]) | (refine ⟨by first | omega | (simp only [ByteArray.size_append, dzM, List.size_toArray, List.length_cons, List.length_nil, eB]; omega), ?_⟩; simp (disch := first | omega | (simp only [go_sem]; try omega)) only [go_sem, hent]) | (exact Ret.drop (HOk.str hH) (by simp) trivial (hk _ _ (by omega) (by simp only [eJ]; omega) (by first | omega | (simp only [ByteArray.size_append, dzM, List.size_toArray, List.length_cons, List.length_nil, eB]; omega)))) | apply And.intro
  ·simp (disch := first | omega | (simp only [go_sem]; try omega)) only [go_sem, hent]
   repeat' first | (refine hcl _ _ (by omega) (by omega) (fun r j1 g1 g2 g3 => ?_); simp (disch := first | omega | (simp only [go_sem]; try omega)) only [go_sem, hent]) | (refine ⟨by first | omega | (simp only [ByteArray.size_append, dzM, List.size_toArray, List.length_cons, List.length_nil, eB]; omega), ?_⟩; simp (disch := first | omega | (simp only [go_sem]; try omega)) only [go_sem, hent]) | (exact Ret.drop (HOk.str hH) (by simp) trivial (hk _ _ (by omega) (by simp only [eJ]; omega) (by first | omega | (simp only [ByteArray.size_append, dzM, List.size_toArray, List.length_cons, List.length_nil, eB]; omega)))) | apply And.intro
  ·simp (disch := first | omega | (simp only [go_sem]; try omega)) only [go_sem, hent]
   refine w_tree (.one 0 (.one 9 (.three 1 (.one 2 (.one 3 (.one 4 (.one 5 (.one 6 (.one 7 (.one 8 (.one 10 (.one 11 (.one 12 (.one 13 .done))))))))))) 4 (.two 1 (.one 2 (.one 3 (.one 5 (.one 6 (.one 7 (.one 8 (.one 10 (.one 11 (.one 12 (.one 13 .done)))))))))) 5 (.one 1 (.one 2 (.one 3 (.one 6 (.one 7 (.one 8 (.one 10 (.one 11 (.one 12 (.one 13 .done))))))))))) 5 (.two 1 (.one 2 (.one 3 (.one 4 (.one 6 (.one 7 (.one 8 (.one 10 (.one 11 (.one 12 (.one 13 .done)))))))))) 4 (.one 1 (.one 2 (.one 3 (.one 6 (.one 7 (.one 8 (.one 10 (.one 11 (.one 12 (.one 13 .done)))))))))))))) (by kernel_rfl) (by decide +kernel) ?_
   simp (disch := first | omega | (simp only [go_sem]; try omega)) only [go_sem, hent]
   repeat' first | (refine hcl _ _ (by omega) (by omega) (fun r j1 g1 g2 g3 => ?_); simp (disch := first | omega | (simp only [go_sem]; try omega)) only [go_sem, hent]) | (refine someS_lit s zs _ [⟨#[60]⟩, ⟨#[61]⟩, ⟨#[32, 61, 32]⟩] (by first | ((repeat first | exact at0 (by simp) | refine atS ?_); done) | assumption) rfl rfl (by first | exact hs | exact hs.app _ | exact hs.set (by omega) (by omega) | exact (hs.set (by omega) (by omega)).app _) (by omega) (by simp) (by simp) (fun r hr => ?_); have hz := dzL (n := 5) hr (by decide); simp (disch := first | omega | (simp only [go_sem]; try omega)) only [go_sem, hent]) | (refine ⟨by first | omega | (simp only [ByteArray.size_append, dzM, List.size_toArray, List.length_cons, List.length_nil, eB]; omega), ?_⟩; simp (disch := first | omega | (simp only [go_sem]; try omega)) only [go_sem, hent]) | (exact Ret.drop (HOk.str hH) (by simp) trivial (hk _ _ (by omega) (by simp only [eJ]; omega) (by first | omega | (simp only [ByteArray.size_append, dzM, List.size_toArray, List.length_cons, List.length_nil, eB]; omega)))) | apply And.intro
  ·simp (disch := first | omega | (simp only [go_sem]; try omega)) only [go_sem, hent]
   repeat' first | (refine hcl _ _ (by omega) (by omega) (fun r j1 g1 g2 g3 => ?_); simp (disch := first | omega | (simp only [go_sem]; try omega)) only [go_sem, hent]) | (refine ⟨by first | omega | (simp only [ByteArray.size_append, dzM, List.size_toArray, List.length_cons, List.length_nil, eB]; omega), ?_⟩; simp (disch := first | omega | (simp only [go_sem]; try omega)) only [go_sem, hent]) | (exact Ret.drop (HOk.str hH) (by simp) trivial (hk _ _ (by omega) (by simp only [eJ]; omega) (by first | omega | (simp only [ByteArray.size_append, dzM, List.size_toArray, List.length_cons, List.length_nil, eB]; omega)))) | apply And.intro
end Go.Proofs.YtagoolooikpabaaGreatDoor
