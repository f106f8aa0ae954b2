/- Expressions that are drawn: how long they are. No condition. -/
import Derived.Test.YtlnfiflbpmicgaaGreatDoorHVRep
import Derived.Test.YtlnfiflbpmicgaaGreatDoorHVSortS
set_option linter.all false
namespace Go.Proofs.YtlnfiflbpmicgaaGreatDoor
open Go Go.RowKit
set_option maxRecDepth 100000
set_option maxHeartbeats 4000000
variable {H : Hp} {K : AV → Hp → Prop}
theorem someS_a (s : Nat) (zs : List Int) (k : Int) (l : List ByteArray) (hs : Str H s zs k) (h0 : 0 < l.length) (h1 : l.length ≤ 1000)
    (hk : ∀ r : ByteArray, r ∈ l → K (.c (.str r)) (H.set s (strO zs (k + 1)))) : ACalls Tryz.prog 31 [.c (.ptr (some (s, 0, 0))), .c (.lst 1 (l.map encSs))] H K := by
  refine acalls Tryz.func31 rfl (by kernel_rfl) (by simp (disch := first | omega | (simp only [go_sem]; try omega)) only [go_sem]) (fun hH => ?_)
  simp (disch := first | omega | (simp only [go_sem]; try omega)) only [go_sem]
  repeat' (first | ((first | refine acond_d ?_ ?_ | refine acond_b ?_ ?_ | refine ag_d ?_ ?_ | refine ag_n ?_ ?_ | refine ag_bt ?_ ?_ | refine ag_bf ?_ ?_) <;> intro c <;> try simp (disch := first | omega | (simp only [go_sem]; try omega)) only [go_sem, c]) | ((first | refine w_draw (by kernel_rfl) (by decide +kernel) ?_ | refine next_a s _ _ _ hs (by omega) (by omega) (fun r _ _ => ?_)) <;> try simp (disch := first | omega | (simp only [go_sem]; try omega)) only [go_sem]))
  exact Ret.same (by simp) (hk _ (List.getElem_mem _))
theorem someS_lit (s : Nat) (zs : List Int) (k : Int) (l : List ByteArray) {i ty n : Nat} {els : List (List AC)} {own : Bool} (hi : H[i]? = some (.row ty 1 els own)) (he : els = l.map encSs) (hn : n = l.length) (hs : Str H s zs k) (hne : i ≠ s) (h0 : 0 < l.length) (h1 : l.length ≤ 1000)
    (hk : ∀ r : ByteArray, r ∈ l → K (.c (.str r)) ((H.set i .dead).set s (strO zs (k + 1)))) : ACalls Tryz.prog 31 [.c (.ptr (some (s, 0, 0))), .c (.sl (some (i, 0)) n)] H K := by
  subst he hn
  refine ACalls.lit hi (by simp [pureL, encSs, AC.pure]) (args' := [.c (.ptr (some (s, 0, 0))), .c (.lst 1 (l.map encSs))]) ?_ (someS_a s zs k l ⟨hs.1, hs.2.1, hs.2.2.1, ?_⟩ h0 h1 hk)
  · simp [AV.frz1, AC.frz]
    rw [List.take_of_length_le (by simp)]
  · rw [List.getElem?_set_ne hne]; exact hs.2.2.2
def eB : Nat → Nat
  | 0 => 5
  | d + 1 => 3 * eB d + 7
def eJ : Nat → Int
  | 0 => 1
  | d + 1 => 3 * eJ d + 3
theorem eB_le {d : Nat} (h : d ≤ 3) : 5 ≤ eB d ∧ eB d ≤ 1000 := by
  match d, h with
  | 0, _ => decide
  | 1, _ => decide
  | 2, _ => decide
  | 3, _ => decide
theorem eJ_le {d : Nat} (h : d ≤ 3) : 0 ≤ eJ d ∧ eJ d ≤ 100 := by
  match d, h with
  | 0, _ => decide
  | 1, _ => decide
  | 2, _ => decide
  | 3, _ => decide
def DrE (f : FuncId) (args : List AV) (s : Nat) (zs : List Int) (j : Int) (d : Nat) (H : Hp) (K : AV → Hp → Prop) : Prop :=
  (∀ (r : ByteArray) (j' : Int), j ≤ j' → j' ≤ j + eJ d → r.size ≤ eB d → K (.c (.str r)) (H.set s (strO zs j'))) → ACalls Tryz.prog f args H K
theorem exprIn_a (s : Nat) (zs : List Int) (j : Int) (d : Nat) (hd : d ≤ 2) {p q : Nat} (hp : H[p]? = some (.row 23 1 [[.ptr (some (s, 0, 0))]] true)) (hq : H[q]? = some (.row 3 1 [[.int .i64 (d + 1 : Nat)]] true))
    (ih : ∀ K, DrE 25 [.c (.ptr (some (s, 0, 0))), (.c (.int .i64 d))] s zs j d H K) (hk : ∀ (r : ByteArray) (j' : Int), j ≤ j' → j' ≤ j + eJ d → r.size ≤ eB d → K (.c (.str r)) (H.set s (strO zs j'))) :
    ACalls Tryz.prog 89 [.c (.ptr (some (p, 0, 0))), .c (.ptr (some (q, 0, 0)))] H K := by
  refine acalls Tryz.func89 rfl (by kernel_rfl) (by simp (disch := first | omega | (simp only [go_sem]; try omega)) only [go_sem]) (fun hH => ?_)
  simp (disch := first | omega | (simp only [go_sem]; try omega)) only [go_sem, hp, hq]
  rw [show ((d + 1 : Nat) : Int) - 1 = (d : Int) by omega]
  refine ih _ (fun r j' h1 h2 h3 => ?_)
  simp (disch := first | omega | (simp only [go_sem]; try omega)) only [go_sem]
  exact Ret.same (by simp) (hk r j' h1 h2 h3)
theorem dzM (a : Array UInt8) : (ByteArray.mk a).size = a.size := rfl
theorem dzL {n : Nat} {r : ByteArray} {l : List ByteArray} (h : r ∈ l) (hl : l.all (fun x => decide (x.size ≤ n)) = true) : r.size ≤ n := of_decide_eq_true (List.all_eq_true.1 hl r h)
theorem expr_a : ∀ (d : Nat), d ≤ 3 → ∀ {H : Hp} (K : AV → Hp → Prop) (s : Nat) (zs : List Int) (j : Int), Str H s zs j → j + 1000 * (d : Int) ≤ 1091000000000 → DrE 25 [.c (.ptr (some (s, 0, 0))), (.c (.int .i64 d))] s zs j d H K
  | 0, _, H, K, s, zs, j, hs, hj => by
    intro hk
    have hlt := hs.lt
    have hpos := hs.pos
    refine acalls Tryz.func25 rfl (by kernel_rfl) (by simp (disch := first | omega | (simp only [go_sem]; try omega)) only [go_sem]) (fun hH => ?_)
    simp (disch := first | omega | (simp only [go_sem]; try omega)) only [go_sem]
    refine someS_lit s zs j [⟨#[97]⟩, ⟨#[98]⟩, ⟨#[99]⟩, ⟨#[120]⟩, ⟨#[49]⟩, ⟨#[48]⟩, ⟨#[55]⟩, ⟨#[97, 64, 49, 48]⟩, ⟨#[98, 64, 53]⟩, ⟨#[49, 50]⟩, ⟨#[121]⟩, ⟨#[120, 64, 51]⟩] (by first | ((repeat first | exact at0 (by simp) | refine atS ?_); done) | assumption) rfl rfl (by first | exact hs | exact hs.app _ | exact hs.set (by omega) (by omega) | exact (hs.set (by omega) (by omega)).app _) (by omega) (by simp) (by simp) (fun r hr => ?_)
    have hrs : r.size ≤ 5 := by
      simp only [List.mem_cons, List.not_mem_nil, or_false] at hr
      rcases hr with rfl | rfl | rfl | rfl | rfl | rfl | rfl | rfl | rfl | rfl | rfl | rfl <;> decide
    simp (disch := first | omega | (simp only [go_sem]; try omega)) only [go_sem]
    exact Ret.drop (HOk.str hH) (by simp) trivial (hk r _ (by omega) (by simp only [eJ]; omega) hrs)
  | d + 1, hd, H, K, s, zs, j, hs, hj => by
    intro hk
    have hlt := hs.lt
    have hpos := hs.pos
    have hb := eB_le (d := d) (by omega)
    have hJ := eJ_le (d := d) (by omega)
    have ih := @expr_a d (by omega)
    have hent : entersB Tryz.prog 89 = true := by kernel_rfl
    refine acalls Tryz.func25 rfl (by kernel_rfl) (by simp (disch := first | omega | (simp only [go_sem]; try omega)) only [go_sem]) (fun hH => ?_)
    simp (disch := first | omega | (simp only [go_sem]; try omega)) only [go_sem, hent]
    refine next_a s zs j 9 (by first | exact hs | exact hs.app _ | exact hs.set (by omega) (by omega) | exact (hs.set (by omega) (by omega)).app _) (by omega) (by omega) (fun q h1 h2 => ?_)
    have hcl : ∀ {J : AV → Hp → Prop} (j1 : Int) (G : Hp), 0 ≤ j1 → j1 + 1000 * (d : Int) ≤ 1091000000000 → (∀ (r : ByteArray) (j' : Int), j1 ≤ j' → j' ≤ j1 + eJ d → r.size ≤ eB d → J (.c (.str r)) (H.set s (strO zs j') ++ (.row 23 1 [[.ptr (some (s, 0, 0))]] true :: .row 3 1 [[.int .i64 (d + 1 : Nat)]] true :: G))) → ACalls Tryz.prog 89 [.c (.ptr (some (H.length, 0, 0))), .c (.ptr (some (H.length + 1, 0, 0)))] (H.set s (strO zs j1) ++ (.row 23 1 [[.ptr (some (s, 0, 0))]] true :: .row 3 1 [[.int .i64 (d + 1 : Nat)]] true :: G)) J := by
      intro J j1 G g0 g1 hJ
      have hst : Str (H.set s (strO zs j1) ++ (.row 23 1 [[.ptr (some (s, 0, 0))]] true :: .row 3 1 [[.int .i64 (d + 1 : Nat)]] true :: G)) s zs j1 := (hs.set g0 (by omega)).app _
      refine exprIn_a s zs j1 d (by omega) (by rw [List.getElem?_append_right (by simp)]; simp) (by rw [List.getElem?_append_right (by simp)]; simp) (fun K => ih K s zs j1 hst (by omega)) (fun r j' h1 h2 h3 => ?_)
      rw [List.set_append_left _ _ (by simpa using hlt), List.set_set]
      exact hJ r j' h1 h2 h3
    have hq : q = 0 ∨ q = 1 ∨ q = 2 ∨ q = 3 ∨ q = 4 ∨ q = 5 ∨ q = 6 ∨ q = 7 ∨ q = 8 := by omega
    rcases hq with rfl | rfl | rfl | rfl | rfl | rfl | rfl | rfl | rfl
    · simp (disch := first | omega | (simp only [go_sem]; try omega)) only [go_sem, hent]
      refine w_tree (.one 0 (.one 6 (.three 1 (.one 2 (.one 3 (.one 4 (.one 5 (.one 7 (.one 8 (.one 9 .done))))))) 2 (.two 1 (.one 3 (.one 4 (.one 5 (.one 7 (.one 8 (.one 9 .done)))))) 3 (.one 1 (.one 4 (.one 5 (.one 7 (.one 8 (.one 9 .done))))))) 3 (.two 1 (.one 2 (.one 4 (.one 5 (.one 7 (.one 8 (.one 9 .done)))))) 2 (.one 1 (.one 4 (.one 5 (.one 7 (.one 8 (.one 9 .done)))))))))) (by kernel_rfl) (by decide +kernel) ?_
      simp (disch := first | omega | (simp only [go_sem]; try omega)) only [go_sem, hent]
      repeat' first | (refine hcl _ _ (by omega) (by omega) (fun r j1 g1 g2 g3 => ?_); simp (disch := first | omega | (simp only [go_sem]; try omega)) only [go_sem, hent]) | (refine someS_lit s zs _ [⟨#[43]⟩, ⟨#[32, 45, 32]⟩, ⟨#[32, 43, 32]⟩, ⟨#[45]⟩] (by first | ((repeat first | exact at0 (by simp) | refine atS ?_); done) | assumption) rfl rfl (by first | exact hs | exact hs.app _ | exact hs.set (by omega) (by omega) | exact (hs.set (by omega) (by omega)).app _) (by omega) (by simp) (by simp) (fun r hr => ?_); have hz := dzL (n := 5) hr (by decide); simp (disch := first | omega | (simp only [go_sem]; try omega)) only [go_sem, hent]) | (refine ⟨by first | omega | (simp only [ByteArray.size_append, dzM, List.size_toArray, List.length_cons, List.length_nil, eB]; omega), ?_⟩; simp (disch := first | omega | (simp only [go_sem]; try omega)) only [go_sem, hent]) | (exact Ret.drop (HOk.str hH) (by simp) trivial (hk _ _ (by omega) (by simp only [eJ]; omega) (by first | omega | (simp only [ByteArray.size_append, dzM, List.size_toArray, List.length_cons, List.length_nil, eB]; omega)))) | apply And.intro
    · simp (disch := first | omega | (simp only [go_sem]; try omega)) only [go_sem, hent]
      refine w_tree (.one 0 (.one 6 (.three 1 (.one 2 (.one 3 (.one 4 (.one 5 (.one 7 (.one 8 (.one 9 .done))))))) 2 (.two 1 (.one 3 (.one 4 (.one 5 (.one 7 (.one 8 (.one 9 .done)))))) 3 (.one 1 (.one 4 (.one 5 (.one 7 (.one 8 (.one 9 .done))))))) 3 (.two 1 (.one 2 (.one 4 (.one 5 (.one 7 (.one 8 (.one 9 .done)))))) 2 (.one 1 (.one 4 (.one 5 (.one 7 (.one 8 (.one 9 .done)))))))))) (by kernel_rfl) (by decide +kernel) ?_
      simp (disch := first | omega | (simp only [go_sem]; try omega)) only [go_sem, hent]
      repeat' first | (refine hcl _ _ (by omega) (by omega) (fun r j1 g1 g2 g3 => ?_); simp (disch := first | omega | (simp only [go_sem]; try omega)) only [go_sem, hent]) | (refine someS_lit s zs _ [⟨#[42]⟩, ⟨#[47]⟩, ⟨#[32, 42, 32]⟩] (by first | ((repeat first | exact at0 (by simp) | refine atS ?_); done) | assumption) rfl rfl (by first | exact hs | exact hs.app _ | exact hs.set (by omega) (by omega) | exact (hs.set (by omega) (by omega)).app _) (by omega) (by simp) (by simp) (fun r hr => ?_); have hz := dzL (n := 5) hr (by decide); simp (disch := first | omega | (simp only [go_sem]; try omega)) only [go_sem, hent]) | (refine ⟨by first | omega | (simp only [ByteArray.size_append, dzM, List.size_toArray, List.length_cons, List.length_nil, eB]; omega), ?_⟩; simp (disch := first | omega | (simp only [go_sem]; try omega)) only [go_sem, hent]) | (exact Ret.drop (HOk.str hH) (by simp) trivial (hk _ _ (by omega) (by simp only [eJ]; omega) (by first | omega | (simp only [ByteArray.size_append, dzM, List.size_toArray, List.length_cons, List.length_nil, eB]; omega)))) | apply And.intro
    · simp (disch := first | omega | (simp only [go_sem]; try omega)) only [go_sem, hent]
      repeat' first | (refine hcl _ _ (by omega) (by omega) (fun r j1 g1 g2 g3 => ?_); simp (disch := first | omega | (simp only [go_sem]; try omega)) only [go_sem, hent]) | (refine ⟨by first | omega | (simp only [ByteArray.size_append, dzM, List.size_toArray, List.length_cons, List.length_nil, eB]; omega), ?_⟩; simp (disch := first | omega | (simp only [go_sem]; try omega)) only [go_sem, hent]) | (exact Ret.drop (HOk.str hH) (by simp) trivial (hk _ _ (by omega) (by simp only [eJ]; omega) (by first | omega | (simp only [ByteArray.size_append, dzM, List.size_toArray, List.length_cons, List.length_nil, eB]; omega)))) | apply And.intro
    · simp (disch := first | omega | (simp only [go_sem]; try omega)) only [go_sem, hent]
      repeat' first | (refine hcl _ _ (by omega) (by omega) (fun r j1 g1 g2 g3 => ?_); simp (disch := first | omega | (simp only [go_sem]; try omega)) only [go_sem, hent]) | (refine ⟨by first | omega | (simp only [ByteArray.size_append, dzM, List.size_toArray, List.length_cons, List.length_nil, eB]; omega), ?_⟩; simp (disch := first | omega | (simp only [go_sem]; try omega)) only [go_sem, hent]) | (exact Ret.drop (HOk.str hH) (by simp) trivial (hk _ _ (by omega) (by simp only [eJ]; omega) (by first | omega | (simp only [ByteArray.size_append, dzM, List.size_toArray, List.length_cons, List.length_nil, eB]; omega)))) | apply And.intro
    · simp (disch := first | omega | (simp only [go_sem]; try omega)) only [go_sem, hent]
      repeat' first | (refine hcl _ _ (by omega) (by omega) (fun r j1 g1 g2 g3 => ?_); simp (disch := first | omega | (simp only [go_sem]; try omega)) only [go_sem, hent]) | (refine someS_lit s zs _ [⟨#[109, 105, 110]⟩, ⟨#[109, 97, 120]⟩] (by first | ((repeat first | exact at0 (by simp) | refine atS ?_); done) | assumption) rfl rfl (by first | exact hs | exact hs.app _ | exact hs.set (by omega) (by omega) | exact (hs.set (by omega) (by omega)).app _) (by omega) (by simp) (by simp) (fun r hr => ?_); have hz := dzL (n := 5) hr (by decide); simp (disch := first | omega | (simp only [go_sem]; try omega)) only [go_sem, hent]) | (refine ⟨by first | omega | (simp only [ByteArray.size_append, dzM, List.size_toArray, List.length_cons, List.length_nil, eB]; omega), ?_⟩; simp (disch := first | omega | (simp only [go_sem]; try omega)) only [go_sem, hent]) | (exact Ret.drop (HOk.str hH) (by simp) trivial (hk _ _ (by omega) (by simp only [eJ]; omega) (by first | omega | (simp only [ByteArray.size_append, dzM, List.size_toArray, List.length_cons, List.length_nil, eB]; omega)))) | apply And.intro
    · simp (disch := first | omega | (simp only [go_sem]; try omega)) only [go_sem, hent]
      repeat' first | (refine hcl _ _ (by omega) (by omega) (fun r j1 g1 g2 g3 => ?_); simp (disch := first | omega | (simp only [go_sem]; try omega)) only [go_sem, hent]) | (refine someS_lit s zs _ [⟨#[97, 98, 115]⟩, ⟨#[103, 111, 111, 100]⟩] (by first | ((repeat first | exact at0 (by simp) | refine atS ?_); done) | assumption) rfl rfl (by first | exact hs | exact hs.app _ | exact hs.set (by omega) (by omega) | exact (hs.set (by omega) (by omega)).app _) (by omega) (by simp) (by simp) (fun r hr => ?_); have hz := dzL (n := 5) hr (by decide); simp (disch := first | omega | (simp only [go_sem]; try omega)) only [go_sem, hent]) | (refine ⟨by first | omega | (simp only [ByteArray.size_append, dzM, List.size_toArray, List.length_cons, List.length_nil, eB]; omega), ?_⟩; simp (disch := first | omega | (simp only [go_sem]; try omega)) only [go_sem, hent]) | (exact Ret.drop (HOk.str hH) (by simp) trivial (hk _ _ (by omega) (by simp only [eJ]; omega) (by first | omega | (simp only [ByteArray.size_append, dzM, List.size_toArray, List.length_cons, List.length_nil, eB]; omega)))) | apply And.intro
    · simp (disch := first | omega | (simp only [go_sem]; try omega)) only [go_sem, hent]
      repeat' first | (refine hcl _ _ (by omega) (by omega) (fun r j1 g1 g2 g3 => ?_); simp (disch := first | omega | (simp only [go_sem]; try omega)) only [go_sem, hent]) | (refine ⟨by first | omega | (simp only [ByteArray.size_append, dzM, List.size_toArray, List.length_cons, List.length_nil, eB]; omega), ?_⟩; simp (disch := first | omega | (simp only [go_sem]; try omega)) only [go_sem, hent]) | (exact Ret.drop (HOk.str hH) (by simp) trivial (hk _ _ (by omega) (by simp only [eJ]; omega) (by first | omega | (simp only [ByteArray.size_append, dzM, List.size_toArray, List.length_cons, List.length_nil, eB]; omega)))) | apply And.intro
    · simp (disch := first | omega | (simp only [go_sem]; try omega)) only [go_sem, hent]
      refine w_tree (.one 0 (.one 9 (.three 1 (.one 2 (.one 3 (.one 4 (.one 5 (.one 6 (.one 7 (.one 8 (.one 10 (.one 11 (.one 12 (.one 13 .done))))))))))) 4 (.two 1 (.one 2 (.one 3 (.one 5 (.one 6 (.one 7 (.one 8 (.one 10 (.one 11 (.one 12 (.one 13 .done)))))))))) 5 (.one 1 (.one 2 (.one 3 (.one 6 (.one 7 (.one 8 (.one 10 (.one 11 (.one 12 (.one 13 .done))))))))))) 5 (.two 1 (.one 2 (.one 3 (.one 4 (.one 6 (.one 7 (.one 8 (.one 10 (.one 11 (.one 12 (.one 13 .done)))))))))) 4 (.one 1 (.one 2 (.one 3 (.one 6 (.one 7 (.one 8 (.one 10 (.one 11 (.one 12 (.one 13 .done)))))))))))))) (by kernel_rfl) (by decide +kernel) ?_
      simp (disch := first | omega | (simp only [go_sem]; try omega)) only [go_sem, hent]
      repeat' first | (refine hcl _ _ (by omega) (by omega) (fun r j1 g1 g2 g3 => ?_); simp (disch := first | omega | (simp only [go_sem]; try omega)) only [go_sem, hent]) | (refine someS_lit s zs _ [⟨#[60]⟩, ⟨#[61]⟩, ⟨#[32, 61, 32]⟩] (by first | ((repeat first | exact at0 (by simp) | refine atS ?_); done) | assumption) rfl rfl (by first | exact hs | exact hs.app _ | exact hs.set (by omega) (by omega) | exact (hs.set (by omega) (by omega)).app _) (by omega) (by simp) (by simp) (fun r hr => ?_); have hz := dzL (n := 5) hr (by decide); simp (disch := first | omega | (simp only [go_sem]; try omega)) only [go_sem, hent]) | (refine ⟨by first | omega | (simp only [ByteArray.size_append, dzM, List.size_toArray, List.length_cons, List.length_nil, eB]; omega), ?_⟩; simp (disch := first | omega | (simp only [go_sem]; try omega)) only [go_sem, hent]) | (exact Ret.drop (HOk.str hH) (by simp) trivial (hk _ _ (by omega) (by simp only [eJ]; omega) (by first | omega | (simp only [ByteArray.size_append, dzM, List.size_toArray, List.length_cons, List.length_nil, eB]; omega)))) | apply And.intro
    · simp (disch := first | omega | (simp only [go_sem]; try omega)) only [go_sem, hent]
      repeat' first | (refine hcl _ _ (by omega) (by omega) (fun r j1 g1 g2 g3 => ?_); simp (disch := first | omega | (simp only [go_sem]; try omega)) only [go_sem, hent]) | (refine ⟨by first | omega | (simp only [ByteArray.size_append, dzM, List.size_toArray, List.length_cons, List.length_nil, eB]; omega), ?_⟩; simp (disch := first | omega | (simp only [go_sem]; try omega)) only [go_sem, hent]) | (exact Ret.drop (HOk.str hH) (by simp) trivial (hk _ _ (by omega) (by simp only [eJ]; omega) (by first | omega | (simp only [ByteArray.size_append, dzM, List.size_toArray, List.length_cons, List.length_nil, eB]; omega)))) | apply And.intro
def wExp : ByteArray := ⟨#[32, 40, 41, 43, 45, 42, 47, 60, 61, 64, 44, 97, 98, 48, 49, 102, 105]⟩
theorem wExp_bd : ∀ i, i < 17 → 0 ≤ byteAt wExp i ∧ byteAt wExp i < 128 := by decide
theorem dzB {t1 t2 r : ByteArray} (h1 : t1.size = 41) (h2 : t2.size = 40) (hr : r ∈ ([⟨#[]⟩, ⟨#[97, 60, 98, 60, 99]⟩, ⟨#[48, 49]⟩, ⟨#[97, 64]⟩, ⟨#[97, 64, 56, 54, 52, 48, 48, 48, 48, 48]⟩, ⟨#[97, 64, 56, 54, 52, 48, 48, 48, 48, 49]⟩, ⟨#[49, 50, 51, 52, 53, 54, 55, 56, 57, 48]⟩, ⟨#[109, 105, 110, 40, 97, 41]⟩, ⟨#[105, 102, 40, 97, 44, 98, 41]⟩, ⟨#[109, 97, 120]⟩, ⟨#[97, 32, 98]⟩, ⟨#[65]⟩, ⟨#[97, 46, 98]⟩, ⟨#[57, 57, 57, 57, 57, 57, 57, 57, 57, 42, 57, 57, 57, 57, 57, 57, 57, 57, 57, 42, 57, 57, 57, 57, 57, 57, 57, 57, 57, 42, 57, 57, 57, 57, 57, 57, 57, 57, 57]⟩, ⟨#[97, 45, 98, 45, 99]⟩, ⟨#[97, 45, 40, 98, 45, 99, 41]⟩, ⟨#[45, 45, 97]⟩, t1, t2] : List ByteArray)) : r.size ≤ 50 := by
  simp only [List.mem_cons, List.not_mem_nil, or_false] at hr
  rcases hr with rfl | rfl | rfl | rfl | rfl | rfl | rfl | rfl | rfl | rfl | rfl | rfl | rfl | rfl | rfl | rfl | rfl | rfl | rfl <;> first | decide | omega
theorem dz3 {t r : ByteArray} {n : Nat} (h1 : t.size ≤ n) (hn : 2 ≤ n) (hr : r ∈ ([⟨#[]⟩, t, ⟨#[32, 98]⟩] : List ByteArray)) : r.size ≤ n := by
  simp only [List.mem_cons, List.not_mem_nil, or_false] at hr
  rcases hr with rfl | rfl | rfl
  · exact Nat.zero_le _
  · exact h1
  · exact hn
theorem repOp_a (r : ByteArray) (n : Int) (hr : r ∈ ([⟨#[40]⟩, ⟨#[45]⟩] : List ByteArray)) (hn : n ∈ ([20, 21, 22] : List Int)) (hk : ∀ t : ByteArray, t.size ≤ 22 → K (.c (.str t)) H) : ACalls Tryz.prog 56 [(.c (.str r)), (.c (.int .i64 n))] H K := by
  simp only [List.mem_cons, List.not_mem_nil, or_false] at hr hn
  rcases hr with rfl | rfl
  · rcases hn with rfl | rfl | rfl
    · exact repOne_a ⟨#[40]⟩ 20 (by simp) (fun t ht => hk t (by rw [ht]; decide))
    · exact repOne_a ⟨#[40]⟩ 21 (by simp) (fun t ht => hk t (by rw [ht]; decide))
    · exact repOne_a ⟨#[40]⟩ 22 (by simp) (fun t ht => hk t (by rw [ht]; decide))
  · rcases hn with rfl | rfl | rfl
    · exact repDash_a 20 (by decide) (fun t ht => hk t (by rw [ht]; decide))
    · exact repDash_a 21 (by decide) (fun t ht => hk t (by rw [ht]; decide))
    · exact repDash_a 22 (by decide) (fun t ht => hk t (by rw [ht]; decide))
theorem repCl_a (n : Int) (hn : n ∈ ([20, 21, 22] : List Int)) (hk : ∀ t : ByteArray, t.size ≤ 22 → K (.c (.str t)) H) : ACalls Tryz.prog 56 [(.c (.str (⟨#[41]⟩))), (.c (.int .i64 n))] H K := by
  simp only [List.mem_cons, List.not_mem_nil, or_false] at hn
  rcases hn with rfl | rfl | rfl
  · exact repOne_a ⟨#[41]⟩ 20 (by simp) (fun t ht => hk t (by rw [ht]; decide))
  · exact repOne_a ⟨#[41]⟩ 21 (by simp) (fun t ht => hk t (by rw [ht]; decide))
  · exact repOne_a ⟨#[41]⟩ 22 (by simp) (fun t ht => hk t (by rw [ht]; decide))
theorem repAp_a (n : Int) (hn : 249 ≤ n ∧ n ≤ 250) (hk : ∀ t : ByteArray, t.size ≤ 500 → K (.c (.str t)) H) : ACalls Tryz.prog 56 [(.c (.str (⟨#[97, 43]⟩))), (.c (.int .i64 n))] H K := by
  have : n = 249 ∨ n = 250 := by omega
  rcases this with rfl | rfl
  · exact repOne_a ⟨#[97, 43]⟩ 249 (by simp) (fun t ht => hk t (by rw [ht]; decide))
  · exact repOne_a ⟨#[97, 43]⟩ 250 (by simp) (fun t ht => hk t (by rw [ht]; decide))
theorem anExpr_a (s : Nat) (zs : List Int) (j : Int) (hs : Str H s zs j) (hj : j ≤ 1090000000000) (hk : ∀ (r : ByteArray) (j' : Int), j ≤ j' → j' ≤ j + 200 → r.size ≤ 2000 → K (.c (.str r)) (H.set s (strO zs j'))) :
    ACalls Tryz.prog 8 [.c (.ptr (some (s, 0, 0)))] H K := by
  have hlt := hs.lt
  have hpos := hs.pos
  refine acalls Tryz.func8 rfl (by kernel_rfl) (by simp (disch := first | omega | (simp only [go_sem]; try omega)) only [go_sem]) (fun hH => ?_)
  simp (disch := first | omega | (simp only [go_sem]; try omega)) only [go_sem]
  refine range_a s zs j 0 3 (by first | exact hs | exact hs.app _ | exact hs.set (by omega) (by omega) | exact (hs.set (by omega) (by omega)).app _) (by omega) (by omega) (by omega) (fun d hd0 hd1 => ?_)
  obtain ⟨e, rfl⟩ : ∃ e : Nat, d = e := ⟨d.toNat, by omega⟩
  have he : e ≤ 3 := by omega
  have hb := eB_le he
  have hJ := eJ_le he
  simp (disch := first | omega | (simp only [go_sem]; try omega)) only [go_sem]
  refine expr_a e he _ s zs (j + 1) (by first | exact hs | exact hs.app _ | exact hs.set (by omega) (by omega) | exact (hs.set (by omega) (by omega)).app _) (by omega) (fun x j1 h1 h2 h3 => ?_)
  simp (disch := first | omega | (simp only [go_sem]; try omega)) only [go_sem]
  refine flip_a s zs j1 8 (by first | exact hs | exact hs.app _ | exact hs.set (by omega) (by omega) | exact (hs.set (by omega) (by omega)).app _) (by omega) (by omega) (fun b1 => ?_)
  all_goals cases b1 <;> simp (disch := first | omega | (simp only [go_sem]; try omega)) only [go_sem]
  all_goals repeat' first | (refine flip_a s zs _ _ (by first | exact hs | exact hs.app _ | exact hs.set (by omega) (by omega) | exact (hs.set (by omega) (by omega)).app _) (by omega) (by omega) (fun b => ?_); cases b <;> simp (disch := first | omega | (simp only [go_sem]; try omega)) only [go_sem]) | (refine changedG_a wExp 17 rfl (by omega) wExp_bd s zs _ x (by first | exact hs | exact hs.app _ | exact hs.set (by omega) (by omega) | exact (hs.set (by omega) (by omega)).app _) (by omega) (by omega) (fun x2 j3 g1 g2 g3 => ?_); simp (disch := first | omega | (simp only [go_sem]; try omega)) only [go_sem]) | (refine repOne_a ⟨#[97]⟩ 41 (by simp) (fun t1 ht1 => ?_); simp (disch := first | omega | (simp only [go_sem]; try omega)) only [go_sem]; refine repOne_a ⟨#[97]⟩ 40 (by simp) (fun t2 ht2 => ?_); simp (disch := first | omega | (simp only [go_sem]; try omega)) only [go_sem]; refine someS_lit s zs _ [⟨#[]⟩, ⟨#[97, 60, 98, 60, 99]⟩, ⟨#[48, 49]⟩, ⟨#[97, 64]⟩, ⟨#[97, 64, 56, 54, 52, 48, 48, 48, 48, 48]⟩, ⟨#[97, 64, 56, 54, 52, 48, 48, 48, 48, 49]⟩, ⟨#[49, 50, 51, 52, 53, 54, 55, 56, 57, 48]⟩, ⟨#[109, 105, 110, 40, 97, 41]⟩, ⟨#[105, 102, 40, 97, 44, 98, 41]⟩, ⟨#[109, 97, 120]⟩, ⟨#[97, 32, 98]⟩, ⟨#[65]⟩, ⟨#[97, 46, 98]⟩, ⟨#[57, 57, 57, 57, 57, 57, 57, 57, 57, 42, 57, 57, 57, 57, 57, 57, 57, 57, 57, 42, 57, 57, 57, 57, 57, 57, 57, 57, 57, 42, 57, 57, 57, 57, 57, 57, 57, 57, 57]⟩, ⟨#[97, 45, 98, 45, 99]⟩, ⟨#[97, 45, 40, 98, 45, 99, 41]⟩, ⟨#[45, 45, 97]⟩, t1, t2] (by first | ((repeat first | exact at0 (by simp) | refine atS ?_); done) | assumption) rfl rfl (by first | exact hs | exact hs.app _ | exact hs.set (by omega) (by omega) | exact (hs.set (by omega) (by omega)).app _) (by omega) (by simp) (by simp) (fun r hr => ?_); have hz := dzB ht1 ht2 hr; simp (disch := first | omega | (simp only [go_sem]; try omega)) only [go_sem]) | (refine pick_lit s zs _ [20, 21, 22] (by first | ((repeat first | exact at0 (by simp) | refine atS ?_); done) | assumption) rfl rfl (by first | exact hs | exact hs.app _ | exact hs.set (by omega) (by omega) | exact (hs.set (by omega) (by omega)).app _) (by omega) (by simp) (by simp) (fun n hn => ?_); simp (disch := first | omega | (simp only [go_sem]; try omega)) only [go_sem]; refine someS_lit s zs _ [⟨#[40]⟩, ⟨#[45]⟩] (by first | ((repeat first | exact at0 (by simp) | refine atS ?_); done) | assumption) rfl rfl (by first | exact hs | exact hs.app _ | exact hs.set (by omega) (by omega) | exact (hs.set (by omega) (by omega)).app _) (by omega) (by simp) (by simp) (fun r hr => ?_); simp (disch := first | omega | (simp only [go_sem]; try omega)) only [go_sem]; refine repOp_a r n hr hn (fun t1 ht1 => ?_); simp (disch := first | omega | (simp only [go_sem]; try omega)) only [go_sem]; refine ⟨by first | omega | (simp only [ByteArray.size_append, dzM, List.size_toArray, List.length_cons, List.length_nil, eB]; omega), ?_⟩; simp (disch := first | omega | (simp only [go_sem]; try omega)) only [go_sem]; refine repCl_a n hn (fun t2 ht2 => ?_); simp (disch := first | omega | (simp only [go_sem]; try omega)) only [go_sem]; refine someS_lit s zs _ [⟨#[]⟩, t2, ⟨#[32, 98]⟩] (by first | ((repeat first | exact at0 (by simp) | refine atS ?_); done) | assumption) rfl rfl (by first | exact hs | exact hs.app _ | exact hs.set (by omega) (by omega) | exact (hs.set (by omega) (by omega)).app _) (by omega) (by simp) (by simp) (fun r2 hr2 => ?_); have hz2 := dz3 ht2 (by decide) hr2; simp (disch := first | omega | (simp only [go_sem]; try omega)) only [go_sem]; refine ⟨by first | omega | (simp only [ByteArray.size_append, dzM, List.size_toArray, List.length_cons, List.length_nil, eB]; omega), ?_⟩; simp (disch := first | omega | (simp only [go_sem]; try omega)) only [go_sem]) | (refine range_a s zs _ 0 1 (by first | exact hs | exact hs.app _ | exact hs.set (by omega) (by omega) | exact (hs.set (by omega) (by omega)).app _) (by omega) (by omega) (by omega) (fun q hq0 hq1 => ?_); simp (disch := first | omega | (simp only [go_sem]; try omega)) only [go_sem]; refine repAp_a _ (by omega) (fun t1 ht1 => ?_); simp (disch := first | omega | (simp only [go_sem]; try omega)) only [go_sem]; refine someS_lit s zs _ [⟨#[97]⟩, ⟨#[97, 98]⟩, ⟨#[97, 45, 97]⟩] (by first | ((repeat first | exact at0 (by simp) | refine atS ?_); done) | assumption) rfl rfl (by first | exact hs | exact hs.app _ | exact hs.set (by omega) (by omega) | exact (hs.set (by omega) (by omega)).app _) (by omega) (by simp) (by simp) (fun r hr => ?_); have hz := dzL (n := 5) hr (by decide); simp (disch := first | omega | (simp only [go_sem]; try omega)) only [go_sem]) | (refine ⟨by first | omega | (simp only [ByteArray.size_append, dzM, List.size_toArray, List.length_cons, List.length_nil, eB]; omega), ?_⟩; simp (disch := first | omega | (simp only [go_sem]; try omega)) only [go_sem]) | (exact Ret.same (by simp) (hk _ _ (by omega) (by omega) (by first | omega | (simp only [ByteArray.size_append, dzM, List.size_toArray, List.length_cons, List.length_nil, eB]; omega)))) | (exact Ret.same (by simp) (hk _ _ (by omega) (by omega) (by omega))) | (exact Ret.drop (HOk.str hH) (by simp) trivial (hk _ _ (by omega) (by omega) (by first | omega | (simp only [ByteArray.size_append, dzM, List.size_toArray, List.length_cons, List.length_nil, eB]; omega))))
end Go.Proofs.YtlnfiflbpmicgaaGreatDoor
