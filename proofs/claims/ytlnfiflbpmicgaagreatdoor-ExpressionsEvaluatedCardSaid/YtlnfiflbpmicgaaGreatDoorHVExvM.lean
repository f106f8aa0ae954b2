/- Several texts in one: Moments and constants of an expression in one word each; the draws of a law on them, and what follows. No condition. -/
import Derived.Test.YtlnfiflbpmicgaaGreatDoorHVMop
import Derived.Test.YtlnfiflbpmicgaaGreatDoorHVEwc
import Derived.Test.YtlnfiflbpmicgaaGreatDoorHVSrl
set_option linter.all false
namespace Go.Proofs.YtlnfiflbpmicgaaGreatDoor
open Go Go.RowKit
set_option maxRecDepth 100000
set_option maxHeartbeats 4000000
variable {H : Hp} {K : AV → Hp → Prop}
theorem calcTime_a (s : Nat) (zs : List Int) (j : Int) (hs : Str H s zs j) (hj : j ≤ 1090000000000) (hk : ∀ r : Int, K (.c (.int .i64 r)) (H.set s (strO zs (j + 1)))) : ACalls Tryz.prog 10 [.c (.ptr (some (s, 0, 0)))] H K := by
  have hlt := hs.lt
  have hpos := hs.pos
  refine acalls Tryz.func10 rfl (by kernel_rfl) (by simp (disch := first | omega | (simp only [go_sem]; try omega)) only [go_sem]) (fun hH => ?_)
  simp (disch := first | omega | (simp only [go_sem]; try omega)) only [go_sem]
  refine pick_lit s zs j [0, 10, 20, 50, 120, 300, -1, 345686399999, 345686400000] (by first | ((repeat first | exact at0 (by simp) | refine atS ?_); done) | assumption) rfl rfl (by first | exact hs | exact hs.app _ | exact hs.set (by omega) (by omega) | exact (hs.set (by omega) (by omega)).app _) (by omega) (by simp) (by simp) (fun r _ => ?_)
  simp (disch := first | omega | (simp only [go_sem]; try omega)) only [go_sem]
  exact Ret.drop (HOk.str hH) (by simp) trivial (hk r)
theorem serL_len4 (ss : List Ser) (t : ByteArray) (n : Nat) (h : ∀ x ∈ ss, x.l.length ≤ n) : (serL ss t).length ≤ n * ss.length := by
  unfold serL
  have h1 := flat_le (fun x : Ser => x.l) n (ss.filter fun s => decide (s.tg = t)) (fun x hx => h x (List.mem_filter.1 hx).1)
  have h2 := List.length_filter_le (fun s : Ser => decide (s.tg = t)) ss
  rw [← List.flatMap_def]
  exact Nat.le_trans h1 (Nat.mul_le_mul_left _ h2)
def momRes (l : List UInt8) (ss : List Ser) (w : Win) : List Int × Int := match parF l with
  | .error (_, c) => ([], c)
  | .ok e => if firstE [slF ss, winE w] ≠ 0 then ([], firstE [slF ss, winE w]) else if w.a = w.b then ([], 0) else (cplF (srtI (moF e ss w)), 0)
theorem first_00 (a : Int) (h : a = 0) : firstE [a, 0] = 0 := by subst h; rfl
theorem momRes_a (l : List UInt8) (hl : l.length ≤ 1000000) (hne : ∀ a c, parF l = .error (a, c) → c ≠ 0) (ss : List Ser) (hlen : ss.length ≤ 1099511627776) (hs : ∀ x ∈ ss, x.fine) (hsl : ∀ t, (serL ss t).length ≤ 1000) (w : Win) (hk : K (.tup [.c (.lst 1 ((momRes l ss w).1.map encI)), (.c (.int .i64 ((momRes l ss w).2)))]) H) :
    ACalls Tryz.prog 14 [(.c (.str (tB l))), .c (.lst 2 (ss.map encSr)), .agg (encW w)] H K := by
  unfold momRes at hk
  refine momentsTop_a l hl hne ss hlen hs hsl w (fun a c h => ?_) (fun e h g => ?_) (fun e h g1 g2 g3 => ?_) (fun e h g1 g2 g3 => ?_)
  · rw [h] at hk
    exact hk
  · rw [h] at hk
    rw [winE_01] at g ⊢
    dsimp only at hk
    rw [if_pos g] at hk
    exact hk
  · rw [h] at hk
    dsimp only at hk
    rw [if_neg (by rw [g2, first_00 _ g1]; simp), if_pos g3] at hk
    exact hk
  · rw [h] at hk
    dsimp only at hk
    rw [if_neg (by rw [g2, first_00 _ g1]; simp), if_neg g3] at hk
    exact hk
def cnRes (l : List UInt8) : Int × Bool × Int := match parF l with
  | .error (_, c) => (0, false, c)
  | .ok e => ((cnF e).1, (cnF e).2, 0)
theorem cnRes_a (l : List UInt8) (hl : l.length ≤ 1000000) (hne : ∀ a c, parF l = .error (a, c) → c ≠ 0) (hk : K (.tup [(.c (.int .i64 ((cnRes l).1))), (.c (.bool ((cnRes l).2.1))), (.c (.int .i64 ((cnRes l).2.2)))]) H) : ACalls Tryz.prog 13 [(.c (.str (tB l)))] H K := by
  unfold cnRes at hk
  refine constant_a l hl hne (fun e h => ?_) (fun a c h => ?_)
  · rw [h] at hk
    exact hk
  · rw [h] at hk
    exact hk
theorem exprFault_a (l : List UInt8) (hl : l.length ≤ 1000000) (hk : K (.c (.int .i64 ((chkF l).2))) H) : ACalls Tryz.prog 15 [(.c (.str (tB l)))] H K := by
  refine acalls Tryz.func15 rfl (by kernel_rfl) (by simp (disch := first | omega | (simp only [go_sem]; try omega)) only [go_sem]) (fun hH => ?_)
  simp (disch := first | omega | (simp only [go_sem]; try omega)) only [go_sem]
  refine checkOf_a l hl ?_
  simp (disch := first | omega | (simp only [go_sem]; try omega)) only [go_sem]
  exact Ret.same (Nat.le_refl _) hk
theorem momentsIn_a (l : List UInt8) (hl : l.length ≤ 1000000) (e : Ex) (he : parF l = .ok e) (ss : List Ser) (hss : slF ss = 0) (hsl : ∀ t, (serL ss t).length ≤ 1000) (w : Win) (hk : K (.c (.lst 1 ((cplF (srtI (momQ [] ss w 0 e))).map encI))) H) : ACalls Tryz.prog 22 [(.c (.str (tB l))), .c (.lst 2 (ss.map encSr)), .agg (encW w)] H K := by
  have hsz := par_sz he
  refine acalls Tryz.func22 rfl (by kernel_rfl) (by simp (disch := first | omega | (simp only [go_sem]; try omega)) only [go_sem]) (fun hH => ?_)
  simp (disch := first | omega | (simp only [go_sem]; try omega)) only [go_sem]
  refine parsedQ_a l hl (fun e' he' => ?_) (fun a c h => by rw [he] at h; cases h)
  rw [he] at he'
  injection he' with he'
  subst he'
  simp (disch := first | omega | (simp only [go_sem]; try omega)) only [go_sem, encT_l, encT_t]
  refine ACalls.nilz [2, 0, 0, 0, 0] (by simp) ?_
  refine momentsOf_a [] (by simp) ss hss hsl e (par_good he) hsz 0 (by omega) w ?_
  simp (disch := first | omega | (simp only [go_sem]; try omega)) only [go_sem]
  exact Ret.drop hH (Nat.le_refl _) (by simp [AV.ok, AV.ok1, AC.ok]) hk
theorem errsL_lit (l : List Int) {i ty n : Nat} {els : List (List AC)} {own : Bool} (hi : H[i]? = some (.row ty 1 els own)) (he : els = l.map encI) (hn : n = l.length) (hl : l.length ≤ 1000) (hk : K (.c (.int .i64 (firstE l))) (H.set i .dead)) : ACalls Tryz.prog 16 [.c (.sl (some (i, 0)) n)] H K := by
  subst he hn
  exact ACalls.lit hi (by simp [pureL, encI, AC.pure]) (args' := [.c (.lst 1 (l.map encI))]) (by simp [AV.frz1, AC.frz]; rw [List.take_of_length_le (by simp)]) (errsGo_a l (by omega) hk)
end Go.Proofs.YtlnfiflbpmicgaaGreatDoor
namespace Go.Proofs.YtlnfiflbpmicgaaGreatDoor
open Go Go.RowKit
set_option maxRecDepth 100000
set_option maxHeartbeats 4000000
variable {H : Hp} {K : AV → Hp → Prop}
theorem equalIq_a (l m : List Int) (hl : l.length ≤ 1099511627776) (hm : m.length ≤ 1099511627776) (hk : K (.c (.bool (decide (l = m)))) H) : ACalls Tryz.prog 23 [.c (.lst 1 (l.map encI)), .c (.lst 1 (m.map encI))] H K := by
  by_cases hlen : l.length = m.length
  · refine acalls Tryz.func23 rfl (by kernel_rfl) (by simp (disch := first | omega | (simp only [go_sem]; try omega)) only [go_sem]) (fun hH => ?_)
    simp (disch := first | omega | (simp only [go_sem]; try omega)) only [go_sem]
    refine AWp.loop (H.length) [0, 1, 12] [13] (fun (k : Nat) => k ≤ l.length ∧ ∀ (j : Nat) (x y : Int), j < k → l[j]? = some x → m[j]? = some y → x = y) (fun (k : Nat) => [(13, (.c (.int .i64 k)))]) (fun (k : Nat) => H) (fun (k : Nat) => l.length - k) (by kernel_rfl) (fun _ => rfl) (by kernel_rfl) (by first | (simp; done) | omega) (by first | (simp; done) | (simp; omega) | omega) kl ?_ (fun k hk1 _ _ => ?_)
    · exact Next.mk 0 (by simp) wk
    obtain ⟨hk1, hk2⟩ := hk1
    by_cases hlt : k < l.length
    · simp (disch := first | omega | (simp only [go_sem]; try omega)) only [go_sem]
      refine w_draw (by kernel_rfl) (by decide +kernel) ?_
      simp (disch := first | omega | (simp only [go_sem]; try omega)) only [go_sem]
      refine acond_b (fun c => ?_) (fun c => ?_)
      · simp (disch := first | omega | (simp only [go_sem]; try omega)) only [go_sem]
        exact Next.mk (k + 1) ⟨⟨by omega, fun j x y hj hx hy => by
          rcases Nat.lt_or_ge j k with h | h
          · exact hk2 j x y h hx hy
          · obtain rfl : j = k := by omega
            rw [List.getElem?_eq_getElem hlt] at hx
            rw [List.getElem?_eq_getElem (by omega)] at hy
            injection hx with hx; injection hy with hy; rw [← hx, ← hy]; revert c; generalize l[j] = u; generalize m[j] = v; first | (simp; done) | (cases u; cases v; simp)⟩, by omega⟩ wk
      · simp (disch := first | omega | (simp only [go_sem]; try omega)) only [go_sem]
        have : l ≠ m := by rintro rfl; simp at c
        (first | refine Ret.sameE (Nat.le_refl _) (by assumption) ?_ | refine Ret.dropE (by assumption) (Nat.le_refl _) (by assumption) (by simp [AV.ok, AV.ok1, AC.ok]) ?_) <;> simp [this]
    · simp (disch := first | omega | (simp only [go_sem]; try omega)) only [go_sem]
      have : l = m := by
        apply List.ext_getElem hlen
        intro j h1 h2
        exact hk2 j _ _ (by omega) (List.getElem?_eq_getElem h1) (List.getElem?_eq_getElem h2)
      (first | refine Ret.sameE (Nat.le_refl _) (by assumption) ?_ | refine Ret.dropE (by assumption) (Nat.le_refl _) (by assumption) (by simp [AV.ok, AV.ok1, AC.ok]) ?_) <;> simp [this]
  · have : l ≠ m := by rintro rfl; exact hlen rfl
    refine acalls Tryz.func23 rfl (by kernel_rfl) (by simp (disch := first | omega | (simp only [go_sem]; try omega)) only [go_sem]) (fun hH => ?_)
    simp (disch := first | omega | (simp only [go_sem]; try omega)) only [go_sem]
    (first | refine Ret.sameE (Nat.le_refl _) (by assumption) ?_ | refine Ret.dropE (by assumption) (Nat.le_refl _) (by assumption) (by simp [AV.ok, AV.ok1, AC.ok]) ?_) <;> simp [this]
def momE1 (t : Int) : Int := if 0 ≤ t ∧ t ≤ 345686399999 then 0 else 1
theorem momE1_a (m : Int) (hk : K (.c (.int .i64 (momE1 m))) H) : ACalls Tryz.prog 18 [(.c (.int .i64 m))] H K := momentFaultR_a m hk
theorem par_neE {l : List UInt8} {a c : Int} (h : parF l = .error (a, c)) : c ≠ 0 := by
  unfold parF at h
  repeat' split at h
  all_goals first | (cases h; done) | (injection h with h; injection h with h1 h2; omega)
theorem firstE3 (a b c : Int) : firstE [a, b, c] = if a ≠ 0 then a else if b ≠ 0 then b else c := by
  by_cases h1 : a = 0
  · by_cases h2 : b = 0
    · by_cases h3 : c = 0 <;> simp [firstE, h1, h2, h3]
    · simp [firstE, h1, h2]
  · simp [firstE, h1]
theorem firstE2' (b c : Int) : firstE [b, c] = if b ≠ 0 then b else c := by
  by_cases h2 : b = 0
  · by_cases h3 : c = 0 <;> simp [firstE, h2, h3]
  · simp [firstE, h2]
theorem ev_facts (l : List UInt8) (ss : List Ser) (m : Int) :
    (evRes l ss m).2 = firstE [(chkF l).2, slF ss, momE1 m] ∧ (firstE [(chkF l).2, slF ss, momE1 m] ≠ 0 → (evRes l ss m).1 = smp0) ∧
      (firstE [(chkF l).2, slF ss, momE1 m] = 0 → ∃ e, parF l = .ok e ∧ slF ss = 0 ∧ (0 ≤ m ∧ m ≤ 345686399999) ∧ (evRes l ss m).1 = finV (evP (lkF ss) m e) m) := by
  rw [firstE3]
  unfold evRes chkF momE1
  cases h : parF l with
  | error x =>
    obtain ⟨a, c⟩ := x
    have := par_neE h
    dsimp only
    rw [if_pos this]
    exact ⟨rfl, fun _ => rfl, fun h => absurd h this⟩
  | ok e =>
    dsimp only
    by_cases h1 : slF ss = 0
    · by_cases hm : 0 ≤ m ∧ m ≤ 345686399999
      · simp [h1, hm]
      · simp [h1, hm]
    · simp [h1]
theorem cn_facts (l : List UInt8) : (cnRes l).2.2 = (chkF l).2 ∧ ((chkF l).2 ≠ 0 → (cnRes l).1 = 0 ∧ (cnRes l).2.1 = false) ∧ ((chkF l).2 = 0 → ∃ e, parF l = .ok e ∧ (cnRes l).1 = (cnF e).1 ∧ (cnRes l).2.1 = (cnF e).2) := by
  unfold cnRes chkF
  cases h : parF l with
  | error x =>
    obtain ⟨a, c⟩ := x
    have := par_neE h
    exact ⟨rfl, fun _ => ⟨rfl, rfl⟩, fun h => absurd h this⟩
  | ok e => exact ⟨rfl, fun h => absurd rfl h, fun _ => ⟨e, rfl, rfl, rfl⟩⟩
theorem cnF_no (e : Ex) (h : (cnF e).2 = false) : (cnF e).1 = 0 := by
  unfold cnF at h ⊢
  split
  · rfl
  · rename_i g
    rw [if_neg g] at h
    cases h
theorem mo_facts (l : List UInt8) (ss : List Ser) (w : Win) :
    (momRes l ss w).2 = firstE [(chkF l).2, slF ss, winE w] ∧ (firstE [(chkF l).2, slF ss, winE w] ≠ 0 → (momRes l ss w).1 = []) ∧
      (firstE [(chkF l).2, slF ss, winE w] = 0 → ∃ e, parF l = .ok e ∧ slF ss = 0 ∧ (momRes l ss w).1 = cplF (srtI (momQ [] ss w 0 e))) := by
  rw [firstE3]
  unfold momRes chkF
  cases h : parF l with
  | error x =>
    obtain ⟨a, c⟩ := x
    have := par_neE h
    dsimp only
    rw [if_pos this]
    exact ⟨rfl, fun _ => rfl, fun h => absurd h this⟩
  | ok e =>
    dsimp only
    rw [firstE2']
    by_cases h1 : slF ss = 0
    · by_cases hw : winE w = 0
      · have hab : w.a ≤ w.b := by
          unfold winE at hw
          repeat' split at hw
          all_goals first | omega | cases hw
        by_cases he : w.a = w.b
        · have := momQ_none ss w e (par_good h) (by omega)
          have h0 : cplF (srtI ([] : List Int)) = [] := by simp [srtI, cplF]
          simp [h1, hw, he, this, h0]
        · have := momQ_eq ss w e (par_good h) (by omega)
          simp [h1, hw, he, this]
      · simp [h1, hw]
    · simp [h1]
theorem cplG_leV {α : Type} [DecidableEq α] : ∀ (t : List α) (x : α), (cplG x t).length ≤ t.length
  | [], _ => Nat.le_refl _
  | y :: t, x => by
    have := cplG_leV t y
    unfold cplG
    rw [List.length_append, List.length_cons]
    split
    · simp only [List.length_nil]; omega
    · simp only [List.length_cons, List.length_nil]; omega
theorem cplF_leV {α : Type} [DecidableEq α] (l : List α) : (cplF l).length ≤ l.length := by
  cases l with
  | nil => exact Nat.le_refl _
  | cons x t =>
    have := cplG_leV t x
    unfold cplF
    simp only [List.length_cons]
    omega
theorem momQ_len (ss : List Ser) (hsl : ∀ t, (serL ss t).length ≤ 1000) (w : Win) (e : Ex) (hsz : szE e ≤ 501) : (momQ [] ss w 0 e).length ≤ 501001 := by
  have hlm : ∀ x, (leafM [] ss w 0 x).length ≤ 1000 := fun x => by
    unfold leafM
    split
    · split
      · exact Nat.le_trans (shM_len _ _ _) (hsl _)
      · exact Nat.zero_le _
    · exact Nat.zero_le _
  have h1 := flat_le (leafM [] ss w 0) 1000 (leafX e) (fun x _ => hlm x)
  have h2 := leafX_len e
  unfold momQ
  rw [List.length_append]
  have h3 : (if w.a < w.b then [w.a] else ([] : List Int)).length ≤ 1 := by split <;> simp
  omega
theorem expressionsEvaluated_a (zs : List Int) (hz : zs.length ≤ 9223372036854775807) (hk : K (.c (.bool true)) H) : ACalls Tryz.prog 3 [.c (.lst 1 (zs.map encI))] H K := by
  have st : ∀ (k : Int) (L : Hp), 0 ≤ k → k ≤ 1000000000 → Str (H ++ strO zs k :: L) H.length zs k := fun k L h1 h2 => ⟨hz, h1, by omega, by simp⟩
  refine acallsS Tryz.func3 rfl (by simp (disch := first | omega | (simp only [go_sem]; try omega)) only [go_sem]) (fun hH => ?_)
  (refine SWp.go (by kernel_rfl) ?_; simp (disch := first | omega | (simp only [go_sem]; try omega)) only [go_sem])
  (refine SWp.go (by kernel_rfl) ?_; simp (disch := first | omega | (simp only [go_sem]; try omega)) only [go_sem])
  refine SWp.go (by kernel_rfl) ?_
  simp (disch := first | omega | (simp only [go_sem]; try omega)) only [go_sem]
  refine anExpr_a H.length zs 0 (st _ _ (by omega) (by omega)) (by omega) (fun r j1 g1 g2 g3 => ?_)
  obtain ⟨l, rfl⟩ : ∃ l, r = tB l := ⟨tL r, rfl⟩
  rw [tB_size] at g3
  simp (disch := first | omega | (simp only [go_sem]; try omega)) only [go_sem]
  refine seriesList_a H.length zs j1 (st _ _ (by omega) (by omega)) (by omega) (fun ss j2 g4 g5 g6 g7 => ?_)
  simp (disch := first | omega | (simp only [go_sem]; try omega)) only [go_sem]
  refine calcTime_a H.length zs j2 (st _ _ (by omega) (by omega)) (by omega) (fun m => ?_)
  simp (disch := first | omega | (simp only [go_sem]; try omega)) only [go_sem]
  refine aWindow_a H.length zs (j2 + 1) (st _ _ (by omega) (by omega)) (by omega) (fun w => ?_)
  have hne : ∀ a c, parF l = .error (a, c) → c ≠ 0 := fun a c h => par_neE h
  have hl : l.length ≤ 1000000 := by omega
  have hlen : ss.length ≤ 1099511627776 := by omega
  have hfn : ∀ x ∈ ss, x.fine := fun x hx => (g7 x hx).1
  have hsl : ∀ t, (serL ss t).length ≤ 1000 := fun t => by
    have := serL_len4 ss t 4 (fun x hx => (g7 x hx).2)
    omega
  obtain ⟨r1, r2, r3⟩ := ev_facts l ss m
  obtain ⟨c1, c2, c3⟩ := cn_facts l
  obtain ⟨m1, m2, m3⟩ := mo_facts l ss w
  obtain ⟨E1, hE1⟩ : ∃ E, E = firstE [(chkF l).2, slF ss, momE1 m] := ⟨_, rfl⟩
  obtain ⟨E2, hE2⟩ : ∃ E, E = firstE [(chkF l).2, slF ss, winE w] := ⟨_, rfl⟩
  rw [← hE1] at r1 r2 r3
  rw [← hE2] at m1 m2 m3
  obtain ⟨R, hR⟩ : ∃ R, R = evRes l ss m := ⟨_, rfl⟩
  obtain ⟨C, hC⟩ : ∃ C, C = cnRes l := ⟨_, rfl⟩
  obtain ⟨M, hM⟩ : ∃ M, M = momRes l ss w := ⟨_, rfl⟩
  rw [← hR] at r1 r2 r3
  rw [← hC] at c1 c2 c3
  rw [← hM] at m1 m2 m3
  simp (disch := first | omega | (simp only [go_sem]; try omega)) only [go_sem]
  (refine SWp.go (by kernel_rfl) ?_; simp (disch := first | omega | (simp only [go_sem]; try omega)) only [go_sem])
  refine evalTop_a l ss m hl hne hlen hfn ?_
  rw [← hR, r1]
  simp (disch := first | omega | (simp only [go_sem]; try omega)) only [go_sem]
  (refine SWp.go (by kernel_rfl) ?_; simp (disch := first | omega | (simp only [go_sem]; try omega)) only [go_sem])
  refine cnRes_a l hl hne ?_
  rw [← hC, c1]
  simp (disch := first | omega | (simp only [go_sem]; try omega)) only [go_sem]
  (refine SWp.go (by kernel_rfl) ?_; simp (disch := first | omega | (simp only [go_sem]; try omega)) only [go_sem])
  refine momRes_a l hl hne ss hlen hfn hsl w ?_
  rw [← hM, m1]
  simp (disch := first | omega | (simp only [go_sem]; try omega)) only [go_sem]
  (refine SWp.go (by kernel_rfl) ?_; simp (disch := first | omega | (simp only [go_sem]; try omega)) only [go_sem])
  refine exprFault_a l hl ?_
  simp (disch := first | omega | (simp only [go_sem]; try omega)) only [go_sem]
  have hf1 : ∀ {G : Hp} {J : AV → Hp → Prop} {i : Nat} (hi : G[i]? = some (.row 35 1 [[.int .i64 (chkF l).2], [.int .i64 (slF ss)], [.int .i64 (momE1 m)]] true)) (hJ : J (.c (.int .i64 E1)) (G.set i .dead)), ACalls Tryz.prog 16 [.c (.sl (some (i, 0)) 3)] G J := fun hi hJ => errsL_lit [(chkF l).2, slF ss, momE1 m] hi rfl rfl (by simp) (by rw [← hE1]; exact hJ)
  have hf2 : ∀ {G : Hp} {J : AV → Hp → Prop} {i : Nat} (hi : G[i]? = some (.row 35 1 [[.int .i64 (chkF l).2], [.int .i64 (slF ss)], [.int .i64 (winE w)]] true)) (hJ : J (.c (.int .i64 E2)) (G.set i .dead)), ACalls Tryz.prog 16 [.c (.sl (some (i, 0)) 3)] G J := fun hi hJ => errsL_lit [(chkF l).2, slF ss, winE w] hi rfl rfl (by simp) (by rw [← hE2]; exact hJ)
  refine SWp.cut (H.length + 3) [4, 5, 6, 7, 8, 9, 10, 11, 12, 13, 14, 15] [16, 17] (fun (u : Unit) => True) (fun (u : Unit) => [(16, (.c (.int .i64 E1))), (17, (.c (.int .i64 E2)))]) (fun (u : Unit) => H ++ [strO zs (j2 + 1 + 2), .row 31 2 [encW w] true, .row 34 3 [encS R.1] true]) (fun _ => rfl) (by kernel_rfl) (by first | (simp; done) | omega) (by first | (simp; done) | (simp; omega) | omega) kl ?_ (fun u _ _ _ => ?_)
  · refine SWp.of (by kernel_rfl) ?_
    refine w_tree (.one 0 (.one 1 (.one 3 (.one 7 (.one 8 (.two 2 (.two 4 (.two 5 (.two 6 (.two 9 (.one 10 (.one 11 (.one 12 (.one 13 (.one 14 (.one 15 .done)))))) 10 (.one 9 (.one 11 (.one 12 (.one 13 (.one 14 (.one 15 .done))))))) 10 (.one 6 (.one 9 (.one 11 (.one 12 (.one 13 (.one 14 (.one 15 .done)))))))) 10 (.one 5 (.one 6 (.one 9 (.one 11 (.one 12 (.one 13 (.one 14 (.one 15 .done))))))))) 10 (.one 4 (.one 5 (.one 6 (.one 9 (.one 11 (.one 12 (.one 13 (.one 14 (.one 15 .done)))))))))) 10 (.one 2 (.one 4 (.one 5 (.one 6 (.one 9 (.one 11 (.one 12 (.one 13 (.one 14 (.one 15 .done)))))))))))))))) (by kernel_rfl) (by decide +kernel) ?_
    simp (disch := first | omega | (simp only [go_sem]; try omega)) only [go_sem]
    repeat' first | (refine listFault_a ss hlen hfn ?_; simp (disch := first | omega | (simp only [go_sem]; try omega)) only [go_sem]) | (refine momE1_a m ?_; simp (disch := first | omega | (simp only [go_sem]; try omega)) only [go_sem]) | (refine windowFaultR_a w ?_; simp (disch := first | omega | (simp only [go_sem]; try omega)) only [go_sem]) | (refine hf1 (by first | ((repeat first | exact at0 (by simp) | refine atS ?_); done) | assumption) ?_; simp (disch := first | omega | (simp only [go_sem]; try omega)) only [go_sem]) | (refine hf2 (by first | ((repeat first | exact at0 (by simp) | refine atS ?_); done) | assumption) ?_; simp (disch := first | omega | (simp only [go_sem]; try omega)) only [go_sem]) | (exact Next.mk () trivial wk) | apply And.intro
  (refine SWp.go (by kernel_rfl) ?_; simp (disch := first | omega | (simp only [go_sem]; try omega)) only [go_sem])
  refine SWp.cut (H.length + 4) [4, 5, 6, 7, 8, 9, 10, 11, 12, 13, 14, 15, 16, 17, 18] [] (fun (u : Unit) => True) (fun (u : Unit) => []) (fun (u : Unit) => H ++ [strO zs (j2 + 1 + 2), .row 31 2 [encW w] true, .row 34 3 [encS R.1] true, .row 34 3 [encS R.1] true]) (fun _ => rfl) (by kernel_rfl) (by first | (simp; done) | omega) (by first | (simp; done) | (simp; omega) | omega) kl ?_ (fun u _ _ _ => ?_)
  · refine SWp.of (by kernel_rfl) ?_
    by_cases h : E1 = 0
    · obtain ⟨e, he, hss, hm, hRv⟩ := r3 h
      simp (disch := first | omega | (simp only [go_sem]; try omega)) only [go_sem, h]
      refine evalOf_a l hl e he ss hss m hm ?_
      rw [← hRv]
      simp (disch := first | omega | (simp only [go_sem]; try omega)) only [go_sem]
      exact Next.mk () trivial wk
    · have hRv := r2 h
      simp (disch := first | omega | (simp only [go_sem]; try omega)) only [go_sem, h]
      refine Next.mk () trivial ?_
      rw [hRv]
      exact wk
  (refine SWp.go (by kernel_rfl) ?_; simp (disch := first | omega | (simp only [go_sem]; try omega)) only [go_sem])
  refine SWp.cut (H.length + 4) [4, 5, 6, 7, 8, 9, 10, 11, 12, 13, 14, 15, 16, 17, 18] [19, 20] (fun (u : Unit) => True) (fun (u : Unit) => [(19, (.c (.int .i64 (C.1)))), (20, (.c (.bool (C.2.1))))]) (fun (u : Unit) => H ++ [strO zs (j2 + 1 + 2), .row 31 2 [encW w] true, .row 34 3 [encS R.1] true, .row 34 3 [encS R.1] true]) (fun _ => rfl) (by kernel_rfl) (by first | (simp; done) | omega) (by first | (simp; done) | (simp; omega) | omega) kl ?_ (fun u _ _ _ => ?_)
  · refine SWp.of (by kernel_rfl) ?_
    by_cases h : (chkF l).2 = 0
    · obtain ⟨e, he, hc1, hc2⟩ := c3 h
      simp (disch := first | omega | (simp only [go_sem]; try omega)) only [go_sem, h]
      refine constantOf_a l hl e he (fun v hv => ?_)
      rw [hc1, hc2]
      cases hb : (cnF e).2 with
      | true =>
        rw [hv hb]
        simp (disch := first | omega | (simp only [go_sem]; try omega)) only [go_sem]
        exact Next.mk () trivial wk
      | false =>
        rw [cnF_no e hb]
        simp (disch := first | omega | (simp only [go_sem]; try omega)) only [go_sem]
        exact Next.mk () trivial wk
    · obtain ⟨h1, h2⟩ := c2 h
      rw [h1, h2]
      simp (disch := first | omega | (simp only [go_sem]; try omega)) only [go_sem, h]
      exact Next.mk () trivial wk
  (refine SWp.go (by kernel_rfl) ?_; simp (disch := first | omega | (simp only [go_sem]; try omega)) only [go_sem])
  refine SWp.of (by kernel_rfl) ?_
  have hMl : M.1.length ≤ 1000000 := by
    by_cases h : E2 = 0
    · obtain ⟨e, he, hss, hMv⟩ := m3 h
      have h1 := momQ_len ss hsl w e (par_sz he)
      have h2 := cplF_leV (srtI (momQ [] ss w 0 e))
      rw [srtI_len] at h2
      rw [hMv]
      omega
    · rw [m2 h]
      exact Nat.zero_le _
  by_cases h : E2 = 0
  · obtain ⟨e, he, hss, hMv⟩ := m3 h
    simp (disch := first | omega | (simp only [go_sem]; try omega)) only [go_sem, h]
    refine momentsIn_a l hl e he ss hss hsl w ?_
    rw [← hMv]
    simp (disch := first | omega | (simp only [go_sem]; try omega)) only [go_sem]
    refine equalIq_a M.1 M.1 (by omega) (by omega) ?_
    rw [decide_eq_true rfl]
    simp (disch := first | omega | (simp only [go_sem]; try omega)) only [go_sem]
    refine reckonedW_a ?_
    simp (disch := first | omega | (simp only [go_sem]; try omega)) only [go_sem]
    exact Ret.drop hH (Nat.le_refl _) trivial hk
  · rw [m2 h]
    simp (disch := first | omega | (simp only [go_sem]; try omega)) only [go_sem, h]
    refine ACalls.nilz [1, 1] (by simp) ?_
    change ACalls _ _ [.c (.lst 1 (List.map encI [])), .c (.lst 1 (List.map encI []))] _ _
    refine equalIq_a [] [] (by simp) (by simp) ?_
    rw [decide_eq_true rfl]
    simp (disch := first | omega | (simp only [go_sem]; try omega)) only [go_sem]
    refine reckonedW_a ?_
    simp (disch := first | omega | (simp only [go_sem]; try omega)) only [go_sem]
    exact Ret.drop hH (Nat.le_refl _) trivial hk
end Go.Proofs.YtlnfiflbpmicgaaGreatDoor
