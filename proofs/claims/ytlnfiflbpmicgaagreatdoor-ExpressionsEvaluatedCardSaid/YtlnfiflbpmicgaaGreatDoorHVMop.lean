/- Several texts in one: The moments at which an expression can change: expr, and what follows. No condition. -/
import Derived.Test.YtlnfiflbpmicgaaGreatDoorHVMom
set_option linter.all false
namespace Go.Proofs.YtlnfiflbpmicgaaGreatDoor
open Go Go.RowKit
set_option maxRecDepth 100000
set_option maxHeartbeats 4000000
variable {K : AV → Hp → Prop}
structure MoAt (H : Hp) (ss : List Ser) (w : Win) (i3 : Nat) (L : List Int) (X : Hp) (j : Nat) : Prop where
  pre : ∀ i, i < H.length → X[i]? = H[i]?
  ser : X[H.length]? = some (.row 27 1 [[.lst 2 (ss.map encSr)]] true)
  win : X[H.length + 1]? = some (.row 31 2 [[.int .i64 w.a, .int .i64 w.b]] true)
  out : X[i3]? = some (.row 22 1 [[grV j L]] true)
  row : X[j]? = some (grO 3 1 (L.map encI))
  p3 : H.length + 2 ≤ i3
  pj : H.length + 2 ≤ j
  ne : j ≠ i3
theorem MoAt.app {H X : Hp} {ss : List Ser} {w : Win} {i3 j : Nat} {L : List Int} (h : MoAt H ss w i3 L X j) (A : Hp) : MoAt H ss w i3 L (X ++ A) j := by
  have l1 := getElem?_lt h.ser
  have l2 := getElem?_lt h.win
  have l3 := getElem?_lt h.out
  have l4 := getElem?_lt h.row
  exact ⟨fun i hi => by rw [List.getElem?_append_left (by omega)]; exact h.pre i hi, by rw [List.getElem?_append_left l1]; exact h.ser, by rw [List.getElem?_append_left l2]; exact h.win, by rw [List.getElem?_append_left l3]; exact h.out, by rw [List.getElem?_append_left l4]; exact h.row, h.p3, h.pj, h.ne⟩
theorem MoAt.push {H X : Hp} {ss : List Ser} {w : Win} {i3 j : Nat} {L L2 : List Int} (h : MoAt H ss w i3 L X j) : MoAt H ss w i3 L2 ((X.set j .dead ++ [grO 3 1 (L2.map encI)]).set i3 (.row 22 1 [[grV X.length L2]] true)) X.length := by
  have l1 := getElem?_lt h.ser
  have l2 := getElem?_lt h.win
  have l3 := getElem?_lt h.out
  have l4 := getElem?_lt h.row
  have h3 := h.p3
  have hj := h.pj
  have key : ∀ i, i < H.length + 2 → ((X.set j .dead ++ [grO 3 1 (L2.map encI)]).set i3 (.row 22 1 [[grV X.length L2]] true))[i]? = X[i]? := fun i hi => by
    rw [List.getElem?_set_ne (by omega), List.getElem?_append_left (by simp; omega), List.getElem?_set_ne (by omega)]
  refine ⟨fun i hi => by rw [key i (by omega)]; exact h.pre i hi, by rw [key _ (by omega)]; exact h.ser, by rw [key _ (by omega)]; exact h.win, ?_, ?_, h3, by omega, by omega⟩
  · rw [List.getElem?_set_self (by simp; omega)]
  · rw [List.getElem?_set_ne (by omega), List.getElem?_append_right (by simp), List.length_set, Nat.sub_self]
    rfl
theorem momPush_a {H X : Hp} {ss : List Ser} (hss : slF ss = 0) {w : Win} {i3 j : Nat} {L : List Int} (hA : MoAt H ss w i3 L X j) (t : ByteArray) (v : Int) (hv : 0 ≤ v ∧ v ≤ 86400000) (hsl : (serL ss t).length ≤ 1000) (hL : L.length ≤ 1000000) (hk : ∀ X' j', MoAt H ss w i3 (L ++ shM w v (serL ss t)) X' j' → X.length ≤ X'.length → K (.tup []) X') :
    ACalls Tryz.prog 72 [(.c (.str t)), (.c (.int .i64 v)), .c (.ptr (some (H.length, 0, 0))), .c (.ptr (some (H.length + 1, 0, 0))), .c (.ptr (some (i3, 0, 0)))] X K := by
  have hser := hA.ser
  have l1 := getElem?_lt hA.win
  have l3 := getElem?_lt hA.out
  have hsm := smp_ok2 (serL_ok hss t)
  refine acalls Tryz.func72 rfl (by kernel_rfl) (by simp (disch := first | omega | (simp only [go_sem]; try omega)) only [go_sem]) (fun hH => ?_)
  simp (disch := first | omega | (simp only [go_sem]; try omega)) only [go_sem, hser]
  refine samplesE_a ss t hss ?_
  generalize serL ss t = l at *
  simp (disch := first | omega | (simp only [go_sem]; try omega)) only [go_sem]
  refine AWp.loop (X.length) [1, 3, 4, 11, 12] [13] (fun (q : Nat × Nat × Hp) => q.1 ≤ l.length ∧ MoAt H ss w i3 (L ++ shM w v (l.take q.1)) q.2.2 q.2.1 ∧ X.length ≤ q.2.2.length) (fun (q : Nat × Nat × Hp) => [(13, (.c (.int .i64 (q.1))))]) (fun (q : Nat × Nat × Hp) => q.2.2) (fun (q : Nat × Nat × Hp) => l.length - q.1) (by kernel_rfl) (fun _ => rfl) (by kernel_rfl) (by first | (simp; done) | omega) (by first | (simp; done) | (simp; omega) | omega) kl ?_ (fun q hq _ _ => ?_)
  · have e0 : shM w v (l.take 0) = [] := rfl
    refine Next.mk (0, j, X) ⟨by dsimp only; omega, ?_, Nat.le_refl _⟩ ?_
    · dsimp only
      rw [e0, List.append_nil]
      exact hA
    · exact wk
  · obtain ⟨i, j2, G⟩ := q
    obtain ⟨hi1, hB, hXl⟩ := hq
    dsimp only at hi1 hB hXl ⊢
    have hwin := hB.win
    have hout := hB.out
    have hrow := hB.row
    have g2 := getElem?_lt hwin
    have g3 := getElem?_lt hout
    have g4 := getElem?_lt hrow
    by_cases hlt : i < l.length
    · have htk : l.take (i + 1) = l.take i ++ [l[i]] := List.take_succ_eq_append_getElem hlt
      obtain ⟨z, hz⟩ : ∃ z, z = l[i] := ⟨_, rfl⟩
      have hzb := (hsm l[i] (List.getElem_mem hlt)).1
      rw [← hz] at htk hzb
      have hll : (shM w v (l.take i)).length ≤ 1000 := by
        refine Nat.le_trans (shM_len _ _ _) ?_
        rw [List.length_take]; omega
      simp (disch := first | omega | (simp only [go_sem]; try omega)) only [go_sem, hlt, ← hz, hwin]
      refine inW2_a w.a w.b (z.t + v) ?_
      by_cases hin : w.a ≤ z.t + v ∧ z.t + v < w.b
      · have e9 : L ++ shM w v (l.take (i + 1)) = L ++ shM w v (l.take i) ++ [z.t + v] := by rw [htk, shM_app, shM_one, if_pos hin, List.append_assoc]
        rw [decide_eq_true hin]
        simp (disch := first | omega | (simp only [go_sem]; try omega)) only [go_sem, hout]
        refine appIv _ (z.t + v) _ e9 (by rw [List.getElem?_append_left g4]; exact hrow) (by first | ((repeat first | exact at0 (by simp) | refine atS ?_); done) | assumption) (by rw [List.length_append]; omega) ?_
        have hP := (hB.app [AObj.row 34 3 [[.int .i64 z.t, .int .i64 z.v, .int .i64 z.q]] true, AObj.row 3 1 [[.int .i64 (z.t + v)]] true]).push (L2 := L ++ shM w v (l.take (i + 1)))
        have hi3 : (G ++ [AObj.row 34 3 [[.int .i64 z.t, .int .i64 z.v, .int .i64 z.q]] true, AObj.row 3 1 [[.int .i64 (z.t + v)]] true]).length = G.length + 2 := by simp
        rw [hi3] at hP
        rw [List.set_append_left _ _ g4, List.append_assoc] at hP
        have hge : (G.set j2 AObj.dead)[i3]'(by simp; omega) = .row 22 1 [[grV j2 (L ++ shM w v (l.take i))]] true := by
          have h1 : (G.set j2 AObj.dead)[i3]? = some (.row 22 1 [[grV j2 (L ++ shM w v (l.take i))]] true) := by rw [List.getElem?_set_ne hB.ne]; exact hout
          rw [List.getElem?_eq_getElem (by simp; omega)] at h1
          exact Option.some.inj h1
        simp (disch := first | omega | (simp only [go_sem]; try omega)) only [go_sem, hge]
        refine Next.mk (i + 1, G.length + 2, _) ⟨⟨by dsimp only; omega, hP, by dsimp only; simp; omega⟩, by dsimp only; omega⟩ ?_
        exact wk
      · have e9 : shM w v (l.take (i + 1)) = shM w v (l.take i) := by rw [htk, shM_app, shM_one, if_neg hin, List.append_nil]
        rw [decide_eq_false hin]
        simp (disch := first | omega | (simp only [go_sem]; try omega)) only [go_sem]
        refine Next.mk (i + 1, j2, G ++ [AObj.row 34 3 [[.int .i64 z.t, .int .i64 z.v, .int .i64 z.q]] true]) ⟨⟨by dsimp only; omega, by dsimp only; rw [e9]; exact hB.app _, by dsimp only; rw [List.length_append]; omega⟩, by dsimp only; omega⟩ ?_
        exact wk
    · have hie : i = l.length := by omega
      subst hie
      have etk : l.take l.length = l := List.take_length
      rw [etk] at hB
      simp (disch := first | omega | (simp only [go_sem]; try omega)) only [go_sem, hlt]
      exact Ret.same hXl (hk G j2 hB hXl)
theorem momEach {H : Hp} {ss : List Ser} (hss : slF ss = 0) {w : Win} {i3 : Nat} (h3 : H.length + 2 ≤ i3) (hsl : ∀ t, (serL ss t).length ≤ 1000) : EachOk 72 [] [(H.length, 0, 0), (H.length + 1, 0, 0), (i3, 0, 0)] (fun L X => ∃ j, MoAt H ss w i3 L X j) (fun L p => L ++ shM w p.2 (serL ss (tB p.1))) (fun L n => L.length + 1000 * n ≤ 1000000) := by
  refine ⟨by kernel_rfl, fun L X hX p hp => ?_, fun L X p n K hX hO h1 h2 hk => ?_⟩
  · obtain ⟨j, hA⟩ := hX
    have l1 := getElem?_lt hA.win
    have l3 := getElem?_lt hA.out
    simp only [List.nil_append, List.mem_cons, List.not_mem_nil, or_false] at hp
    rcases hp with rfl | rfl | rfl
    · dsimp only; omega
    · exact l1
    · exact l3
  · obtain ⟨j, hA⟩ := hX
    refine momPush_a hss hA (tB p.1) p.2 h2 (hsl _) (by omega) (fun X' j' hA' hl' => hk X' ⟨j', hA'⟩ ?_ hl')
    have := shM_len w p.2 (serL ss (tB p.1))
    have := hsl (tB p.1)
    dsimp only at hO ⊢
    rw [List.length_append]
    omega
def moF (e : Ex) (ss : List Ser) (w : Win) : List Int := w.a :: (leafE e).flatMap fun p => shM w p.2 (serL ss (tB p.1))
theorem foldl_app {α : Type} (f : α → List Int) : ∀ (l : List α) (L : List Int), l.foldl (fun L p => L ++ f p) L = L ++ l.flatMap f
  | [], L => by simp
  | x :: l, L => by rw [List.foldl_cons, foldl_app f l, List.flatMap_cons, List.append_assoc]
theorem momFault_a {H : Hp} {K : AV → Hp → Prop} (w : Win) (hk : K (.c (.int .i64 (if winE w = 0 then 0 else 1))) H) : ACalls Tryz.prog 70 [.agg (encW w)] H K := by
  by_cases h : winE w = 0
  · rw [if_pos h] at hk
    refine acalls Tryz.func70 rfl (by kernel_rfl) (by simp (disch := first | omega | (simp only [go_sem]; try omega)) only [go_sem]) (fun hH => ?_)
    simp (disch := first | omega | (simp only [go_sem]; try omega)) only [go_sem]
    refine window_a w ?_
    rw [decide_eq_true h]
    simp (disch := first | omega | (simp only [go_sem]; try omega)) only [go_sem]
    exact Ret.drop hH (Nat.le_refl _) trivial hk
  · rw [if_neg h] at hk
    refine acalls Tryz.func70 rfl (by kernel_rfl) (by simp (disch := first | omega | (simp only [go_sem]; try omega)) only [go_sem]) (fun hH => ?_)
    simp (disch := first | omega | (simp only [go_sem]; try omega)) only [go_sem]
    refine window_a w ?_
    rw [decide_eq_false h]
    simp (disch := first | omega | (simp only [go_sem]; try omega)) only [go_sem]
    exact Ret.drop hH (Nat.le_refl _) trivial hk
theorem first2M {H : Hp} {K : AV → Hp → Prop} (a b : Int) {i ty n : Nat} {els : List (List AC)} {own : Bool} (hi : H[i]? = some (.row ty 1 els own)) (he : els = [[.int .i64 a], [.int .i64 b]]) (hn : n = 2) (hk : K (.c (.int .i64 (firstE [a, b]))) (H.set i .dead)) : ACalls Tryz.prog 69 [.c (.sl (some (i, 0)) n)] H K := by
  subst he hn
  exact ACalls.lit hi (by simp [pureL, AC.pure]) (args' := [.c (.lst 1 ([a, b].map encI))]) (by simp [AV.frz1, AC.frz, encI]) (first_a [a, b] (by simp) hk)
theorem momentsTop_a {H : Hp} {K : AV → Hp → Prop} (l : List UInt8) (hl : l.length ≤ 1000000) (hne : ∀ a c, parF l = .error (a, c) → c ≠ 0) (ss : List Ser) (hlen : ss.length ≤ 1099511627776) (hs : ∀ x ∈ ss, x.fine) (hsl : ∀ t, (serL ss t).length ≤ 1000) (w : Win)
    (hk0 : ∀ a c, parF l = .error (a, c) → K (.tup [.c (.lst 1 []), (.c (.int .i64 c))]) H)
    (hk1 : ∀ e, parF l = .ok e → firstE [slF ss, if winE w = 0 then 0 else 1] ≠ 0 → K (.tup [.c (.lst 1 []), (.c (.int .i64 (firstE [slF ss, if winE w = 0 then 0 else 1])))]) H)
    (hk2 : ∀ e, parF l = .ok e → slF ss = 0 → winE w = 0 → w.a = w.b → K (.tup [.c (.lst 1 []), (.c (.int .i64 0))]) H)
    (hk3 : ∀ e, parF l = .ok e → slF ss = 0 → winE w = 0 → w.a ≠ w.b → K (.tup [.c (.lst 1 ((cplF (srtI (moF e ss w))).map encI)), (.c (.int .i64 0))]) H) : ACalls Tryz.prog 14 [(.c (.str (tB l))), .c (.lst 2 (ss.map encSr)), .agg (encW w)] H K := by
  have hent : entersB Tryz.prog 72 = true := by kernel_rfl
  refine acalls Tryz.func14 rfl (by kernel_rfl) (by simp (disch := first | omega | (simp only [go_sem]; try omega)) only [go_sem]) (fun hH => ?_)
  simp (disch := first | omega | (simp only [go_sem]; try omega)) only [go_sem, hent]
  refine parse_a l hl (fun e he => ?_) (fun a c he => ?_)
  · have hsz := par_sz he
    have hlf := leaf_sz e
    simp (disch := first | omega | (simp only [go_sem]; try omega)) only [go_sem]
    obtain ⟨c, hcF⟩ : ∃ c, c = firstE [slF ss, if winE w = 0 then 0 else 1] := ⟨_, rfl⟩
    have hf2 : ∀ {G : Hp} {J : AV → Hp → Prop} {i : Nat} (hi : G[i]? = some (.row 35 1 [[.int .i64 (slF ss)], [.int .i64 (if winE w = 0 then 0 else 1)]] true)) (hJ : J (.c (.int .i64 c)) (G.set i .dead)), ACalls Tryz.prog 69 [.c (.sl (some (i, 0)) 2)] G J := fun hi hJ => first2M _ _ hi rfl rfl (by rw [← hcF]; exact hJ)
    refine w_tree (.one 0 (.two 1 (.one 2 (.one 3 (.one 4 (.one 5 (.one 6 .done))))) 2 (.one 1 (.one 3 (.one 4 (.one 5 (.one 6 .done))))))) (by kernel_rfl) (by decide +kernel) ?_
    simp (disch := first | omega | (simp only [go_sem]; try omega)) only [go_sem]
    by_cases hc0 : c = 0
    · rw [hc0] at hcF
      obtain ⟨hs0, hw0⟩ := firstE_two hcF.symm
      have hw0 : winE w = 0 := by
        by_cases h : winE w = 0
        · exact h
        · rw [if_neg h] at hw0; cases hw0
      by_cases hab : w.a = w.b
      · have hk := hk2 e he hs0 hw0 hab
        repeat' first | (refine serListF_a ss hlen hs ?_; simp (disch := first | omega | (simp only [go_sem]; try omega)) only [go_sem]) | (refine momFault_a w ?_; simp (disch := first | omega | (simp only [go_sem]; try omega)) only [go_sem]) | (refine hf2 (by first | ((repeat first | exact at0 (by simp) | refine atS ?_); done) | assumption) ?_; simp (disch := first | omega | (simp only [go_sem]; try omega)) only [go_sem, hc0, hab]) | (exact Ret.nilT hH (Nat.le_refl _) rfl hk) | apply And.intro
      · have hk := hk3 e he hs0 hw0 hab
        repeat' first | (refine serListF_a ss hlen hs ?_; simp (disch := first | omega | (simp only [go_sem]; try omega)) only [go_sem]) | (refine momFault_a w ?_; simp (disch := first | omega | (simp only [go_sem]; try omega)) only [go_sem]) | (refine hf2 (by first | ((repeat first | exact at0 (by simp) | refine atS ?_); done) | assumption) ?_; simp (disch := first | omega | (simp only [go_sem]; try omega)) only [go_sem, hc0, hab, hent]) | apply And.intro
        all_goals
          have hA : MoAt H ss w (H.length + 4) [w.a] (H ++ [.row 27 1 [[.lst 2 (ss.map encSr)]] true, .row 31 2 [[.int .i64 w.a, .int .i64 w.b]] true, .dead, .row 3 1 [[.int .i64 w.a]] true, .row 22 1 [[.sl (some (H.length + 3, 0)) 1]] true]) (H.length + 3) := ⟨fun i hi => List.getElem?_append_left hi, by simp, by simp, by simp [grV], by simp [grO, encI], by omega, by omega, by omega⟩
          refine eachS_a (momEach hs0 (w := w) (i3 := H.length + 4) (by omega) hsl) e [w.a] 0 ⟨_, hA⟩ (by simp only [List.length_cons, List.length_nil]; omega) (par_good he) (fun X' hX hO hl' => ?_)
          obtain ⟨j', hB⟩ := hX
          rw [foldl_app] at hB hO
          rw [show [w.a] ++ (leafE e).flatMap (fun p => shM w p.2 (serL ss (tB p.1))) = moF e ss w from rfl] at hB hO
          generalize moF e ss w = L at *
          have hout := hB.out
          have hrow := hB.row
          have hjl := getElem?_lt hrow
          have hil := getElem?_lt hout
          have hp3 := hB.pj
          simp (disch := first | omega | (simp only [go_sem]; try omega)) only [go_sem, hout]
          refine sortIv_a L hrow (by omega) ?_
          have hout2 : ∀ Y : AObj, (X'.set j' Y)[H.length + 4]? = some (.row 22 1 [[grV j' L]] true) := fun Y => by rw [List.getElem?_set_ne hB.ne]; exact hout
          simp (disch := first | omega | (simp only [go_sem]; try omega)) only [go_sem, hout2]
          rw [grV_sorted L j']
          refine compactIvV_a (srtI L) (List.getElem?_set_self hjl) (by rw [srtI_len]; omega) ?_
          rw [List.set_set]
          have hpre : X'.set j' .dead = H ++ (X'.set j' .dead).drop H.length := pre_app (fun i hi => by
            rw [List.getElem?_set_ne (by omega)]; exact hB.pre i hi) (by simp; omega)
          rw [hpre]
          simp (disch := first | omega | (simp only [go_sem]; try omega)) only [go_sem]
          exact Ret.drop hH (Nat.le_refl _) (by simp [AV.ok, AV.ok1, AC.ok]) hk
    · have hk := hk1 e he (by rw [← hcF]; exact hc0)
      rw [← hcF] at hk
      repeat' first | (refine serListF_a ss hlen hs ?_; simp (disch := first | omega | (simp only [go_sem]; try omega)) only [go_sem]) | (refine momFault_a w ?_; simp (disch := first | omega | (simp only [go_sem]; try omega)) only [go_sem]) | (refine hf2 (by first | ((repeat first | exact at0 (by simp) | refine atS ?_); done) | assumption) ?_; simp (disch := first | omega | (simp only [go_sem]; try omega)) only [go_sem, hc0]) | (exact Ret.nilT hH (Nat.le_refl _) rfl hk) | apply And.intro
  · have hc := hne a c he
    simp (disch := first | omega | (simp only [go_sem]; try omega)) only [go_sem, hc]
    exact Ret.nilT hH (Nat.le_refl _) rfl (hk0 a c he)
end Go.Proofs.YtlnfiflbpmicgaaGreatDoor
namespace Go.Proofs.YtlnfiflbpmicgaaGreatDoor
open Go Go.RowKit
set_option maxRecDepth 100000
set_option maxHeartbeats 1000000
theorem leafM_eq (ss : List Ser) (w : Win) : ∀ e : Ex, ExOk e → (leafX e).flatMap (leafM [] ss w 0) = (leafE e).flatMap fun p => shM w p.2 (serL ss (tB p.1))
  | .num _, _ => rfl
  | .tag x none, _ => by
    show leafM [] ss w 0 (.tag x none) ++ [] = shM w 0 (serL ss (tB x)) ++ []
    unfold leafM
    dsimp only
    rw [if_pos (by intro y hy; cases hy)]
    rfl
  | .tag x (some n), h => by
    have h0 := h.2 n rfl
    show leafM [] ss w 0 (.tag x (some n)) ++ [] = shM w n (serL ss (tB x)) ++ []
    unfold leafM
    dsimp only
    rw [if_pos (by intro y hy; cases hy)]
    show shM w (0 + max 0 n) _ ++ [] = _
    rw [show 0 + max 0 n = n by omega]
  | .neg a, h => leafM_eq ss w a h
  | .bin _ a b, h => by
    show (leafX a ++ leafX b).flatMap _ = (leafE a ++ leafE b).flatMap _
    rw [List.flatMap_append, List.flatMap_append, leafM_eq ss w a h.2.1, leafM_eq ss w b h.2.2]
  | .f1 _ a, h => leafM_eq ss w a h.2
  | .f2 _ a b, h => by
    show (leafX a ++ leafX b).flatMap _ = (leafE a ++ leafE b).flatMap _
    rw [List.flatMap_append, List.flatMap_append, leafM_eq ss w a h.2.1, leafM_eq ss w b h.2.2]
  | .f3 _ a b c, h => by
    show (leafX a ++ (leafX b ++ leafX c)).flatMap _ = (leafE a ++ leafE b ++ leafE c).flatMap _
    rw [List.flatMap_append, List.flatMap_append, List.flatMap_append, List.flatMap_append, leafM_eq ss w a h.2.1, leafM_eq ss w b h.2.2.1, leafM_eq ss w c h.2.2.2, List.append_assoc]
theorem momQ_eq (ss : List Ser) (w : Win) (e : Ex) (he : ExOk e) (hw : w.a < w.b) : momQ [] ss w 0 e = moF e ss w := by
  unfold momQ moF
  rw [if_pos hw, leafM_eq ss w e he]
  rfl
theorem shM_none (w : Win) (hw : w.b ≤ w.a) (s : Int) (l : List Smp) : shM w s l = [] := by
  unfold shM
  rw [List.filter_eq_nil_iff.2 (fun y _ => by simp only [decide_eq_true_eq]; omega)]
  rfl
theorem momQ_none (ss : List Ser) (w : Win) (e : Ex) (he : ExOk e) (hw : w.b ≤ w.a) : momQ [] ss w 0 e = [] := by
  unfold momQ
  rw [if_neg (by omega), leafM_eq ss w e he, List.nil_append, List.flatMap_eq_nil_iff]
  exact fun p _ => shM_none w hw _ _
theorem winE_01 (w : Win) : (if winE w = 0 then (0 : Int) else 1) = winE w := by
  unfold winE
  repeat' split
  all_goals omega
end Go.Proofs.YtlnfiflbpmicgaaGreatDoor
