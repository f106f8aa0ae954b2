/- Fixes that are drawn. No condition. -/
import Derived.Test.YtgcjenfdndhhpaaGreatDoorHVFixS
import Derived.Test.YtgcjenfdndhhpaaGreatDoorHVGC
import Derived.Test.YtgcjenfdndhhpaaGreatDoorHVHoldsD
namespace Go.Proofs.YtgcjenfdndhhpaaGreatDoor
open Go Go.RowKit
set_option maxRecDepth 100000
set_option linter.all false
set_option maxHeartbeats 2000000
variable {H : Hp} {K : AV → Hp → Prop}
theorem SWp.thnX {P : Program} {n N : Nat} {L : List Tmp} {x y : Code} {Q : AExit → Fr → Hp → Prop} {F : Fr} (h : SWp P n N L x (QS P n N L y Q) F H) : SWp P n N L (.seq x y) Q F H := SWp.seq h
@[go_sem] theorem mapK_cn : mapK Tryz.prog 88 = some 9 := (by kernel_rfl)
@[go_sem] theorem mapZ_cn : (mapE Tryz.prog 88).bind (zeroA Tryz.prog) = some (.c (.int .i64 0)) := (by kernel_rfl)
def cnK (t : ByteArray) (x : ByteArray × Int) : Bool := decide (t = x.1)
def encCn (x : ByteArray × Int) : AV × AV := (.c (.str x.1), .c (.int .i64 x.2))
def cnt (m : List (ByteArray × Int)) (t : ByteArray) : Int := match m.find? (cnK t) with | some p => p.2 | none => 0
theorem get_cn {P : Program} {kt : TypeId} (t : ByteArray) (m : List (ByteArray × Int)) (ht : keyT P kt (.c (.str t)) = true) : ∃ ok, mapGet P kt (.c (.str t)) (some (.c (.int .i64 0))) (m.map encCn) = some (.c (.int .i64 (cnt m t)), ok) := by
  rw [get_of (e := encCn) (p := cnK t) ht (findA_str t (fun x : ByteArray × Int => x.1) (fun x : ByteArray × Int => .c (.int .i64 x.2)) m)]
  unfold cnt
  cases m.find? (cnK t) with
  | none => exact ⟨_, rfl⟩
  | some p => exact ⟨_, rfl⟩
theorem put_cn {P : Program} {kt : TypeId} (t : ByteArray) (v : Int) (m : List (ByteArray × Int)) (ht : keyT P kt (.c (.str t)) = true) : mapPut P kt (.c (.str t)) (.c (.int .i64 v)) (m.map encCn) = some ((upsert (cnK t) (t, v) m).map encCn) :=
  put_of (e := encCn) (p := cnK t) (x := (t, v)) ht (findA_str t (fun x : ByteArray × Int => x.1) (fun x : ByteArray × Int => .c (.int .i64 x.2)) m) rfl
theorem cn_okN (m : List (ByteArray × Int)) (n : Nat) : (mpO (m.map encCn)).okN n := by
  intro p hp
  obtain ⟨x, _, rfl⟩ := List.mem_map.1 hp
  exact ⟨trivial, trivial⟩
attribute [simp] cn_okN
/-- counts that are small -/
def cnOk (m : List (ByteArray × Int)) (k : Int) : Prop := ∀ p ∈ m, 0 ≤ p.2 ∧ p.2 ≤ k
theorem cnt_bd {m : List (ByteArray × Int)} {k : Int} (h : cnOk m k) (h0 : 0 ≤ k) (t : ByteArray) : 0 ≤ cnt m t ∧ cnt m t ≤ k := by
  unfold cnt
  cases hf : m.find? (cnK t) with
  | none => exact ⟨Int.le_refl _, h0⟩
  | some p => exact h p (List.mem_of_find?_eq_some hf)
theorem cn_ups {m : List (ByteArray × Int)} {k v : Int} (h : cnOk m k) (t : ByteArray) (h0 : 0 ≤ v) (h1 : v ≤ k + 1) : cnOk (upsert (cnK t) (t, v) m) (k + 1) := by
  intro p hp
  unfold upsert at hp
  split at hp
  · rcases List.mem_or_eq_of_mem_set hp with hp | rfl
    · have := h p hp; omega
    · exact ⟨h0, h1⟩
  · rcases List.mem_append.1 hp with hp | hp
    · have := h p hp; omega
    · simp only [List.mem_singleton] at hp
      subst hp
      exact ⟨h0, h1⟩
/-- as fixes are drawn -/
def fxFine (x : Fix) : Prop := x.by_.size ≤ 1000 ∧ (-1100000000000 ≤ x.made ∧ x.made ≤ 1100000000000) ∧ (-1100000000000 ≤ x.no ∧ x.no ≤ 1100000000000)
theorem fxFine.ok {x : Fix} (h : fxFine x) : fxOk x := by
  obtain ⟨_, h3, h4⟩ := h
  exact ⟨by omega, by omega⟩
theorem frm_ok (m : List (ByteArray × Int)) (l : List Fix) (z : Fix) (n : Nat) : ∀ o ∈ [mpO (m.map encCn), grO 67 11 (l.map encF), .row 67 11 [encF z] true], AObj.okN n o := by
  intro o ho
  simp only [List.mem_cons, List.not_mem_nil, or_false] at ho
  rcases ho with rfl | rfl | rfl
  · exact cn_okN _ _
  · exact okN_grO (fun x => by simp [go_sem, AC.pure])
  · exact okN_map (l := [z]) (fun x => by simp [go_sem, AC.pure])
theorem appFx {i q ty : Nat} {own : Bool} {J : AV → Hp → Prop} (l : List Fix) (x : Fix) (l2 : List Fix) (e : l2 = l ++ [x]) (hi : H[i]? = some (grO 67 11 (l.map encF))) (hj : H[q]? = some (.row ty 11 [encF x] own)) (hb : l.length ≤ 1000000)
    (h : J (.c (grV H.length l2)) (H.set i .dead ++ [grO 67 11 (l2.map encF)])) : aBuiltin Tryz.prog .append #[62, 62] [.c (grV i l), .c (.sl (some (q, 0)) 1)] H J := by
  subst e
  exact app_grR (enc := encF) (e := 67) (sz := 11) (bs := 96) (z := [.str ⟨#[]⟩, .int .i64 0, .int .i64 0, .int .i64 0, .int .i64 0, .int .i64 0, .int .i64 0, .int .i64 0, .int .i64 0, .int .i64 0, .int .i64 0]) l [x] (by kernel_rfl) (by kernel_rfl) (by kernel_rfl) (by kernel_rfl) hi (by rw [hj]; rfl) (by simp) rfl (by decide) (by simp; omega) (by simp; omega) h
theorem fixes_a (s : Nat) (zs : List Int) (j many : Int) (hs : Str H s zs j) (hj : j ≤ 1000000000) (hm0 : 0 ≤ many) (hm1 : many ≤ 10)
    (hk : ∀ (l : List Fix) (j' : Int), j ≤ j' → j' ≤ j + 30 * many → (l.length : Int) ≤ many → (∀ x ∈ l, fxFine x) → K (.c (.lst 11 (l.map encF))) (H.set s (strO zs j'))) :
    ACalls Tryz.prog 61 [.c (.ptr (some (s, 0, 0))), (.c (.int .i64 many))] H K := by
  have hlt := hs.lt
  have hpos := hs.pos
  have hne : H.length ≠ s := by omega
  refine acallsS Tryz.func61 rfl (by simp (disch := first | omega | (simp only [go_sem]; first | done | omega)) only [go_sem]) (fun hH => ?_)
  (refine SWp.go (by kernel_rfl) ?_; simp (disch := first | omega | (simp only [go_sem]; first | done | omega)) only [go_sem])
  (refine SWp.go (by kernel_rfl) ?_; simp (disch := first | omega | (simp only [go_sem]; first | done | omega)) only [go_sem])
  (refine SWp.go (by kernel_rfl) ?_; simp (disch := first | omega | (simp only [go_sem]; first | done | omega)) only [go_sem])
  (refine SWp.go (by kernel_rfl) ?_; simp (disch := first | omega | (simp only [go_sem]; first | done | omega)) only [go_sem])
  refine SWp.thnX ?_
  (refine SWp.go (by kernel_rfl) ?_; simp (disch := first | omega | (simp only [go_sem]; first | done | omega)) only [go_sem])
  refine SWp.inB ?_
  refine SWp.loop (H.length + 1) [0, 7, 11] [12, 5, 6] (fun (q : Nat × List Fix × Int × List (ByteArray × Int) × Int) => (q.1 : Int) ≤ many ∧ q.2.1.length = q.1 ∧ (∀ x ∈ q.2.1, fxFine x) ∧ (0 ≤ q.2.2.1 ∧ q.2.2.1 ≤ 5 * q.1) ∧ cnOk q.2.2.2.1 q.1 ∧ j ≤ q.2.2.2.2 ∧ q.2.2.2.2 ≤ j + 30 * q.1) (fun (q : Nat × List Fix × Int × List (ByteArray × Int) × Int) => [(12, (.c (.int .i64 (q.1)))), (5, .c (grV (H.length + 1) q.2.1)), (6, (.c (.int .i64 (q.2.2.1))))]) (fun (q : Nat × List Fix × Int × List (ByteArray × Int) × Int) => H.set s (strO zs q.2.2.2.2) ++ [mpO (q.2.2.2.1.map encCn), grO 67 11 (q.2.1.map encF)]) (fun (q : Nat × List Fix × Int × List (ByteArray × Int) × Int) => many.toNat - q.1) (fun _ => rfl) (by kernel_rfl) (by first | (simp; done) | omega) (by first | (simp; done) | (simp; omega) | omega) (by (try simp only [List.forall_mem_cons, List.not_mem_nil, false_implies, implies_true, and_true]); (try simp (disch := first | omega | (simp only [go_sem]; first | done | omega)) only [go_sem]); all_goals first | trivial | (simp [AV.ok, AV.ok1, AC.ok]; done) | (simp [AV.ok, AV.ok1, AC.ok]; omega) | (simp [AV.ok, AV.ok1, AC.ok]; assumption) | ((repeat' apply And.intro) <;> first | trivial | (simp [AV.ok, AV.ok1, AC.ok]; done) | (simp [AV.ok, AV.ok1, AC.ok]; omega) | (simp [AV.ok, AV.ok1, AC.ok]; assumption) | (refine grV_ok ?_ _; first | (simp; done) | (simp; omega) | omega))) ?_ (fun q hq _ _ => ?_)
  · refine Next.mk (0, [], 0, [], j) ⟨by simpa using hm0, rfl, by simp, by simp, by intro p hp; simp at hp, by simp, by simp⟩ ?_
    dsimp only
    rw [set_same hs.2.2.2]
    have hp := WkL.pad (m := H.length + 1) (vs := [.c (.int .i64 0), .c (.sl none 0), .c (.int .i64 0)]) (H := H ++ [mpO []]) (by simp)
    rw [List.append_assoc] at hp
    exact hp
  obtain ⟨k, l, md, m, j1⟩ := q
  obtain ⟨q1, q2, q3, ⟨q4, q5⟩, qm, q6, q7⟩ := hq
  dsimp only at q1 q2 q3 q4 q5 qm q6 q7 ⊢
  by_cases hkl : (k : Int) < many
  · refine SWp.go (by kernel_rfl) ?_
    simp (disch := first | omega | (simp only [go_sem]; first | done | omega)) only [go_sem, hkl]
    refine SWp.go (by kernel_rfl) ?_
    simp (disch := first | omega | (simp only [go_sem]; first | done | omega)) only [go_sem]
    refine SWp.thnX (SWp.inB ?_)
    refine SWp.go (by kernel_rfl) ?_
    simp (disch := first | omega | (simp only [go_sem]; first | done | omega)) only [go_sem]
    refine pick_lit s zs j1 [0, 1, 5] (by first | ((repeat first | exact at0 (by simp) | refine atS ?_); done) | assumption) rfl rfl (by first | exact hs | exact hs.app _ | exact hs.set (by omega) (by omega) | exact (hs.set (by omega) (by omega)).app _) (by omega) (by simp) (by simp) (fun d hd => ?_)
    simp only [List.mem_cons, List.not_mem_nil, or_false] at hd
    simp (disch := first | omega | (simp only [go_sem]; first | done | omega)) only [go_sem]
    (refine SWp.go (by kernel_rfl) ?_; simp (disch := first | omega | (simp only [go_sem]; first | done | omega)) only [go_sem])
    refine some_lit s zs (j1 + 1) [⟨#[97, 110, 110]⟩, ⟨#[98, 111, 98]⟩] (by first | ((repeat first | exact at0 (by simp) | refine atS ?_); done) | assumption) rfl rfl (by first | exact hs | exact hs.app _ | exact hs.set (by omega) (by omega) | exact (hs.set (by omega) (by omega)).app _) (by omega) (by simp) (by simp) (fun nd hnd => ?_)
    have hns : nd.size ≤ 1000 := by
      have : ∀ x ∈ [(⟨#[97, 110, 110]⟩ : ByteArray), ⟨#[98, 111, 98]⟩], x.size ≤ 1000 := by decide
      exact this nd hnd
    clear hnd
    simp (disch := first | omega | (simp only [go_sem]; first | done | omega)) only [go_sem]
    refine pick_lit s zs (j1 + 1 + 1) [1, 1, 2, 3] (by first | ((repeat first | exact at0 (by simp) | refine atS ?_); done) | assumption) rfl rfl (by first | exact hs | exact hs.app _ | exact hs.set (by omega) (by omega) | exact (hs.set (by omega) (by omega)).app _) (by omega) (by simp) (by simp) (fun kd hkd => ?_)
    simp only [List.mem_cons, List.not_mem_nil, or_false] at hkd
    simp (disch := first | omega | (simp only [go_sem]; first | done | omega)) only [go_sem]
    (refine SWp.go (by kernel_rfl) ?_; simp (disch := first | omega | (simp only [go_sem]; first | done | omega)) only [go_sem])
    have hc := cnt_bd qm (by omega) nd
    obtain ⟨ok1, hg1⟩ := get_cn nd m (P := Tryz.prog) (kt := 9) (by kernel_rfl)
    refine look_mp (by kernel_rfl) hg1 rfl ?_
    have hqm2 := cn_ups qm nd (v := cnt m nd + 1) (by omega) (by omega)
    simp (disch := first | omega | (simp only [go_sem]; first | done | omega)) only [go_sem]
    refine mup_mp (by kernel_rfl) (put_cn nd (cnt m nd + 1) m (by kernel_rfl)) ?_
    generalize upsert (cnK nd) (nd, cnt m nd + 1) m = m2 at *
    clear hg1 hc qm
    simp (disch := first | omega | (simp only [go_sem]; first | done | omega)) only [go_sem]
    (refine SWp.go (by kernel_rfl) ?_; simp (disch := first | omega | (simp only [go_sem]; first | done | omega)) only [go_sem])
    have hc := cnt_bd hqm2 (by omega) nd
    obtain ⟨ok2, hg2⟩ := get_cn nd m2 (P := Tryz.prog) (kt := 9) (by kernel_rfl)
    refine look_mp (by kernel_rfl) hg2 rfl ?_
    clear hg2
    generalize cnt m2 nd = no at *
    simp (disch := first | omega | (simp only [go_sem]; first | done | omega)) only [go_sem]
    (refine SWp.go (by kernel_rfl) ?_; simp (disch := first | omega | (simp only [go_sem]; first | done | omega)) only [go_sem])
    refine pick_lit s zs (j1 + 1 + 1 + 1) [5, 10, 15, 35, 50, 95] (by first | ((repeat first | exact at0 (by simp) | refine atS ?_); done) | assumption) rfl rfl (by first | exact hs | exact hs.app _ | exact hs.set (by omega) (by omega) | exact (hs.set (by omega) (by omega)).app _) (by omega) (by simp) (by simp) (fun at_ hat => ?_)
    simp only [List.mem_cons, List.not_mem_nil, or_false] at hat
    simp (disch := first | omega | (simp only [go_sem]; first | done | omega)) only [go_sem]
    have hF : fxFine ⟨nd, no, md + d, kd, ⟨0, 0, 0⟩, 0, 0, 0, 0⟩ := ⟨hns, by dsimp only; omega, by dsimp only; omega⟩
    refine SWp.cut (H.length + 2) [0, 7, 11, 12, 5, 6] [8] (fun (u : Fix × Int) => fxFine u.1 ∧ j1 + 4 ≤ u.2 ∧ u.2 ≤ j1 + 8) (fun (u : Fix × Int) => [(8, .c (.ptr (some (H.length + 2, 0, 0))))]) (fun (u : Fix × Int) => H.set s (strO zs u.2) ++ [mpO (m2.map encCn), grO 67 11 (l.map encF), .row 67 11 [encF u.1] true]) (fun _ => rfl) (by kernel_rfl) (by first | (simp; done) | omega) (by first | (simp; done) | (simp; omega) | omega) (by (try simp only [List.forall_mem_cons, List.not_mem_nil, false_implies, implies_true, and_true]); (try simp (disch := first | omega | (simp only [go_sem]; first | done | omega)) only [go_sem]); all_goals first | trivial | (simp [AV.ok, AV.ok1, AC.ok]; done) | (simp [AV.ok, AV.ok1, AC.ok]; omega) | (simp [AV.ok, AV.ok1, AC.ok]; assumption) | ((repeat' apply And.intro) <;> first | trivial | (simp [AV.ok, AV.ok1, AC.ok]; done) | (simp [AV.ok, AV.ok1, AC.ok]; omega) | (simp [AV.ok, AV.ok1, AC.ok]; assumption) | (refine grV_ok ?_ _; first | (simp; done) | (simp; omega) | omega))) ?_ (fun u hu _ _ => ?_)
    · refine SWp.of (by kernel_rfl) ?_
      obtain ⟨f1, f2, f3⟩ := hF
      dsimp only at f1 f2 f3
      have hkd' : kd = 1 ∨ kd = 2 ∨ kd = 3 := by omega
      clear hkd
      rcases hkd' with rfl | rfl | rfl
      · simp (disch := first | omega | (simp only [go_sem]; first | done | omega)) only [go_sem]
        refine pick_lit s zs (j1 + 1 + 1 + 1 + 1) [1, 2, 9] (by first | ((repeat first | exact at0 (by simp) | refine atS ?_); done) | assumption) rfl rfl (by first | exact hs | exact hs.app _ | exact hs.set (by omega) (by omega) | exact (hs.set (by omega) (by omega)).app _) (by omega) (by simp) (by simp) (fun v hv => ?_)
        simp (disch := first | omega | (simp only [go_sem]; first | done | omega)) only [go_sem]
        refine pick_lit s zs (j1 + 1 + 1 + 1 + 1 + 1) [0, 0, 1] (by first | ((repeat first | exact at0 (by simp) | refine atS ?_); done) | assumption) rfl rfl (by first | exact hs | exact hs.app _ | exact hs.set (by omega) (by omega) | exact (hs.set (by omega) (by omega)).app _) (by omega) (by simp) (by simp) (fun q hq => ?_)
        simp (disch := first | omega | (simp only [go_sem]; first | done | omega)) only [go_sem]
        clear hv hq
        refine Next.mk (⟨nd, no, md + d, 1, ⟨at_, v, q⟩, 0, 0, 0, 0⟩, j1 + 1 + 1 + 1 + 1 + 1 + 1) ⟨⟨f1, f2, f3⟩, by dsimp only; omega, by dsimp only; omega⟩ ?_
        ((try simp (disch := first | omega | (simp only [go_sem]; first | done | omega)) only [go_sem]); (first | refine WkL.pickAt [_, _] [0] ?_ ?_ ?_ rfl ?_ ?_ ?_ ?_ | refine WkL.pickAt [_, _] [1] ?_ ?_ ?_ rfl ?_ ?_ ?_ ?_ | refine WkL.pickAt [_, _] [2] ?_ ?_ ?_ rfl ?_ ?_ ?_ ?_ | refine WkL.pickAt [_, _] [3] ?_ ?_ ?_ rfl ?_ ?_ ?_ ?_ | refine WkL.pickAt [_, _] [4] ?_ ?_ ?_ rfl ?_ ?_ ?_ ?_ | refine WkL.pickAt [_, _] [5] ?_ ?_ ?_ rfl ?_ ?_ ?_ ?_ | refine WkL.pickAt [_, _] [6] ?_ ?_ ?_ rfl ?_ ?_ ?_ ?_ | refine WkL.pickAt [_, _] [7] ?_ ?_ ?_ rfl ?_ ?_ ?_ ?_ | refine WkL.pickAt [_, _] [8] ?_ ?_ ?_ rfl ?_ ?_ ?_ ?_ | refine WkL.pickAt [_, _] [9] ?_ ?_ ?_ rfl ?_ ?_ ?_ ?_ | refine WkL.pickAt [_, _] [10] ?_ ?_ ?_ rfl ?_ ?_ ?_ ?_ | refine WkL.pickAt [_, _] [11] ?_ ?_ ?_ rfl ?_ ?_ ?_ ?_ | refine WkL.pickAt [_, _] [12] ?_ ?_ ?_ rfl ?_ ?_ ?_ ?_ | refine WkL.pickAt [_, _] [13] ?_ ?_ ?_ rfl ?_ ?_ ?_ ?_ | refine WkL.pickAt [_, _] [14] ?_ ?_ ?_ rfl ?_ ?_ ?_ ?_ | refine WkL.pickAt [_, _] [15] ?_ ?_ ?_ rfl ?_ ?_ ?_ ?_ | refine WkL.pickAt [_, _] [16] ?_ ?_ ?_ rfl ?_ ?_ ?_ ?_ | refine WkL.pickAt [_, _] [17] ?_ ?_ ?_ rfl ?_ ?_ ?_ ?_) <;> first | assumption | exact HOk.str (by assumption) | (simp; done) | (simp; omega) | (simp [pureO_gr, AObj.pureO, pureL, go_sem, AC.pure]; done) | (simp only [List.all_cons, List.all_nil, Bool.and_true]; exact pureO_gr (pureL_map _ (fun x => by simp [go_sem, AC.pure]))) | ((try simp only [List.map_cons, List.map_nil, av_ren_gr]); simp [AV.ren, AV.ren1, AC.ren, renP, pickS]; first | done | omega) | (simp only [List.forall_mem_cons, List.not_mem_nil, false_implies, implies_true, and_true]; (repeat' apply And.intro) <;> first | trivial | exact grV_ok (by simp) _ | exact okN_grO (fun x => by simp [go_sem, AC.pure]) | exact okN_map (fun x => by simp [go_sem, AC.pure]) | (simp [AV.ok, AV.ok1, AC.ok]; done) | (simp [AV.ok, AV.ok1, AC.ok]; omega) | (simp [AObj.okN, AC.ok]; done)) | (simp [AObj.okN]; done))
      · simp (disch := first | omega | (simp only [go_sem]; first | done | omega)) only [go_sem]
        refine Next.mk (⟨nd, no, md + d, 2, ⟨0, 0, 0⟩, at_, 0, 0, 0⟩, j1 + 1 + 1 + 1 + 1) ⟨⟨f1, f2, f3⟩, by dsimp only; omega, by dsimp only; omega⟩ ?_
        ((try simp (disch := first | omega | (simp only [go_sem]; first | done | omega)) only [go_sem]); (first | refine WkL.pickAt [_, _] [0] ?_ ?_ ?_ rfl ?_ ?_ ?_ ?_ | refine WkL.pickAt [_, _] [1] ?_ ?_ ?_ rfl ?_ ?_ ?_ ?_ | refine WkL.pickAt [_, _] [2] ?_ ?_ ?_ rfl ?_ ?_ ?_ ?_ | refine WkL.pickAt [_, _] [3] ?_ ?_ ?_ rfl ?_ ?_ ?_ ?_ | refine WkL.pickAt [_, _] [4] ?_ ?_ ?_ rfl ?_ ?_ ?_ ?_ | refine WkL.pickAt [_, _] [5] ?_ ?_ ?_ rfl ?_ ?_ ?_ ?_ | refine WkL.pickAt [_, _] [6] ?_ ?_ ?_ rfl ?_ ?_ ?_ ?_ | refine WkL.pickAt [_, _] [7] ?_ ?_ ?_ rfl ?_ ?_ ?_ ?_ | refine WkL.pickAt [_, _] [8] ?_ ?_ ?_ rfl ?_ ?_ ?_ ?_ | refine WkL.pickAt [_, _] [9] ?_ ?_ ?_ rfl ?_ ?_ ?_ ?_ | refine WkL.pickAt [_, _] [10] ?_ ?_ ?_ rfl ?_ ?_ ?_ ?_ | refine WkL.pickAt [_, _] [11] ?_ ?_ ?_ rfl ?_ ?_ ?_ ?_ | refine WkL.pickAt [_, _] [12] ?_ ?_ ?_ rfl ?_ ?_ ?_ ?_ | refine WkL.pickAt [_, _] [13] ?_ ?_ ?_ rfl ?_ ?_ ?_ ?_ | refine WkL.pickAt [_, _] [14] ?_ ?_ ?_ rfl ?_ ?_ ?_ ?_ | refine WkL.pickAt [_, _] [15] ?_ ?_ ?_ rfl ?_ ?_ ?_ ?_ | refine WkL.pickAt [_, _] [16] ?_ ?_ ?_ rfl ?_ ?_ ?_ ?_ | refine WkL.pickAt [_, _] [17] ?_ ?_ ?_ rfl ?_ ?_ ?_ ?_) <;> first | assumption | exact HOk.str (by assumption) | (simp; done) | (simp; omega) | (simp [pureO_gr, AObj.pureO, pureL, go_sem, AC.pure]; done) | (simp only [List.all_cons, List.all_nil, Bool.and_true]; exact pureO_gr (pureL_map _ (fun x => by simp [go_sem, AC.pure]))) | ((try simp only [List.map_cons, List.map_nil, av_ren_gr]); simp [AV.ren, AV.ren1, AC.ren, renP, pickS]; first | done | omega) | (simp only [List.forall_mem_cons, List.not_mem_nil, false_implies, implies_true, and_true]; (repeat' apply And.intro) <;> first | trivial | exact grV_ok (by simp) _ | exact okN_grO (fun x => by simp [go_sem, AC.pure]) | exact okN_map (fun x => by simp [go_sem, AC.pure]) | (simp [AV.ok, AV.ok1, AC.ok]; done) | (simp [AV.ok, AV.ok1, AC.ok]; omega) | (simp [AObj.okN, AC.ok]; done)) | (simp [AObj.okN]; done))
      · simp (disch := first | omega | (simp only [go_sem]; first | done | omega)) only [go_sem]
        refine pick_lit s zs (j1 + 1 + 1 + 1 + 1) [1, 10, 40] (by first | ((repeat first | exact at0 (by simp) | refine atS ?_); done) | assumption) rfl rfl (by first | exact hs | exact hs.app _ | exact hs.set (by omega) (by omega) | exact (hs.set (by omega) (by omega)).app _) (by omega) (by simp) (by simp) (fun v hv => ?_)
        simp only [List.mem_cons, List.not_mem_nil, or_false] at hv
        simp (disch := first | omega | (simp only [go_sem]; first | done | omega)) only [go_sem]
        refine pick_lit s zs (j1 + 1 + 1 + 1 + 1 + 1) [0, 1, 2] (by first | ((repeat first | exact at0 (by simp) | refine atS ?_); done) | assumption) rfl rfl (by first | exact hs | exact hs.app _ | exact hs.set (by omega) (by omega) | exact (hs.set (by omega) (by omega)).app _) (by omega) (by simp) (by simp) (fun q hq => ?_)
        simp (disch := first | omega | (simp only [go_sem]; first | done | omega)) only [go_sem]
        clear hv hq
        refine Next.mk (⟨nd, no, md + d, 3, ⟨0, 0, 0⟩, 0, at_ - 5, at_ + v, q⟩, j1 + 1 + 1 + 1 + 1 + 1 + 1) ⟨⟨f1, f2, f3⟩, by dsimp only; omega, by dsimp only; omega⟩ ?_
        ((try simp (disch := first | omega | (simp only [go_sem]; first | done | omega)) only [go_sem]); (first | refine WkL.pickAt [_, _] [0] ?_ ?_ ?_ rfl ?_ ?_ ?_ ?_ | refine WkL.pickAt [_, _] [1] ?_ ?_ ?_ rfl ?_ ?_ ?_ ?_ | refine WkL.pickAt [_, _] [2] ?_ ?_ ?_ rfl ?_ ?_ ?_ ?_ | refine WkL.pickAt [_, _] [3] ?_ ?_ ?_ rfl ?_ ?_ ?_ ?_ | refine WkL.pickAt [_, _] [4] ?_ ?_ ?_ rfl ?_ ?_ ?_ ?_ | refine WkL.pickAt [_, _] [5] ?_ ?_ ?_ rfl ?_ ?_ ?_ ?_ | refine WkL.pickAt [_, _] [6] ?_ ?_ ?_ rfl ?_ ?_ ?_ ?_ | refine WkL.pickAt [_, _] [7] ?_ ?_ ?_ rfl ?_ ?_ ?_ ?_ | refine WkL.pickAt [_, _] [8] ?_ ?_ ?_ rfl ?_ ?_ ?_ ?_ | refine WkL.pickAt [_, _] [9] ?_ ?_ ?_ rfl ?_ ?_ ?_ ?_ | refine WkL.pickAt [_, _] [10] ?_ ?_ ?_ rfl ?_ ?_ ?_ ?_ | refine WkL.pickAt [_, _] [11] ?_ ?_ ?_ rfl ?_ ?_ ?_ ?_ | refine WkL.pickAt [_, _] [12] ?_ ?_ ?_ rfl ?_ ?_ ?_ ?_ | refine WkL.pickAt [_, _] [13] ?_ ?_ ?_ rfl ?_ ?_ ?_ ?_ | refine WkL.pickAt [_, _] [14] ?_ ?_ ?_ rfl ?_ ?_ ?_ ?_ | refine WkL.pickAt [_, _] [15] ?_ ?_ ?_ rfl ?_ ?_ ?_ ?_ | refine WkL.pickAt [_, _] [16] ?_ ?_ ?_ rfl ?_ ?_ ?_ ?_ | refine WkL.pickAt [_, _] [17] ?_ ?_ ?_ rfl ?_ ?_ ?_ ?_) <;> first | assumption | exact HOk.str (by assumption) | (simp; done) | (simp; omega) | (simp [pureO_gr, AObj.pureO, pureL, go_sem, AC.pure]; done) | (simp only [List.all_cons, List.all_nil, Bool.and_true]; exact pureO_gr (pureL_map _ (fun x => by simp [go_sem, AC.pure]))) | ((try simp only [List.map_cons, List.map_nil, av_ren_gr]); simp [AV.ren, AV.ren1, AC.ren, renP, pickS]; first | done | omega) | (simp only [List.forall_mem_cons, List.not_mem_nil, false_implies, implies_true, and_true]; (repeat' apply And.intro) <;> first | trivial | exact grV_ok (by simp) _ | exact okN_grO (fun x => by simp [go_sem, AC.pure]) | exact okN_map (fun x => by simp [go_sem, AC.pure]) | (simp [AV.ok, AV.ok1, AC.ok]; done) | (simp [AV.ok, AV.ok1, AC.ok]; omega) | (simp [AObj.okN, AC.ok]; done)) | (simp [AObj.okN]; done))
    obtain ⟨y, j2⟩ := u
    obtain ⟨u1, u2, u3⟩ := hu
    dsimp only at u1 u2 u3 ⊢
    clear hF hc hat hkd
    refine SWp.cut (H.length + 3) [0, 7, 11, 12, 5, 6, 8] [] (fun (u : Fix × Int) => fxFine u.1 ∧ j2 ≤ u.2 ∧ u.2 ≤ j2 + 12) (fun (u : Fix × Int) => []) (fun (u : Fix × Int) => H.set s (strO zs u.2) ++ [mpO (m2.map encCn), grO 67 11 (l.map encF), .row 67 11 [encF u.1] true]) (fun _ => rfl) (by kernel_rfl) (by first | (simp; done) | omega) (by first | (simp; done) | (simp; omega) | omega) (by (try simp only [List.forall_mem_cons, List.not_mem_nil, false_implies, implies_true, and_true]); (try simp (disch := first | omega | (simp only [go_sem]; first | done | omega)) only [go_sem]); all_goals first | trivial | (simp [AV.ok, AV.ok1, AC.ok]; done) | (simp [AV.ok, AV.ok1, AC.ok]; omega) | (simp [AV.ok, AV.ok1, AC.ok]; assumption) | ((repeat' apply And.intro) <;> first | trivial | (simp [AV.ok, AV.ok1, AC.ok]; done) | (simp [AV.ok, AV.ok1, AC.ok]; omega) | (simp [AV.ok, AV.ok1, AC.ok]; assumption) | (refine grV_ok ?_ _; first | (simp; done) | (simp; omega) | omega))) ?_ (fun u hu _ _ => ?_)
    · refine SWp.of (by kernel_rfl) ?_
      obtain ⟨h1, h2, h3⟩ := u1
      simp (disch := first | omega | (simp only [go_sem]; first | done | omega)) only [go_sem]
      refine flip_a s zs j2 80 (by first | exact hs | exact hs.app _ | exact hs.set (by omega) (by omega) | exact (hs.set (by omega) (by omega)).app _) (by omega) (by omega) (fun b => ?_)
      simp (disch := first | omega | (simp only [go_sem]; first | done | omega)) only [go_sem]
      refine acond_b (fun c => ?_) (fun c => ?_)
      · simp (disch := first | omega | (simp only [go_sem]; first | done | omega)) only [go_sem]
        refine next_a s zs (j2 + 1) 4 (by first | exact hs | exact hs.app _ | exact hs.set (by omega) (by omega) | exact (hs.set (by omega) (by omega)).app _) (by omega) (by omega) (fun r hr0 hr1 => ?_)
        simp (disch := first | omega | (simp only [go_sem]; first | done | omega)) only [go_sem]
        have hr' : r = 0 ∨ r = 1 ∨ r = 2 ∨ r = 3 := by omega
        clear hr0 hr1
        rcases hr' with rfl | rfl | rfl | rfl
        · simp (disch := first | omega | (simp only [go_sem]; first | done | omega)) only [go_sem]
          refine some_lit s zs (j2 + 1 + 1) [noS, ⟨#[97, 110, 110]⟩] (by first | ((repeat first | exact at0 (by simp) | refine atS ?_); done) | assumption) rfl rfl (by first | exact hs | exact hs.app _ | exact hs.set (by omega) (by omega) | exact (hs.set (by omega) (by omega)).app _) (by omega) (by simp) (by simp) (fun nd2 hn2 => ?_)
          have hns2 : nd2.size ≤ 1000 := by
            have : ∀ x ∈ [noS, (⟨#[97, 110, 110]⟩ : ByteArray)], x.size ≤ 1000 := by decide
            exact this nd2 hn2
          simp (disch := first | omega | (simp only [go_sem]; first | done | omega)) only [go_sem]
          refine odd_a s zs (j2 + 1 + 1 + 1) 1 5 (by first | exact hs | exact hs.app _ | exact hs.set (by omega) (by omega) | exact (hs.set (by omega) (by omega)).app _) (by omega) (by omega) (by omega) (by omega) (fun r1 j4 g1 g2 g3 => ?_)
          simp (disch := first | omega | (simp only [go_sem]; first | done | omega)) only [go_sem]
          have hHs : HOk (H.set s (strO zs j4)) := HOk.str hH
          have hr1 : -1100000000000 ≤ r1 ∧ r1 ≤ 1100000000000 := by omega
          clear g3 hn2 hd
          exact Next.mk (⟨nd2, r1, y.made, y.kind, y.s, y.t, y.w1, y.w2, y.q⟩, j4) ⟨⟨hns2, h2, hr1⟩, by dsimp only; omega, by dsimp only; omega⟩ (WkL.keepL (L' := [mpO (m2.map encCn), grO 67 11 (l.map encF), .row 67 11 [encF ⟨nd2, r1, y.made, y.kind, y.s, y.t, y.w1, y.w2, y.q⟩] true]) hHs rfl (by simp) rfl (frm_ok _ _ _ _) (by simp [newV]))
        · simp (disch := first | omega | (simp only [go_sem]; first | done | omega)) only [go_sem]
          refine odd_a s zs (j2 + 1 + 1) 1 3 (by first | exact hs | exact hs.app _ | exact hs.set (by omega) (by omega) | exact (hs.set (by omega) (by omega)).app _) (by omega) (by omega) (by omega) (by omega) (fun r1 j4 g1 g2 g3 => ?_)
          simp (disch := first | omega | (simp only [go_sem]; first | done | omega)) only [go_sem]
          refine odd_a s zs j4 0 50 (by first | exact hs | exact hs.app _ | exact hs.set (by omega) (by omega) | exact (hs.set (by omega) (by omega)).app _) (by omega) (by omega) (by omega) (by omega) (fun r2 j5 g4 g5 g6 => ?_)
          simp (disch := first | omega | (simp only [go_sem]; first | done | omega)) only [go_sem]
          clear g3 g6
          have hHs : HOk (H.set s (strO zs j5)) := HOk.str hH
          exact Next.mk (⟨y.by_, y.no, y.made, r1, y.s, r2, y.w1, y.w2, y.q⟩, j5) ⟨⟨h1, h2, h3⟩, by dsimp only; omega, by dsimp only; omega⟩ (by (try simp (disch := first | omega | (simp only [go_sem]; first | done | omega)) only [go_sem]); (first | refine WkL.eq ?_ ?_ | refine WkL.rest (by assumption) ?_ ?_ ?_ | refine WkL.keepL (by assumption) rfl ?_ ?_ ?_ ?_) <;> first | rfl | (simp; done) | (simp; omega) | (simp only [List.cons.injEq, AV.c.injEq, AC.int.injEq, AC.bool.injEq, AC.str.injEq, and_true, true_and, Int.natCast_add, Int.natCast_one, Int.cast_ofNat_Int]; omega) | (simp [AV.ok, AV.ok1, AC.ok]; done) | (simp [AV.ok, AV.ok1, AC.ok]; omega) | (simp only [List.forall_mem_cons, List.not_mem_nil, false_implies, implies_true, and_true]; (repeat' apply And.intro) <;> first | exact okN_map (fun x => by simp [go_sem, AC.pure]) | exact okN_grO (fun x => by simp [go_sem, AC.pure]) | (simp [AObj.okN, AC.ok]; done) | (simp [AObj.okN, AC.ok]; omega)) | (simp [*]; done) | grind)
        · simp (disch := first | omega | (simp only [go_sem]; first | done | omega)) only [go_sem]
          refine oneSample_a s zs (j2 + 1 + 1) (by first | exact hs | exact hs.app _ | exact hs.set (by omega) (by omega) | exact (hs.set (by omega) (by omega)).app _) (by omega) (fun z _ _ _ => ?_)
          simp (disch := first | omega | (simp only [go_sem]; first | done | omega)) only [go_sem]
          exact Next.mk (⟨y.by_, y.no, y.made, y.kind, z, y.t, y.w1, y.w2, y.q⟩, j2 + 1 + 1 + 1 + 1 + 1) ⟨⟨h1, h2, h3⟩, by dsimp only; omega, by dsimp only; omega⟩ (by (try simp (disch := first | omega | (simp only [go_sem]; first | done | omega)) only [go_sem]); (first | refine WkL.eq ?_ ?_ | refine WkL.rest (by assumption) ?_ ?_ ?_ | refine WkL.keepL (by assumption) rfl ?_ ?_ ?_ ?_) <;> first | rfl | (simp; done) | (simp; omega) | (simp only [List.cons.injEq, AV.c.injEq, AC.int.injEq, AC.bool.injEq, AC.str.injEq, and_true, true_and, Int.natCast_add, Int.natCast_one, Int.cast_ofNat_Int]; omega) | (simp [AV.ok, AV.ok1, AC.ok]; done) | (simp [AV.ok, AV.ok1, AC.ok]; omega) | (simp only [List.forall_mem_cons, List.not_mem_nil, false_implies, implies_true, and_true]; (repeat' apply And.intro) <;> first | exact okN_map (fun x => by simp [go_sem, AC.pure]) | exact okN_grO (fun x => by simp [go_sem, AC.pure]) | (simp [AObj.okN, AC.ok]; done) | (simp [AObj.okN, AC.ok]; omega)) | (simp [*]; done) | grind)
        · simp (disch := first | omega | (simp only [go_sem]; first | done | omega)) only [go_sem]
          refine odd_a s zs (j2 + 1 + 1) 0 50 (by first | exact hs | exact hs.app _ | exact hs.set (by omega) (by omega) | exact (hs.set (by omega) (by omega)).app _) (by omega) (by omega) (by omega) (by omega) (fun r1 j4 g1 g2 g3 => ?_)
          simp (disch := first | omega | (simp only [go_sem]; first | done | omega)) only [go_sem]
          refine odd_a s zs j4 1 60 (by first | exact hs | exact hs.app _ | exact hs.set (by omega) (by omega) | exact (hs.set (by omega) (by omega)).app _) (by omega) (by omega) (by omega) (by omega) (fun r2 j5 g4 g5 g6 => ?_)
          simp (disch := first | omega | (simp only [go_sem]; first | done | omega)) only [go_sem]
          refine odd_a s zs j5 0 2 (by first | exact hs | exact hs.app _ | exact hs.set (by omega) (by omega) | exact (hs.set (by omega) (by omega)).app _) (by omega) (by omega) (by omega) (by omega) (fun r3 j6 g7 g8 g9 => ?_)
          simp (disch := first | omega | (simp only [go_sem]; first | done | omega)) only [go_sem]
          clear g3 g6 g9
          have hHs : HOk (H.set s (strO zs j6)) := HOk.str hH
          exact Next.mk (⟨y.by_, y.no, y.made, y.kind, y.s, y.t, r1, r2, r3⟩, j6) ⟨⟨h1, h2, h3⟩, by dsimp only; omega, by dsimp only; omega⟩ (by (try simp (disch := first | omega | (simp only [go_sem]; first | done | omega)) only [go_sem]); (first | refine WkL.eq ?_ ?_ | refine WkL.rest (by assumption) ?_ ?_ ?_ | refine WkL.keepL (by assumption) rfl ?_ ?_ ?_ ?_) <;> first | rfl | (simp; done) | (simp; omega) | (simp only [List.cons.injEq, AV.c.injEq, AC.int.injEq, AC.bool.injEq, AC.str.injEq, and_true, true_and, Int.natCast_add, Int.natCast_one, Int.cast_ofNat_Int]; omega) | (simp [AV.ok, AV.ok1, AC.ok]; done) | (simp [AV.ok, AV.ok1, AC.ok]; omega) | (simp only [List.forall_mem_cons, List.not_mem_nil, false_implies, implies_true, and_true]; (repeat' apply And.intro) <;> first | exact okN_map (fun x => by simp [go_sem, AC.pure]) | exact okN_grO (fun x => by simp [go_sem, AC.pure]) | (simp [AObj.okN, AC.ok]; done) | (simp [AObj.okN, AC.ok]; omega)) | (simp [*]; done) | grind)
      · simp (disch := first | omega | (simp only [go_sem]; first | done | omega)) only [go_sem]
        exact Next.mk (y, j2 + 1) ⟨⟨h1, h2, h3⟩, by dsimp only; omega, by dsimp only; omega⟩ (by (try simp (disch := first | omega | (simp only [go_sem]; first | done | omega)) only [go_sem]); (first | refine WkL.eq ?_ ?_ | refine WkL.rest (by assumption) ?_ ?_ ?_ | refine WkL.keepL (by assumption) rfl ?_ ?_ ?_ ?_) <;> first | rfl | (simp; done) | (simp; omega) | (simp only [List.cons.injEq, AV.c.injEq, AC.int.injEq, AC.bool.injEq, AC.str.injEq, and_true, true_and, Int.natCast_add, Int.natCast_one, Int.cast_ofNat_Int]; omega) | (simp [AV.ok, AV.ok1, AC.ok]; done) | (simp [AV.ok, AV.ok1, AC.ok]; omega) | (simp only [List.forall_mem_cons, List.not_mem_nil, false_implies, implies_true, and_true]; (repeat' apply And.intro) <;> first | exact okN_map (fun x => by simp [go_sem, AC.pure]) | exact okN_grO (fun x => by simp [go_sem, AC.pure]) | (simp [AObj.okN, AC.ok]; done) | (simp [AObj.okN, AC.ok]; omega)) | (simp [*]; done) | grind)
    obtain ⟨z, j3⟩ := u
    obtain ⟨v1, v2, v3⟩ := hu
    dsimp only at v1 v2 v3 ⊢
    have hll : l.length ≤ 10 := by omega
    clear u1
    refine SWp.of (by kernel_rfl) ?_
    simp (disch := first | omega | (simp only [go_sem]; first | done | omega)) only [go_sem]
    refine appFx l z (l ++ [z]) rfl (by first | exact at1 (by simp) | exact at1 (by omega)) (by first | exact at3 (by simp) | exact at3 (by omega)) (by omega) ?_
    simp (disch := first | omega | (simp only [go_sem]; first | done | omega)) only [go_sem]
    refine SWp.of (by kernel_rfl) ?_
    simp (disch := first | omega | (simp only [go_sem]; first | done | omega)) only [go_sem]
    refine Next.mk (k + 1, l ++ [z], md + d, m2, j3) ?_ ?_
    · refine ⟨⟨by dsimp only; omega, by simp [q2], fun y hy => ?_, ⟨by dsimp only; omega, by dsimp only; omega⟩, by simpa using hqm2, by dsimp only; omega, by dsimp only; omega⟩, by dsimp only; omega⟩
      rcases List.mem_append.1 hy with h | h
      · exact q3 y h
      · simp only [List.mem_singleton] at h; subst h; exact v1
    · ((try simp (disch := first | omega | (simp only [go_sem]; first | done | omega)) only [go_sem]); (first | refine WkL.pickAt [_] [0] ?_ ?_ ?_ rfl ?_ ?_ ?_ ?_ | refine WkL.pickAt [_] [1] ?_ ?_ ?_ rfl ?_ ?_ ?_ ?_ | refine WkL.pickAt [_] [2] ?_ ?_ ?_ rfl ?_ ?_ ?_ ?_ | refine WkL.pickAt [_] [3] ?_ ?_ ?_ rfl ?_ ?_ ?_ ?_ | refine WkL.pickAt [_] [4] ?_ ?_ ?_ rfl ?_ ?_ ?_ ?_ | refine WkL.pickAt [_] [5] ?_ ?_ ?_ rfl ?_ ?_ ?_ ?_ | refine WkL.pickAt [_] [6] ?_ ?_ ?_ rfl ?_ ?_ ?_ ?_ | refine WkL.pickAt [_] [7] ?_ ?_ ?_ rfl ?_ ?_ ?_ ?_ | refine WkL.pickAt [_] [8] ?_ ?_ ?_ rfl ?_ ?_ ?_ ?_ | refine WkL.pickAt [_] [9] ?_ ?_ ?_ rfl ?_ ?_ ?_ ?_ | refine WkL.pickAt [_] [10] ?_ ?_ ?_ rfl ?_ ?_ ?_ ?_ | refine WkL.pickAt [_] [11] ?_ ?_ ?_ rfl ?_ ?_ ?_ ?_ | refine WkL.pickAt [_] [12] ?_ ?_ ?_ rfl ?_ ?_ ?_ ?_ | refine WkL.pickAt [_] [13] ?_ ?_ ?_ rfl ?_ ?_ ?_ ?_ | refine WkL.pickAt [_] [14] ?_ ?_ ?_ rfl ?_ ?_ ?_ ?_ | refine WkL.pickAt [_] [15] ?_ ?_ ?_ rfl ?_ ?_ ?_ ?_ | refine WkL.pickAt [_] [16] ?_ ?_ ?_ rfl ?_ ?_ ?_ ?_ | refine WkL.pickAt [_] [17] ?_ ?_ ?_ rfl ?_ ?_ ?_ ?_) <;> first | assumption | exact HOk.str (by assumption) | (simp; done) | (simp; omega) | (simp [pureO_gr, AObj.pureO, pureL, go_sem, AC.pure]; done) | (simp only [List.all_cons, List.all_nil, Bool.and_true]; exact pureO_gr (pureL_map _ (fun x => by simp [go_sem, AC.pure]))) | ((try simp only [List.map_cons, List.map_nil, av_ren_gr]); simp [AV.ren, AV.ren1, AC.ren, renP, pickS]; first | done | omega) | (simp only [List.forall_mem_cons, List.not_mem_nil, false_implies, implies_true, and_true]; (repeat' apply And.intro) <;> first | trivial | exact grV_ok (by simp) _ | exact okN_grO (fun x => by simp [go_sem, AC.pure]) | exact okN_map (fun x => by simp [go_sem, AC.pure]) | (simp [AV.ok, AV.ok1, AC.ok]; done) | (simp [AV.ok, AV.ok1, AC.ok]; omega) | (simp [AObj.okN, AC.ok]; done)) | (simp [AObj.okN]; done))
  · refine SWp.go (by kernel_rfl) ?_
    simp (disch := first | omega | (simp only [go_sem]; first | done | omega)) only [go_sem, hkl]
    refine SWp.go (by kernel_rfl) ?_
    simp (disch := first | omega | (simp only [go_sem]; first | done | omega)) only [go_sem]
    refine SWp.of (by kernel_rfl) ?_
    simp (disch := first | omega | (simp only [go_sem]; first | done | omega)) only [go_sem]
    have hP : ∀ x ∈ l, fxOk x := fun x hx => (q3 x hx).ok
    have hll : l.length ≤ 10 := by omega
    refine sortStableFx_a cmpFixOrder l (by first | ((repeat first | exact at0 (by simp) | refine atS ?_); done) | assumption) (by omega) hP ?_
    simp (disch := first | omega | (simp only [go_sem]; first | done | omega)) only [go_sem]
    have hil := isortG_len fxLt l
    have hmem := isortG_mem fxLt l
    rw [grV_lenX _ l (isortG fxLt l) hil.symm]
    have hP2 : ∀ x ∈ isortG fxLt l, fxFine x := fun x hx => q3 x ((hmem x).1 hx)
    generalize isortG fxLt l = l2 at *
    exact Ret.frzGr 1 (HOk.str hH) (by simp) rfl (pureL_map _ (fun x => by simp [go_sem, AC.pure])) (by rw [map_grV]; simp) (hk l2 j1 q6 (by omega) (by omega) hP2)
end Go.Proofs.YtgcjenfdndhhpaaGreatDoor
