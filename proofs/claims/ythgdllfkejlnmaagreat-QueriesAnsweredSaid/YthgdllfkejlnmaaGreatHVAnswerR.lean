/- The coarsest level that answers a query: the document's answer. Condition: few holds, numbers as those of levels. -/
import Derived.Test.YthgdllfkejlnmaaGreatHVEndsR
import Derived.Test.YthgdllfkejlnmaaGreatHVBack
namespace Go.Proofs.YthgdllfkejlnmaaGreat
open Go Go.RowKit
set_option maxRecDepth 100000
set_option linter.all false
set_option maxHeartbeats 2000000
variable {H : Hp} {K : AV → Hp → Prop}
theorem backward_a (lv : List Level)
    (hk : K (.c (.fn 167 [] [(H.length, 0, 0)])) (H ++ [.row 26 1 [[.lst 2 (lv.map encL)]] false])) :
    ACalls Tryz.prog 99 [.c (.lst 2 (lv.map encL))] H K := by
  refine acalls Tryz.func99 rfl (by kernel_rfl) (by simp (disch := first | omega | (simp only [go_sem]; first | done | omega)) only [go_sem]) (fun hH => ?_)
  simp (disch := first | omega | (simp only [go_sem]; first | done | omega)) only [go_sem]
  refine Ret.frz (i := H.length) (by first | exact at0 (by simp) | exact at1 (by simp) | exact at2 (by simp) | exact at3 (by simp) | exact at4 (by simp) | exact at5 (by simp) | exact atG 6 (by simp) rfl | exact atG 7 (by simp) rfl | exact atG 8 (by simp) rfl | exact atG 9 (by simp) rfl | exact atG 10 (by simp) rfl | exact atG 11 (by simp) rfl | exact atG 12 (by simp) rfl | exact atG 13 (by simp) rfl | exact atG 14 (by simp) rfl | exact atG 15 (by simp) rfl | assumption) (by simp [pureL, AC.pure]) (by simp) ?_
  rw [List.set_append_right _ _ (Nat.le_refl _), Nat.sub_self, List.set_cons_zero]
  exact Ret.same (by simp) hk
/-- a row gets a name of its own anew -/
theorem WkL.moveL {H : Hp} {m i ty sz : Nat} {els : List (List AC)} {own : Bool} {vs vs' : List AV} (hi : H[i]? = some (.row ty sz els own)) (hp : pureL els = true) (hm : m ≤ H.length) (hH : HOk H) (hv : vs = vs'.map (AV.ren (fun j => if j = H.length then i else j))) (ho : ∀ x ∈ vs', x.ok (H.length + 1)) :
    WkL m vs H vs' (H.set i .dead ++ [.row ty sz els own]) := by
  have hlt := getElem?_lt hi
  have hlo : ∀ j, j < H.length → (fun j => if j = H.length then i else j) j = j := fun j hj => by simp; omega
  have hlen : (H.set i .dead ++ [AObj.row ty sz els own]).length = H.length + 1 := by simp
  have hok : HOk (H.set i .dead ++ [.row ty sz els own]) := HOk.app (HOk.set hH (o := .dead) trivial) (fun e he => ⟨(hH i _ hi e he).1, fun x hx => AC.ok_of_pure (List.all_eq_true.1 (List.all_eq_true.1 hp e he) x hx) _⟩)
  refine WkL.renL (fun j => if j = H.length then i else j) (fun j hj => hlo j (by omega)) (by omega) (fun j o hj hl => ?_) (fun j k o o' hj hl hk hl' e => ?_) hv (by intro x hx; rw [hlen]; exact ho x hx) hok
  · rcases Nat.lt_or_ge j H.length with h | h
    · rw [List.getElem?_append_left (by simpa using h)] at hj
      rw [if_neg (show ¬j = H.length by omega)]
      by_cases e : i = j
      · subst e; rw [List.getElem?_set_self hlt] at hj; injection hj with hj; subst hj; cases hl
      · rw [List.getElem?_set_ne e] at hj
        rw [AObj.ren_id (n := H.length) hlo (hH j o hj), hj]
    · obtain rfl : j = H.length := by have := getElem?_lt hj; omega
      rw [List.getElem?_append_right (by simp)] at hj
      simp at hj
      subst hj
      simp only [if_true]
      rw [pureO_ren (by exact hp)]; exact hi
  · have live : ∀ (q : Nat) (o : AObj), (H.set i .dead ++ [AObj.row ty sz els own])[q]? = some o → o.live = true → q ≠ i := by
      rintro q o hq hl rfl
      rw [List.getElem?_append_left (by simpa using hlt), List.getElem?_set_self hlt] at hq
      injection hq with hq; subst hq; cases hl
    have a1 := live j o hj hl
    have a2 := live k o' hk hl'
    have b1 := getElem?_lt hj
    have b2 := getElem?_lt hk
    split at e <;> split at e <;> omega
theorem WkL.hok {m : Nat} {vs vs' : List AV} {H G : Hp} (h : HOk H → WkL m vs H vs' G) : WkL m vs H vs' G := fun B w0 ι w zs hs => h hs.hok B w0 ι w zs hs
theorem WkL.moveG {α : Type} {H : Hp} {m i ty sz : Nat} {l : List α} {els : List (List AC)} (us : List AV) (hi : H[i]? = some (grO ty sz els)) (hl : l.length = els.length) (hp : pureL els = true) (hm : m ≤ H.length + 1) (hm2 : m ≤ H.length) (hu : us.map (AV.ren (fun j => if j = H.length then i else j)) = us) (ho : ∀ x ∈ us, x.ok (H.length + 1)) {vs vs' : List AV} {G : Hp} (e1 : vs = us ++ [.c (grV i l)]) (e2 : us ++ [.c (grV H.length l)] = vs') (e3 : H.set i .dead ++ [grO ty sz els] = G) :
    WkL m vs H vs' G := by
  subst e1; subst e2; subst e3
  refine WkL.hok fun hH => ?_
  cases els with
  | nil =>
    have h0 : l = [] := List.length_eq_zero_iff.1 hl
    subst h0
    rw [set_same (o := .dead) hi]
    exact WkL.pad hm2
  | cons y ys =>
    have h0 : l ≠ [] := by rintro rfl; simp at hl
    rw [grV_pos _ h0, grV_pos _ h0]
    refine WkL.moveL hi hp hm2 hH ?_ ?_
    · rw [List.map_append, hu]
      simp [AV.ren, AV.ren1, AC.ren]
    · intro x hx
      rcases List.mem_append.1 hx with hx | hx
      · exact ho x hx
      · simp at hx; subst hx; simp [AV.ok, AV.ok1, AC.ok]
/-- the moments, hold by hold -/
def moK (n : Int) (w : Win) (l : List Hold) : List Int := [w.a, w.b - 1] ++ l.flatMap (momsH n w)
theorem moK_next (n : Int) (w : Win) {h : List Hold} {k : Nat} (hk : k < h.length) : moK n w (h.take (k + 1)) = moK n w (h.take k) ++ momsH n w h[k] := by
  unfold moK
  rw [List.take_succ_eq_append_getElem hk, List.flatMap_append]
  simp
theorem moK_len (n : Int) (w : Win) (l : List Hold) : (moK n w l).length ≤ 2 + 6 * l.length := by
  unfold moK
  rw [List.length_append]
  have key : ∀ l : List Hold, (l.flatMap (momsH n w)).length ≤ 6 * l.length := by
    intro l
    induction l with
    | nil => simp
    | cons y l ih =>
      rw [List.flatMap_cons, List.length_append, List.length_cons]
      have : (momsH n w y).length ≤ 6 := List.length_filter_le _ _
      omega
  have := key l
  simp only [List.length_cons, List.length_nil]
  omega
theorem take_filter {α : Type} (p : α → Bool) {l : List α} {j : Nat} (h : j < l.length) : (l.take (j + 1)).filter p = (l.take j).filter p ++ (if p l[j] = true then [l[j]] else []) := by
  rw [List.take_succ_eq_append_getElem h, List.filter_append]
  congr 1
  by_cases c : p l[j] = true <;> simp [c]
def okR (h : List Hold) (tag : ByteArray) (w : Win) (step t : Int) (x : Level) : Bool := fitsL x w step && !(momsR x h w t).any (fun m => !keepRB x h tag m t)
theorem aoR_a {i j k q ty ty2 ty3 ty4 : Nat} {o o2 o3 o4 : Bool} (x : Level) (h : List Hold) (tag : ByteArray) (m t : Int) (hi : H[i]? = some (.row ty 2 [encL x] o)) (hj : H[j]? = some (.row ty2 1 [[.lst 6 (h.map encH)]] o2)) (hq : H[k]? = some (.row ty3 1 [[.str tag]] o3)) (hr : H[q]? = some (.row ty4 1 [[.int .i64 t]] o4)) (hx : x.ok) (hlen : h.length ≤ 12) (hn : ∀ y ∈ h, y.near) (hm : 0 ≤ m) (hm2 : m ≤ 400000000000) (hk : K (.c (.bool (!keepRB x h tag m t))) H) : ACalls Tryz.prog 101 [(.c (.int .i64 m)), .c (.ptr (some (i, 0, 0))), .c (.ptr (some (j, 0, 0))), .c (.ptr (some (k, 0, 0))), .c (.ptr (some (q, 0, 0)))] H K := by
  have hi1 := getElem?_lt hi
  have hj1 := getElem?_lt hj
  have hq1 := getElem?_lt hq
  have hr1 := getElem?_lt hr
  refine acalls Tryz.func101 rfl (by kernel_rfl) (by simp (disch := first | omega | (simp only [go_sem]; first | done | omega)) only [go_sem]) (fun hH => ?_)
  simp (disch := first | omega | (simp only [go_sem]; first | done | omega)) only [go_sem, hi, hj, hq, hr]
  refine keepsR_a x h tag m t hx hlen hn hm hm2 ?_
  simp (disch := first | omega | (simp only [go_sem]; first | done | omega)) only [go_sem, hi, hj, hq, hr]
  exact Ret.same (Nat.le_refl _) hk
theorem answerOf_a (lv : List Level) (h : List Hold) (tag : ByteArray) (w : Win) (step t : Int) (hl : lv.length ≤ 1000) (hx : ∀ x ∈ lv, x.ok) (hlen : h.length ≤ 12) (hnr : ∀ y ∈ h, y.near) (hht : ∀ y ∈ h, y.t0 < y.t1 ∧ 0 ≤ y.t0 ∧ y.t1 ≤ 345686400000 ∧ 0 ≤ y.made ∧ y.made < y.ends ∧ y.ends ≤ 345686400000)
    (hw0 : 0 ≤ w.a) (hw1 : w.a < w.b) (hw2 : w.b ≤ t) (ht1 : t ≤ 345686399999) (hs1 : 1 ≤ step) (hs2 : step ≤ 86400000)
    (hk : K (.tup [(.c (.int .i64 ((ansGo (fun k => (lv[k]?).any (okR h tag w step t)) lv.length).1))), (.c (.bool ((ansGo (fun k => (lv[k]?).any (okR h tag w step t)) lv.length).2)))]) H) : ACalls Tryz.prog 27 [.c (.lst 2 (lv.map encL)), .c (.lst 6 (h.map encH)), (.c (.str tag)), .agg (encW w), (.c (.int .i64 step)), (.c (.int .i64 t))] H K := by
  obtain ⟨p, hp⟩ : ∃ p : Nat → Bool, p = fun k => (lv[k]?).any (okR h tag w step t) := ⟨_, rfl⟩
  rw [← hp] at hk
  refine acallsT Tryz.func27 rfl (by simp (disch := first | omega | (simp only [go_sem]; first | done | omega)) only [go_sem]) (fun hH => ?_)
  refine TWp.go (by kernel_rfl) ?_
  simp (disch := first | omega | (simp only [go_sem]; first | done | omega)) only [go_sem]
  refine TWp.then ?_
  refine TWp.go (by kernel_rfl) ?_
  simp (disch := first | omega | (simp only [go_sem]; first | done | omega)) only [go_sem]
  refine backward_a lv ?_
  simp (disch := first | omega | (simp only [go_sem]; first | done | omega)) only [go_sem]
  refine TWp.inB ?_
  refine TWp.range (hp := fun _ => H ++ [.row 28 1 [[.lst 6 (h.map encH)]] true, .row 9 1 [[.str tag]] true, .row 35 2 [encW w] true, .row 3 1 [[.int .i64 step]] true, .row 3 1 [[.int .i64 t]] true, .row 3 1 [[.int .i64 0]] true, .row 4 1 [[.bool false]] true, .row 26 1 [[.lst 2 (lv.map encL)]] false]) (inv := fun pre => pre.length ≤ lv.length ∧ ansGo p (lv.length - pre.length) = ansGo p lv.length) (by simp (disch := first | omega | (simp only [go_sem]; first | done | omega)) only [go_sem]) (by kernel_rfl) (back_iter (H.length + 7) lv 26 (by omega) (by first | exact at0 (by simp) | exact at1 (by simp) | exact at2 (by simp) | exact at3 (by simp) | exact at4 (by simp) | exact at5 (by simp) | exact atG 6 (by simp) rfl | exact atG 7 (by simp) rfl | exact atG 8 (by simp) rfl | exact atG 9 (by simp) rfl | exact atG 10 (by simp) rfl | exact atG 11 (by simp) rfl | exact atG 12 (by simp) rfl | exact atG 13 (by simp) rfl | exact atG 14 (by simp) rfl | exact atG 15 (by simp) rfl | assumption)) (fun _ => rfl) (by simp) (by simp [AV.ok1, AC.ok, encL]) (by simp) ⟨by simp, by simp⟩ ?_ (fun pre x hinv hN _ _ => ?_) (fun xs hS hinv _ _ => ?_)
  · simp (disch := first | omega | (simp only [go_sem]; first | done | omega)) only [go_sem]
    exact WkL.refl (by simp)
  · obtain ⟨hN1, hN2⟩ := hN
    obtain ⟨hI1, hI2⟩ := hinv
    obtain ⟨q, hq⟩ : ∃ q, lv.length = q + 1 + pre.length := ⟨lv.length - 1 - pre.length, by omega⟩
    have hx1 : lvAt lv x = lv[q] := by
      unfold lvAt
      rw [show lv.length - 1 - x = q by omega]
      simp [List.getD, show q < lv.length by omega]
    have hx2 : (lv.length : Int) - 1 - x = (q : Int) := by omega
    rw [hx1, hx2]
    have hpq : p q = okR h tag w step t lv[q] := by rw [hp]; simp [List.getElem?_eq_getElem (show q < lv.length by omega)]
    have hok := hx lv[q] (List.getElem_mem (by omega))
    have hx' := hok
    rw [show lv.length - pre.length = q + 1 by omega] at hI2
    obtain ⟨x0, x1, x2, x3⟩ := hok
    obtain ⟨n, hn⟩ : ∃ n, max 1 lv[q].step = n := ⟨_, rfl⟩
    have hln : longL lv[q] = n := hn
    have hn1 : 1 ≤ n := by omega
    have hn2 : n ≤ 86400000 := by omega
    have hgo : p q = false → ansGo p (lv.length - (pre ++ [x]).length) = ansGo p lv.length := fun h => by
      rw [← hI2, show lv.length - (pre ++ [x]).length = q by simp; omega]
      show _ = if p q = true then _ else _
      rw [if_neg (by rw [h]; decide)]
    have hnot : ¬(step % n = 0 ∧ w.a % n = 0 ∧ w.b % n = 0) → p q = false := fun h => by
      rw [hpq]; unfold okR fitsL; rw [hln, decide_eq_false h]; rfl
    have hyes : step % n = 0 → w.a % n = 0 → w.b % n = 0 → p q = !(momsR lv[q] h w t).any (fun m => !keepRB lv[q] h tag m t) := fun g1 g2 g3 => by
      rw [hpq]; unfold okR fitsL; rw [hln, decide_eq_true ⟨g1, g2, g3⟩]; rfl
    have hinv2 : (pre ++ [x]).length ≤ lv.length := by simp; omega
    refine SWp.of (by kernel_rfl) ?_
    simp (disch := first | omega | (simp only [go_sem]; first | done | omega)) only [go_sem]
    refine SWp.of (by kernel_rfl) ?_
    by_cases c1 : step % n = 0
    case neg =>
      simp (disch := first | omega | (simp only [go_sem]; first | done | omega)) only [go_sem, hn, c1]
      exact ⟨⟨by simpa using hinv2, by simpa using hgo (hnot fun h => c1 h.1)⟩, by (try simp (disch := first | omega | (simp only [go_sem]; first | done | omega)) only [go_sem]); (first | refine WkL.eq ?_ ?_ | refine WkL.rest (by assumption) ?_ ?_ ?_ | refine WkL.keepL (by assumption) rfl ?_ ?_ ?_ ?_) <;> first | rfl | (simp; done) | (simp; omega) | (simp only [List.cons.injEq, AV.c.injEq, AC.int.injEq, AC.bool.injEq, AC.str.injEq, and_true, true_and, Int.natCast_add, Int.natCast_one, Int.cast_ofNat_Int]; omega) | (simp [AV.ok, AV.ok1, AC.ok]; done) | (simp [AV.ok, AV.ok1, AC.ok]; omega) | (simp only [List.forall_mem_cons, List.not_mem_nil, false_implies, implies_true, and_true]; (repeat' apply And.intro) <;> first | exact okN_map (fun x => by simp [go_sem, AC.pure]) | exact okN_grO (fun x => by simp [go_sem, AC.pure]) | (simp [AObj.okN, AC.ok]; done) | (simp [AObj.okN, AC.ok]; omega)) | (simp [*]; done) | grind⟩
    by_cases c2 : w.a % n = 0
    case neg =>
      simp (disch := first | omega | (simp only [go_sem]; first | done | omega)) only [go_sem, hn, c1, c2]
      exact ⟨⟨by simpa using hinv2, by simpa using hgo (hnot fun h => c2 h.2.1)⟩, by (try simp (disch := first | omega | (simp only [go_sem]; first | done | omega)) only [go_sem]); (first | refine WkL.eq ?_ ?_ | refine WkL.rest (by assumption) ?_ ?_ ?_ | refine WkL.keepL (by assumption) rfl ?_ ?_ ?_ ?_) <;> first | rfl | (simp; done) | (simp; omega) | (simp only [List.cons.injEq, AV.c.injEq, AC.int.injEq, AC.bool.injEq, AC.str.injEq, and_true, true_and, Int.natCast_add, Int.natCast_one, Int.cast_ofNat_Int]; omega) | (simp [AV.ok, AV.ok1, AC.ok]; done) | (simp [AV.ok, AV.ok1, AC.ok]; omega) | (simp only [List.forall_mem_cons, List.not_mem_nil, false_implies, implies_true, and_true]; (repeat' apply And.intro) <;> first | exact okN_map (fun x => by simp [go_sem, AC.pure]) | exact okN_grO (fun x => by simp [go_sem, AC.pure]) | (simp [AObj.okN, AC.ok]; done) | (simp [AObj.okN, AC.ok]; omega)) | (simp [*]; done) | grind⟩
    by_cases c3 : w.b % n = 0
    case neg =>
      simp (disch := first | omega | (simp only [go_sem]; first | done | omega)) only [go_sem, hn, c1, c2, c3]
      exact ⟨⟨by simpa using hinv2, by simpa using hgo (hnot fun h => c3 h.2.2)⟩, by (try simp (disch := first | omega | (simp only [go_sem]; first | done | omega)) only [go_sem]); (first | refine WkL.eq ?_ ?_ | refine WkL.rest (by assumption) ?_ ?_ ?_ | refine WkL.keepL (by assumption) rfl ?_ ?_ ?_ ?_) <;> first | rfl | (simp; done) | (simp; omega) | (simp only [List.cons.injEq, AV.c.injEq, AC.int.injEq, AC.bool.injEq, AC.str.injEq, and_true, true_and, Int.natCast_add, Int.natCast_one, Int.cast_ofNat_Int]; omega) | (simp [AV.ok, AV.ok1, AC.ok]; done) | (simp [AV.ok, AV.ok1, AC.ok]; omega) | (simp only [List.forall_mem_cons, List.not_mem_nil, false_implies, implies_true, and_true]; (repeat' apply And.intro) <;> first | exact okN_map (fun x => by simp [go_sem, AC.pure]) | exact okN_grO (fun x => by simp [go_sem, AC.pure]) | (simp [AObj.okN, AC.ok]; done) | (simp [AObj.okN, AC.ok]; omega)) | (simp [*]; done) | grind⟩
    have hy := hyes c1 c2 c3
    clear hnot hyes
    simp (disch := first | omega | (simp only [go_sem]; first | done | omega)) only [go_sem, hn, c1, c2, c3]
    refine AWp.loop (H.length + 9) [7, 8, 9, 11, 12, 13, 14, 15, 16, 55, 56] [57, 17] (fun (k : Nat) => k ≤ h.length) (fun (k : Nat) => [(57, (.c (.int .i64 k))), (17, .c (grV (H.length + 9) (moK n w (h.take k))))]) (fun (k : Nat) => H ++ [.row 28 1 [[.lst 6 (h.map encH)]] true, .row 9 1 [[.str tag]] true, .row 35 2 [encW w] true, .row 3 1 [[.int .i64 step]] true, .row 3 1 [[.int .i64 t]] true, .row 3 1 [[.int .i64 0]] true, .row 4 1 [[.bool false]] true, .row 26 1 [[.lst 2 (lv.map encL)]] false, .row 127 2 [encL lv[q]] true, grO 3 1 ((moK n w (h.take k)).map encI)]) (fun (k : Nat) => h.length - k) (by kernel_rfl) (fun _ => rfl) (by kernel_rfl) (by simp) (by first | (simp; done) | (simp; omega)) (by (try simp only [List.forall_mem_cons, List.not_mem_nil, false_implies, implies_true, and_true]); (try simp (disch := first | omega | (simp only [go_sem]; first | done | omega)) only [go_sem]); all_goals first | trivial | (simp [AV.ok, AV.ok1, AC.ok]; done) | (simp [AV.ok, AV.ok1, AC.ok]; omega) | (simp [AV.ok, AV.ok1, AC.ok]; assumption) | ((repeat' apply And.intro) <;> first | trivial | (simp [AV.ok, AV.ok1, AC.ok]; done) | (simp [AV.ok, AV.ok1, AC.ok]; omega) | (simp [AV.ok, AV.ok1, AC.ok]; assumption) | (refine grV_ok ?_ _; first | (simp; done) | (simp; omega) | omega))) ?_ (fun k hk1 _ _ => ?_)
    · refine Next.mk 0 (by omega) ?_
      rw [show moK n w (h.take 0) = [w.a, w.b - 1] by simp [moK]]
      simp (disch := first | omega | (simp only [go_sem]; first | done | omega)) only [go_sem]
      exact WkL.refl (by simp)
    have hTl := moK_len n w (h.take k)
    have htk : (h.take k).length ≤ h.length := by rw [List.length_take]; omega
    by_cases hlt : k < h.length
    · have hnx := moK_next n w hlt
      generalize moK n w (h.take k) = T at *
      have hhk := hht h[k] (List.getElem_mem hlt)
      simp (disch := first | omega | (simp only [go_sem]; first | done | omega)) only [go_sem]
      obtain ⟨Z, hZ⟩ : ∃ Z : List Int, Z = [h[k].t0 - n, h[k].t0 - 1, h[k].t0, h[k].t1 - 1, h[k].t1, h[k].t1 + n] := ⟨_, rfl⟩
      have hZl : Z.length = 6 := by rw [hZ]; rfl
      have hZm : momsH n w h[k] = Z.filter (inW w) := by rw [hZ]; rfl
      have hZb : ∀ z ∈ Z, -1000000000000 ≤ z ∧ z ≤ 1000000000000 := by
        intro z hz
        rw [hZ] at hz
        simp only [List.mem_cons, List.not_mem_nil, or_false] at hz
        omega
      have hZr : Z.map encI = [[.int .i64 (h[k].t0 - n)], [.int .i64 (h[k].t0 - 1)], [.int .i64 h[k].t0], [.int .i64 (h[k].t1 - 1)], [.int .i64 h[k].t1], [.int .i64 (h[k].t1 + n)]] := by rw [hZ]; rfl
      rw [← hZr]
      clear hZ hZr
      refine AWp.loop (H.length + 12) [7, 8, 9, 11, 12, 13, 14, 15, 16, 55, 56, 57, 85, 86] [87, 17] (fun (j : Nat) => j ≤ 6) (fun (j : Nat) => [(87, (.c (.int .i64 j))), (17, .c (grV (H.length + 12) (T ++ (Z.take j).filter (inW w))))]) (fun (j : Nat) => H ++ [.row 28 1 [[.lst 6 (h.map encH)]] true, .row 9 1 [[.str tag]] true, .row 35 2 [encW w] true, .row 3 1 [[.int .i64 step]] true, .row 3 1 [[.int .i64 t]] true, .row 3 1 [[.int .i64 0]] true, .row 4 1 [[.bool false]] true, .row 26 1 [[.lst 2 (lv.map encL)]] false, .row 127 2 [encL lv[q]] true, .dead, .row 130 6 [encH h[k]] true, .row 3 1 (Z.map encI) true, grO 3 1 ((T ++ (Z.take j).filter (inW w)).map encI)]) (fun (j : Nat) => 6 - j) (by kernel_rfl) (fun _ => rfl) (by kernel_rfl) (by simp) (by first | (simp; done) | (simp; omega)) (by (try simp only [List.forall_mem_cons, List.not_mem_nil, false_implies, implies_true, and_true]); (try simp (disch := first | omega | (simp only [go_sem]; first | done | omega)) only [go_sem]); all_goals first | trivial | (simp [AV.ok, AV.ok1, AC.ok]; done) | (simp [AV.ok, AV.ok1, AC.ok]; omega) | (simp [AV.ok, AV.ok1, AC.ok]; assumption) | ((repeat' apply And.intro) <;> first | trivial | (simp [AV.ok, AV.ok1, AC.ok]; done) | (simp [AV.ok, AV.ok1, AC.ok]; omega) | (simp [AV.ok, AV.ok1, AC.ok]; assumption) | (refine grV_ok ?_ _; first | (simp; done) | (simp; omega) | omega))) ?_ (fun j hj1 _ _ => ?_)
      · refine Next.mk 0 (by omega) ?_
        simp only [List.take_zero, List.filter_nil, List.append_nil]
        (try simp (disch := first | omega | (simp only [go_sem]; first | done | omega)) only [go_sem])
        refine WkL.moveG (i := H.length + 9) (ty := 3) (sz := 1) (l := T) (els := T.map encI) [(.c (.int .i64 0))] (by first | exact at0 (by simp) | exact at1 (by simp) | exact at2 (by simp) | exact at3 (by simp) | exact at4 (by simp) | exact at5 (by simp) | exact atG 6 (by simp) rfl | exact atG 7 (by simp) rfl | exact atG 8 (by simp) rfl | exact atG 9 (by simp) rfl | exact atG 10 (by simp) rfl | exact atG 11 (by simp) rfl | exact atG 12 (by simp) rfl | exact atG 13 (by simp) rfl | exact atG 14 (by simp) rfl | exact atG 15 (by simp) rfl | assumption) (by simp) (pureL_map _ (fun x => by simp [go_sem, AC.pure])) (by simp) (by simp) (by simp [AV.ren, AV.ren1, AC.ren]) (by simp [AV.ok, AV.ok1, AC.ok]) rfl (by simp) (by simp (disch := first | omega | (simp only [go_sem]; first | done | omega)) only [go_sem])
      have hfl : ((Z.take j).filter (inW w)).length ≤ 6 := by
        have h1 := List.length_filter_le (inW w) (Z.take j)
        rw [List.length_take] at h1
        omega
      by_cases hj : j < 6
      · have htf := take_filter (inW w) (l := Z) (j := j) (by omega)
        have hzb := hZb Z[j] (List.getElem_mem (by omega))
        obtain ⟨T2, hT2⟩ : ∃ T2, T2 = T ++ (Z.take j).filter (inW w) := ⟨_, rfl⟩
        have hT2l : T2.length ≤ 1000 := by rw [hT2, List.length_append]; omega
        have htf2 : T ++ (Z.take (j + 1)).filter (inW w) = T2 ++ (if inW w Z[j] = true then [Z[j]] else []) := by rw [htf, hT2]; simp
        rw [← hT2]
        clear hT2 htf
        by_cases d1 : w.a ≤ Z[j]
        · by_cases d2 : Z[j] < w.b
          · rw [show inW w Z[j] = true from decide_eq_true ⟨d1, d2⟩, if_pos rfl] at htf2
            obtain ⟨T3, hT3⟩ : ∃ T3, T3 = T2 ++ [Z[j]] := ⟨_, rfl⟩
            rw [← hT3] at htf2
            simp (disch := first | omega | (simp only [go_sem]; first | done | omega)) only [go_sem, d1, d2]
            (refine app_gr (enc := encI) (e := 3) (sz := 1) (bs := 8) (z := [.int .i64 0]) (T2) (Z[j]) (by kernel_rfl) (by kernel_rfl) (by kernel_rfl) (by kernel_rfl) (by first | exact at0 (by simp) | exact at1 (by simp) | exact at2 (by simp) | exact at3 (by simp) | exact at4 (by simp) | exact at5 (by simp) | exact atG 6 (by simp) rfl | exact atG 7 (by simp) rfl | exact atG 8 (by simp) rfl | exact atG 9 (by simp) rfl | exact atG 10 (by simp) rfl | exact atG 11 (by simp) rfl | exact atG 12 (by simp) rfl | exact atG 13 (by simp) rfl | exact atG 14 (by simp) rfl | exact atG 15 (by simp) rfl | assumption) (by first | (simp (disch := first | omega | (simp only [go_sem]; first | done | omega)) only [go_sem]; done) | (simp (disch := first | omega | (simp only [go_sem]; first | done | omega)) only [go_sem]; rfl) | (simp (disch := first | omega | (simp only [go_sem]; first | done | omega)) only [go_sem]; simp [go_sem]; done) | (simp (disch := first | omega | (simp only [go_sem]; first | done | omega)) only [go_sem]; simp [*]; done)) rfl (by decide) (by omega) (by omega) (by rfl) ?_)
            rw [← hT3]
            simp (disch := first | omega | (simp only [go_sem]; first | done | omega)) only [go_sem]
            exact Next.mk (j + 1) ⟨by omega, by omega⟩ (by rw [htf2]; ((try simp (disch := first | omega | (simp only [go_sem]; first | done | omega)) only [go_sem]); (first | refine WkL.pickAt [_, _, _, _, _, _, _, _, _, _, _, _] [0] ?_ ?_ ?_ rfl ?_ ?_ ?_ ?_ | refine WkL.pickAt [_, _, _, _, _, _, _, _, _, _, _, _] [1] ?_ ?_ ?_ rfl ?_ ?_ ?_ ?_ | refine WkL.pickAt [_, _, _, _, _, _, _, _, _, _, _, _] [2] ?_ ?_ ?_ rfl ?_ ?_ ?_ ?_ | refine WkL.pickAt [_, _, _, _, _, _, _, _, _, _, _, _] [3] ?_ ?_ ?_ rfl ?_ ?_ ?_ ?_ | refine WkL.pickAt [_, _, _, _, _, _, _, _, _, _, _, _] [4] ?_ ?_ ?_ rfl ?_ ?_ ?_ ?_ | refine WkL.pickAt [_, _, _, _, _, _, _, _, _, _, _, _] [5] ?_ ?_ ?_ rfl ?_ ?_ ?_ ?_ | refine WkL.pickAt [_, _, _, _, _, _, _, _, _, _, _, _] [6] ?_ ?_ ?_ rfl ?_ ?_ ?_ ?_ | refine WkL.pickAt [_, _, _, _, _, _, _, _, _, _, _, _] [7] ?_ ?_ ?_ rfl ?_ ?_ ?_ ?_ | refine WkL.pickAt [_, _, _, _, _, _, _, _, _, _, _, _] [8] ?_ ?_ ?_ rfl ?_ ?_ ?_ ?_ | refine WkL.pickAt [_, _, _, _, _, _, _, _, _, _, _, _] [9] ?_ ?_ ?_ rfl ?_ ?_ ?_ ?_ | refine WkL.pickAt [_, _, _, _, _, _, _, _, _, _, _, _] [10] ?_ ?_ ?_ rfl ?_ ?_ ?_ ?_ | refine WkL.pickAt [_, _, _, _, _, _, _, _, _, _, _, _] [11] ?_ ?_ ?_ rfl ?_ ?_ ?_ ?_ | refine WkL.pickAt [_, _, _, _, _, _, _, _, _, _, _, _] [12] ?_ ?_ ?_ rfl ?_ ?_ ?_ ?_ | refine WkL.pickAt [_, _, _, _, _, _, _, _, _, _, _, _] [13] ?_ ?_ ?_ rfl ?_ ?_ ?_ ?_ | refine WkL.pickAt [_, _, _, _, _, _, _, _, _, _, _, _] [14] ?_ ?_ ?_ rfl ?_ ?_ ?_ ?_ | refine WkL.pickAt [_, _, _, _, _, _, _, _, _, _, _, _] [15] ?_ ?_ ?_ rfl ?_ ?_ ?_ ?_ | refine WkL.pickAt [_, _, _, _, _, _, _, _, _, _, _, _] [16] ?_ ?_ ?_ rfl ?_ ?_ ?_ ?_ | refine WkL.pickAt [_, _, _, _, _, _, _, _, _, _, _, _] [17] ?_ ?_ ?_ rfl ?_ ?_ ?_ ?_) <;> first | assumption | exact HOk.str (by assumption) | (simp; done) | (simp; omega) | (simp [pureO_gr, AObj.pureO, pureL, go_sem, AC.pure]; done) | (simp only [List.all_cons, List.all_nil, Bool.and_true]; exact pureO_gr (pureL_map _ (fun x => by simp [go_sem, AC.pure]))) | ((try simp only [List.map_cons, List.map_nil, av_ren_gr]); simp [AV.ren, AV.ren1, AC.ren, pickS]; first | done | omega) | (simp only [List.forall_mem_cons, List.not_mem_nil, false_implies, implies_true, and_true]; (repeat' apply And.intro) <;> first | trivial | exact grV_ok (by simp) _ | exact okN_grO (fun x => by simp [go_sem, AC.pure]) | exact okN_map (fun x => by simp [go_sem, AC.pure]) | (simp [AV.ok, AV.ok1, AC.ok]; done) | (simp [AV.ok, AV.ok1, AC.ok]; omega) | (simp [AObj.okN, AC.ok]; done)) | (simp [AObj.okN]; done)))
          · rw [show inW w Z[j] = false from decide_eq_false (fun h => d2 h.2), if_neg (by decide), List.append_nil] at htf2
            simp (disch := first | omega | (simp only [go_sem]; first | done | omega)) only [go_sem, d1, d2]
            exact Next.mk (j + 1) ⟨by omega, by omega⟩ (by rw [htf2]; (try simp (disch := first | omega | (simp only [go_sem]; first | done | omega)) only [go_sem]); (first | refine WkL.eq ?_ ?_ | refine WkL.rest (by assumption) ?_ ?_ ?_ | refine WkL.keepL (by assumption) rfl ?_ ?_ ?_ ?_) <;> first | rfl | (simp; done) | (simp; omega) | (simp only [List.cons.injEq, AV.c.injEq, AC.int.injEq, AC.bool.injEq, AC.str.injEq, and_true, true_and, Int.natCast_add, Int.natCast_one, Int.cast_ofNat_Int]; omega) | (simp [AV.ok, AV.ok1, AC.ok]; done) | (simp [AV.ok, AV.ok1, AC.ok]; omega) | (simp only [List.forall_mem_cons, List.not_mem_nil, false_implies, implies_true, and_true]; (repeat' apply And.intro) <;> first | exact okN_map (fun x => by simp [go_sem, AC.pure]) | exact okN_grO (fun x => by simp [go_sem, AC.pure]) | (simp [AObj.okN, AC.ok]; done) | (simp [AObj.okN, AC.ok]; omega)) | (simp [*]; done) | grind)
        · rw [show inW w Z[j] = false from decide_eq_false (fun h => d1 h.1), if_neg (by decide), List.append_nil] at htf2
          simp (disch := first | omega | (simp only [go_sem]; first | done | omega)) only [go_sem, d1]
          exact Next.mk (j + 1) ⟨by omega, by omega⟩ (by rw [htf2]; (try simp (disch := first | omega | (simp only [go_sem]; first | done | omega)) only [go_sem]); (first | refine WkL.eq ?_ ?_ | refine WkL.rest (by assumption) ?_ ?_ ?_ | refine WkL.keepL (by assumption) rfl ?_ ?_ ?_ ?_) <;> first | rfl | (simp; done) | (simp; omega) | (simp only [List.cons.injEq, AV.c.injEq, AC.int.injEq, AC.bool.injEq, AC.str.injEq, and_true, true_and, Int.natCast_add, Int.natCast_one, Int.cast_ofNat_Int]; omega) | (simp [AV.ok, AV.ok1, AC.ok]; done) | (simp [AV.ok, AV.ok1, AC.ok]; omega) | (simp only [List.forall_mem_cons, List.not_mem_nil, false_implies, implies_true, and_true]; (repeat' apply And.intro) <;> first | exact okN_map (fun x => by simp [go_sem, AC.pure]) | exact okN_grO (fun x => by simp [go_sem, AC.pure]) | (simp [AObj.okN, AC.ok]; done) | (simp [AObj.okN, AC.ok]; omega)) | (simp [*]; done) | grind)
      · rw [List.take_of_length_le (show Z.length ≤ j by omega), ← hZm, ← hnx]
        simp (disch := first | omega | (simp only [go_sem]; first | done | omega)) only [go_sem]
        refine Next.mk (k + 1) ⟨by omega, by omega⟩ ?_
        generalize moK n w (h.take (k + 1)) = T2 at *
        ((try simp (disch := first | omega | (simp only [go_sem]; first | done | omega)) only [go_sem]); (first | refine WkL.pickAt [_, _, _, _, _, _, _, _, _] [0] ?_ ?_ ?_ rfl ?_ ?_ ?_ ?_ | refine WkL.pickAt [_, _, _, _, _, _, _, _, _] [1] ?_ ?_ ?_ rfl ?_ ?_ ?_ ?_ | refine WkL.pickAt [_, _, _, _, _, _, _, _, _] [2] ?_ ?_ ?_ rfl ?_ ?_ ?_ ?_ | refine WkL.pickAt [_, _, _, _, _, _, _, _, _] [3] ?_ ?_ ?_ rfl ?_ ?_ ?_ ?_ | refine WkL.pickAt [_, _, _, _, _, _, _, _, _] [4] ?_ ?_ ?_ rfl ?_ ?_ ?_ ?_ | refine WkL.pickAt [_, _, _, _, _, _, _, _, _] [5] ?_ ?_ ?_ rfl ?_ ?_ ?_ ?_ | refine WkL.pickAt [_, _, _, _, _, _, _, _, _] [6] ?_ ?_ ?_ rfl ?_ ?_ ?_ ?_ | refine WkL.pickAt [_, _, _, _, _, _, _, _, _] [7] ?_ ?_ ?_ rfl ?_ ?_ ?_ ?_ | refine WkL.pickAt [_, _, _, _, _, _, _, _, _] [8] ?_ ?_ ?_ rfl ?_ ?_ ?_ ?_ | refine WkL.pickAt [_, _, _, _, _, _, _, _, _] [9] ?_ ?_ ?_ rfl ?_ ?_ ?_ ?_ | refine WkL.pickAt [_, _, _, _, _, _, _, _, _] [10] ?_ ?_ ?_ rfl ?_ ?_ ?_ ?_ | refine WkL.pickAt [_, _, _, _, _, _, _, _, _] [11] ?_ ?_ ?_ rfl ?_ ?_ ?_ ?_ | refine WkL.pickAt [_, _, _, _, _, _, _, _, _] [12] ?_ ?_ ?_ rfl ?_ ?_ ?_ ?_ | refine WkL.pickAt [_, _, _, _, _, _, _, _, _] [13] ?_ ?_ ?_ rfl ?_ ?_ ?_ ?_ | refine WkL.pickAt [_, _, _, _, _, _, _, _, _] [14] ?_ ?_ ?_ rfl ?_ ?_ ?_ ?_ | refine WkL.pickAt [_, _, _, _, _, _, _, _, _] [15] ?_ ?_ ?_ rfl ?_ ?_ ?_ ?_ | refine WkL.pickAt [_, _, _, _, _, _, _, _, _] [16] ?_ ?_ ?_ rfl ?_ ?_ ?_ ?_ | refine WkL.pickAt [_, _, _, _, _, _, _, _, _] [17] ?_ ?_ ?_ rfl ?_ ?_ ?_ ?_) <;> first | assumption | exact HOk.str (by assumption) | (simp; done) | (simp; omega) | (simp [pureO_gr, AObj.pureO, pureL, go_sem, AC.pure]; done) | (simp only [List.all_cons, List.all_nil, Bool.and_true]; exact pureO_gr (pureL_map _ (fun x => by simp [go_sem, AC.pure]))) | ((try simp only [List.map_cons, List.map_nil, av_ren_gr]); simp [AV.ren, AV.ren1, AC.ren, pickS]; first | done | omega) | (simp only [List.forall_mem_cons, List.not_mem_nil, false_implies, implies_true, and_true]; (repeat' apply And.intro) <;> first | trivial | exact grV_ok (by simp) _ | exact okN_grO (fun x => by simp [go_sem, AC.pure]) | exact okN_map (fun x => by simp [go_sem, AC.pure]) | (simp [AV.ok, AV.ok1, AC.ok]; done) | (simp [AV.ok, AV.ok1, AC.ok]; omega) | (simp [AObj.okN, AC.ok]; done)) | (simp [AObj.okN]; done))
    · rw [List.take_of_length_le (show h.length ≤ k by omega)] at hTl ⊢
      have hmR : momsR lv[q] h w t = moK n w h ++ momsA lv[q] w t := by unfold momsR moK; rw [hln]
      have hmin : ∀ m ∈ momsR lv[q] h w t, w.a ≤ m ∧ m < w.b := fun m hm => momsR_in hw1 hm
      generalize moK n w h = T at *
      simp (disch := first | omega | (simp only [go_sem]; first | done | omega)) only [go_sem]
      obtain ⟨Z, hZ⟩ : ∃ Z : List Int, Z = [t - lv[q].keep - n - 1, t - lv[q].keep - n, t - lv[q].keep - 2, t - lv[q].keep - 1, t - lv[q].keep] := ⟨_, rfl⟩
      have hZl : Z.length = 5 := by rw [hZ]; rfl
      have hZm : momsA lv[q] w t = Z.filter (inW w) := by rw [hZ]; unfold momsA; rw [hln]
      have hZb : ∀ z ∈ Z, -1000000000000 ≤ z ∧ z ≤ 1000000000000 := by
        intro z hz
        rw [hZ] at hz
        simp only [List.mem_cons, List.not_mem_nil, or_false] at hz
        omega
      have hZr : Z.map encI = [[.int .i64 (t - lv[q].keep - n - 1)], [.int .i64 (t - lv[q].keep - n)], [.int .i64 (t - lv[q].keep - 2)], [.int .i64 (t - lv[q].keep - 1)], [.int .i64 (t - lv[q].keep)]] := by rw [hZ]; rfl
      rw [← hZr]
      clear hZ hZr
      refine AWp.loop (H.length + 11) [7, 8, 9, 11, 12, 13, 14, 15, 134, 135] [136, 17] (fun (j : Nat) => j ≤ 5) (fun (j : Nat) => [(136, (.c (.int .i64 j))), (17, .c (grV (H.length + 11) (T ++ (Z.take j).filter (inW w))))]) (fun (j : Nat) => H ++ [.row 28 1 [[.lst 6 (h.map encH)]] true, .row 9 1 [[.str tag]] true, .row 35 2 [encW w] true, .row 3 1 [[.int .i64 step]] true, .row 3 1 [[.int .i64 t]] true, .row 3 1 [[.int .i64 0]] true, .row 4 1 [[.bool false]] true, .row 26 1 [[.lst 2 (lv.map encL)]] false, .row 127 2 [encL lv[q]] true, .dead, .row 3 1 (Z.map encI) true, grO 3 1 ((T ++ (Z.take j).filter (inW w)).map encI)]) (fun (j : Nat) => 5 - j) (by kernel_rfl) (fun _ => rfl) (by kernel_rfl) (by simp) (by first | (simp; done) | (simp; omega)) (by (try simp only [List.forall_mem_cons, List.not_mem_nil, false_implies, implies_true, and_true]); (try simp (disch := first | omega | (simp only [go_sem]; first | done | omega)) only [go_sem]); all_goals first | trivial | (simp [AV.ok, AV.ok1, AC.ok]; done) | (simp [AV.ok, AV.ok1, AC.ok]; omega) | (simp [AV.ok, AV.ok1, AC.ok]; assumption) | ((repeat' apply And.intro) <;> first | trivial | (simp [AV.ok, AV.ok1, AC.ok]; done) | (simp [AV.ok, AV.ok1, AC.ok]; omega) | (simp [AV.ok, AV.ok1, AC.ok]; assumption) | (refine grV_ok ?_ _; first | (simp; done) | (simp; omega) | omega))) ?_ (fun j hj1 _ _ => ?_)
      · refine Next.mk 0 (by omega) ?_
        simp only [List.take_zero, List.filter_nil, List.append_nil]
        (try simp (disch := first | omega | (simp only [go_sem]; first | done | omega)) only [go_sem])
        refine WkL.moveG (i := H.length + 9) (ty := 3) (sz := 1) (l := T) (els := T.map encI) [(.c (.int .i64 0))] (by first | exact at0 (by simp) | exact at1 (by simp) | exact at2 (by simp) | exact at3 (by simp) | exact at4 (by simp) | exact at5 (by simp) | exact atG 6 (by simp) rfl | exact atG 7 (by simp) rfl | exact atG 8 (by simp) rfl | exact atG 9 (by simp) rfl | exact atG 10 (by simp) rfl | exact atG 11 (by simp) rfl | exact atG 12 (by simp) rfl | exact atG 13 (by simp) rfl | exact atG 14 (by simp) rfl | exact atG 15 (by simp) rfl | assumption) (by simp) (pureL_map _ (fun x => by simp [go_sem, AC.pure])) (by simp) (by simp) (by simp [AV.ren, AV.ren1, AC.ren]) (by simp [AV.ok, AV.ok1, AC.ok]) rfl (by simp) (by simp (disch := first | omega | (simp only [go_sem]; first | done | omega)) only [go_sem])
      have hfl : ((Z.take j).filter (inW w)).length ≤ 5 := by
        have h1 := List.length_filter_le (inW w) (Z.take j)
        rw [List.length_take] at h1
        omega
      by_cases hj : j < 5
      · have htf := take_filter (inW w) (l := Z) (j := j) (by omega)
        have hzb := hZb Z[j] (List.getElem_mem (by omega))
        obtain ⟨T2, hT2⟩ : ∃ T2, T2 = T ++ (Z.take j).filter (inW w) := ⟨_, rfl⟩
        have hT2l : T2.length ≤ 1000 := by rw [hT2, List.length_append]; omega
        have htf2 : T ++ (Z.take (j + 1)).filter (inW w) = T2 ++ (if inW w Z[j] = true then [Z[j]] else []) := by rw [htf, hT2]; simp
        rw [← hT2]
        clear hT2 htf
        by_cases d1 : w.a ≤ Z[j]
        · by_cases d2 : Z[j] < w.b
          · rw [show inW w Z[j] = true from decide_eq_true ⟨d1, d2⟩, if_pos rfl] at htf2
            obtain ⟨T3, hT3⟩ : ∃ T3, T3 = T2 ++ [Z[j]] := ⟨_, rfl⟩
            rw [← hT3] at htf2
            simp (disch := first | omega | (simp only [go_sem]; first | done | omega)) only [go_sem, d1, d2]
            (refine app_gr (enc := encI) (e := 3) (sz := 1) (bs := 8) (z := [.int .i64 0]) (T2) (Z[j]) (by kernel_rfl) (by kernel_rfl) (by kernel_rfl) (by kernel_rfl) (by first | exact at0 (by simp) | exact at1 (by simp) | exact at2 (by simp) | exact at3 (by simp) | exact at4 (by simp) | exact at5 (by simp) | exact atG 6 (by simp) rfl | exact atG 7 (by simp) rfl | exact atG 8 (by simp) rfl | exact atG 9 (by simp) rfl | exact atG 10 (by simp) rfl | exact atG 11 (by simp) rfl | exact atG 12 (by simp) rfl | exact atG 13 (by simp) rfl | exact atG 14 (by simp) rfl | exact atG 15 (by simp) rfl | assumption) (by first | (simp (disch := first | omega | (simp only [go_sem]; first | done | omega)) only [go_sem]; done) | (simp (disch := first | omega | (simp only [go_sem]; first | done | omega)) only [go_sem]; rfl) | (simp (disch := first | omega | (simp only [go_sem]; first | done | omega)) only [go_sem]; simp [go_sem]; done) | (simp (disch := first | omega | (simp only [go_sem]; first | done | omega)) only [go_sem]; simp [*]; done)) rfl (by decide) (by omega) (by omega) (by rfl) ?_)
            rw [← hT3]
            simp (disch := first | omega | (simp only [go_sem]; first | done | omega)) only [go_sem]
            exact Next.mk (j + 1) ⟨by omega, by omega⟩ (by rw [htf2]; ((try simp (disch := first | omega | (simp only [go_sem]; first | done | omega)) only [go_sem]); (first | refine WkL.pickAt [_, _, _, _, _, _, _, _, _, _, _] [0] ?_ ?_ ?_ rfl ?_ ?_ ?_ ?_ | refine WkL.pickAt [_, _, _, _, _, _, _, _, _, _, _] [1] ?_ ?_ ?_ rfl ?_ ?_ ?_ ?_ | refine WkL.pickAt [_, _, _, _, _, _, _, _, _, _, _] [2] ?_ ?_ ?_ rfl ?_ ?_ ?_ ?_ | refine WkL.pickAt [_, _, _, _, _, _, _, _, _, _, _] [3] ?_ ?_ ?_ rfl ?_ ?_ ?_ ?_ | refine WkL.pickAt [_, _, _, _, _, _, _, _, _, _, _] [4] ?_ ?_ ?_ rfl ?_ ?_ ?_ ?_ | refine WkL.pickAt [_, _, _, _, _, _, _, _, _, _, _] [5] ?_ ?_ ?_ rfl ?_ ?_ ?_ ?_ | refine WkL.pickAt [_, _, _, _, _, _, _, _, _, _, _] [6] ?_ ?_ ?_ rfl ?_ ?_ ?_ ?_ | refine WkL.pickAt [_, _, _, _, _, _, _, _, _, _, _] [7] ?_ ?_ ?_ rfl ?_ ?_ ?_ ?_ | refine WkL.pickAt [_, _, _, _, _, _, _, _, _, _, _] [8] ?_ ?_ ?_ rfl ?_ ?_ ?_ ?_ | refine WkL.pickAt [_, _, _, _, _, _, _, _, _, _, _] [9] ?_ ?_ ?_ rfl ?_ ?_ ?_ ?_ | refine WkL.pickAt [_, _, _, _, _, _, _, _, _, _, _] [10] ?_ ?_ ?_ rfl ?_ ?_ ?_ ?_ | refine WkL.pickAt [_, _, _, _, _, _, _, _, _, _, _] [11] ?_ ?_ ?_ rfl ?_ ?_ ?_ ?_ | refine WkL.pickAt [_, _, _, _, _, _, _, _, _, _, _] [12] ?_ ?_ ?_ rfl ?_ ?_ ?_ ?_ | refine WkL.pickAt [_, _, _, _, _, _, _, _, _, _, _] [13] ?_ ?_ ?_ rfl ?_ ?_ ?_ ?_ | refine WkL.pickAt [_, _, _, _, _, _, _, _, _, _, _] [14] ?_ ?_ ?_ rfl ?_ ?_ ?_ ?_ | refine WkL.pickAt [_, _, _, _, _, _, _, _, _, _, _] [15] ?_ ?_ ?_ rfl ?_ ?_ ?_ ?_ | refine WkL.pickAt [_, _, _, _, _, _, _, _, _, _, _] [16] ?_ ?_ ?_ rfl ?_ ?_ ?_ ?_ | refine WkL.pickAt [_, _, _, _, _, _, _, _, _, _, _] [17] ?_ ?_ ?_ rfl ?_ ?_ ?_ ?_) <;> first | assumption | exact HOk.str (by assumption) | (simp; done) | (simp; omega) | (simp [pureO_gr, AObj.pureO, pureL, go_sem, AC.pure]; done) | (simp only [List.all_cons, List.all_nil, Bool.and_true]; exact pureO_gr (pureL_map _ (fun x => by simp [go_sem, AC.pure]))) | ((try simp only [List.map_cons, List.map_nil, av_ren_gr]); simp [AV.ren, AV.ren1, AC.ren, pickS]; first | done | omega) | (simp only [List.forall_mem_cons, List.not_mem_nil, false_implies, implies_true, and_true]; (repeat' apply And.intro) <;> first | trivial | exact grV_ok (by simp) _ | exact okN_grO (fun x => by simp [go_sem, AC.pure]) | exact okN_map (fun x => by simp [go_sem, AC.pure]) | (simp [AV.ok, AV.ok1, AC.ok]; done) | (simp [AV.ok, AV.ok1, AC.ok]; omega) | (simp [AObj.okN, AC.ok]; done)) | (simp [AObj.okN]; done)))
          · rw [show inW w Z[j] = false from decide_eq_false (fun h => d2 h.2), if_neg (by decide), List.append_nil] at htf2
            simp (disch := first | omega | (simp only [go_sem]; first | done | omega)) only [go_sem, d1, d2]
            exact Next.mk (j + 1) ⟨by omega, by omega⟩ (by rw [htf2]; (try simp (disch := first | omega | (simp only [go_sem]; first | done | omega)) only [go_sem]); (first | refine WkL.eq ?_ ?_ | refine WkL.rest (by assumption) ?_ ?_ ?_ | refine WkL.keepL (by assumption) rfl ?_ ?_ ?_ ?_) <;> first | rfl | (simp; done) | (simp; omega) | (simp only [List.cons.injEq, AV.c.injEq, AC.int.injEq, AC.bool.injEq, AC.str.injEq, and_true, true_and, Int.natCast_add, Int.natCast_one, Int.cast_ofNat_Int]; omega) | (simp [AV.ok, AV.ok1, AC.ok]; done) | (simp [AV.ok, AV.ok1, AC.ok]; omega) | (simp only [List.forall_mem_cons, List.not_mem_nil, false_implies, implies_true, and_true]; (repeat' apply And.intro) <;> first | exact okN_map (fun x => by simp [go_sem, AC.pure]) | exact okN_grO (fun x => by simp [go_sem, AC.pure]) | (simp [AObj.okN, AC.ok]; done) | (simp [AObj.okN, AC.ok]; omega)) | (simp [*]; done) | grind)
        · rw [show inW w Z[j] = false from decide_eq_false (fun h => d1 h.1), if_neg (by decide), List.append_nil] at htf2
          simp (disch := first | omega | (simp only [go_sem]; first | done | omega)) only [go_sem, d1]
          exact Next.mk (j + 1) ⟨by omega, by omega⟩ (by rw [htf2]; (try simp (disch := first | omega | (simp only [go_sem]; first | done | omega)) only [go_sem]); (first | refine WkL.eq ?_ ?_ | refine WkL.rest (by assumption) ?_ ?_ ?_ | refine WkL.keepL (by assumption) rfl ?_ ?_ ?_ ?_) <;> first | rfl | (simp; done) | (simp; omega) | (simp only [List.cons.injEq, AV.c.injEq, AC.int.injEq, AC.bool.injEq, AC.str.injEq, and_true, true_and, Int.natCast_add, Int.natCast_one, Int.cast_ofNat_Int]; omega) | (simp [AV.ok, AV.ok1, AC.ok]; done) | (simp [AV.ok, AV.ok1, AC.ok]; omega) | (simp only [List.forall_mem_cons, List.not_mem_nil, false_implies, implies_true, and_true]; (repeat' apply And.intro) <;> first | exact okN_map (fun x => by simp [go_sem, AC.pure]) | exact okN_grO (fun x => by simp [go_sem, AC.pure]) | (simp [AObj.okN, AC.ok]; done) | (simp [AObj.okN, AC.ok]; omega)) | (simp [*]; done) | grind)
      · have hml : (momsR lv[q] h w t).length ≤ 1000 := by rw [hmR, hZm, List.length_append]; rw [List.take_of_length_le (show Z.length ≤ j by omega)] at hfl; omega
        rw [List.take_of_length_le (show Z.length ≤ j by omega), ← hZm, ← hmR]
        clear hpq
        clear hZm hmR
        generalize momsR lv[q] h w t = M at *
        simp (disch := first | omega | (simp only [go_sem]; first | done | omega)) only [go_sem]
        refine ACalls.litGr (by first | exact at0 (by simp) | exact at1 (by simp) | exact at2 (by simp) | exact at3 (by simp) | exact at4 (by simp) | exact at5 (by simp) | exact atG 6 (by simp) rfl | exact atG 7 (by simp) rfl | exact atG 8 (by simp) rfl | exact atG 9 (by simp) rfl | exact atG 10 (by simp) rfl | exact atG 11 (by simp) rfl | exact atG 12 (by simp) rfl | exact atG 13 (by simp) rfl | exact atG 14 (by simp) rfl | exact atG 15 (by simp) rfl | assumption) (by simp) (pureL_map _ (fun x => by simp [go_sem, AC.pure])) rfl ?_
        simp (disch := first | omega | (simp only [go_sem]; first | done | omega)) only [go_sem]
        refine containsI_a 101 [(H.length + 8, 0, 0), (H.length, 0, 0), (H.length + 1, 0, 0), (H.length + 4, 0, 0)] (fun m => !keepRB lv[q] h tag m t) (by kernel_rfl) (by simp; omega) M (fun u K hu hK => aoR_a lv[q] h tag u t (by first | exact at0 (by simp) | exact at1 (by simp) | exact at2 (by simp) | exact at3 (by simp) | exact at4 (by simp) | exact at5 (by simp) | exact atG 6 (by simp) rfl | exact atG 7 (by simp) rfl | exact atG 8 (by simp) rfl | exact atG 9 (by simp) rfl | exact atG 10 (by simp) rfl | exact atG 11 (by simp) rfl | exact atG 12 (by simp) rfl | exact atG 13 (by simp) rfl | exact atG 14 (by simp) rfl | exact atG 15 (by simp) rfl | assumption) (by first | exact at0 (by simp) | exact at1 (by simp) | exact at2 (by simp) | exact at3 (by simp) | exact at4 (by simp) | exact at5 (by simp) | exact atG 6 (by simp) rfl | exact atG 7 (by simp) rfl | exact atG 8 (by simp) rfl | exact atG 9 (by simp) rfl | exact atG 10 (by simp) rfl | exact atG 11 (by simp) rfl | exact atG 12 (by simp) rfl | exact atG 13 (by simp) rfl | exact atG 14 (by simp) rfl | exact atG 15 (by simp) rfl | assumption) (by first | exact at0 (by simp) | exact at1 (by simp) | exact at2 (by simp) | exact at3 (by simp) | exact at4 (by simp) | exact at5 (by simp) | exact atG 6 (by simp) rfl | exact atG 7 (by simp) rfl | exact atG 8 (by simp) rfl | exact atG 9 (by simp) rfl | exact atG 10 (by simp) rfl | exact atG 11 (by simp) rfl | exact atG 12 (by simp) rfl | exact atG 13 (by simp) rfl | exact atG 14 (by simp) rfl | exact atG 15 (by simp) rfl | assumption) (by first | exact at0 (by simp) | exact at1 (by simp) | exact at2 (by simp) | exact at3 (by simp) | exact at4 (by simp) | exact at5 (by simp) | exact atG 6 (by simp) rfl | exact atG 7 (by simp) rfl | exact atG 8 (by simp) rfl | exact atG 9 (by simp) rfl | exact atG 10 (by simp) rfl | exact atG 11 (by simp) rfl | exact atG 12 (by simp) rfl | exact atG 13 (by simp) rfl | exact atG 14 (by simp) rfl | exact atG 15 (by simp) rfl | assumption) hx' hlen hnr (by have := hmin u hu; omega) (by have := hmin u hu; omega) hK) (by omega) ?_
        rw [show (M.any fun m => !keepRB lv[q] h tag m t) = !p q by rw [hy, Bool.not_not]]
        simp (disch := first | omega | (simp only [go_sem]; first | done | omega)) only [go_sem]
        refine acond_b (fun c5 => ?_) (fun c5 => ?_)
        · have e6 : ansGo p lv.length = ((q : Int), true) := by
            rw [← hI2]
            show (if p q = true then _ else _) = _
            rw [if_pos (by simpa using c5)]
          rw [e6] at hk
          simp (disch := first | omega | (simp only [go_sem]; first | done | omega)) only [go_sem]
          exact Ret.drop hH (Nat.le_refl _) (by simp [AV.ok, AV.ok1, AC.ok]) hk
        · simp (disch := first | omega | (simp only [go_sem]; first | done | omega)) only [go_sem]
          exact ⟨⟨by simpa using hinv2, by simpa using hgo (by simpa using c5)⟩, by (try simp (disch := first | omega | (simp only [go_sem]; first | done | omega)) only [go_sem]); (first | refine WkL.eq ?_ ?_ | refine WkL.rest (by assumption) ?_ ?_ ?_ | refine WkL.keepL (by assumption) rfl ?_ ?_ ?_ ?_) <;> first | rfl | (simp; done) | (simp; omega) | (simp only [List.cons.injEq, AV.c.injEq, AC.int.injEq, AC.bool.injEq, AC.str.injEq, and_true, true_and, Int.natCast_add, Int.natCast_one, Int.cast_ofNat_Int]; omega) | (simp [AV.ok, AV.ok1, AC.ok]; done) | (simp [AV.ok, AV.ok1, AC.ok]; omega) | (simp only [List.forall_mem_cons, List.not_mem_nil, false_implies, implies_true, and_true]; (repeat' apply And.intro) <;> first | exact okN_map (fun x => by simp [go_sem, AC.pure]) | exact okN_grO (fun x => by simp [go_sem, AC.pure]) | (simp [AObj.okN, AC.ok]; done) | (simp [AObj.okN, AC.ok]; omega)) | (simp [*]; done) | grind⟩
  · subst hS
    obtain ⟨hI1, hI2⟩ := hinv
    rw [List.length_range, Nat.sub_self] at hI2
    rw [← hI2] at hk
    simp (disch := first | omega | (simp only [go_sem]; first | done | omega)) only [go_sem]
    refine TWp.end (by kernel_rfl) ?_
    simp (disch := first | omega | (simp only [go_sem]; first | done | omega)) only [go_sem]
    exact Ret.drop hH (Nat.le_refl _) (by simp [AV.ok, AV.ok1, AC.ok]) hk
end Go.Proofs.YthgdllfkejlnmaaGreat
