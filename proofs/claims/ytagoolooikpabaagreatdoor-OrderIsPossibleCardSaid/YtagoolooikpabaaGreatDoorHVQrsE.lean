/- The document's parser: tags and functions. Condition: the text is not long. -/
import Derived.Test.YtagoolooikpabaaGreatDoorHVQrsC
set_option linter.all false
namespace Go.Proofs.YtagoolooikpabaaGreatDoor
open Go Go.RowKit
set_option maxRecDepth 100000
set_option maxHeartbeats 4000000
variable {H : Hp} {K : AV → Hp → Prop}
theorem appTr {i q ty : Nat} {own : Bool} {J : AV → Hp → Prop} (l : List (List AC)) (x : List AC) (hi : H[i]? = some (grO 173 5 l)) (hj : H[q]? = some (.row ty 5 [x] own)) (hb : l.length ≤ 1000000000)
  (h : J (.c (grV H.length (l ++ [x]))) (H.set i .dead ++ [grO 173 5 (l ++ [x])])) : aBuiltin Tryz.prog .append #[171, 171] [.c (grV i l), .c (.sl (some (q, 0)) 1)] H J := by
 exact app_grR (enc := fun y : List AC => y) (e := 173) (sz := 5) (bs := 64) (z := [.int .u8 0, .str .empty, .int .i64 0, .sl none 0, .int .i64 0]) l [x] (by kernel_rfl) (by kernel_rfl) (by kernel_rfl) (by kernel_rfl) (by rw [List.map_id']; exact hi) (by rw [hj]; rfl) (by simp) rfl (by decide) (by simp; omega) (by simp; omega) (by rw [List.map_id']; exact h)
structure FSq where
 j : Nat
 acc : List (List AC)
 st : (List Ex × List Tok × Int) ⊕ QEr
def fO (d : Int) : (List Ex × List Tok × Int) ⊕ QEr → AObj
 | .inl q => psQ q.2.1 d q.2.2 (-1)
 | .inr q => psQ q.T q.d q.dp q.e
def fI (l : List UInt8) (rd : List Tok → Int → PR Ex) (d : Int) (many N : Nat) (res : PR (List Ex)) (s : FSq) : Prop := s.j ≤ many ∧ s.acc.length ≤ s.j ∧ (∀ c ∈ s.acc, okT c) ∧ (0 < s.j → s.acc ≠ []) ∧ match s.st with
 | .inl q => argF rd d (many - s.j) q.1 q.2.1 q.2.2 = res ∧ Tl l q.2.1 ∧ q.2.1.length ≤ N ∧ q.1.length = s.j ∧ s.acc = q.1.map encT
 | .inr q => res = .error q.e ∧ 0 < s.j
theorem fO_ok {d : Int} (s : (List Ex × List Tok × Int) ⊕ QEr) (n : Nat) : (fO d s).okN n := by
 cases s with
 | inl q => exact psQ_ok n
 | inr q => exact psQ_ok n
theorem pureTs {l : List (List AC)} (h : ∀ c ∈ l, okT c) : pureL l = true := by
 unfold pureL
 rw [List.all_eq_true]
 intro c hc
 exact (h c hc).2
def outR (f : List UInt8) (p : Nat) (acc : List (List AC)) : AObj := .row 173 5 [[.int .u8 102, .str (tB f), .int .i64 0, grV p acc, .int .i64 0]] true
theorem WkL.fnT {A G : Hp} {m n k : Nat} {o1 o2 : AObj} {f : List UInt8} {acc : List (List AC)} (r : Int) (hA : HOk A) (hm : m ≤ A.length + 3) (hk : n = A.length + k) (hG0 : G[0]? = some o1) (hG1 : G[1]? = some o2) (h1 : ∀ σ, o1.ren σ = o1) (h2 : ∀ σ, o2.ren σ = o2) (h1o : ∀ n, o1.okN n) (h2o : ∀ n, o2.okN n) (hG2 : G[2]? = some (outR f n acc)) (hGk : G[k]? = some (grO 173 5 acc)) (hk3 : 3 ≤ k) (hp : ∀ c ∈ acc, okT c) :
  WkL m [(.c (.int .i64 r))] (A ++ G) [(.c (.int .i64 r))] (A ++ [o1, o2, outR f (A.length + 3) acc, grO 173 5 acc]) := by
 subst hk
 refine WkL.pickR [0, 1, 2, k] 3 hA (by omega) (by simp) ?_ ?_ ?_ ?_ ?_ ?_
 ·intro j hj
  obtain rfl | rfl | rfl : j = 0 ∨ j = 1 ∨ j = 2 := by omega
  ·rfl
  ·rfl
  ·rfl
 ·simp only [List.map_cons, List.map_nil, hG0, hG1, hG2, hGk, h1, h2, outR, row_ren, grV_ren]
  rw [grO_ren _ _ _ (pureTs hp), pickS_add]
  rfl
 ·simp; omega
 ·intro o ho
  simp only [List.mem_cons, List.not_mem_nil, or_false] at ho
  rcases ho with rfl | rfl | rfl | rfl
  ·exact h1o _
  ·exact h2o _
  ·intro e he
   rw [List.mem_singleton] at he
   subst he
   refine ⟨rfl, fun x hx => ?_⟩
   simp only [List.mem_cons, List.not_mem_nil, or_false] at hx
   rcases hx with rfl | rfl | rfl | rfl | rfl
   ·trivial
   ·trivial
   ·trivial
   ·exact grV_ok (by simp) _
   ·trivial
  ·have key : ∀ (acc : List (List AC)), (∀ c ∈ acc, okT c) → ∀ n, (grO 173 5 acc).okN n := by
    intro acc hp n
    cases acc with
    | nil => trivial
    | cons x xs => exact fun e he => ⟨(hp e he).1, fun y hy => AC.ok_of_pure (List.all_eq_true.1 (hp e he).2 y hy) n⟩
   exact key acc hp _
 ·rfl
 ·intro z hz
  rw [List.mem_singleton] at hz
  subst hz
  trivial
theorem encT_fn (f : List UInt8) {L : List Ex} (h : L.length = 1 ∨ L.length = 2 ∨ L.length = 3) : encT (mkFn f L) = [.int .u8 102, .str (tB f), .int .i64 0, .lst 5 (L.map encT), .int .i64 0] := by
 match L, h with
 | [a], _ => simp [mkFn, encT]
 | [a, b], _ => simp [mkFn, encT]
 | [a, b, c], _ => simp [mkFn, encT]
 | [], h => simp at h
 | _ :: _ :: _ :: _ :: _, h => simp at h
theorem psQ_row (T : List Tok) (d dp bad : Int) : psQ T d dp bad = .row 243 4 [[.lst 3 (T.map encQ), .int .i64 d, .int .i64 bad, .int .i64 dp]] true := rfl
theorem fO_l (L : List Ex) (T : List Tok) (d dp : Int) : fO d (.inl (L, T, dp)) = .row 243 4 [[.lst 3 (T.map encQ), .int .i64 d, .int .i64 (-1), .int .i64 dp]] true := rfl
theorem fO_r (e : Nat) (cs : List AC) (T : List Tok) (d d' dp' : Int) : fO d (.inr ⟨e, cs, T, d', dp'⟩) = .row 243 4 [[.lst 3 (T.map encQ), .int .i64 d', .int .i64 e, .int .i64 dp']] true := rfl
theorem nameF_a {l : List UInt8} (hl : l.length ≤ 1000) {i n : Nat} {d : Int} (hd : 0 ≤ d ∧ d ≤ 100000) {rd : List Tok → Int → PR Ex} (hrd : RdQ l 170 [.c (.ptr (some (i, 0, 0)))] i noSide n (d + 1) rd) (hg : RdG l rd) {t : Tok} {T : List Tok} {dp : Int} (hT : Tl l (t :: T)) (hk2 : t.k = 2) (hf : 0 < fnN t.x) (hn : T.length ≤ n + 1) (hi : H[i]? = some (psQ (t :: T) d dp (-1)))
  (hk1 : ∀ L T' dp', encF rd d (fnN t.x) T (deepF d dp t) = .ok (L, T', dp') → K (.agg (encT (mkFn t.x L))) (H.set i (psQ T' d dp' (-1))))
  (hk2 : ∀ (e : Nat) (T' : List Tok) (d' dp' : Int) (cs : List AC), encF rd d (fnN t.x) T (deepF d dp t) = .error e → okT cs → K (.agg cs) (H.set i (psQ T' d' dp' e))) : ACalls Tryz.prog 266 [.c (.ptr (some (i, 0, 0)))] H K := by
 have hil := getElem?_lt hi
 have hset0 : ∀ (X : AObj) (G : Hp), (H ++ G).set i X = H.set i X ++ G := fun X G => by rw [List.set_append_left _ _ hil]
 have hat0 : ∀ G : Hp, (H ++ G)[i]? = some (psQ (t :: T) d dp (-1)) := fun G => by rw [List.getElem?_append_left hil]; exact hi
 have hset : ∀ (X Y : AObj) (G : Hp), (H.set i X ++ G).set i Y = H.set i Y ++ G := fun X Y G => by rw [List.set_append_left _ _ (by simpa using hil), List.set_set]
 have hat : ∀ (X : AObj) (G : Hp), (H.set i X ++ G)[i]? = some X := fun X G => by rw [List.getElem?_append_left (by simpa using hil), List.getElem?_set_self hil]
 have hqx : qX t = t.x := by unfold qX; rw [if_neg (by omega)]
 have hqk := qK_k hT.ok
 have hfn := fnN_3 t.x
 have hw1 : IntKind.i64.wrap (d + 1) = d + 1 := by rw [IntKind.wrap_i64]; omega
 have hw2 : IntKind.i64.wrap (d + 1 - 1) = d := by rw [IntKind.wrap_i64]; omega
 have hTT := (hT.next (by omega)).1
 obtain ⟨u, T2, rfl, hu, _⟩ := hTT.head
 rw [List.length_cons] at hn
 unfold encF at hk1 hk2
 dsimp only at hk1 hk2
 obtain ⟨dp1, hdp1⟩ : ∃ dp1, dp1 = deepF d dp t := ⟨_, rfl⟩
 rw [← hdp1] at hk1 hk2
 have hi' : H[i]? = some (.row 243 4 [[.lst 3 ((t :: u :: T2).map encQ), .int .i64 d, .int .i64 (-1), .int .i64 dp]] true) := hi
 have hf' : (0 : Int) < (fnN t.x : Int) := by omega
 refine acalls Tryz.func266 rfl (by kernel_rfl) (by simp (disch := first | omega | (simp only [go_sem]; try omega)) only [go_sem]) (fun hH => ?_)
 simp (disch := first | omega | (simp only [go_sem]; try omega)) only [go_sem, hi', hqx]
 refine functionQ_a t.x ?_
 simp (disch := first | omega | (simp only [go_sem]; try omega)) only [go_sem, hf']
 refine takeQ_a (t := t) (T := u :: T2) (d := d) (dp := dp) (by simp) (fun h => by have := hqk.1.1 h; omega) (hat0 _) ?_
 rw [hset0, ← hdp1]
 simp (disch := first | omega | (simp only [go_sem]; try omega)) only [go_sem]
 by_cases hsg : (sgT u [40]).isSome = true
 ·rw [if_pos hsg] at hk1 hk2
  have hku := sgT_is hsg
  have hT2 := (hTT.next (by omega)).1
  refine needQ_ok (t := u) (T := T2) (d := d) (dp := dp1) 40 40 rfl (by decide) hTT hsg (hat _ _) ?_
  rw [hset]
  obtain ⟨dp2, hdp2⟩ : ∃ dp2, dp2 = deepF d dp1 u := ⟨_, rfl⟩
  rw [← hdp2] at hk1 hk2 ⊢
  obtain ⟨res, hres⟩ : ∃ res, res = argF rd (d + 1) (fnN t.x) [] T2 dp2 := ⟨_, rfl⟩
  rw [← hres] at hk1 hk2
  have hps : ∀ q : Int, psQ T2 q dp2 (-1) = .row 243 4 [[.lst 3 (T2.map encQ), .int .i64 q, .int .i64 (-1), .int .i64 dp2]] true := fun q => rfl
  rw [hps d]
  simp (disch := first | omega | (simp only [go_sem]; try omega)) only [go_sem, hqx, hw1]
  refine AWp.loop (H.length + 3) [0, 2, 5, 37] [38] (fun (s : FSq) => fI l rd (d + 1) (fnN t.x) T2.length res s) (fun (s : FSq) => [(38, (.c (.int .i64 (s.j))))]) (fun (s : FSq) => H.set i (fO (d + 1) s.st) ++ [.row 173 5 [zT] true, .row 293 3 [[.int .u8 (qK t), .str (tB t.x), .int .i64 t.o]] true, outR t.x (H.length + 3) s.acc, grO 173 5 s.acc]) (fun (s : FSq) => fnN t.x - s.j) (by kernel_rfl) (fun _ => rfl) (by kernel_rfl) (by first | (simp; done) | omega) (by first | (simp; done) | (simp; omega) | omega) kl ?_ (fun s q _ _ => ?_)
  ·refine Next.mk ⟨0, [], .inl ([], T2, dp2)⟩ ⟨Nat.zero_le _, Nat.le_refl _, by simp, by simp, hres.symm, hT2, Nat.le_refl _, rfl, rfl⟩ ?_
   exact WkL.padP [_, _, _] (by simp)
  clear hps hres
  obtain ⟨j, acc, st⟩ := s
  obtain ⟨q0, q1, q4, q5, q2⟩ := q
  dsimp only at q0 q1 q2 q4 q5 ⊢
  have hokA : ∀ s : (List Ex × List Tok × Int) ⊕ QEr, HOk (H.set i (fO (d + 1) s)) := fun s => HOk.set hH (fO_ok s _)
  have hend : ∀ (w : List AC) (hw : okT w) (st' : (List Ex × List Tok × Int) ⊕ QEr), WkL (H.length + 3) [(.c (.int .i64 ((j : Int) + 1)))] (H.set i (fO (d + 1) st') ++ [.row 173 5 [zT] true, .row 293 3 [[.int .u8 (qK t), .str (tB t.x), .int .i64 t.o]] true, .row 173 5 [[.int .u8 102, .str (tB t.x), .int .i64 0, .sl (some (H.length + 5, 0)) (acc.length + 1), .int .i64 0]] true, .dead, .row 173 5 [w] true, .row 173 5 (acc ++ [w]) true]) [(.c (.int .i64 (((j + 1 : Nat) : Int))))] (H.set i (fO (d + 1) st') ++ [.row 173 5 [zT] true, .row 293 3 [[.int .u8 (qK t), .str (tB t.x), .int .i64 t.o]] true, .row 173 5 [[.int .u8 102, .str (tB t.x), .int .i64 0, .sl (some (H.length + 3, 0)) (acc.length + 1), .int .i64 0]] true, .row 173 5 (acc ++ [w]) true]) := fun w hw st' => by
   have hgv : ∀ p : Nat, (grV p (acc ++ [w]) : AC) = .sl (some (p, 0)) (acc.length + 1) := fun p => by rw [grV_pos _ (by simp)]; simp
   have := WkL.fnT (m := H.length + 3) (n := H.length + 5) (k := 5) (f := t.x) (acc := acc ++ [w]) (o1 := .row 173 5 [zT] true) (o2 := .row 293 3 [[.int .u8 (qK t), .str (tB t.x), .int .i64 t.o]] true) (G := [.row 173 5 [zT] true, .row 293 3 [[.int .u8 (qK t), .str (tB t.x), .int .i64 t.o]] true, .row 173 5 [[.int .u8 102, .str (tB t.x), .int .i64 0, .sl (some (H.length + 5, 0)) (acc.length + 1), .int .i64 0]] true, .dead, .row 173 5 [w] true, grO 173 5 (acc ++ [w])]) ((j : Int) + 1) (hokA st') (by simp) (by simp) rfl rfl (fun _ => rfl) (fun _ => rfl) (fun n => zT_ok.row n _ _) (fun n => by
    intro e he
    rw [List.mem_singleton] at he
    subst he
    refine ⟨rfl, fun x hx => ?_⟩
    simp only [List.mem_cons, List.not_mem_nil, or_false] at hx
    rcases hx with rfl | rfl | rfl <;> trivial) (by unfold outR; rw [hgv]; rfl) rfl (by omega) (fun c hc => by
    rcases List.mem_append.1 hc with h | h
    ·exact q4 c h
    ·rw [List.mem_singleton.1 h]; exact hw)
   have hgr : grO 173 5 (acc ++ [w]) = .row 173 5 (acc ++ [w]) true := grO_pos _ _ (by simp)
   unfold outR at this
   rw [List.length_set, hgr, hgv] at this
   rw [show (((j + 1 : Nat) : Int)) = (j : Int) + 1 by omega]
   exact this
  have hsplit : ∀ w, okT w → ∀ c ∈ acc ++ [w], okT c := fun w hw c hc => by
   rcases List.mem_append.1 hc with h | h
   ·exact q4 c h
   ·rw [List.mem_singleton.1 h]; exact hw
  by_cases hj : j < fnN t.x
  ·have hj' : (j : Int) < (fnN t.x : Int) := by omega
   rcases st with ⟨L, T, dp⟩ | ⟨e, cs, T', d', dp'⟩
   ·obtain ⟨r1, r2, r3, r4, r5⟩ := q2
    dsimp only at r1 r2 r3 r4 r5
    obtain ⟨v, T3, rfl, hv, _⟩ := r2.head
    rw [show fnN t.x - j = (fnN t.x - j - 1) + 1 by omega] at r1
    unfold argF at r1
    rw [fO_l]
    unfold outR
    have hcmp : ∀ (x : Ex) (T4 : List Tok) (dp4 : Int), (argF rd (d + 1) (fnN t.x - j - 1) (L ++ [x]) T4 dp4 = res ∧ Tl l T4 ∧ T4.length ≤ T2.length) → fI l rd (d + 1) (fnN t.x) T2.length res ⟨j + 1, acc ++ [encT x], .inl (L ++ [x], T4, dp4)⟩ ∧ fnN t.x - (j + 1) < fnN t.x - j := fun x T4 dp4 h =>
     ⟨⟨by dsimp only; omega, by simp; omega, hsplit _ (encT_ok x), fun _ => by simp, by dsimp only; rw [show fnN t.x - (j + 1) = fnN t.x - j - 1 by omega]; exact h.1, h.2.1, h.2.2, by simp [r4], by rw [r5]; simp⟩, by omega⟩
    have hbad : ∀ (w : List AC) (e : Nat) (cs : List AC) (T' : List Tok) (d' dp' : Int), okT w → res = .error e → fI l rd (d + 1) (fnN t.x) T2.length res ⟨j + 1, acc ++ [w], .inr ⟨e, cs, T', d', dp'⟩⟩ ∧ fnN t.x - (j + 1) < fnN t.x - j := fun w e cs T' d' dp' hw h =>
     ⟨⟨by dsimp only; omega, by simp; omega, hsplit _ hw, fun _ => by simp, h, by dsimp only; omega⟩, by omega⟩
    by_cases hj0 : j = 0
    ·have hL : L = [] := List.length_eq_zero_iff.1 (by omega)
     rw [if_pos hL] at r1
     dsimp only at r1
     have hj0' : ¬ (0 : Int) < (j : Int) := by omega
     simp (disch := first | omega | (simp only [go_sem]; try omega)) only [go_sem, hj', hj0']
     refine w_tree (.one 0 (.one 2 (.two 1 (.one 3 (.one 4 (.one 5 (.one 6 (.one 7 .done))))) 3 (.one 1 (.one 4 (.one 5 (.one 6 (.one 7 .done)))))))) (by kernel_rfl) (by decide +kernel) ?_
     simp (disch := first | omega | (simp only [go_sem]; try omega)) only [go_sem]
     repeat' apply And.intro
     all_goals
      refine hrd _ _ (v :: T3) (dp) (hat _ _) trivial r2 (by omega) (fun x T4 dp4 hx => ?_) (fun e T' d' dp' cs hx hcs => ?_)
      ·rw [hx] at r1
       dsimp only at r1
       obtain ⟨s1, s2, s3⟩ := hg _ _ _ _ _ r2 hx
       have h5 := (encT_ok x).1
       have hlit := lit1 h5
       rw [hset]
       simp (disch := first | omega | (simp only [go_sem]; try omega)) only [go_sem, h5, hlit]
       refine appTr acc (encT x) (by first | ((repeat first | exact at0 (by simp) | refine atS ?_); done) | assumption) (by first | ((repeat first | exact at0 (by simp) | refine atS ?_); done) | assumption) (by omega) ?_
       simp (disch := first | omega | (simp only [go_sem]; try omega)) only [go_sem]
       refine Next.mk ⟨j + 1, acc ++ [encT x], .inl (L ++ [x], T4, dp4)⟩ (hcmp x T4 dp4 ⟨r1, s2, by omega⟩) ?_
       simp (disch := first | omega | (simp only [go_sem]; try omega)) only [go_sem]
       exact hend (encT x) (encT_ok x) (.inl (L ++ [x], T4, dp4))
      ·rw [hx] at r1
       dsimp only at r1
       have h5 := hcs.1
       have hlit := lit1 h5
       rw [hset]
       simp (disch := first | omega | (simp only [go_sem]; try omega)) only [go_sem, h5, hlit]
       refine appTr acc cs (by first | ((repeat first | exact at0 (by simp) | refine atS ?_); done) | assumption) (by first | ((repeat first | exact at0 (by simp) | refine atS ?_); done) | assumption) (by omega) ?_
       simp (disch := first | omega | (simp only [go_sem]; try omega)) only [go_sem]
       refine Next.mk ⟨j + 1, acc ++ [cs], .inr ⟨e, [], T', d', dp'⟩⟩ (hbad cs e [] T' d' dp' hcs r1.symm) ?_
       simp (disch := first | omega | (simp only [go_sem]; try omega)) only [go_sem]
       exact hend cs hcs (.inr ⟨e, [], T', d', dp'⟩)
    ·have hL : ¬ L = [] := fun h => by rw [h] at r4; exact hj0 r4.symm
     rw [if_neg hL] at r1
     dsimp only at r1
     have hj0' : (0 : Int) < (j : Int) := by omega
     have hacc : acc ≠ [] := q5 (by omega)
     have hgv0 : (grV (H.length + 3) acc : AC) = .sl (some (H.length + 3, 0)) acc.length := grV_pos _ hacc
     have hgo : grO 173 5 acc = .row 173 5 acc true := grO_pos _ _ hacc
     by_cases hc : (sgT v [44]).isSome = true
     ·have hk3v := sgT_is hc
      have hT3 := (r2.next (by omega)).1
      obtain ⟨w, T5, rfl, hw, _⟩ := hT3.head
      rw [if_pos hc] at r1
      dsimp only at r1
      rw [List.length_cons] at r3
      simp (disch := first | omega | (simp only [go_sem]; try omega)) only [go_sem, hj', hj0']
      refine needQ_ok (t := v) (T := w :: T5) (d := d + 1) (dp := dp) 44 44 rfl (by decide) r2 hc (hat _ _) ?_
      rw [hset]
      simp (disch := first | omega | (simp only [go_sem]; try omega)) only [go_sem]
      refine w_tree (.one 0 (.one 2 (.two 1 (.one 3 (.one 4 (.one 5 (.one 6 (.one 7 .done))))) 3 (.one 1 (.one 4 (.one 5 (.one 6 (.one 7 .done)))))))) (by kernel_rfl) (by decide +kernel) ?_
      simp (disch := first | omega | (simp only [go_sem]; try omega)) only [go_sem]
      repeat' apply And.intro
      all_goals
       refine hrd _ _ (w :: T5) (deepF (d + 1) dp v) (hat _ _) trivial hT3 (by omega) (fun x T4 dp4 hx => ?_) (fun e T' d' dp' cs hx hcs => ?_)
       ·rw [hx] at r1
        dsimp only at r1
        obtain ⟨s1, s2, s3⟩ := hg _ _ _ _ _ hT3 hx
        have h5 := (encT_ok x).1
        have hlit := lit1 h5
        rw [hset]
        simp (disch := first | omega | (simp only [go_sem]; try omega)) only [go_sem, h5, hlit]
        refine appTr acc (encT x) (by first | ((repeat first | exact at0 (by simp) | refine atS ?_); done) | assumption) (by first | ((repeat first | exact at0 (by simp) | refine atS ?_); done) | assumption) (by omega) ?_
        simp (disch := first | omega | (simp only [go_sem]; try omega)) only [go_sem]
        refine Next.mk ⟨j + 1, acc ++ [encT x], .inl (L ++ [x], T4, dp4)⟩ (hcmp x T4 dp4 ⟨r1, s2, by omega⟩) ?_
        simp (disch := first | omega | (simp only [go_sem]; try omega)) only [go_sem]
        exact hend (encT x) (encT_ok x) (.inl (L ++ [x], T4, dp4))
       ·rw [hx] at r1
        dsimp only at r1
        have h5 := hcs.1
        have hlit := lit1 h5
        rw [hset]
        simp (disch := first | omega | (simp only [go_sem]; try omega)) only [go_sem, h5, hlit]
        refine appTr acc cs (by first | ((repeat first | exact at0 (by simp) | refine atS ?_); done) | assumption) (by first | ((repeat first | exact at0 (by simp) | refine atS ?_); done) | assumption) (by omega) ?_
        simp (disch := first | omega | (simp only [go_sem]; try omega)) only [go_sem]
        refine Next.mk ⟨j + 1, acc ++ [cs], .inr ⟨e, [], T', d', dp'⟩⟩ (hbad cs e [] T' d' dp' hcs r1.symm) ?_
        simp (disch := first | omega | (simp only [go_sem]; try omega)) only [go_sem]
        exact hend cs hcs (.inr ⟨e, [], T', d', dp'⟩)
     ·have hc' : (sgT v [44]).isSome = false := by simpa using hc
      rw [if_neg hc] at r1
      dsimp only at r1
      rw [← r1] at hk2
      have hk := fun d'' => hk2 v.o (v :: T3) d'' dp [.int .u8 102, .str (tB t.x), .int .i64 0, .lst 5 acc, .int .i64 0] rfl ⟨rfl, rfl⟩
      simp (disch := first | omega | (simp only [go_sem]; try omega)) only [go_sem, hj', hj0']
      refine needQ_no (t := v) (T := T3) (d := d + 1) (dp := dp) 44 44 rfl (by decide) hv hc' (hat _ _) ?_
      rw [hset, psQ_row]
      simp (disch := first | omega | (simp only [go_sem]; try omega)) only [go_sem, hgv0, hw2]
      refine closeQ_bad (T := v :: T3) (d := d) (dp := dp) (e := v.o) (hat _ _) (fun d'' => ?_)
      rw [hset]
      simp (disch := first | omega | (simp only [go_sem]; try omega)) only [go_sem, hgv0]
      exact Ret.tree (els := acc) (j := 3) (HOk.psQ hH) (by simp) (by rw [hgo]; rfl) (pureTs q4) rfl (by simp) (hk d'')
   ·have hq2 : res = .error e := q2.1
    have hjp : 0 < j := q2.2
    rw [fO_r]
    unfold outR
    by_cases hj0 : j = 0
    ·omega
    ·have hacc : acc ≠ [] := q5 (by omega)
     have hgv0 : (grV (H.length + 3) acc : AC) = .sl (some (H.length + 3, 0)) acc.length := grV_pos _ hacc
     have hgo : grO 173 5 acc = .row 173 5 acc true := grO_pos _ _ hacc
     have hj0' : (0 : Int) < (j : Int) := by omega
     rw [hq2] at hk2
     have hk := fun d'' => hk2 e T' d'' dp' [.int .u8 102, .str (tB t.x), .int .i64 0, .lst 5 acc, .int .i64 0] rfl ⟨rfl, rfl⟩
     simp (disch := first | omega | (simp only [go_sem]; try omega)) only [go_sem, hj', hj0']
     refine needQ_bad (T := T') (d := d') (dp := dp') (e := e) 44 (hat _ _) ?_
     simp (disch := first | omega | (simp only [go_sem]; try omega)) only [go_sem, hgv0]
     refine closeQ_bad (T := T') (d := IntKind.i64.wrap (d' - 1)) (dp := dp') (e := e) (hat _ _) (fun d'' => ?_)
     rw [hset]
     simp (disch := first | omega | (simp only [go_sem]; try omega)) only [go_sem, hgv0]
     exact Ret.tree (els := acc) (j := 3) (HOk.psQ hH) (by simp) (by rw [hgo]; rfl) (pureTs q4) rfl (by simp) (hk d'')
  ·have hj' : ¬ (j : Int) < (fnN t.x : Int) := by omega
   have hacc : acc ≠ [] := q5 (by omega)
   have hgv0 : (grV (H.length + 3) acc : AC) = .sl (some (H.length + 3, 0)) acc.length := grV_pos _ hacc
   have hgo : grO 173 5 acc = .row 173 5 acc true := grO_pos _ _ hacc
   rcases st with ⟨L, T, dp⟩ | ⟨e, cs, T', d', dp'⟩
   ·obtain ⟨r1, r2, r3, r4, r5⟩ := q2
    dsimp only at r1 r2 r3 r4 r5
    obtain ⟨v, T3, rfl, hv, _⟩ := r2.head
    rw [show fnN t.x - j = 0 by omega] at r1
    unfold argF at r1
    rw [← r1] at hk1 hk2
    dsimp only at hk1 hk2
    rw [fO_l]
    unfold outR
    simp (disch := first | omega | (simp only [go_sem]; try omega)) only [go_sem, hj', hw2, hgv0]
    by_cases hc : (sgT v [41]).isSome = true
    ·rw [if_pos hc] at hk1
     have hk := hk1 _ _ _ rfl
     rw [encT_fn t.x (by omega), ← r5] at hk
     refine closeQ_ok (t := v) (T := T3) (d := d) (dp := dp) hd r2 hc (hat _ _) ?_
     rw [hset]
     simp (disch := first | omega | (simp only [go_sem]; try omega)) only [go_sem, hgv0]
     exact Ret.tree (els := acc) (j := 3) (HOk.psQ hH) (by simp) (by rw [hgo]; rfl) (pureTs q4) rfl (by simp) hk
    ·rw [if_neg hc] at hk2
     have hc' : (sgT v [41]).isSome = false := by simpa using hc
     have hk := hk2 v.o (v :: T3) d dp [.int .u8 102, .str (tB t.x), .int .i64 0, .lst 5 acc, .int .i64 0] rfl ⟨rfl, rfl⟩
     refine closeQ_no (t := v) (T := T3) (d := d) (dp := dp) hd hv hc' (hat _ _) ?_
     rw [hset]
     simp (disch := first | omega | (simp only [go_sem]; try omega)) only [go_sem, hgv0]
     exact Ret.tree (els := acc) (j := 3) (HOk.psQ hH) (by simp) (by rw [hgo]; rfl) (pureTs q4) rfl (by simp) hk
   ·have hq2 : res = .error e := q2.1
    rw [hq2] at hk2
    have hk := fun d'' => hk2 e T' d'' dp' [.int .u8 102, .str (tB t.x), .int .i64 0, .lst 5 acc, .int .i64 0] rfl ⟨rfl, rfl⟩
    rw [fO_r]
    unfold outR
    simp (disch := first | omega | (simp only [go_sem]; try omega)) only [go_sem, hj', hgv0]
    refine closeQ_bad (T := T') (d := IntKind.i64.wrap (d' - 1)) (dp := dp') (e := e) (hat _ _) (fun d'' => ?_)
    rw [hset]
    simp (disch := first | omega | (simp only [go_sem]; try omega)) only [go_sem, hgv0]
    exact Ret.tree (els := acc) (j := 3) (HOk.psQ hH) (by simp) (by rw [hgo]; rfl) (pureTs q4) rfl (by simp) (hk d'')
 ·rw [if_neg hsg] at hk2
  have hsg' : (sgT u [40]).isSome = false := by simpa using hsg
  have hk := hk2 u.o (u :: T2) d dp1 trQ0 rfl ⟨rfl, rfl⟩
  refine needQ_no (t := u) (T := T2) (d := d) (dp := dp1) 40 40 rfl (by decide) hu hsg' (hat _ _) ?_
  rw [hset]
  simp (disch := first | omega | (simp only [go_sem]; try omega)) only [go_sem]
  exact Ret.drop (HOk.psQ hH) (by simp) (by simp [AV.ok, AV.ok1, AC.ok]) hk
end Go.Proofs.YtagoolooikpabaaGreatDoor
