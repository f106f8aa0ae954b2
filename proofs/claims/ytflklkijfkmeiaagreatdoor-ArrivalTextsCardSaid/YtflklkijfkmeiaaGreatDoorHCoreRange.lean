/- A range over a function, over the plain heap. No condition. -/
import Derived.Test.YtflklkijfkmeiaaGreatDoorHCoreC
import Derived.RangeFuncIn
import Derived.RangeFuncLeaves
import Derived.RangeFuncRecord
import Derived.RangeFuncOwn
namespace Go.Proofs.YtflklkijfkmeiaaGreatDoor
open Go Go.RowKit
set_option linter.all false
section
variable {P : Program} {B B' : Nat → Prop} {w0 w w' : World} {ι ι' ι0 : En} {H H' : Hp} {F : Fr} {a : Act} {N n m : Nat} {L : List Tmp} {dd : List Deferred}
def restB (ι : En) (H : Hp) (w : World) : Nat → Prop := fun k => k < w.heap.size ∧ ∀ (i : Nat) (o : AObj), H[i]? = some o → o.owned = true → (ι i).block ≠ k
theorem Sim.rest (h : Sim B w0 ι H w) : Sim (restB ι H w) w ι H w :=
  ⟨Bel.refl _ _, fun k hk => hk.1, h.known.to (fun k hk => ⟨h.big k hk, fun i o hi ho e => h.base i o hi ho (e ▸ hk)⟩) h.below.block, h.scope, h.obj, h.sep, fun i o hi ho hk => hk.2 i o hi ho rfl, h.froz, h.apart⟩
theorem Sim.rest_le (h : Sim B w0 ι H w) {k : Nat} (hk : B k) : restB ι H w k := ⟨h.big k hk, fun i o hi ho e => h.base i o hi ho (e ▸ hk)⟩
theorem Sim.back (h : Sim B w0 ι H w) (h' : Sim (restB ι H w) w ι' H' w') : Sim B w0 ι' H' w' :=
  ⟨h.below.trans ⟨h'.below.os, h'.below.tape, h'.below.output, h'.below.size, fun k hk => h'.below.block k (h.rest_le hk)⟩,
   fun k hk => h'.big k (h.rest_le hk), h.known, h'.scope, h'.obj, h'.sep, fun i o hi ho hk => h'.base i o hi ho (h.rest_le hk), h'.froz, h'.apart⟩
theorem obj_odd {o : AObj} {L : Loc} {ob : Obj} (hl : o.live = true) (h : o.holds ι w L) (hk : w.heap[L.block]? = some ob) : ob.isCells = true ∨ ob.isWalk = true := by
  cases o with
  | dead => simp [AObj.live] at hl
  | row ty sz els own => obtain ⟨_, _, cur, fr, h3, _⟩ := h; rw [hk] at h3; injection h3 with h3; subst h3; exact .inl rfl
  | map kt vt es =>
    obtain ⟨_, ob', h3, h4⟩ := h
    rw [hk] at h3; injection h3 with h3; subst h3
    cases vt with
    | zero => obtain ⟨b, since, last, seen, rfl, _⟩ := h4; exact .inr rfl
    | succ c => obtain ⟨en, rfl, _⟩ := h4; exact .inr rfl
theorem own_live {o : AObj} (h : o.owned = true) : o.live = true := by cases o <;> simp_all [AObj.owned, AObj.live]
theorem Sim.odd (h : Sim B w0 ι H w) {k : Nat} {o : Obj} (hk : w.heap[k]? = some o) (hc : o.isCells = false) (hm : o.isWalk = false) : restB ι H w k := by
  refine ⟨(Array.getElem?_eq_some_iff.1 hk).1, fun i q hi hq e => ?_⟩
  subst e
  rcases obj_odd (own_live hq) (h.obj i q hi) hk with h1 | h1
  · rw [hc] at h1; cases h1
  · rw [hm] at h1; cases h1
theorem Sim.put (h : Sim B w0 ι H w) {k : Nat} {o : Obj} (o' : Obj) (hk : w.heap[k]? = some o) (hc : o.isCells = false) (hm : o.isWalk = false) (hB : ¬ B k) : Sim B w0 ι H (w.putObj k o') := by
  refine h.grownRow (grownBy_putObj' w k o') (fun b hb => ?_)
  injection hb with hb
  subst hb
  refine ⟨hB, fun p => ?_, fun i q hi hl e => ?_⟩
  · cases hf : ι.fz k p with
    | none => rfl
    | some v =>
      obtain ⟨cur, ty, fr, h1, _⟩ := h.froz k p v hf
      rw [hk] at h1; injection h1 with h1; subst h1; cases hc
  · subst e
    rcases obj_odd hl (h.obj i q hi) hk with h1 | h1
    · rw [hc] at h1; cases h1
    · rw [hm] at h1; cases h1
theorem Sim.alloc (h : Sim B w0 ι H w) (o : Obj) : Sim B w0 ι H (w.alloc o) := h.grown (World.grownBy_alloc w o Option.none)
def cD (D : Nat) : Deferred := { target := .collected D, args := #[] }
def Empt (w0 w : World) (l : List Nat) : Prop := l.Nodup ∧ ∀ D ∈ l, w.heap[D]? = some (.deferred (some [])) ∧ w0.heap.size ≤ D
def CM (dd : List Deferred) (B : Nat → Prop) (w0 : World) (ι0 : En) (n N : Nat) (Q : AExit → Fr → Hp → Prop) (e : Exit) (a : Act) (w : World) : Prop := ∃ l : List Nat, Empt w0 w l ∧ CQ (l.map cD ++ dd) B w0 ι0 n N Q e a w
def TWp (P : Program) (n N : Nat) (c : Code) (Q : AExit → Fr → Hp → Prop) (F : Fr) (H : Hp) : Prop :=
  ∀ dd B w0 ι0 ι a w, Agree n ι0 ι → n ≤ H.length → Sim B w0 ι H w → FOk dd N ι H.length F a → c.wpIn (fen none) 2 P (CM dd B w0 ι0 n N Q) a w
theorem wpIn_fen {r : Option Nat} {k j : Nat} {c : Code} {Q : Exit → Act → World → Prop} (h : c.wpIn (fen r) k P Q a w) : c.wpIn (fen r) j P Q a w := fun b k cs h1 h2 _ => h b k cs h1 h2 (room_fen _ _)
theorem CQ.sim {Q : AExit → Fr → Hp → Prop} {e : Exit} (h : CQ dd B w0 ι0 n N Q e a w) : ∃ ι H, Sim B w0 ι H w := by
  cases e <;> first | exact h.elim | (obtain ⟨ι, F, H, _, _, h3, _⟩ := h; exact ⟨ι, H, h3⟩)
theorem CQ.back {Q : AExit → Fr → Hp → Prop} {e : Exit} (hs : Sim B w0 ι H w) (h : CQ dd (restB ι H w) w ι0 n N Q e a w') : CQ dd B w0 ι0 n N Q e a w' := by
  cases e <;> first | exact h.elim | (obtain ⟨ι, F, H, h1, h2, h3, h4, h5⟩ := h; exact ⟨ι, F, H, h1, h2, hs.back h3, h4, h5⟩)
theorem TWp.of {c : Code} {Q : AExit → Fr → Hp → Prop} (h : SWp P n N L c Q F H) : TWp P n N c Q F H :=
  fun dd B w0 ι0 ι a w hA hn hs hF => wpIn_fen (wpIn_mono (h none dd B w0 ι0 ι a w hA hn hs hF) fun _ _ _ hq => ⟨[], ⟨List.nodup_nil, fun _ h => by cases h⟩, CQ_mono (fun _ _ _ h => h.1) hq⟩)
theorem TWp.mono {c : Code} {Q Q' : AExit → Fr → Hp → Prop} (h : TWp P n N c Q F H) (hk : ∀ e F H, Q e F H → Q' e F H) : TWp P n N c Q' F H :=
  fun dd B w0 ι0 ι a w hA hn hs hF => wpIn_mono (h dd B w0 ι0 ι a w hA hn hs hF) fun _ _ _ ⟨l, h1, h2⟩ => ⟨l, h1, CQ_mono hk h2⟩
theorem TWp.seq {x y : Code} {Q : AExit → Fr → Hp → Prop} (h : TWp P n N x (fun e F H => match e with | .normal => TWp P n N y Q F H | e => Q e F H) F H) : TWp P n N (.seq x y) Q F H := by
  intro dd B w0 ι0 ι a w hA hn hs hF
  refine wpIn_seq (wpIn_mono (h dd B w0 ι0 ι a w hA hn hs hF) ?_)
  rintro e a1 w1 ⟨l, he, hq⟩
  cases e with
  | normal =>
    obtain ⟨ι1, F1, H1, h1, h2, h3, h4, h5⟩ := hq
    refine wpIn_mono (h5 (l.map cD ++ dd) (restB ι1 H1 w1) w1 ι0 ι1 a1 w1 h1 h2 h3.rest h4) ?_
    rintro e a2 w2 ⟨l2, he2, hq2⟩
    obtain ⟨ι2, H2, hs2⟩ := hq2.sim
    refine ⟨l2 ++ l, ⟨List.nodup_append.2 ⟨he2.1, he.1, ?_⟩, ?_⟩, ?_⟩
    · intro D hD D' hD' e
      subst e
      have g1 := (he2.2 D hD).2
      have g2 := (Array.getElem?_eq_some_iff.1 (he.2 D hD').1).1
      omega
    · intro D hD
      rcases List.mem_append.1 hD with hD | hD
      · exact ⟨(he2.2 D hD).1, Nat.le_trans h3.below.size (he2.2 D hD).2⟩
      · refine ⟨?_, (he.2 D hD).2⟩
        rw [hs2.below.block D (h3.odd (he.2 D hD).1 rfl rfl)]
        exact (he.2 D hD).1
    · rw [List.map_append, List.append_assoc]
      exact CQ.back h3 hq2
  | exit id => exact ⟨l, he, hq⟩
  | ret => exact ⟨l, he, hq⟩
  | _ => exact ⟨l, he, hq⟩
theorem TWp.block {id : Nat} {c : Code} {Q : AExit → Fr → Hp → Prop} (h : TWp P n N c (fun e F H => match e with | .exit id' => (if id' = id then Q .normal F H else Q (.exit id') F H) | e => Q e F H) F H) : TWp P n N (.block id c) Q F H := by
  intro dd B w0 ι0 ι a w hA hn hs hF
  refine wpIn_block (wpIn_mono (h dd B w0 ι0 ι a w hA hn hs hF) ?_)
  rintro e a1 w1 ⟨l, he, hq⟩
  cases e with
  | exit id' =>
    obtain ⟨ι', F', H', h1, h2, h3, h4, h5⟩ := hq
    show if id' = id then _ else _
    by_cases hid : id' = id
    · rw [if_pos hid]; exact ⟨l, he, ι', F', H', h1, h2, h3, h4, by simpa [hid] using h5⟩
    · rw [if_neg hid]; exact ⟨l, he, ι', F', H', h1, h2, h3, h4, by simpa [hid] using h5⟩
  | _ => exact ⟨l, he, hq⟩
theorem TWp.cond {c : Operand} {x y : Code} {Q : AExit → Fr → Hp → Prop} {b : Bool} (hc : evC F c = .c (.bool b)) (h1 : b = true → TWp P n N x Q F H) (h2 : b = false → TWp P n N y Q F H) : TWp P n N (.cond c x y) Q F H := by
  intro dd B w0 ι0 ι a w hA hn hs hF
  have hv : a.eval c = .bool b := by have := evC_rel hF c; rw [hc] at this; exact this
  exact wpIn_cond_split hv (fun e => h1 e dd B w0 ι0 ι a w hA hn hs hF) (fun e => h2 e dd B w0 ι0 ι a w hA hn hs hF)
/-! ### the call's end -/
/-! ### the statement itself -/
def Iter {α : Type} (P : Program) (gf : FuncId) (cs : List (Nat × Nat × Nat)) (H : Hp) (vals : α → List AV) (S : List α → Prop) (Nx : List α → α → Prop) : Prop :=
  ∀ B w0 ι w, Sim B w0 ι H w → ∃ encs : α → Array Value, (∀ x, rel1L ι (vals x) (encs x).toList) ∧
    ∀ (l : Nat) (J Jx : List α → World → Prop) (W : World), (∀ pre W1, J pre W1 → ∀ k, restB ι H w k → W1.heap[k]? = w.heap[k]?) → (∀ pre W1, J pre W1 → J pre W1.drew) →
      (∀ pre x W1, J pre W1 → Nx pre x → YieldAt (fen none) 0 P l (encs x) W1 fun e W' => (e = .returned (.bool true) ∧ J (pre ++ [x]) W') ∨ (e = .returned (.bool false) ∧ Jx (pre ++ [x]) W')) →
      J [] W → CallsIn (fen none) 1 P gf (#[.func (.yield l) #[] #[]] ++ (cs.map (ptrOf ι)).toArray) W fun e W' => (∃ v, e = .returned v) ∧ ((∃ xs, S xs ∧ J xs W') ∨ (∃ pre, Jx pre W'))
def bindF : Fr → List Tmp → List AV → Fr
  | F, p :: ps, v :: vs => bindF (F.put (some p) v) ps vs
  | F, _, _ => F
theorem rel_of1 {x : AV} {v : Value} (h : x.rel1 ι v) : x.rel ι v := by cases x <;> first | exact h | exact h.elim
theorem ok_of1 {x : AV} {v : Value} (h : x.rel1 ι v) (ho : x.ok1 n) : x.ok n := by cases x <;> first | exact ho | exact h.elim
theorem bind_ok : ∀ (ps : List Tmp) (vs : List AV) (us : List Value) {F : Fr} {a : Act}, FOk [] N ι n F a → rel1L ι vs us → (∀ v ∈ vs, v.ok1 n) → (∀ p ∈ ps, p < N) → FOk [] N ι n (bindF F ps vs) { tmps := (ps.zip us).foldl (fun t q => t.setIfInBounds q.1 q.2) a.tmps, defers := [] }
  | [], vs, us, F, a, h, _, _, _ => ⟨h.size, rfl, h.rel, h.scope⟩
  | p :: ps, [], [], F, a, h, _, _, _ => ⟨h.size, rfl, h.rel, h.scope⟩
  | p :: ps, v :: vs, u :: us, F, a, h, hr, ho, hp => by
    have h1 := h.put (d := some p) (v := u) (av := v) (fun t e => by injection e with e; subst e; exact hp p (by simp)) (rel_of1 hr.1) (ok_of1 hr.1 (ho v (by simp)))
    exact bind_ok ps vs us h1 hr.2 (fun v hv => ho v (by simp [hv])) (fun p hp' => hp p (by simp [hp']))
  | _ :: _, [], _ :: _, _, _, _, hr, _, _ => hr.elim
  | _ :: _, _ :: _, [], _, _, _, hr, _, _ => hr.elim
def RoundQ (Q : AExit → Fr → Hp → Prop) (F : Fr) (m : Nat) (inv : Prop) (H' : Hp) : AExit → Fr → Hp → Prop := fun e _ H2 => match e with
  | .normal => inv ∧ WkL m [] H2 [] H'
  | e => Q e F H2
def RoundA (P : Program) (m N : Nat) (bd : Code) (Q : AExit → Fr → Hp → Prop) : AExit → Fr → Hp → Prop := fun e F1 H1 => match e with | .normal => SWp P m N [] bd Q F1 H1 | _ => False
theorem TWp.range {α : Type} {g : Operand} {ps : Array Tmp} {asg bd : Code} {Q : AExit → Fr → Hp → Prop} {gf : FuncId} {cs : List (Nat × Nat × Nat)} {vals : α → List AV} {S : List α → Prop} {Nx : List α → α → Prop} (hp : List α → Hp) (inv : List α → Prop)
    (hg : evC F g = .c (.fn gf [] cs)) (hent : entersB P gf = true) (hit : Iter P gf cs H vals S Nx) (hps : ∀ x, (vals x).length = ps.size) (hpN : ∀ p ∈ ps.toList, p < N) (hok : ∀ x, ∀ v ∈ vals x, v.ok1 H.length) (hnH : n ≤ H.length)
    (h0 : inv []) (hp0 : WkL H.length [] H [] (hp []))
    (hround : ∀ pre x, inv pre → Nx pre x → H.length ≤ (hp pre).length → HOk (hp pre) → SWp P H.length N [] asg (RoundA P H.length N bd (RoundQ Q F H.length (inv (pre ++ [x])) (hp (pre ++ [x])))) (bindF F ps.toList (vals x)) (hp pre))
    (hdone : ∀ xs, S xs → inv xs → H.length ≤ (hp xs).length → HOk (hp xs) → Q .normal F (hp xs)) : TWp P n N (.rangeFunc g ps asg bd) Q F H := by
  intro dd B w0 ι0 ι a w hA hn hs hF
  obtain ⟨encs, hrel, hsq⟩ := hit B w0 ι w hs
  have hev : a.eval g = .func (.func gf) #[] (cs.map (ptrOf ι)).toArray := by
    have h1 := evC_rel hF g
    rw [hg] at h1
    have h2 : a.eval g = .func (.func gf) (([] : List (Nat × Nat × Nat)).map (ptrOf ι)).toArray (cs.map (ptrOf ι)).toArray := h1
    simpa using h2
  refine wpIn_rangeFunc ?_
  intro fn _
  obtain ⟨rec, hrec⟩ : ∃ rec : LoopState → Option Code → Loop, rec = fun st pe => { state := st, pending := pe, fn, tmps := a.tmps, params := ps, assign := asg, body := bd, defers := w.heap.size } := ⟨_, rfl⟩
  obtain ⟨W1, hW1⟩ : ∃ W1, (w.alloc (.deferred (some []))).alloc (.loop (rec .ready none)) = W1 := ⟨_, rfl⟩
  have hL1 : W1.heap[w.heap.size + 1]? = some (.loop (rec .ready none)) := by
    rw [← hW1]; have := World.alloc_heap_new (w.alloc (.deferred (some []))) (.loop (rec .ready none)); rwa [World.size_alloc] at this
  have hK1 : W1.heap[w.heap.size]? = some (.deferred (some [])) := by
    rw [← hW1]; exact (Below.heap_alloc _ _ _ (by simp)).trans (World.alloc_heap_new w _)
  have hs1 : Sim (restB ι H w) w ι H W1 := by rw [← hW1]; exact (hs.rest.alloc _).alloc _
  refine ⟨w.heap.size + 1, [cD w.heap.size], W1, { target := .fn (.func gf) (cs.map (ptrOf ι)).toArray, args := #[.func (.yield (w.heap.size + 1)) #[] #[]] }, W1, gf,
    #[.func (.yield (w.heap.size + 1)) #[] #[]] ++ (cs.map (ptrOf ι)).toArray, W1, ?_, ?_, ?_, ?_, by simp [fen], ?_⟩
  · rw [← hW1, hrec]; exact run_enterLoop_outer _ _ _ _ _
  · simp only [resolve, hev]
    simp [go_sem]
  · intro f' _; trivial
  · simp [invoke, go_sem, callFunc_run hent]
  · have hnB : ∀ j, ¬ restB ι H w (w.heap.size + j) := fun j hk => by have := hk.1; omega
    obtain ⟨ιa, a1, a2, a3, _⟩ := hp0 _ _ ι _ [] hs1 trivial (fun _ h => by cases h)
    refine (hsq (w.heap.size + 1)
      (fun pre W => W.heap[w.heap.size + 1]? = some (.loop (rec .ready none)) ∧ W.heap[w.heap.size]? = some (.deferred (some [])) ∧ inv pre ∧ ∃ ι', Agree H.length ι ι' ∧ H.length ≤ (hp pre).length ∧ Sim (restB ι H w) w ι' (hp pre) W)
      (fun pre W => ∃ c, W.heap[w.heap.size + 1]? = some (.loop (rec .done (some c))) ∧ W.heap[w.heap.size]? = some (.deferred (some [])) ∧ ∃ e, ((c = .ret ∧ e = .ret) ∨ ∃ id, c = .exit id ∧ e = .exit id) ∧ ∃ ι' H2, Agree H.length ι ι' ∧ H.length ≤ H2.length ∧ Sim (restB ι H w) w ι' H2 W ∧ Q e F H2)
      W1 ?_ (fun pre W ⟨q1, q2, q3, ι', q4, q5, q6⟩ => ⟨q1, q2, q3, ι', q4, q5, q6.drew⟩) ?_ ⟨hL1, hK1, h0, ιa, a1, a2, a3⟩).mono ?_
    · rintro pre W ⟨_, _, _, ι', _, _, h3⟩ k hk
      exact h3.below.block k hk
    · -- a round
      rintro pre x W ⟨hl, hk, hinv, ι', h1, h2, h3⟩ hlen
      have hlt : w.heap.size + 1 < W.heap.size := (Array.getElem?_eq_some_iff.1 hl).1
      have hsz : (encs x).size = ps.size := by
        have e1 : ∀ {xs : List AV} {us : List Value}, rel1L ι xs us → xs.length = us.length := by
          intro xs
          induction xs with
          | nil => intro us h; cases us with | nil => rfl | cons _ _ => exact h.elim
          | cons x xs ih => intro us h; cases us with | nil => exact h.elim | cons u us => simp [ih h.2]
        have := e1 (hrel x)
        rw [hps x] at this
        simpa using this.symm
      have hy := run_yield (P := P) (args := encs x) hl (by rw [hrec]; exact hsz)
      rw [hrec] at hy
      have hF1 : FOk [] N ι' (hp pre).length (bindF F ps.toList (vals x)) { tmps := (ps.zip (encs x)).foldl (fun t (p, v) => t.setIfInBounds p v) a.tmps, defers := [] } := by
        have g1 : FOk [] N ι' (hp pre).length F { tmps := a.tmps, defers := [] } := by
          have g0 := hF.agree h1 h2
          exact ⟨g0.size, rfl, g0.rel, g0.scope⟩
        have g2 := bind_ok ps.toList (vals x) (encs x).toList g1 (rel1L_agree h1 (hok x) (hrel x)) (fun v hv => AV.ok1_mono h2 (hok x v hv)) hpN
        have g3 : (ps.zip (encs x)).foldl (fun t (p, v) => t.setIfInBounds p v) a.tmps = (ps.toList.zip (encs x).toList).foldl (fun t q => t.setIfInBounds q.1 q.2) a.tmps := by
          rw [← Array.foldl_toList, Array.toList_zip]
        rw [g3]; exact g2
      refine ⟨fn, _, asg, bd, hy, roundIn_of_wpIn trivial ?_⟩
      refine wpIn_mono (hround pre x hinv hlen h2 h3.hok (some (w.heap.size + 1)) [] _ W ι' ι' _ W (Agree.refl _ _) h2 h3.rest hF1) ?_
      intro e a1 w1 he
      cases e with
      | normal =>
        obtain ⟨ι1, F1, H1, g1, g2, g3, g4, g5, _⟩ := he
        have s1 := h3.back g3
        have hl1 : w1.heap[w.heap.size + 1]? = some (.loop (rec .ready none)) := (g3.below.block _ (h3.odd hl rfl rfl)).trans hl
        have hk1 : w1.heap[w.heap.size]? = some (.deferred (some [])) := (g3.below.block _ (h3.odd hk rfl rfl)).trans hk
        have hlt1 : w.heap.size + 1 < w1.heap.size := (Array.getElem?_eq_some_iff.1 hl1).1
        refine ⟨_, run_beginRound hl1 (by rw [hrec]), ?_⟩
        have hl2 : (w1.putObj (w.heap.size + 1) (.loop { rec .ready none with state := .busy })).heap[w.heap.size + 1]? = some (.loop { rec .ready none with state := .busy }) := World.putObj_heap_same hlt1
        have hk2 : (w1.putObj (w.heap.size + 1) (.loop { rec .ready none with state := .busy })).heap[w.heap.size]? = some (.deferred (some [])) := (World.putObj_heap_other (by omega)).trans hk1
        have s2 : Sim (restB ι H w) w ι1 H1 (w1.putObj (w.heap.size + 1) (.loop { rec .ready none with state := .busy })) := s1.put _ hl1 rfl rfl (hnB 1)
        refine wpIn_mono (g5 (some (w.heap.size + 1)) [] _ _ ι1 ι1 a1 _ (Agree.refl _ _) g2 s2.rest g4) ?_
        have fin : ∀ (jump : Option Code) (W3 : World) {ι2 : En} {H2 : Hp}, Sim (restB ι1 H1 (w1.putObj (w.heap.size + 1) (.loop { rec .ready none with state := .busy }))) (w1.putObj (w.heap.size + 1) (.loop { rec .ready none with state := .busy })) ι2 H2 W3 →
            (Instr.endRound (w.heap.size + 1) jump).run P W3 = .ok (.bool jump.isNone) (W3.putObj (w.heap.size + 1) (.loop (rec (if jump.isNone then .ready else .done) jump))) ∧
            (W3.putObj (w.heap.size + 1) (.loop (rec (if jump.isNone then .ready else .done) jump))).heap[w.heap.size + 1]? = some (.loop (rec (if jump.isNone then .ready else .done) jump)) ∧
            (W3.putObj (w.heap.size + 1) (.loop (rec (if jump.isNone then .ready else .done) jump))).heap[w.heap.size]? = some (.deferred (some [])) ∧
            Sim (restB ι H w) w ι2 H2 (W3.putObj (w.heap.size + 1) (.loop (rec (if jump.isNone then .ready else .done) jump))) := fun jump W3 {ι2} {H2} s3 => by
          have hl3 := (s3.below.block _ (s2.odd hl2 rfl rfl)).trans hl2
          have hk3 := (s3.below.block _ (s2.odd hk2 rfl rfl)).trans hk2
          have hr := run_endRound (P := P) jump hl3
          have s4 := (s2.back s3).put (.loop (rec (if jump.isNone then .ready else .done) jump)) hl3 rfl rfl (hnB 1)
          rw [hrec] at hr s4 ⊢
          exact ⟨hr, World.putObj_heap_same (Array.getElem?_eq_some_iff.1 hl3).1, (World.putObj_heap_other (by omega)).trans hk3, s4⟩
        intro e a3 W3 he
        cases e with
        | normal =>
          obtain ⟨ι2, F2, H2, k1, k2, k3, k4, ⟨k5, k6⟩, _⟩ := he
          obtain ⟨f1, f2, f3, f4⟩ := fin none W3 k3
          obtain ⟨ι3, q1, q2, q3, _⟩ := k6 _ _ ι2 _ [] f4 trivial (fun _ h => by cases h)
          exact ⟨_, _, f1, .inl ⟨rfl, f2, f3, k5, ι3, ((h1.trans g1 (Nat.le_refl _)).trans k1 (Nat.le_refl _)).trans q1 (Nat.le_refl _), q2, q3⟩⟩
        | ret =>
          obtain ⟨ι2, F2, H2, k1, k2, k3, k4, k5, _⟩ := he
          obtain ⟨f1, f2, f3, f4⟩ := fin (some .ret) W3 k3
          exact ⟨_, _, f1, .inr ⟨rfl, .ret, f2, f3, .ret, .inl ⟨rfl, rfl⟩, ι2, H2, (h1.trans g1 (Nat.le_refl _)).trans k1 (Nat.le_refl _), k2, f4, k5⟩⟩
        | exit id =>
          obtain ⟨ι2, F2, H2, k1, k2, k3, k4, k5, _⟩ := he
          obtain ⟨f1, f2, f3, f4⟩ := fin (some (.exit id)) W3 k3
          exact ⟨_, _, f1, .inr ⟨rfl, .exit id, f2, f3, .exit id, .inr ⟨id, rfl, rfl⟩, ι2, H2, (h1.trans g1 (Nat.le_refl _)).trans k1 (Nat.le_refl _), k2, f4, k5⟩⟩
        | _ => exact he.elim
      | exit id => obtain ⟨_, _, _, _, _, _, _, h5, _⟩ := he; exact h5.elim
      | ret => obtain ⟨_, _, _, _, _, _, _, h5, _⟩ := he; exact h5.elim
      | _ => exact he.elim
    · -- behind the iterator
      rintro e W2 ⟨⟨v, rfl⟩, h⟩
      have fin : ∀ {e : AExit} {ι' : En} {H2 : Hp} {W : World} {o : Loop}, W2.heap[w.heap.size + 1]? = some (.loop o) → W2.heap[w.heap.size]? = some (.deferred (some [])) → Agree H.length ι ι' → H.length ≤ H2.length → Sim (restB ι H w) w ι' H2 W2 → Q e F H2 → W = W2.putObj (w.heap.size + 1) (.loop { o with state := .exhausted }) →
          Empt w0 W [w.heap.size] ∧ St ([w.heap.size].map cD ++ dd) B w0 ι0 n N (Q e) { a with defers := [cD w.heap.size] ++ a.defers } W := by
        rintro e ι' H2 W o q1 q2 q3 q4 q5 q6 rfl
        refine ⟨⟨by simp, fun D hD => ?_⟩, ι', F, H2, hA.trans q3 hn, by omega, hs.back (q5.put _ q1 rfl rfl (hnB 1)), ?_, q6⟩
        · simp only [List.mem_singleton] at hD
          subst hD
          exact ⟨(World.putObj_heap_other (by omega)).trans q2, hs.below.size⟩
        · have g0 := hF.agree q3 q4
          exact ⟨g0.size, by simp [hF.defers], g0.rel, g0.scope⟩
      rcases h with ⟨xs, hS, hl, hk, hinv, ι', h1, h2, h3⟩ | ⟨pre, c, hl, hk, e, hc, ι', H2, h1, h2, h3, h4⟩
      · refine ⟨none, _, by have := run_endLoop (P := P) hl (by rw [hrec]; simp); rw [hrec] at this; exact this, ?_⟩
        obtain ⟨f1, f2⟩ := fin hl hk h1 h2 h3 (hdone xs hS hinv h2 h3.hok) rfl
        rw [hrec] at f1 f2
        exact ⟨[w.heap.size], f1, f2⟩
      · refine ⟨some c, _, by have := run_endLoop (P := P) hl (by rw [hrec]; simp); rw [hrec] at this; exact this, ?_⟩
        obtain ⟨f1, f2⟩ := fin hl hk h1 h2 h3 h4 rfl
        rw [hrec] at f1 f2
        rcases hc with ⟨rfl, rfl⟩ | ⟨id, rfl, rfl⟩
        · exact wpIn_ret ⟨[w.heap.size], f1, f2⟩
        · exact wpIn_exit ⟨[w.heap.size], f1, f2⟩
/-! ### rules -/
def TQ (P : Program) (n N : Nat) (y : Code) (Q : AExit → Fr → Hp → Prop) : AExit → Fr → Hp → Prop := fun e F H => match e with | .normal => TWp P n N y Q F H | e => Q e F H
theorem TWp.go {x y : Code} {Q : AExit → Fr → Hp → Prop} (hc : codeOk N x = true) (h : AWp P n N [] x (TQ P n N y Q) F H) : TWp P n N (.seq x y) Q F H := TWp.seq (TWp.of (SWp.of hc h))
theorem TWp.inB {id : Nat} {c : Code} {Q : AExit → Fr → Hp → Prop} (h : TWp P n N c (QBlock id Q) F H) : TWp P n N (.block id c) Q F H := TWp.block h
end
section
variable {P : Program} {n N m : Nat} (Q : AExit → Fr → Hp → Prop) (F F' : Fr) (H H' : Hp)
variable {H H'} in
@[congr] theorem twp_congr {c : Code} (h : H = H') : TWp P n N c Q F H = TWp P n N c Q F H' := by rw [h]
end
end Go.Proofs.YtflklkijfkmeiaaGreatDoor
