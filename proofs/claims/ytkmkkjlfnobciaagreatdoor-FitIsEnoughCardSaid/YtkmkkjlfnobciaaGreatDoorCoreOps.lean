/- What each operation does to the plain heap, and that it does so to the world. No condition. -/
import Derived.Test.YtkmkkjlfnobciaaGreatDoorCore
namespace Go.Proofs.YtkmkkjlfnobciaaGreatDoor
open Go Go.RowKit
set_option linter.all false

/-! ### Worlds -/
section
variable {B : Nat} {w0 w w' : World} {ι ι' : En} {H : Hp} {F : Fr} {a : Act} {N n m : Nat}
theorem FOk.agree (h : FOk N ι n F a) (hA : Agree n ι ι') (hn : n ≤ m) : FOk N ι' m F a :=
  ⟨h.size, h.defers, fun t => AV.rel_agree hA (h.scope t) (h.rel t), fun t => AV.ok_mono hn (h.scope t)⟩
theorem FOk.put (h : FOk N ι n F a) {d : Option Tmp} (hd : ∀ t, d = some t → t < N) {v : Value} {av : AV} (hr : av.rel ι v) (ho : av.ok n) : FOk N ι n (F.put d av) (a.put d v) := by
  cases d with
  | none => exact h
  | some d =>
    have hdn := hd d rfl
    refine ⟨by simp [Act.put, h.size], h.defers, fun t => ?_, fun t => ?_⟩
    · by_cases e : t = d
      · subst e
        have : t < a.tmps.size := by rw [h.size]; exact hdn
        simp [Fr.put, Act.put, this]
        exact hr
      · have e1 : Nat.beq t d = false := Bool.eq_false_iff.2 (fun h => e (Nat.eq_of_beq_eq_true h))
        have e2 : (a.put (some d) v).tmps.getD t undef = a.tmps.getD t undef := by
          simp [Act.put, Array.getElem?_setIfInBounds_ne (Ne.symm e)]
        rw [e2]
        simp only [Fr.put, e1, cond_false]
        exact h.rel t
    · by_cases e : t = d
      · subst e; simp [Fr.put]; exact ho
      · have e1 : Nat.beq t d = false := Bool.eq_false_iff.2 (fun h => e (Nat.eq_of_beq_eq_true h))
        simp only [Fr.put, e1, cond_false]
        exact h.scope t
theorem Sim.heap (h : Sim B w0 ι H w) (h1 : w'.heap = w.heap) (h2 : w'.os = w.os) (h3 : w'.tape = w.tape) (h4 : w'.output = w.output) : Sim B w0 ι H w' := by
  refine ⟨⟨h2.trans h.below.os, h3.trans h.below.tape, h4.trans h.below.output, by rw [h1]; exact h.below.size, fun k hk => by rw [h1]; exact h.below.block k hk⟩, by rw [h1]; exact h.big, h.scope, fun i o hi => ?_, h.sep, h.base, by rw [h1]; exact h.froz, h.apart⟩
  have := h.obj i o hi
  cases o with
  | dead => trivial
  | row ty sz els own => obtain ⟨h1', h2', cur, fr, h3', h4'⟩ := this; exact ⟨h1', h2', cur, fr, by rw [h1]; exact h3', h4'⟩
  | map kt vt es => obtain ⟨en, cl, h3', h4'⟩ := this; exact ⟨en, cl, by rw [h1]; exact h3', h4'⟩
theorem Sim.drew (h : Sim B w0 ι H w) : Sim B w0 ι H w.drew := h.heap rfl rfl rfl rfl
def upd (ι : En) (n : Nat) (L : Loc) : En := ⟨fun i => if i = n then L else ι i, ι.fz⟩
theorem upd_agree (ι : En) (n : Nat) (L : Loc) : Agree n ι (upd ι n L) := ⟨fun i hi => by simp [upd, Nat.ne_of_lt hi], fun _ _ _ h => h⟩
theorem upd_same (ι : En) (n : Nat) (L : Loc) : upd ι n L n = L := by simp [upd]
theorem Sim.fz_lt (h : Sim B w0 ι H w) {b o : Nat} {v : Value} (hf : ι.fz b o = some v) : b < w.heap.size := by
  obtain ⟨cur, ty, fr, h1, _⟩ := h.froz b o v hf
  exact (Array.getElem?_eq_some_iff.1 h1).1
theorem Sim.fz_new (h : Sim B w0 ι H w) {b : Nat} (hb : w.heap.size ≤ b) (o : Nat) : ι.fz b o = none := by
  cases hf : ι.fz b o with
  | none => rfl
  | some v => have := h.fz_lt hf; omega
theorem froz_keep (h : Sim B w0 ι H w) (hw : ∀ b, b < w.heap.size → (∃ o v, ι.fz b o = some v) → w'.heap[b]? = w.heap[b]?) : ∀ (b o : Nat) (v : Value), ι.fz b o = some v → ∃ cur ty fr, w'.heap[b]? = some (.cells cur ty fr) ∧ cur[o]? = some v := by
  intro b o v hf
  obtain ⟨cur, ty, fr, h1, h2⟩ := h.froz b o v hf
  exact ⟨cur, ty, fr, by rw [hw b (h.fz_lt hf) ⟨o, v, hf⟩]; exact h1, h2⟩
theorem getElem?_lt {α : Type} {l : List α} {i : Nat} {x : α} (h : l[i]? = some x) : i < l.length := (List.getElem?_eq_some_iff.1 h).1
theorem AObj.holds_agree {o : AObj} {L : Loc} (hA : Agree n ι ι') (ho : o.okN n) (h : o.holds ι w L) : o.holds ι' w L := by
  cases o with
  | dead => trivial
  | row ty sz els own =>
    obtain ⟨h1, h2, cur, fr, h3, h4, h5⟩ := h
    refine ⟨h1, h2, cur, fr, h3, fun k e hk j x hj => ?_, h5⟩
    obtain ⟨u, hu, hr⟩ := h4 k e hk j x hj
    exact ⟨u, hu, AC.rel_agree hA ((ho e (List.mem_of_getElem? hk)).2 x (List.mem_of_getElem? hj)) hr⟩
  | map kt vt es =>
    obtain ⟨en, cl, h3, h4, h5⟩ := h
    refine ⟨en, cl, h3, h4, fun i p hp => ?_⟩
    obtain ⟨m, hm, h6, h7⟩ := h5 i p hp
    have := ho p (List.mem_of_getElem? hp)
    exact ⟨m, hm, AV.rel_agree hA this.1 h6, AV.rel_agree hA this.2 h7⟩
theorem AObj.okN_mono (h : n ≤ m) {o : AObj} (ho : o.okN n) : o.okN m := by
  cases o with
  | dead => trivial
  | row ty sz els own => exact fun e he => ⟨(ho e he).1, fun x hx => AC.ok_mono h ((ho e he).2 x hx)⟩
  | map kt vt es => exact fun p hp => ⟨AV.ok_mono h (ho p hp).1, AV.ok_mono h (ho p hp).2⟩
theorem AObj.holds_block {o : AObj} {L : Loc} (hb : w'.heap[L.block]? = w.heap[L.block]?) (h : o.holds ι w L) : o.holds ι w' L := by
  cases o with
  | dead => trivial
  | row ty sz els own => obtain ⟨h1, h2, cur, fr, h3, h4⟩ := h; exact ⟨h1, h2, cur, fr, by rw [hb]; exact h3, h4⟩
  | map kt vt es => obtain ⟨en, cl, h3, h4⟩ := h; exact ⟨en, cl, by rw [hb]; exact h3, h4⟩
theorem AObj.holds_lt {o : AObj} {L : Loc} (hl : o.live = true) (h : o.holds ι w L) : L.block < w.heap.size := by
  cases o with
  | dead => simp [AObj.live] at hl
  | row ty sz els own => obtain ⟨_, _, cur, fr, h3, _⟩ := h; exact (Array.getElem?_eq_some_iff.1 h3).1
  | map kt vt es => obtain ⟨en, cl, h3, _⟩ := h; exact (Array.getElem?_eq_some_iff.1 h3).1
/-- a new block -/
theorem Sim.new (h : Sim B w0 ι H w) (ob : Obj) (o : AObj) (L : Loc) (hL : L.block = w.heap.size) (hok : o.okN H.length) (hh : o.holds (upd ι H.length L) (w.alloc ob) L) :
    Sim B w0 (upd ι H.length L) (H ++ [o]) (w.alloc ob) := by
  have hA := upd_agree ι H.length L
  have hlen : (H ++ [o]).length = H.length + 1 := by simp
  refine ⟨h.below.alloc h.big ob, by simp; have := h.big; omega, fun i q hq => ?_, fun i q hq => ?_, fun i j q q' hij hq ho hq' hl => ?_, fun i q hq ho => ?_, froz_keep (ι := ι) h fun b hb _ => Below.heap_alloc w ob _ hb, fun i q hq ho o' => ?_⟩
  · rw [hlen]
    rcases Nat.lt_or_ge i H.length with hi | hi
    · rw [List.getElem?_append_left hi] at hq; exact AObj.okN_mono (by omega) (h.scope i q hq)
    · have := getElem?_lt hq
      have e : i = H.length := by omega
      subst e; simp at hq; subst hq; exact AObj.okN_mono (by omega) hok
  · rcases Nat.lt_or_ge i H.length with hi | hi
    · rw [List.getElem?_append_left hi] at hq
      rw [hA.loc i hi]
      by_cases hlv : q.live = true
      · have hb := AObj.holds_lt hlv (h.obj i q hq)
        exact AObj.holds_block (Below.heap_alloc w ob _ hb) (AObj.holds_agree hA (h.scope i q hq) (h.obj i q hq))
      · cases q <;> simp [AObj.live] at hlv; trivial
    · have := getElem?_lt hq
      have e : i = H.length := by omega
      subst e; simp at hq; subst hq; rw [upd_same]; exact hh
  · have old : ∀ (i : Nat) (q : AObj), H[i]? = some q → q.live = true → (ι i).block < w.heap.size := fun i q hq hl => AObj.holds_lt hl (h.obj i q hq)
    have own_live : ∀ q : AObj, q.owned = true → q.live = true := by intro q; cases q <;> simp [AObj.owned, AObj.live]
    rcases Nat.lt_or_ge i H.length with hi | hi
    · rw [List.getElem?_append_left hi] at hq
      rw [hA.loc i hi]
      rcases Nat.lt_or_ge j H.length with hj | hj
      · rw [List.getElem?_append_left hj] at hq'
        rw [hA.loc j hj]
        exact h.sep i j q q' hij hq ho hq' hl
      · have := getElem?_lt hq'
        have e : j = H.length := by omega
        subst e; rw [upd_same, hL]
        have := old i q hq (own_live q ho); omega
    · have := getElem?_lt hq
      have e : i = H.length := by omega
      subst e; rw [upd_same, hL]
      rcases Nat.lt_or_ge j H.length with hj | hj
      · rw [List.getElem?_append_left hj] at hq'
        rw [hA.loc j hj]
        have := old j q' hq' hl; omega
      · have := getElem?_lt hq'
        omega
  · rcases Nat.lt_or_ge i H.length with hi | hi
    · rw [List.getElem?_append_left hi] at hq; rw [hA.loc i hi]; exact h.base i q hq ho
    · have := getElem?_lt hq
      have e : i = H.length := by omega
      subst e; rw [upd_same, hL]; exact h.big
  · rcases Nat.lt_or_ge i H.length with hi | hi
    · rw [List.getElem?_append_left hi] at hq; rw [hA.loc i hi]; exact h.apart i q hq ho o'
    · have := getElem?_lt hq
      have e : i = H.length := by omega
      subst e; rw [upd_same, hL]; exact h.fz_new (Nat.le_refl _) o'
/-- one object and its block turn -/
theorem Sim.set (h : Sim B w0 ι H w) {i : Nat} {o o' : AObj} (hi : H[i]? = some o) (hown : o.owned = true) (hw : ∀ k, k ≠ (ι i).block → w'.heap[k]? = w.heap[k]?) (hsz : w'.heap.size = w.heap.size)
    (h2 : w'.os = w.os) (h3 : w'.tape = w.tape) (h4 : w'.output = w.output) (hok : o'.okN H.length) (hh : o'.holds ι w' (ι i)) : Sim B w0 ι (H.set i o') w' := by
  have hb := h.base i o hi hown
  have hlt := getElem?_lt hi
  have hlo : ∀ q : AObj, q.owned = true → q.live = true := by intro q; cases q <;> simp [AObj.owned, AObj.live]
  refine ⟨⟨h2.trans h.below.os, h3.trans h.below.tape, h4.trans h.below.output, by rw [hsz]; exact h.below.size, fun k hk => (hw k (by omega)).trans (h.below.block k hk)⟩, by rw [hsz]; exact h.big, fun j q hq => ?_, fun j q hq => ?_, fun j k q q' hjk hq hqo hq' hl => ?_, fun j q hq hqo => ?_, froz_keep (ι := ι) h (fun b _ hf => hw b (fun e => by obtain ⟨o1, v1, hf⟩ := hf; rw [e, h.apart i o hi hown o1] at hf; cases hf)), fun j q hq hqo => ?_⟩
  · rw [List.length_set]
    by_cases e : i = j
    · subst e; rw [List.getElem?_set_self hlt] at hq; injection hq with hq; subst hq; exact hok
    · rw [List.getElem?_set_ne e] at hq; exact h.scope j q hq
  · by_cases e : i = j
    · subst e; rw [List.getElem?_set_self hlt] at hq; injection hq with hq; subst hq; exact hh
    · rw [List.getElem?_set_ne e] at hq
      by_cases hlv : q.live = true
      · exact AObj.holds_block (hw _ (Ne.symm (h.sep i j o q e hi hown hq hlv))) (h.obj j q hq)
      · cases q <;> simp [AObj.live] at hlv; trivial
  · have key : ∀ (j : Nat) (q : AObj), (H.set i o')[j]? = some q → q.live = true → ∃ q0, H[j]? = some q0 ∧ q0.live = true ∧ (q.owned = true → q0.owned = true) := by
      intro j q hq hl
      by_cases e : i = j
      · subst e; exact ⟨o, hi, hlo o hown, fun _ => hown⟩
      · rw [List.getElem?_set_ne e] at hq; exact ⟨q, hq, hl, id⟩
    obtain ⟨q0, h5, _, h6⟩ := key j q hq (hlo q hqo)
    obtain ⟨q1, h7, h8, _⟩ := key k q' hq' hl
    exact h.sep j k q0 q1 hjk h5 (h6 hqo) h7 h8
  · by_cases e : i = j
    · subst e; exact hb
    · rw [List.getElem?_set_ne e] at hq; exact h.base j q hq hqo
  · by_cases e : i = j
    · subst e; exact h.apart i o hi hown
    · rw [List.getElem?_set_ne e] at hq; exact h.apart j q hq hqo
theorem Sim.dead (h : Sim B w0 ι H w) {i : Nat} {o : AObj} (hi : H[i]? = some o) (hown : o.owned = true) : Sim B w0 ι (H.set i .dead) w :=
  h.set hi hown (fun _ _ => rfl) rfl rfl rfl rfl trivial trivial
theorem Sim.grown (h : Sim B w0 ι H w) (hg : w.grownBy w' none) : Sim B w0 ι H w' := by
  refine ⟨h.below.grown hg h.big (by simp), Nat.le_trans h.big hg.size, h.scope, fun i o hi => ?_, h.sep, h.base, froz_keep h (fun b hb _ => hg.block b hb (by simp)), h.apart⟩
  by_cases hlv : o.live = true
  · exact AObj.holds_block (hg.block _ (AObj.holds_lt hlv (h.obj i o hi)) (by simp)) (h.obj i o hi)
  · cases o <;> simp [AObj.live] at hlv; trivial
/-- one block of no live object may have turned -/
theorem Sim.grownRow (h : Sim B w0 ι H w) {r : Option Nat} (hg : w.grownBy w' r) (hr : ∀ b, r = some b → B ≤ b ∧ (∀ o, ι.fz b o = none) ∧ ∀ (i : Nat) (o : AObj), H[i]? = some o → o.live = true → (ι i).block ≠ b) : Sim B w0 ι H w' := by
  refine ⟨h.below.grown hg h.big (fun b hb => (hr b hb).1), Nat.le_trans h.big hg.size, h.scope, fun i o hi => ?_, h.sep, h.base, froz_keep h (fun b hb hf => hg.block b hb (fun e => by obtain ⟨o1, v1, hf⟩ := hf; rw [(hr b e.symm).2.1 o1] at hf; cases hf)), h.apart⟩
  by_cases hlv : o.live = true
  · exact AObj.holds_block (hg.block _ (AObj.holds_lt hlv (h.obj i o hi)) (fun e => (hr _ e.symm).2.2 i o hi hlv rfl)) (h.obj i o hi)
  · cases o <;> simp [AObj.live] at hlv; trivial
/-- an object more, over a block that no other object has -/
theorem Sim.add (h : Sim B w0 ι H w) (o : AObj) (L : Loc) (hL : B ≤ L.block) (hfz : o.owned = true → ∀ p, ι.fz L.block p = none) (hne : ∀ (i : Nat) (q : AObj), H[i]? = some q → q.live = true → (ι i).block ≠ L.block) (hok : o.okN H.length) (hh : o.holds (upd ι H.length L) w L) :
    Sim B w0 (upd ι H.length L) (H ++ [o]) w := by
  have hA := upd_agree ι H.length L
  have hlen : (H ++ [o]).length = H.length + 1 := by simp
  have hlo : ∀ q : AObj, q.owned = true → q.live = true := by intro q; cases q <;> simp [AObj.owned, AObj.live]
  have key : ∀ (i : Nat) (q : AObj), (H ++ [o])[i]? = some q → (i < H.length ∧ H[i]? = some q ∧ upd ι H.length L i = ι i) ∨ (i = H.length ∧ q = o ∧ upd ι H.length L i = L) := by
    intro i q hq
    rcases Nat.lt_or_ge i H.length with hi | hi
    · rw [List.getElem?_append_left hi] at hq; exact .inl ⟨hi, hq, hA.loc i hi⟩
    · have := getElem?_lt hq
      have e : i = H.length := by omega
      subst e; simp at hq; exact .inr ⟨rfl, hq.symm, upd_same _ _ _⟩
  refine ⟨h.below, h.big, fun i q hq => ?_, fun i q hq => ?_, fun i j q q' hij hq ho hq' hl => ?_, fun i q hq ho => ?_, h.froz, fun i q hq ho => ?_⟩
  · rw [hlen]
    rcases key i q hq with ⟨_, h1, _⟩ | ⟨_, rfl, _⟩
    · exact AObj.okN_mono (by omega) (h.scope i q h1)
    · exact AObj.okN_mono (by omega) hok
  · rcases key i q hq with ⟨_, h1, h2⟩ | ⟨_, rfl, h2⟩
    · rw [h2]; exact AObj.holds_agree hA (h.scope i q h1) (h.obj i q h1)
    · rw [h2]; exact hh
  · rcases key i q hq with ⟨_, h1, h2⟩ | ⟨rfl, rfl, h2⟩ <;> rcases key j q' hq' with ⟨_, h3, h4⟩ | ⟨rfl, rfl, h4⟩
    · rw [h2, h4]; exact h.sep i j q q' hij h1 ho h3 hl
    · rw [h2, h4]; exact hne i q h1 (hlo q ho)
    · rw [h2, h4]; exact Ne.symm (hne j q' h3 hl)
    · exact absurd rfl hij
  · rcases key i q hq with ⟨_, h1, h2⟩ | ⟨_, rfl, h2⟩
    · rw [h2]; exact h.base i q h1 ho
    · rw [h2]; exact hL
  · rcases key i q hq with ⟨_, h1, h2⟩ | ⟨_, rfl, h2⟩
    · rw [h2]; exact h.apart i q h1 ho
    · rw [h2]; exact hfz ho
/-- a row is frozen: what it holds never turns again -/
def frzE (ι : En) (b : Nat) (cur : Array Value) : En := ⟨ι.loc, fun b' o => if b' = b then cur[o]? else ι.fz b' o⟩
theorem frzE_agree (h : Sim B w0 ι H w) {b : Nat} {cur : Array Value} {ty : TypeId} {fr : Nat × Nat} (hb : w.heap[b]? = some (.cells cur ty fr)) (n : Nat) : Agree n ι (frzE ι b cur) := by
  refine ⟨fun _ _ => rfl, fun b' o v hv => ?_⟩
  show (if b' = b then cur[o]? else ι.fz b' o) = some v
  by_cases e : b' = b
  · subst e
    obtain ⟨cur', ty', fr', h1, h2⟩ := h.froz b' o v hv
    rw [hb] at h1
    injection h1 with h1
    injection h1 with h1 _ _
    subst h1
    rw [if_pos rfl]; exact h2
  · rw [if_neg e]; exact hv
theorem Sim.freeze (h : Sim B w0 ι H w) {i : Nat} {ty sz : Nat} {els : List (List AC)} {own : Bool} (hi : H[i]? = some (.row ty sz els own)) :
    ∃ ι', Agree H.length ι ι' ∧ Sim B w0 ι' (H.set i (.row ty sz els false)) w ∧
      ∀ (k n : Nat) (v : Value), (∀ e ∈ (els.drop k).take n, ∀ x ∈ e, x.pure = true) → k + n ≤ els.length → AC.rel ι (.sl (some (i, k)) n) v → AC.rel ι' (.lst sz ((els.drop k).take n)) v := by
  obtain ⟨h1, h2, cur, fr, h3, h4, h5⟩ := h.obj i _ hi
  have hlt := getElem?_lt hi
  have hA := frzE_agree h h3 H.length
  refine ⟨_, hA, ⟨h.below, h.big, fun j q hq => ?_, fun j q hq => ?_, fun j k q q' hjk hq hqo hq' hl => ?_, fun j q hq hqo => ?_, fun b o v hf => ?_, fun j q hq hqo o' => ?_⟩, ?_⟩
  · rw [List.length_set]
    by_cases e : i = j
    · subst e; rw [List.getElem?_set_self hlt] at hq; injection hq with hq; subst hq
      have h6 := h.scope i _ hi
      exact h6
    · rw [List.getElem?_set_ne e] at hq; exact h.scope j q hq
  · by_cases e : i = j
    · subst e; rw [List.getElem?_set_self hlt] at hq; injection hq with hq; subst hq
      have := AObj.holds_agree hA (h.scope i _ hi) (h.obj i _ hi)
      obtain ⟨h1', h2', cur', fr', h3', h4', _⟩ := this
      exact ⟨h1', h2', cur', fr', h3', h4', by simp⟩
    · rw [List.getElem?_set_ne e] at hq
      exact AObj.holds_agree hA (h.scope j q hq) (h.obj j q hq)
  · have key : ∀ (j : Nat) (q : AObj), (H.set i (.row ty sz els false))[j]? = some q → ∃ q0, H[j]? = some q0 ∧ (q.live = true → q0.live = true) ∧ (q.owned = true → q0.owned = true ∧ j ≠ i) := by
      intro j q hq
      by_cases e : i = j
      · subst e
        rw [List.getElem?_set_self hlt] at hq; injection hq with hq; subst hq
        exact ⟨_, hi, fun _ => rfl, fun h => by simp [AObj.owned] at h⟩
      · rw [List.getElem?_set_ne e] at hq; exact ⟨q, hq, id, fun h => ⟨h, fun e' => e e'.symm⟩⟩
    obtain ⟨q0, h6, _, h7⟩ := key j q hq
    obtain ⟨q1, h8, h9, _⟩ := key k q' hq'
    exact h.sep j k q0 q1 hjk h6 (h7 hqo).1 h8 (h9 hl)
  · by_cases e : i = j
    · subst e; rw [List.getElem?_set_self hlt] at hq; injection hq with hq; subst hq; simp [AObj.owned] at hqo
    · rw [List.getElem?_set_ne e] at hq; exact h.base j q hq hqo
  · show ∃ cur ty fr, w.heap[b]? = some (.cells cur ty fr) ∧ cur[o]? = some v
    simp only [frzE] at hf
    split at hf
    · rename_i e; subst e; exact ⟨cur, _, fr, h3, hf⟩
    · exact h.froz b o v hf
  · by_cases e : i = j
    · subst e; rw [List.getElem?_set_self hlt] at hq; injection hq with hq; subst hq; simp [AObj.owned] at hqo
    · rw [List.getElem?_set_ne e] at hq
      have hne : (ι j).block ≠ (ι i).block := h.sep j i q _ (Ne.symm e) hq hqo hi rfl
      show (if (ι j).block = (ι i).block then cur[o']? else ι.fz (ι j).block o') = none
      rw [if_neg hne]; exact h.apart j q hq hqo o'
  · intro k n v hp hkn hv
    obtain ⟨a, rfl, h6, h7⟩ := hv
    have hsc := h.scope i _ hi
    have hl : ((els.drop k).take n).length = n := by rw [List.length_take, List.length_drop]; omega
    simp only [AC.rel, AC.relZ]
    refine ⟨some a, (ι i).cap - k, by rw [hl], by rw [hl]; omega, fun e he => (hsc e (List.mem_of_mem_drop (List.mem_of_mem_take he))).1, by simp, fun a' ha' => ?_⟩
    injection ha' with ha'; subst ha'
    rcases Nat.eq_zero_or_pos n with hn | hn
    · subst hn; simp [relRows]
    · have ha := h7 (.inl (by omega))
      subst ha
      refine ⟨.inr rfl, relRows_of fun q e hq => relCells_of fun j x hj => ?_⟩
      have hq0 := hq
      rw [List.getElem?_take] at hq
      split at hq
      · rw [List.getElem?_drop] at hq
        obtain ⟨u, h8, h9⟩ := h4 (k + q) e hq j x hj
        refine ⟨u, ?_, ?_⟩
        · show (if (ι i).block = (ι i).block then cur[(ι i).off + (k * (ι i).sz + 0) + q * sz + j]? else _) = some u
          rw [if_pos rfl, h1, ← h8]; congr 1; rw [Nat.add_mul]; omega
        · exact AC.relZ_of_rel (hp e (List.mem_of_getElem? hq0) x (List.mem_of_getElem? hj)) (AC.rel_agree hA (AC.ok_mono (by omega) ((hsc e (List.mem_of_getElem? hq)).2 x (List.mem_of_getElem? hj))) h9)
      · cases hq
end
end Go.Proofs.YtkmkkjlfnobciaaGreatDoor
