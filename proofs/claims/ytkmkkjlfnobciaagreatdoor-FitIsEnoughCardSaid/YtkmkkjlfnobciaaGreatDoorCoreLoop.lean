/- Rounds and meeting places over the plain heap: what is known there is written out. No condition. -/
import Derived.Test.YtkmkkjlfnobciaaGreatDoorCoreCode
namespace Go.Proofs.YtkmkkjlfnobciaaGreatDoor
open Go Go.RowKit
set_option linter.all false

/-- some values and a heap may be taken for others: names below m stay -/
def relAL (ι : En) : List AV → List Value → Prop
  | [], [] => True
  | x :: xs, v :: vs => x.rel ι v ∧ relAL ι xs vs
  | _, _ => False
def WkL (m : Nat) (vs : List AV) (H : Hp) (vs' : List AV) (H' : Hp) : Prop :=
  ∀ B w0 ι w us, Sim B w0 ι H w → relAL ι vs us → (∀ x ∈ vs, x.ok H.length) → ∃ ι', Agree m ι ι' ∧ m ≤ H'.length ∧ Sim B w0 ι' H' w ∧ relAL ι' vs' us ∧ ∀ x ∈ vs', x.ok H'.length
section
variable {P : Program} {B : Nat} {w0 w w' : World} {ι ι' ι0 : En} {H H' H1 H2 : Hp} {F : Fr} {a : Act} {N n m : Nat} {L : List Tmp} {o : Oper} {vs vs' vs1 vs2 : List AV}
theorem WkL.trans (h : WkL m vs H vs1 H1) (k : WkL m vs1 H1 vs2 H2) : WkL m vs H vs2 H2 := by
  intro B w0 ι w us hs hr ho
  obtain ⟨ι1, h1, h2, h3, h4, h5⟩ := h B w0 ι w us hs hr ho
  obtain ⟨ι2, k1, k2, k3, k4, k5⟩ := k B w0 ι1 w us h3 h4 h5
  exact ⟨ι2, h1.trans k1 (Nat.le_refl _), k2, k3, k4, k5⟩
theorem WkL.le {m' : Nat} (h : WkL m vs H vs1 H1) (hm : m' ≤ m) : WkL m' vs H vs1 H1 := by
  intro B w0 ι w us hs hr ho
  obtain ⟨ι1, h1, h2, h3, h4, h5⟩ := h B w0 ι w us hs hr ho
  exact ⟨ι1, h1.le hm, by omega, h3, h4, h5⟩
/-- a value that says less -/
def LeV : List AV → List AV → Prop
  | [], [] => True
  | x :: xs, y :: ys => (y = .any ∨ x = y) ∧ LeV xs ys
  | _, _ => False
theorem LeV.refl : ∀ l : List AV, LeV l l
  | [] => trivial
  | _ :: l => ⟨.inr rfl, LeV.refl l⟩
theorem AV.rel_any (v : Value) : AV.rel ι .any v := trivial
theorem relAL_le : ∀ {xs ys : List AV} {us : List Value}, LeV xs ys → relAL ι xs us → relAL ι ys us
  | [], [], [], _, _ => trivial
  | x :: xs, y :: ys, u :: us, h, hr => ⟨by
    rcases h.1 with h | h
    · subst h; trivial
    · subst h; exact hr.1, relAL_le h.2 hr.2⟩
  | [], [], _ :: _, _, hr => hr.elim
  | _ :: _, _ :: _, [], _, hr => hr.elim
theorem leV_ok : ∀ {xs ys : List AV}, LeV xs ys → (∀ x ∈ xs, x.ok n) → ∀ y ∈ ys, y.ok n
  | [], [], _, _ => by simp
  | x :: xs, y :: ys, h, ho => by
    intro z hz
    rcases List.mem_cons.1 hz with rfl | hz
    · rcases h.1 with h1 | h1 <;> subst h1
      · trivial
      · exact ho _ (by simp)
    · exact leV_ok h.2 (fun x hx => ho x (by simp [hx])) z hz
theorem WkL.of_le (h : LeV vs vs') (hm : m ≤ H.length) : WkL m vs H vs' H :=
  fun B w0 ι w us hs hr ho => ⟨ι, Agree.refl _ _, hm, hs, relAL_le h hr, leV_ok h ho⟩
theorem WkL.refl (hm : m ≤ H.length) : WkL m vs H vs H := WkL.of_le (LeV.refl _) hm
/-! ### frames of which a part is known -/
def lookD : List (Tmp × AV) → Tmp → AV → AV
  | [], _, d => d
  | (t, v) :: l, t', d => bif Nat.beq t' t then v else lookD l t' d
def keepD (F : Fr) : List Tmp → Tmp → AV
  | [], _ => .any
  | t :: l, t' => bif Nat.beq t' t then F t else keepD F l t'
/-- only what is listed, and what is kept, is known -/
def Fr.only (F : Fr) (kl : List Tmp) (l : List (Tmp × AV)) : Fr := fun t => lookD l t (keepD F kl t)
theorem keepD_cases (F : Fr) : ∀ (kl : List Tmp) (t : Tmp), keepD F kl t = .any ∨ (t ∈ kl ∧ keepD F kl t = F t)
  | [], t => .inl rfl
  | x :: kl, t => by
    simp only [keepD]
    cases hb : Nat.beq t x with
    | true => have := Nat.eq_of_beq_eq_true hb; subst this; exact .inr ⟨by simp, rfl⟩
    | false =>
      rcases keepD_cases F kl t with h | ⟨h1, h2⟩
      · exact .inl h
      · exact .inr ⟨by simp [h1], h2⟩
theorem keepD_mem (F : Fr) : ∀ (kl : List Tmp) (t : Tmp), t ∈ kl → keepD F kl t = F t
  | x :: kl, t, h => by
    simp only [keepD]
    cases hb : Nat.beq t x with
    | true => have := Nat.eq_of_beq_eq_true hb; subst this; rfl
    | false =>
      have hne : t ≠ x := fun e => by subst e; simp at hb
      exact keepD_mem F kl t (by simpa [hne] using h)
theorem lookD_out : ∀ (l : List (Tmp × AV)) (t : Tmp) (d : AV), t ∉ l.map (·.1) → lookD l t d = d
  | [], _, _, _ => rfl
  | (x, v) :: l, t, d, h => by
    simp only [List.map_cons, List.mem_cons, not_or] at h
    have hb : Nat.beq t x = false := Bool.eq_false_iff.2 fun e => h.1 (Nat.eq_of_beq_eq_true e)
    simp only [lookD, hb, cond_false]
    exact lookD_out l t d h.2
theorem lookD_cases : ∀ (l : List (Tmp × AV)) (t : Tmp) (d : AV), lookD l t d = d ∨ ∃ v, (t, v) ∈ l ∧ lookD l t d = v
  | [], _, _ => .inl rfl
  | (x, v) :: l, t, d => by
    simp only [lookD]
    cases hb : Nat.beq t x with
    | true => have := Nat.eq_of_beq_eq_true hb; subst this; exact .inr ⟨v, by simp, rfl⟩
    | false =>
      rcases lookD_cases l t d with h | ⟨u, h1, h2⟩
      · exact .inl h
      · exact .inr ⟨u, by simp [h1], h2⟩
theorem relAL_mem : ∀ {l : List (Tmp × AV)}, relAL ι (l.map (·.2)) (l.map fun p => a.tmps.getD p.1 undef) → ∀ p ∈ l, p.2.rel ι (a.tmps.getD p.1 undef)
  | [], _, p, hp => by simp at hp
  | q :: l, h, p, hp => by
    rcases List.mem_cons.1 hp with rfl | hp
    · exact h.1
    · exact relAL_mem h.2 p hp
theorem FOk.only {F0 F1 : Fr} {kl : List Tmp} {l : List (Tmp × AV)} {k : Nat} (h0 : FOk N ι H.length F1 a) (hm : ∀ t ∈ kl, F1 t = F0 t) (ho : ∀ t ∈ kl, (F0 t).ok m)
    (hA : Agree m ι ι') (hmk : m ≤ k) (hr : relAL ι' (l.map (·.2)) (l.map fun p => a.tmps.getD p.1 undef)) (hok : ∀ x ∈ l.map (·.2), x.ok k) : FOk N ι' k (F0.only kl l) a := by
  have hd : ∀ t, (keepD F0 kl t).rel ι' (a.tmps.getD t undef) ∧ (keepD F0 kl t).ok k := by
    intro t
    rcases keepD_cases F0 kl t with h | ⟨h1, h2⟩
    · rw [h]; exact ⟨trivial, trivial⟩
    · rw [h2]
      have := h0.rel t
      rw [hm t h1] at this
      exact ⟨AV.rel_agree hA (ho t h1) this, AV.ok_mono hmk (ho t h1)⟩
  refine ⟨h0.size, h0.defers, fun t => ?_, fun t => ?_⟩
  · show (lookD l t (keepD F0 kl t)).rel ι' _
    rcases lookD_cases l t (keepD F0 kl t) with h | ⟨v, h1, h2⟩
    · rw [h]; exact (hd t).1
    · rw [h2]; exact relAL_mem hr _ h1
  · show (lookD l t (keepD F0 kl t)).ok k
    rcases lookD_cases l t (keepD F0 kl t) with h | ⟨v, h1, h2⟩
    · rw [h]; exact (hd t).2
    · rw [h2]; exact hok v (List.mem_map.2 ⟨_, h1, rfl⟩)
theorem relAL_frame (hF : FOk N ι n F a) : ∀ (l : List (Tmp × AV)), relAL ι (l.map fun p => F p.1) (l.map fun p => a.tmps.getD p.1 undef)
  | [] => trivial
  | p :: l => ⟨hF.rel p.1, relAL_frame hF l⟩
theorem ok_frame (hF : FOk N ι n F a) (l : List (Tmp × AV)) : ∀ x ∈ l.map (fun p => F p.1), x.ok n := by
  intro x hx
  obtain ⟨p, _, rfl⟩ := List.mem_map.1 hx
  exact hF.scope _
/-- the lists fit the code: what goes round is set there, what is kept is not, and what must stay is kept -/
def listsOk (c : Code) (L kl ks : List Tmp) : Bool := ks.all (fun t => (asg c).contains t || (!kl.contains t && !L.contains t)) && kl.all (fun t => !(asg c).contains t) && L.all (fun t => (asg c).contains t || kl.contains t)
theorem listsOk_spec {c : Code} {L kl ks : List Tmp} (h : listsOk c L kl ks = true) : (∀ t ∈ ks, t ∈ asg c ∨ (t ∉ kl ∧ t ∉ L)) ∧ (∀ t ∈ kl, t ∉ asg c) ∧ ∀ t ∈ L, t ∉ asg c → t ∈ kl := by
  simp only [listsOk, Bool.and_eq_true, List.all_eq_true, List.contains_iff_mem, Bool.not_eq_true', Bool.or_eq_true] at h
  obtain ⟨⟨h1, h2⟩, h3⟩ := h
  refine ⟨fun t ht => ?_, fun t ht hm => ?_, fun t ht hm => ?_⟩
  · rcases h1 t ht with h | ⟨h, h'⟩
    · exact .inl h
    · rw [← Bool.not_eq_true, List.contains_iff_mem] at h h'
      exact .inr ⟨h, h'⟩
  · have := h2 t ht
    rw [← Bool.not_eq_true, List.contains_iff_mem] at this
    exact this hm
  · rcases h3 t ht with h | h
    · exact absurd h hm
    · exact h
/-- what is known at the next meeting place -/
def Next {σ : Type} (inv : σ → Prop) (vals : σ → List (Tmp × AV)) (hp : σ → Hp) (m : Nat) (F : Fr) (H : Hp) : Prop := ∃ s, inv s ∧ WkL m ((vals s).map fun p => F p.1) H ((vals s).map (·.2)) (hp s)
def QN {σ : Type} (inv : σ → Prop) (vals : σ → List (Tmp × AV)) (hp : σ → Hp) (m : Nat) (Q : AExit → Fr → Hp → Prop) : AExit → Fr → Hp → Prop := fun e F H => match e with | .normal => Next inv vals hp m F H | e => Q e F H
theorem next_go {σ : Type} {inv : σ → Prop} {vals : σ → List (Tmp × AV)} {hp : σ → Hp} (hA : Agree m ι0 ι) (hm : m ≤ H1.length) {F0 F1 : Fr} {kl : List Tmp} (hs : Sim B w0 ι H1 w) (hF : FOk N ι H1.length F1 a) (h : Next inv vals hp m F1 H1)
    (h6 : ∀ t ∈ kl, F1 t = F0 t) (ho : ∀ t ∈ kl, (F0 t).ok m) : ∃ s ι2, inv s ∧ Agree m ι0 ι2 ∧ m ≤ (hp s).length ∧ Sim B w0 ι2 (hp s) w ∧ FOk N ι2 (hp s).length (F0.only kl (vals s)) a := by
  obtain ⟨s, hi, hw⟩ := h
  obtain ⟨ι2, k1, k2, k3, k4, k5⟩ := hw B w0 ι w _ hs (relAL_frame hF (vals s)) (ok_frame hF _)
  exact ⟨s, ι2, hi, hA.trans k1 (Nat.le_refl _), k2, k3, FOk.only hF h6 ho k1 k2 k4 k5⟩
theorem only_out {kl : List Tmp} {l : List (Tmp × AV)} {t : Tmp} (h1 : t ∈ kl) (h2 : t ∉ l.map (·.1)) : F.only kl l t = F t := by
  show lookD l t (keepD F kl t) = F t
  rw [lookD_out _ _ _ h2, keepD_mem _ _ _ h1]
/-- A MEETING PLACE: whichever way code went, what is known behind it is written out -/
theorem SWp.cut {σ : Type} {x y : Code} {Q : AExit → Fr → Hp → Prop} (m : Nat) (kl ks : List Tmp) (inv : σ → Prop) (vals : σ → List (Tmp × AV)) (hp : σ → Hp) (hks : ∀ s, (vals s).map (·.1) = ks) (hl : listsOk x L kl ks = true) (hnm : n ≤ m) (hmH : m ≤ H.length)
    (hkl : ∀ t ∈ kl, (F t).ok m) (h : SWp P m N kl x (QN inv vals hp m Q) F H)
    (k : ∀ s, inv s → m ≤ (hp s).length → HOk (hp s) → SWp P n N L y Q (F.only kl (vals s)) (hp s)) : SWp P n N L (.seq x y) Q F H := by
  obtain ⟨l1, l2, l3⟩ := listsOk_spec hl
  intro B w0 ι0 ι a w hA hn hs hF
  refine wp_seq (wp_mono (h B w0 ι ι a w (Agree.refl _ _) hmH hs hF) ?_)
  intro e a' w' he
  have hLx : ∀ t ∈ L, t ∉ asg (.seq x y) → t ∈ kl ∧ t ∉ asg x ∧ t ∉ asg y := fun t ht hm => by
    simp only [asg, List.mem_append, not_or] at hm
    exact ⟨l3 t ht hm.1, hm.1, hm.2⟩
  cases e with
  | normal =>
    obtain ⟨ι', F', H', h1, h2, h3, h4, h5, h6⟩ := he
    obtain ⟨s, ι2, g1, g2, g3, g4, g5⟩ := next_go (F0 := F) h1 h2 h3 h4 h5 (fun t ht => h6 t ht (l2 t ht)) hkl
    refine wp_mono (k s g1 g3 g4.hok B w0 ι0 ι2 a' w' (hA.trans g2 hnm) (by omega) g4 g5) fun _ _ _ hh => CQ_mono ?_ hh
    rintro e F2 H2 ⟨h7, h8⟩
    refine ⟨h7, fun t ht hm => ?_⟩
    obtain ⟨q1, q2, q3⟩ := hLx t ht hm
    exact (h8 t ht q3).trans (only_out q1 (by rw [hks]; exact fun h => (l1 t h).elim q2 fun g => g.2 ht))
  | exit id =>
    obtain ⟨ι', F', H', h1, h2, h3, h4, h5, h6⟩ := he
    exact ⟨ι', F', H', hA.trans h1 hnm, by omega, h3, h4, h5, fun t ht hm => h6 t (hLx t ht hm).1 (hLx t ht hm).2.1⟩
  | ret =>
    obtain ⟨ι', F', H', h1, h2, h3, h4, h5, h6⟩ := he
    exact ⟨ι', F', H', hA.trans h1 hnm, by omega, h3, h4, h5, fun t ht hm => h6 t (hLx t ht hm).1 (hLx t ht hm).2.1⟩
  | _ => exact he
/-- ROUNDS: what is known ahead of each is written out -/
theorem SWp.loop {σ : Type} {c : Code} {Q : AExit → Fr → Hp → Prop} (m : Nat) (kl ks : List Tmp) (inv : σ → Prop) (vals : σ → List (Tmp × AV)) (hp : σ → Hp) (μ : σ → Nat) (hks : ∀ s, (vals s).map (·.1) = ks) (hl : listsOk c L kl ks = true) (hnm : n ≤ m) (hmH : m ≤ H.length)
    (hkl : ∀ t ∈ kl, (F t).ok m) (h0 : Next inv vals hp m F H)
    (h : ∀ s, inv s → m ≤ (hp s).length → HOk (hp s) → SWp P m N kl c (QN (fun s' => inv s' ∧ μ s' < μ s) vals hp m Q) (F.only kl (vals s)) (hp s)) : SWp P n N L (.loop c) Q F H := by
  obtain ⟨l1, l2, l3⟩ := listsOk_spec hl
  intro B w0 ι0 ι a w hA hn hs hF
  let R : Act → World → Nat → Prop := fun a w k => ∃ s ι2, inv s ∧ Agree m ι ι2 ∧ m ≤ (hp s).length ∧ Sim B w0 ι2 (hp s) w ∧ FOk N ι2 (hp s).length (F.only kl (vals s)) a ∧ μ s = k
  have hleast : ∀ a w, (∃ k, R a w k) → ∃ k, R a w k ∧ ∀ j, R a w j → k ≤ j := by
    rintro a w ⟨k, hk⟩
    induction k using Nat.strongRecOn with
    | _ k ih =>
      by_cases hex : ∃ j, j < k ∧ R a w j
      · obtain ⟨j, hj, hR⟩ := hex; exact ih j hj hR
      · exact ⟨k, hk, fun j hj => Nat.le_of_not_lt fun hlt => hex ⟨j, hlt, hj⟩⟩
  have hex : ∃ f : Act → World → Nat, ∀ a w, (∃ k, R a w k) → R a w (f a w) ∧ ∀ j, R a w j → f a w ≤ j := by
    have : ∀ p : Act × World, ∃ k, (∃ k, R p.1 p.2 k) → R p.1 p.2 k ∧ ∀ j, R p.1 p.2 j → k ≤ j := by
      intro p
      by_cases h : ∃ k, R p.1 p.2 k
      · obtain ⟨k, hk⟩ := hleast p.1 p.2 h; exact ⟨k, fun _ => hk⟩
      · exact ⟨0, fun h' => absurd h' h⟩
    obtain ⟨f, hf⟩ := Classical.axiomOfChoice this
    exact ⟨fun a w => f (a, w), fun a w => hf (a, w)⟩
  obtain ⟨f, hf⟩ := hex
  have hstart : ∃ k, R a w k := by
    obtain ⟨s, ι2, g1, g2, g3, g4, g5⟩ := next_go (F0 := F) (Agree.refl _ _) hmH hs hF h0 (fun _ _ => rfl) hkl
    exact ⟨_, s, ι2, g1, g2, g3, g4, g5, rfl⟩
  have hout : ∀ (s : σ) (F' : Fr), (∀ t ∈ kl, t ∉ asg c → F' t = F.only kl (vals s) t) → ∀ t ∈ kl, F' t = F t := fun s F' hf t ht => (hf t ht (l2 t ht)).trans (only_out ht (by rw [hks]; exact fun h => (l1 t h).elim (l2 t ht) fun g => g.1 ht))
  refine wp_loop (fun a w => ∃ k, R a w k) f hstart (fun a w hR => ?_)
  obtain ⟨⟨s, ι1, h1, h2, h3, h4, h5, h6⟩, _⟩ := hf a w hR
  refine wp_mono (h s h1 h3 h4.hok B w0 ι ι1 a w h2 h3 h4 h5) ?_
  intro e a' w' he
  cases e with
  | normal =>
    obtain ⟨ι', F', H', g1, g2, g3, g4, g5, g6⟩ := he
    obtain ⟨s', ι2, k1, k2, k3, k4, k5⟩ := next_go (F0 := F) g1 g2 g3 g4 g5 (hout s F' g6) hkl
    have hR' : R a' w' (μ s') := ⟨s', ι2, k1.1, k2, k3, k4, k5, rfl⟩
    have := (hf a' w' ⟨_, hR'⟩).2 _ hR'
    have := k1.2
    exact ⟨⟨_, hR'⟩, by omega⟩
  | exit id =>
    obtain ⟨ι', F', H', g1, g2, g3, g4, g5, g6⟩ := he
    exact ⟨ι', F', H', hA.trans g1 hnm, by omega, g3, g4, g5, fun t ht hm => hout s F' g6 t (l3 t ht hm)⟩
  | ret =>
    obtain ⟨ι', F', H', g1, g2, g3, g4, g5, g6⟩ := he
    exact ⟨ι', F', H', hA.trans g1 hnm, by omega, g3, g4, g5, fun t ht hm => hout s F' g6 t (l3 t ht hm)⟩
  | _ => exact he

/-! ### what may be forgotten: rows are frozen, names dropped or changed -/
def AC.frz (i sz : Nat) (els : List (List AC)) : AC → AC
  | .sl (some (j, k)) n => if j = i ∧ k + n ≤ els.length then .lst sz ((els.drop k).take n) else .sl (some (j, k)) n
  | x => x
def AV.frz1 (i sz : Nat) (els : List (List AC)) : AV → AV
  | .c x => .c (x.frz i sz els)
  | x => x
def AV.frz (i sz : Nat) (els : List (List AC)) : AV → AV
  | .tup vs => .tup (vs.map (AV.frz1 i sz els))
  | x => x.frz1 i sz els
theorem AC.frz_rel {i sz : Nat} {els : List (List AC)} {x : AC} {v : Value} (hA : Agree n ι ι') (ho : x.ok n) (hr : x.rel ι v)
    (hf : ∀ (k m : Nat) (v : Value), k + m ≤ els.length → AC.rel ι (.sl (some (i, k)) m) v → AC.rel ι' (.lst sz ((els.drop k).take m)) v) : (x.frz i sz els).rel ι' v ∧ (x.frz i sz els).ok n := by
  unfold AC.frz
  split
  · rename_i j k m
    split
    · rename_i h
      obtain ⟨rfl, h2⟩ := h
      exact ⟨hf _ _ _ h2 hr, trivial⟩
    · exact ⟨AC.rel_agree hA ho hr, ho⟩
  · exact ⟨AC.rel_agree hA ho hr, ho⟩
theorem AV.frz1_rel {i sz : Nat} {els : List (List AC)} {x : AV} {v : Value} (hA : Agree n ι ι') (ho : x.ok1 n) (hr : x.rel1 ι v)
    (hf : ∀ (k m : Nat) (v : Value), k + m ≤ els.length → AC.rel ι (.sl (some (i, k)) m) v → AC.rel ι' (.lst sz ((els.drop k).take m)) v) : (x.frz1 i sz els).rel1 ι' v ∧ (x.frz1 i sz els).ok1 n := by
  cases x with
  | c x => exact AC.frz_rel hA ho hr hf
  | agg cs => exact ⟨AV.rel1_agree hA ho hr, ho⟩
  | any => exact ⟨trivial, trivial⟩
  | tup ts => exact hr.elim
theorem AV.frz_rel {i sz : Nat} {els : List (List AC)} {x : AV} {v : Value} (hA : Agree n ι ι') (ho : x.ok n) (hr : x.rel ι v)
    (hf : ∀ (k m : Nat) (v : Value), k + m ≤ els.length → AC.rel ι (.sl (some (i, k)) m) v → AC.rel ι' (.lst sz ((els.drop k).take m)) v) : (x.frz i sz els).rel ι' v ∧ (x.frz i sz els).ok n := by
  cases x with
  | c x => exact AC.frz_rel hA ho hr hf
  | agg cs => exact ⟨AV.rel_agree (x := .agg cs) hA ho hr, ho⟩
  | any => exact ⟨trivial, trivial⟩
  | tup ts =>
    obtain ⟨us, rfl, hr⟩ := hr
    have key : ∀ (ts : List AV) (us : List Value), rel1L ι ts us → (∀ x ∈ ts, x.ok1 n) → rel1L ι' (ts.map (AV.frz1 i sz els)) us ∧ ∀ x ∈ ts.map (AV.frz1 i sz els), x.ok1 n := by
      intro ts
      induction ts with
      | nil => intro us h _; cases us with | nil => exact ⟨trivial, by simp⟩ | cons _ _ => exact h.elim
      | cons t ts ih =>
        intro us h ho
        cases us with
        | nil => exact h.elim
        | cons u us =>
          obtain ⟨h1, h2⟩ := ih us h.2 (fun x hx => ho x (by simp [hx]))
          obtain ⟨h3, h4⟩ := AV.frz1_rel hA (ho t (by simp)) h.1 hf
          exact ⟨⟨h3, h1⟩, fun x hx => by
            rcases List.mem_cons.1 hx with rfl | hx
            · exact h4
            · exact h2 x hx⟩
    obtain ⟨h1, h2⟩ := key ts us hr ho
    exact ⟨⟨us, rfl, h1⟩, h2⟩
def pureL (els : List (List AC)) : Bool := els.all fun e => e.all AC.pure
theorem pureL_spec {els : List (List AC)} (h : pureL els = true) {k n : Nat} : ∀ e ∈ (els.drop k).take n, ∀ x ∈ e, x.pure = true := by
  intro e he x hx
  exact List.all_eq_true.1 (List.all_eq_true.1 h e (List.mem_of_mem_drop (List.mem_of_mem_take he))) x hx
theorem Sim.frz {i ty sz : Nat} {els : List (List AC)} {own : Bool} (hs : Sim B w0 ι H w) (hi : H[i]? = some (.row ty sz els own)) (hp : pureL els = true) :
    ∃ ι', Agree H.length ι ι' ∧ Sim B w0 ι' (H.set i (.row ty sz els false)) w ∧ ∀ (k m : Nat) (v : Value), k + m ≤ els.length → AC.rel ι (.sl (some (i, k)) m) v → AC.rel ι' (.lst sz ((els.drop k).take m)) v := by
  obtain ⟨ι', h1, h2, h3⟩ := hs.freeze hi
  exact ⟨ι', h1, h2, fun k m v hk hr => h3 k m v (pureL_spec hp) hk hr⟩
theorem WkL.frz {i ty sz : Nat} {els : List (List AC)} {own : Bool} (hi : H[i]? = some (.row ty sz els own)) (hp : pureL els = true) (hm : m ≤ H.length) : WkL m vs H (vs.map (AV.frz i sz els)) (H.set i (.row ty sz els false)) := by
  intro B w0 ι w us hs hr ho
  obtain ⟨ι', h1, h2, h3⟩ := hs.frz hi hp
  refine ⟨ι', h1.le hm, by simpa using hm, h2, ?_⟩
  rw [List.length_set]
  have key : ∀ (vs : List AV) (us : List Value), relAL ι vs us → (∀ x ∈ vs, x.ok H.length) → relAL ι' (vs.map (AV.frz i sz els)) us ∧ ∀ x ∈ vs.map (AV.frz i sz els), x.ok H.length := by
    intro vs
    induction vs with
    | nil => intro us h _; cases us with | nil => exact ⟨trivial, by simp⟩ | cons _ _ => exact h.elim
    | cons t ts ih =>
      intro us h ho
      cases us with
      | nil => exact h.elim
      | cons u us =>
        obtain ⟨g1, g2⟩ := ih us h.2 (fun x hx => ho x (by simp [hx]))
        obtain ⟨g3, g4⟩ := AV.frz_rel h1 (ho t (by simp)) h.1 h3
        exact ⟨⟨g3, g1⟩, fun x hx => by
          rcases List.mem_cons.1 hx with rfl | hx
          · exact g4
          · exact g2 x hx⟩
  exact key vs us hr ho
/-- the same names, some of them gone -/
theorem Sim.drop {A G : Hp} (hs : Sim B w0 ι (A ++ G) w) (hA : HOk A) : Sim B w0 ι A w := by
  have hget : ∀ {i : Nat} {o : AObj}, A[i]? = some o → (A ++ G)[i]? = some o := fun h => by rw [List.getElem?_append_left (getElem?_lt h)]; exact h
  exact ⟨hs.below, hs.big, hA, fun i o hi => hs.obj i o (hget hi), fun i j o o' hij hi ho hj hl => hs.sep i j o o' hij (hget hi) ho (hget hj) hl, fun i o hi => hs.base i o (hget hi), hs.froz, fun i o hi => hs.apart i o (hget hi)⟩
theorem WkL.drop {A G : Hp} (hA : HOk A) (hm : m ≤ A.length) (ho : ∀ x ∈ vs, x.ok A.length) : WkL m vs (A ++ G) vs A :=
  fun B w0 ι w us hs hr _ => ⟨ι, Agree.refl _ _, hm, hs.drop hA, hr, ho⟩
theorem HOk.app {A : Hp} (h : HOk A) {o : AObj} (ho : o.okN (A.length + 1)) : HOk (A ++ [o]) := by
  intro i q hq
  rw [List.length_append, List.length_cons, List.length_nil]
  rcases Nat.lt_or_ge i A.length with hi | hi
  · rw [List.getElem?_append_left hi] at hq; exact AObj.okN_mono (by omega) (h i q hq)
  · have := getElem?_lt hq
    have e : i = A.length := by simp at this; omega
    subst e; simp at hq; subst hq; exact ho
theorem HOk.set {A : Hp} (h : HOk A) {i : Nat} {o : AObj} (ho : o.okN A.length) : HOk (A.set i o) := by
  intro j q hq
  rw [List.length_set]
  by_cases e : i = j
  · subst e
    have := getElem?_lt hq
    rw [List.getElem?_set_self (by simpa using this)] at hq
    injection hq with hq; subst hq; exact ho
  · rw [List.getElem?_set_ne e] at hq; exact h j q hq
theorem okN_pure {ty sz : Nat} {els : List (List AC)} {own : Bool} (h : pureL els = true) (hs : els.all (fun e => e.length == sz) = true) (n : Nat) : (AObj.row ty sz els own).okN n := by
  intro e he
  refine ⟨by simpa using List.all_eq_true.1 hs e he, fun x hx => AC.ok_of_pure (List.all_eq_true.1 (List.all_eq_true.1 h e he) x hx) n⟩
end
end Go.Proofs.YtkmkkjlfnobciaaGreatDoor
