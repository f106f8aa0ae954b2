/- Several texts in one: How many steps lead from names to one: the program's passes, and what follows. No condition. -/
import Derived.Test.YtagoolooikpabaaGreatDoorHVClM
set_option linter.all false
namespace Go.Proofs.YtagoolooikpabaaGreatDoor
open Go Go.RowKit
set_option maxRecDepth 100000
set_option maxHeartbeats 1000000
abbrev Wy := Nme × Nat
def wyK (s : Nme) (p : Wy) : Bool := decide (s = p.1)
def lkW (l : List Wy) (s : Nme) : Nat := match l.find? (wyK s) with | some p => p.2 | none => 0
def stW (to : Nme) (l : List Wy) (b : Nat) (k : Nme) : Nat := if k = to then 1 else if 0 < lkW l k ∧ ltN to k ∧ (b = 0 ∨ lkW l k + 1 < b) then lkW l k + 1 else b
def bsW (to : Nme) (l : List Wy) (ks : List Nme) : Nat := ks.foldl (stW to l) 0
def rlW (kids : Nme → List Nme) (to : Nme) (l : List Wy) (s : Nme) : List Wy := if ¬ ltN s to ∧ 0 < bsW to l (kids s) ∧ (lkW l s = 0 ∨ bsW to l (kids s) < lkW l s) then upsert (wyK s) (s, bsW to l (kids s)) l else l
def paW (kids : Nme → List Nme) (to : Nme) (N : List Nme) (l : List Wy) : List Wy := N.foldl (rlW kids to) l
theorem bsW_next (to : Nme) (l : List Wy) {ks : List Nme} {k : Nat} (h : k < ks.length) : bsW to l (ks.take (k + 1)) = stW to l (bsW to l (ks.take k)) ks[k] := by
 unfold bsW
 rw [List.take_succ_eq_append_getElem h, List.foldl_append]
 rfl
theorem paW_next (kids : Nme → List Nme) (to : Nme) (l : List Wy) {N : List Nme} {k : Nat} (h : k < N.length) : paW kids to (N.take (k + 1)) l = rlW kids to (paW kids to (N.take k) l) N[k] := by
 unfold paW
 rw [List.take_succ_eq_append_getElem h, List.foldl_append]
 rfl
theorem foW_spec (to : Nme) (l : List Wy) : ∀ (ks : List Nme) (b : Nat), (b ≠ 0 → 1 ≤ b) →
  (∀ r, r = ks.foldl (stW to l) b → (r = b ∨ (r = 1 ∧ to ∈ ks) ∨ ∃ k ∈ ks, k ≠ to ∧ 0 < lkW l k ∧ ltN to k ∧ r = lkW l k + 1) ∧ (b ≠ 0 → r ≠ 0 ∧ r ≤ b) ∧ (to ∈ ks → r = 1) ∧ ∀ k ∈ ks, k ≠ to → 0 < lkW l k → ltN to k → r ≠ 0 ∧ r ≤ lkW l k + 1)
 | [], b, hb, r, hr => by
  subst hr
  exact ⟨.inl rfl, fun h => ⟨h, Nat.le_refl _⟩, fun h => by simp at h, fun k hk => by simp at hk⟩
 | x :: ks, b, hb, r, hr => by
  have hs : stW to l b x ≠ 0 → 1 ≤ stW to l b x := fun h => by omega
  obtain ⟨q1, q2, q3, q4⟩ := foW_spec to l ks (stW to l b x) hs r hr
  unfold stW at q1 q2
  by_cases hx : x = to
  ·subst hx
   simp only [if_true] at q1 q2
   obtain ⟨q5, q6⟩ := q2 (by omega)
   have hr1 : r = 1 := by omega
   refine ⟨.inr (.inl ⟨hr1, by simp⟩), fun h => by have := hb h; omega, fun _ => hr1, fun k hk hne h1 h2 => ?_⟩
   omega
  ·rw [if_neg hx] at q1 q2
   by_cases hc : 0 < lkW l x ∧ ltN to x ∧ (b = 0 ∨ lkW l x + 1 < b)
   ·rw [if_pos hc] at q1 q2
    obtain ⟨q5, q6⟩ := q2 (by omega)
    refine ⟨?_, fun h => by omega, fun h => ?_, fun k hk hne h1 h2 => ?_⟩
    ·rcases q1 with h | ⟨h, h2⟩ | ⟨k, hk, h⟩
     ·exact .inr (.inr ⟨x, by simp, hx, hc.1, hc.2.1, h⟩)
     ·exact .inr (.inl ⟨h, by simp [h2]⟩)
     ·exact .inr (.inr ⟨k, by simp [hk], h⟩)
    ·rcases List.mem_cons.1 h with h | h
     ·exact absurd h.symm hx
     ·exact q3 h
    ·rcases List.mem_cons.1 hk with rfl | hk
     ·exact ⟨q5, q6⟩
     ·exact q4 k hk hne h1 h2
   ·rw [if_neg hc] at q1 q2
    refine ⟨?_, q2, fun h => ?_, fun k hk hne h1 h2 => ?_⟩
    ·rcases q1 with h | ⟨h, h2⟩ | ⟨k, hk, h⟩
     ·exact .inl h
     ·exact .inr (.inl ⟨h, by simp [h2]⟩)
     ·exact .inr (.inr ⟨k, by simp [hk], h⟩)
    ·rcases List.mem_cons.1 h with h | h
     ·exact absurd h.symm hx
     ·exact q3 h
    ·rcases List.mem_cons.1 hk with rfl | hk
     ·have hb0 : b ≠ 0 ∧ ¬ lkW l k + 1 < b := by
       constructor
       ·intro e; exact hc ⟨h1, h2, .inl e⟩
       ·intro e; exact hc ⟨h1, h2, .inr e⟩
      have := q2 hb0.1
      omega
     ·exact q4 k hk hne h1 h2
def WyOk (kids : Nme → List Nme) (to : Nme) (N : List Nme) (l : List Wy) : Prop := (l.map (·.1)).Nodup ∧ ∀ p ∈ l, p.1 ∈ N ∧ 1 ≤ p.2 ∧ p.2 ≤ l.length ∧ Wk kids to p.2 p.1
theorem lkW_mem {l : List Wy} {s : Nme} (h : 0 < lkW l s) : (s, lkW l s) ∈ l := by
 unfold lkW at h ⊢
 split at h
 ·rename_i p hp
  have h1 := List.mem_of_find?_eq_some hp
  have h2 := List.find?_some hp
  simp only [wyK, decide_eq_true_eq] at h2
  subst h2
  exact h1
 ·omega
theorem lkW_wk {kids : Nme → List Nme} {to : Nme} {N : List Nme} {l : List Wy} (h : WyOk kids to N l) {s : Nme} (hs : 0 < lkW l s) : Wk kids to (lkW l s) s := (h.2 _ (lkW_mem hs)).2.2.2
theorem ups_split (s : Nme) (n : Nat) (l : List Wy) : ((∀ p ∈ l, s ≠ p.1) ∧ upsert (wyK s) (s, n) l = l ++ [(s, n)]) ∨ ∃ A m B, l = A ++ (s, m) :: B ∧ (∀ p ∈ A, s ≠ p.1) ∧ upsert (wyK s) (s, n) l = A ++ (s, n) :: B := by
 unfold upsert
 cases h : l.findIdx? (wyK s) with
 | none =>
  rw [List.findIdx?_eq_none_iff] at h
  exact .inl ⟨fun p hp e => by have := h p hp; simp [wyK, e] at this, rfl⟩
 | some j =>
  rw [List.findIdx?_eq_some_iff_getElem] at h
  obtain ⟨hj, h1, h2⟩ := h
  have h1 : s = l[j].1 := by simpa [wyK] using h1
  have e := List.set_eq_take_append_cons_drop (l := l) (i := j) (a := l[j])
  rw [if_pos hj, List.set_getElem_self] at e
  have e2 := List.set_eq_take_append_cons_drop (l := l) (i := j) (a := (s, n))
  rw [if_pos hj] at e2
  refine .inr ⟨l.take j, l[j].2, l.drop (j + 1), by rw [h1]; exact e, fun p hp => ?_, e2⟩
  obtain ⟨i, hi, rfl⟩ := List.getElem_of_mem hp
  rw [List.length_take] at hi
  rw [List.getElem_take]
  have := h2 i (by omega)
  simpa [wyK] using this
def smW (l : List Wy) : Nat := (l.map (·.2)).sum
def muW (N : List Nme) (l : List Wy) : Nat := (N.length - l.length) * 100000 + smW l
theorem lkW_at {A B : List Wy} {s : Nme} {m : Nat} (h : ∀ p ∈ A, s ≠ p.1) : lkW (A ++ (s, m) :: B) s = m := by
 unfold lkW
 have : A.find? (wyK s) = none := by
  rw [List.find?_eq_none]
  intro p hp e
  simp only [wyK, decide_eq_true_eq] at e
  exact h p hp e
 rw [List.find?_append, this]
 simp [wyK]
theorem bsW_wk {kids : Nme → List Nme} {to : Nme} {N : List Nme} {l : List Wy} (h : WyOk kids to N l) (s : Nme) (h0 : 0 < bsW to l (kids s)) : Wk kids to (bsW to l (kids s)) s ∧ bsW to l (kids s) ≤ l.length + 1 := by
 obtain ⟨q1, _, _, _⟩ := foW_spec to l (kids s) 0 (fun h => absurd rfl h) _ rfl
 change bsW to l (kids s) = 0 ∨ _ at q1
 rcases q1 with e | ⟨e, hm⟩ | ⟨k, hk, hne, h1, h2, e⟩
 ·omega
 ·change bsW to l (kids s) = 1 at e
  rw [e]
  exact ⟨hm, by omega⟩
 ·change bsW to l (kids s) = lkW l k + 1 at e
  rw [e]
  have hm := h.2 _ (lkW_mem h1)
  exact ⟨Wk_step hk h2 hm.2.2.2, by have := hm.2.2.1; dsimp only at this; omega⟩
theorem rlW_ok {kids : Nme → List Nme} {to : Nme} {N : List Nme} (hN : N.length ≤ 1000) {l : List Wy} (h : WyOk kids to N l) {s : Nme} (hs : s ∈ N) : WyOk kids to N (rlW kids to l s) ∧ (rlW kids to l s = l ∨ muW N (rlW kids to l s) < muW N l) := by
 unfold rlW
 split
 ·rename_i hc
  obtain ⟨hc1, hc2, hc3⟩ := hc
  obtain ⟨w1, w2⟩ := bsW_wk h s hc2
  generalize bsW to l (kids s) = n at *
  rcases ups_split s n l with ⟨g1, e⟩ | ⟨A, m, B, el, g1, e⟩
  ·rw [e]
   have hok : WyOk kids to N (l ++ [(s, n)]) := by
    refine ⟨?_, fun p hp => ?_⟩
    ·rw [List.map_append, List.nodup_append]
     refine ⟨h.1, by simp, fun a ha b hb e2 => ?_⟩
     simp only [List.map_cons, List.map_nil, List.mem_singleton] at hb
     obtain ⟨p, hp, rfl⟩ := List.mem_map.1 ha
     exact g1 p hp (by rw [e2, hb])
    ·rw [List.length_append, List.length_singleton]
     rcases List.mem_append.1 hp with hp | hp
     ·have := h.2 p hp
      exact ⟨this.1, this.2.1, by omega, this.2.2.2⟩
     ·rw [List.mem_singleton.1 hp]
      exact ⟨hs, hc2, w2, w1⟩
   refine ⟨hok, .inr ?_⟩
   have hl : (l ++ [(s, n)]).length ≤ N.length := by
    have := nodup_len hok.1 (b := N) (fun x hx => by obtain ⟨p, hp, rfl⟩ := List.mem_map.1 hx; exact (hok.2 p hp).1)
    rwa [List.length_map] at this
   have hsm : smW (l ++ [(s, n)]) = smW l + n := by unfold smW; simp
   unfold muW
   rw [hsm]
   rw [List.length_append, List.length_singleton] at hl ⊢
   omega
  ·rw [e]
   have hlk : lkW l s = m := by rw [el]; exact lkW_at g1
   have hm1 := h.2 (s, m) (by rw [el]; simp)
   dsimp only at hm1
   have hnm : n < m := by omega
   have hll : (A ++ (s, n) :: B).length = l.length := by rw [el]; simp
   refine ⟨⟨?_, fun p hp => ?_⟩, .inr ?_⟩
   ·have := h.1
    rw [el] at this
    simpa using this
   ·rw [hll]
    have hp2 : p ∈ l ∨ p = (s, n) := by
     rw [el]
     simp only [List.mem_append, List.mem_cons] at hp ⊢
     rcases hp with h | h | h
     ·exact .inl (.inl h)
     ·exact .inr h
     ·exact .inl (.inr (.inr h))
    rcases hp2 with hp2 | rfl
    ·exact h.2 p hp2
    ·exact ⟨hs, hc2, by dsimp only; omega, w1⟩
   ·unfold muW
    rw [hll]
    have h1 : smW (A ++ (s, n) :: B) + m = smW l + n := by rw [el]; unfold smW; simp; omega
    omega
 ·exact ⟨h, .inl rfl⟩
theorem paW_ok {kids : Nme → List Nme} {to : Nme} {N : List Nme} (hN : N.length ≤ 1000) : ∀ (M : List Nme) (l : List Wy), (∀ s ∈ M, s ∈ N) → WyOk kids to N l → WyOk kids to N (paW kids to M l) ∧ ((paW kids to M l = l ∧ ∀ s ∈ M, rlW kids to l s = l) ∨ muW N (paW kids to M l) < muW N l)
 | [], l, _, h => ⟨h, .inl ⟨rfl, fun s hs => by simp at hs⟩⟩
 | s :: M, l, hM, h => by
  obtain ⟨g1, g2⟩ := rlW_ok hN h (hM s (by simp))
  obtain ⟨k1, k2⟩ := paW_ok hN M (rlW kids to l s) (fun x hx => hM x (by simp [hx])) g1
  refine ⟨k1, ?_⟩
  rcases g2 with e | g2
  ·rw [e] at k2
   have e2 : paW kids to (s :: M) l = paW kids to M l := by show paW kids to M (rlW kids to l s) = _; rw [e]
   rcases k2 with ⟨k2, k3⟩ | k2
   ·refine .inl ⟨by rw [e2]; exact k2, fun x hx => ?_⟩
    rcases List.mem_cons.1 hx with rfl | hx
    ·exact e
    ·exact k3 x hx
   ·exact .inr (by rw [e2]; exact k2)
  ·rcases k2 with ⟨k2, k3⟩ | k2
   ·exact .inr (by show muW N (paW kids to M (rlW kids to l s)) < _; rw [k2]; exact g2)
   ·exact .inr (Nat.lt_trans k2 g2)
theorem fix_ok {kids : Nme → List Nme} {to : Nme} {N : List Nme} {l : List Wy} (h : WyOk kids to N l) {s : Nme} (hs : s ∈ N) (hle : ¬ ltN s to) (hf : rlW kids to l s = l) (n : Nat) (hn : 1 ≤ n) (hb : 0 < bsW to l (kids s) ∧ bsW to l (kids s) ≤ n) : 0 < lkW l s ∧ lkW l s ≤ n := by
 by_cases hc : ¬ ltN s to ∧ 0 < bsW to l (kids s) ∧ (lkW l s = 0 ∨ bsW to l (kids s) < lkW l s)
 ·unfold rlW at hf
  rw [if_pos hc] at hf
  rcases ups_split s (bsW to l (kids s)) l with ⟨g1, e⟩ | ⟨A, m, B, el, g1, e⟩
  ·rw [e] at hf
   have := congrArg List.length hf
   simp at this
  ·rw [e] at hf
   have h1 : lkW l s = m := by rw [el]; exact lkW_at g1
   have h2 : lkW (A ++ (s, bsW to l (kids s)) :: B) s = lkW l s := congrArg (fun z => lkW z s) hf
   rw [lkW_at g1] at h2
   have h3 := (h.2 (s, m) (by rw [el]; simp)).2.1
   dsimp only at h3
   omega
 ·have hc : ¬ (lkW l s = 0 ∨ bsW to l (kids s) < lkW l s) := fun e => hc ⟨hle, hb.1, e⟩
  omega
def FarOk (kids : Nme → List Nme) (to : Nme) (N : List Nme) (l : List Wy) : Prop := WyOk kids to N l ∧ ∀ s ∈ N, ¬ ltN s to → ∀ n, Wk kids to n s → 0 < lkW l s ∧ lkW l s ≤ n
theorem far_ok {kids : Nme → List Nme} {to : Nme} {N : List Nme} (hk : ∀ s ∈ N, ∀ k ∈ kids s, k ∈ N) {l : List Wy} (h : WyOk kids to N l) (hf : ∀ s ∈ N, rlW kids to l s = l) : FarOk kids to N l := by
 refine ⟨h, fun s hs hle n => ?_⟩
 have key : ∀ (n : Nat) (s : Nme), s ∈ N → ¬ ltN s to → Wk kids to (n + 1) s → 0 < lkW l s ∧ lkW l s ≤ n + 1 := by
  intro n
  induction n with
  | zero =>
   intro s hs hle hw
   have := fix_ok h hs hle (hf s hs) 1 (Nat.le_refl _) (by
    obtain ⟨_, _, q3, _⟩ := foW_spec to l (kids s) 0 (fun h => absurd rfl h) _ rfl
    have := q3 hw
    change bsW to l (kids s) = 1 at this
    omega)
   exact this
  | succ n ih =>
   intro s hs hle hw
   obtain ⟨k, hk1, hk2, hk3⟩ := Wk_more.1 hw
   obtain ⟨i1, i2⟩ := ih k (hk s hs k hk1) (fun e => ltN_irr _ (ltN_trans hk2 e)) hk3
   refine fix_ok h hs hle (hf s hs) (n + 1 + 1) (by omega) ?_
   obtain ⟨_, _, _, q4⟩ := foW_spec to l (kids s) 0 (fun h => absurd rfl h) _ rfl
   have := q4 k hk1 (fun e => ltN_irr _ (e ▸ hk2)) i1 hk2
   change bsW to l (kids s) ≠ 0 ∧ bsW to l (kids s) ≤ lkW l k + 1 at this
   omega
 intro hw
 have := Wk_pos hw
 obtain ⟨m, rfl⟩ : ∃ m, n = m + 1 := ⟨n - 1, by omega⟩
 exact key m s hs hle hw
end Go.Proofs.YtagoolooikpabaaGreatDoor
namespace Go.Proofs.YtagoolooikpabaaGreatDoor
open Go Go.RowKit
set_option maxRecDepth 100000
set_option maxHeartbeats 4000000
variable {H : Hp} {K : AV → Hp → Prop}
def CyAt (kids : Nme → List Nme) (N : List Nme) (k b : Nat) (fr : Nme) (W : List Wy) : Prop :=
 (b = 0 → ∀ j (_ : j < N.length), j < k → ∀ n, ¬ Wk kids N[j] n N[j]) ∧
 (0 < b → ∃ i, ∃ h : i < N.length, i < k ∧ fr = N[i] ∧ FarOk kids fr N W ∧ lkW W fr = b ∧ (∀ j (_ : j < N.length), j < k → ∀ m, Wk kids N[j] m N[j] → b ≤ m) ∧ ∀ j (_ : j < N.length), j < i → ∀ m, Wk kids N[j] m N[j] → b < m)
theorem CyAt.zero (kids : Nme → List Nme) (N : List Nme) : CyAt kids N 0 0 .empty [] := ⟨fun _ j _ h => by omega, fun h => by omega⟩
theorem CyAt.step {kids : Nme → List Nme} {N : List Nme} {k b : Nat} {fr : Nme} {W l : List Wy} (h : CyAt kids N k b fr W) (hk : k < N.length) (hf : FarOk kids N[k] N l) :
  (0 < lkW l N[k] ∧ (b = 0 ∨ lkW l N[k] < b) → CyAt kids N (k + 1) (lkW l N[k]) N[k] l) ∧ (¬ (0 < lkW l N[k] ∧ (b = 0 ∨ lkW l N[k] < b)) → CyAt kids N (k + 1) b fr W) := by
 have hself : ∀ m, Wk kids N[k] m N[k] → 0 < lkW l N[k] ∧ lkW l N[k] ≤ m := fun m hm => hf.2 _ (List.getElem_mem hk) (ltN_irr _) m hm
 constructor
 ·intro hc
  refine ⟨fun e => by omega, fun _ => ⟨k, hk, by omega, rfl, hf, rfl, fun j hj hjk m hm => ?_, fun j hj hjk m hm => ?_⟩⟩
  ·rcases Nat.lt_or_ge j k with h1 | h1
   ·rcases Nat.eq_zero_or_pos b with hb | hb
    ·exact absurd hm (h.1 hb j hj h1 m)
    ·obtain ⟨i, _, _, _, _, _, q, _⟩ := h.2 hb
     have := q j hj h1 m hm
     omega
   ·obtain rfl : j = k := by omega
    exact (hself m hm).2
  ·rcases Nat.eq_zero_or_pos b with hb | hb
   ·exact absurd hm (h.1 hb j hj hjk m)
   ·obtain ⟨i, _, _, _, _, _, q, _⟩ := h.2 hb
    have := q j hj hjk m hm
    omega
 ·intro hc
  refine ⟨fun e j hj hjk n hn => ?_, fun hb => ?_⟩
  ·rcases Nat.lt_or_ge j k with h1 | h1
   ·exact h.1 e j hj h1 n hn
   ·obtain rfl : j = k := by omega
    exact hc ⟨(hself n hn).1, .inl e⟩
  ·obtain ⟨i, hi, h1, h2, h3, h4, h5, h6⟩ := h.2 hb
   refine ⟨i, hi, by omega, h2, h3, h4, fun j hj hjk m hm => ?_, h6⟩
   rcases Nat.lt_or_ge j k with h7 | h7
   ·exact h5 j hj h7 m hm
   ·obtain rfl : j = k := by omega
    have := hself m hm
    have h8 : ¬ lkW l N[j] < b := fun e => hc ⟨this.1, .inr e⟩
    omega
def wyB (W : List Wy) (m : Nat) (k : Nme) : Bool := decide (lkW W k = m)
theorem cy_end {kids : Nme → List Nme} {N : List Nme} (hN : ∀ s ∈ N, ∀ k ∈ kids s, k ∈ N) (h0 : ∀ s, s ∉ N → kids s = []) {b : Nat} {fr : Nme} {W : List Wy} (h : CyAt kids N N.length b fr W) :
  (b = 0 → cycG N kids = []) ∧ (0 < b → cycG N kids = wayG kids fr (wyB W) (b - 1) [fr] fr) := by
 constructor
 ·intro hb
  refine cyc_none (fun x hx n => ?_)
  obtain ⟨j, hj, rfl⟩ := List.getElem_of_mem hx
  exact h.1 hb j hj hj n
 ·intro hb
  obtain ⟨i, hi, _, hfr, hfar, hlk, h5, h6⟩ := h.2 hb
  have hAB : N = N.take i ++ fr :: N.drop (i + 1) := by
   have e := List.set_eq_take_append_cons_drop (l := N) (i := i) (a := N[i])
   rw [if_pos hi, List.set_getElem_self] at e
   rw [hfr]; exact e
  refine (cyc_some hN hAB (fun y hy m hm hw => ?_) (fun y hy hw => ?_) (by rw [← hlk]; exact lkW_wk hfar.1 (by omega)) (way := wyB W) (fun m k hk hm1 hm2 => ?_)).1
  ·obtain ⟨j, hj, rfl⟩ := List.getElem_of_mem hy
   have := h5 j hj hj m hw
   omega
  ·obtain ⟨j, hj, rfl⟩ := List.getElem_of_mem hy
   rw [List.length_take] at hj
   rw [List.getElem_take] at hw
   have := h6 j (by omega) (by omega) b hw
   omega
  ·unfold wyB
   rw [decide_eq_true_eq]
   constructor
   ·intro e
    have hp : 0 < lkW W k := by omega
    have hkN : k ∈ N := (hfar.1.2 _ (lkW_mem hp)).1
    refine ⟨by rw [← e]; exact lkW_wk hfar.1 hp, fun m' hm' hw => ?_⟩
    have := (hfar.2 k hkN (fun e => ltN_irr _ (ltN_trans hk e)) m' hw).2
    omega
   ·rintro ⟨hw, hmin⟩
    have hkN : k ∈ N := by
     apply Classical.byContradiction
     intro hn
     have he := h0 k hn
     obtain ⟨q, rfl⟩ : ∃ q, m = q + 1 := ⟨m - 1, by omega⟩
     cases q with
     | zero => have h1 := Wk_one.1 hw; rw [he] at h1; simp at h1
     | succ q => obtain ⟨z, hz, _⟩ := Wk_more.1 hw; rw [he] at hz; simp at hz
    have h1 := hfar.2 k hkN (fun e => ltN_irr _ (ltN_trans hk e)) m hw
    rcases Nat.lt_or_ge (lkW W k) m with h2 | h2
    ·exact absurd (lkW_wk hfar.1 h1.1) (hmin _ h2)
    ·omega
theorem wy_next {kids : Nme → List Nme} {N : List Nme} (hN : ∀ s ∈ N, ∀ k ∈ kids s, k ∈ N) {fr : Nme} {W : List Wy} (h : FarOk kids fr N W) {last : Nme} (hl : last ∈ N) (hle : ¬ ltN last fr) {n : Nat} (hn : 1 ≤ n) (hw : lkW W last = n + 1) : ∃ k ∈ kids last, ltN fr k ∧ lkW W k = n := by
 have h1 := lkW_wk h.1 (s := last) (by omega)
 rw [hw] at h1
 obtain ⟨m, rfl⟩ : ∃ m, n = m + 1 := ⟨n - 1, by omega⟩
 obtain ⟨k, hk1, hk2, hk3⟩ := Wk_more.1 h1
 have hkN := hN last hl k hk1
 have h2 := h.2 k hkN (fun e => ltN_irr _ (ltN_trans hk2 e)) _ hk3
 refine ⟨k, hk1, hk2, ?_⟩
 have h3 := h.2 last hl hle _ (Wk_step hk1 hk2 (lkW_wk h.1 h2.1))
 omega
end Go.Proofs.YtagoolooikpabaaGreatDoor
