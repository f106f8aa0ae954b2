/- A buffer that drops nothing: no program in sight. No condition. -/
import Derived.Test.YtnpdbnkgipkgaaaGreatHVBufM
namespace Go.Proofs.YtnpdbnkgipkgaaaGreat
open Go Go.RowKit
set_option maxRecDepth 100000
set_option linter.all false
/-- the numbers behind a number, so many -/
def consG : Int → Nat → List Int
  | _, 0 => []
  | a, n + 1 => (a + 1) :: consG (a + 1) n
theorem consG_snoc : ∀ (n : Nat) (a : Int), consG a (n + 1) = consG a n ++ [a + n + 1]
  | 0, a => by simp [consG]
  | n + 1, a => by
    rw [consG, consG_snoc n (a + 1), consG, List.cons_append, Int.natCast_add, show a + 1 + (n : Int) + 1 = a + ((n : Int) + (1 : Nat)) + 1 by simp; omega]
theorem consG_gt : ∀ (n : Nat) (a x : Int), x ∈ consG a n → a < x ∧ x ≤ a + n
  | 0, a, x, h => by simp [consG] at h
  | n + 1, a, x, h => by
    rw [consG, List.mem_cons] at h
    rcases h with h | h
    · rw [h, Int.natCast_add]; simp; omega
    · have := consG_gt n (a + 1) x h
      rw [Int.natCast_add]; simp; omega
theorem consG_len : ∀ (n : Nat) (a : Int), (consG a n).length = n
  | 0, _ => rfl
  | n + 1, a => by rw [consG, List.length_cons, consG_len n]
theorem consG_get : ∀ (n : Nat) (a : Int) (k : Nat) (h : k < (consG a n).length), (consG a n)[k] = a + 1 + k
  | 0, a, k, h => by simp [consG] at h
  | n + 1, a, k, h => by
    cases k with
    | zero => simp [consG]
    | succ k =>
      simp only [consG, List.getElem_cons_succ]
      rw [consG_get n (a + 1) k (by simpa [consG] using h), Int.natCast_add]
      simp; omega
theorem consG_filter : ∀ (n : Nat) (a s : Int), a ≤ s → s ≤ a + n → (consG a n).filter (fun x => decide (s < x)) = consG s (a + n - s).toNat
  | 0, a, s, h1, h2 => by
    have : s = a := by simp at h2; omega
    subst this
    simp [consG]
  | n + 1, a, s, h1, h2 => by
    by_cases e : s = a
    · subst e
      rw [List.filter_eq_self.2 (fun x hx => decide_eq_true (consG_gt _ _ _ hx).1)]
      congr 1
      omega
    · rw [consG, List.filter_cons_of_neg (by simp; omega), consG_filter n (a + 1) s (by omega) (by rw [Int.natCast_add] at h2; simp at h2; omega)]
      congr 1
      rw [Int.natCast_add]; simp; omega
theorem sq_filter (l : List Hd) (s : Int) : sq (l.filter (fun x => decide (s < x.p.n))) = (sq l).filter (fun x => decide (s < x)) := by
  unfold sq; rw [List.filter_map]; rfl
theorem addE_mem {l : List Int} {n x : Int} : x ∈ addE l n ↔ x ∈ l ∨ x = n := by
  unfold addE
  split
  · constructor
    · exact .inl
    · rintro (h | rfl) <;> assumption
  · simp
theorem addE_all : ∀ (m l : List Int) (x : Int), x ∈ m.foldl addE l ↔ x ∈ l ∨ x ∈ m
  | [], l, x => by simp
  | n :: m, l, x => by
    rw [List.foldl_cons, addE_all m (addE l n) x, addE_mem]
    simp only [List.mem_cons]
    constructor
    · rintro ((h | h) | h)
      · exact .inl h
      · exact .inr (.inl h)
      · exact .inr (.inr h)
    · rintro (h | h | h)
      · exact .inl (.inl h)
      · exact .inl (.inr h)
      · exact .inr h
theorem send_mem : ∀ (c : Int) (l : List Hd), ∀ q ∈ (sendG c l).2, q.n ∈ sq l
  | _, [], q, h => by simp [sendG] at h
  | c, x :: t, q, h => by
    unfold sendG at h
    split at h
    · dsimp only at h
      rcases List.mem_cons.1 h with rfl | h
      · simp [sq]
      · have := send_mem (c - 1) t q h; simp [sq] at this ⊢; exact .inr this
    · have := send_mem c t q h; simp [sq] at this ⊢; exact .inr this
structure NdFree (nd : Nd) : Prop where
  pos : 0 ≤ nd.acked ∧ nd.acked ≤ nd.last
  con : sq nd.l = consG nd.acked (nd.last - nd.acked).toNat
  ever : ∀ x ∈ nd.ever, 1 ≤ x ∧ x ≤ nd.last
  out : ∀ q ∈ nd.out, 1 ≤ q.n ∧ q.n ≤ nd.last
  drp : nd.drp = []
  most : (nd.l.length : Int) ≤ nd.most
theorem step_free (k : Nat) (x : Stp) {nd : Nd} (h : NdFree nd) : NdFree (stepF 0 1 k x nd) ∧ nd.most ≤ (stepF 0 1 k x nd).most := by
  obtain ⟨⟨h0, h1⟩, h2, h3, h4, h5, h6⟩ := h
  unfold stepF
  split
  · unfold putF
    rw [if_neg (by omega)]
    refine ⟨⟨⟨h0, by dsimp only; omega⟩, ?_, fun x hx => ?_, fun q hq => ?_, h5, ?_⟩, by dsimp only; omega⟩
    · dsimp only
      rw [show (nd.last + 1 - nd.acked).toNat = (nd.last - nd.acked).toNat + 1 by omega, consG_snoc, ← h2, show nd.acked + ((nd.last - nd.acked).toNat : Int) + 1 = nd.last + 1 by omega]
      simp [sq]
    · have := h3 x hx; dsimp only; omega
    · have := h4 q hq; dsimp only; omega
    · dsimp only
      rw [List.length_append]
      simp only [List.length_singleton]
      omega
  split
  · unfold sendF
    refine ⟨⟨⟨h0, h1⟩, ?_, fun z hz => ?_, fun q hq => ?_, h5, ?_⟩, Int.le_refl _⟩
    · dsimp only; rw [sq_send]; exact h2
    · dsimp only at hz ⊢
      rw [addE_all] at hz
      rcases hz with hz | hz
      · exact h3 z hz
      · obtain ⟨q, hq, rfl⟩ := List.mem_map.1 hz
        have := send_mem _ _ q hq
        rw [h2] at this
        have := consG_gt _ _ _ this
        omega
    · dsimp only at hq ⊢
      rcases List.mem_append.1 hq with hq | hq
      · exact h4 q hq
      · have := send_mem _ _ q hq
        rw [h2] at this
        have := consG_gt _ _ _ this
        omega
    · dsimp only; rw [← sq_len, sq_send, sq_len]; exact h6
  split
  · unfold ackF
    split
    · exact ⟨⟨⟨h0, h1⟩, h2, h3, h4, h5, h6⟩, Int.le_refl _⟩
    · rename_i he
      have he : ackE x.seq nd = 0 := by simpa using he
      have hs : nd.acked ≤ x.seq ∧ x.seq ≤ nd.last := by
        unfold ackE at he
        split at he
        · cases he
        · rename_i h7
          split at he
          · cases he
          · rename_i h8
            by_cases h9 : x.seq = 0
            · omega
            · have : x.seq ∈ nd.ever := Classical.not_not.1 (fun h => h7 ⟨h9, h⟩)
              have := h3 _ this
              omega
      refine ⟨⟨⟨by dsimp only; omega, hs.2⟩, ?_, h3, h4, h5, ?_⟩, Int.le_refl _⟩
      · dsimp only
        rw [sq_filter, h2, consG_filter _ _ _ hs.1 (by omega)]
        congr 1
        omega
      · have := List.length_filter_le (fun y : Hd => decide (x.seq < y.p.n)) nd.l
        dsimp only; omega
  split
  · unfold resetF
    have e : sq (nd.l.map (fun x => (⟨x.p, false⟩ : Hd))) = sq nd.l := by simp [sq, Function.comp_def]
    exact ⟨⟨⟨h0, h1⟩, by dsimp only; rw [e]; exact h2, h3, h4, h5, by simpa using h6⟩, Int.le_refl _⟩
  · exact ⟨⟨⟨h0, h1⟩, h2, h3, h4, h5, h6⟩, Int.le_refl _⟩
theorem free_nil : NdFree nd0 := ⟨by simp [nd0], by simp [nd0, sq, consG], by simp [nd0], by simp [nd0], rfl, by simp [nd0]⟩
theorem play_free (l : List Stp) : ∀ k, k ≤ l.length → NdFree (playF 0 1 (l.take k)) := by
  intro k
  induction k with
  | zero => intro _; exact free_nil
  | succ k ih => intro hk; rw [play_next 0 1 (by omega)]; exact (step_free _ _ (ih (by omega))).1
theorem most_le (l : List Stp) : ∀ k, k ≤ l.length → (playF 0 1 (l.take (l.length - k))).most ≤ (playF 0 1 l).most := by
  intro k
  induction k with
  | zero => intro _; rw [Nat.sub_zero, List.take_length]; exact Int.le_refl _
  | succ k ih =>
    intro hk
    have h1 := ih (by omega)
    rw [show l.length - k = l.length - (k + 1) + 1 by omega, play_next 0 1 (by omega)] at h1
    exact Int.le_trans (step_free _ _ (play_free l _ (by omega))).2 h1
/-- with the room that is needed nothing is dropped -/
theorem play_same {n p : Int} {l : List Stp} (hn : (playF 0 1 l).most ≤ n) : ∀ k, k ≤ l.length → playF n p (l.take k) = playF 0 1 (l.take k) := by
  intro k
  induction k with
  | zero => intro _; rfl
  | succ k ih =>
    intro hk
    rw [play_next n p (by omega), play_next 0 1 (by omega), ih (by omega)]
    have hm := most_le l (l.length - (k + 1)) (by omega)
    rw [show l.length - (l.length - (k + 1)) = k + 1 by omega, play_next 0 1 (by omega)] at hm
    have hf := play_free l k (by omega)
    generalize playF 0 1 (l.take k) = nd at *
    generalize l[k] = x at *
    unfold stepF at hm ⊢
    by_cases h1 : x.kind = 1
    · rw [if_pos h1] at hm
      rw [if_pos h1, if_pos h1]
      unfold putF at hm ⊢
      rw [if_neg (by omega)] at hm
      dsimp only at hm
      rw [if_neg (by omega), if_neg (by omega)]
    · rw [if_neg h1, if_neg h1]
theorem put_ref (c p : Int) (x : Stp) (nd : Nd) : (putF c p x nd).ref = nd.ref := by
  unfold putF
  by_cases c1 : 0 < c ∧ (nd.l.length : Int) = c
  · rw [if_pos c1]
    by_cases c2 : p = 2
    · rw [if_pos c2]
    · rw [if_neg c2]
  · rw [if_neg c1]
theorem ref_mem {c p : Int} {l : List Stp} : ∀ j, j ≤ l.length → ∀ i : Nat, ((i : Int) ∈ (playF c p (l.take j)).ref ↔ ∃ h : i < j ∧ i < l.length, l[i].kind = 3 ∧ ackE l[i].seq (playF c p (l.take i)) ≠ 0) := by
  intro j
  induction j with
  | zero => intro _ i; simp [playF, nd0]
  | succ j ih =>
    intro hj i
    have ih := ih (by omega) i
    rw [play_next c p (by omega)]
    have same : ∀ nd' : Nd, nd'.ref = (playF c p (l.take j)).ref → ¬(l[j].kind = 3 ∧ ackE l[j].seq (playF c p (l.take j)) ≠ 0) → ((i : Int) ∈ nd'.ref ↔ ∃ h : i < j + 1 ∧ i < l.length, l[i].kind = 3 ∧ ackE l[i].seq (playF c p (l.take i)) ≠ 0) := by
      intro nd' h1 h2
      rw [h1, ih]
      constructor
      · rintro ⟨⟨h3, h4⟩, h5⟩; exact ⟨⟨by omega, h4⟩, h5⟩
      · rintro ⟨⟨h3, h4⟩, h5⟩
        by_cases e : i = j
        · subst e; exact absurd h5 h2
        · exact ⟨⟨by omega, h4⟩, h5⟩
    unfold stepF
    split
    · rename_i h; exact same _ (put_ref c p _ _) (by rw [h]; rintro ⟨h, _⟩; cases h)
    split
    · rename_i h; exact same _ rfl (by rw [h]; rintro ⟨h, _⟩; cases h)
    split
    · rename_i h3
      unfold ackF
      split
      · rename_i h4
        rw [List.mem_append, ih]
        constructor
        · rintro (⟨⟨h5, h6⟩, h7⟩ | h5)
          · exact ⟨⟨by omega, h6⟩, h7⟩
          · simp at h5
            have : i = j := by omega
            subst this
            exact ⟨⟨by omega, by omega⟩, h3, h4⟩
        · rintro ⟨⟨h5, h6⟩, h7⟩
          by_cases e : i = j
          · subst e; exact .inr (by simp)
          · exact .inl ⟨⟨by omega, h6⟩, h7⟩
      · rename_i h4; exact same _ rfl (fun h => h4 h.2)
    split
    · rename_i h3 _; exact same _ rfl (fun h => h3 h.1)
    · rename_i h3 _; exact same _ rfl (fun h => h3 h.1)
theorem last_next {c p : Int} {l : List Stp} {k : Nat} (h : k < l.length) : (playF c p (l.take (k + 1))).last = (playF c p (l.take k)).last + (if l[k].kind = 1 then 1 else 0) := by
  rw [play_next c p h]
  unfold stepF
  split
  · rename_i h1
    try rw [if_pos h1]
    unfold putF
    by_cases c1 : 0 < c ∧ ((playF c p (l.take k)).l.length : Int) = c
    · rw [if_pos c1]
      by_cases c2 : p = 2
      · rw [if_pos c2]
      · rw [if_neg c2]
    · rw [if_neg c1]
  · rename_i h1
    try rw [if_neg h1]
    rw [Int.add_zero]
    split
    · rfl
    split
    · unfold ackF; split <;> rfl
    split <;> rfl
theorem acked_next {c p : Int} {l : List Stp} {k : Nat} (h : k < l.length) : (playF c p (l.take (k + 1))).acked = if l[k].kind = 3 ∧ ackE l[k].seq (playF c p (l.take k)) = 0 then l[k].seq else (playF c p (l.take k)).acked := by
  rw [play_next c p h]
  unfold stepF
  split
  · rename_i h1
    rw [if_neg (by rw [h1]; rintro ⟨h, _⟩; cases h)]
    unfold putF
    by_cases c1 : 0 < c ∧ ((playF c p (l.take k)).l.length : Int) = c
    · rw [if_pos c1]
      by_cases c2 : p = 2
      · rw [if_pos c2]
      · rw [if_neg c2]
    · rw [if_neg c1]
  split
  · rename_i h1
    rw [if_neg (by rw [h1]; rintro ⟨h, _⟩; cases h)]
    rfl
  split
  · rename_i h3
    unfold ackF
    by_cases he : ackE l[k].seq (playF c p (l.take k)) = 0
    · rw [if_neg (by simpa using he), if_pos ⟨h3, he⟩]
    · rw [if_pos he, if_neg (fun hh => he hh.2)]
  · rename_i h3
    have h9 : ¬(l[k].kind = 3 ∧ ackE l[k].seq (playF c p (l.take k)) = 0) := fun hh => h3 hh.1
    rw [if_neg h9]
    by_cases h4 : l[k].kind = 4
    · rw [if_pos h4]; rfl
    · rw [if_neg h4]
end Go.Proofs.YtnpdbnkgipkgaaaGreat
