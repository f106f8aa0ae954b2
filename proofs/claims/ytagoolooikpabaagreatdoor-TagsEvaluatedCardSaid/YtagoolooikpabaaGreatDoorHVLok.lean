/- What a tag is at a moment: expr.lookup in the program. Condition: the series are right. -/
import Derived.Test.YtagoolooikpabaaGreatDoorHVLkp
import Derived.Test.YtagoolooikpabaaGreatDoorHVEvl
set_option linter.all false
namespace Go.Proofs.YtagoolooikpabaaGreatDoor
open Go Go.RowKit
set_option maxRecDepth 100000
set_option maxHeartbeats 1000000
variable {H : Hp} {K : AV → Hp → Prop}
theorem halfS_is (i j : Nat) (h : i + j ≤ 1000000000000) : IntKind.u64.wrap ((i : Int) + j) = (i : Int) + j ∧ ((i : Int) + j).fdiv (2 ^ min 1 64) = (((i + j) / 2 : Nat) : Int) := by
 refine ⟨by simp [IntKind.wrap, IntKind.bits, IntKind.signed]; omega, ?_⟩
 rw [show ((2 : Int) ^ min 1 64) = 2 by decide, Int.fdiv_eq_ediv_of_nonneg _ oMg]
 omega
theorem cmpTag_a (x : Ser) (t : ByteArray) (hk : K (.c (.int .i64 (ordS x.tg t))) H) : ACalls Tryz.prog 179 [.agg (encSr x), (.c (.str t))] H K := by
 refine acalls Tryz.func179 rfl kRf gT (fun hH => ?_)
 refine gO ?_
 refine ordStr_a _ _ ?_
 refine gO ?_
 exact Ret.drop hH lRf trivial hk
theorem cmpAt_a (x : Smp) (t : Int) (hx : 0 ≤ x.t ∧ x.t ≤ 345686399999) (ht : -1000000000000 ≤ t ∧ t ≤ 1000000000000) (hk : K (.c (.int .i64 (x.t - t))) H) : ACalls Tryz.prog 130 [.agg (encS x), (.c (.int .i64 t))] H K := by
 refine acalls Tryz.func130 rfl kRf gT (fun hH => ?_)
 refine gO ?_
 exact Ret.drop hH lRf trivial hk
theorem srchTag_a (l : List Ser) (t : ByteArray) (hlen : l.length ≤ 100000) (hinc : ∀ (i j : Nat) (hj : j < l.length) (hij : i < j), ordS (l[i]'oMg).tg l[j].tg < 0)
  (hk : ∀ (p : Nat) (b : Bool), p ≤ l.length → (b = true → ∃ h : p < l.length, l[p].tg = t) → (b = false → ∀ s ∈ l, s.tg ≠ t) → K (.tup [(.c (.int .i64 p)), (.c (.bool b))]) H) : ACalls Tryz.prog 178 [.c (.lst 2 (l.map encSr)), (.c (.str t)), .c (.fn 179 [] [])] H K := by
 have he : entersB Tryz.prog 179 = true := by kernel_rfl
 refine acalls Tryz.func178 rfl kRf gT (fun hH => ?_)
 refine gO ?_
 refine AWp.loop (H.length) [0, 1, 2, 8] [9, 10] (fun (s : Nat × Nat) => s.1 ≤ s.2 ∧ s.2 ≤ l.length ∧ (∀ q (h : q < l.length), q < s.1 → ordS l[q].tg t < 0) ∧ (∀ q (h : q < l.length), s.2 ≤ q → 0 ≤ ordS l[q].tg t)) (fun (s : Nat × Nat) => [(9, (.c (.int .i64 (s.1)))), (10, (.c (.int .i64 (s.2))))]) (fun (s : Nat × Nat) => H) (fun (s : Nat × Nat) => s.2 - s.1) kRf (fun _ => rfl) kRf sOo sOm kl ?_ (fun s hs _ _ => ?_)
 ·exact Next.mk (0, l.length) ⟨by simp, by simp, fun q h h2 => absurd h2 sMp, fun q h h2 => absurd h2 (by simp; omega)⟩ wk
 obtain ⟨i, j⟩ := s
 obtain ⟨s1, s2, s3, s4⟩ := hs
 dsimp only at s1 s2 s3 s4
 by_cases hlt : i < j
 ·obtain ⟨e1, e2⟩ := halfS_is i j oMg
  obtain ⟨m, hm⟩ : ∃ m, m = (i + j) / 2 := ⟨_, rfl⟩
  rw [← hm] at e2
  have hml : m < l.length := by omega
  refine gO3 he e1 e2 ?_
  refine cmpTag_a l[m] t ?_
  have hle : ∀ p q (hp : p < l.length) (hq : q < l.length), p ≤ q → p = q ∨ ordS l[p].tg l[q].tg < 0 := fun p q hp hq hpq => by
   rcases Nat.eq_or_lt_of_le hpq with h | h
   ·exact .inl h
   ·exact .inr (hinc p q hq h)
  by_cases c : ordS l[m].tg t < 0
  ·refine gO1 c ?_
   refine Next.mk (m + 1, j) ⟨⟨by dsimp only; omega, s2, fun q h h2 => ?_, s4⟩, by dsimp only; omega⟩ wk
   rcases hle q m h hml (by dsimp only at h2; omega) with rfl | g
   ·exact c
   ·exact ordS_trans g c
  ·refine gO1 c ?_
   refine Next.mk (i, m) ⟨⟨by dsimp only; omega, by dsimp only; omega, s3, fun q h h2 => ?_⟩, by dsimp only; omega⟩ wk
   rcases hle m q hml h (by dsimp only at h2; omega) with e | g
   ·subst e; omega
   ·have g2 := ordS_flip l[m].tg l[q].tg
    have g3 := ordS_flip l[m].tg t
    have g4 := ordS_eq l[m].tg t
    refine Classical.byContradiction fun g5 => ?_
    have g6 := ordS_trans g (show ordS l[q].tg t < 0 by omega)
    omega
 ·have e : j = i := by omega
  subst e
  have hno : (∀ h : j < l.length, l[j].tg ≠ t) → ∀ s ∈ l, s.tg ≠ t := fun hn s hs => by
   obtain ⟨q, hq, rfl⟩ := List.getElem_of_mem hs
   intro e
   have e0 := (ordS_eq _ _).2 e
   by_cases h1 : q < j
   ·have := s3 q hq h1; omega
   ·by_cases h2 : q = j
    ·subst h2; exact hn hq e
    ·have h3 := hinc j q hq oMg
     have h4 := s4 j oMg lRf
     rw [e] at h3
     omega
  by_cases c : j < l.length
  ·refine gO1 he ?_
   refine cmpTag_a l[j] t ?_
   by_cases c2 : ordS l[j].tg t = 0
   ·refine gO1 c2 ?_
    exact Ret.same lRf (hk _ _ s2 (fun _ => ⟨c, (ordS_eq _ _).1 c2⟩) (fun h => by cases h))
   ·refine gO1 c2 ?_
    exact Ret.same lRf (hk _ _ s2 (fun h => by cases h) (fun _ => hno fun _ e => c2 ((ordS_eq _ _).2 e)))
  ·refine gO1 he ?_
   exact Ret.same lRf (hk _ _ s2 (fun h => by cases h) (fun _ => hno fun h => absurd h c))
theorem samplesE_a (l : List Ser) (t : ByteArray) (h : slF l = 0) (hk : K (.c (.lst 3 ((serL l t).map encS))) H) : ACalls Tryz.prog 128 [.c (.lst 2 (l.map encSr)), (.c (.str t))] H K := by
 obtain ⟨h1, h2, h3⟩ := slF_ok h
 have he : entersB Tryz.prog 179 = true := by kernel_rfl
 refine acalls Tryz.func128 rfl kRf gT (fun hH => ?_)
 refine gO1 he ?_
 refine srchTag_a l t oMg h3 (fun p b g1 g2 g3 => ?_)
 cases b with
 | true =>
  obtain ⟨g4, g5⟩ := g2 rfl
  rw [← g5, serL_at h3 g4] at hk
  refine gO ?_
  exact Ret.same lRf hk
 | false =>
  rw [serL_no (g3 rfl)] at hk
  refine gO ?_
  exact Ret.nil [3] lRf (Ret.same lRf hk)
theorem srchAt_a (l : List Smp) (t : Int) (hlen : l.length ≤ 100000) (hinc : ∀ (i j : Nat) (hj : j < l.length) (hij : i < j), (l[i]'oMg).t < l[j].t) (hn : ∀ x ∈ l, 0 ≤ x.t ∧ x.t ≤ 345686399999) (ht : -1000000000000 ≤ t ∧ t ≤ 1000000000000)
  (hk : ∀ (p : Nat) (b : Bool), p ≤ l.length → (∀ q (h : q < l.length), q < p → l[q].t < t) → (∀ q (h : q < l.length), p ≤ q → t ≤ l[q].t) → (b = true → ∃ h : p < l.length, l[p].t = t) → (b = false → ∀ h : p < l.length, l[p].t ≠ t) → K (.tup [(.c (.int .i64 p)), (.c (.bool b))]) H) : ACalls Tryz.prog 129 [.c (.lst 3 (l.map encS)), (.c (.int .i64 t)), .c (.fn 130 [] [])] H K := by
 have he : entersB Tryz.prog 130 = true := by kernel_rfl
 refine acalls Tryz.func129 rfl kRf gT (fun hH => ?_)
 refine gO ?_
 refine AWp.loop (H.length) [0, 1, 2, 8] [9, 10] (fun (s : Nat × Nat) => s.1 ≤ s.2 ∧ s.2 ≤ l.length ∧ (∀ q (h : q < l.length), q < s.1 → l[q].t < t) ∧ (∀ q (h : q < l.length), s.2 ≤ q → t ≤ l[q].t)) (fun (s : Nat × Nat) => [(9, (.c (.int .i64 (s.1)))), (10, (.c (.int .i64 (s.2))))]) (fun (s : Nat × Nat) => H) (fun (s : Nat × Nat) => s.2 - s.1) kRf (fun _ => rfl) kRf sOo sOm kl ?_ (fun s hs _ _ => ?_)
 ·exact Next.mk (0, l.length) ⟨by simp, by simp, fun q h h2 => absurd h2 sMp, fun q h h2 => absurd h2 (by simp; omega)⟩ wk
 obtain ⟨i, j⟩ := s
 obtain ⟨s1, s2, s3, s4⟩ := hs
 dsimp only at s1 s2 s3 s4
 by_cases hlt : i < j
 ·obtain ⟨e1, e2⟩ := halfS_is i j oMg
  obtain ⟨m, hm⟩ : ∃ m, m = (i + j) / 2 := ⟨_, rfl⟩
  rw [← hm] at e2
  have hml : m < l.length := by omega
  have hnm := hn l[m] (List.getElem_mem hml)
  refine gO3 he e1 e2 ?_
  refine cmpAt_a l[m] t hnm ht ?_
  have hle : ∀ p q (hp : p < l.length) (hq : q < l.length), p ≤ q → l[p].t ≤ l[q].t := fun p q hp hq hpq => by
   rcases Nat.eq_or_lt_of_le hpq with rfl | h
   ·exact Int.le_refl _
   ·exact Int.le_of_lt (hinc p q hq h)
  by_cases c : l[m].t < t
  ·have c2 : l[m].t - t < 0 := by omega
   refine gO1 c2 ?_
   refine Next.mk (m + 1, j) ⟨⟨by dsimp only; omega, s2, fun q h h2 => ?_, s4⟩, by dsimp only; omega⟩ wk
   have := hle q m h hml (by dsimp only at h2; omega)
   omega
  ·have c2 : ¬(l[m].t - t < 0) := by omega
   refine gO1 c2 ?_
   refine Next.mk (i, m) ⟨⟨by dsimp only; omega, by dsimp only; omega, s3, fun q h h2 => ?_⟩, by dsimp only; omega⟩ wk
   have := hle m q hml h (by dsimp only at h2; omega)
   omega
 ·have e : j = i := by omega
  subst e
  by_cases c : j < l.length
  ·refine gO1 he ?_
   refine cmpAt_a l[j] t (hn _ (List.getElem_mem c)) ht ?_
   by_cases c2 : l[j].t - t = 0
   ·refine gO1 c2 ?_
    exact Ret.same lRf (hk _ _ s2 s3 s4 (fun _ => ⟨c, by omega⟩) (fun h => by cases h))
   ·refine gO1 c2 ?_
    exact Ret.same lRf (hk _ _ s2 s3 s4 (fun h => by cases h) (fun _ _ => by omega))
  ·refine gO1 he ?_
   exact Ret.same lRf (hk _ _ s2 s3 s4 (fun h => by cases h) (fun _ h => absurd h c))
theorem serT_inc {l : List Smp} (h : serF l = 0) : ∀ (i j : Nat) (hj : j < l.length) (hij : i < j), (l[i]'oMg).t < l[j].t := by
 unfold serF at h
 split at h
 ·cases h
 ·have hall := errGo_eachS serErr ⟨0, 0, 0⟩ l h
  have key : ∀ k (hk : k < l.length) (hk0 : 0 < k), (l[k - 1]'oMg).t < l[k].t := fun k hk hk0 => by
   have h1 := hall k hk
   have hpv : prv ⟨0, 0, 0⟩ l k = l[k - 1]'oMg := prv_pos _ _ _ oMg hk0
   rw [hpv] at h1
   unfold serErr at h1
   split at h1
   ·rename_i h2; exact absurd h1 h2
   ·split at h1
    ·cases h1
    ·omega
  intro i j hj hij
  have key2 : ∀ d (hj : i + 1 + d < l.length), (l[i]'oMg).t < l[i + 1 + d].t := by
   intro d
   induction d with
   | zero => exact fun hj => key (i + 1) hj oMg
   | succ d ih =>
    intro hj
    have h1 := ih oMg
    have h2 := key (i + 1 + (d + 1)) hj oMg
    exact Int.lt_trans h1 h2
  obtain ⟨d, rfl⟩ : ∃ d, j = i + 1 + d := ⟨j - (i + 1), by omega⟩
  exact key2 d hj
theorem serL_ok {ss : List Ser} (h : slF ss = 0) (x : ByteArray) : serF (serL ss x) = 0 := by
 obtain ⟨h1, h2, h3⟩ := slF_ok h
 by_cases hx : ∃ s ∈ ss, s.tg = x
 ·obtain ⟨s, hs, rfl⟩ := hx
  obtain ⟨k, hk, rfl⟩ := List.getElem_of_mem hs
  rw [serL_at h3 hk]
  exact (h2 _ hs).1
 ·rw [serL_no fun s hs e => hx ⟨s, hs, e⟩]
  rfl
theorem lookE_a (l : List Ser) (t : ByteArray) (m : Int) (h : slF l = 0) (hm : 0 ≤ m ∧ m ≤ 1000000000000) {i : Nat} (hi : H[i]? = some (.row 42 1 [[.lst 2 (l.map encSr)]] true)) (hk : K (.agg (encV (lookP l t m))) H) : ACalls Tryz.prog 127 [(.c (.str t)), (.c (.int .i64 m)), .c (.ptr (some (i, 0, 0)))] H K := by
 have hs := serL_ok h t
 have hinc := serT_inc hs
 have hsm := smp_ok2 hs
 have hlen : (serL l t).length ≤ 5000 := by
  unfold serF at hs
  split at hs
  ·cases hs
  ·omega
 have he : entersB Tryz.prog 130 = true := by kernel_rfl
 have hil := getElem?_lt hi
 refine acalls Tryz.func127 rfl kRf gT (fun hH => ?_)
 refine gO2 hi he ?_
 refine samplesE_a l t h ?_
 unfold lookP at hk
 generalize serL l t = s at *
 refine gO1 he ?_
 refine srchAt_a s m oMg hinc (fun x hx => (hsm x hx).1) oMg (fun p b g1 g2 g3 g4 g5 => ?_)
 cases b with
 | true =>
  obtain ⟨g6, g7⟩ := g4 rfl
  rw [lastS_pos (p := p + 1) oMg (fun q h hq => by
   by_cases e : q = p
   ·subst e; omega
   ·have := g2 q h oMg; omega) (fun q h hq => by
   have := hinc p q h oMg; omega), dif_pos oMg] at hk
  simp only [Nat.add_sub_cancel] at hk
  refine gO ?_
  refine w_tree (.one 0 (.one 1 (.one 2 (.one 3 (.one 4 (.one 5 (.one 6 (.one 7 (.one 8 (.one 9 (.one 10 (.one 11 .done)))))))))))) kRf dKn ?_
  refine gO ?_
  exact Ret.drop hH lRf oKs hk
 | false =>
  have g6 := g5 rfl
  rw [lastS_pos (p := p) oMg (fun q h hq => by have := g2 q h oMg; omega) (fun q h hq => by
   have := g3 q h hq
   by_cases e : q = p
   ·subst e; have := g6 h; omega
   ·have := hinc p q h oMg
    have := g3 p oMg lRf
    omega)] at hk
  by_cases hp : 0 < p
  ·rw [dif_pos hp] at hk
   have e1 : ((p : Int) - 1).toNat = p - 1 := by omega
   refine gO ?_
   refine w_tree (.one 0 (.one 1 (.one 2 (.one 3 (.one 4 (.one 5 (.one 6 (.one 7 (.one 8 (.one 9 (.one 10 (.one 11 .done)))))))))))) kRf dKn ?_
   refine gO1 e1 ?_
   exact Ret.drop hH lRf oKs hk
  ·rw [dif_neg hp] at hk
   refine gO ?_
   refine badE_a ?_
   refine gO ?_
   exact Ret.drop hH lRf oKs hk
end Go.Proofs.YtagoolooikpabaaGreatDoor
