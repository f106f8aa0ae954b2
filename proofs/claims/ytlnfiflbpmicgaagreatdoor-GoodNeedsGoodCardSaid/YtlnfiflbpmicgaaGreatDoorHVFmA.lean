/- What is read of an expression: its tags are words, its text is at most twice as long as the source, and nowhere deeper. No program in sight. -/
import Derived.Test.YtlnfiflbpmicgaaGreatDoorHVExpS
namespace Go.Proofs.YtlnfiflbpmicgaaGreatDoor
open Go Go.RowKit
set_option maxRecDepth 100000
set_option linter.all false
set_option maxHeartbeats 1000000
def dpT : Ex → Nat
  | .num _ => 0
  | .tag _ _ => 0
  | .neg a => 1 + (dpT a + if stE a < 4 then 1 else 0)
  | .bin c a b => max (dpT a + if stE a < (if stC c = 1 then 2 else stC c) then 1 else 0) (dpT b + if stE b < stC c + 1 then 1 else 0)
  | .f1 _ a => 1 + dpT a
  | .f2 _ a b => 1 + max (dpT a) (dpT b)
  | .f3 _ a b c => 1 + max (max (dpT a) (dpT b)) (dpT c)
def dpF (e : Ex) (L : Nat) : Nat := dpT e + if stE e < L then 1 else 0
def WdE : Ex → Prop
  | .num _ => True
  | .tag x _ => (∀ c ∈ x, isWd c = true) ∧ ∃ c, x.head? = some c ∧ isSm c = true
  | .neg a => WdE a
  | .bin _ a b => WdE a ∧ WdE b
  | .f1 _ a => WdE a
  | .f2 _ a b => WdE a ∧ WdE b
  | .f3 _ a b c => WdE a ∧ WdE b ∧ WdE c
def wtT (T : List Tok) : Nat := (T.map (·.x.length)).sum
theorem wtT_cons (t : Tok) (T : List Tok) : wtT (t :: T) = t.x.length + wtT T := by unfold wtT; rw [List.map_cons, List.sum_cons]
theorem stE_bd : ∀ e : Ex, 1 ≤ stE e ∧ stE e ≤ 4
  | .num _ => by simp [stE]
  | .tag _ _ => by simp [stE]
  | .neg _ => by simp [stE]
  | .bin c _ _ => by
    simp only [stE, stC]
    repeat' split
    all_goals omega
  | .f1 _ _ => by simp [stE]
  | .f2 _ _ _ => by simp [stE]
  | .f3 _ _ _ _ => by simp [stE]
theorem fmtF_lenA (e : Ex) (L : Nat) : (fmtF e L).length = (fmtB e).length + if stE e < L then 2 else 0 := by
  unfold fmtF parB
  by_cases h : stE e < L
  · rw [decide_eq_true h, if_pos rfl, if_pos h]; simp
  · rw [decide_eq_false h, if_neg (by decide), if_neg h]; rfl
theorem fmtF_le (e : Ex) {L M : Nat} (h : L ≤ M) : (fmtF e L).length ≤ (fmtF e M).length := by
  rw [fmtF_lenA, fmtF_lenA]
  repeat' split
  all_goals omega
theorem dpF_le (e : Ex) {L M : Nat} (h : L ≤ M) : dpF e L ≤ dpF e M := by
  unfold dpF
  repeat' split
  all_goals omega
theorem fmtF_one (e : Ex) : (fmtF e 1).length = (fmtB e).length := by
  have := stE_bd e
  rw [fmtF_lenA, if_neg (by omega)]; rfl
theorem dpF_one (e : Ex) : dpF e 1 = dpT e := by
  have := stE_bd e
  unfold dpF
  rw [if_neg (by omega)]; rfl
theorem fmtF_bin (c : UInt8) (a b : Ex) : (fmtF (.bin c a b) (stC c)).length = (fmtF a (if stC c = 1 then 2 else stC c)).length + 3 + (fmtF b (stC c + 1)).length := by
  rw [fmtF_lenA, if_neg (by simp [stE])]
  show (fmtB (.bin c a b)).length + 0 = _
  simp only [fmtB, fmtF, List.length_append, List.length_cons]
  omega
theorem dpF_bin (c : UInt8) (a b : Ex) : dpF (.bin c a b) (stC c) = max (dpF a (if stC c = 1 then 2 else stC c)) (dpF b (stC c + 1)) := by
  unfold dpF
  rw [if_neg (by simp [stE])]
  show dpT (.bin c a b) + 0 = _
  simp only [dpT]
  rfl
theorem deep_neg {d dp : Int} {t : Tok} (h : deepF d dp t < 0) : dp < 0 ∧ d ≤ 20 := by
  unfold deepF at h
  split at h
  · omega
  · omega
def RdW (l : List UInt8) (rd : List Tok → Int → PR Ex) (d : Int) (L : Nat) : Prop := ∀ T dp x T' dp', Tl l T → rd T dp = .ok (x, T', dp') → WdE x ∧ (fmtF x L).length + 1 + 2 * wtT T' ≤ 2 * wtT T ∧ (dp' < 0 → dp < 0 ∧ d + dpF x L ≤ 20)
theorem row_w {l : List UInt8} {rd : List Tok → Int → PR Ex} (hg : RdG l rd) {d : Int} {k : Nat} (hk : 2 ≤ k) (hr : RdW l rd d (k + 1)) {ops : List UInt8} (ho : ∀ c ∈ ops, stC c = k) : ∀ (m : Nat) (x : Ex) (T : List Tok) (dp : Int) (x' : Ex) (T' : List Tok) (dp' : Int), WdE x → Tl l T → rowF ops rd d m x T dp = .ok (x', T', dp') → WdE x' ∧ (fmtF x' k).length + 2 * wtT T' ≤ (fmtF x k).length + 2 * wtT T ∧ (dp' < 0 → dp < 0 ∧ (d + dpF x k ≤ 20 → d + dpF x' k ≤ 20))
  | 0, x, T, dp, x', T', dp', hx, hT, h => by
    unfold rowF at h
    injection h with h
    injection h with h1 h2
    injection h2 with h2 h3
    subst h1 h2 h3
    exact ⟨hx, Nat.le_refl _, fun e => ⟨e, id⟩⟩
  | m + 1, x, T, dp, x', T', dp', hx, hT, h => by
    unfold rowF at h
    split at h
    · injection h with h
      injection h with h1 h2
      injection h2 with h2 h3
      subst h1 h2 h3
      exact ⟨hx, Nat.le_refl _, fun e => ⟨e, id⟩⟩
    · rename_i t T1
      split at h
      · injection h with h
        injection h with h1 h2
        injection h2 with h2 h3
        subst h1 h2 h3
        exact ⟨hx, Nat.le_refl _, fun e => ⟨e, id⟩⟩
      · rename_i c hc
        obtain ⟨s1, s2, s3⟩ := sgT_some hc
        have hck := ho c s3
        split at h
        · cases h
        · rename_i y T2 dp2 hy
          have hT1 := (hT.next (by omega)).1
          obtain ⟨g1, g2, g3⟩ := hg _ _ _ _ _ hT1 hy
          obtain ⟨w1, w2, w3⟩ := hr _ _ _ _ _ hT1 hy
          obtain ⟨v1, v2, v3⟩ := row_w hg hk hr ho m (.bin c x y) T2 dp2 x' T' dp' ⟨hx, w1⟩ g2 h
          have e1 := fmtF_bin c x y
          have e2 := dpF_bin c x y
          rw [hck, if_neg (by omega)] at e1 e2
          rw [e1] at v2
          rw [e2] at v3
          refine ⟨v1, ?_, fun e => ?_⟩
          · rw [wtT_cons, s2, List.length_singleton]; omega
          · have q1 := v3 e
            have q2 := w3 q1.1
            have q3 := deep_neg q2.1
            exact ⟨q3.1, fun q => q1.2 (by omega)⟩
theorem join_w {l : List UInt8} {rd : List Tok → Int → PR Ex} (hg : RdG l rd) {d : Int} {k : Nat} (hk : 2 ≤ k) (hr : RdW l rd d (k + 1)) {ops : List UInt8} (ho : ∀ c ∈ ops, stC c = k) (many : Bool) : RdW l (joinF ops many rd d) d k := by
  intro T dp x' T' dp' hT h
  unfold joinF at h
  split at h
  · cases h
  · rename_i x T1 dp1 h1
    obtain ⟨g1, g2, g3⟩ := hg _ _ _ _ _ hT h1
    obtain ⟨w1, w2, w3⟩ := hr _ _ _ _ _ hT h1
    obtain ⟨v1, v2, v3⟩ := row_w hg hk hr ho _ x T1 dp1 x' T' dp' w1 g2 h
    have m1 := fmtF_le x (show k ≤ k + 1 by omega)
    have m2 := dpF_le x (show k ≤ k + 1 by omega)
    refine ⟨v1, by omega, fun e => ?_⟩
    have q1 := v3 e
    have q2 := w3 q1.1
    exact ⟨q2.1, q1.2 (by omega)⟩
theorem cmp_w {l : List UInt8} {rd : List Tok → Int → PR Ex} (hg : RdG l rd) {d : Int} (hr : RdW l rd d 2) : RdW l (joinF [60, 61] false rd d) d 1 := by
  intro T dp x' T' dp' hT h
  unfold joinF at h
  split at h
  · cases h
  · rename_i x T1 dp1 h1
    obtain ⟨g1, g2, g3⟩ := hg _ _ _ _ _ hT h1
    obtain ⟨w1, w2, w3⟩ := hr _ _ _ _ _ hT h1
    have m1 := fmtF_le x (show 1 ≤ 2 by omega)
    have m2 := dpF_le x (show 1 ≤ 2 by omega)
    rw [if_neg (by decide)] at h
    unfold rowF at h
    split at h
    · injection h with h
      injection h with h1 h2
      injection h2 with h2 h3
      subst h1 h2 h3
      refine ⟨w1, by omega, fun e => ⟨(w3 e).1, ?_⟩⟩
      have := (w3 e).2
      omega
    · rename_i t T3
      split at h
      · injection h with h
        injection h with h1 h2
        injection h2 with h2 h3
        subst h1 h2 h3
        refine ⟨w1, by omega, fun e => ⟨(w3 e).1, ?_⟩⟩
        have := (w3 e).2
        omega
      · rename_i c hc
        obtain ⟨s1, s2, s3⟩ := sgT_some hc
        have hck : stC c = 1 := by
          simp only [List.mem_cons, List.not_mem_nil, or_false] at s3
          rcases s3 with rfl | rfl <;> decide
        split at h
        · cases h
        · rename_i y T2 dp2 hy
          have hT1 := (g2.next (by omega)).1
          obtain ⟨u1, u2, u3⟩ := hr _ _ _ _ _ hT1 hy
          unfold rowF at h
          injection h with h
          injection h with h1 h2
          injection h2 with h2 h3
          subst h1 h2 h3
          have e1 := fmtF_bin c x y
          have e2 := dpF_bin c x y
          rw [hck, if_pos rfl, show (1 : Nat) + 1 = 2 from rfl] at e1 e2
          refine ⟨⟨w1, u1⟩, ?_, fun e => ?_⟩
          · rw [wtT_cons, s2, List.length_singleton] at w2
            omega
          · have q2 := u3 e
            have q3 := deep_neg q2.1
            have q4 := w3 q3.1
            exact ⟨q4.1, by omega⟩
def flL (L : List Ex) : Nat := (L.map fun e => (fmtB e).length + 2).sum
theorem flL_snoc (L : List Ex) (x : Ex) : flL (L ++ [x]) = flL L + ((fmtB x).length + 2) := by
  unfold flL
  rw [List.map_append, List.sum_append]
  simp
theorem arg_w {l : List UInt8} {rd : List Tok → Int → PR Ex} (hg : RdG l rd) {d : Int} (hr : RdW l rd d 1) : ∀ (m : Nat) (acc : List Ex) (T : List Tok) (dp : Int) (acc' : List Ex) (T' : List Tok) (dp' : Int), (∀ x ∈ acc, WdE x) → Tl l T → argF rd d m acc T dp = .ok (acc', T', dp') → (∀ x ∈ acc', WdE x) ∧ flL acc' + 2 * wtT T' ≤ flL acc + 2 * wtT T + (if acc = [] then 1 else 0) ∧ (dp' < 0 → dp < 0 ∧ ((∀ x ∈ acc, d + dpT x ≤ 20) → ∀ x ∈ acc', d + dpT x ≤ 20))
  | 0, acc, T, dp, acc', T', dp', hx, hT, h => by
    unfold argF at h
    injection h with h
    injection h with h1 h2
    injection h2 with h2 h3
    subst h1 h2 h3
    exact ⟨hx, by omega, fun e => ⟨e, id⟩⟩
  | m + 1, acc, T, dp, acc', T', dp', hx, hT, h => by
    unfold argF at h
    split at h
    · cases h
    · rename_i T1 dp1 h1
      have hT1 : Tl l T1 ∧ 2 * wtT T1 + (if acc = [] then 0 else 2) ≤ 2 * wtT T ∧ (dp1 < 0 → dp < 0) := by
        split at h1
        · rename_i ha
          injection h1 with h1
          injection h1 with h1 h2
          subst h1 h2
          exact ⟨hT, by rw [if_pos ha]; omega, id⟩
        · rename_i ha
          split at h1
          · cases h1
          · rename_i t T3
            split at h1
            · rename_i hs
              obtain ⟨c, hc⟩ := Option.isSome_iff_exists.1 hs
              obtain ⟨s1, s2, s3⟩ := sgT_some hc
              injection h1 with h1
              injection h1 with h1 h2
              subst h1 h2
              exact ⟨(hT.next (by omega)).1, by rw [if_neg ha, wtT_cons, s2, List.length_singleton]; omega, fun e => (deep_neg e).1⟩
            · cases h1
      split at h
      · cases h
      · rename_i x T2 dp2 h2
        obtain ⟨g1, g2, g3⟩ := hg _ _ _ _ _ hT1.1 h2
        obtain ⟨w1, w2, w3⟩ := hr _ _ _ _ _ hT1.1 h2
        obtain ⟨v1, v2, v3⟩ := arg_w hg hr m (acc ++ [x]) T2 dp2 acc' T' dp' (fun y hy => by
          rcases List.mem_append.1 hy with hy | hy
          · exact hx y hy
          · rw [List.mem_singleton.1 hy]; exact w1) g2 h
        rw [fmtF_one] at w2
        rw [dpF_one] at w3
        rw [flL_snoc, if_neg (by simp)] at v2
        refine ⟨v1, ?_, fun e => ?_⟩
        · have := hT1.2.1
          split <;> rename_i ha
          · rw [if_pos ha] at this; omega
          · rw [if_neg ha] at this; omega
        · have q1 := v3 e
          have q2 := w3 q1.1
          refine ⟨hT1.2.2 q2.1, fun q => q1.2 fun y hy => ?_⟩
          rcases List.mem_append.1 hy with hy | hy
          · exact q y hy
          · rw [List.mem_singleton.1 hy]; exact q2.2
theorem enc_w {l : List UInt8} {rd : List Tok → Int → PR Ex} (hg : RdG l rd) {d : Int} (hr : RdW l rd (d + 1) 1) (many : Nat) (T : List Tok) (dp : Int) (acc : List Ex) (T' : List Tok) (dp' : Int) (hT : Tl l T) (h : encF rd d many T dp = .ok (acc, T', dp')) : (∀ x ∈ acc, WdE x) ∧ flL acc + 3 + 2 * wtT T' ≤ 2 * wtT T ∧ (dp' < 0 → dp < 0 ∧ d + 1 ≤ 20 ∧ ∀ x ∈ acc, d + 1 + dpT x ≤ 20) := by
  unfold encF at h
  split at h
  · cases h
  · rename_i t T1
    split at h
    · rename_i hs
      obtain ⟨c, hc⟩ := Option.isSome_iff_exists.1 hs
      obtain ⟨s1, s2, s3⟩ := sgT_some hc
      split at h
      · cases h
      · rename_i a T2 dp2 h2
        have hT1 := (hT.next (by omega)).1
        obtain ⟨v1, v2, v3⟩ := arg_w hg hr many [] T1 _ a T2 dp2 (by simp) hT1 h2
        split at h
        · cases h
        · rename_i u T3
          split at h
          · rename_i hs2
            obtain ⟨c2, hc2⟩ := Option.isSome_iff_exists.1 hs2
            obtain ⟨r1, r2, r3⟩ := sgT_some hc2
            injection h with h
            injection h with h1 h2
            injection h2 with h2 h3
            subst h1 h2 h3
            rw [if_pos rfl] at v2
            rw [wtT_cons, r2, List.length_singleton] at v2
            refine ⟨v1, ?_, fun e => ?_⟩
            · rw [wtT_cons, s2, List.length_singleton]
              simp only [flL, List.map_nil, List.sum_nil] at v2 ⊢
              omega
            · have q1 := deep_neg e
              have q2 := v3 q1.1
              have q3 := deep_neg q2.1
              exact ⟨q3.1, q1.2, q2.2 (by simp)⟩
          · cases h
    · cases h
theorem mkFn_w {f : List UInt8} {L : List Ex} (h : ∀ x ∈ L, WdE x) (hl : L.length = fnN f) (h0 : 0 < fnN f) : WdE (mkFn f L) ∧ (fmtB (mkFn f L)).length = f.length + flL L ∧ stE (mkFn f L) = 4 ∧ ∀ d : Int, d + 1 ≤ 20 → (∀ x ∈ L, d + 1 + dpT x ≤ 20) → d + dpT (mkFn f L) ≤ 20 := by
  have h3 : fnN f ≤ 3 := by
    unfold fnN
    repeat' split
    all_goals omega
  match L, hl, h with
  | [], hl, _ => rw [List.length_nil] at hl; omega
  | [a], hl, h =>
    refine ⟨h a (by simp), ?_, rfl, fun d _ g => ?_⟩
    · simp only [mkFn, fmtB, flL, List.map_cons, List.map_nil, List.sum_cons, List.sum_nil, List.length_append, List.length_cons, List.length_nil]; omega
    · have := g a (by simp)
      simp only [mkFn, dpT]; omega
  | [a, b], hl, h =>
    refine ⟨⟨h a (by simp), h b (by simp)⟩, ?_, rfl, fun d _ g => ?_⟩
    · simp only [mkFn, fmtB, flL, List.map_cons, List.map_nil, List.sum_cons, List.sum_nil, List.length_append, List.length_cons, List.length_nil]; omega
    · have := g a (by simp)
      have := g b (by simp)
      simp only [mkFn, dpT]; omega
  | [a, b, c], hl, h =>
    refine ⟨⟨h a (by simp), h b (by simp), h c (by simp)⟩, ?_, rfl, fun d _ g => ?_⟩
    · simp only [mkFn, fmtB, flL, List.map_cons, List.map_nil, List.sum_cons, List.sum_nil, List.length_append, List.length_cons, List.length_nil]; omega
    · have := g a (by simp)
      have := g b (by simp)
      have := g c (by simp)
      simp only [mkFn, dpT]; omega
  | _ :: _ :: _ :: _ :: _, hl, _ => simp only [List.length_cons] at hl; omega
theorem num_itoa {x : List UInt8} {v : Int} (hd : ∀ c ∈ x, isDg c = true) (h : numF x 9 = some v) : Lib.itoa v = x := by
  have hb := digs_all hd
  have hh : x.head? ≠ some 45 := (dig_head hb).1
  have hs := strip_pos hh
  rw [numF_eq] at h
  split at h
  · cases h
  · rename_i h1
    split at h
    · cases h
    · rename_i h2
      rw [hs, if_pos hb] at h
      exact (itoa_back (by rw [hs]; exact hb) (fun e => h1 (.inl e)) h).2 h2
theorem tk_num {l : List UInt8} {t : Tok} (h : tkOk l t) (hk : t.k = 1) : t.x ≠ [] ∧ ∀ c ∈ t.x, isDg c = true := by
  rcases h.2.2 with h | h | h | h | h
  · omega
  · exact h.2
  · omega
  · omega
  · omega
theorem tk_word {l : List UInt8} {t : Tok} (h : tkOk l t) (hk : t.k = 2) : t.x ≠ [] ∧ (∀ c ∈ t.x, isWd c = true) ∧ ∃ c, t.x.head? = some c ∧ isSm c = true := by
  rcases h.2.2 with h | h | h | h | h
  · omega
  · omega
  · exact h.2
  · omega
  · omega
theorem ne_len {x : List UInt8} (h : x ≠ []) : 1 ≤ x.length := by
  cases x with
  | nil => exact absurd rfl h
  | cons a r => rw [List.length_cons]; omega
theorem fact_w (l : List UInt8) : ∀ (n : Nat) (d : Int), RdW l (factF n d) d 4
  | 0, d => fun T dp x T' dp' hT h => by unfold factF at h; cases h
  | n + 1, d => fun T dp x T' dp' hT h => by
    obtain ⟨t, T1, rfl, ht, hT2⟩ := hT.head
    unfold factF at h
    have hnx : t.k ≠ 0 ∧ t.k ≠ 4 → Tl l T1 := fun hk => (hT.next hk).1
    have hcg : ∀ d, RdG l (compG (factF n) d) := fun d => comp_good d (fact_good l n d)
    have hcw : ∀ d, RdW l (compG (factF n) d) d 1 := fun d => cmp_w (sum_good d (fact_good l n d)) (join_w (prod_good d (fact_good l n d)) (by decide) (join_w (fact_good l n d) (by decide) (fact_w l n d) (by decide) true) (by decide) true)
    split at h
    · rename_i hs
      obtain ⟨c, hc⟩ := Option.isSome_iff_exists.1 hs
      obtain ⟨s1, s2, s3⟩ := sgT_some hc
      split at h
      · cases h
      · rename_i y T2 dp2 h2
        obtain ⟨g1, g2, g3⟩ := fact_w l n (d + 1) _ _ _ _ _ (hnx (by omega)) h2
        injection h with h
        injection h with h1 h2
        injection h2 with h2 h3
        subst h1 h2 h3
        refine ⟨g1, ?_, fun e => ?_⟩
        · rw [wtT_cons, s2, List.length_singleton, fmtF_lenA, if_neg (by simp [stE])]
          show (fmtB (.neg y)).length + 0 + 1 + _ ≤ _
          have : (fmtB (.neg y)).length = 1 + (fmtF y 4).length := by simp only [fmtB, fmtF, List.length_cons]; omega
          omega
        · have q := g3 e
          have q2 := deep_neg q.1
          refine ⟨q2.1, ?_⟩
          have : dpF (.neg y) 4 = 1 + dpF y 4 := by
            unfold dpF
            rw [if_neg (by simp [stE])]
            simp only [dpT]
            rfl
          omega
    · split at h
      · rename_i hk
        split at h
        · rename_i v hv
          injection h with h
          injection h with h1 h2
          injection h2 with h2 h3
          subst h1 h2 h3
          have hd := tk_num ht hk
          have h1 := ne_len hd.1
          refine ⟨trivial, ?_, fun e => ?_⟩
          · rw [wtT_cons, fmtF_lenA, if_neg (by simp [stE])]
            show (Lib.itoa v).length + 0 + 1 + _ ≤ _
            rw [num_itoa hd.2 hv]
            omega
          · have q2 := deep_neg e
            refine ⟨q2.1, ?_⟩
            show d + ((0 + if stE (.num v) < 4 then 1 else 0 : Nat) : Int) ≤ 20
            rw [if_neg (by simp [stE])]
            simp; omega
        · cases h
      · split at h
        · rename_i hs
          split at h
          · cases h
          · rename_i L T2 dp2 h2
            obtain ⟨g1, g2, g3, g4⟩ := enc_good (hcg (d + 1)) d 1 _ _ _ _ _ hT h2
            obtain ⟨w1, w2, w3⟩ := enc_w (hcg (d + 1)) (hcw (d + 1)) 1 _ _ _ _ _ hT h2
            injection h with h
            injection h with h1 h2
            injection h2 with h2 h3
            subst h1 h2 h3
            match L, g2, w1, w2, w3 with
            | [a], _, w1, w2, w3 =>
              simp only [List.headD_cons, flL, List.map_cons, List.map_nil, List.sum_cons, List.sum_nil] at w2 ⊢
              refine ⟨w1 a (by simp), ?_, fun e => ?_⟩
              · rw [fmtF_lenA]
                split <;> omega
              · obtain ⟨q1, q2, q3⟩ := w3 e
                have := q3 a (by simp)
                refine ⟨q1, ?_⟩
                unfold dpF
                split <;> omega
        · split at h
          · rename_i hk
            have hT1 := hnx (by omega)
            have hw := tk_word ht hk
            have h1l := ne_len hw.1
            split at h
            · rename_i hf
              split at h
              · cases h
              · rename_i L T2 dp2 h2
                obtain ⟨g1, g2, g3, g4⟩ := enc_good (hcg (d + 1)) d _ _ _ _ _ _ hT1 h2
                obtain ⟨w1, w2, w3⟩ := enc_w (hcg (d + 1)) (hcw (d + 1)) _ _ _ _ _ _ hT1 h2
                injection h with h
                injection h with h1 h2
                injection h2 with h2 h3
                subst h1 h2 h3
                obtain ⟨m1, m2, m3, m4⟩ := mkFn_w w1 g2 hf
                refine ⟨m1, ?_, fun e => ?_⟩
                · rw [fmtF_lenA, m3, if_neg (by decide), m2, wtT_cons]
                  omega
                · obtain ⟨q1, q2, q3⟩ := w3 e
                  have q4 := deep_neg q1
                  refine ⟨q4.1, ?_⟩
                  unfold dpF
                  rw [m3, if_neg (by decide)]
                  have := m4 d q2 q3
                  omega
            · rename_i hf
              split at h
              · cases h
              · rename_i h40
                unfold shfF at h
                split at h
                · cases h
                · rename_i u T2 _
                  split at h
                  · rename_i hs
                    obtain ⟨c, hc⟩ := Option.isSome_iff_exists.1 hs
                    obtain ⟨s1, s2, s3⟩ := sgT_some hc
                    have hT2 := (hT1.next (by omega)).1
                    split at h
                    · cases h
                    · rename_i v T3 _
                      split at h
                      · rename_i hkv
                        split at h
                        · rename_i q hq
                          split at h
                          · rename_i hq2
                            injection h with h
                            injection h with h1 h2
                            injection h2 with h2 h3
                            subst h1 h2 h3
                            have hd := tk_num hT2.ok hkv
                            have h1 := ne_len hd.1
                            refine ⟨⟨hw.2.1, hw.2.2⟩, ?_, fun e => ?_⟩
                            · rw [fmtF_lenA, if_neg (by simp [stE]), wtT_cons, wtT_cons, wtT_cons, s2]
                              simp only [fmtB, List.length_append, List.length_cons, List.length_nil, num_itoa hd.2 hq]
                              omega
                            · have q1 := deep_neg e
                              have q2 := deep_neg q1.1
                              have q3 := deep_neg q2.1
                              refine ⟨q3.1, ?_⟩
                              unfold dpF
                              rw [if_neg (by simp [stE])]
                              simp only [dpT]
                              simp; omega
                          · cases h
                        · cases h
                      · cases h
                  · injection h with h
                    injection h with h1 h2
                    injection h2 with h2 h3
                    subst h1 h2 h3
                    refine ⟨⟨hw.2.1, hw.2.2⟩, ?_, fun e => ?_⟩
                    · rw [fmtF_lenA, if_neg (by simp [stE])]
                      simp only [fmtB, wtT_cons]
                      omega
                    · have q3 := deep_neg e
                      refine ⟨q3.1, ?_⟩
                      unfold dpF
                      rw [if_neg (by simp [stE])]
                      simp only [dpT]
                      simp; omega
          · cases h
theorem wt_tok : ∀ (r : List UInt8) (o : Nat), wtT (tokF r o) ≤ r.length
  | [], o => by rw [tokF_nil]; simp [wtT]
  | c :: r, o => by
    rw [tokF_cons]
    have h1 := (List.dropWhile_sublist isDg (l := r)).length_le
    have h2 := (List.dropWhile_sublist isWd (l := r)).length_le
    have e1 : (r.takeWhile isDg).length + (r.dropWhile isDg).length = r.length := by rw [← List.length_append, List.takeWhile_append_dropWhile]
    have e2 : (r.takeWhile isWd).length + (r.dropWhile isWd).length = r.length := by rw [← List.length_append, List.takeWhile_append_dropWhile]
    split
    · have := wt_tok r (o + 1); rw [List.length_cons]; omega
    · split
      · have := wt_tok (r.dropWhile isDg) (o + 1 + (r.takeWhile isDg).length)
        rw [wtT_cons, List.length_cons, List.length_cons]; omega
      · split
        · have := wt_tok (r.dropWhile isWd) (o + 1 + (r.takeWhile isWd).length)
          rw [wtT_cons, List.length_cons, List.length_cons]; omega
        · split
          · have := wt_tok r (o + 1)
            rw [wtT_cons, List.length_cons]
            simp only [List.length_cons, List.length_nil]; omega
          · simp [wtT]
termination_by r => r.length
theorem par_w {l : List UInt8} {e : Ex} (h : parF l = .ok e) : WdE e ∧ (fmtB e).length ≤ 2 * l.length ∧ dpT e ≤ 20 := by
  have hg := fun n => fact_good l n 0
  unfold parF at h
  have hl := wt_tok l 0
  split at h
  · cases h
  · split at h
    · cases h
    · rename_i x T dp h1
      have hcw : ∀ n, RdW l (compG (factF n) 0) 0 1 := fun n => cmp_w (sum_good 0 (hg n)) (join_w (prod_good 0 (hg n)) (by decide) (join_w (hg n) (by decide) (fact_w l n 0) (by decide) true) (by decide) true)
      obtain ⟨w1, w2, w3⟩ := hcw _ _ _ _ _ _ (Tl.top l) h1
      rw [fmtF_one] at w2
      rw [dpF_one] at w3
      split at h
      · cases h
      · split at h
        · cases h
        · split at h
          · cases h
          · injection h with h
            subst h
            have := (w3 (by omega)).2
            exact ⟨w1, by omega, by omega⟩
end Go.Proofs.YtlnfiflbpmicgaaGreatDoor
