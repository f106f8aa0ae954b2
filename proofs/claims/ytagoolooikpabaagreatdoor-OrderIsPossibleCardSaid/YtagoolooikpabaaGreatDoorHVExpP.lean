/- Several texts in one: What is read of an expression is as an expression must be, and what follows. No condition. -/
import Derived.Test.YtagoolooikpabaaGreatDoorHVTxtN
set_option linter.all false
namespace Go.Proofs.YtagoolooikpabaaGreatDoor
open Go Go.RowKit
set_option maxRecDepth 100000
set_option maxHeartbeats 1000000
theorem isDg_val {c : UInt8} (h : isDg c = true) : ∃ d, Lib.digitVal c = some d := by
 unfold isDg at h
 rw [decide_eq_true_eq] at h
 unfold Lib.digitVal
 rw [if_pos h]
 exact ⟨_, rfl⟩
theorem digs_all {x : List UInt8} (h : ∀ c ∈ x, isDg c = true) : digB x = true := by
 unfold digB
 rw [List.all_eq_true]
 intro c hc
 obtain ⟨d, hd⟩ := isDg_val (h c hc)
 rw [hd]; rfl
theorem num_tok {x : List UInt8} {v : Int} (hd : ∀ c ∈ x, isDg c = true) (h : numF x 9 = some v) : 0 ≤ v ∧ v ≤ 999999999 := by
 have hb := digs_all hd
 have hh : x.head? ≠ some 45 := (dig_head hb).1
 have hs := strip_pos hh
 rw [numF_eq, hs] at h
 split at h
 ·cases h
 ·rename_i h1
  split at h
  ·cases h
  ·(first | rw [if_pos hb] at h | skip)
   obtain ⟨u, g1, g2⟩ := atoi_dig (l := x) (by rw [hs]; exact hb) (by rw [hs]; exact fun e => h1 (.inl e))
   rw [hs] at g1
   rw [if_neg hh, h] at g2
   injection g2 with g2
   have h3 := decFrom_lt _ _ _ g1
   have h4 : 10 ^ x.length ≤ 10 ^ 9 := Nat.pow_le_pow_right (by omega) (by omega)
   omega
theorem sgT_some {t : Tok} {ops : List UInt8} {c : UInt8} (h : sgT t ops = some c) : t.k = 3 ∧ t.x = [c] ∧ c ∈ ops := by
 unfold sgT at h
 split at h
 ·rename_i hk
  split at h
  ·rename_i d hd
   split at h
   ·rename_i hc
    injection h with h
    subst h
    exact ⟨hk, hd, hc⟩
   ·cases h
  ·cases h
 ·cases h
theorem sgT_is {t : Tok} {ops : List UInt8} (h : (sgT t ops).isSome = true) : t.k = 3 := by
 obtain ⟨c, hc⟩ := Option.isSome_iff_exists.1 h
 exact (sgT_some hc).1
def RdG (l : List UInt8) (rd : List Tok → Int → PR Ex) : Prop := ∀ T dp x T' dp', Tl l T → rd T dp = .ok (x, T', dp') → ExOk x ∧ Tl l T' ∧ T'.length < T.length
theorem Tl.next {l : List UInt8} {t : Tok} {T : List Tok} (h : Tl l (t :: T)) (hk : t.k ≠ 0 ∧ t.k ≠ 4) : Tl l T ∧ tkOk l t := by
 obtain ⟨t', T1, e, h1, h2⟩ := h.head
 injection e with e1 e2
 subst e1 e2
 rcases h2 with ⟨h2, _⟩ | ⟨_, _, h2⟩
 ·omega
 ·exact ⟨h2, h1⟩
theorem Tl.ok {l : List UInt8} {t : Tok} {T : List Tok} (h : Tl l (t :: T)) : tkOk l t := by
 obtain ⟨t', T1, e, h1, h2⟩ := h.head
 injection e with e1 e2
 subst e1
 exact h1
def ops6 : List UInt8 := [43, 45, 42, 47, 60, 61]
theorem row_good {l : List UInt8} {rd : List Tok → Int → PR Ex} (hr : RdG l rd) {ops : List UInt8} (ho : ∀ c ∈ ops, c ∈ ops6) (d : Int) : ∀ (m : Nat) (x : Ex) (T : List Tok) (dp : Int) (x' : Ex) (T' : List Tok) (dp' : Int), ExOk x → Tl l T → rowF ops rd d m x T dp = .ok (x', T', dp') → ExOk x' ∧ Tl l T' ∧ T'.length ≤ T.length
 | 0, x, T, dp, x', T', dp', hx, hT, h => by
  unfold rowF at h
  injection h with h
  injection h with h1 h2
  injection h2 with h2 h3
  subst h1 h2
  exact ⟨hx, hT, Nat.le_refl _⟩
 | m + 1, x, T, dp, x', T', dp', hx, hT, h => by
  unfold rowF at h
  split at h
  ·injection h with h
   injection h with h1 h2
   injection h2 with h2 h3
   subst h1 h2
   exact ⟨hx, hT, Nat.le_refl _⟩
  ·rename_i t T1
   split at h
   ·injection h with h
    injection h with h1 h2
    injection h2 with h2 h3
    subst h1 h2
    exact ⟨hx, hT, Nat.le_refl _⟩
   ·rename_i c hc
    obtain ⟨s1, s2, s3⟩ := sgT_some hc
    split at h
    ·cases h
    ·rename_i y T2 dp2 hy
     obtain ⟨g1, g2, g3⟩ := hr _ _ _ _ _ (hT.next (by omega)).1 hy
     obtain ⟨g4, g5, g6⟩ := row_good hr ho d m (.bin c x y) T2 dp2 x' T' dp' ⟨ho c s3, hx, g1⟩ g2 h
     exact ⟨g4, g5, by rw [List.length_cons]; omega⟩
theorem join_good {l : List UInt8} {rd : List Tok → Int → PR Ex} (hr : RdG l rd) {ops : List UInt8} (ho : ∀ c ∈ ops, c ∈ ops6) (many : Bool) (d : Int) : RdG l (joinF ops many rd d) := by
 intro T dp x' T' dp' hT h
 unfold joinF at h
 split at h
 ·cases h
 ·rename_i x T1 dp1 h1
  obtain ⟨g1, g2, g3⟩ := hr _ _ _ _ _ hT h1
  obtain ⟨g4, g5, g6⟩ := row_good hr ho d _ x T1 dp1 x' T' dp' g1 g2 h
  exact ⟨g4, g5, by omega⟩
theorem prod_good {l : List UInt8} {fc : Int → List Tok → Int → PR Ex} (d : Int) (hr : RdG l (fc d)) : RdG l (prodG fc d) := fun T dp x T' dp' hT h => join_good hr (by decide) true d T dp x T' dp' hT h
theorem sum_good {l : List UInt8} {fc : Int → List Tok → Int → PR Ex} (d : Int) (hr : RdG l (fc d)) : RdG l (sumG fc d) := fun T dp x T' dp' hT h => join_good (prod_good d hr) (by decide) true d T dp x T' dp' hT h
theorem comp_good {l : List UInt8} {fc : Int → List Tok → Int → PR Ex} (d : Int) (hr : RdG l (fc d)) : RdG l (compG fc d) := fun T dp x T' dp' hT h => join_good (sum_good d hr) (by decide) false d T dp x T' dp' hT h
theorem arg_good {l : List UInt8} {rd : List Tok → Int → PR Ex} (hr : RdG l rd) (d : Int) : ∀ (m : Nat) (acc : List Ex) (T : List Tok) (dp : Int) (acc' : List Ex) (T' : List Tok) (dp' : Int), (∀ x ∈ acc, ExOk x) → Tl l T → argF rd d m acc T dp = .ok (acc', T', dp') → (∀ x ∈ acc', ExOk x) ∧ acc'.length = acc.length + m ∧ Tl l T' ∧ T'.length ≤ T.length
 | 0, acc, T, dp, acc', T', dp', ha, hT, h => by
  unfold argF at h
  injection h with h
  injection h with h1 h2
  injection h2 with h2 h3
  subst h1 h2
  exact ⟨ha, rfl, hT, Nat.le_refl _⟩
 | m + 1, acc, T, dp, acc', T', dp', ha, hT, h => by
  unfold argF at h
  split at h
  ·cases h
  ·rename_i T1 dp1 h1
   have hT1 : Tl l T1 ∧ T1.length ≤ T.length := by
    split at h1
    ·injection h1 with h1
     injection h1 with h1 h2
     subst h1
     exact ⟨hT, Nat.le_refl _⟩
    ·split at h1
     ·cases h1
     ·rename_i t T3
      split at h1
      ·rename_i hs
       have hk := sgT_is hs
       injection h1 with h1
       injection h1 with h1 h2
       subst h1
       exact ⟨(hT.next (by omega)).1, by rw [List.length_cons]; omega⟩
      ·cases h1
   split at h
   ·cases h
   ·rename_i x T2 dp2 h2
    obtain ⟨g1, g2, g3⟩ := hr _ _ _ _ _ hT1.1 h2
    obtain ⟨g4, g5, g6, g7⟩ := arg_good hr d m (acc ++ [x]) T2 dp2 acc' T' dp' (fun y hy => by
     rcases List.mem_append.1 hy with hy | hy
     ·exact ha y hy
     ·rw [List.mem_singleton.1 hy]; exact g1) g2 h
    exact ⟨g4, by rw [g5, List.length_append, List.length_singleton]; omega, g6, by omega⟩
theorem enc_good {l : List UInt8} {rd : List Tok → Int → PR Ex} (hr : RdG l rd) (d : Int) (many : Nat) (T : List Tok) (dp : Int) (acc : List Ex) (T' : List Tok) (dp' : Int) (hT : Tl l T) (h : encF rd d many T dp = .ok (acc, T', dp')) : (∀ x ∈ acc, ExOk x) ∧ acc.length = many ∧ Tl l T' ∧ T'.length < T.length := by
 unfold encF at h
 split at h
 ·cases h
 ·rename_i t T1
  split at h
  ·rename_i hs
   have hk := sgT_is hs
   split at h
   ·cases h
   ·rename_i a T2 dp2 h2
    obtain ⟨g1, g2, g3, g4⟩ := arg_good hr (d + 1) many [] T1 _ a T2 dp2 (by simp) (hT.next (by omega)).1 h2
    split at h
    ·cases h
    ·rename_i u T3
     split at h
     ·rename_i hs2
      have hk2 := sgT_is hs2
      injection h with h
      injection h with h1 h2
      injection h2 with h2 h3
      subst h1 h2
      rw [List.length_cons] at g4
      refine ⟨g1, by rw [g2]; simp, (g3.next (by omega)).1, by rw [List.length_cons]; omega⟩
     ·cases h
  ·cases h
theorem mkFn_ok {f : List UInt8} {L : List Ex} (h : ∀ x ∈ L, ExOk x) (hl : L.length = fnN f) (h0 : 0 < fnN f) : ExOk (mkFn f L) := by
 have h3 : fnN f ≤ 3 := by
  unfold fnN
  repeat' split
  all_goals omega
 match L, hl, h with
 | [], hl, _ => rw [List.length_nil] at hl; omega
 | [a], hl, h => exact ⟨hl.symm, h a (by simp)⟩
 | [a, b], hl, h => exact ⟨hl.symm, h a (by simp), h b (by simp)⟩
 | [a, b, c], hl, h => exact ⟨hl.symm, h a (by simp), h b (by simp), h c (by simp)⟩
 | _ :: _ :: _ :: _ :: _, hl, _ => simp only [List.length_cons] at hl; omega
theorem fact_good (l : List UInt8) : ∀ (n : Nat) (d : Int), RdG l (factF n d)
 | 0, d => fun T dp x T' dp' hT h => by unfold factF at h; cases h
 | n + 1, d => fun T dp x T' dp' hT h => by
  obtain ⟨t, T1, rfl, ht, hT2⟩ := hT.head
  unfold factF at h
  have hnx : t.k ≠ 0 ∧ t.k ≠ 4 → Tl l T1 := fun hk => (hT.next hk).1
  split at h
  ·rename_i hs
   have hk := sgT_is hs
   split at h
   ·cases h
   ·rename_i y T2 dp2 h2
    obtain ⟨g1, g2, g3⟩ := fact_good l n (d + 1) _ _ _ _ _ (hnx (by omega)) h2
    injection h with h
    injection h with h1 h2
    injection h2 with h2 h3
    subst h1 h2
    exact ⟨g1, g2, by rw [List.length_cons]; omega⟩
  ·split at h
   ·rename_i hk
    split at h
    ·rename_i v hv
     injection h with h
     injection h with h1 h2
     injection h2 with h2 h3
     subst h1 h2
     have hd : ∀ c ∈ t.x, isDg c = true := by
      rcases ht.2.2 with h | h | h | h | h
      ·omega
      ·exact h.2.2
      ·omega
      ·omega
      ·omega
     exact ⟨num_tok hd hv, hnx (by omega), by rw [List.length_cons]; omega⟩
    ·cases h
   ·split at h
    ·rename_i hs
     split at h
     ·cases h
     ·rename_i L T2 dp2 h2
      obtain ⟨g1, g2, g3, g4⟩ := enc_good (comp_good (d + 1) (fact_good l n (d + 1))) d 1 _ _ _ _ _ hT h2
      injection h with h
      injection h with h1 h2
      injection h2 with h2 h3
      subst h1 h2
      match L, g2 with
      | [a], _ => exact ⟨g1 a (by simp), g3, g4⟩
    ·split at h
     ·rename_i hk
      have hT1 := hnx (by omega)
      split at h
      ·rename_i hf
       split at h
       ·cases h
       ·rename_i L T2 dp2 h2
        obtain ⟨g1, g2, g3, g4⟩ := enc_good (comp_good (d + 1) (fact_good l n (d + 1))) d _ _ _ _ _ _ hT1 h2
        injection h with h
        injection h with h1 h2
        injection h2 with h2 h3
        subst h1 h2
        exact ⟨mkFn_ok g1 g2 hf, g3, by rw [List.length_cons]; omega⟩
      ·rename_i hf
       split at h
       ·cases h
       ·rename_i h40
        have hx : t.x ≠ [] := by
         rcases ht.2.2 with h | h | h | h | h
         ·omega
         ·omega
         ·exact h.2.1
         ·omega
         ·omega
        unfold shfF at h
        split at h
        ·cases h
        ·rename_i u T2 _
         split at h
         ·rename_i hs
          have hku := sgT_is hs
          have hT2 := (hT1.next (by omega)).1
          split at h
          ·cases h
          ·rename_i v T3 _
           split at h
           ·rename_i hkv
            split at h
            ·rename_i q hq
             split at h
             ·rename_i hq2
              injection h with h
              injection h with h1 h2
              injection h2 with h2 h3
              subst h1 h2
              have hd : ∀ c ∈ v.x, isDg c = true := by
               rcases hT2.ok.2.2 with h | h | h | h | h
               ·omega
               ·exact h.2.2
               ·omega
               ·omega
               ·omega
              have hv := num_tok hd hq
              refine ⟨⟨⟨hx, by omega, by omega⟩, fun n hn => ?_⟩, (hT2.next (by omega)).1, by simp only [List.length_cons]; omega⟩
              injection hn with hn
              omega
             ·cases h
            ·cases h
           ·cases h
         ·injection h with h
          injection h with h1 h2
          injection h2 with h2 h3
          subst h1 h2
          refine ⟨⟨⟨hx, by omega, by omega⟩, fun n hn => by cases hn⟩, hT1, by simp⟩
     ·cases h
theorem par_good {l : List UInt8} {e : Ex} (h : parF l = .ok e) : ExOk e := by
 unfold parF at h
 split at h
 ·cases h
 ·split at h
  ·cases h
  ·rename_i x T dp h1
   have := (comp_good 0 (fact_good l _ 0) _ _ _ _ _ (Tl.top l) h1).1
   split at h
   ·cases h
   ·split at h
    ·cases h
    ·split at h
     ·cases h
     ·injection h with h
      subst h
      exact this
end Go.Proofs.YtagoolooikpabaaGreatDoor
namespace Go.Proofs.YtagoolooikpabaaGreatDoor
open Go Go.RowKit
set_option maxRecDepth 100000
set_option maxHeartbeats 1000000
def szE : Ex → Nat
 | .num _ => 1
 | .tag _ _ => 1
 | .neg a => szE a + 1
 | .bin _ a b => szE a + szE b + 1
 | .f1 _ a => szE a + 1
 | .f2 _ a b => szE a + szE b + 1
 | .f3 _ a b c => szE a + szE b + szE c + 1
def hgt : Ex → Nat
 | .num _ => 1
 | .tag _ _ => 1
 | .neg a => hgt a + 1
 | .bin _ a b => max (hgt a) (hgt b) + 1
 | .f1 _ a => hgt a + 1
 | .f2 _ a b => max (hgt a) (hgt b) + 1
 | .f3 _ a b c => max (max (hgt a) (hgt b)) (hgt c) + 1
def leafE : Ex → List (List UInt8 × Int)
 | .num _ => []
 | .tag x s => [(x, s.getD 0)]
 | .neg a => leafE a
 | .bin _ a b => leafE a ++ leafE b
 | .f1 _ a => leafE a
 | .f2 _ a b => leafE a ++ leafE b
 | .f3 _ a b c => leafE a ++ leafE b ++ leafE c
theorem leaf_sz : ∀ e : Ex, (leafE e).length ≤ szE e
 | .num _ => by simp [leafE]
 | .tag _ _ => by simp [leafE, szE]
 | .neg a => by have := leaf_sz a; simp only [leafE, szE]; omega
 | .bin _ a b => by have := leaf_sz a; have := leaf_sz b; simp only [leafE, szE, List.length_append]; omega
 | .f1 _ a => by have := leaf_sz a; simp only [leafE, szE]; omega
 | .f2 _ a b => by have := leaf_sz a; have := leaf_sz b; simp only [leafE, szE, List.length_append]; omega
 | .f3 _ a b c => by have := leaf_sz a; have := leaf_sz b; have := leaf_sz c; simp only [leafE, szE, List.length_append]; omega
def RdS (rd : List Tok → Int → PR Ex) : Prop := ∀ T dp x T' dp', rd T dp = .ok (x, T', dp') → szE x + T'.length ≤ T.length
theorem row_s {rd : List Tok → Int → PR Ex} (hr : RdS rd) (ops : List UInt8) (d : Int) : ∀ (m : Nat) (x : Ex) (T : List Tok) (dp : Int) (x' : Ex) (T' : List Tok) (dp' : Int), rowF ops rd d m x T dp = .ok (x', T', dp') → szE x' + T'.length ≤ szE x + T.length
 | 0, x, T, dp, x', T', dp', h => by
  unfold rowF at h
  injection h with h
  injection h with h1 h2
  injection h2 with h2 h3
  subst h1 h2
  exact Nat.le_refl _
 | m + 1, x, T, dp, x', T', dp', h => by
  unfold rowF at h
  split at h
  ·injection h with h
   injection h with h1 h2
   injection h2 with h2 h3
   subst h1 h2
   exact Nat.le_refl _
  ·rename_i t T1
   split at h
   ·injection h with h
    injection h with h1 h2
    injection h2 with h2 h3
    subst h1 h2
    exact Nat.le_refl _
   ·rename_i c hc
    split at h
    ·cases h
    ·rename_i y T2 dp2 hy
     have g1 := hr _ _ _ _ _ hy
     have g2 := row_s hr ops d m (.bin c x y) T2 dp2 x' T' dp' h
     simp only [szE] at g2
     rw [List.length_cons]
     omega
theorem join_s {rd : List Tok → Int → PR Ex} (hr : RdS rd) (ops : List UInt8) (many : Bool) (d : Int) : RdS (joinF ops many rd d) := by
 intro T dp x' T' dp' h
 unfold joinF at h
 split at h
 ·cases h
 ·rename_i x T1 dp1 h1
  have g1 := hr _ _ _ _ _ h1
  have g2 := row_s hr ops d _ x T1 dp1 x' T' dp' h
  omega
theorem comp_s {fc : Int → List Tok → Int → PR Ex} (d : Int) (hr : RdS (fc d)) : RdS (compG fc d) := join_s (join_s (join_s hr _ _ _) _ _ _) _ _ _
def szL (l : List Ex) : Nat := (l.map szE).sum
theorem arg_s {rd : List Tok → Int → PR Ex} (hr : RdS rd) (d : Int) : ∀ (m : Nat) (acc : List Ex) (T : List Tok) (dp : Int) (acc' : List Ex) (T' : List Tok) (dp' : Int), argF rd d m acc T dp = .ok (acc', T', dp') → szL acc' + T'.length ≤ szL acc + T.length
 | 0, acc, T, dp, acc', T', dp', h => by
  unfold argF at h
  injection h with h
  injection h with h1 h2
  injection h2 with h2 h3
  subst h1 h2
  exact Nat.le_refl _
 | m + 1, acc, T, dp, acc', T', dp', h => by
  unfold argF at h
  split at h
  ·cases h
  ·rename_i T1 dp1 h1
   have hT1 : T1.length ≤ T.length := by
    split at h1
    ·injection h1 with h1
     injection h1 with h1 h2
     subst h1
     exact Nat.le_refl _
    ·split at h1
     ·cases h1
     ·split at h1
      ·injection h1 with h1
       injection h1 with h1 h2
       subst h1
       rw [List.length_cons]; omega
      ·cases h1
   split at h
   ·cases h
   ·rename_i x T2 dp2 h2
    have g1 := hr _ _ _ _ _ h2
    have g2 := arg_s hr d m (acc ++ [x]) T2 dp2 acc' T' dp' h
    unfold szL at g2 ⊢
    rw [List.map_append, List.sum_append] at g2
    simp only [List.map_cons, List.map_nil, List.sum_cons, List.sum_nil] at g2
    omega
theorem enc_s {rd : List Tok → Int → PR Ex} (hr : RdS rd) (d : Int) (many : Nat) (T : List Tok) (dp : Int) (acc : List Ex) (T' : List Tok) (dp' : Int) (h : encF rd d many T dp = .ok (acc, T', dp')) : szL acc + T'.length + 2 ≤ T.length := by
 unfold encF at h
 split at h
 ·cases h
 ·split at h
  ·split at h
   ·cases h
   ·rename_i a T2 dp2 h2
    have g := arg_s hr (d + 1) many [] _ _ a T2 dp2 h2
    split at h
    ·cases h
    ·split at h
     ·injection h with h
      injection h with h1 h2
      injection h2 with h2 h3
      subst h1 h2
      rw [List.length_cons] at g ⊢
      simp only [szL, List.map_nil, List.sum_nil] at g ⊢
      omega
     ·cases h
  ·cases h
theorem mkFn_sz (f : List UInt8) (L : List Ex) : szE (mkFn f L) ≤ szL L + 1 := by
 match L with
 | [] => simp [mkFn, szE, szL]
 | [a] => simp [mkFn, szE, szL]
 | [a, b] => simp [mkFn, szE, szL]
 | [a, b, c] => simp [mkFn, szE, szL]; omega
 | _ :: _ :: _ :: _ :: _ => simp [mkFn, szE]
theorem fact_s : ∀ (n : Nat) (d : Int), RdS (factF n d)
 | 0, d => fun T dp x T' dp' h => by unfold factF at h; cases h
 | n + 1, d => fun T dp x T' dp' h => by
  cases T with
  | nil => unfold factF at h; cases h
  | cons t T1 =>
   unfold factF at h
   rw [List.length_cons]
   split at h
   ·split at h
    ·cases h
    ·rename_i y T2 dp2 h2
     have g := fact_s n (d + 1) _ _ _ _ _ h2
     injection h with h
     injection h with h1 h2
     injection h2 with h2 h3
     subst h1 h2
     simp only [szE]
     omega
   ·split at h
    ·split at h
     ·injection h with h
      injection h with h1 h2
      injection h2 with h2 h3
      subst h1 h2
      simp only [szE]
      omega
     ·cases h
    ·split at h
     ·split at h
      ·cases h
      ·rename_i L T2 dp2 h2
       have g := enc_s (comp_s (d + 1) (fact_s n (d + 1))) d 1 _ _ _ _ _ h2
       injection h with h
       injection h with h1 h2
       injection h2 with h2 h3
       subst h1 h2
       rw [List.length_cons] at g
       have : szE (L.headD (.num 0)) ≤ szL L + 1 := by
        cases L with
        | nil => simp [szE, szL]
        | cons a r => simp only [List.headD_cons, szL, List.map_cons, List.sum_cons]; omega
       omega
     ·split at h
      ·split at h
       ·split at h
        ·cases h
        ·rename_i L T2 dp2 h2
         have g := enc_s (comp_s (d + 1) (fact_s n (d + 1))) d _ _ _ _ _ _ h2
         injection h with h
         injection h with h1 h2
         injection h2 with h2 h3
         subst h1 h2
         have := mkFn_sz t.x L
         omega
       ·split at h
        ·cases h
        ·unfold shfF at h
         split at h
         ·cases h
         ·split at h
          ·split at h
           ·cases h
           ·split at h
            ·split at h
             ·split at h
              ·injection h with h
               injection h with h1 h2
               injection h2 with h2 h3
               subst h1 h2
               simp only [szE, List.length_cons]
               omega
              ·cases h
             ·cases h
            ·cases h
          ·injection h with h
           injection h with h1 h2
           injection h2 with h2 h3
           subst h1 h2
           simp only [szE, List.length_cons]
           omega
      ·cases h
theorem par_sz {l : List UInt8} {e : Ex} (h : parF l = .ok e) : szE e ≤ 501 := by
 unfold parF at h
 have hl := (tokF_len l 0).2
 split at h
 ·cases h
 ·split at h
  ·cases h
  ·rename_i x T dp h1
   have := comp_s 0 (fact_s _ 0) _ _ _ _ _ h1
   split at h
   ·cases h
   ·split at h
    ·cases h
    ·split at h
     ·cases h
     ·injection h with h
      subst h
      omega
end Go.Proofs.YtagoolooikpabaaGreatDoor
