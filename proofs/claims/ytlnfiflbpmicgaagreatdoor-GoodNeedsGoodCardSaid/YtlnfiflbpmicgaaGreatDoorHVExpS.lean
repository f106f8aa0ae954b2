/- Expressions: size, height, tags, text. No program in sight. -/
import Derived.Test.YtlnfiflbpmicgaaGreatDoorHVExpP
namespace Go.Proofs.YtlnfiflbpmicgaaGreatDoor
open Go Go.RowKit
set_option maxRecDepth 100000
set_option linter.all false
set_option maxHeartbeats 1000000
def szE : Ex → Nat
  | .num _ => 1
  | .tag _ _ => 1
  | .neg a => szE a + 1
  | .bin _ a b => szE a + szE b + 1
  | .f1 _ a => szE a + 1
  | .f2 _ a b => szE a + szE b + 1
  | .f3 _ a b c => szE a + szE b + szE c + 1
def hgt : Ex → Nat
  | .num _ => 1
  | .tag _ _ => 1
  | .neg a => hgt a + 1
  | .bin _ a b => max (hgt a) (hgt b) + 1
  | .f1 _ a => hgt a + 1
  | .f2 _ a b => max (hgt a) (hgt b) + 1
  | .f3 _ a b c => max (max (hgt a) (hgt b)) (hgt c) + 1
theorem hgt_sz : ∀ e : Ex, 1 ≤ hgt e ∧ hgt e ≤ szE e
  | .num _ => by simp [hgt, szE]
  | .tag _ _ => by simp [hgt, szE]
  | .neg a => by have := hgt_sz a; simp only [hgt, szE]; omega
  | .bin _ a b => by have := hgt_sz a; have := hgt_sz b; simp only [hgt, szE]; omega
  | .f1 _ a => by have := hgt_sz a; simp only [hgt, szE]; omega
  | .f2 _ a b => by have := hgt_sz a; have := hgt_sz b; simp only [hgt, szE]; omega
  | .f3 _ a b c => by have := hgt_sz a; have := hgt_sz b; have := hgt_sz c; simp only [hgt, szE]; omega
def leafE : Ex → List (List UInt8 × Int)
  | .num _ => []
  | .tag x s => [(x, s.getD 0)]
  | .neg a => leafE a
  | .bin _ a b => leafE a ++ leafE b
  | .f1 _ a => leafE a
  | .f2 _ a b => leafE a ++ leafE b
  | .f3 _ a b c => leafE a ++ leafE b ++ leafE c
theorem leaf_sz : ∀ e : Ex, (leafE e).length ≤ szE e
  | .num _ => by simp [leafE]
  | .tag _ _ => by simp [leafE, szE]
  | .neg a => by have := leaf_sz a; simp only [leafE, szE]; omega
  | .bin _ a b => by have := leaf_sz a; have := leaf_sz b; simp only [leafE, szE, List.length_append]; omega
  | .f1 _ a => by have := leaf_sz a; simp only [leafE, szE]; omega
  | .f2 _ a b => by have := leaf_sz a; have := leaf_sz b; simp only [leafE, szE, List.length_append]; omega
  | .f3 _ a b c => by have := leaf_sz a; have := leaf_sz b; have := leaf_sz c; simp only [leafE, szE, List.length_append]; omega
def stC (c : UInt8) : Nat := if c = 60 ∨ c = 61 then 1 else if c = 43 ∨ c = 45 then 2 else if c = 42 ∨ c = 47 then 3 else 4
def stE : Ex → Nat
  | .bin c _ _ => stC c
  | _ => 4
def parB (p : Bool) (s : List UInt8) : List UInt8 := if p = true then 40 :: (s ++ [41]) else s
def fmtB : Ex → List UInt8
  | .num n => Lib.itoa n
  | .tag x none => x
  | .tag x (some n) => x ++ 64 :: Lib.itoa n
  | .neg a => 45 :: parB (decide (stE a < 4)) (fmtB a)
  | .bin c a b => parB (decide (stE a < if stC c = 1 then 2 else stC c)) (fmtB a) ++ (32 :: c :: 32 :: parB (decide (stE b < stC c + 1)) (fmtB b))
  | .f1 f a => f ++ 40 :: (fmtB a ++ [41])
  | .f2 f a b => f ++ 40 :: (fmtB a ++ (44 :: 32 :: (fmtB b ++ [41])))
  | .f3 f a b c => f ++ 40 :: (fmtB a ++ (44 :: 32 :: (fmtB b ++ (44 :: 32 :: (fmtB c ++ [41])))))
def fmtF (e : Ex) (least : Nat) : List UInt8 := parB (decide (stE e < least)) (fmtB e)
def RdS (rd : List Tok → Int → PR Ex) : Prop := ∀ T dp x T' dp', rd T dp = .ok (x, T', dp') → szE x + T'.length ≤ T.length
theorem row_s {rd : List Tok → Int → PR Ex} (hr : RdS rd) (ops : List UInt8) (d : Int) : ∀ (m : Nat) (x : Ex) (T : List Tok) (dp : Int) (x' : Ex) (T' : List Tok) (dp' : Int), rowF ops rd d m x T dp = .ok (x', T', dp') → szE x' + T'.length ≤ szE x + T.length
  | 0, x, T, dp, x', T', dp', h => by
    unfold rowF at h
    injection h with h
    injection h with h1 h2
    injection h2 with h2 h3
    subst h1 h2
    exact Nat.le_refl _
  | m + 1, x, T, dp, x', T', dp', h => by
    unfold rowF at h
    split at h
    · injection h with h
      injection h with h1 h2
      injection h2 with h2 h3
      subst h1 h2
      exact Nat.le_refl _
    · rename_i t T1
      split at h
      · injection h with h
        injection h with h1 h2
        injection h2 with h2 h3
        subst h1 h2
        exact Nat.le_refl _
      · rename_i c hc
        split at h
        · cases h
        · rename_i y T2 dp2 hy
          have g1 := hr _ _ _ _ _ hy
          have g2 := row_s hr ops d m (.bin c x y) T2 dp2 x' T' dp' h
          simp only [szE] at g2
          rw [List.length_cons]
          omega
theorem join_s {rd : List Tok → Int → PR Ex} (hr : RdS rd) (ops : List UInt8) (many : Bool) (d : Int) : RdS (joinF ops many rd d) := by
  intro T dp x' T' dp' h
  unfold joinF at h
  split at h
  · cases h
  · rename_i x T1 dp1 h1
    have g1 := hr _ _ _ _ _ h1
    have g2 := row_s hr ops d _ x T1 dp1 x' T' dp' h
    omega
theorem comp_s {fc : Int → List Tok → Int → PR Ex} (d : Int) (hr : RdS (fc d)) : RdS (compG fc d) := join_s (join_s (join_s hr _ _ _) _ _ _) _ _ _
def szL (l : List Ex) : Nat := (l.map szE).sum
theorem arg_s {rd : List Tok → Int → PR Ex} (hr : RdS rd) (d : Int) : ∀ (m : Nat) (acc : List Ex) (T : List Tok) (dp : Int) (acc' : List Ex) (T' : List Tok) (dp' : Int), argF rd d m acc T dp = .ok (acc', T', dp') → szL acc' + T'.length ≤ szL acc + T.length
  | 0, acc, T, dp, acc', T', dp', h => by
    unfold argF at h
    injection h with h
    injection h with h1 h2
    injection h2 with h2 h3
    subst h1 h2
    exact Nat.le_refl _
  | m + 1, acc, T, dp, acc', T', dp', h => by
    unfold argF at h
    split at h
    · cases h
    · rename_i T1 dp1 h1
      have hT1 : T1.length ≤ T.length := by
        split at h1
        · injection h1 with h1
          injection h1 with h1 h2
          subst h1
          exact Nat.le_refl _
        · split at h1
          · cases h1
          · split at h1
            · injection h1 with h1
              injection h1 with h1 h2
              subst h1
              rw [List.length_cons]; omega
            · cases h1
      split at h
      · cases h
      · rename_i x T2 dp2 h2
        have g1 := hr _ _ _ _ _ h2
        have g2 := arg_s hr d m (acc ++ [x]) T2 dp2 acc' T' dp' h
        unfold szL at g2 ⊢
        rw [List.map_append, List.sum_append] at g2
        simp only [List.map_cons, List.map_nil, List.sum_cons, List.sum_nil] at g2
        omega
theorem enc_s {rd : List Tok → Int → PR Ex} (hr : RdS rd) (d : Int) (many : Nat) (T : List Tok) (dp : Int) (acc : List Ex) (T' : List Tok) (dp' : Int) (h : encF rd d many T dp = .ok (acc, T', dp')) : szL acc + T'.length + 2 ≤ T.length := by
  unfold encF at h
  split at h
  · cases h
  · split at h
    · split at h
      · cases h
      · rename_i a T2 dp2 h2
        have g := arg_s hr (d + 1) many [] _ _ a T2 dp2 h2
        split at h
        · cases h
        · split at h
          · injection h with h
            injection h with h1 h2
            injection h2 with h2 h3
            subst h1 h2
            rw [List.length_cons] at g ⊢
            simp only [szL, List.map_nil, List.sum_nil] at g ⊢
            omega
          · cases h
    · cases h
theorem mkFn_sz (f : List UInt8) (L : List Ex) : szE (mkFn f L) ≤ szL L + 1 := by
  match L with
  | [] => simp [mkFn, szE, szL]
  | [a] => simp [mkFn, szE, szL]
  | [a, b] => simp [mkFn, szE, szL]
  | [a, b, c] => simp [mkFn, szE, szL]; omega
  | _ :: _ :: _ :: _ :: _ => simp [mkFn, szE]
theorem fact_s : ∀ (n : Nat) (d : Int), RdS (factF n d)
  | 0, d => fun T dp x T' dp' h => by unfold factF at h; cases h
  | n + 1, d => fun T dp x T' dp' h => by
    cases T with
    | nil => unfold factF at h; cases h
    | cons t T1 =>
      unfold factF at h
      rw [List.length_cons]
      split at h
      · split at h
        · cases h
        · rename_i y T2 dp2 h2
          have g := fact_s n (d + 1) _ _ _ _ _ h2
          injection h with h
          injection h with h1 h2
          injection h2 with h2 h3
          subst h1 h2
          simp only [szE]
          omega
      · split at h
        · split at h
          · injection h with h
            injection h with h1 h2
            injection h2 with h2 h3
            subst h1 h2
            simp only [szE]
            omega
          · cases h
        · split at h
          · split at h
            · cases h
            · rename_i L T2 dp2 h2
              have g := enc_s (comp_s (d + 1) (fact_s n (d + 1))) d 1 _ _ _ _ _ h2
              injection h with h
              injection h with h1 h2
              injection h2 with h2 h3
              subst h1 h2
              rw [List.length_cons] at g
              have : szE (L.headD (.num 0)) ≤ szL L + 1 := by
                cases L with
                | nil => simp [szE, szL]
                | cons a r => simp only [List.headD_cons, szL, List.map_cons, List.sum_cons]; omega
              omega
          · split at h
            · split at h
              · split at h
                · cases h
                · rename_i L T2 dp2 h2
                  have g := enc_s (comp_s (d + 1) (fact_s n (d + 1))) d _ _ _ _ _ _ h2
                  injection h with h
                  injection h with h1 h2
                  injection h2 with h2 h3
                  subst h1 h2
                  have := mkFn_sz t.x L
                  omega
              · split at h
                · cases h
                · unfold shfF at h
                  split at h
                  · cases h
                  · split at h
                    · split at h
                      · cases h
                      · split at h
                        · split at h
                          · split at h
                            · injection h with h
                              injection h with h1 h2
                              injection h2 with h2 h3
                              subst h1 h2
                              simp only [szE, List.length_cons]
                              omega
                            · cases h
                          · cases h
                        · cases h
                    · injection h with h
                      injection h with h1 h2
                      injection h2 with h2 h3
                      subst h1 h2
                      simp only [szE, List.length_cons]
                      omega
            · cases h
theorem par_sz {l : List UInt8} {e : Ex} (h : parF l = .ok e) : szE e ≤ 501 := by
  unfold parF at h
  have hl := (tokF_len l 0).2
  split at h
  · cases h
  · split at h
    · cases h
    · rename_i x T dp h1
      have := comp_s 0 (fact_s _ 0) _ _ _ _ _ h1
      split at h
      · cases h
      · split at h
        · cases h
        · split at h
          · cases h
          · injection h with h
            subst h
            omega
end Go.Proofs.YtlnfiflbpmicgaaGreatDoor
