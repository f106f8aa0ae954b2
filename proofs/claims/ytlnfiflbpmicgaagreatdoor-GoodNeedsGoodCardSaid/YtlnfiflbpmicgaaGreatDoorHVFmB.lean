/- A formatted expression is read as itself. No program in sight. -/
import Derived.Test.YtlnfiflbpmicgaaGreatDoorHVFmA
namespace Go.Proofs.YtlnfiflbpmicgaaGreatDoor
open Go Go.RowKit
set_option maxRecDepth 100000
set_option linter.all false
set_option maxHeartbeats 1000000
theorem tw_app {p : UInt8 → Bool} : ∀ (a r : List UInt8), (∀ c ∈ a, p c = true) → (∀ c, r.head? = some c → p c = false) → (a ++ r).takeWhile p = a ∧ (a ++ r).dropWhile p = r
  | [], [], _, _ => ⟨rfl, rfl⟩
  | [], c :: r, _, h => by
    have := h c rfl
    constructor
    · rw [List.nil_append, List.takeWhile_cons_of_neg (by simp [this])]
    · rw [List.nil_append, List.dropWhile_cons_of_neg (by simp [this])]
  | x :: a, r, h1, h2 => by
    obtain ⟨g1, g2⟩ := tw_app a r (fun c hc => h1 c (List.mem_cons_of_mem _ hc)) h2
    have hx := h1 x (List.mem_cons_self ..)
    constructor
    · rw [List.cons_append, List.takeWhile_cons_of_pos hx, g1]
    · rw [List.cons_append, List.dropWhile_cons_of_pos hx, g2]
def brk (r : List UInt8) : Prop := ∀ c, r.head? = some c → isWd c = false
theorem brk_dg {r : List UInt8} (h : brk r) : ∀ c, r.head? = some c → isDg c = false := fun c hc => by
  have := h c hc
  unfold isWd at this
  cases hd : isDg c
  · rfl
  · rw [hd] at this; simp at this
theorem brk_nil : brk [] := fun c h => by cases h
theorem brk_cons {c : UInt8} {r : List UInt8} (h : isWd c = false) : brk (c :: r) := fun d hd => by
  injection hd with hd
  subst hd
  exact h
def RdP (R : List Tok → List Tok → Prop) (p : Bool) (T0 T : List Tok) : Prop := if p = true then ∃ o o2 T1, T0 = ⟨3, [40], o⟩ :: T1 ∧ R T1 (⟨3, [41], o2⟩ :: T) else R T0 T
def RdB : Ex → List Tok → List Tok → Prop
  | .num n, T0, T => ∃ o, T0 = ⟨1, Lib.itoa n, o⟩ :: T
  | .tag x none, T0, T => ∃ o, T0 = ⟨2, x, o⟩ :: T
  | .tag x (some n), T0, T => ∃ o o1 o2, T0 = ⟨2, x, o⟩ :: ⟨3, [64], o1⟩ :: ⟨1, Lib.itoa n, o2⟩ :: T
  | .neg a, T0, T => ∃ o T1, T0 = ⟨3, [45], o⟩ :: T1 ∧ RdP (RdB a) (decide (stE a < 4)) T1 T
  | .bin c a b, T0, T => ∃ o T2, RdP (RdB a) (decide (stE a < if stC c = 1 then 2 else stC c)) T0 (⟨3, [c], o⟩ :: T2) ∧ RdP (RdB b) (decide (stE b < stC c + 1)) T2 T
  | .f1 f a, T0, T => ∃ o o1 o2 T1, T0 = ⟨2, f, o⟩ :: ⟨3, [40], o1⟩ :: T1 ∧ RdB a T1 (⟨3, [41], o2⟩ :: T)
  | .f2 f a b, T0, T => ∃ o o1 o2 o3 T1 T2, T0 = ⟨2, f, o⟩ :: ⟨3, [40], o1⟩ :: T1 ∧ RdB a T1 (⟨3, [44], o2⟩ :: T2) ∧ RdB b T2 (⟨3, [41], o3⟩ :: T)
  | .f3 f a b c, T0, T => ∃ o o1 o2 o3 o4 T1 T2 T3, T0 = ⟨2, f, o⟩ :: ⟨3, [40], o1⟩ :: T1 ∧ RdB a T1 (⟨3, [44], o2⟩ :: T2) ∧ RdB b T2 (⟨3, [44], o3⟩ :: T3) ∧ RdB c T3 (⟨3, [41], o4⟩ :: T)
theorem RdP.len {R : List Tok → List Tok → Prop} (hR : ∀ T0 T, R T0 T → T.length < T0.length) {p : Bool} {T0 T : List Tok} (h : RdP R p T0 T) : T.length < T0.length := by
  unfold RdP at h
  split at h
  · obtain ⟨o, o2, T1, rfl, h⟩ := h
    have := hR _ _ h
    rw [List.length_cons] at this ⊢
    omega
  · exact hR _ _ h
theorem RdB.len : ∀ (e : Ex) (T0 T : List Tok), RdB e T0 T → T.length < T0.length
  | .num n, T0, T, h => by obtain ⟨o, rfl⟩ := h; simp
  | .tag x none, T0, T, h => by obtain ⟨o, rfl⟩ := h; simp
  | .tag x (some n), T0, T, h => by obtain ⟨o, o1, o2, rfl⟩ := h; simp only [List.length_cons]; omega
  | .neg a, T0, T, h => by
    obtain ⟨o, T1, rfl, h⟩ := h
    have := h.len (RdB.len a)
    rw [List.length_cons]; omega
  | .bin c a b, T0, T, h => by
    obtain ⟨o, T2, h1, h2⟩ := h
    have := h1.len (RdB.len a)
    have := h2.len (RdB.len b)
    simp only [List.length_cons] at *; omega
  | .f1 f a, T0, T, h => by
    obtain ⟨o, o1, o2, T1, rfl, h⟩ := h
    have := RdB.len a _ _ h
    simp only [List.length_cons] at *; omega
  | .f2 f a b, T0, T, h => by
    obtain ⟨o, o1, o2, o3, T1, T2, rfl, h1, h2⟩ := h
    have := RdB.len a _ _ h1
    have := RdB.len b _ _ h2
    simp only [List.length_cons] at *; omega
  | .f3 f a b c, T0, T, h => by
    obtain ⟨o, o1, o2, o3, o4, T1, T2, T3, rfl, h1, h2, h3⟩ := h
    have := RdB.len a _ _ h1
    have := RdB.len b _ _ h2
    have := RdB.len c _ _ h3
    simp only [List.length_cons] at *; omega
theorem tok_sp (r : List UInt8) (o : Nat) : tokF (32 :: r) o = tokF r (o + 1) := by rw [tokF_cons, if_pos rfl]
theorem tok_sg {c : UInt8} (hc : c ∈ sgnL) (r : List UInt8) (o : Nat) : tokF (c :: r) o = ⟨3, [c], o⟩ :: tokF r (o + 1) := by
  have h : ∀ c ∈ sgnL, c ≠ 32 ∧ isDg c = false ∧ isSm c = false := by decide
  obtain ⟨h1, h2, h3⟩ := h c hc
  rw [tokF_cons, if_neg h1, h2, if_neg (by decide), h3, if_neg (by decide), if_pos hc]
theorem tok_word {x r : List UInt8} (o : Nat) (h1 : ∀ c ∈ x, isWd c = true) (h2 : ∃ c, x.head? = some c ∧ isSm c = true) (hr : brk r) : tokF (x ++ r) o = ⟨2, x, o⟩ :: tokF r (o + x.length) := by
  obtain ⟨c, hc, hs⟩ := h2
  cases x with
  | nil => cases hc
  | cons y x =>
    injection hc with hc
    subst hc
    obtain ⟨g1, g2⟩ := tw_app x r (fun d hd => h1 d (List.mem_cons_of_mem _ hd)) hr
    have h0 : y ≠ 32 ∧ isDg y = false := by
      have h97 : 97 ≤ y.toNat := by unfold isSm at hs; rw [decide_eq_true_eq] at hs; exact hs.1
      refine ⟨fun e => ?_, ?_⟩
      · subst e; exact absurd h97 (by decide)
      · unfold isDg; rw [decide_eq_false_iff_not]; omega
    rw [List.cons_append, tokF_cons, if_neg h0.1, h0.2, if_neg (by decide), if_pos hs, g1, g2, List.length_cons, show o + 1 + x.length = o + (x.length + 1) by omega]
theorem itoa_dg {n : Int} (h : 0 ≤ n) : Lib.itoa n ≠ [] ∧ ∀ c ∈ Lib.itoa n, isDg c = true := by
  obtain ⟨g1, g2, g3, g4⟩ := dec_dig n.natAbs n.natAbs (Nat.le_refl _)
  have e : Lib.itoa n = Lib.decDigits n.natAbs := by
    unfold Lib.itoa
    rw [if_neg (by omega), show n.toNat = n.natAbs by omega]
  rw [e]
  refine ⟨g2, fun c hc => ?_⟩
  unfold digB at g1
  rw [List.all_eq_true] at g1
  have := g1 c hc
  unfold Lib.digitVal at this
  unfold isDg
  rw [decide_eq_true_eq]
  split at this
  · assumption
  · cases this
theorem tok_num {n : Int} {r : List UInt8} (o : Nat) (h : 0 ≤ n) (hr : brk r) : tokF (Lib.itoa n ++ r) o = ⟨1, Lib.itoa n, o⟩ :: tokF r (o + (Lib.itoa n).length) := by
  obtain ⟨h1, h2⟩ := itoa_dg h
  generalize Lib.itoa n = x at *
  cases x with
  | nil => exact absurd rfl h1
  | cons y x =>
    obtain ⟨g1, g2⟩ := tw_app x r (fun d hd => h2 d (List.mem_cons_of_mem _ hd)) (brk_dg hr)
    have hy := h2 y (List.mem_cons_self ..)
    have h0 : y ≠ 32 := fun e => by subst e; exact absurd hy (by decide)
    rw [List.cons_append, tokF_cons, if_neg h0, if_pos hy, g1, g2, List.length_cons, show o + 1 + x.length = o + (x.length + 1) by omega]
theorem fn_word {f : List UInt8} (h : 0 < fnN f) : (∀ c ∈ f, isWd c = true) ∧ ∃ c, f.head? = some c ∧ isSm c = true := by
  unfold fnN at h
  split at h
  · rename_i g; rcases g with rfl | rfl
    · exact ⟨by decide, _, rfl, by decide⟩
    · exact ⟨by decide, _, rfl, by decide⟩
  · split at h
    · rename_i g; rcases g with rfl | rfl
      · exact ⟨by decide, _, rfl, by decide⟩
      · exact ⟨by decide, _, rfl, by decide⟩
    · split at h
      · rename_i g; subst g
        exact ⟨by decide, _, rfl, by decide⟩
      · omega
theorem tok_par {R : List Tok → List Tok → Prop} {s : List UInt8} (hs : ∀ r o, brk r → R (tokF (s ++ r) o) (tokF r (o + s.length))) (p : Bool) (r : List UInt8) (o : Nat) (hr : brk r) : RdP R p (tokF (parB p s ++ r) o) (tokF r (o + (parB p s).length)) := by
  unfold RdP parB
  cases p with
  | false => exact hs r o hr
  | true =>
    rw [if_pos rfl, if_pos rfl]
    have h := hs (41 :: r) (o + 1) (brk_cons (by decide))
    rw [tok_sg (by decide)] at h
    refine ⟨o, o + 1 + s.length, tokF (s ++ 41 :: r) (o + 1), ?_, ?_⟩
    · rw [List.cons_append, List.append_assoc, tok_sg (by decide)]
      rfl
    · rw [show o + (40 :: (s ++ [41])).length = o + 1 + s.length + 1 by simp; omega]
      exact h
theorem tok_fmt : ∀ (e : Ex), ExOk e → WdE e → ∀ (r : List UInt8) (o : Nat), brk r → RdB e (tokF (fmtB e ++ r) o) (tokF r (o + (fmtB e).length))
  | .num n, h, _, r, o, hr => ⟨o, tok_num o h.1 hr⟩
  | .tag x none, h, w, r, o, hr => ⟨o, tok_word o w.1 w.2 hr⟩
  | .tag x (some n), h, w, r, o, hr => by
    have h0 := h.2 n rfl
    show ∃ o1 o2 o3, tokF ((x ++ 64 :: Lib.itoa n) ++ r) o = _
    rw [List.append_assoc, List.cons_append, tok_word o w.1 w.2 (brk_cons (by decide)), tok_sg (by decide), tok_num _ h0.1 hr]
    rw [show o + (fmtB (.tag x (some n))).length = o + x.length + 1 + (Lib.itoa n).length by simp only [fmtB, List.length_append, List.length_cons]; omega]
    exact ⟨_, _, _, rfl⟩
  | .neg a, h, w, r, o, hr => by
    have ih := tok_par (tok_fmt a h w) (decide (stE a < 4)) r (o + 1) hr
    show ∃ o1 T1, tokF ((45 :: parB (decide (stE a < 4)) (fmtB a)) ++ r) o = _ ∧ _
    rw [List.cons_append, tok_sg (by decide)]
    refine ⟨_, _, rfl, ?_⟩
    rw [show o + (fmtB (.neg a)).length = o + 1 + (parB (decide (stE a < 4)) (fmtB a)).length by simp only [fmtB, List.length_cons]; omega]
    exact ih
  | .bin c a b, h, w, r, o, hr => by
    have hc : c ∈ sgnL := by
      have := h.1
      revert this
      generalize c = d
      revert d
      decide
    have ihb := tok_par (tok_fmt b h.2.2 w.2) (decide (stE b < stC c + 1)) r (o + (parB (decide (stE a < if stC c = 1 then 2 else stC c)) (fmtB a)).length + 3) hr
    have iha := tok_par (tok_fmt a h.2.1 w.1) (decide (stE a < if stC c = 1 then 2 else stC c)) (32 :: c :: 32 :: (parB (decide (stE b < stC c + 1)) (fmtB b) ++ r)) o (brk_cons (by decide))
    rw [tok_sp, tok_sg hc, tok_sp] at iha
    show ∃ o1 T2, RdP _ _ (tokF ((parB (decide (stE a < if stC c = 1 then 2 else stC c)) (fmtB a) ++ (32 :: c :: 32 :: parB (decide (stE b < stC c + 1)) (fmtB b))) ++ r) o) _ ∧ _
    refine ⟨o + (parB (decide (stE a < if stC c = 1 then 2 else stC c)) (fmtB a)).length + 1, tokF (parB (decide (stE b < stC c + 1)) (fmtB b) ++ r) (o + (parB (decide (stE a < if stC c = 1 then 2 else stC c)) (fmtB a)).length + 1 + 1 + 1), ?_, ?_⟩
    · rw [List.append_assoc]
      exact iha
    · rw [show o + (fmtB (.bin c a b)).length = o + (parB (decide (stE a < if stC c = 1 then 2 else stC c)) (fmtB a)).length + 3 + (parB (decide (stE b < stC c + 1)) (fmtB b)).length by simp only [fmtB, List.length_append, List.length_cons]; omega]
      exact ihb
  | .f1 f a, h, w, r, o, hr => by
    have hf := fn_word (f := f) (by have := h.1; omega)
    have iha := tok_fmt a h.2 w (41 :: r) (o + f.length + 1) (brk_cons (by decide))
    rw [tok_sg (by decide)] at iha
    show ∃ o1 o2 o3 T1, tokF ((f ++ 40 :: (fmtB a ++ [41])) ++ r) o = _ ∧ _
    rw [List.append_assoc, List.cons_append, List.append_assoc, tok_word o hf.1 hf.2 (brk_cons (by decide)), tok_sg (by decide)]
    refine ⟨_, _, o + f.length + 1 + (fmtB a).length, _, rfl, ?_⟩
    rw [show o + (fmtB (.f1 f a)).length = o + f.length + 1 + (fmtB a).length + 1 by simp only [fmtB, List.length_append, List.length_cons, List.length_nil]; omega]
    exact iha
  | .f2 f a b, h, w, r, o, hr => by
    have hf := fn_word (f := f) (by have := h.1; omega)
    have ihb := tok_fmt b h.2.2 w.2 (41 :: r) (o + f.length + 1 + (fmtB a).length + 2) (brk_cons (by decide))
    have iha := tok_fmt a h.2.1 w.1 (44 :: 32 :: (fmtB b ++ 41 :: r)) (o + f.length + 1) (brk_cons (by decide))
    rw [tok_sg (by decide)] at ihb
    rw [tok_sg (by decide), tok_sp] at iha
    show ∃ o1 o2 o3 o4 T1 T2, tokF ((f ++ 40 :: (fmtB a ++ (44 :: 32 :: (fmtB b ++ [41])))) ++ r) o = _ ∧ _
    have e : (f ++ 40 :: (fmtB a ++ (44 :: 32 :: (fmtB b ++ [41])))) ++ r = f ++ 40 :: (fmtB a ++ (44 :: 32 :: (fmtB b ++ 41 :: r))) := by simp
    rw [e, tok_word o hf.1 hf.2 (brk_cons (by decide)), tok_sg (by decide)]
    refine ⟨_, _, _, o + f.length + 1 + (fmtB a).length + 2 + (fmtB b).length, _, _, rfl, iha, ?_⟩
    rw [show o + (fmtB (.f2 f a b)).length = o + f.length + 1 + (fmtB a).length + 2 + (fmtB b).length + 1 by simp only [fmtB, List.length_append, List.length_cons, List.length_nil]; omega]
    exact ihb
  | .f3 f a b c, h, w, r, o, hr => by
    have hf := fn_word (f := f) (by have := h.1; omega)
    have ihc := tok_fmt c h.2.2.2 w.2.2 (41 :: r) (o + f.length + 1 + (fmtB a).length + 2 + (fmtB b).length + 2) (brk_cons (by decide))
    have ihb := tok_fmt b h.2.2.1 w.2.1 (44 :: 32 :: (fmtB c ++ 41 :: r)) (o + f.length + 1 + (fmtB a).length + 2) (brk_cons (by decide))
    have iha := tok_fmt a h.2.1 w.1 (44 :: 32 :: (fmtB b ++ 44 :: 32 :: (fmtB c ++ 41 :: r))) (o + f.length + 1) (brk_cons (by decide))
    rw [tok_sg (by decide)] at ihc
    rw [tok_sg (by decide), tok_sp] at ihb
    rw [tok_sg (by decide), tok_sp] at iha
    show ∃ o1 o2 o3 o4 o5 T1 T2 T3, tokF ((f ++ 40 :: (fmtB a ++ (44 :: 32 :: (fmtB b ++ (44 :: 32 :: (fmtB c ++ [41])))))) ++ r) o = _ ∧ _
    have e : (f ++ 40 :: (fmtB a ++ (44 :: 32 :: (fmtB b ++ (44 :: 32 :: (fmtB c ++ [41])))))) ++ r = f ++ 40 :: (fmtB a ++ (44 :: 32 :: (fmtB b ++ 44 :: 32 :: (fmtB c ++ 41 :: r)))) := by simp
    rw [e, tok_word o hf.1 hf.2 (brk_cons (by decide)), tok_sg (by decide)]
    refine ⟨_, _, _, _, o + f.length + 1 + (fmtB a).length + 2 + (fmtB b).length + 2 + (fmtB c).length, _, _, _, rfl, iha, ihb, ?_⟩
    rw [show o + (fmtB (.f3 f a b c)).length = o + f.length + 1 + (fmtB a).length + 2 + (fmtB b).length + 2 + (fmtB c).length + 1 by simp only [fmtB, List.length_append, List.length_cons, List.length_nil]; omega]
    exact ihc
/-! ### reading -/
def NoO (ops : List UInt8) (T : List Tok) : Prop := ∀ t T1, T = t :: T1 → sgT t ops = none
theorem NoO.cons {ops : List UInt8} {c : UInt8} {o : Nat} {T : List Tok} (h : c ∉ ops) : NoO ops (⟨3, [c], o⟩ :: T) := fun t T1 e => by
  injection e with e1 e2
  subst e1
  show (if (3 : Nat) = 3 then (if c ∈ ops then some c else none) else none) = none
  rw [if_pos rfl, if_neg h]
theorem sg_at {ops : List UInt8} {c : UInt8} (o : Nat) (h : c ∈ ops) : sgT ⟨3, [c], o⟩ ops = some c := by
  show (if (3 : Nat) = 3 then (if c ∈ ops then some c else none) else none) = some c
  rw [if_pos rfl, if_pos h]
theorem sg_yes {c : UInt8} (o : Nat) : (sgT ⟨3, [c], o⟩ [c]).isSome = true := by rw [sg_at o (List.mem_singleton.2 rfl)]; rfl
theorem sg_no {c d : UInt8} (h : c ≠ d) (o : Nat) : ¬ (sgT ⟨3, [c], o⟩ [d]).isSome = true := by
  have : sgT ⟨3, [c], o⟩ [d] = none := by
    show (if (3 : Nat) = 3 then (if c ∈ ([d] : List UInt8) then some c else none) else none) = none
    rw [if_pos rfl, if_neg (by simpa using h)]
  rw [this]; decide
theorem row_no {ops : List UInt8} {rd : List Tok → Int → PR Ex} {d : Int} {m : Nat} {x : Ex} {T : List Tok} {dp : Int} (h : NoO ops T) : rowF ops rd d m x T dp = .ok (x, T, dp) := by
  cases m with
  | zero => rfl
  | succ m =>
    cases T with
    | nil => rfl
    | cons t T1 =>
      unfold rowF
      dsimp only
      rw [h t T1 rfl]
theorem deep_ok {d dp : Int} (t : Tok) (h : d ≤ 20) : deepF d dp t = dp := by unfold deepF; rw [if_neg (by omega)]
abbrev O1 : List UInt8 := [60, 61]
abbrev O2 : List UInt8 := [43, 45]
abbrev O3 : List UInt8 := [42, 47]
def S4 (e : Ex) (n : Nat) (d : Int) (T0 T : List Tok) (dp : Int) : Prop := factF n d T0 dp = .ok (e, T, dp)
def S3 (e : Ex) (n : Nat) (d : Int) (T0 T : List Tok) (dp : Int) : Prop := ∃ m, T.length ≤ m ∧ prodG (factF n) d T0 dp = rowF O3 (factF n d) d m e T dp
def S2 (e : Ex) (n : Nat) (d : Int) (T0 T : List Tok) (dp : Int) : Prop := ∃ m, T.length ≤ m ∧ sumG (factF n) d T0 dp = rowF O2 (prodG (factF n) d) d m e T dp
def S1 (e : Ex) (n : Nat) (d : Int) (T0 T : List Tok) (dp : Int) : Prop := compG (factF n) d T0 dp = .ok (e, T, dp)
theorem up3 {e : Ex} {n : Nat} {d : Int} {T0 T : List Tok} {dp : Int} (h : S4 e n d T0 T dp) : S3 e n d T0 T dp := by
  refine ⟨T.length, Nat.le_refl _, ?_⟩
  unfold prodG joinF
  unfold S4 at h
  rw [h]
  rfl
theorem in3 {e : Ex} {n : Nat} {d : Int} {T0 T : List Tok} {dp : Int} (h : S3 e n d T0 T dp) (h3 : NoO O3 T) : prodG (factF n) d T0 dp = .ok (e, T, dp) := by
  obtain ⟨m, _, h⟩ := h
  rw [h, row_no h3]
theorem up2 {e : Ex} {n : Nat} {d : Int} {T0 T : List Tok} {dp : Int} (h : S3 e n d T0 T dp) (h3 : NoO O3 T) : S2 e n d T0 T dp := by
  refine ⟨T.length, Nat.le_refl _, ?_⟩
  unfold sumG joinF
  rw [in3 h h3]
  rfl
theorem in2 {e : Ex} {n : Nat} {d : Int} {T0 T : List Tok} {dp : Int} (h : S2 e n d T0 T dp) (h2 : NoO O2 T) : sumG (factF n) d T0 dp = .ok (e, T, dp) := by
  obtain ⟨m, _, h⟩ := h
  rw [h, row_no h2]
theorem up1 {e : Ex} {n : Nat} {d : Int} {T0 T : List Tok} {dp : Int} (h : S2 e n d T0 T dp) (h2 : NoO O2 T) (h1 : NoO O1 T) : S1 e n d T0 T dp := by
  unfold S1 compG joinF
  rw [in2 h h2]
  show rowF O1 _ d _ e T dp = _
  rw [row_no h1]
def SAll (e : Ex) (n : Nat) (d : Int) (T0 T : List Tok) (dp : Int) : Prop :=
  (4 ≤ stE e → S4 e n d T0 T dp) ∧ (3 ≤ stE e → S3 e n d T0 T dp) ∧ (2 ≤ stE e → NoO O3 T → S2 e n d T0 T dp) ∧ (NoO O3 T → NoO O2 T → NoO O1 T → S1 e n d T0 T dp)
theorem all4 {e : Ex} {n : Nat} {d : Int} {T0 T : List Tok} {dp : Int} (h : S4 e n d T0 T dp) : SAll e n d T0 T dp :=
  ⟨fun _ => h, fun _ => up3 h, fun _ h3 => up2 (up3 h) h3, fun h3 h2 h1 => up1 (up2 (up3 h) h3) h2 h1⟩
def NoA (T : List Tok) : Prop := ∃ t T1, T = t :: T1 ∧ sgT t [64] = none
theorem NoA.cons {c : UInt8} {o : Nat} {T : List Tok} (h : c ≠ 64) : NoA (⟨3, [c], o⟩ :: T) := ⟨_, _, rfl, by
  show (if (3 : Nat) = 3 then (if c ∈ ([64] : List UInt8) then some c else none) else none) = none
  rw [if_pos rfl, if_neg (by simpa using h)]⟩
def SP (e : Ex) : Prop := ∀ (n : Nat) (d : Int) (T0 T : List Tok) (dp : Int), NoA T → RdB e T0 T → T0.length ≤ n + T.length → d + dpT e ≤ 20 → SAll e n d T0 T dp
theorem close_no {o : Nat} {T : List Tok} : NoO O3 (⟨3, [41], o⟩ :: T) ∧ NoO O2 (⟨3, [41], o⟩ :: T) ∧ NoO O1 (⟨3, [41], o⟩ :: T) := ⟨NoO.cons (by decide), NoO.cons (by decide), NoO.cons (by decide)⟩
theorem comma_no {o : Nat} {T : List Tok} : NoO O3 (⟨3, [44], o⟩ :: T) ∧ NoO O2 (⟨3, [44], o⟩ :: T) ∧ NoO O1 (⟨3, [44], o⟩ :: T) := ⟨NoO.cons (by decide), NoO.cons (by decide), NoO.cons (by decide)⟩
theorem brack {e : Ex} (ih : SP e) {n : Nat} {d : Int} {T0 T : List Tok} {dp : Int} {o o2 : Nat} {T1 : List Tok} (h0 : T0 = ⟨3, [40], o⟩ :: T1) (h1 : RdB e T1 (⟨3, [41], o2⟩ :: T)) (hn : T0.length ≤ n + T.length) (hd : d + (dpT e + 1) ≤ 20) : S4 e n d T0 T dp := by
  subst h0
  have hl := RdB.len e _ _ h1
  rw [List.length_cons] at hn hl
  cases n with
  | zero => omega
  | succ n =>
    have h := (ih n (d + 1) T1 (⟨3, [41], o2⟩ :: T) dp (NoA.cons (by decide)) h1 (by rw [List.length_cons]; omega) (by omega)).2.2.2 close_no.1 close_no.2.1 close_no.2.2
    unfold S1 at h
    unfold S4 factF
    rw [if_neg (sg_no (by decide) o), if_neg (by decide : ¬ (3 : Nat) = 1), if_pos (sg_yes o)]
    unfold encF
    dsimp only
    rw [if_pos (sg_yes o), deep_ok _ (by omega)]
    unfold argF
    rw [if_pos rfl]
    dsimp only
    rw [h]
    dsimp only
    unfold argF
    dsimp only
    rw [if_pos (sg_yes o2), deep_ok _ (by omega)]
    rfl
theorem op4 {e : Ex} (ih : SP e) {n : Nat} {d : Int} {T0 T : List Tok} {dp : Int} (hA : NoA T) (h : RdP (RdB e) (decide (stE e < 4)) T0 T) (hn : T0.length ≤ n + T.length) (hd : d + dpF e 4 ≤ 20) : S4 e n d T0 T dp := by
  unfold dpF at hd
  unfold RdP at h
  by_cases hp : stE e < 4
  · rw [if_pos hp] at hd
    rw [decide_eq_true hp, if_pos rfl] at h
    obtain ⟨o, o2, T1, g1, g2⟩ := h
    exact brack ih g1 g2 hn (by omega)
  · rw [if_neg hp] at hd
    rw [decide_eq_false hp, if_neg (by decide)] at h
    exact (ih n d T0 T dp hA h hn (by omega)).1 (by omega)
theorem op3 {e : Ex} (ih : SP e) {n : Nat} {d : Int} {T0 T : List Tok} {dp : Int} (hA : NoA T) (h : RdP (RdB e) (decide (stE e < 3)) T0 T) (hn : T0.length ≤ n + T.length) (hd : d + dpF e 3 ≤ 20) : S3 e n d T0 T dp := by
  unfold dpF at hd
  unfold RdP at h
  by_cases hp : stE e < 3
  · rw [if_pos hp] at hd
    rw [decide_eq_true hp, if_pos rfl] at h
    obtain ⟨o, o2, T1, g1, g2⟩ := h
    exact up3 (brack ih g1 g2 hn (by omega))
  · rw [if_neg hp] at hd
    rw [decide_eq_false hp, if_neg (by decide)] at h
    exact (ih n d T0 T dp hA h hn (by omega)).2.1 (by omega)
theorem op2 {e : Ex} (ih : SP e) {n : Nat} {d : Int} {T0 T : List Tok} {dp : Int} (hA : NoA T) (h : RdP (RdB e) (decide (stE e < 2)) T0 T) (hn : T0.length ≤ n + T.length) (hd : d + dpF e 2 ≤ 20) (h3 : NoO O3 T) : S2 e n d T0 T dp := by
  unfold dpF at hd
  unfold RdP at h
  by_cases hp : stE e < 2
  · rw [if_pos hp] at hd
    rw [decide_eq_true hp, if_pos rfl] at h
    obtain ⟨o, o2, T1, g1, g2⟩ := h
    exact up2 (up3 (brack ih g1 g2 hn (by omega))) h3
  · rw [if_neg hp] at hd
    rw [decide_eq_false hp, if_neg (by decide)] at h
    exact (ih n d T0 T dp hA h hn (by omega)).2.2.1 (by omega) h3
theorem row_on {ops : List UInt8} {rd : List Tok → Int → PR Ex} {d : Int} {m : Nat} {x y : Ex} {c : UInt8} {o : Nat} {T2 T : List Tok} {dp : Int} (hc : c ∈ ops) (hd : d ≤ 20) (hm : (⟨3, [c], o⟩ :: T2 : List Tok).length ≤ m) (hr : rd T2 dp = .ok (y, T, dp)) (hl : T.length ≤ T2.length) : ∃ m', T.length ≤ m' ∧ rowF ops rd d m x (⟨3, [c], o⟩ :: T2) dp = rowF ops rd d m' (.bin c x y) T dp := by
  rw [List.length_cons] at hm
  cases m with
  | zero => omega
  | succ m =>
    refine ⟨m, by omega, ?_⟩
    conv => lhs; unfold rowF
    dsimp only
    rw [sg_at o hc]
    dsimp only
    rw [deep_ok _ hd, hr]
theorem sg_none {k : Nat} {x : List UInt8} {o : Nat} (h : k ≠ 3) (ops : List UInt8) : ¬ (sgT ⟨k, x, o⟩ ops).isSome = true := by
  unfold sgT
  rw [if_neg h]
  decide
theorem numF_9 {n : Int} (h : 0 ≤ n ∧ n ≤ 999999999) : numF (Lib.itoa n) 9 = some n := by
  obtain ⟨g1, g2, g3, g4⟩ := dec_dig n.natAbs n.natAbs (Nat.le_refl _)
  obtain ⟨hst, hat⟩ := atoi_itoa n
  have hlen := dec_len 8 n.natAbs (by omega)
  have hb := (itoa_back (l := Lib.itoa n) (n := n) (by rw [hst]; exact g1) (by rw [hst]; exact g2) hat).1 rfl
  rw [numF_eq, if_neg (by rw [hst]; exact fun h => h.elim g2 (by omega)), if_neg hb, if_pos (by rw [hst]; exact g1), hat]
theorem arg_on {cmp : List Tok → Int → PR Ex} {d : Int} {m : Nat} {acc : List Ex} {x : Ex} {o : Nat} {T1 T2 : List Tok} {dp : Int} (ha : acc ≠ []) (hd : d ≤ 20) (hc : cmp T1 dp = .ok (x, T2, dp)) : argF cmp d (m + 1) acc (⟨3, [44], o⟩ :: T1) dp = argF cmp d m (acc ++ [x]) T2 dp := by
  conv => lhs; unfold argF
  rw [if_neg ha]
  dsimp only
  rw [if_pos (sg_yes o), deep_ok _ hd]
  dsimp only
  rw [hc]
theorem arg_in {cmp : List Tok → Int → PR Ex} {d : Int} {m : Nat} {x : Ex} {T1 T2 : List Tok} {dp : Int} (hc : cmp T1 dp = .ok (x, T2, dp)) : argF cmp d (m + 1) [] T1 dp = argF cmp d m [x] T2 dp := by
  conv => lhs; unfold argF
  rw [if_pos rfl]
  dsimp only
  rw [hc]
  rfl
theorem fmt_read : ∀ (e : Ex), ExOk e → SP e
  | .num v, h => fun n d T0 T dp hA hR hn hd => by
    obtain ⟨o, rfl⟩ := hR
    refine all4 ?_
    cases n with
    | zero => rw [List.length_cons] at hn; omega
    | succ n =>
      unfold S4 factF
      simp only [dpT] at hd
      rw [if_neg (sg_none (by decide) _), if_pos rfl, numF_9 h]
      dsimp only
      rw [deep_ok _ (by omega)]
  | .tag x none, h => fun n d T0 T dp hA hR hn hd => by
    obtain ⟨o, rfl⟩ := hR
    obtain ⟨⟨k1, k2, k3⟩, k4⟩ := h
    cases n with
    | zero => rw [List.length_cons] at hn; omega
    | succ n =>
      obtain ⟨u, T1, rfl, hu⟩ := hA
      refine all4 ?_
      simp only [dpT] at hd
      unfold S4 factF
      rw [if_neg (sg_none (by decide) _), if_neg (by decide : ¬ (2 : Nat) = 1), if_neg (sg_none (by decide) _), if_pos rfl, if_neg (by dsimp only; omega), if_neg (by dsimp only; omega)]
      unfold shfF
      dsimp only
      rw [hu, if_neg (by decide), deep_ok _ (by omega)]
  | .tag x (some v), h => fun n d T0 T dp hA hR hn hd => by
    obtain ⟨o, o1, o2, rfl⟩ := hR
    obtain ⟨⟨k1, k2, k3⟩, k4⟩ := h
    have k5 := k4 v rfl
    refine all4 ?_
    cases n with
    | zero => simp only [List.length_cons] at hn; omega
    | succ n =>
      simp only [dpT] at hd
      unfold S4 factF
      rw [if_neg (sg_none (by decide) _), if_neg (by decide : ¬ (2 : Nat) = 1), if_neg (sg_none (by decide) _), if_pos rfl, if_neg (by dsimp only; omega), if_neg (by dsimp only; omega)]
      unfold shfF
      dsimp only
      rw [if_pos (sg_yes o1), if_pos rfl, numF_9 (by omega)]
      dsimp only
      rw [if_pos (by omega), deep_ok _ (by omega), deep_ok _ (by omega), deep_ok _ (by omega)]
  | .neg a, h => fun n d T0 T dp hA hR hn hd => by
    obtain ⟨o, T1, rfl, hR⟩ := hR
    refine all4 ?_
    cases n with
    | zero => have := hR.len (RdB.len a); rw [List.length_cons] at hn; omega
    | succ n =>
      simp only [dpT] at hd
      rw [List.length_cons] at hn
      have h4 := op4 (fmt_read a h) (n := n) (d := d + 1) (dp := dp) hA hR (by omega) (by unfold dpF; omega)
      unfold S4 at h4
      unfold S4 factF
      rw [if_pos (sg_yes o), deep_ok _ (by omega), h4]
  | .bin c a b, h => fun n d T0 T dp hA hR hn hd => by
    obtain ⟨o, T2, h1, h2⟩ := hR
    have l1 := h1.len (RdB.len a)
    have l2 := h2.len (RdB.len b)
    have ia := fmt_read a h.2.1
    have ib := fmt_read b h.2.2
    have hc := h.1
    rw [List.length_cons] at l1
    have hd1 : d + dpF a (if stC c = 1 then 2 else stC c) ≤ 20 ∧ d + dpF b (stC c + 1) ≤ 20 := by
      simp only [dpT] at hd
      unfold dpF
      omega
    have h64 : c ≠ 64 := fun e => by subst e; exact absurd hc (by decide)
    simp only [List.mem_cons, List.not_mem_nil, or_false] at hc
    have k3 : stC c = 3 → c ∈ O3 → SAll (.bin c a b) n d T0 T dp := fun e hO => by
      rw [e, if_neg (by decide)] at h1 hd1
      rw [e] at h2
      have a3 := op3 ia (NoA.cons h64) h1 (n := n) (dp := dp) (by rw [List.length_cons]; omega) hd1.1
      have b4 := op4 ib hA h2 (n := n) (dp := dp) (by omega) hd1.2
      have s3 : S3 (.bin c a b) n d T0 T dp := by
        obtain ⟨m, hm, a3⟩ := a3
        obtain ⟨m', hm', g⟩ := row_on (x := a) (d := d) hO (by omega) hm b4 (by omega)
        exact ⟨m', hm', a3.trans g⟩
      refine ⟨fun q => ?_, fun _ => s3, fun _ n3 => up2 s3 n3, fun n3 n2 n1 => up1 (up2 s3 n3) n2 n1⟩
      exfalso
      simp only [stE] at q
      omega
    have k2 : stC c = 2 → c ∈ O2 → c ∉ O3 → SAll (.bin c a b) n d T0 T dp := fun e hO hN => by
      rw [e, if_neg (by decide)] at h1 hd1
      rw [e] at h2
      have a2 := op2 ia (NoA.cons h64) h1 (n := n) (dp := dp) (by rw [List.length_cons]; omega) hd1.1 (NoO.cons hN)
      have b3 := op3 ib hA h2 (n := n) (dp := dp) (by omega) hd1.2
      have s2 : NoO O3 T → S2 (.bin c a b) n d T0 T dp := fun n3 => by
        obtain ⟨m, hm, a2⟩ := a2
        obtain ⟨m', hm', g⟩ := row_on (x := a) (d := d) hO (by omega) hm (in3 b3 n3) (by omega)
        exact ⟨m', hm', a2.trans g⟩
      refine ⟨fun q => ?_, fun q => ?_, fun _ n3 => s2 n3, fun n3 n2 n1 => up1 (s2 n3) n2 n1⟩
      · exfalso
        simp only [stE] at q
        omega
      · exfalso
        simp only [stE] at q
        omega
    have k1 : stC c = 1 → c ∈ O1 → c ∉ O3 → c ∉ O2 → SAll (.bin c a b) n d T0 T dp := fun e hO hN hN2 => by
      rw [e, if_pos rfl] at h1 hd1
      rw [e] at h2
      have a2 := op2 ia (NoA.cons h64) h1 (n := n) (dp := dp) (by rw [List.length_cons]; omega) hd1.1 (NoO.cons hN)
      refine ⟨fun q => ?_, fun q => ?_, fun q => ?_, fun n3 n2 n1 => ?_⟩
      · exfalso
        simp only [stE] at q
        omega
      · exfalso
        simp only [stE] at q
        omega
      · exfalso
        simp only [stE] at q
        omega
      · have b2 := op2 ib hA h2 (n := n) (dp := dp) (by omega) hd1.2 n3
        have a2 := in2 a2 (NoO.cons hN2)
        have b2 := in2 b2 n2
        unfold S1 compG joinF
        rw [a2]
        show rowF O1 (sumG (factF n) d) d 1 a _ dp = _
        unfold rowF
        dsimp only
        rw [sg_at o hO]
        dsimp only
        rw [deep_ok _ (by omega), b2]
        rfl
    rcases hc with rfl | rfl | rfl | rfl | rfl | rfl
    · exact k2 (by decide) (by decide) (by decide)
    · exact k2 (by decide) (by decide) (by decide)
    · exact k3 (by decide) (by decide)
    · exact k3 (by decide) (by decide)
    · exact k1 (by decide) (by decide) (by decide) (by decide)
    · exact k1 (by decide) (by decide) (by decide) (by decide)
  | .f1 f a, h => fun n d T0 T dp hA hR hn hd => by
    obtain ⟨o, o1, o2, T1, rfl, hR⟩ := hR
    have la := RdB.len a _ _ hR
    refine all4 ?_
    simp only [List.length_cons] at hn la
    simp only [dpT] at hd
    cases n with
    | zero => omega
    | succ n =>
      have sa := (fmt_read a h.2 n (d + 1) _ _ dp (NoA.cons (by decide)) hR (by rw [List.length_cons]; omega) (by omega)).2.2.2 close_no.1 close_no.2.1 close_no.2.2
      unfold S1 at sa
      unfold S4 factF
      rw [if_neg (sg_none (by decide) _), if_neg (by decide : ¬ (2 : Nat) = 1), if_neg (sg_none (by decide) _), if_pos rfl, h.1, if_pos (by decide), deep_ok _ (by omega)]
      unfold encF
      dsimp only
      rw [if_pos (sg_yes o1), deep_ok _ (by omega), arg_in sa]
      unfold argF
      dsimp only
      rw [if_pos (sg_yes o2), deep_ok _ (by omega)]
      rfl
  | .f2 f a b, h => fun n d T0 T dp hA hR hn hd => by
    obtain ⟨o, o1, o2, o3, T1, T2, rfl, hX, hB⟩ := hR
    have la := RdB.len a _ _ hX
    have lb := RdB.len b _ _ hB
    refine all4 ?_
    simp only [List.length_cons] at hn la lb
    simp only [dpT] at hd
    cases n with
    | zero => omega
    | succ n =>
      have sa := (fmt_read a h.2.1 n (d + 1) _ _ dp (NoA.cons (by decide)) hX (by rw [List.length_cons]; omega) (by omega)).2.2.2 comma_no.1 comma_no.2.1 comma_no.2.2
      have sb := (fmt_read b h.2.2 n (d + 1) _ _ dp (NoA.cons (by decide)) hB (by rw [List.length_cons]; omega) (by omega)).2.2.2 close_no.1 close_no.2.1 close_no.2.2
      unfold S1 at sa sb
      unfold S4 factF
      rw [if_neg (sg_none (by decide) _), if_neg (by decide : ¬ (2 : Nat) = 1), if_neg (sg_none (by decide) _), if_pos rfl, h.1, if_pos (by decide), deep_ok _ (by omega)]
      unfold encF
      dsimp only
      rw [if_pos (sg_yes o1), deep_ok _ (by omega), arg_in sa, arg_on (by simp) (by omega) sb]
      unfold argF
      dsimp only
      rw [if_pos (sg_yes o3), deep_ok _ (by omega)]
      rfl
  | .f3 f a b c, h => fun n d T0 T dp hA hR hn hd => by
    obtain ⟨o, o1, o2, o3, o4, T1, T2, T3, rfl, hX, hB, hC⟩ := hR
    have la := RdB.len a _ _ hX
    have lb := RdB.len b _ _ hB
    have lc := RdB.len c _ _ hC
    refine all4 ?_
    simp only [List.length_cons] at hn la lb lc
    simp only [dpT] at hd
    cases n with
    | zero => omega
    | succ n =>
      have sa := (fmt_read a h.2.1 n (d + 1) _ _ dp (NoA.cons (by decide)) hX (by rw [List.length_cons]; omega) (by omega)).2.2.2 comma_no.1 comma_no.2.1 comma_no.2.2
      have sb := (fmt_read b h.2.2.1 n (d + 1) _ _ dp (NoA.cons (by decide)) hB (by rw [List.length_cons]; omega) (by omega)).2.2.2 comma_no.1 comma_no.2.1 comma_no.2.2
      have sc := (fmt_read c h.2.2.2 n (d + 1) _ _ dp (NoA.cons (by decide)) hC (by rw [List.length_cons]; omega) (by omega)).2.2.2 close_no.1 close_no.2.1 close_no.2.2
      unfold S1 at sa sb sc
      unfold S4 factF
      rw [if_neg (sg_none (by decide) _), if_neg (by decide : ¬ (2 : Nat) = 1), if_neg (sg_none (by decide) _), if_pos rfl, h.1, if_pos (by decide), deep_ok _ (by omega)]
      unfold encF
      dsimp only
      rw [if_pos (sg_yes o1), deep_ok _ (by omega), arg_in sa, arg_on (by simp) (by omega) sb, arg_on (by simp) (by omega) sc]
      unfold argF
      dsimp only
      rw [if_pos (sg_yes o4), deep_ok _ (by omega)]
      rfl
theorem par_fmt {e : Ex} (h : ExOk e) (w : WdE e) (hl : (fmtB e).length ≤ 500) (hd : dpT e ≤ 20) : parF (fmtB e) = .ok e := by
  have h1 := tok_fmt e h w [] 0 brk_nil
  rw [List.append_nil, tokF_nil, Nat.zero_add] at h1
  have hA : NoA [⟨0, [], (fmtB e).length⟩] := ⟨_, _, rfl, rfl⟩
  have hN : ∀ ops, NoO ops [⟨0, [], (fmtB e).length⟩] := fun ops t T1 e => by
    injection e with e1 e2
    subst e1
    rfl
  have h2 := (fmt_read e h (tokF (fmtB e) 0).length 0 _ _ (-1) hA h1 (by omega) (by omega)).2.2.2 (hN _) (hN _) (hN _)
  unfold S1 at h2
  unfold parF
  rw [if_neg (by omega), h2]
  rfl
end Go.Proofs.YtlnfiflbpmicgaaGreatDoor
