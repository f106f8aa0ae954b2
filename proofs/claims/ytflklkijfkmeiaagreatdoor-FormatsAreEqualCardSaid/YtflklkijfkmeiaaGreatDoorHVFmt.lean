/- Texts of expressions, the program's side. Condition: no more nodes than the source gives. -/
import Derived.Test.YtflklkijfkmeiaaGreatDoorHVQrsG
import Derived.Test.YtflklkijfkmeiaaGreatDoorHVJoi
namespace Go.Proofs.YtflklkijfkmeiaaGreatDoor
open Go Go.RowKit
set_option maxRecDepth 100000
set_option linter.all false
set_option maxHeartbeats 4000000
@[go_sem] theorem kd_number_1 : decide ((⟨#[110, 117, 109, 98, 101, 114]⟩ : ByteArray) = ⟨#[116, 97, 103]⟩) = false := (by decide)
@[go_sem] theorem kd_number_3 : decide ((⟨#[110, 117, 109, 98, 101, 114]⟩ : ByteArray) = ⟨#[60]⟩) = false := (by decide)
@[go_sem] theorem kd_number_4 : decide ((⟨#[110, 117, 109, 98, 101, 114]⟩ : ByteArray) = ⟨#[61]⟩) = false := (by decide)
@[go_sem] theorem kd_number_5 : decide ((⟨#[110, 117, 109, 98, 101, 114]⟩ : ByteArray) = ⟨#[43]⟩) = false := (by decide)
@[go_sem] theorem kd_number_6 : decide ((⟨#[110, 117, 109, 98, 101, 114]⟩ : ByteArray) = ⟨#[45]⟩) = false := (by decide)
@[go_sem] theorem kd_number_7 : decide ((⟨#[110, 117, 109, 98, 101, 114]⟩ : ByteArray) = ⟨#[42]⟩) = false := (by decide)
@[go_sem] theorem kd_number_8 : decide ((⟨#[110, 117, 109, 98, 101, 114]⟩ : ByteArray) = ⟨#[47]⟩) = false := (by decide)
@[go_sem] theorem kd_tag_0 : decide ((⟨#[116, 97, 103]⟩ : ByteArray) = ⟨#[110, 117, 109, 98, 101, 114]⟩) = false := (by decide)
@[go_sem] theorem kd_tag_3 : decide ((⟨#[116, 97, 103]⟩ : ByteArray) = ⟨#[60]⟩) = false := (by decide)
@[go_sem] theorem kd_tag_4 : decide ((⟨#[116, 97, 103]⟩ : ByteArray) = ⟨#[61]⟩) = false := (by decide)
@[go_sem] theorem kd_tag_5 : decide ((⟨#[116, 97, 103]⟩ : ByteArray) = ⟨#[43]⟩) = false := (by decide)
@[go_sem] theorem kd_tag_6 : decide ((⟨#[116, 97, 103]⟩ : ByteArray) = ⟨#[45]⟩) = false := (by decide)
@[go_sem] theorem kd_tag_7 : decide ((⟨#[116, 97, 103]⟩ : ByteArray) = ⟨#[42]⟩) = false := (by decide)
@[go_sem] theorem kd_tag_8 : decide ((⟨#[116, 97, 103]⟩ : ByteArray) = ⟨#[47]⟩) = false := (by decide)
@[go_sem] theorem kd_minus_0 : decide ((⟨#[109, 105, 110, 117, 115]⟩ : ByteArray) = ⟨#[110, 117, 109, 98, 101, 114]⟩) = false := (by decide)
@[go_sem] theorem kd_minus_1 : decide ((⟨#[109, 105, 110, 117, 115]⟩ : ByteArray) = ⟨#[116, 97, 103]⟩) = false := (by decide)
@[go_sem] theorem kd_minus_3 : decide ((⟨#[109, 105, 110, 117, 115]⟩ : ByteArray) = ⟨#[60]⟩) = false := (by decide)
@[go_sem] theorem kd_minus_4 : decide ((⟨#[109, 105, 110, 117, 115]⟩ : ByteArray) = ⟨#[61]⟩) = false := (by decide)
@[go_sem] theorem kd_minus_5 : decide ((⟨#[109, 105, 110, 117, 115]⟩ : ByteArray) = ⟨#[43]⟩) = false := (by decide)
@[go_sem] theorem kd_minus_6 : decide ((⟨#[109, 105, 110, 117, 115]⟩ : ByteArray) = ⟨#[45]⟩) = false := (by decide)
@[go_sem] theorem kd_minus_7 : decide ((⟨#[109, 105, 110, 117, 115]⟩ : ByteArray) = ⟨#[42]⟩) = false := (by decide)
@[go_sem] theorem kd_minus_8 : decide ((⟨#[109, 105, 110, 117, 115]⟩ : ByteArray) = ⟨#[47]⟩) = false := (by decide)
@[go_sem] theorem kd_c43_3 : decide ((tB [43] : ByteArray) = ⟨#[60]⟩) = false := (by decide)
@[go_sem] theorem kd_c43_4 : decide ((tB [43] : ByteArray) = ⟨#[61]⟩) = false := (by decide)
@[go_sem] theorem kd_c43_5 : decide ((tB [43] : ByteArray) = ⟨#[43]⟩) = true := (by decide)
@[go_sem] theorem kd_c45_3 : decide ((tB [45] : ByteArray) = ⟨#[60]⟩) = false := (by decide)
@[go_sem] theorem kd_c45_4 : decide ((tB [45] : ByteArray) = ⟨#[61]⟩) = false := (by decide)
@[go_sem] theorem kd_c45_5 : decide ((tB [45] : ByteArray) = ⟨#[43]⟩) = false := (by decide)
@[go_sem] theorem kd_c45_6 : decide ((tB [45] : ByteArray) = ⟨#[45]⟩) = true := (by decide)
@[go_sem] theorem kd_c42_3 : decide ((tB [42] : ByteArray) = ⟨#[60]⟩) = false := (by decide)
@[go_sem] theorem kd_c42_4 : decide ((tB [42] : ByteArray) = ⟨#[61]⟩) = false := (by decide)
@[go_sem] theorem kd_c42_5 : decide ((tB [42] : ByteArray) = ⟨#[43]⟩) = false := (by decide)
@[go_sem] theorem kd_c42_6 : decide ((tB [42] : ByteArray) = ⟨#[45]⟩) = false := (by decide)
@[go_sem] theorem kd_c42_7 : decide ((tB [42] : ByteArray) = ⟨#[42]⟩) = true := (by decide)
@[go_sem] theorem kd_c47_3 : decide ((tB [47] : ByteArray) = ⟨#[60]⟩) = false := (by decide)
@[go_sem] theorem kd_c47_4 : decide ((tB [47] : ByteArray) = ⟨#[61]⟩) = false := (by decide)
@[go_sem] theorem kd_c47_5 : decide ((tB [47] : ByteArray) = ⟨#[43]⟩) = false := (by decide)
@[go_sem] theorem kd_c47_6 : decide ((tB [47] : ByteArray) = ⟨#[45]⟩) = false := (by decide)
@[go_sem] theorem kd_c47_7 : decide ((tB [47] : ByteArray) = ⟨#[42]⟩) = false := (by decide)
@[go_sem] theorem kd_c47_8 : decide ((tB [47] : ByteArray) = ⟨#[47]⟩) = true := (by decide)
@[go_sem] theorem kd_c60_3 : decide ((tB [60] : ByteArray) = ⟨#[60]⟩) = true := (by decide)
@[go_sem] theorem kd_c60_5 : decide ((tB [60] : ByteArray) = ⟨#[43]⟩) = false := (by decide)
@[go_sem] theorem kd_c60_6 : decide ((tB [60] : ByteArray) = ⟨#[45]⟩) = false := (by decide)
@[go_sem] theorem kd_c60_7 : decide ((tB [60] : ByteArray) = ⟨#[42]⟩) = false := (by decide)
@[go_sem] theorem kd_c60_8 : decide ((tB [60] : ByteArray) = ⟨#[47]⟩) = false := (by decide)
@[go_sem] theorem kd_c61_3 : decide ((tB [61] : ByteArray) = ⟨#[60]⟩) = false := (by decide)
@[go_sem] theorem kd_c61_4 : decide ((tB [61] : ByteArray) = ⟨#[61]⟩) = true := (by decide)
@[go_sem] theorem kd_c61_5 : decide ((tB [61] : ByteArray) = ⟨#[43]⟩) = false := (by decide)
@[go_sem] theorem kd_c61_6 : decide ((tB [61] : ByteArray) = ⟨#[45]⟩) = false := (by decide)
@[go_sem] theorem kd_c61_7 : decide ((tB [61] : ByteArray) = ⟨#[42]⟩) = false := (by decide)
@[go_sem] theorem kd_c61_8 : decide ((tB [61] : ByteArray) = ⟨#[47]⟩) = false := (by decide)
@[go_sem] theorem kd_wAbs_0 : decide ((tB wAbs : ByteArray) = ⟨#[110, 117, 109, 98, 101, 114]⟩) = false := (by decide)
@[go_sem] theorem kd_wAbs_1 : decide ((tB wAbs : ByteArray) = ⟨#[116, 97, 103]⟩) = false := (by decide)
@[go_sem] theorem kd_wAbs_2 : decide ((tB wAbs : ByteArray) = ⟨#[109, 105, 110, 117, 115]⟩) = false := (by decide)
@[go_sem] theorem kd_wAbs_3 : decide ((tB wAbs : ByteArray) = ⟨#[60]⟩) = false := (by decide)
@[go_sem] theorem kd_wAbs_4 : decide ((tB wAbs : ByteArray) = ⟨#[61]⟩) = false := (by decide)
@[go_sem] theorem kd_wAbs_5 : decide ((tB wAbs : ByteArray) = ⟨#[43]⟩) = false := (by decide)
@[go_sem] theorem kd_wAbs_6 : decide ((tB wAbs : ByteArray) = ⟨#[45]⟩) = false := (by decide)
@[go_sem] theorem kd_wAbs_7 : decide ((tB wAbs : ByteArray) = ⟨#[42]⟩) = false := (by decide)
@[go_sem] theorem kd_wAbs_8 : decide ((tB wAbs : ByteArray) = ⟨#[47]⟩) = false := (by decide)
@[go_sem] theorem kd_wGd_0 : decide ((tB wGd : ByteArray) = ⟨#[110, 117, 109, 98, 101, 114]⟩) = false := (by decide)
@[go_sem] theorem kd_wGd_1 : decide ((tB wGd : ByteArray) = ⟨#[116, 97, 103]⟩) = false := (by decide)
@[go_sem] theorem kd_wGd_2 : decide ((tB wGd : ByteArray) = ⟨#[109, 105, 110, 117, 115]⟩) = false := (by decide)
@[go_sem] theorem kd_wGd_3 : decide ((tB wGd : ByteArray) = ⟨#[60]⟩) = false := (by decide)
@[go_sem] theorem kd_wGd_4 : decide ((tB wGd : ByteArray) = ⟨#[61]⟩) = false := (by decide)
@[go_sem] theorem kd_wGd_5 : decide ((tB wGd : ByteArray) = ⟨#[43]⟩) = false := (by decide)
@[go_sem] theorem kd_wGd_6 : decide ((tB wGd : ByteArray) = ⟨#[45]⟩) = false := (by decide)
@[go_sem] theorem kd_wGd_7 : decide ((tB wGd : ByteArray) = ⟨#[42]⟩) = false := (by decide)
@[go_sem] theorem kd_wGd_8 : decide ((tB wGd : ByteArray) = ⟨#[47]⟩) = false := (by decide)
@[go_sem] theorem kd_wMin_0 : decide ((tB wMin : ByteArray) = ⟨#[110, 117, 109, 98, 101, 114]⟩) = false := (by decide)
@[go_sem] theorem kd_wMin_1 : decide ((tB wMin : ByteArray) = ⟨#[116, 97, 103]⟩) = false := (by decide)
@[go_sem] theorem kd_wMin_2 : decide ((tB wMin : ByteArray) = ⟨#[109, 105, 110, 117, 115]⟩) = false := (by decide)
@[go_sem] theorem kd_wMin_3 : decide ((tB wMin : ByteArray) = ⟨#[60]⟩) = false := (by decide)
@[go_sem] theorem kd_wMin_4 : decide ((tB wMin : ByteArray) = ⟨#[61]⟩) = false := (by decide)
@[go_sem] theorem kd_wMin_5 : decide ((tB wMin : ByteArray) = ⟨#[43]⟩) = false := (by decide)
@[go_sem] theorem kd_wMin_6 : decide ((tB wMin : ByteArray) = ⟨#[45]⟩) = false := (by decide)
@[go_sem] theorem kd_wMin_7 : decide ((tB wMin : ByteArray) = ⟨#[42]⟩) = false := (by decide)
@[go_sem] theorem kd_wMin_8 : decide ((tB wMin : ByteArray) = ⟨#[47]⟩) = false := (by decide)
@[go_sem] theorem kd_wMax_0 : decide ((tB wMax : ByteArray) = ⟨#[110, 117, 109, 98, 101, 114]⟩) = false := (by decide)
@[go_sem] theorem kd_wMax_1 : decide ((tB wMax : ByteArray) = ⟨#[116, 97, 103]⟩) = false := (by decide)
@[go_sem] theorem kd_wMax_2 : decide ((tB wMax : ByteArray) = ⟨#[109, 105, 110, 117, 115]⟩) = false := (by decide)
@[go_sem] theorem kd_wMax_3 : decide ((tB wMax : ByteArray) = ⟨#[60]⟩) = false := (by decide)
@[go_sem] theorem kd_wMax_4 : decide ((tB wMax : ByteArray) = ⟨#[61]⟩) = false := (by decide)
@[go_sem] theorem kd_wMax_5 : decide ((tB wMax : ByteArray) = ⟨#[43]⟩) = false := (by decide)
@[go_sem] theorem kd_wMax_6 : decide ((tB wMax : ByteArray) = ⟨#[45]⟩) = false := (by decide)
@[go_sem] theorem kd_wMax_7 : decide ((tB wMax : ByteArray) = ⟨#[42]⟩) = false := (by decide)
@[go_sem] theorem kd_wMax_8 : decide ((tB wMax : ByteArray) = ⟨#[47]⟩) = false := (by decide)
@[go_sem] theorem kd_wIf_0 : decide ((tB wIf : ByteArray) = ⟨#[110, 117, 109, 98, 101, 114]⟩) = false := (by decide)
@[go_sem] theorem kd_wIf_1 : decide ((tB wIf : ByteArray) = ⟨#[116, 97, 103]⟩) = false := (by decide)
@[go_sem] theorem kd_wIf_2 : decide ((tB wIf : ByteArray) = ⟨#[109, 105, 110, 117, 115]⟩) = false := (by decide)
@[go_sem] theorem kd_wIf_3 : decide ((tB wIf : ByteArray) = ⟨#[60]⟩) = false := (by decide)
@[go_sem] theorem kd_wIf_4 : decide ((tB wIf : ByteArray) = ⟨#[61]⟩) = false := (by decide)
@[go_sem] theorem kd_wIf_5 : decide ((tB wIf : ByteArray) = ⟨#[43]⟩) = false := (by decide)
@[go_sem] theorem kd_wIf_6 : decide ((tB wIf : ByteArray) = ⟨#[45]⟩) = false := (by decide)
@[go_sem] theorem kd_wIf_7 : decide ((tB wIf : ByteArray) = ⟨#[42]⟩) = false := (by decide)
@[go_sem] theorem kd_wIf_8 : decide ((tB wIf : ByteArray) = ⟨#[47]⟩) = false := (by decide)
theorem fn1 {f : List UInt8} (h : fnN f = 1) : f = wAbs ∨ f = wGd := by
  unfold fnN at h
  split at h
  · assumption
  · split at h
    · omega
    · split at h <;> omega
theorem fn2 {f : List UInt8} (h : fnN f = 2) : f = wMin ∨ f = wMax := by
  unfold fnN at h
  split at h
  · omega
  · split at h
    · assumption
    · split at h <;> omega
theorem fn3 {f : List UInt8} (h : fnN f = 3) : f = wIf := by
  unfold fnN at h
  split at h
  · omega
  · split at h
    · omega
    · split at h
      · assumption
      · omega
theorem strength_a {H : Hp} {K : AV → Hp → Prop} : ∀ (e : Ex), ExOk e → K (.c (.int .i64 (stE e))) H → ACalls Tryz.prog 187 [.c (.fp (encNd e))] H K
  | .num n, he, hk => by
    unfold encNd
    refine acalls Tryz.func187 rfl (by kernel_rfl) (by simp (disch := first | omega | (simp only [go_sem]; first | done | omega)) only [go_sem]) (fun hH => ?_)
    simp (disch := first | omega | (simp only [go_sem]; first | done | omega)) only [go_sem]
    exact Ret.same (Nat.le_refl _) hk
  | .tag x none, he, hk => by
    unfold encNd
    refine acalls Tryz.func187 rfl (by kernel_rfl) (by simp (disch := first | omega | (simp only [go_sem]; first | done | omega)) only [go_sem]) (fun hH => ?_)
    simp (disch := first | omega | (simp only [go_sem]; first | done | omega)) only [go_sem]
    exact Ret.same (Nat.le_refl _) hk
  | .tag x (some n), he, hk => by
    unfold encNd
    refine acalls Tryz.func187 rfl (by kernel_rfl) (by simp (disch := first | omega | (simp only [go_sem]; first | done | omega)) only [go_sem]) (fun hH => ?_)
    simp (disch := first | omega | (simp only [go_sem]; first | done | omega)) only [go_sem]
    exact Ret.same (Nat.le_refl _) hk
  | .neg a, he, hk => by
    unfold encNd
    refine acalls Tryz.func187 rfl (by kernel_rfl) (by simp (disch := first | omega | (simp only [go_sem]; first | done | omega)) only [go_sem]) (fun hH => ?_)
    simp (disch := first | omega | (simp only [go_sem]; first | done | omega)) only [go_sem]
    exact Ret.same (Nat.le_refl _) hk
  | .bin c a b, he, hk => by
    unfold encNd
    obtain ⟨h1, _, _⟩ := he
    simp only [ops6, List.mem_cons, List.not_mem_nil, or_false] at h1
    rcases h1 with rfl | rfl | rfl | rfl | rfl | rfl <;>
    · refine acalls Tryz.func187 rfl (by kernel_rfl) (by simp (disch := first | omega | (simp only [go_sem]; first | done | omega)) only [go_sem]) (fun hH => ?_)
      simp (disch := first | omega | (simp only [go_sem]; first | done | omega)) only [go_sem]
      exact Ret.same (Nat.le_refl _) hk
  | .f1 f a, he, hk => by
    unfold encNd
    rcases fn1 he.1 with rfl | rfl <;>
    · refine acalls Tryz.func187 rfl (by kernel_rfl) (by simp (disch := first | omega | (simp only [go_sem]; first | done | omega)) only [go_sem]) (fun hH => ?_)
      simp (disch := first | omega | (simp only [go_sem]; first | done | omega)) only [go_sem]
      exact Ret.same (Nat.le_refl _) hk
  | .f2 f a b, he, hk => by
    unfold encNd
    rcases fn2 he.1 with rfl | rfl <;>
    · refine acalls Tryz.func187 rfl (by kernel_rfl) (by simp (disch := first | omega | (simp only [go_sem]; first | done | omega)) only [go_sem]) (fun hH => ?_)
      simp (disch := first | omega | (simp only [go_sem]; first | done | omega)) only [go_sem]
      exact Ret.same (Nat.le_refl _) hk
  | .f3 f a b c, he, hk => by
    unfold encNd
    obtain rfl := fn3 he.1
    refine acalls Tryz.func187 rfl (by kernel_rfl) (by simp (disch := first | omega | (simp only [go_sem]; first | done | omega)) only [go_sem]) (fun hH => ?_)
    simp (disch := first | omega | (simp only [go_sem]; first | done | omega)) only [go_sem]
    exact Ret.same (Nat.le_refl _) hk
theorem aIf_str {a b : ByteArray} {x y z : List UInt8} {H : Hp} {J : AV → Hp → Prop} (hx : a = tB x) (hy : b = tB y) (hz : z = x ++ y) (hl : x.length + y.length ≤ 1000000) (h : J (.c (.str (tB z))) H) : aIf (a.size + b.size ≤ 9223372036854775807) (.c (.str (a ++ b))) H J := by
  subst hx hy hz
  refine ⟨?_, by rw [app_tB]; exact h⟩
  rw [tB_size, tB_size]
  omega
theorem fmtF_top {e : Ex} {n : Nat} (h : n ≤ stE e) : fmtF e n = fmtB e := by
  unfold fmtF parB
  rw [if_neg (by simp; omega)]
theorem stE_pos (e : Ex) : 1 ≤ stE e := by
  cases e <;> simp only [stE] <;> try omega
  unfold stC
  repeat' split
  all_goals omega
theorem fn_kind {f : List UInt8} (h : 0 < fnN f) : decide (tB f = ⟨#[110, 117, 109, 98, 101, 114]⟩) = false ∧ decide (tB f = ⟨#[116, 97, 103]⟩) = false ∧ decide (tB f = ⟨#[109, 105, 110, 117, 115]⟩) = false := by
  have : f = wAbs ∨ f = wGd ∨ f = wMin ∨ f = wMax ∨ f = wIf := by
    unfold fnN at h
    repeat' split at h
    all_goals first | omega | (rename_i g; grind)
  rcases this with rfl | rfl | rfl | rfl | rfl <;> exact ⟨by decide, by decide, by decide⟩
theorem op_kind {c : UInt8} (h : c ∈ ops6) : (decide (tB [c] = ⟨#[110, 117, 109, 98, 101, 114]⟩) = false ∧ decide (tB [c] = ⟨#[116, 97, 103]⟩) = false ∧ decide (tB [c] = ⟨#[109, 105, 110, 117, 115]⟩) = false) ∧ fnN [c] = 0 := by
  simp only [ops6, List.mem_cons, List.not_mem_nil, or_false] at h
  rcases h with rfl | rfl | rfl | rfl | rfl | rfl <;> exact ⟨⟨by decide, by decide, by decide⟩, by decide⟩
theorem stC_3 {c : UInt8} (h : c ∈ ops6) : 1 ≤ stC c ∧ stC c ≤ 3 := by
  simp only [ops6, List.mem_cons, List.not_mem_nil, or_false] at h
  rcases h with rfl | rfl | rfl | rfl | rfl | rfl <;> decide
theorem fmtF_len (e : Ex) (n : Nat) (he : ExOk e) : (fmtF e n).length ≤ 60 * szE e + 2 := by
  have h1 := fmt_len e he
  have h2 := parB_len (decide (stE e < n)) (fmtB e)
  unfold fmtF
  omega
theorem join1_a {H : Hp} {K : AV → Hp → Prop} (x sep : ByteArray) (hk : K (.c (.str x)) H) : ACalls Tryz.prog 164 [.c (.lst 1 [[.str x]]), (.c (.str sep))] H K := by
  refine acalls Tryz.func164 rfl (by kernel_rfl) (by simp (disch := first | omega | (simp only [go_sem]; first | done | omega)) only [go_sem]) (fun hH => ?_)
  simp (disch := first | omega | (simp only [go_sem]; first | done | omega)) only [go_sem]
  exact Ret.same (Nat.le_refl _) hk
theorem fmt_pos : ∀ e : Ex, ExOk e → 0 < (fmtB e).length
  | .num n, h => itoa_pos n
  | .tag x none, h => List.length_pos_iff.2 h.1.1
  | .tag x (some n), h => by simp only [fmtB, List.length_append, List.length_cons]; omega
  | .neg a, h => by simp only [fmtB, List.length_cons]; omega
  | .bin c a b, h => by simp only [fmtB, List.length_append, List.length_cons]; omega
  | .f1 f a, h => by simp only [fmtB, List.length_append, List.length_cons]; omega
  | .f2 f a b, h => by simp only [fmtB, List.length_append, List.length_cons]; omega
  | .f3 f a b c, h => by simp only [fmtB, List.length_append, List.length_cons]; omega
theorem appTx {i q ty : Nat} {own : Bool} {H : Hp} {J : AV → Hp → Prop} (l : List (List UInt8)) (x : List UInt8) (l2 : List (List UInt8)) (e : l2 = l ++ [x]) (hi : H[i]? = some (grO 9 1 (l.map encTx))) (hj : H[q]? = some (.row ty 1 [[.str (tB x)]] own)) (hb : l.length ≤ 1000000000)
    (h : J (.c (grV H.length l2)) (H.set i .dead ++ [grO 9 1 (l2.map encTx)])) : aBuiltin Tryz.prog .append #[70, 70] [.c (grV i l), .c (.sl (some (q, 0)) 1)] H J := by
  subst e
  exact app_grR (enc := encTx) (e := 9) (sz := 1) (bs := 16) (z := [.str .empty]) l [x] (by kernel_rfl) (by kernel_rfl) (by kernel_rfl) (by kernel_rfl) hi (by rw [hj]; rfl) (by simp) rfl (by decide) (by simp; omega) (by simp; omega) h
theorem joinL_len (sep : List UInt8) (m : Nat) (x : List UInt8) : ∀ (t : List (List UInt8)), (∀ y ∈ x :: t, y.length ≤ m) → (joinL sep (x :: t)).length ≤ m + t.length * (sep.length + m)
  | [], h => by simpa [joinL] using h x (by simp)
  | y :: t, h => by
    have ih := joinL_len sep m x t (fun z hz => h z (by rcases List.mem_cons.1 hz with hz | hz <;> simp [hz]))
    have hy := h y (by simp)
    simp only [joinL, List.length_append, List.flatMap_cons, List.length_cons, Nat.add_mul] at ih ⊢
    omega
theorem joinG_a {H : Hp} {K : AV → Hp → Prop} (M : List (List UInt8)) (hM : 1 ≤ M.length ∧ M.length ≤ 1000) (hy : ∀ y ∈ M, 0 < y.length ∧ y.length ≤ 40000) (hk : K (.c (.str (tB (joinL [44, 32] M)))) H) : ACalls Tryz.prog 164 [.c (.lst 1 (M.map encTx)), (.c (.str (⟨#[44, 32]⟩)))] H K := by
  match M, hM with
  | [], h => exact absurd h.1 (by simp)
  | [x], _ =>
    refine join1_a (tB x) _ ?_
    simpa [joinL] using hk
  | x :: y :: t, h =>
    exact join2_a x (y :: t) (by simp only [List.length_cons] at h ⊢; omega) (hy x (by simp)) (fun z hz => hy z (List.mem_cons_of_mem _ hz)) hk
theorem formatF_a {H : Hp} {K : AV → Hp → Prop} (f : List UInt8) (L : List Ex) (n : Nat) (hf : fnN f = L.length) (hL : 1 ≤ L.length ∧ L.length ≤ 3) (hl : ∀ x ∈ L, 0 < (fmtB x).length ∧ (fmtB x).length ≤ 40000)
    (ih : ∀ x ∈ L, ∀ {H : Hp} {K : AV → Hp → Prop}, K (.c (.str (tB (fmtB x)))) H → ACalls Tryz.prog 112 [.c (.fp (encNd x)), (.c (.int .i64 1))] H K)
    (hk : K (.c (.str (tB (f ++ 40 :: (joinL [44, 32] (L.map fmtB) ++ [41]))))) H) : ACalls Tryz.prog 112 [.c (.fp [.str (tB f), .int .i64 0, .str ⟨#[]⟩, .lst 1 (L.map fun x => [.fp (encNd x)]), .bool false]), (.c (.int .i64 n))] H K := by
  obtain ⟨k1, k2, k3⟩ := fn_kind (f := f) (by omega)
  have hfl := fn_len (f := f) (by omega)
  have hml : (L.map fun x => [AC.fp (encNd x)]).length = L.length := List.length_map ..
  have hge : ∀ (k : Nat) (h : k < L.length) (h' : k < (L.map fun x => [AC.fp (encNd x)]).length), (L.map fun x => [AC.fp (encNd x)])[k]'h' = [.fp (encNd L[k])] := fun k h h' => List.getElem_map ..
  have hpos : (0 : Int) < (fnN f : Int) := by omega
  have hjl : (joinL [44, 32] (L.map fmtB)).length ≤ 500000 := by
    obtain ⟨M, hM⟩ : ∃ M, M = L.map fmtB := ⟨_, rfl⟩
    have h1 : M.length = L.length := by rw [hM, List.length_map]
    have h2 : ∀ y ∈ M, y.length ≤ 40000 := fun y hy => by
      rw [hM] at hy
      obtain ⟨x, hx, rfl⟩ := List.mem_map.1 hy
      exact (hl x hx).2
    rw [← hM]
    match M, h1, h2 with
    | [], h1, h2 => simp [joinL]
    | x :: t, h1, h2 =>
      have := joinL_len [44, 32] 40000 x t h2
      simp only [List.length_cons, List.length_nil] at this h1
      omega
  refine acalls Tryz.func112 rfl (by kernel_rfl) (by simp (disch := first | omega | (simp only [go_sem]; first | done | omega)) only [go_sem]) (fun hH => ?_)
  simp (disch := first | omega | (simp only [go_sem]; first | done | omega)) only [go_sem, k1, k2, k3]
  refine operands_a f ?_
  simp (disch := first | omega | (simp only [go_sem]; first | done | omega)) only [go_sem, hpos, hml]
  refine AWp.loop (H.length) [0, 105, 106] [6, 107] (fun (k : Nat) => k ≤ L.length) (fun (k : Nat) => [(6, .c (grV H.length ((L.take k).map fmtB))), (107, (.c (.int .i64 k)))]) (fun (k : Nat) => H ++ [grO 9 1 (((L.take k).map fmtB).map encTx)]) (fun (k : Nat) => L.length - k) (by kernel_rfl) (fun _ => rfl) (by kernel_rfl) (by first | (simp; done) | omega) (by first | (simp; done) | (simp; omega) | omega) kl ?_ (fun k q _ _ => ?_)
  · refine Next.mk 0 (Nat.zero_le _) ?_
    exact WkL.pad (by omega)
  by_cases hlt : k < L.length
  · have hnx : (L.take (k + 1)).map fmtB = (L.take k).map fmtB ++ [fmtB L[k]] := by rw [List.take_succ_eq_append_getElem hlt, List.map_append]; rfl
    have hnl : ((L.take k).map fmtB).length ≤ 1000 := by rw [List.length_map, List.length_take]; omega
    generalize (L.take k).map fmtB = M at *
    simp (disch := first | omega | (simp only [go_sem]; first | done | omega)) only [go_sem, hlt, hml, hge k hlt]
    refine ih L[k] (List.getElem_mem hlt) ?_
    simp (disch := first | omega | (simp only [go_sem]; first | done | omega)) only [go_sem]
    refine appTx M (fmtB L[k]) _ hnx (by first | ((repeat first | exact at0 (by simp) | refine atS ?_); done) | assumption) (by first | ((repeat first | exact at0 (by simp) | refine atS ?_); done) | assumption) (by omega) ?_
    simp (disch := first | omega | (simp only [go_sem]; first | done | omega)) only [go_sem]
    refine Next.mk (k + 1) ⟨by omega, by omega⟩ ?_
    exact ow
  · have hkl : k = L.length := by omega
    subst hkl
    rw [List.take_length]
    simp (disch := first | omega | (simp only [go_sem]; first | done | omega)) only [go_sem, hml]
    have hjoin : ∀ {H' : Hp} {K' : AV → Hp → Prop} {i : Nat}, H'[i]? = some (grO 9 1 ((L.map fmtB).map encTx)) → K' (.c (.str (tB (joinL [44, 32] (L.map fmtB))))) (H'.set i .dead) → ACalls Tryz.prog 164 [.c (grV i (L.map fmtB)), (.c (.str (⟨#[44, 32]⟩)))] H' K' := fun hi hk' => by
      refine ACalls.litGr hi (by simp) (pureL_map _ (fun x => by simp [go_sem, AC.pure])) rfl ?_
      refine joinG_a (L.map fmtB) (by rw [List.length_map]; omega) (fun y hy => ?_) hk'
      obtain ⟨x, hx, rfl⟩ := List.mem_map.1 hy
      exact hl x hx
    refine w_tree (.one 0 (.one 1 (.one 2 (.one 5 (.two 3 (.one 4 (.one 6 (.one 7 (.one 8 (.one 9 .done))))) 6 (.one 3 (.one 4 (.one 7 (.one 8 (.one 9 .done)))))))))) (by kernel_rfl) (by decide +kernel) ?_
    simp (disch := first | omega | (simp only [go_sem]; first | done | omega)) only [go_sem]
    refine ⟨?_, ?_⟩
    · (refine aIf_str rfl rfl rfl (by simp only [List.length_append, List.length_cons, List.length_nil]; omega) ?_)
      simp (disch := first | omega | (simp only [go_sem]; first | done | omega)) only [go_sem]
      refine hjoin (by first | ((repeat first | exact at0 (by simp) | refine atS ?_); done) | assumption) ?_
      simp (disch := first | omega | (simp only [go_sem]; first | done | omega)) only [go_sem]
      (refine aIf_str rfl rfl rfl (by simp only [List.length_append, List.length_cons, List.length_nil]; omega) ?_)
      simp (disch := first | omega | (simp only [go_sem]; first | done | omega)) only [go_sem]
      (refine aIf_str rfl rfl rfl (by simp only [List.length_append, List.length_cons, List.length_nil]; omega) ?_)
      simp (disch := first | omega | (simp only [go_sem]; first | done | omega)) only [go_sem]
      exact Ret.drop hH (Nat.le_refl _) trivial hk
    · refine hjoin (by first | ((repeat first | exact at0 (by simp) | refine atS ?_); done) | assumption) ?_
      simp (disch := first | omega | (simp only [go_sem]; first | done | omega)) only [go_sem]
      (refine aIf_str rfl rfl rfl (by simp only [List.length_append, List.length_cons, List.length_nil]; omega) ?_)
      simp (disch := first | omega | (simp only [go_sem]; first | done | omega)) only [go_sem]
      (refine aIf_str rfl rfl rfl (by simp only [List.length_append, List.length_cons, List.length_nil]; omega) ?_)
      simp (disch := first | omega | (simp only [go_sem]; first | done | omega)) only [go_sem]
      (refine aIf_str rfl rfl rfl (by simp only [List.length_append, List.length_cons, List.length_nil]; omega) ?_)
      simp (disch := first | omega | (simp only [go_sem]; first | done | omega)) only [go_sem]
      exact Ret.drop hH (Nat.le_refl _) trivial hk
theorem kids1 (f a) : encNd (.f1 f a) = [.str (tB f), .int .i64 0, .str ⟨#[]⟩, .lst 1 ([a].map fun x => [.fp (encNd x)]), .bool false] := by rw [encNd]; rfl
theorem kids2 (f a b) : encNd (.f2 f a b) = [.str (tB f), .int .i64 0, .str ⟨#[]⟩, .lst 1 ([a, b].map fun x => [.fp (encNd x)]), .bool false] := by rw [encNd]; rfl
theorem kids3 (f a b c) : encNd (.f3 f a b c) = [.str (tB f), .int .i64 0, .str ⟨#[]⟩, .lst 1 ([a, b, c].map fun x => [.fp (encNd x)]), .bool false] := by rw [encNd]; rfl
theorem format_a : ∀ (N : Nat) (e : Ex) (n : Nat) {H : Hp} {K : AV → Hp → Prop}, szE e ≤ N → N ≤ 501 → ExOk e → 1 ≤ n ∧ n ≤ 4 → K (.c (.str (tB (fmtF e n)))) H → ACalls Tryz.prog 112 [.c (.fp (encNd e)), (.c (.int .i64 n))] H K
  | 0, e, n, H, K, hs, hN, he, hn, hk => by have := (hgt_sz e); omega
  | N + 1, .num v, n, H, K, hs, hN, he, hn, hk => by
    have h9 : 0 ≤ v ∧ v ≤ 999999999 := he
    rw [fmtF_top (by simpa [stE] using hn.2)] at hk
    unfold encNd
    refine acalls Tryz.func112 rfl (by kernel_rfl) (by simp (disch := first | omega | (simp only [go_sem]; first | done | omega)) only [go_sem]) (fun hH => ?_)
    simp (disch := first | omega | (simp only [go_sem]; first | done | omega)) only [go_sem]
    refine itoa_a v (by omega) (by omega) ?_
    simp (disch := first | omega | (simp only [go_sem]; first | done | omega)) only [go_sem]
    exact Ret.same (Nat.le_refl _) hk
  | N + 1, .tag x none, n, H, K, hs, hN, he, hn, hk => by
    rw [fmtF_top (by simpa [stE] using hn.2)] at hk
    unfold encNd
    refine acalls Tryz.func112 rfl (by kernel_rfl) (by simp (disch := first | omega | (simp only [go_sem]; first | done | omega)) only [go_sem]) (fun hH => ?_)
    simp (disch := first | omega | (simp only [go_sem]; first | done | omega)) only [go_sem]
    exact Ret.same (Nat.le_refl _) hk
  | N + 1, .tag x (some v), n, H, K, hs, hN, he, hn, hk => by
    have h9 := he.2 v rfl
    have hx := he.1.2.1
    have hv := itoa_9 (n := v) (by omega)
    rw [fmtF_top (by simpa [stE] using hn.2)] at hk
    unfold encNd
    refine acalls Tryz.func112 rfl (by kernel_rfl) (by simp (disch := first | omega | (simp only [go_sem]; first | done | omega)) only [go_sem]) (fun hH => ?_)
    simp (disch := first | omega | (simp only [go_sem]; first | done | omega)) only [go_sem]
    refine w_tree (.one 0 (.one 1 (.one 2 (.one 5 (.one 6 (.one 7 (.one 8 (.two 3 (.one 4 (.one 9 (.one 10 (.one 11 .done)))) 9 (.one 3 (.one 4 (.one 10 (.one 11 .done)))))))))))) (by kernel_rfl) (by decide +kernel) ?_
    simp (disch := first | omega | (simp only [go_sem]; first | done | omega)) only [go_sem]
    refine ⟨?_, ?_⟩
    · (refine aIf_str rfl rfl rfl (by simp only [List.length_append, List.length_cons, List.length_nil]; omega) ?_)
      simp (disch := first | omega | (simp only [go_sem]; first | done | omega)) only [go_sem]
      refine itoa_a v (by omega) (by omega) ?_
      simp (disch := first | omega | (simp only [go_sem]; first | done | omega)) only [go_sem]
      rw [show (⟨(Lib.itoa v).toArray⟩ : ByteArray) = tB (Lib.itoa v) from rfl]
      (refine aIf_str rfl rfl rfl (by simp only [List.length_append, List.length_cons, List.length_nil]; omega) ?_)
      simp (disch := first | omega | (simp only [go_sem]; first | done | omega)) only [go_sem]
      exact Ret.same (Nat.le_refl _) hk
    · refine itoa_a v (by omega) (by omega) ?_
      simp (disch := first | omega | (simp only [go_sem]; first | done | omega)) only [go_sem]
      rw [show (⟨(Lib.itoa v).toArray⟩ : ByteArray) = tB (Lib.itoa v) from rfl]
      (refine aIf_str rfl rfl rfl (by simp only [List.length_append, List.length_cons, List.length_nil]; omega) ?_)
      simp (disch := first | omega | (simp only [go_sem]; first | done | omega)) only [go_sem]
      (refine aIf_str rfl rfl rfl (by simp only [List.length_append, List.length_cons, List.length_nil]; omega) ?_)
      simp (disch := first | omega | (simp only [go_sem]; first | done | omega)) only [go_sem]
      exact Ret.same (Nat.le_refl _) hk
  | N + 1, .neg a, n, H, K, hs, hN, he, hn, hk => by
    simp only [szE] at hs
    rw [fmtF_top (by simpa [stE] using hn.2)] at hk
    have hl := fmtF_len a 4 he
    unfold encNd
    refine acalls Tryz.func112 rfl (by kernel_rfl) (by simp (disch := first | omega | (simp only [go_sem]; first | done | omega)) only [go_sem]) (fun hH => ?_)
    simp (disch := first | omega | (simp only [go_sem]; first | done | omega)) only [go_sem]
    refine format_a N a 4 (by omega) (by omega) he (by omega) ?_
    simp (disch := first | omega | (simp only [go_sem]; first | done | omega)) only [go_sem]
    (refine aIf_str rfl rfl rfl (by simp only [List.length_append, List.length_cons, List.length_nil]; omega) ?_)
    simp (disch := first | omega | (simp only [go_sem]; first | done | omega)) only [go_sem]
    exact Ret.same (Nat.le_refl _) hk
  | N + 1, .f1 f a, n, H, K, hs, hN, he, hn, hk => by
    simp only [szE] at hs
    rw [fmtF_top (by simpa [stE] using hn.2)] at hk
    rw [kids1]
    refine formatF_a f [a] n he.1 (by simp) (fun x hx => ?_) (fun x hx => ?_) (by simpa [joinL, fmtB] using hk)
    · rw [List.mem_singleton.1 hx]
      exact ⟨fmt_pos a he.2, by have := fmt_len a he.2; omega⟩
    · rw [List.mem_singleton.1 hx]
      intro H K hk
      rw [← fmtF_top (n := 1) (stE_pos a)] at hk
      exact format_a N a 1 (by omega) (by omega) he.2 (by omega) hk
  | N + 1, .f2 f a b, n, H, K, hs, hN, he, hn, hk => by
    simp only [szE] at hs
    rw [fmtF_top (by simpa [stE] using hn.2)] at hk
    rw [kids2]
    refine formatF_a f [a, b] n he.1 (by simp) (fun x hx => ?_) (fun x hx => ?_) (by simpa [joinL, fmtB] using hk)
    · simp only [List.mem_cons, List.not_mem_nil, or_false] at hx
      rcases hx with rfl | rfl
      · exact ⟨fmt_pos _ he.2.1, by have := fmt_len _ he.2.1; omega⟩
      · exact ⟨fmt_pos _ he.2.2, by have := fmt_len _ he.2.2; omega⟩
    · simp only [List.mem_cons, List.not_mem_nil, or_false] at hx
      rcases hx with rfl | rfl
      · intro H K hk
        rw [← fmtF_top (n := 1) (stE_pos _)] at hk
        exact format_a N _ 1 (by omega) (by omega) he.2.1 (by omega) hk
      · intro H K hk
        rw [← fmtF_top (n := 1) (stE_pos _)] at hk
        exact format_a N _ 1 (by omega) (by omega) he.2.2 (by omega) hk
  | N + 1, .f3 f a b c, n, H, K, hs, hN, he, hn, hk => by
    simp only [szE] at hs
    rw [fmtF_top (by simpa [stE] using hn.2)] at hk
    rw [kids3]
    refine formatF_a f [a, b, c] n he.1 (by simp) (fun x hx => ?_) (fun x hx => ?_) (by simpa [joinL, fmtB] using hk)
    · simp only [List.mem_cons, List.not_mem_nil, or_false] at hx
      rcases hx with rfl | rfl | rfl
      · exact ⟨fmt_pos _ he.2.1, by have := fmt_len _ he.2.1; omega⟩
      · exact ⟨fmt_pos _ he.2.2.1, by have := fmt_len _ he.2.2.1; omega⟩
      · exact ⟨fmt_pos _ he.2.2.2, by have := fmt_len _ he.2.2.2; omega⟩
    · simp only [List.mem_cons, List.not_mem_nil, or_false] at hx
      rcases hx with rfl | rfl | rfl
      · intro H K hk
        rw [← fmtF_top (n := 1) (stE_pos _)] at hk
        exact format_a N _ 1 (by omega) (by omega) he.2.1 (by omega) hk
      · intro H K hk
        rw [← fmtF_top (n := 1) (stE_pos _)] at hk
        exact format_a N _ 1 (by omega) (by omega) he.2.2.1 (by omega) hk
      · intro H K hk
        rw [← fmtF_top (n := 1) (stE_pos _)] at hk
        exact format_a N _ 1 (by omega) (by omega) he.2.2.2 (by omega) hk
  | N + 1, .bin c a b, n, H, K, hs, hN, he, hn, hk => by
    simp only [szE] at hs
    obtain ⟨⟨k1, k2, k3⟩, k4⟩ := op_kind (c := c) he.1
    have hst : ∀ {H : Hp} {K : AV → Hp → Prop}, K (.c (.int .i64 (stC c))) H → ACalls Tryz.prog 187 [.c (.fp (encNd (.bin c a b)))] H K := fun hk => strength_a (.bin c a b) he hk
    unfold encNd at hst ⊢
    refine acalls Tryz.func112 rfl (by kernel_rfl) (by simp (disch := first | omega | (simp only [go_sem]; first | done | omega)) only [go_sem]) (fun hH => ?_)
    simp (disch := first | omega | (simp only [go_sem]; first | done | omega)) only [go_sem, k1, k2, k3]
    refine operands_a [c] ?_
    rw [k4]
    simp (disch := first | omega | (simp only [go_sem]; first | done | omega)) only [go_sem]
    refine hst ?_
    have hc := stC_3 he.1
    have hla := fun n => fmtF_len a n he.2.1
    have hlb := fun n => fmtF_len b n he.2.2
    have hfin : ∀ z, z = fmtB (.bin c a b) → K (.c (.str (tB (if stC c < n then 40 :: (z ++ [41]) else z)))) H := fun z hz => by
      subst hz
      unfold fmtF parB at hk
      by_cases h : stC c < n
      · rw [if_pos (show decide (stE (.bin c a b) < n) = true from decide_eq_true h)] at hk
        rw [if_pos h]
        exact hk
      · rw [if_neg (show ¬ decide (stE (.bin c a b) < n) = true from fun e => h (of_decide_eq_true e))] at hk
        rw [if_neg h]
        exact hk
    have hsa := fun {H : Hp} {K : AV → Hp → Prop} (m : Nat) (hm : 1 ≤ m ∧ m ≤ 4) (hk : K (.c (.str (tB (fmtF a m)))) H) => format_a N a m (by omega) (by omega) he.2.1 hm hk
    have hsb := fun {H : Hp} {K : AV → Hp → Prop} (m : Nat) (hm : 1 ≤ m ∧ m ≤ 4) (hk : K (.c (.str (tB (fmtF b m)))) H) => format_a N b m (by omega) (by omega) he.2.2 hm hk
    clear format_a hk
    by_cases h1 : stC c = 1
    · have hb : fmtB (.bin c a b) = fmtF a 2 ++ (32 :: c :: 32 :: fmtF b 2) := by
        rw [fmtB, h1]
        rfl
      rw [hb] at hfin
      rw [h1] at hst hfin ⊢
      have ha2 := hla 2
      have hb2 := hlb 2
      by_cases h2 : 1 < n
      · have hk := hfin _ rfl
        rw [if_pos h2] at hk
        simp (disch := first | omega | (simp only [go_sem]; first | done | omega)) only [go_sem]
        refine w_tree (.one 0 (.one 1 (.one 2 (.one 3 (.one 4 (.one 5 (.one 8 (.one 9 (.one 10 (.one 14 (.one 15 (.one 16 (.three 6 (.one 7 (.one 17 (.one 18 (.one 19 (.two 11 (.one 12 (.one 13 (.one 20 (.one 21 (.one 22 .done))))) 20 (.one 11 (.one 12 (.one 13 (.one 21 (.one 22 .done)))))))))) 11 (.two 6 (.one 7 (.one 12 (.one 13 (.one 17 (.one 18 (.one 19 (.one 20 (.one 21 (.one 22 .done))))))))) 17 (.two 6 (.one 7 (.one 12 (.one 13 (.one 18 (.one 19 (.one 20 (.one 21 (.one 22 .done)))))))) 18 (.two 6 (.one 7 (.one 12 (.one 13 (.one 19 (.one 20 (.one 21 (.one 22 .done))))))) 19 (.one 6 (.one 7 (.one 12 (.one 13 (.one 20 (.one 21 (.one 22 .done)))))))))) 17 (.three 6 (.one 7 (.one 18 (.one 19 (.two 11 (.one 12 (.one 13 (.one 20 (.one 21 (.one 22 .done))))) 20 (.one 11 (.one 12 (.one 13 (.one 21 (.one 22 .done))))))))) 11 (.two 6 (.one 7 (.one 12 (.one 13 (.one 18 (.one 19 (.one 20 (.one 21 (.one 22 .done)))))))) 18 (.two 6 (.one 7 (.one 12 (.one 13 (.one 19 (.one 20 (.one 21 (.one 22 .done))))))) 19 (.one 6 (.one 7 (.one 12 (.one 13 (.one 20 (.one 21 (.one 22 .done))))))))) 18 (.three 6 (.one 7 (.one 19 (.two 11 (.one 12 (.one 13 (.one 20 (.one 21 (.one 22 .done))))) 20 (.one 11 (.one 12 (.one 13 (.one 21 (.one 22 .done)))))))) 11 (.two 6 (.one 7 (.one 12 (.one 13 (.one 19 (.one 20 (.one 21 (.one 22 .done))))))) 19 (.one 6 (.one 7 (.one 12 (.one 13 (.one 20 (.one 21 (.one 22 .done)))))))) 19 (.two 6 (.one 7 (.two 11 (.one 12 (.one 13 (.one 20 (.one 21 (.one 22 .done))))) 20 (.one 11 (.one 12 (.one 13 (.one 21 (.one 22 .done))))))) 11 (.one 6 (.one 7 (.one 12 (.one 13 (.one 20 (.one 21 (.one 22 .done))))))))))))))))))))))) (by kernel_rfl) (by decide +kernel) ?_
        simp (disch := first | omega | (simp only [go_sem]; first | done | omega)) only [go_sem]
        repeat' first | ((refine aIf_str rfl rfl rfl (by simp only [List.length_append, List.length_cons, List.length_nil]; omega) ?_); simp (disch := first | omega | (simp only [go_sem]; first | done | omega)) only [go_sem]) | (refine hsa 2 (by omega) ?_; simp (disch := first | omega | (simp only [go_sem]; first | done | omega)) only [go_sem]) | (refine hsb 2 (by omega) ?_; simp (disch := first | omega | (simp only [go_sem]; first | done | omega)) only [go_sem]) | (refine hst ?_; simp (disch := first | omega | (simp only [go_sem]; first | done | omega)) only [go_sem, h2]) | (exact Ret.same (Nat.le_refl _) (by simpa using hk)) | apply And.intro
      · have hk := hfin _ rfl
        rw [if_neg h2] at hk
        simp (disch := first | omega | (simp only [go_sem]; first | done | omega)) only [go_sem]
        refine w_tree (.one 0 (.one 1 (.one 2 (.one 3 (.one 4 (.one 5 (.one 8 (.one 9 (.one 10 (.one 14 (.one 15 (.one 16 (.three 6 (.one 7 (.one 17 (.one 18 (.one 19 (.two 11 (.one 12 (.one 13 (.one 20 (.one 21 (.one 22 .done))))) 20 (.one 11 (.one 12 (.one 13 (.one 21 (.one 22 .done)))))))))) 11 (.two 6 (.one 7 (.one 12 (.one 13 (.one 17 (.one 18 (.one 19 (.one 20 (.one 21 (.one 22 .done))))))))) 17 (.two 6 (.one 7 (.one 12 (.one 13 (.one 18 (.one 19 (.one 20 (.one 21 (.one 22 .done)))))))) 18 (.two 6 (.one 7 (.one 12 (.one 13 (.one 19 (.one 20 (.one 21 (.one 22 .done))))))) 19 (.one 6 (.one 7 (.one 12 (.one 13 (.one 20 (.one 21 (.one 22 .done)))))))))) 17 (.three 6 (.one 7 (.one 18 (.one 19 (.two 11 (.one 12 (.one 13 (.one 20 (.one 21 (.one 22 .done))))) 20 (.one 11 (.one 12 (.one 13 (.one 21 (.one 22 .done))))))))) 11 (.two 6 (.one 7 (.one 12 (.one 13 (.one 18 (.one 19 (.one 20 (.one 21 (.one 22 .done)))))))) 18 (.two 6 (.one 7 (.one 12 (.one 13 (.one 19 (.one 20 (.one 21 (.one 22 .done))))))) 19 (.one 6 (.one 7 (.one 12 (.one 13 (.one 20 (.one 21 (.one 22 .done))))))))) 18 (.three 6 (.one 7 (.one 19 (.two 11 (.one 12 (.one 13 (.one 20 (.one 21 (.one 22 .done))))) 20 (.one 11 (.one 12 (.one 13 (.one 21 (.one 22 .done)))))))) 11 (.two 6 (.one 7 (.one 12 (.one 13 (.one 19 (.one 20 (.one 21 (.one 22 .done))))))) 19 (.one 6 (.one 7 (.one 12 (.one 13 (.one 20 (.one 21 (.one 22 .done)))))))) 19 (.two 6 (.one 7 (.two 11 (.one 12 (.one 13 (.one 20 (.one 21 (.one 22 .done))))) 20 (.one 11 (.one 12 (.one 13 (.one 21 (.one 22 .done))))))) 11 (.one 6 (.one 7 (.one 12 (.one 13 (.one 20 (.one 21 (.one 22 .done))))))))))))))))))))))) (by kernel_rfl) (by decide +kernel) ?_
        simp (disch := first | omega | (simp only [go_sem]; first | done | omega)) only [go_sem]
        repeat' first | ((refine aIf_str rfl rfl rfl (by simp only [List.length_append, List.length_cons, List.length_nil]; omega) ?_); simp (disch := first | omega | (simp only [go_sem]; first | done | omega)) only [go_sem]) | (refine hsa 2 (by omega) ?_; simp (disch := first | omega | (simp only [go_sem]; first | done | omega)) only [go_sem]) | (refine hsb 2 (by omega) ?_; simp (disch := first | omega | (simp only [go_sem]; first | done | omega)) only [go_sem]) | (refine hst ?_; simp (disch := first | omega | (simp only [go_sem]; first | done | omega)) only [go_sem, h2]) | (exact Ret.same (Nat.le_refl _) (by simpa using hk)) | apply And.intro
    · have h1' : ¬ (stC c : Int) = 1 := by omega
      have hb : fmtB (.bin c a b) = fmtF a (stC c) ++ (32 :: c :: 32 :: fmtF b (stC c + 1)) := by
        rw [fmtB, if_neg h1]
        rfl
      rw [hb] at hfin
      have ha2 := hla (stC c)
      have hb2 := hlb (stC c + 1)
      have hsb2 := fun {H : Hp} {K : AV → Hp → Prop} (hk : K (.c (.str (tB (fmtF b (stC c + 1))))) H) => hsb (stC c + 1) (by omega) hk
      rw [show ((stC c + 1 : Nat) : Int) = (stC c : Int) + 1 from rfl] at hsb2
      simp (disch := first | omega | (simp only [go_sem]; first | done | omega)) only [go_sem, h1']
      refine hst ?_
      simp (disch := first | omega | (simp only [go_sem]; first | done | omega)) only [go_sem]
      by_cases h2 : stC c < n
      · have hk := hfin _ rfl
        rw [if_pos h2] at hk
        refine w_tree (.one 0 (.one 1 (.one 2 (.one 3 (.one 4 (.one 5 (.one 6 (.one 9 (.one 10 (.one 11 (.one 15 (.one 16 (.one 17 (.one 21 (.one 22 (.three 7 (.one 8 (.one 18 (.one 19 (.one 20 (.two 12 (.one 13 (.one 14 (.one 23 (.one 24 (.one 25 .done))))) 23 (.one 12 (.one 13 (.one 14 (.one 24 (.one 25 .done)))))))))) 12 (.two 7 (.one 8 (.one 13 (.one 14 (.one 18 (.one 19 (.one 20 (.one 23 (.one 24 (.one 25 .done))))))))) 18 (.two 7 (.one 8 (.one 13 (.one 14 (.one 19 (.one 20 (.one 23 (.one 24 (.one 25 .done)))))))) 19 (.two 7 (.one 8 (.one 13 (.one 14 (.one 20 (.one 23 (.one 24 (.one 25 .done))))))) 20 (.one 7 (.one 8 (.one 13 (.one 14 (.one 23 (.one 24 (.one 25 .done)))))))))) 18 (.three 7 (.one 8 (.one 19 (.one 20 (.two 12 (.one 13 (.one 14 (.one 23 (.one 24 (.one 25 .done))))) 23 (.one 12 (.one 13 (.one 14 (.one 24 (.one 25 .done))))))))) 12 (.two 7 (.one 8 (.one 13 (.one 14 (.one 19 (.one 20 (.one 23 (.one 24 (.one 25 .done)))))))) 19 (.two 7 (.one 8 (.one 13 (.one 14 (.one 20 (.one 23 (.one 24 (.one 25 .done))))))) 20 (.one 7 (.one 8 (.one 13 (.one 14 (.one 23 (.one 24 (.one 25 .done))))))))) 19 (.three 7 (.one 8 (.one 20 (.two 12 (.one 13 (.one 14 (.one 23 (.one 24 (.one 25 .done))))) 23 (.one 12 (.one 13 (.one 14 (.one 24 (.one 25 .done)))))))) 12 (.two 7 (.one 8 (.one 13 (.one 14 (.one 20 (.one 23 (.one 24 (.one 25 .done))))))) 20 (.one 7 (.one 8 (.one 13 (.one 14 (.one 23 (.one 24 (.one 25 .done)))))))) 20 (.two 7 (.one 8 (.two 12 (.one 13 (.one 14 (.one 23 (.one 24 (.one 25 .done))))) 23 (.one 12 (.one 13 (.one 14 (.one 24 (.one 25 .done))))))) 12 (.one 7 (.one 8 (.one 13 (.one 14 (.one 23 (.one 24 (.one 25 .done)))))))))))))))))))))))))) (by kernel_rfl) (by decide +kernel) ?_
        simp (disch := first | omega | (simp only [go_sem]; first | done | omega)) only [go_sem]
        repeat' first | ((refine aIf_str rfl rfl rfl (by simp only [List.length_append, List.length_cons, List.length_nil]; omega) ?_); simp (disch := first | omega | (simp only [go_sem]; first | done | omega)) only [go_sem]) | (refine hsa (stC c) (by omega) ?_; simp (disch := first | omega | (simp only [go_sem]; first | done | omega)) only [go_sem]) | (refine hsb2 ?_; simp (disch := first | omega | (simp only [go_sem]; first | done | omega)) only [go_sem]) | (refine hst ?_; simp (disch := first | omega | (simp only [go_sem]; first | done | omega)) only [go_sem, h2]) | (exact Ret.same (Nat.le_refl _) (by simpa using hk)) | apply And.intro
      · have hk := hfin _ rfl
        rw [if_neg h2] at hk
        refine w_tree (.one 0 (.one 1 (.one 2 (.one 3 (.one 4 (.one 5 (.one 6 (.one 9 (.one 10 (.one 11 (.one 15 (.one 16 (.one 17 (.one 21 (.one 22 (.three 7 (.one 8 (.one 18 (.one 19 (.one 20 (.two 12 (.one 13 (.one 14 (.one 23 (.one 24 (.one 25 .done))))) 23 (.one 12 (.one 13 (.one 14 (.one 24 (.one 25 .done)))))))))) 12 (.two 7 (.one 8 (.one 13 (.one 14 (.one 18 (.one 19 (.one 20 (.one 23 (.one 24 (.one 25 .done))))))))) 18 (.two 7 (.one 8 (.one 13 (.one 14 (.one 19 (.one 20 (.one 23 (.one 24 (.one 25 .done)))))))) 19 (.two 7 (.one 8 (.one 13 (.one 14 (.one 20 (.one 23 (.one 24 (.one 25 .done))))))) 20 (.one 7 (.one 8 (.one 13 (.one 14 (.one 23 (.one 24 (.one 25 .done)))))))))) 18 (.three 7 (.one 8 (.one 19 (.one 20 (.two 12 (.one 13 (.one 14 (.one 23 (.one 24 (.one 25 .done))))) 23 (.one 12 (.one 13 (.one 14 (.one 24 (.one 25 .done))))))))) 12 (.two 7 (.one 8 (.one 13 (.one 14 (.one 19 (.one 20 (.one 23 (.one 24 (.one 25 .done)))))))) 19 (.two 7 (.one 8 (.one 13 (.one 14 (.one 20 (.one 23 (.one 24 (.one 25 .done))))))) 20 (.one 7 (.one 8 (.one 13 (.one 14 (.one 23 (.one 24 (.one 25 .done))))))))) 19 (.three 7 (.one 8 (.one 20 (.two 12 (.one 13 (.one 14 (.one 23 (.one 24 (.one 25 .done))))) 23 (.one 12 (.one 13 (.one 14 (.one 24 (.one 25 .done)))))))) 12 (.two 7 (.one 8 (.one 13 (.one 14 (.one 20 (.one 23 (.one 24 (.one 25 .done))))))) 20 (.one 7 (.one 8 (.one 13 (.one 14 (.one 23 (.one 24 (.one 25 .done)))))))) 20 (.two 7 (.one 8 (.two 12 (.one 13 (.one 14 (.one 23 (.one 24 (.one 25 .done))))) 23 (.one 12 (.one 13 (.one 14 (.one 24 (.one 25 .done))))))) 12 (.one 7 (.one 8 (.one 13 (.one 14 (.one 23 (.one 24 (.one 25 .done)))))))))))))))))))))))))) (by kernel_rfl) (by decide +kernel) ?_
        simp (disch := first | omega | (simp only [go_sem]; first | done | omega)) only [go_sem]
        repeat' first | ((refine aIf_str rfl rfl rfl (by simp only [List.length_append, List.length_cons, List.length_nil]; omega) ?_); simp (disch := first | omega | (simp only [go_sem]; first | done | omega)) only [go_sem]) | (refine hsa (stC c) (by omega) ?_; simp (disch := first | omega | (simp only [go_sem]; first | done | omega)) only [go_sem]) | (refine hsb2 ?_; simp (disch := first | omega | (simp only [go_sem]; first | done | omega)) only [go_sem]) | (refine hst ?_; simp (disch := first | omega | (simp only [go_sem]; first | done | omega)) only [go_sem, h2]) | (exact Ret.same (Nat.le_refl _) (by simpa using hk)) | apply And.intro
def rstF (l : List UInt8) : List UInt8 × Int × Int := match parF l with
  | .ok e => if 500 < (fmtB e).length then ([], 0, 2) else (fmtB e, 0, 0)
  | .error (a, c) => ([], a, c)
theorem formatP_a {H : Hp} {K : AV → Hp → Prop} (l : List UInt8) (hl : l.length ≤ 1000000) (hne : ∀ a c, parF l = .error (a, c) → c ≠ 0) (hk : K (.tup [(.c (.str (tB (rstF l).1))), (.c (.int .i64 ((rstF l).2.1))), (.c (.int .i64 ((rstF l).2.2)))]) H) : ACalls Tryz.prog 38 [(.c (.str (tB l)))] H K := by
  unfold rstF at hk
  refine acalls Tryz.func38 rfl (by kernel_rfl) (by simp (disch := first | omega | (simp only [go_sem]; first | done | omega)) only [go_sem]) (fun hH => ?_)
  simp (disch := first | omega | (simp only [go_sem]; first | done | omega)) only [go_sem]
  refine parse_a l hl (fun e h => ?_) (fun a c h => ?_)
  · rw [h] at hk
    have hs := par_sz h
    have hz := tB_size (fmtB e)
    dsimp only at hk
    simp (disch := first | omega | (simp only [go_sem]; first | done | omega)) only [go_sem]
    refine format_a 501 e 1 (by omega) (by omega) (par_good h) (by omega) ?_
    rw [fmtF_top (stE_pos e)]
    by_cases h5 : 500 < (fmtB e).length
    · rw [if_pos h5] at hk
      simp (disch := first | omega | (simp only [go_sem]; first | done | omega)) only [go_sem, hz, h5]
      exact Ret.same (Nat.le_refl _) hk
    · rw [if_neg h5] at hk
      simp (disch := first | omega | (simp only [go_sem]; first | done | omega)) only [go_sem, hz, h5]
      exact Ret.same (Nat.le_refl _) hk
  · rw [h] at hk
    have hc := hne a c h
    simp (disch := first | omega | (simp only [go_sem]; first | done | omega)) only [go_sem, hc]
    exact Ret.same (Nat.le_refl _) hk
end Go.Proofs.YtflklkijfkmeiaaGreatDoor
