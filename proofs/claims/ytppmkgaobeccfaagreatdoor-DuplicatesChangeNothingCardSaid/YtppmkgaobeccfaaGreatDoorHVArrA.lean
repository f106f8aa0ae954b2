/- Arrivals: their faults by themselves, and their order, in the program and in the document's answer. No condition. -/
import Derived.Test.YtppmkgaobeccfaaGreatDoorHVBufG
import Derived.Test.YtppmkgaobeccfaaGreatDoorHVGF
import Derived.Test.YtppmkgaobeccfaaGreatDoorHVGA
namespace Go.Proofs.YtppmkgaobeccfaaGreatDoor
open Go Go.RowKit
set_option maxRecDepth 100000
set_option linter.all false
set_option maxHeartbeats 1000000
variable {H : Hp} {K : AV → Hp → Prop}
structure Arr where
  nd : ByteArray
  t : Int
  p : Pk
def encAr (x : Arr) : List AC := [.str x.nd, .int .i64 x.t, .int .i64 x.p.n, .str x.p.tag, .int .i64 x.p.s.t, .int .i64 x.p.s.v, .int .i64 x.p.s.q]
attribute [go_sem] encAr
def cmpS (a b : ByteArray) : Int := Lib.compareBytes a.data.toList b.data.toList
theorem cmpStrX (f : FuncId) (hf : externs Tryz.prog f Extern.BytealgCompare.compare) (a b : ByteArray) (hk : K (.c (.int .i64 (cmpS a b))) H) : AExt Tryz.prog f [(.c (.str a)), (.c (.str b))] H K := by
  refine ⟨_, hf, fun B w0 ι w vs hs hr ho => ?_⟩
  obtain ⟨l⟩ := vs
  match l, hr with
  | [u, v], hr =>
    have h1 : u = .string a := hr.1
    have h2 : v = .string b := hr.2.1
    subst h1; subst h2
    exact ⟨_, w, Lib.run_compareString a b w, ι, _, (.c (.int .i64 (cmpS a b))), H, rfl, Agree.refl _ _, Nat.le_refl _, hs, rfl, trivial, hk⟩
theorem ext_cmpStr : externs Tryz.prog 176 Extern.BytealgCompare.compare := ⟨_, rfl, by kernel_rfl, by kernel_rfl, by kernel_rfl, by kernel_rfl⟩
theorem cmpStr_a (a b : ByteArray) (hk : K (.c (.int .i64 (cmpS a b))) H) : ACalls Tryz.prog 92 [(.c (.str a)), (.c (.str b))] H K := by
  have key : ∀ (K : AV → Hp → Prop), K (.c (.int .i64 (cmpS a b))) H → ACalls Tryz.prog 137 [(.c (.str a)), (.c (.str b))] H K := by
    intro K hk
    refine acalls Tryz.func137 rfl (by kernel_rfl) (by simp (disch := first | omega | (simp only [go_sem]; first | done | omega)) only [go_sem]) (fun hH => ?_)
    simp (disch := first | omega | (simp only [go_sem]; first | done | omega)) only [go_sem]
    refine cmpStrX _ ext_cmpStr a b ?_
    simp (disch := first | omega | (simp only [go_sem]; first | done | omega)) only [go_sem]
    exact Ret.same (Nat.le_refl _) hk
  refine acalls Tryz.func92 rfl (by kernel_rfl) (by simp (disch := first | omega | (simp only [go_sem]; first | done | omega)) only [go_sem]) (fun hH => ?_)
  simp (disch := first | omega | (simp only [go_sem]; first | done | omega)) only [go_sem]
  refine key _ ?_
  simp (disch := first | omega | (simp only [go_sem]; first | done | omega)) only [go_sem]
  exact Ret.same (Nat.le_refl _) hk
theorem cmpB_eq : ∀ a b : List UInt8, Lib.compareBytes a b = 0 ↔ a = b
  | [], [] => by simp [Lib.compareBytes]
  | [], _ :: _ => by simp [Lib.compareBytes]
  | _ :: _, [] => by simp [Lib.compareBytes]
  | a :: xs, b :: ys => by
    unfold Lib.compareBytes
    by_cases h1 : a < b
    · rw [if_pos h1]
      constructor
      · intro h; cases h
      · intro h; injection h with h2 _; subst h2; exact absurd h1 (UInt8.lt_irrefl _)
    · rw [if_neg h1]
      by_cases h2 : b < a
      · rw [if_pos h2]
        constructor
        · intro h; cases h
        · intro h; injection h with h3 _; subst h3; exact absurd h2 (UInt8.lt_irrefl _)
      · rw [if_neg h2, cmpB_eq xs ys]
        have : a = b := UInt8.le_antisymm (UInt8.not_lt.1 h2) (UInt8.not_lt.1 h1)
        subst this
        simp
theorem cmpS_eq (a b : ByteArray) : cmpS a b = 0 ↔ a = b := by
  unfold cmpS
  rw [cmpB_eq]
  exact ⟨data_inj, fun h => by rw [h]⟩
def sgn (a b : Int) : Int := if a < b then -1 else if b < a then 1 else 0
/-- the order of arrivals -/
def arrC (a b : Arr) : Int := if a.t ≠ b.t then sgn a.t b.t else if a.nd ≠ b.nd then cmpS a.nd b.nd else sgn a.p.n b.p.n
def arrErr (x : Arr) : Int := if ¬ isKey x.nd then 5 else if x.t < 0 ∨ 345686399999 < x.t ∨ x.p.n < 1 ∨ 1000000 < x.p.n then 1 else if ¬ isKey x.p.tag then 5 else smpErr x.p.s
theorem arrivalFault_a (x : Arr) (h1 : x.nd.size ≤ 1099511627776) (h2 : x.p.tag.size ≤ 1099511627776) (hk : K (.c (.int .i64 (arrErr x))) H) : ACalls Tryz.prog 88 [.agg (encAr x)] H K := by
  refine acalls Tryz.func88 rfl (by kernel_rfl) (by simp (disch := first | omega | (simp only [go_sem]; first | done | omega)) only [go_sem]) (fun hH => ?_)
  simp (disch := first | omega | (simp only [go_sem]; first | done | omega)) only [go_sem]
  repeat' (first | ((first | refine acond_d ?_ ?_ | refine acond_b ?_ ?_ | refine ag_d ?_ ?_ | refine ag_n ?_ ?_ | refine ag_bt ?_ ?_ | refine ag_bf ?_ ?_) <;> intro c <;> try simp (disch := first | omega | (simp only [go_sem]; first | done | omega)) only [go_sem, c]) | ((first | refine w_draw (by kernel_rfl) (by decide +kernel) ?_ | refine key_a _ h1 ?_ | refine key_a _ h2 ?_ | refine checkSample_a x.p.s ?_ | refine out_a _ _ _ _ _ ?_ | refine moment_a _ _ _ ?_) <;> try simp (disch := first | omega | (simp only [go_sem]; first | done | omega)) only [go_sem]))
  all_goals (first | refine Ret.sameE (Nat.le_refl _) (by assumption) ?_ | refine Ret.dropE (by assumption) (Nat.le_refl _) (by assumption) (by simp [AV.ok, AV.ok1, AC.ok]) ?_) <;> grind [arrErr]
theorem arrivalOrder_a (a b : Arr) (h : -1000000000000000 ≤ a.t ∧ a.t ≤ 1000000000000000) (h2 : -1000000000000000 ≤ b.t ∧ b.t ≤ 1000000000000000) (h3 : -1000000000000000 ≤ a.p.n ∧ a.p.n ≤ 1000000000000000) (h4 : -1000000000000000 ≤ b.p.n ∧ b.p.n ≤ 1000000000000000) (hk : K (.c (.int .i64 (arrC a b))) H) : ACalls Tryz.prog 79 [.agg (encAr a), .agg (encAr b)] H K := by
  refine acalls Tryz.func79 rfl (by kernel_rfl) (by simp (disch := first | omega | (simp only [go_sem]; first | done | omega)) only [go_sem]) (fun hH => ?_)
  simp (disch := first | omega | (simp only [go_sem]; first | done | omega)) only [go_sem]
  repeat' (first | ((first | refine acond_d ?_ ?_ | refine acond_b ?_ ?_ | refine ag_d ?_ ?_ | refine ag_n ?_ ?_ | refine ag_bt ?_ ?_ | refine ag_bf ?_ ?_) <;> intro c <;> try simp (disch := first | omega | (simp only [go_sem]; first | done | omega)) only [go_sem, c]) | ((first | refine w_draw (by kernel_rfl) (by decide +kernel) ?_ | refine cmpStr_a _ _ ?_ | refine sign_a _ _ _ ?_) <;> try simp (disch := first | omega | (simp only [go_sem]; first | done | omega)) only [go_sem]))
  all_goals (first | refine Ret.sameE (Nat.le_refl _) (by assumption) ?_ | refine Ret.dropE (by assumption) (Nat.le_refl _) (by assumption) (by simp [AV.ok, AV.ok1, AC.ok]) ?_) <;> grind [arrC, sgn]
end Go.Proofs.YtppmkgaobeccfaaGreatDoor
