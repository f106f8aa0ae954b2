/- The order of samples; the package merges something. No condition. -/
import Derived.Test.YtagoolooikpabaaGreatDoorHCoreDrawS
import Derived.Test.YtagoolooikpabaaGreatDoorHVSmp
set_option linter.all false
namespace Go.Proofs.YtagoolooikpabaaGreatDoor
open Go Go.RowKit
set_option maxRecDepth 100000
set_option maxHeartbeats 1000000
variable {H : Hp} {K : AV → Hp → Prop}
theorem cmpOr_a (l : List Int) (hl : l.length ≤ 1000000) (hk : K (.c (.int .i64 (firstE l))) H) : ACalls Tryz.prog 187 [.c (.lst 1 (l.map encI))] H K := by
 refine acalls Tryz.func187 rfl (by kernel_rfl) (by simp (disch := first | omega | (simp only [go_sem]; try omega)) only [go_sem]) (fun hH => ?_)
 simp (disch := first | omega | (simp only [go_sem]; try omega)) only [go_sem]
 refine AWp.loop (H.length) [3, 6, 7] [8] (fun (k : Nat) => k ≤ l.length ∧ firstE (l.drop k) = firstE l) (fun (k : Nat) => [(8, (.c (.int .i64 k)))]) (fun (k : Nat) => H) (fun (k : Nat) => l.length - k) (by kernel_rfl) (fun _ => rfl) (by kernel_rfl) (by first | (simp; done) | omega) (by first | (simp; done) | (simp; omega) | omega) kl ?_ (fun k hk1 _ _ => ?_)
 ·exact Next.mk 0 (by simp) wk
 ·simp (disch := first | omega | (simp only [go_sem]; try omega)) only [go_sem, *]
  repeat' (first | ((first | refine acond_d ?_ ?_ | refine acond_b ?_ ?_ | refine ag_d ?_ ?_ | refine ag_n ?_ ?_ | refine ag_bt ?_ ?_ | refine ag_bf ?_ ?_) <;> intro c <;> try simp (disch := first | omega | (simp only [go_sem]; try omega)) only [go_sem, c]) | ((first | refine w_draw (by kernel_rfl) (by decide +kernel) ?_) <;> try simp (disch := first | omega | (simp only [go_sem]; try omega)) only [go_sem]))
  ·have := firstE_drop l k (by omega)
   exact Next.mk (k + 1) ⟨⟨by omega, by grind⟩, by omega⟩ wk
  ·have := firstE_drop l k (by omega)
   (first | refine Ret.sameE (Nat.le_refl _) (by assumption) ?_ | refine Ret.dropE (by assumption) (Nat.le_refl _) (by assumption) (by simp [AV.ok, AV.ok1, AC.ok]) ?_) <;> (first | rfl | (simp only [AV.c.injEq, AC.bool.injEq]; rw [Bool.eq_iff_iff]; simp only [Bool.not_eq_true', decide_eq_true_eq, decide_eq_false_iff_not, Bool.and_eq_true, Bool.or_eq_true]; omega) | grind | (simp [*]; done) | (simp [*]; omega))
  ·have : l.drop k = [] := List.drop_eq_nil_of_le (by omega)
   have h0 : firstE l = 0 := by rw [← hk1.2, this]; rfl
   (first | refine Ret.sameE (Nat.le_refl _) (by assumption) ?_ | refine Ret.dropE (by assumption) (Nat.le_refl _) (by assumption) (by simp [AV.ok, AV.ok1, AC.ok]) ?_) <;> (first | rfl | (simp only [AV.c.injEq, AC.bool.injEq]; rw [Bool.eq_iff_iff]; simp only [Bool.not_eq_true', decide_eq_true_eq, decide_eq_false_iff_not, Bool.and_eq_true, Bool.or_eq_true]; omega) | grind | (simp [*]; done) | (simp [*]; omega))
def cmpI (x y : Int) : Int := if x < y then -1 else if y < x then 1 else 0
def momC (a b : Smp) : Int := firstE [cmpI a.t b.t, cmpI a.q b.q, cmpI b.v a.v]
theorem cmpOr_lit (a b c : Int) {i ty n : Nat} {els : List (List AC)} {own : Bool} (hi : H[i]? = some (.row ty 1 els own)) (he : els = [[.int .i64 a], [.int .i64 b], [.int .i64 c]]) (hn : n = 3) (hk : K (.c (.int .i64 (firstE [a, b, c]))) (H.set i .dead)) : ACalls Tryz.prog 187 [.c (.sl (some (i, 0)) n)] H K := by
 subst he hn
 exact ACalls.lit hi (by simp [pureL, AC.pure]) (args' := [.c (.lst 1 ([a, b, c].map encI))]) (by simp [AV.frz1, AC.frz, encI]) (cmpOr_a [a, b, c] (by simp) hk)
def domC (f : FuncId) : Bool := Nat.beq f 188
def spC (_ : FuncId) (args : List AV) : Option AV := match args with
 | [.c (.int .i64 x), .c (.int .i64 y)] => some (.c (.int .i64 (cmpI x y)))
 | _ => none
@[go_sem] theorem domC_y : domC 188 = true := (rfl)
@[go_sem] theorem domC_n : domC 187 = false := (rfl)
@[go_sem] theorem spC_go (f : FuncId) (x y : Int) : spC f [(.c (.int .i64 x)), (.c (.int .i64 y))] = some (.c (.int .i64 (cmpI x y))) := (rfl)
theorem specC_ok : SpecOk Tryz.prog domC spC := by
 intro f args v H K hd hs hk
 have hf := Nat.eq_of_beq_eq_true hd
 subst hf
 unfold spC at hs
 split at hs
 ·rename_i x y
  injection hs with hs
  subst hs
  exact ⟨by kernel_rfl, rfl, compare_a x y hk⟩
 ·cases hs
theorem byMoment_a (a b : Smp) (hk : K (.c (.int .i64 (momC a b))) H) : ACalls Tryz.prog 144 [.agg (encS a), .agg (encS b)] H K := by
 refine acalls Tryz.func144 rfl (by kernel_rfl) (by simp (disch := first | omega | (simp only [go_sem]; try omega)) only [go_sem]) (fun hH => ?_)
 simp (disch := first | omega | (simp only [go_sem]; try omega)) only [go_sem]
 refine w_drawS specC_ok (by kernel_rfl) (by decide +kernel) ?_
 simp (disch := first | omega | (simp only [go_sem]; try omega)) only [go_sem]
 refine cmpOr_lit (cmpI a.t b.t) (cmpI a.q b.q) (cmpI b.v a.v) (by first | ((repeat first | exact at0 (by simp) | refine atS ?_); done) | assumption) rfl rfl ?_
 simp (disch := first | omega | (simp only [go_sem]; try omega)) only [go_sem]
 exact Ret.drop hH (Nat.le_refl _) trivial hk
def specM : FuncId → List AV → Hp → Res := fun f args H => match Nat.beq f 144, args with
 | true, [.agg [.int .i64 t, .int .i64 v, .int .i64 q], .agg [.int .i64 t2, .int .i64 v2, .int .i64 q2]] => some ((.c (.int .i64 (momC ⟨t, v, q⟩ ⟨t2, v2, q2⟩))), H)
 | _, _ => none
theorem specM_ok : CallOk Tryz.prog specM := by
 intro f args H v H' K h hk
 unfold specM at h
 split at h
 ·rename_i t v q t2 v2 q2 hf
  have := Nat.eq_of_beq_eq_true hf
  subst this
  injection h with h; injection h with e1 e2; subst e1; subst e2
  exact byMoment_a ⟨t, v, q⟩ ⟨t2, v2, q2⟩ hk
 ·cases h
end Go.Proofs.YtagoolooikpabaaGreatDoor
