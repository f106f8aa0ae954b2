/- Arrivals whose packets are not the same where they should be: the program's answer. No condition. -/
import Derived.Test.YtgcjenfdndhhpaaGreatDoorHVArrB
namespace Go.Proofs.YtgcjenfdndhhpaaGreatDoor
open Go Go.RowKit
set_option maxRecDepth 100000
set_option linter.all false
set_option maxHeartbeats 1000000
variable {H : Hp} {K : AV → Hp → Prop}
instance pkDec : DecidableEq Pk := fun a b =>
  if h : a.n = b.n ∧ a.tag = b.tag ∧ a.s = b.s then isTrue (by cases a; cases b; simp_all) else isFalse (by rintro rfl; simp at h)
theorem findA_si {α : Type} {kt : TypeId} (hf : fieldsK Tryz.prog kt = some [(0, 3), (1, 1)]) (a : ByteArray) (n : Int) (f : α → ByteArray) (g : α → Int) (h : α → AV) : ∀ l : List α, findA Tryz.prog kt (.agg [.str a, .int .i64 n]) (l.map fun y => (AV.agg [.str (f y), .int .i64 (g y)], h y)) = some (l.findIdx? fun y => decide (a = f y) && decide (n = g y))
  | [] => rfl
  | x :: l => by
    have e : keyEqS Tryz.prog kt (.agg [.str a, .int .i64 n]) (.agg [.str (f x), .int .i64 (g x)]) = some (decide (a = f x) && decide (n = g x)) := by
      rw [keyEqS_agg, hf]
      have hc : coverL [(0, 3), (1, 1)] 2 = true := by decide
      simp only [List.length_cons, List.length_nil, hc, Bool.and_self, if_true]
      simp only [eqF, eqC, List.getElem?_cons_zero, List.getElem?_cons_succ, str_eq, if_true, Bool.and_true]
      rw [show (n == g x) = decide (n = g x) by rw [Bool.eq_iff_iff, beq_iff_eq, decide_eq_true_eq]]
    simp only [List.map_cons, findA, e, List.findIdx?_cons]
    cases hb : (decide (a = f x) && decide (n = g x)) with
    | true => simp
    | false =>
      simp only [Bool.false_eq_true, if_false]
      rw [findA_si hf a n f g h l]
      rfl
@[go_sem] theorem mapK_sp : mapK Tryz.prog 275 = some 277 := (by kernel_rfl)
@[go_sem] theorem mapZ_sp : (mapE Tryz.prog 275).bind (zeroA Tryz.prog) = some (.agg [.int .i64 0, .str .empty, .int .i64 0, .int .i64 0, .int .i64 0]) := (by kernel_rfl)
end Go.Proofs.YtgcjenfdndhhpaaGreatDoor
