/- Whether a level keeps the data of all moments of a window: the program. Condition: few holds, numbers as those of levels. -/
import Derived.Test.YtnpdbnkgipkgaaaGreatHVAnswerM
import Derived.Test.YtnpdbnkgipkgaaaGreatHVGE
import Derived.Test.YtnpdbnkgipkgaaaGreatHVGF
namespace Go.Proofs.YtnpdbnkgipkgaaaGreat
open Go Go.RowKit
set_option maxRecDepth 100000
set_option linter.all false
set_option maxHeartbeats 2000000
variable {H : Hp} {K : AV → Hp → Prop}
theorem appI2 {i j ty : Nat} {own : Bool} {J : AV → Hp → Prop} (l : List Int) (a b : Int) (hi : H[i]? = some (grO 3 1 (l.map encI))) (hj : H[j]? = some (.row ty 1 [[.int .i64 a], [.int .i64 b]] own)) (hb : l.length ≤ 1000000000)
    (h : J (.c (grV H.length (l ++ [a, b]))) (H.set i .dead ++ [grO 3 1 ((l ++ [a, b]).map encI)])) : aBuiltin Tryz.prog .append #[22, 22] [.c (grV i l), .c (.sl (some (j, 0)) 2)] H J :=
  app_grR (enc := encI) (e := 3) (sz := 1) (bs := 8) (z := [.int .i64 0]) l [a, b] (by kernel_rfl) (by kernel_rfl) (by kernel_rfl) (by kernel_rfl) hi (by rw [hj]; rfl) (by simp) rfl (by decide) (by simp; omega) (by simp; omega) h
theorem appI2e {i j ty : Nat} {own : Bool} {J : AV → Hp → Prop} (l l2 : List Int) (a b : Int) (e : l2 = l ++ [a, b]) (hi : H[i]? = some (grO 3 1 (l.map encI))) (hj : H[j]? = some (.row ty 1 [[.int .i64 a], [.int .i64 b]] own)) (hb : l.length ≤ 1000000000)
    (h : J (.c (grV H.length l2)) (H.set i .dead ++ [grO 3 1 (l2.map encI)])) : aBuiltin Tryz.prog .append #[22, 22] [.c (grV i l), .c (.sl (some (j, 0)) 2)] H J := by
  subst e
  exact appI2 l a b hi hj hb h
theorem momsP_next (x : Level) {h : List Hold} (w : Win) {k : Nat} (hk : k < h.length) : momsP x (h.take (k + 1)) w = momsP x (h.take k) w ++ [(ivl x h[k].t0).1, (ivl x h[k].t0).2] ++ [(ivl x h[k].t1).1, (ivl x h[k].t1).2] := by
  unfold momsP
  rw [List.take_succ_eq_append_getElem hk, List.flatMap_append]
  simp
theorem momsP_len (x : Level) (h : List Hold) (w : Win) : (momsP x h w).length = 1 + 4 * h.length := by
  unfold momsP
  rw [List.length_append, List.length_flatMap]
  have : ∀ l : List Hold, (l.map fun _ => 4).sum = 4 * l.length := by
    intro l
    induction l with
    | nil => rfl
    | cons a l ih => simp [ih]; omega
  simp [this]
end Go.Proofs.YtnpdbnkgipkgaaaGreat
