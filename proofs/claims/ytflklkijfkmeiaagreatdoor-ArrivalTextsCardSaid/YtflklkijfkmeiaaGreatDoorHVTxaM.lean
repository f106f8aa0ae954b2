/- Texts of lists of any kind; arrivals as text. No program in sight. -/
import Derived.Test.YtflklkijfkmeiaaGreatDoorHVTxtF
import Derived.Test.YtflklkijfkmeiaaGreatDoorHVArrF
namespace Go.Proofs.YtflklkijfkmeiaaGreatDoor
open Go Go.RowKit
set_option maxRecDepth 100000
set_option linter.all false
set_option maxHeartbeats 1000000
section
variable {α : Type}
def goodG (rd : List UInt8 → Option α) (l : List UInt8) : Bool := (rd l).isSome
def ssG (rd : List UInt8 → Option α) (z : α) (M : List (List UInt8)) (k : Nat) : List α := (M.take k).map fun l => (rd l).getD z
theorem ssG_next (rd : List UInt8 → Option α) (z : α) {M : List (List UInt8)} {k : Nat} {x : List UInt8} (h : M[k]? = some x) : ssG rd z M (k + 1) = ssG rd z M k ++ [(rd x).getD z] := by
  have hk := getElem?_lt h
  rw [List.getElem?_eq_getElem hk] at h
  injection h with h
  unfold ssG
  rw [List.take_succ_eq_append_getElem hk, List.map_append, h]
  rfl
theorem ssG_all (rd : List UInt8 → Option α) (z : α) : ∀ (M : List (List UInt8)), okC (goodG rd) M = M.length → ssG rd z M M.length = M.filterMap rd
  | [], _ => rfl
  | x :: t, h => by
    unfold okC at h
    rw [List.takeWhile_cons] at h
    by_cases hx : goodG rd x = true
    · rw [if_pos hx, List.length_cons, List.length_cons] at h
      have ih := ssG_all rd z t (by unfold okC; omega)
      obtain ⟨y, hy⟩ := Option.isSome_iff_exists.1 hx
      unfold ssG at ih ⊢
      rw [List.take_length] at ih ⊢
      rw [List.map_cons, ih, List.filterMap_cons, hy]
      rfl
    · rw [if_neg hx] at h
      simp at h
def txtG (rd : List UInt8 → Option α) (flt : List α → Int) (text : List UInt8) : List α × Int × Int :=
  if 200000 < text.length then ([], 0, 2)
  else if okC (goodG rd) (lnsF text) < (lnsF text).length then ([], okC (goodG rd) (lnsF text), 9)
  else if remF text ≠ [] then ([], (lnsF text).length, 9)
  else if flt ((lnsF text).filterMap rd) ≠ 0 then ([], 0, flt ((lnsF text).filterMap rd))
  else ((lnsF text).filterMap rd, 0, 0)
theorem txtG_len (rd : List UInt8 → Option α) (flt : List α → Int) (t : List UInt8) (h : t.length ≤ 100000) : (txtG rd flt t).1.length ≤ 100000 := by
  have h1 := List.length_filterMap_le rd (lnsF t)
  have h2 := lns_len t
  unfold txtG
  repeat' split
  all_goals first | (simp; done) | (dsimp only; omega)
end
/-! ### arrivals -/
def rdAw : List (List UInt8) → Option Arr
  | [a, b, c, d, e, f, g] => if a = [] ∨ d = [] then none else match numF b 15, numF c 15, rdW [e, f, g] with
    | some t, some n, some s => some ⟨tB a, t, ⟨n, tB d, s⟩⟩
    | _, _, _ => none
  | _ => none
def rdA (l : List UInt8) : Option Arr := rdAw (splitL 32 l)
def arL (x : Arr) : List UInt8 := tL x.nd ++ 32 :: (Lib.itoa x.t ++ 32 :: (Lib.itoa x.p.n ++ 32 :: (tL x.p.tag ++ 32 :: lineT x.p.s)))
def textA (l : List Arr) : List UInt8 := l.flatMap fun x => arL x ++ [10]
theorem seven {ws : List (List UInt8)} (h : ws.length = 7) : ∃ a b c d e f g, ws = [a, b, c, d, e, f, g] := by
  match ws, h with
  | [a, b, c, d, e, f, g], _ => exact ⟨a, b, c, d, e, f, g, rfl⟩
theorem numF_nil (m : Nat) : numF [] m = none := rfl
theorem rdAw_ne {ws : List (List UInt8)} {x : Arr} (h : rdAw ws = some x) : ws.length = 7 ∧ [] ∉ ws := by
  unfold rdAw at h
  split at h
  · rename_i a b c d e f g
    split at h
    · cases h
    · rename_i hne
      split at h
      · rename_i t n s h1 h2 h3
        have h4 := (rdW_ne h3).2
        refine ⟨rfl, fun hm => ?_⟩
        simp only [List.mem_cons, List.not_mem_nil, or_false, not_or] at hm h4
        rcases hm with rfl | rfl | rfl | rfl | hm
        · exact hne (.inl rfl)
        · rw [numF_nil] at h1; cases h1
        · rw [numF_nil] at h2; cases h2
        · exact hne (.inr rfl)
        · rcases hm with e | e | e
          · exact h4.1 e
          · exact h4.2.1 e
          · exact h4.2.2 e
      · cases h
  · cases h
theorem rdA_size {l : List UInt8} {x : Arr} (h : rdA l = some x) : x.nd.size ≤ l.length ∧ x.p.tag.size ≤ l.length := by
  unfold rdA at h
  have hm := splitL_mem 32 l
  generalize splitL 32 l = ws at *
  unfold rdAw at h
  split at h
  · rename_i a b c d e f g
    split at h
    · cases h
    · split at h
      · injection h with h
        subst h
        have h1 := hm a (by simp)
        have h2 := hm d (by simp)
        exact ⟨by show (tB a).size ≤ _; rw [tB_size]; exact h1, by show (tB d).size ≤ _; rw [tB_size]; exact h2⟩
      · cases h
  · cases h
theorem textA_next {l : List Arr} {k : Nat} (h : k < l.length) : textA (l.take (k + 1)) = textA (l.take k) ++ (arL l[k] ++ [10]) := by
  unfold textA
  rw [List.take_succ_eq_append_getElem h, List.flatMap_append]
  simp
end Go.Proofs.YtflklkijfkmeiaaGreatDoor
