/- Texts of bins: what is read. No program in sight, but for the numbers' own text. -/
import Derived.Test.YtebhpfhichdgaaaGreatDoorHVN19
import Derived.Test.YtebhpfhichdgaaaGreatDoorHVBinF
namespace Go.Proofs.YtebhpfhichdgaaaGreatDoor
open Go Go.RowKit
set_option maxRecDepth 100000
set_option linter.all false
set_option maxHeartbeats 2000000
variable {H : Hp} {K : AV → Hp → Prop}
def mk6 : List Int → Bin
  | [a, s, n, m, lo, hi] => ⟨a, s, n, m, lo, hi⟩
  | _ => ⟨0, 0, 0, 0, 0, 0⟩
def numN (ws : List (List UInt8)) : List Int := ws.filterMap rdN
theorem numN_next {ws : List (List UInt8)} {k : Nat} (h : k < ws.length) {n : Int} (hn : rdN ws[k] = some n) : numN (ws.take (k + 1)) = numN (ws.take k) ++ [n] := by
  unfold numN
  rw [List.take_succ_eq_append_getElem h, List.filterMap_append]
  simp [hn]
def rdB (l : List UInt8) : Option Bin := if (splitL 32 l).length = 6 ∧ ∀ w ∈ splitL 32 l, (rdN w).isSome = true then some (mk6 (numN (splitL 32 l))) else none
theorem rdN_nil : rdN [] = none := rfl
theorem numN_six {ws : List (List UInt8)} (h : ws.length = 6) (ha : ∀ w ∈ ws, (rdN w).isSome = true) : ∃ a b c d e f, numN ws = [a, b, c, d, e, f] := by
  match ws, h with
  | [a, b, c, d, e, f], _ =>
    obtain ⟨x1, h1⟩ := Option.isSome_iff_exists.1 (ha a (by simp))
    obtain ⟨x2, h2⟩ := Option.isSome_iff_exists.1 (ha b (by simp))
    obtain ⟨x3, h3⟩ := Option.isSome_iff_exists.1 (ha c (by simp))
    obtain ⟨x4, h4⟩ := Option.isSome_iff_exists.1 (ha d (by simp))
    obtain ⟨x5, h5⟩ := Option.isSome_iff_exists.1 (ha e (by simp))
    obtain ⟨x6, h6⟩ := Option.isSome_iff_exists.1 (ha f (by simp))
    exact ⟨x1, x2, x3, x4, x5, x6, by simp [numN, h1, h2, h3, h4, h5, h6]⟩
def goodB (l : List UInt8) : Bool := (rdB l).isSome
def ssB (M : List (List UInt8)) (k : Nat) : List Bin := (M.take k).map fun l => (rdB l).getD ⟨0, 0, 0, 0, 0, 0⟩
theorem ssB_next {M : List (List UInt8)} {k : Nat} {x : List UInt8} (h : M[k]? = some x) : ssB M (k + 1) = ssB M k ++ [(rdB x).getD ⟨0, 0, 0, 0, 0, 0⟩] := by
  have hk := getElem?_lt h
  rw [List.getElem?_eq_getElem hk] at h
  injection h with h
  unfold ssB
  rw [List.take_succ_eq_append_getElem hk, List.map_append, h]
  rfl
theorem nums19_a (ws : List (List UInt8)) (hw : ws.length ≤ 1000000) (hl : ∀ w ∈ ws, w.length ≤ 1000000) (hk1 : (∀ w ∈ ws, (rdN w).isSome = true) → K (.tup [.c (.lst 1 ((numN ws).map encI)), (.c (.bool true))]) H)
    (hk2 : ¬ (∀ w ∈ ws, (rdN w).isSome = true) → K (.tup [.c (.sl none 0), (.c (.bool false))]) H) : ACalls Tryz.prog 88 [.c (.lst 1 (ws.map encTx)), (.c (.int .i64 19))] H K := by
  have hml : (ws.map encTx).length = ws.length := List.length_map ..
  refine acalls Tryz.func88 rfl (by kernel_rfl) (by simp (disch := first | omega | (simp only [go_sem]; first | done | omega)) only [go_sem]) (fun hH => ?_)
  simp (disch := first | omega | (simp only [go_sem]; first | done | omega)) only [go_sem]
  refine AWp.loop (H.length) [1, 11, 12] [13, 6] (fun (k : Nat) => k ≤ ws.length ∧ (∀ w ∈ ws.take k, (rdN w).isSome = true) ∧ (numN (ws.take k)).length ≤ k) (fun (k : Nat) => [(13, (.c (.int .i64 k))), (6, .c (grV H.length (numN (ws.take k))))]) (fun (k : Nat) => H ++ [grO 3 1 ((numN (ws.take k)).map encI)]) (fun (k : Nat) => ws.length - k) (by kernel_rfl) (fun _ => rfl) (by kernel_rfl) (by first | (simp; done) | omega) (by first | (simp; done) | (simp; omega) | omega) kl ?_ (fun k q _ _ => ?_)
  · refine Next.mk 0 ⟨Nat.zero_le _, by simp, by simp [numN]⟩ ?_
    exact WkL.pad (by omega)
  obtain ⟨q1, q2, q3⟩ := q
  by_cases hlt : k < ws.length
  · simp (disch := first | omega | (simp only [go_sem]; first | done | omega)) only [go_sem, hml, hlt, getElem_tx hlt]
    refine num19_a ws[k] (hl _ (List.getElem_mem hlt)) (fun x hx => ?_)
    cases hn : rdN ws[k] with
    | none =>
      simp (disch := first | omega | (simp only [go_sem]; first | done | omega)) only [go_sem]
      exact Ret.drop hH (Nat.le_refl _) (by simp [AV.ok, AV.ok1, AC.ok]) (hk2 (fun h => by have := h _ (List.getElem_mem hlt); rw [hn] at this; cases this))
    | some n =>
      have hxn := hx n hn
      subst hxn
      have hnx := numN_next hlt hn
      generalize numN (ws.take k) = L at *
      simp (disch := first | omega | (simp only [go_sem]; first | done | omega)) only [go_sem]
      refine appIx L x _ hnx (by first | ((repeat first | exact at0 (by simp) | refine atS ?_); done) | assumption) (by first | ((repeat first | exact at0 (by simp) | refine atS ?_); done) | assumption) (by omega) ?_
      simp (disch := first | omega | (simp only [go_sem]; first | done | omega)) only [go_sem]
      refine Next.mk (k + 1) ⟨⟨by omega, ?_, by rw [hnx, List.length_append, List.length_singleton]; omega⟩, by omega⟩ ?_
      · rw [List.take_succ_eq_append_getElem hlt]
        intro w hw
        rcases List.mem_append.1 hw with h | h
        · exact q2 w h
        · rw [List.mem_singleton.1 h, hn]; rfl
      · exact ow
  · have hkl : k = ws.length := by omega
    subst hkl
    rw [List.take_length] at q2 ⊢
    simp (disch := first | omega | (simp only [go_sem]; first | done | omega)) only [go_sem, hml]
    exact Ret.frzGrT 0 hH (by omega) rfl (pureL_map _ (fun x => by simp [go_sem, AC.pure])) rfl (map_grV _ _ _).symm (hk1 q2)
end Go.Proofs.YtebhpfhichdgaaaGreatDoor
