/- sample.Read. -/
import Derived.Test.YtebhpfhichdgaaaGreatDoorHVTxtE
import Derived.Test.YtebhpfhichdgaaaGreatDoorHVGF
namespace Go.Proofs.YtebhpfhichdgaaaGreatDoor
open Go Go.RowKit
set_option maxRecDepth 100000
set_option linter.all false
set_option maxHeartbeats 2000000
variable {H : Hp} {K : AV → Hp → Prop}
def goodL (l : List UInt8) : Bool := (rdLine l).isSome
def ssR (M : List (List UInt8)) (k : Nat) : List Smp := (M.take k).map fun l => (rdLine l).getD ⟨0, 0, 0⟩
theorem ssR_next {M : List (List UInt8)} {k : Nat} {x : List UInt8} (h : M[k]? = some x) : ssR M (k + 1) = ssR M k ++ [(rdLine x).getD ⟨0, 0, 0⟩] := by
  have hk := getElem?_lt h
  rw [List.getElem?_eq_getElem hk] at h
  injection h with h
  unfold ssR
  rw [List.take_succ_eq_append_getElem hk, List.map_append, h]
  rfl
theorem three {ws : List (List UInt8)} (h : ws.length = 3) : ∃ a b c, ws = [a, b, c] := by
  match ws, h with
  | [a, b, c], _ => exact ⟨a, b, c, rfl⟩
theorem splitL_mem : ∀ (c : UInt8) (l w : List UInt8), w ∈ splitL c l → w.length ≤ l.length
  | c, [], w, h => by
    have : w = [] := by simpa [splitL] using h
    rw [this]; simp
  | c, x :: t, w, h => by
    rw [splitL_cons] at h
    have h0 := splitL_ne c t
    have ih := splitL_mem c t
    cases hs : splitL c t with
    | nil => exact absurd hs h0
    | cons y r =>
      rw [hs] at h ih
      simp only [List.headD_cons, List.tail_cons] at h
      split at h
      · rcases List.mem_cons.1 h with rfl | h
        · simp
        · have := ih w h; rw [List.length_cons]; omega
      · rcases List.mem_cons.1 h with rfl | h
        · have := ih y (by simp); simp only [List.length_cons]; omega
        · have := ih w (by simp [h]); rw [List.length_cons]; omega
theorem appSmp {i q ty : Nat} {own : Bool} {J : AV → Hp → Prop} (l : List Smp) (x : Smp) (l2 : List Smp) (e : l2 = l ++ [x]) (hi : H[i]? = some (grO 49 3 (l.map encS))) (hj : H[q]? = some (.row ty 3 [encS x] own)) (hb : l.length ≤ 1000000000)
    (h : J (.c (grV H.length l2)) (H.set i .dead ++ [grO 49 3 (l2.map encS)])) : aBuiltin Tryz.prog .append #[91, 91] [.c (grV i l), .c (.sl (some (q, 0)) 1)] H J := by
  subst e
  exact app_grR (enc := encS) (e := 49) (sz := 3) (bs := 24) (z := [.int .i64 0, .int .i64 0, .int .i64 0]) l [x] (by kernel_rfl) (by kernel_rfl) (by kernel_rfl) (by kernel_rfl) hi (by rw [hj]; rfl) (by simp) rfl (by decide) (by simp; omega) (by simp; omega) h
theorem readFn_a {A : Hp} (hA : HOk A) (l : List Smp) (x : List UInt8) (hx : x.length ≤ 1000000) (hl : l.length ≤ 1000001)
    (hk1 : goodL x = true → K (.c (.bool true)) (A ++ [.row 91 1 [[grV (A.length + 2) ((l ++ [(rdLine x).getD ⟨0, 0, 0⟩]).map encS)]] true, .dead, grO 49 3 ((l ++ [(rdLine x).getD ⟨0, 0, 0⟩]).map encS)]))
    (hk2 : goodL x = false → ∀ G, 1 ≤ G.length → K (.c (.bool false)) (A ++ G)) : ACalls Tryz.prog 152 [.c (.str (tB x)), .c (.ptr (some (A.length, 0, 0)))] (A ++ accO 91 49 3 (A.length + 1) (l.map encS)) K := by
  have hmem := splitL_mem 32 x
  refine acalls Tryz.func152 rfl (by kernel_rfl) (by simp (disch := first | omega | (simp only [go_sem]; first | done | omega)) only [go_sem]) (fun hH => ?_)
  simp (disch := first | omega | (simp only [go_sem]; first | done | omega)) only [go_sem]
  refine wordsP_a x 3 hx ?_
  by_cases hw : (splitL 32 x).length = 3 ∧ [] ∉ splitL 32 x
  · rw [if_pos hw, decide_eq_true hw]
    obtain ⟨a, b, c, habc⟩ := three hw.1
    rw [habc] at hmem ⊢
    have ha := hmem a (by simp)
    have hb := hmem b (by simp)
    have hr : rdLine x = rdW [a, b, c] := by unfold rdLine; rw [habc]
    unfold accO
    simp (disch := first | omega | (simp only [go_sem]; first | done | omega)) only [go_sem]
    refine readW_a a b c (by omega) (by omega) ?_
    rw [← hr]
    generalize hz : (rdLine x).getD ⟨0, 0, 0⟩ = z at *
    simp (disch := first | omega | (simp only [go_sem]; first | done | omega)) only [go_sem]
    rw [map_grV]
    obtain ⟨l2, hl2⟩ : ∃ l2, l2 = l ++ [z] := ⟨_, rfl⟩
    rw [← hl2] at hk1
    refine appSmp l z l2 hl2 (at1 (by simp)) (at3 (by simp)) (by omega) ?_
    simp (disch := first | omega | (simp only [go_sem]; first | done | omega)) only [go_sem]
    cases hg : goodL x with
    | true =>
      have hg' : (rdLine x).isSome = true := hg
      rw [hg']
      intro _ _
      have hid : ∀ j, j < 2 → ([0, 1, 4] : List Nat).getD j 0 = j := by decide
      refine ⟨_, _, WkL.pickR (vs' := [(.c (.bool true))]) [0, 1, 4] 2 (L := [.row 91 1 [[grV (A.length + 2) (l2.map encS)]] true, .dead, grO 49 3 (l2.map encS)]) hA (Nat.le_refl _) (by simp) hid ?_ (by decide) ?_ ?_ ?_, hk1 hg⟩
      · simp only [List.map_cons, List.map_nil, row_ren, grV_ren, map_grV]
        rw [grO_ren _ _ _ (pureL_map _ (fun x => by simp [go_sem, AC.pure])), pickS_add]
        rfl
      · intro o ho
        simp only [List.mem_cons, List.not_mem_nil, or_false] at ho
        rcases ho with rfl | rfl | rfl
        · intro e he
          simp only [List.mem_cons, List.not_mem_nil, or_false] at he
          subst he
          refine ⟨rfl, fun x hx => ?_⟩
          simp only [List.mem_cons, List.not_mem_nil, or_false] at hx
          subst hx
          exact grV_ok (by simp) _
        · trivial
        · exact okN_grO (fun x => by simp [go_sem, AC.pure])
      · rfl
      · intro x hx
        rw [List.mem_singleton] at hx
        subst hx
        simp [AV.ok, AV.ok1, AC.ok]
    | false =>
      have hg' : (rdLine x).isSome = false := hg
      rw [hg']
      exact Ret.same (by simp) (hk2 hg _ (by simp))
  · rw [if_neg hw, decide_eq_false hw]
    have hg : goodL x = false := by
      unfold goodL rdLine
      cases h : rdW (splitL 32 x) with
      | none => rfl
      | some y => exact absurd (rdW_ne h) hw
    simp (disch := first | omega | (simp only [go_sem]; first | done | omega)) only [go_sem]
    exact Ret.same (by simp [accO]) (hk2 hg _ (by simp [accO]))
end Go.Proofs.YtebhpfhichdgaaaGreatDoor
