/- Several texts in one: sample, and what follows. No condition. -/
import Derived.Test.YtflklkijfkmeiaaGreatDoorHVTxtE
import Derived.Test.YtflklkijfkmeiaaGreatDoorHVGB
/- sample.Read. -/
namespace Go.Proofs.YtflklkijfkmeiaaGreatDoor
open Go Go.RowKit
set_option maxRecDepth 100000
set_option linter.all false
set_option maxHeartbeats 2000000
variable {H : Hp} {K : AV → Hp → Prop}
theorem three {ws : List (List UInt8)} (h : ws.length = 3) : ∃ a b c, ws = [a, b, c] := by
  match ws, h with
  | [a, b, c], _ => exact ⟨a, b, c, rfl⟩
theorem splitL_mem : ∀ (c : UInt8) (l w : List UInt8), w ∈ splitL c l → w.length ≤ l.length
  | c, [], w, h => by
    have : w = [] := by simpa [splitL] using h
    rw [this]; simp
  | c, x :: t, w, h => by
    rw [splitL_cons] at h
    have h0 := splitL_ne c t
    have ih := splitL_mem c t
    cases hs : splitL c t with
    | nil => exact absurd hs h0
    | cons y r =>
      rw [hs] at h ih
      simp only [List.headD_cons, List.tail_cons] at h
      split at h
      · rcases List.mem_cons.1 h with rfl | h
        · simp
        · have := ih w h; rw [List.length_cons]; omega
      · rcases List.mem_cons.1 h with rfl | h
        · have := ih y (by simp); simp only [List.length_cons]; omega
        · have := ih w (by simp [h]); rw [List.length_cons]; omega
end Go.Proofs.YtflklkijfkmeiaaGreatDoor
/- sample.Read. -/
namespace Go.Proofs.YtflklkijfkmeiaaGreatDoor
open Go Go.RowKit
set_option maxRecDepth 100000
set_option linter.all false
set_option maxHeartbeats 2000000
variable {H : Hp} {K : AV → Hp → Prop}
def grF (e sz : Nat) (l : List (List AC)) : AObj := match l with | [] => .dead | x :: xs => .row e sz (x :: xs) false
theorem ACalls.frzGr {P : Program} {f : FuncId} {rest : List AV} {i ty sz : Nat} {α : Type} {l : List α} {els : List (List AC)} (hi : H[i]? = some (grO ty sz els)) (hl : l.length = els.length) (hp : pureL els = true) (hr : rest.map (AV.frz1 i sz els) = rest)
    (h : ACalls P f (.c (.lst sz els) :: rest) (H.set i (grF ty sz els)) K) : ACalls P f (.c (grV i l) :: rest) H K := by
  cases els with
  | nil =>
    have h0 : l = [] := List.length_eq_zero_iff.1 hl
    subst h0
    rw [show grF ty sz [] = .dead from rfl, set_same (o := .dead) hi] at h
    refine ACalls.nilz [sz] (by simp) ?_
    exact h
  | cons y ys =>
    have h0 : l ≠ [] := by rintro rfl; simp at hl
    rw [grV_pos _ h0]
    refine ACalls.frz (i := i) (ty := ty) (sz := sz) (els := y :: ys) (own := true) hi hp ?_
    rw [List.map_cons, hr, show AV.frz1 i sz (y :: ys) (.c (.sl (some (i, 0)) l.length)) = .c (.lst sz (y :: ys)) by simp [AV.frz1, AC.frz, hl]]
    exact h
theorem Ret.frzFT {A G : Hp} {n ty sz : Nat} {l : List (List AC)} {x : AC} {ts : List AV} (j : Nat) (hA : HOk A) (hn : n ≤ A.length) (hj : G[j]? = some (grF ty sz l)) (hp : pureL l = true) (ht : tailOk ts = true) (hx : x = grV (A.length + j) l) (hk : K (.tup (.c (.lst sz l) :: ts)) A) : Ret n (.tup (.c x :: ts)) (A ++ G) K := by
  subst hx
  have ho : (AV.tup (.c (.lst sz l) :: ts)).ok A.length := by
    intro y hy
    rcases List.mem_cons.1 hy with rfl | hy
    · trivial
    · exact tail_ok1 _ ht y hy
  cases l with
  | nil =>
    refine Ret.nil [sz] (by simp; omega) ?_
    have e : (AV.tup (.c (grV (A.length + j) ([] : List (List AC))) :: ts)).nilz [sz] = .tup (.c (.lst sz []) :: ts) := by
      simp [AV.nilz, AV.nilz.go, grV, AC.nilz]
    rw [e]
    exact Ret.drop hA hn ho hk
  | cons y ys =>
    refine Ret.frzAt j hA hn hk hj hp ho ?_
    simp only [AV.frz, List.map_cons, tail_frz ht]
    simp [AV.frz1, AC.frz, grV]
theorem lns_mem (l w : List UInt8) (h : w ∈ lnsF l) : w.length ≤ l.length := splitL_mem 10 l w (by rw [splitL_lr]; exact List.mem_append_left _ h)
theorem lns_len (l : List UInt8) : (lnsF l).length ≤ l.length := by
  have h1 : (lnsF l).length + 1 = (splitL 10 l).length := by rw [splitL_lr, List.length_append, List.length_singleton]
  have h2 := splitL_len 10 l
  have h3 := List.length_filter_le (fun x => decide (x = 10)) l
  omega
end Go.Proofs.YtflklkijfkmeiaaGreatDoor
