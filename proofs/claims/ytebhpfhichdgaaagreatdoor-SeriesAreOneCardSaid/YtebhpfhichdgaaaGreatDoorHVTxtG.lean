/- sample.Read. -/
import Derived.Test.YtebhpfhichdgaaaGreatDoorHVTxtF
namespace Go.Proofs.YtebhpfhichdgaaaGreatDoor
open Go Go.RowKit
set_option maxRecDepth 100000
set_option linter.all false
set_option maxHeartbeats 2000000
variable {H : Hp} {K : AV → Hp → Prop}
def grF (e sz : Nat) (l : List (List AC)) : AObj := match l with | [] => .dead | x :: xs => .row e sz (x :: xs) false
theorem ACalls.frzGr {P : Program} {f : FuncId} {rest : List AV} {i ty sz : Nat} {α : Type} {l : List α} {els : List (List AC)} (hi : H[i]? = some (grO ty sz els)) (hl : l.length = els.length) (hp : pureL els = true) (hr : rest.map (AV.frz1 i sz els) = rest)
    (h : ACalls P f (.c (.lst sz els) :: rest) (H.set i (grF ty sz els)) K) : ACalls P f (.c (grV i l) :: rest) H K := by
  cases els with
  | nil =>
    have h0 : l = [] := List.length_eq_zero_iff.1 hl
    subst h0
    rw [show grF ty sz [] = .dead from rfl, set_same (o := .dead) hi] at h
    refine ACalls.nilz [sz] (by simp) ?_
    exact h
  | cons y ys =>
    have h0 : l ≠ [] := by rintro rfl; simp at hl
    rw [grV_pos _ h0]
    refine ACalls.frz (i := i) (ty := ty) (sz := sz) (els := y :: ys) (own := true) hi hp ?_
    rw [List.map_cons, hr, show AV.frz1 i sz (y :: ys) (.c (.sl (some (i, 0)) l.length)) = .c (.lst sz (y :: ys)) by simp [AV.frz1, AC.frz, hl]]
    exact h
theorem Ret.frzFT {A G : Hp} {n ty sz : Nat} {l : List (List AC)} {x : AC} {ts : List AV} (j : Nat) (hA : HOk A) (hn : n ≤ A.length) (hj : G[j]? = some (grF ty sz l)) (hp : pureL l = true) (ht : tailOk ts = true) (hx : x = grV (A.length + j) l) (hk : K (.tup (.c (.lst sz l) :: ts)) A) : Ret n (.tup (.c x :: ts)) (A ++ G) K := by
  subst hx
  have ho : (AV.tup (.c (.lst sz l) :: ts)).ok A.length := by
    intro y hy
    rcases List.mem_cons.1 hy with rfl | hy
    · trivial
    · exact tail_ok1 _ ht y hy
  cases l with
  | nil =>
    refine Ret.nil [sz] (by simp; omega) ?_
    have e : (AV.tup (.c (grV (A.length + j) ([] : List (List AC))) :: ts)).nilz [sz] = .tup (.c (.lst sz []) :: ts) := by
      simp [AV.nilz, AV.nilz.go, grV, AC.nilz]
    rw [e]
    exact Ret.drop hA hn ho hk
  | cons y ys =>
    refine Ret.frzAt j hA hn hk hj hp ho ?_
    simp only [AV.frz, List.map_cons, tail_frz ht]
    simp [AV.frz1, AC.frz, grV]
theorem ssR_all : ∀ (M : List (List UInt8)), okC goodL M = M.length → ssR M M.length = M.filterMap rdLine
  | [], _ => rfl
  | x :: t, h => by
    unfold okC at h
    rw [List.takeWhile_cons] at h
    by_cases hx : goodL x = true
    · rw [if_pos hx, List.length_cons, List.length_cons] at h
      have ih := ssR_all t (by unfold okC; omega)
      obtain ⟨y, hy⟩ := Option.isSome_iff_exists.1 hx
      unfold ssR at ih ⊢
      rw [List.take_length] at ih ⊢
      rw [List.map_cons, ih, List.filterMap_cons, hy]
      rfl
    · rw [if_neg hx] at h
      simp at h
theorem encS_pure (l : List Smp) : pureL (l.map encS) = true := pureL_map _ (fun x => by simp [go_sem, AC.pure])
theorem lns_mem (l w : List UInt8) (h : w ∈ lnsF l) : w.length ≤ l.length := splitL_mem 10 l w (by rw [splitL_lr]; exact List.mem_append_left _ h)
theorem lns_len (l : List UInt8) : (lnsF l).length ≤ l.length := by
  have h1 : (lnsF l).length + 1 = (splitL 10 l).length := by rw [splitL_lr, List.length_append, List.length_singleton]
  have h2 := splitL_len 10 l
  have h3 := List.length_filter_le (fun x => decide (x = 10)) l
  omega
theorem readT_a (l : List UInt8) (hl : l.length ≤ 1000000) (hk : K (.tup [.c (.lst 3 ((txtR l).1.map encS)), (.c (.int .i64 ((txtR l).2.1))), (.c (.int .i64 ((txtR l).2.2)))]) H) : ACalls Tryz.prog 59 [(.c (.str (tB l)))] H K := by
  have hsz := tB_size l
  by_cases h1 : 200000 < l.length
  · rw [show txtR l = ([], 0, 2) by unfold txtR; rw [if_pos h1]] at hk
    refine acalls Tryz.func59 rfl (by kernel_rfl) (by simp (disch := first | omega | (simp only [go_sem]; first | done | omega)) only [go_sem]) (fun hH => ?_)
    simp (disch := first | omega | (simp only [go_sem]; first | done | omega)) only [go_sem, hsz, h1]
    have := Ret.nilT (G := []) (sz := 3) hH (Nat.le_refl _) rfl hk
    rwa [List.append_nil] at this
  have hlen := lns_len l
  refine acalls Tryz.func59 rfl (by kernel_rfl) (by simp (disch := first | omega | (simp only [go_sem]; first | done | omega)) only [go_sem]) (fun hH => ?_)
  simp (disch := first | omega | (simp only [go_sem]; first | done | omega)) only [go_sem, hsz, h1]
  refine each_a hH 152 91 49 3 l hl goodL (fun k => (ssR (lnsF l) k).map encS) rfl (fun k => encS_pure _) (fun k n => okN_grO (fun x => by simp [go_sem, AC.pure])) (by kernel_rfl) (fun k x hx hg K' hK' => ?_) (fun k x hx hg K' hK' => ?_) (fun hall hend => ?_) (fun hbad G hG => ?_)
  · have hxl := lns_mem l x (List.mem_of_getElem? hx)
    have hkl : (ssR (lnsF l) k).length ≤ k := by unfold ssR; rw [List.length_map, List.length_take]; omega
    have hkk := getElem?_lt hx
    rw [ssR_next hx] at hK'
    exact readFn_a hH (ssR (lnsF l) k) x (by omega) (by omega) (fun _ => hK') (fun h => by rw [hg] at h; cases h)
  · have hxl := lns_mem l x (List.mem_of_getElem? hx)
    have hkl : (ssR (lnsF l) k).length ≤ k := by unfold ssR; rw [List.length_map, List.length_take]; omega
    have hkk := getElem?_lt hx
    exact readFn_a hH (ssR (lnsF l) k) x (by omega) (by omega) (fun h => by rw [hg] at h; cases h) (fun _ => hK')
  · have hrem : remF l = [] := of_decide_eq_true hend
    rw [ssR_all _ hall]
    have hok : ¬ okLn rdLine (lnsF l) < (lnsF l).length := by
      have : okLn rdLine (lnsF l) = okC goodL (lnsF l) := rfl
      omega
    unfold txtR at hk
    rw [if_neg h1, if_neg hok, if_neg (by simp [hrem])] at hk
    have hfl := List.length_filterMap_le rdLine (lnsF l)
    generalize (lnsF l).filterMap rdLine = S at *
    unfold accO
    simp (disch := first | omega | (simp only [go_sem]; first | done | omega)) only [go_sem]
    rw [map_grV]
    refine ACalls.frzGr (els := S.map encS) (by first | ((repeat first | exact at0 (by simp) | refine atS ?_); done) | assumption) (by simp) (encS_pure S) rfl ?_
    refine checkSeries_a S (by omega) ?_
    by_cases h2 : serF S = 0
    · rw [if_neg (by simp [h2]), h2] at *
      simp (disch := first | omega | (simp only [go_sem]; first | done | omega)) only [go_sem]
      exact Ret.frzFT (ty := 49) 1 hH (Nat.le_refl _) rfl (encS_pure S) rfl (map_grV _ _ _).symm hk
    · rw [if_pos h2] at hk
      simp (disch := first | omega | (simp only [go_sem]; first | done | omega)) only [go_sem, h2]
      exact Ret.nilT hH (Nat.le_refl _) rfl hk
  · unfold txtR at hk
    rw [if_neg h1] at hk
    have : okLn rdLine (lnsF l) = okC goodL (lnsF l) := rfl
    have hle := okC_le goodL (lnsF l)
    by_cases h3 : okLn rdLine (lnsF l) < (lnsF l).length
    · rw [if_pos h3, this] at hk
      simp (disch := first | omega | (simp only [go_sem]; first | done | omega)) only [go_sem]
      exact Ret.nilT hH (Nat.le_refl _) rfl hk
    · rw [if_neg h3] at hk
      have h4 : okC goodL (lnsF l) = (lnsF l).length := by omega
      have h5 : remF l ≠ [] := fun e => hbad ⟨h4, decide_eq_true e⟩
      rw [if_pos h5] at hk
      simp (disch := first | omega | (simp only [go_sem]; first | done | omega)) only [go_sem]
      rw [h4]
      exact Ret.nilT hH (Nat.le_refl _) rfl hk
end Go.Proofs.YtebhpfhichdgaaaGreatDoor
