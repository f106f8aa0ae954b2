/- sample.Merge of series of any length. Condition: lengths are no more than a machine holds. -/
import Derived.WalkKit
import Derived.BigQuiet
import Derived.Deep.QuietTactic
import Derived.StillTailTactics
import Derived.Test.YtebhpfhichdgaaaGreatDoorHVMrgM
import Derived.Test.YtebhpfhichdgaaaGreatDoorHVSrtM
import Derived.Test.YtebhpfhichdgaaaGreatDoorHVGA
namespace Go.Proofs.YtebhpfhichdgaaaGreatDoor
open Go Go.RowKit Go.Shelf
set_option maxRecDepth 100000
set_option linter.all false
set_option maxHeartbeats 2000000
variable {H : Hp} {K : AV → Hp → Prop}
theorem isNanW (x : Int) (W : World) : Calls Tryz.prog 290 #[.int .i64 x] W fun e w' => e = .returned (.bool false) ∧ w' = W := by
  go_enter Tryz.func290, Tryz.ntmps290
  go_wp2
  go_ret
  exact ⟨by simp, rfl⟩
theorem cmpIW (x y : Int) (W : World) : Calls Tryz.prog 233 #[.int .i64 x, .int .i64 y] W fun e w' => e = .returned (.int .i64 (cmpI x y)) ∧ w' = W := by
  unfold cmpI
  rcases Int.lt_trichotomy x y with h | h | h
  · rw [if_pos h]
    go_enter Tryz.func233, Tryz.ntmps233
    go_wp2_with (go_at_call 290; refine (isNanW _ _).mono ?_; rintro e w' ⟨rfl, rfl⟩)
    go_ret
    exact ⟨rfl, rfl⟩
  · subst h
    rw [if_neg (by omega), if_neg (by omega)]
    go_enter Tryz.func233, Tryz.ntmps233
    go_wp2_with (go_at_call 290; refine (isNanW _ _).mono ?_; rintro e w' ⟨rfl, rfl⟩)
    go_ret
    exact ⟨rfl, rfl⟩
  · rw [if_neg (by omega), if_pos h]
    go_enter Tryz.func233, Tryz.ntmps233
    go_wp2_with (go_at_call 290; refine (isNanW _ _).mono ?_; rintro e w' ⟨rfl, rfl⟩)
    go_ret
    exact ⟨rfl, rfl⟩
def intV : Value → Int
  | .int _ n => n
  | _ => 0
theorem cmpOrW (a b c : Int) (ad : Addr) (cap : Nat) (w : World) (h0 : w.cell? ad = some (.int .i64 a)) (h1 : w.cell? (ad.add 1) = some (.int .i64 b)) (h2 : w.cell? (ad.add 2) = some (.int .i64 c)) : Calls Tryz.prog 232 #[.slice (some ad) 3 cap] w fun e w' => e = .returned (.int .i64 (firstE [a, b, c])) ∧ w' = w := by
  have key : ∀ k : Nat, k < 3 → ∃ x, w.cell? (ad.add k) = some (.int .i64 x) ∧ firstE ([a, b, c].drop k) = if x = 0 then firstE ([a, b, c].drop (k + 1)) else x := by
    intro k hk
    obtain rfl | rfl | rfl : k = 0 ∨ k = 1 ∨ k = 2 := by omega
    · exact ⟨a, by simpa [Addr.add] using h0, rfl⟩
    · exact ⟨b, h1, rfl⟩
    · exact ⟨c, h2, rfl⟩
  go_enter Tryz.func232, Tryz.ntmps232
  go_wp2_with fail
  go_loopw [8] (fun i wr => ∃ k : Nat, k ≤ 3 ∧ i = .int .i64 (k : Int) ∧ wr = w ∧ firstE [a, b, c] = firstE ([a, b, c].drop k)) (fun i _ => 3 - (intV i).toNat)
  case atStart => exact ⟨0, by omega, rfl, rfl, rfl⟩
  case round =>
    obtain ⟨k, hk, rfl, rfl, hE⟩ := hrel
    have HE : Hid (_ = _) := hE
    clear hE
    by_cases hlt : k < 3
    · obtain ⟨x, hx, hS⟩ := key k hlt
      have HS : Hid (_ = _) := hS
      clear hS key h0 h1 h2
      by_cases h0 : x = 0
      · subst h0
        go_wp2_with fail
        go_roundw
        case rel => exact ⟨k + 1, by omega, by go_num, trivial, HE.out.trans (HS.out.trans (if_pos rfl))⟩
        case measure => simp [intV]; omega
      · go_wp2_with fail
        go_ret
        refine ⟨?_, rfl⟩
        rw [HE.out, HS.out, if_neg h0]
        rfl
    · obtain rfl : k = 3 := by omega
      go_wp2_with fail
      go_ret
      exact ⟨by rw [HE.out]; rfl, rfl⟩
theorem byMomW (x1 x2 x3 y1 y2 y3 : Int) (W : World) : Calls Tryz.prog 149 #[.agg #[.int .i64 x1, .int .i64 x2, .int .i64 x3], .agg #[.int .i64 y1, .int .i64 y2, .int .i64 y3]] W fun e w' => e = .returned (.int .i64 (firstE [cmpI x1 y1, cmpI x3 y3, cmpI y2 x2])) ∧ ∃ q os', w' = Go.Sort.grow (W.drewN q) os' := by
  have c1 := cmpIW x1 y1
  have c2 := cmpIW x3 y3
  have c3 := cmpIW y2 x2
  generalize cmpI x1 y1 = r1 at *
  generalize cmpI x3 y3 = r2 at *
  generalize cmpI y2 x2 = r3 at *
  go_enter Tryz.func149, Tryz.ntmps149
  go_wp2_with fail
  have hn : ((W.alloc (Obj.cells #[Value.int IntKind.i64 x1, Value.int IntKind.i64 x2, Value.int IntKind.i64 x3] 49)).alloc (Obj.cells #[Value.int IntKind.i64 y1, Value.int IntKind.i64 y2, Value.int IntKind.i64 y3] 49)) = Go.Sort.grow W #[Obj.cells #[Value.int IntKind.i64 x1, Value.int IntKind.i64 x2, Value.int IntKind.i64 x3] 49, Obj.cells #[Value.int IntKind.i64 y1, Value.int IntKind.i64 y2, Value.int IntKind.i64 y3] 49] := by
    rw [Go.Sort.alloc_eq_grow, Go.Sort.alloc_eq_grow, Go.Sort.grow_grow]; rfl
  generalize hw2 : ((W.alloc (Obj.cells #[Value.int IntKind.i64 x1, Value.int IntKind.i64 x2, Value.int IntKind.i64 x3] 49)).alloc (Obj.cells #[Value.int IntKind.i64 y1, Value.int IntKind.i64 y2, Value.int IntKind.i64 y3] 49)) = w2 at *
  have f1 : ({ w2 with drawn := w2.drawn + 1 } : World).cell? ⟨W.heap.size, 0, none⟩ = some (.int .i64 x1) := by rw [show ({ w2 with drawn := w2.drawn + 1 } : World) = w2.drew from rfl, ← hw2]; simp
  have f2 : ({ w2 with drawn := w2.drawn + 1 } : World).cell? ⟨W.heap.size, 1, none⟩ = some (.int .i64 x2) := by rw [show ({ w2 with drawn := w2.drawn + 1 } : World) = w2.drew from rfl, ← hw2]; simp
  have f3 : ({ w2 with drawn := w2.drawn + 1 } : World).cell? ⟨W.heap.size, 2, none⟩ = some (.int .i64 x3) := by rw [show ({ w2 with drawn := w2.drawn + 1 } : World) = w2.drew from rfl, ← hw2]; simp
  have g1 : ({ w2 with drawn := w2.drawn + 1 } : World).cell? ⟨W.heap.size + 1, 0, none⟩ = some (.int .i64 y1) := by rw [show ({ w2 with drawn := w2.drawn + 1 } : World) = w2.drew from rfl, ← hw2]; simp
  have g2 : ({ w2 with drawn := w2.drawn + 1 } : World).cell? ⟨W.heap.size + 1, 1, none⟩ = some (.int .i64 y2) := by rw [show ({ w2 with drawn := w2.drawn + 1 } : World) = w2.drew from rfl, ← hw2]; simp
  have g3 : ({ w2 with drawn := w2.drawn + 1 } : World).cell? ⟨W.heap.size + 1, 2, none⟩ = some (.int .i64 y3) := by rw [show ({ w2 with drawn := w2.drawn + 1 } : World) = w2.drew from rfl, ← hw2]; simp
  have hd : Hid (({ w2 with drawn := w2.drawn + 1 } : World) = Go.Sort.grow (W.drewN 1) #[Obj.cells #[Value.int IntKind.i64 x1, Value.int IntKind.i64 x2, Value.int IntKind.i64 x3] 49, Obj.cells #[Value.int IntKind.i64 y1, Value.int IntKind.i64 y2, Value.int IntKind.i64 y3] 49]) := by
    show ({ w2 with drawn := w2.drawn + 1 } : World) = Go.Sort.grow (W.drewN 1) #[Obj.cells #[Value.int IntKind.i64 x1, Value.int IntKind.i64 x2, Value.int IntKind.i64 x3] 49, Obj.cells #[Value.int IntKind.i64 y1, Value.int IntKind.i64 y2, Value.int IntKind.i64 y3] 49]
    rw [hn]
    rfl
  refine wp_region_still_tail 15 (by kernel_rfl) (by kernel_rfl) ?_
  simp only [List.take_succ_cons, List.take_zero, List.drop_succ_cons, List.drop_zero]
  clear hw2 hn
  generalize ({ w2 with drawn := w2.drawn + 1 } : World) = w3 at *
  repeat still_step
  still_call (c1 _)
  repeat still_step
  still_call (c2 _)
  repeat still_step
  still_call (c3 _)
  repeat still_step
  try refine wpStill_nil ?_
  go_wp2_with (go_at_call 232; refine (cmpOrW r1 r2 r3 _ _ _ ?o0 ?o1 ?o2).mono ?_)
  case o0 => simp
  case o1 => simp [Addr.add]
  case o2 => simp [Addr.add]
  rintro e w' ⟨rfl, rfl⟩
  go_wp2
  go_ret
  exact ⟨rfl, 1, _, (congrArg (fun z : World => z.alloc (Obj.cells #[Value.int IntKind.i64 r1, Value.int IntKind.i64 r2, Value.int IntKind.i64 r3] 3)) hd.out).trans ((Go.Sort.alloc_eq_grow _ _).trans (Go.Sort.grow_grow _ _ _))⟩
theorem momW : ∀ (x y : Smp) (W : World), True → True → Calls Tryz.prog 149 #[.agg (encV encS x).toArray, .agg (encV encS y).toArray] W fun e w' => e = .returned (.int .i64 (momC x y)) ∧ ∃ q os', w' = Go.Sort.grow (W.drewN q) os' := fun x y W _ _ => byMomW x.t x.v x.q y.t y.v y.q W
theorem swoMom : Go.Sort.SWO (ltOf fun x y : {x : Smp // True} => momC x.1 y.1) where
  irrefl := fun x => swoM.irrefl x.1
  trans := fun x y z => swoM.trans x.1 y.1 z.1
  ntrans := fun x y z => swoM.ntrans x.1 y.1 z.1
def srtM (l : List Smp) : List Smp := l.mergeSort fun x y => !ltM y x
theorem srtM_perm (l : List Smp) : (srtM l).Perm l := List.mergeSort_perm _ _
theorem srtM_sorted (l : List Smp) : (srtM l).Pairwise (fun x y => ltM y x = false) := by
  have h := List.pairwise_mergeSort (le := fun x y : Smp => !ltM y x) (fun a b c h1 h2 => by
    rw [Bool.not_eq_true'] at h1 h2 ⊢
    exact swoM.ntrans _ _ _ h2 h1) (fun a b => by
    rw [Bool.or_eq_true, Bool.not_eq_true', Bool.not_eq_true', Bool.eq_false_iff, Bool.eq_false_iff, ne_eq, ne_eq, ltM_iff, ltM_iff]
    omega) l
  exact h.imp fun h => by simpa using h
theorem ltM_anti {x y : Smp} (h1 : ltM y x = false) (h2 : ltM x y = false) : x = y := by
  rw [Bool.eq_false_iff, ne_eq, ltM_iff] at h1 h2
  cases x; cases y
  simp only [Smp.mk.injEq] at *
  omega
theorem srtM_one {l l' : List Smp} (hp : l'.Perm l) (hs : l'.Pairwise (fun x y => ltM y x = false)) : l' = srtM l :=
  List.Perm.eq_of_pairwise (le := fun x y : Smp => ltM y x = false) (fun _ _ _ _ h1 h2 => ltM_anti h1 h2) hs (srtM_sorted l) (hp.trans (srtM_perm l).symm)
theorem sortM_a {i : Nat} (l : List Smp) (hi : H[i]? = some (grO 49 3 (l.map encS))) (hlen : l.length ≤ 1000000)
    (hk : K (.tup []) (H.set i (grO 49 3 ((srtM l).map encS)))) :
    ACalls Tryz.prog 148 [.c (grV i l), .c (.fn 149 [] [])] H K := by
  by_cases h : l = []
  · subst h
    have this : K (.tup []) (H.set i .dead) := by rw [show srtM [] = [] from List.mergeSort_nil] at hk; exact hk
    rw [set_same (o := .dead) hi] at this
    exact sortNilT_a this
  · have h2 : l.map encS ≠ [] := by simpa using h
    rw [grO_pos _ _ h2] at hi
    rw [grV_pos _ h]
    refine sortP_a sfLaySm (fun w => by kernel_rfl) (fun w => by kernel_rfl) encS_flat (by omega) (fun _ => True) momC swoMom (fun args w => enters_of Tryz.func149 (by kernel_rfl) rfl args w) momW l hi rfl h (fun _ _ => trivial) hlen (fun l' h3 h4 => ?_)
    have e : l' = srtM l := srtM_one h3 (h4.imp fun h => by unfold ltM; simpa using h)
    subst e
    have h5 : (srtM l).map encS ≠ [] := by
      intro e
      have := congrArg List.length e
      rw [List.length_map, (srtM_perm l).length_eq] at this
      exact h (List.length_eq_zero_iff.1 this)
    rw [grO_pos _ _ h5] at hk
    exact hk
def mrgF (a b : List Smp) : List Smp := compactG sameT (srtM (a ++ b))
theorem mrgF_le (a b : List Smp) : (mrgF a b).length ≤ a.length + b.length := by
  have h1 := compactG_le sameT (srtM (a ++ b))
  rw [(srtM_perm _).length_eq, List.length_append] at h1
  exact h1
theorem mergeK_a (a b : List Smp) (hl : a.length + b.length ≤ 100000) (hk1 : firstE [serF a, serF b] ≠ 0 → K (.tup [.c (.lst 3 []), (.c (.int .i64 (firstE [serF a, serF b])))]) H)
    (hk0 : firstE [serF a, serF b] = 0 → K (if 5000 < (mrgF a b).length then .tup [.c (.lst 3 []), (.c (.int .i64 2))] else .tup [.c (.lst 3 ((mrgF a b).map encS)), (.c (.int .i64 0))]) H) :
    ACalls Tryz.prog 57 [.c (.lst 3 (a.map encS)), .c (.lst 3 (b.map encS))] H K := by
  have hpl : (srtM (a ++ b)).length = a.length + b.length := by rw [(srtM_perm _).length_eq, List.length_append]
  have hcl := mrgF_le a b
  refine acalls Tryz.func57 rfl (by kernel_rfl) (by simp (disch := first | omega | (simp only [go_sem]; first | done | omega)) only [go_sem]) (fun hH => ?_)
  simp (disch := first | omega | (simp only [go_sem]; first | done | omega)) only [go_sem]
  refine checkSeries_a a (by omega) ?_
  simp (disch := first | omega | (simp only [go_sem]; first | done | omega)) only [go_sem]
  refine checkSeries_a b (by omega) ?_
  simp (disch := first | omega | (simp only [go_sem]; first | done | omega)) only [go_sem]
  refine ACalls.lit (i := H.length) (by first | ((repeat first | exact at0 (by simp) | refine atS ?_); done) | assumption) (by simp [pureL, AC.pure]) (args' := [.c (.lst 1 ([serF a, serF b].map encI))]) (by simp [AV.frz1, AC.frz, encI]) (first_a [serF a, serF b] (by simp) ?_)
  simp (disch := first | omega | (simp only [go_sem]; first | done | omega)) only [go_sem]
  by_cases h0 : firstE [serF a, serF b] = 0
  · have hk := hk0 h0
    rw [h0]
    simp (disch := first | omega | (simp only [go_sem]; first | done | omega)) only [go_sem]
    refine ACalls.lit (i := H.length + 1) (by first | ((repeat first | exact at0 (by simp) | refine atS ?_); done) | assumption) (by simp [pureL, AC.pure]) (args' := [.c (.lst 1 [[.lst 3 (a.map encS)], [.lst 3 (b.map encS)]])]) (by simp [AV.frz1, AC.frz]) (concatS_a a b (by omega) (by omega) ?_)
    simp (disch := first | omega | (simp only [go_sem]; first | done | omega)) only [go_sem]
    refine sortM_a (a ++ b) (by first | ((repeat first | exact at0 (by simp) | refine atS ?_); done) | assumption) (by rw [List.length_append]; omega) ?_
    simp (disch := first | omega | (simp only [go_sem]; first | done | omega)) only [go_sem]
    rw [grV_len _ (a ++ b) (srtM (a ++ b)) (by rw [hpl, List.length_append])]
    refine compactGrS_a eqM (srtM (a ++ b)) (by first | ((repeat first | exact at0 (by simp) | refine atS ?_); done) | assumption) (by omega) ?_
    rw [show compactG sameT (srtM (a ++ b)) = mrgF a b from rfl]
    by_cases h5 : 5000 < (mrgF a b).length
    · rw [if_pos h5] at hk
      have h5' : (5000 : Int) < (mrgF a b).length := by omega
      simp (disch := first | omega | (simp only [go_sem]; first | done | omega)) only [go_sem, h5']
      exact Ret.nilT hH (Nat.le_refl _) rfl hk
    · rw [if_neg h5] at hk
      have h5' : ¬ (5000 : Int) < (mrgF a b).length := by omega
      simp (disch := first | omega | (simp only [go_sem]; first | done | omega)) only [go_sem, h5']
      exact Ret.drop hH (Nat.le_refl _) (by simp [AV.ok, AV.ok1, AC.ok]) hk
  · simp (disch := first | omega | (simp only [go_sem]; first | done | omega)) only [go_sem]
    exact Ret.nilT hH (Nat.le_refl _) rfl (hk1 h0)
end Go.Proofs.YtebhpfhichdgaaaGreatDoor
