/- Arrivals: the program's order; too many nodes. No condition. -/
import Derived.Test.YtppmkgaobeccfaaGreatDoorHVArrA
import Derived.Test.YtppmkgaobeccfaaGreatDoorHVMoment
import Derived.Test.YtppmkgaobeccfaaGreatDoorHCoreDrawS
namespace Go.Proofs.YtppmkgaobeccfaaGreatDoor
open Go Go.RowKit
set_option maxRecDepth 100000
set_option linter.all false
set_option maxHeartbeats 1000000
variable {H : Hp} {K : AV → Hp → Prop}
def domA (f : FuncId) : Bool := Nat.beq f 52 || Nat.beq f 92
def spA (f : FuncId) (args : List AV) : Option AV := match Nat.beq f 52, args with
  | true, [.c (.int .i64 x), .c (.int .i64 y)] => some (.c (.int .i64 (cmpI x y)))
  | false, [.c (.str x), .c (.str y)] => some (.c (.int .i64 (cmpS x y)))
  | _, _ => none
@[go_sem] theorem domA_y : domA 52 = true := (rfl)
@[go_sem] theorem domA_s : domA 92 = true := (rfl)
@[go_sem] theorem domA_n : domA 91 = false := (rfl)
@[go_sem] theorem spA_go (x y : Int) : spA 52 [(.c (.int .i64 x)), (.c (.int .i64 y))] = some (.c (.int .i64 (cmpI x y))) := (rfl)
@[go_sem] theorem spA_str (x y : ByteArray) : spA 92 [(.c (.str x)), (.c (.str y))] = some (.c (.int .i64 (cmpS x y))) := (rfl)
theorem specA_ok : SpecOk Tryz.prog domA spA := by
  intro f args v H K hd hs hk
  unfold domA at hd
  rw [Bool.or_eq_true] at hd
  unfold spA at hs
  rcases hd with hd | hd
  · have hf := Nat.eq_of_beq_eq_true hd
    subst hf
    split at hs
    · rename_i x y h
      injection hs with hs
      subst hs
      exact ⟨by kernel_rfl, rfl, compare_a x y hk⟩
    · rename_i h; cases h
    · cases hs
  · have hf := Nat.eq_of_beq_eq_true hd
    subst hf
    split at hs
    · rename_i h; cases h
    · rename_i x y h
      injection hs with hs
      subst hs
      exact ⟨by kernel_rfl, rfl, cmpStr_a x y hk⟩
    · cases hs
theorem arrC_go (a b : Arr) : firstE [cmpI a.t b.t, cmpS a.nd b.nd, cmpI a.p.n b.p.n] = arrC a b := by
  have h1 := cmpS_eq a.nd b.nd
  simp only [firstE, arrC, sgn, cmpI]
  by_cases h : a.t = b.t
  · by_cases h2 : a.nd = b.nd
    · grind
    · grind
  · grind
theorem byTime_a (a b : Arr) (hk : K (.c (.int .i64 (arrC a b))) H) : ACalls Tryz.prog 38 [.agg (encAr a), .agg (encAr b)] H K := by
  refine acalls Tryz.func38 rfl (by kernel_rfl) (by simp (disch := first | omega | (simp only [go_sem]; first | done | omega)) only [go_sem]) (fun hH => ?_)
  simp (disch := first | omega | (simp only [go_sem]; first | done | omega)) only [go_sem]
  refine w_drawS specA_ok (by kernel_rfl) (by decide +kernel) ?_
  simp (disch := first | omega | (simp only [go_sem]; first | done | omega)) only [go_sem]
  refine cmpOr_lit (cmpI a.t b.t) (cmpS a.nd b.nd) (cmpI a.p.n b.p.n) (by first | exact at0 (by simp) | exact at1 (by simp) | exact at2 (by simp) | exact at3 (by simp) | exact at4 (by simp) | exact at5 (by simp) | exact atG 6 (by simp) rfl | exact atG 7 (by simp) rfl | exact atG 8 (by simp) rfl | exact atG 9 (by simp) rfl | exact atG 10 (by simp) rfl | exact atG 11 (by simp) rfl | exact atG 12 (by simp) rfl | exact atG 13 (by simp) rfl | exact atG 14 (by simp) rfl | exact atG 15 (by simp) rfl | assumption) rfl rfl ?_
  rw [arrC_go]
  simp (disch := first | omega | (simp only [go_sem]; first | done | omega)) only [go_sem]
  exact Ret.drop hH (Nat.le_refl _) trivial hk
@[go_sem] theorem mapK_sb : mapK Tryz.prog 145 = some 9 := (by kernel_rfl)
@[go_sem] theorem mapZ_sb : (mapE Tryz.prog 145).bind (zeroA Tryz.prog) = some (.c (.bool false)) := (by kernel_rfl)
def encNn (n : ByteArray) : AV × AV := (.c (.str n), .c (.bool true))
def addN (l : List ByteArray) (n : ByteArray) : List ByteArray := if l.any (fun m => decide (n = m)) = true then l else l ++ [n]
theorem ups_node (a : ByteArray) : ∀ l : List ByteArray, upsert (fun n => decide (a = n)) a l = addN l a
  | [] => by simp [upsert, addN]
  | x :: l => by
    have ih := ups_node a l
    unfold addN at ih ⊢
    unfold upsert at ih ⊢
    rw [List.findIdx?_cons]
    by_cases h : a = x
    · subst h; simp
    · simp only [h, decide_false, Bool.false_eq_true, if_false, List.any_cons, Bool.false_or]
      cases hq : l.findIdx? (fun n => decide (a = n)) with
      | none =>
        rw [hq] at ih
        dsimp only [Option.map_none] at ih ⊢
        by_cases h2 : l.any (fun m => decide (a = m)) = true
        · rw [if_pos h2] at ih
          have := congrArg List.length ih
          simp at this
        · simp [h2]
      | some j =>
        rw [hq] at ih
        dsimp only [Option.map_some] at ih ⊢
        by_cases h2 : l.any (fun m => decide (a = m)) = true
        · rw [if_pos h2] at ih ⊢
          simp [ih]
        · rw [if_neg h2] at ih
          have := congrArg List.length ih
          simp at this
theorem put_node {kt : TypeId} (a : ByteArray) (l : List ByteArray) (ht : keyT Tryz.prog kt (.c (.str a)) = true) : mapPut Tryz.prog kt (.c (.str a)) (.c (.bool true)) (l.map encNn) = some ((addN l a).map encNn) := by
  rw [← ups_node]
  exact put_of (e := encNn) (p := fun n => decide (a = n)) (x := a) ht (findA_str a (fun x : ByteArray => x) (fun _ : ByteArray => .c (.bool true)) l) rfl
/-- the nodes, each once -/
def nodesF (l : List Arr) : List ByteArray := l.foldl (fun s x => addN s x.nd) []
theorem nodesF_next {l : List Arr} {k : Nat} (h : k < l.length) : nodesF (l.take (k + 1)) = addN (nodesF (l.take k)) l[k].nd := by
  unfold nodesF; rw [List.take_succ_eq_append_getElem h, List.foldl_append]; rfl
theorem okN_nodes (S : List ByteArray) (n : Nat) : (mpO (S.map encNn)).okN n := by
  unfold mpO AObj.okN
  intro p hp
  obtain ⟨x, _, rfl⟩ := List.mem_map.1 hp
  exact ⟨trivial, trivial⟩
theorem crowded_a (l : List Arr) (hl : l.length ≤ 1000000) (hk : K (.c (.bool (decide (50 < (nodesF l).length)))) H) : ACalls Tryz.prog 41 [.c (.lst 7 (l.map encAr))] H K := by
  refine acalls Tryz.func41 rfl (by kernel_rfl) (by simp (disch := first | omega | (simp only [go_sem]; first | done | omega)) only [go_sem]) (fun hH => ?_)
  simp (disch := first | omega | (simp only [go_sem]; first | done | omega)) only [go_sem]
  refine AWp.loop (H.length + 1) [3, 7, 8] [9] (fun (k : Nat) => k ≤ l.length) (fun (k : Nat) => [(9, (.c (.int .i64 k)))]) (fun (k : Nat) => H ++ [mpO ((nodesF (l.take k)).map encNn)]) (fun (k : Nat) => l.length - k) (by kernel_rfl) (fun _ => rfl) (by kernel_rfl) (by first | (simp; done) | omega) (by first | (simp; done) | (simp; omega) | omega) (by (try simp only [List.forall_mem_cons, List.not_mem_nil, false_implies, implies_true, and_true]); (try simp (disch := first | omega | (simp only [go_sem]; first | done | omega)) only [go_sem]); all_goals first | trivial | (simp [AV.ok, AV.ok1, AC.ok]; done) | (simp [AV.ok, AV.ok1, AC.ok]; omega) | (simp [AV.ok, AV.ok1, AC.ok]; assumption) | ((repeat' apply And.intro) <;> first | trivial | (simp [AV.ok, AV.ok1, AC.ok]; done) | (simp [AV.ok, AV.ok1, AC.ok]; omega) | (simp [AV.ok, AV.ok1, AC.ok]; assumption) | (refine grV_ok ?_ _; first | (simp; done) | (simp; omega) | omega))) ?_ (fun k hk1 _ _ => ?_)
  · refine Next.mk 0 (by omega) ?_
    (try simp (disch := first | omega | (simp only [go_sem]; first | done | omega)) only [go_sem]); (first | refine WkL.eq ?_ ?_ | refine WkL.rest (by assumption) ?_ ?_ ?_ | refine WkL.keepL (by assumption) rfl ?_ ?_ ?_ ?_) <;> first | rfl | (simp; done) | (simp; omega) | (simp only [List.cons.injEq, AV.c.injEq, AC.int.injEq, AC.bool.injEq, AC.str.injEq, and_true, true_and, Int.natCast_add, Int.natCast_one, Int.cast_ofNat_Int]; omega) | (simp [AV.ok, AV.ok1, AC.ok]; done) | (simp [AV.ok, AV.ok1, AC.ok]; omega) | (simp only [List.forall_mem_cons, List.not_mem_nil, false_implies, implies_true, and_true]; (repeat' apply And.intro) <;> first | exact okN_map (fun x => by simp [go_sem, AC.pure]) | exact okN_grO (fun x => by simp [go_sem, AC.pure]) | (simp [AObj.okN, AC.ok]; done) | (simp [AObj.okN, AC.ok]; omega)) | (simp [*]; done) | grind
  by_cases hlt : k < l.length
  · obtain ⟨x, hx⟩ : ∃ x, x = l[k] := ⟨_, rfl⟩
    have hnx := nodesF_next hlt
    rw [← hx] at hnx
    generalize nodesF (l.take k) = S at *
    simp (disch := first | omega | (simp only [go_sem]; first | done | omega)) only [go_sem, hlt, ← hx]
    refine mup_mp (by kernel_rfl) (put_node _ S (by kernel_rfl)) ?_
    simp (disch := first | omega | (simp only [go_sem]; first | done | omega)) only [go_sem]
    refine Next.mk (k + 1) ⟨by omega, by omega⟩ ?_
    rw [hnx]
    refine WkL.keepL hH rfl (by simp) rfl ?_ ?_
    · intro o ho
      simp only [List.mem_singleton] at ho
      subst ho
      exact okN_nodes _ _
    · intro v hv
      simp only [newV, List.map_cons, List.map_nil, List.mem_cons, List.not_mem_nil, or_false] at hv
      subst hv
      trivial
  · simp (disch := first | omega | (simp only [go_sem]; first | done | omega)) only [go_sem, hlt]
    refine ⟨by kernel_rfl, ?_⟩
    refine Ret.dropE hH (Nat.le_refl _) hk trivial ?_
    simp only [AV.c.injEq, AC.bool.injEq]
    exact decide_eq_decide.2 (by omega)
end Go.Proofs.YtppmkgaobeccfaaGreatDoor
