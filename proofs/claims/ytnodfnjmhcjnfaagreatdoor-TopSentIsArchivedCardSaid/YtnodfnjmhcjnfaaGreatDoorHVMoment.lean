/- Several texts in one: The order of samples; the package merges something, and what follows. No condition. -/
import Derived.Test.YtnodfnjmhcjnfaaGreatDoorHCoreD
import Derived.Test.YtnodfnjmhcjnfaaGreatDoorHCoreDrawS
import Derived.Test.YtnodfnjmhcjnfaaGreatDoorHVGA
import Derived.Test.YtnodfnjmhcjnfaaGreatDoorHVBack
import Derived.Test.YtnodfnjmhcjnfaaGreatDoorHVBufG
/- The order of samples; the package merges something. No condition. -/
namespace Go.Proofs.YtnodfnjmhcjnfaaGreatDoor
open Go Go.RowKit
set_option maxRecDepth 100000
set_option linter.all false
set_option maxHeartbeats 1000000
variable {H : Hp} {K : AV → Hp → Prop}
theorem cmpOr_a (l : List Int) (hl : l.length ≤ 1000000) (hk : K (.c (.int .i64 (firstE l))) H) : ACalls Tryz.prog 214 [.c (.lst 1 (l.map encI))] H K := by
  refine acalls Tryz.func214 rfl (by kernel_rfl) (by simp (disch := first | omega | (simp only [go_sem]; first | done | omega)) only [go_sem]) (fun hH => ?_)
  simp (disch := first | omega | (simp only [go_sem]; first | done | omega)) only [go_sem]
  refine AWp.loop (H.length) [3, 6, 7] [8] (fun (k : Nat) => k ≤ l.length ∧ firstE (l.drop k) = firstE l) (fun (k : Nat) => [(8, (.c (.int .i64 k)))]) (fun (k : Nat) => H) (fun (k : Nat) => l.length - k) (by kernel_rfl) (fun _ => rfl) (by kernel_rfl) (by first | (simp; done) | omega) (by first | (simp; done) | (simp; omega) | omega) kl ?_ (fun k hk1 _ _ => ?_)
  · exact Next.mk 0 (by simp) wk
  · simp (disch := first | omega | (simp only [go_sem]; first | done | omega)) only [go_sem, *]
    repeat' (first | ((first | refine acond_d ?_ ?_ | refine acond_b ?_ ?_ | refine ag_d ?_ ?_ | refine ag_n ?_ ?_ | refine ag_bt ?_ ?_ | refine ag_bf ?_ ?_) <;> intro c <;> try simp (disch := first | omega | (simp only [go_sem]; first | done | omega)) only [go_sem, c]) | ((first | refine w_draw (by kernel_rfl) (by decide +kernel) ?_) <;> try simp (disch := first | omega | (simp only [go_sem]; first | done | omega)) only [go_sem]))
    · have := firstE_drop l k (by omega)
      exact Next.mk (k + 1) ⟨⟨by omega, by grind⟩, by omega⟩ wk
    · have := firstE_drop l k (by omega)
      (first | refine Ret.sameE (Nat.le_refl _) (by assumption) ?_ | refine Ret.dropE (by assumption) (Nat.le_refl _) (by assumption) (by simp [AV.ok, AV.ok1, AC.ok]) ?_) <;> (first | rfl | (simp only [AV.c.injEq, AC.bool.injEq]; rw [Bool.eq_iff_iff]; simp only [Bool.not_eq_true', decide_eq_true_eq, decide_eq_false_iff_not, Bool.and_eq_true, Bool.or_eq_true]; omega) | grind | (simp [*]; done) | (simp [*]; omega))
    · have : l.drop k = [] := List.drop_eq_nil_of_le (by omega)
      have h0 : firstE l = 0 := by rw [← hk1.2, this]; rfl
      (first | refine Ret.sameE (Nat.le_refl _) (by assumption) ?_ | refine Ret.dropE (by assumption) (Nat.le_refl _) (by assumption) (by simp [AV.ok, AV.ok1, AC.ok]) ?_) <;> (first | rfl | (simp only [AV.c.injEq, AC.bool.injEq]; rw [Bool.eq_iff_iff]; simp only [Bool.not_eq_true', decide_eq_true_eq, decide_eq_false_iff_not, Bool.and_eq_true, Bool.or_eq_true]; omega) | grind | (simp [*]; done) | (simp [*]; omega))
def cmpI (x y : Int) : Int := if x < y then -1 else if y < x then 1 else 0
def momC (a b : Smp) : Int := firstE [cmpI a.t b.t, cmpI a.q b.q, cmpI b.v a.v]
theorem cmpOr_lit (a b c : Int) {i ty n : Nat} {els : List (List AC)} {own : Bool} (hi : H[i]? = some (.row ty 1 els own)) (he : els = [[.int .i64 a], [.int .i64 b], [.int .i64 c]]) (hn : n = 3) (hk : K (.c (.int .i64 (firstE [a, b, c]))) (H.set i .dead)) : ACalls Tryz.prog 214 [.c (.sl (some (i, 0)) n)] H K := by
  subst he hn
  exact ACalls.lit hi (by simp [pureL, AC.pure]) (args' := [.c (.lst 1 ([a, b, c].map encI))]) (by simp [AV.frz1, AC.frz, encI]) (cmpOr_a [a, b, c] (by simp) hk)
def domC (f : FuncId) : Bool := Nat.beq f 151
def spC (_ : FuncId) (args : List AV) : Option AV := match args with
  | [.c (.int .i64 x), .c (.int .i64 y)] => some (.c (.int .i64 (cmpI x y)))
  | _ => none
@[go_sem] theorem domC_y : domC 151 = true := (rfl)
@[go_sem] theorem domC_n : domC 214 = false := (rfl)
@[go_sem] theorem spC_go (f : FuncId) (x y : Int) : spC f [(.c (.int .i64 x)), (.c (.int .i64 y))] = some (.c (.int .i64 (cmpI x y))) := (rfl)
theorem specC_ok : SpecOk Tryz.prog domC spC := by
  intro f args v H K hd hs hk
  have hf := Nat.eq_of_beq_eq_true hd
  subst hf
  unfold spC at hs
  split at hs
  · rename_i x y
    injection hs with hs
    subst hs
    exact ⟨by kernel_rfl, rfl, compare_a x y hk⟩
  · cases hs
theorem byMoment_a (a b : Smp) (hk : K (.c (.int .i64 (momC a b))) H) : ACalls Tryz.prog 133 [.agg (encS a), .agg (encS b)] H K := by
  refine acalls Tryz.func133 rfl (by kernel_rfl) (by simp (disch := first | omega | (simp only [go_sem]; first | done | omega)) only [go_sem]) (fun hH => ?_)
  simp (disch := first | omega | (simp only [go_sem]; first | done | omega)) only [go_sem]
  refine w_drawS specC_ok (by kernel_rfl) (by decide +kernel) ?_
  simp (disch := first | omega | (simp only [go_sem]; first | done | omega)) only [go_sem]
  refine cmpOr_lit (cmpI a.t b.t) (cmpI a.q b.q) (cmpI b.v a.v) (by first | ((repeat first | exact at0 (by simp) | refine atS ?_); done) | assumption) rfl rfl ?_
  simp (disch := first | omega | (simp only [go_sem]; first | done | omega)) only [go_sem]
  exact Ret.drop hH (Nat.le_refl _) trivial hk
def specM : FuncId → List AV → Hp → Res := fun f args H => match Nat.beq f 133, args with
  | true, [.agg [.int .i64 t, .int .i64 v, .int .i64 q], .agg [.int .i64 t2, .int .i64 v2, .int .i64 q2]] => some ((.c (.int .i64 (momC ⟨t, v, q⟩ ⟨t2, v2, q2⟩))), H)
  | _, _ => none
theorem specM_ok : CallOk Tryz.prog specM := by
  intro f args H v H' K h hk
  unfold specM at h
  split at h
  · rename_i t v q t2 v2 q2 hf
    have := Nat.eq_of_beq_eq_true hf
    subst this
    injection h with h; injection h with e1 e2; subst e1; subst e2
    exact byMoment_a ⟨t, v, q⟩ ⟨t2, v2, q2⟩ hk
  · cases h
end Go.Proofs.YtnodfnjmhcjnfaaGreatDoor
/- Arrivals: the program's order; too many nodes. No condition. -/
namespace Go.Proofs.YtnodfnjmhcjnfaaGreatDoor
open Go Go.RowKit
set_option maxRecDepth 100000
set_option linter.all false
set_option maxHeartbeats 1000000
variable {H : Hp} {K : AV → Hp → Prop}
def domA (f : FuncId) : Bool := Nat.beq f 151 || Nat.beq f 197
def spA (f : FuncId) (args : List AV) : Option AV := match Nat.beq f 151, args with
  | true, [.c (.int .i64 x), .c (.int .i64 y)] => some (.c (.int .i64 (cmpI x y)))
  | false, [.c (.str x), .c (.str y)] => some (.c (.int .i64 (cmpS x y)))
  | _, _ => none
@[go_sem] theorem domA_y : domA 151 = true := (rfl)
@[go_sem] theorem domA_s : domA 197 = true := (rfl)
@[go_sem] theorem domA_n : domA 214 = false := (rfl)
@[go_sem] theorem spA_go (x y : Int) : spA 151 [(.c (.int .i64 x)), (.c (.int .i64 y))] = some (.c (.int .i64 (cmpI x y))) := (rfl)
@[go_sem] theorem spA_str (x y : ByteArray) : spA 197 [(.c (.str x)), (.c (.str y))] = some (.c (.int .i64 (cmpS x y))) := (rfl)
theorem specA_ok : SpecOk Tryz.prog domA spA := by
  intro f args v H K hd hs hk
  unfold domA at hd
  rw [Bool.or_eq_true] at hd
  unfold spA at hs
  rcases hd with hd | hd
  · have hf := Nat.eq_of_beq_eq_true hd
    subst hf
    split at hs
    · rename_i x y h
      injection hs with hs
      subst hs
      exact ⟨by kernel_rfl, rfl, compare_a x y hk⟩
    · rename_i h; cases h
    · cases hs
  · have hf := Nat.eq_of_beq_eq_true hd
    subst hf
    split at hs
    · rename_i h; cases h
    · rename_i x y h
      injection hs with hs
      subst hs
      exact ⟨by kernel_rfl, rfl, cmpStr_a x y hk⟩
    · cases hs
theorem arrC_go (a b : Arr) : firstE [cmpI a.t b.t, cmpS a.nd b.nd, cmpI a.p.n b.p.n] = arrC a b := by
  have h1 := cmpS_eq a.nd b.nd
  simp only [firstE, arrC, sgn, cmpI]
  by_cases h : a.t = b.t
  · by_cases h2 : a.nd = b.nd
    · grind
    · grind
  · grind
theorem byTime_a (a b : Arr) (hk : K (.c (.int .i64 (arrC a b))) H) : ACalls Tryz.prog 229 [.agg (encAr a), .agg (encAr b)] H K := by
  refine acalls Tryz.func229 rfl (by kernel_rfl) (by simp (disch := first | omega | (simp only [go_sem]; first | done | omega)) only [go_sem]) (fun hH => ?_)
  simp (disch := first | omega | (simp only [go_sem]; first | done | omega)) only [go_sem]
  refine w_drawS specA_ok (by kernel_rfl) (by decide +kernel) ?_
  simp (disch := first | omega | (simp only [go_sem]; first | done | omega)) only [go_sem]
  refine cmpOr_lit (cmpI a.t b.t) (cmpS a.nd b.nd) (cmpI a.p.n b.p.n) (by first | ((repeat first | exact at0 (by simp) | refine atS ?_); done) | assumption) rfl rfl ?_
  rw [arrC_go]
  simp (disch := first | omega | (simp only [go_sem]; first | done | omega)) only [go_sem]
  exact Ret.drop hH (Nat.le_refl _) trivial hk
@[go_sem] theorem mapK_sb : mapK Tryz.prog 357 = some 9 := (by kernel_rfl)
def encNn (n : ByteArray) : AV × AV := (.c (.str n), .c (.bool true))
def addN (l : List ByteArray) (n : ByteArray) : List ByteArray := if l.any (fun m => decide (n = m)) = true then l else l ++ [n]
theorem ups_node (a : ByteArray) : ∀ l : List ByteArray, upsert (fun n => decide (a = n)) a l = addN l a
  | [] => by simp [upsert, addN]
  | x :: l => by
    have ih := ups_node a l
    unfold addN at ih ⊢
    unfold upsert at ih ⊢
    rw [List.findIdx?_cons]
    by_cases h : a = x
    · subst h; simp
    · simp only [h, decide_false, Bool.false_eq_true, if_false, List.any_cons, Bool.false_or]
      cases hq : l.findIdx? (fun n => decide (a = n)) with
      | none =>
        rw [hq] at ih
        dsimp only [Option.map_none] at ih ⊢
        by_cases h2 : l.any (fun m => decide (a = m)) = true
        · rw [if_pos h2] at ih
          have := congrArg List.length ih
          simp at this
        · simp [h2]
      | some j =>
        rw [hq] at ih
        dsimp only [Option.map_some] at ih ⊢
        by_cases h2 : l.any (fun m => decide (a = m)) = true
        · rw [if_pos h2] at ih ⊢
          simp [ih]
        · rw [if_neg h2] at ih
          have := congrArg List.length ih
          simp at this
theorem put_node {kt : TypeId} (a : ByteArray) (l : List ByteArray) (ht : keyT Tryz.prog kt (.c (.str a)) = true) : mapPut Tryz.prog kt (.c (.str a)) (.c (.bool true)) (l.map encNn) = some ((addN l a).map encNn) := by
  rw [← ups_node]
  exact put_of (e := encNn) (p := fun n => decide (a = n)) (x := a) ht (findA_str a (fun x : ByteArray => x) (fun _ : ByteArray => .c (.bool true)) l) rfl
def nodesF (l : List Arr) : List ByteArray := l.foldl (fun s x => addN s x.nd) []
theorem nodesF_next {l : List Arr} {k : Nat} (h : k < l.length) : nodesF (l.take (k + 1)) = addN (nodesF (l.take k)) l[k].nd := by
  unfold nodesF; rw [List.take_succ_eq_append_getElem h, List.foldl_append]; rfl
theorem okN_nodes (S : List ByteArray) (n : Nat) : (mpO (S.map encNn)).okN n := by
  unfold mpO AObj.okN
  intro p hp
  obtain ⟨x, _, rfl⟩ := List.mem_map.1 hp
  exact ⟨trivial, trivial⟩
theorem crowded_a (l : List Arr) (hl : l.length ≤ 1000000) (hk : K (.c (.bool (decide (50 < (nodesF l).length)))) H) : ACalls Tryz.prog 230 [.c (.lst 7 (l.map encAr))] H K := by
  refine acalls Tryz.func230 rfl (by kernel_rfl) (by simp (disch := first | omega | (simp only [go_sem]; first | done | omega)) only [go_sem]) (fun hH => ?_)
  simp (disch := first | omega | (simp only [go_sem]; first | done | omega)) only [go_sem]
  refine AWp.loop (H.length + 1) [3, 7, 8] [9] (fun (k : Nat) => k ≤ l.length) (fun (k : Nat) => [(9, (.c (.int .i64 k)))]) (fun (k : Nat) => H ++ [mpO ((nodesF (l.take k)).map encNn)]) (fun (k : Nat) => l.length - k) (by kernel_rfl) (fun _ => rfl) (by kernel_rfl) (by first | (simp; done) | omega) (by first | (simp; done) | (simp; omega) | omega) kl ?_ (fun k hk1 _ _ => ?_)
  · refine Next.mk 0 (by omega) ?_
    exact wk
  by_cases hlt : k < l.length
  · obtain ⟨x, hx⟩ : ∃ x, x = l[k] := ⟨_, rfl⟩
    have hnx := nodesF_next hlt
    rw [← hx] at hnx
    generalize nodesF (l.take k) = S at *
    simp (disch := first | omega | (simp only [go_sem]; first | done | omega)) only [go_sem, hlt, ← hx]
    refine mup_mp (by kernel_rfl) (put_node _ S (by kernel_rfl)) ?_
    simp (disch := first | omega | (simp only [go_sem]; first | done | omega)) only [go_sem]
    refine Next.mk (k + 1) ⟨by omega, by omega⟩ ?_
    rw [hnx]
    refine WkL.keepL hH rfl (by simp) rfl ?_ ?_
    · intro o ho
      simp only [List.mem_singleton] at ho
      subst ho
      exact okN_nodes _ _
    · intro v hv
      simp only [newV, List.map_cons, List.map_nil, List.mem_cons, List.not_mem_nil, or_false] at hv
      subst hv
      trivial
  · simp (disch := first | omega | (simp only [go_sem]; first | done | omega)) only [go_sem, hlt]
    refine ⟨by kernel_rfl, ?_⟩
    refine Ret.dropE hH (Nat.le_refl _) hk trivial ?_
    simp only [AV.c.injEq, AC.bool.injEq]
    exact decide_eq_decide.2 (by omega)
end Go.Proofs.YtnodfnjmhcjnfaaGreatDoor
