/- Several texts in one: Arrivals: their faults by themselves, and their order, in the program and in the document's answer, and what follows. No condition. -/
import Derived.Test.YtflklkijfkmeiaaGreatDoorHVAnswerR
import Derived.Test.YtflklkijfkmeiaaGreatDoorHVGB
import Derived.Test.YtflklkijfkmeiaaGreatDoorHVGA
import Derived.Test.YtflklkijfkmeiaaGreatDoorHVMoment
import Derived.Test.YtflklkijfkmeiaaGreatDoorHCoreDrawS
/- Arrivals: their faults by themselves, and their order, in the program and in the document's answer. No condition. -/
namespace Go.Proofs.YtflklkijfkmeiaaGreatDoor
open Go Go.RowKit
set_option maxRecDepth 100000
set_option linter.all false
set_option maxHeartbeats 1000000
variable {H : Hp} {K : AV → Hp → Prop}
structure Arr where
  nd : ByteArray
  t : Int
  p : Pk
def encAr (x : Arr) : List AC := [.str x.nd, .int .i64 x.t, .int .i64 x.p.n, .str x.p.tag, .int .i64 x.p.s.t, .int .i64 x.p.s.v, .int .i64 x.p.s.q]
attribute [go_sem] encAr
def cmpS (a b : ByteArray) : Int := Lib.compareBytes a.data.toList b.data.toList
theorem cmpStrX (f : FuncId) (hf : externs Tryz.prog f Extern.BytealgCompare.compare) (a b : ByteArray) (hk : K (.c (.int .i64 (cmpS a b))) H) : AExt Tryz.prog f [(.c (.str a)), (.c (.str b))] H K := by
  refine ⟨_, hf, fun B w0 ι w vs hs hr ho => ?_⟩
  obtain ⟨l⟩ := vs
  match l, hr with
  | [u, v], hr =>
    have h1 : u = .string a := hr.1
    have h2 : v = .string b := hr.2.1
    subst h1; subst h2
    exact ⟨_, w, Lib.run_compareString a b w, ι, _, (.c (.int .i64 (cmpS a b))), H, rfl, Agree.refl _ _, Nat.le_refl _, hs, rfl, trivial, hk⟩
theorem ext_cmpStr : externs Tryz.prog 251 Extern.BytealgCompare.compare := ⟨_, rfl, by kernel_rfl, by kernel_rfl, by kernel_rfl, by kernel_rfl⟩
theorem cmpStr_a (a b : ByteArray) (hk : K (.c (.int .i64 (cmpS a b))) H) : ACalls Tryz.prog 137 [(.c (.str a)), (.c (.str b))] H K := by
  have key : ∀ (K : AV → Hp → Prop), K (.c (.int .i64 (cmpS a b))) H → ACalls Tryz.prog 200 [(.c (.str a)), (.c (.str b))] H K := by
    intro K hk
    refine acalls Tryz.func200 rfl (by kernel_rfl) (by simp (disch := first | omega | (simp only [go_sem]; first | done | omega)) only [go_sem]) (fun hH => ?_)
    simp (disch := first | omega | (simp only [go_sem]; first | done | omega)) only [go_sem]
    refine cmpStrX _ ext_cmpStr a b ?_
    simp (disch := first | omega | (simp only [go_sem]; first | done | omega)) only [go_sem]
    exact Ret.same (Nat.le_refl _) hk
  refine acalls Tryz.func137 rfl (by kernel_rfl) (by simp (disch := first | omega | (simp only [go_sem]; first | done | omega)) only [go_sem]) (fun hH => ?_)
  simp (disch := first | omega | (simp only [go_sem]; first | done | omega)) only [go_sem]
  refine key _ ?_
  simp (disch := first | omega | (simp only [go_sem]; first | done | omega)) only [go_sem]
  exact Ret.same (Nat.le_refl _) hk
theorem cmpB_eq : ∀ a b : List UInt8, Lib.compareBytes a b = 0 ↔ a = b
  | [], [] => by simp [Lib.compareBytes]
  | [], _ :: _ => by simp [Lib.compareBytes]
  | _ :: _, [] => by simp [Lib.compareBytes]
  | a :: xs, b :: ys => by
    unfold Lib.compareBytes
    by_cases h1 : a < b
    · rw [if_pos h1]
      constructor
      · intro h; cases h
      · intro h; injection h with h2 _; subst h2; exact absurd h1 (UInt8.lt_irrefl _)
    · rw [if_neg h1]
      by_cases h2 : b < a
      · rw [if_pos h2]
        constructor
        · intro h; cases h
        · intro h; injection h with h3 _; subst h3; exact absurd h2 (UInt8.lt_irrefl _)
      · rw [if_neg h2, cmpB_eq xs ys]
        have : a = b := UInt8.le_antisymm (UInt8.not_lt.1 h2) (UInt8.not_lt.1 h1)
        subst this
        simp
theorem cmpS_eq (a b : ByteArray) : cmpS a b = 0 ↔ a = b := by
  unfold cmpS
  rw [cmpB_eq]
  exact ⟨data_inj, fun h => by rw [h]⟩
def sgn (a b : Int) : Int := if a < b then -1 else if b < a then 1 else 0
def arrC (a b : Arr) : Int := if a.t ≠ b.t then sgn a.t b.t else if a.nd ≠ b.nd then cmpS a.nd b.nd else sgn a.p.n b.p.n
def arrErr (x : Arr) : Int := if ¬ isKey x.nd then 5 else if x.t < 0 ∨ 345686399999 < x.t ∨ x.p.n < 1 ∨ 1000000 < x.p.n then 1 else if ¬ isKey x.p.tag then 5 else smpErr x.p.s
theorem arrivalFault_a (x : Arr) (h1 : x.nd.size ≤ 1099511627776) (h2 : x.p.tag.size ≤ 1099511627776) (hk : K (.c (.int .i64 (arrErr x))) H) : ACalls Tryz.prog 154 [.agg (encAr x)] H K := by
  refine acalls Tryz.func154 rfl (by kernel_rfl) (by simp (disch := first | omega | (simp only [go_sem]; first | done | omega)) only [go_sem]) (fun hH => ?_)
  simp (disch := first | omega | (simp only [go_sem]; first | done | omega)) only [go_sem]
  repeat' (first | ((first | refine acond_d ?_ ?_ | refine acond_b ?_ ?_ | refine ag_d ?_ ?_ | refine ag_n ?_ ?_ | refine ag_bt ?_ ?_ | refine ag_bf ?_ ?_) <;> intro c <;> try simp (disch := first | omega | (simp only [go_sem]; first | done | omega)) only [go_sem, c]) | ((first | refine w_draw (by kernel_rfl) (by decide +kernel) ?_ | refine key_a _ h1 ?_ | refine key_a _ h2 ?_ | refine checkSample_a x.p.s ?_ | refine out_a _ _ _ _ _ ?_ | refine moment_a _ _ _ ?_) <;> try simp (disch := first | omega | (simp only [go_sem]; first | done | omega)) only [go_sem]))
  all_goals (first | refine Ret.sameE (Nat.le_refl _) (by assumption) ?_ | refine Ret.dropE (by assumption) (Nat.le_refl _) (by assumption) (by simp [AV.ok, AV.ok1, AC.ok]) ?_) <;> grind [arrErr]
theorem arrivalOrder_a (a b : Arr) (h : -1000000000000000 ≤ a.t ∧ a.t ≤ 1000000000000000) (h2 : -1000000000000000 ≤ b.t ∧ b.t ≤ 1000000000000000) (h3 : -1000000000000000 ≤ a.p.n ∧ a.p.n ≤ 1000000000000000) (h4 : -1000000000000000 ≤ b.p.n ∧ b.p.n ≤ 1000000000000000) (hk : K (.c (.int .i64 (arrC a b))) H) : ACalls Tryz.prog 83 [.agg (encAr a), .agg (encAr b)] H K := by
  refine acalls Tryz.func83 rfl (by kernel_rfl) (by simp (disch := first | omega | (simp only [go_sem]; first | done | omega)) only [go_sem]) (fun hH => ?_)
  simp (disch := first | omega | (simp only [go_sem]; first | done | omega)) only [go_sem]
  repeat' (first | ((first | refine acond_d ?_ ?_ | refine acond_b ?_ ?_ | refine ag_d ?_ ?_ | refine ag_n ?_ ?_ | refine ag_bt ?_ ?_ | refine ag_bf ?_ ?_) <;> intro c <;> try simp (disch := first | omega | (simp only [go_sem]; first | done | omega)) only [go_sem, c]) | ((first | refine w_draw (by kernel_rfl) (by decide +kernel) ?_ | refine cmpStr_a _ _ ?_ | refine sign_a _ _ _ ?_) <;> try simp (disch := first | omega | (simp only [go_sem]; first | done | omega)) only [go_sem]))
  all_goals (first | refine Ret.sameE (Nat.le_refl _) (by assumption) ?_ | refine Ret.dropE (by assumption) (Nat.le_refl _) (by assumption) (by simp [AV.ok, AV.ok1, AC.ok]) ?_) <;> grind [arrC, sgn]
end Go.Proofs.YtflklkijfkmeiaaGreatDoor
/- Arrivals: the program's order; too many nodes. No condition. -/
namespace Go.Proofs.YtflklkijfkmeiaaGreatDoor
open Go Go.RowKit
set_option maxRecDepth 100000
set_option linter.all false
set_option maxHeartbeats 1000000
variable {H : Hp} {K : AV → Hp → Prop}
def domA (f : FuncId) : Bool := Nat.beq f 222 || Nat.beq f 137
def spA (f : FuncId) (args : List AV) : Option AV := match Nat.beq f 222, args with
  | true, [.c (.int .i64 x), .c (.int .i64 y)] => some (.c (.int .i64 (cmpI x y)))
  | false, [.c (.str x), .c (.str y)] => some (.c (.int .i64 (cmpS x y)))
  | _, _ => none
@[go_sem] theorem domA_y : domA 222 = true := (rfl)
@[go_sem] theorem domA_s : domA 137 = true := (rfl)
@[go_sem] theorem domA_n : domA 221 = false := (rfl)
@[go_sem] theorem spA_go (x y : Int) : spA 222 [(.c (.int .i64 x)), (.c (.int .i64 y))] = some (.c (.int .i64 (cmpI x y))) := (rfl)
@[go_sem] theorem spA_str (x y : ByteArray) : spA 137 [(.c (.str x)), (.c (.str y))] = some (.c (.int .i64 (cmpS x y))) := (rfl)
theorem specA_ok : SpecOk Tryz.prog domA spA := by
  intro f args v H K hd hs hk
  unfold domA at hd
  rw [Bool.or_eq_true] at hd
  unfold spA at hs
  rcases hd with hd | hd
  · have hf := Nat.eq_of_beq_eq_true hd
    subst hf
    split at hs
    · rename_i x y h
      injection hs with hs
      subst hs
      exact ⟨by kernel_rfl, rfl, compare_a x y hk⟩
    · rename_i h; cases h
    · cases hs
  · have hf := Nat.eq_of_beq_eq_true hd
    subst hf
    split at hs
    · rename_i h; cases h
    · rename_i x y h
      injection hs with hs
      subst hs
      exact ⟨by kernel_rfl, rfl, cmpStr_a x y hk⟩
    · cases hs
theorem arrC_go (a b : Arr) : firstE [cmpI a.t b.t, cmpS a.nd b.nd, cmpI a.p.n b.p.n] = arrC a b := by
  have h1 := cmpS_eq a.nd b.nd
  simp only [firstE, arrC, sgn, cmpI]
  by_cases h : a.t = b.t
  · by_cases h2 : a.nd = b.nd
    · grind
    · grind
  · grind
theorem byTime_a (a b : Arr) (hk : K (.c (.int .i64 (arrC a b))) H) : ACalls Tryz.prog 155 [.agg (encAr a), .agg (encAr b)] H K := by
  refine acalls Tryz.func155 rfl (by kernel_rfl) (by simp (disch := first | omega | (simp only [go_sem]; first | done | omega)) only [go_sem]) (fun hH => ?_)
  simp (disch := first | omega | (simp only [go_sem]; first | done | omega)) only [go_sem]
  refine w_drawS specA_ok (by kernel_rfl) (by decide +kernel) ?_
  simp (disch := first | omega | (simp only [go_sem]; first | done | omega)) only [go_sem]
  refine cmpOr_lit (cmpI a.t b.t) (cmpS a.nd b.nd) (cmpI a.p.n b.p.n) (by first | ((repeat first | exact at0 (by simp) | refine atS ?_); done) | assumption) rfl rfl ?_
  rw [arrC_go]
  simp (disch := first | omega | (simp only [go_sem]; first | done | omega)) only [go_sem]
  exact Ret.drop hH (Nat.le_refl _) trivial hk
@[go_sem] theorem mapK_sb : mapK Tryz.prog 257 = some 9 := (by kernel_rfl)
def encNn (n : ByteArray) : AV × AV := (.c (.str n), .c (.bool true))
def addN (l : List ByteArray) (n : ByteArray) : List ByteArray := if l.any (fun m => decide (n = m)) = true then l else l ++ [n]
theorem ups_node (a : ByteArray) : ∀ l : List ByteArray, upsert (fun n => decide (a = n)) a l = addN l a
  | [] => by simp [upsert, addN]
  | x :: l => by
    have ih := ups_node a l
    unfold addN at ih ⊢
    unfold upsert at ih ⊢
    rw [List.findIdx?_cons]
    by_cases h : a = x
    · subst h; simp
    · simp only [h, decide_false, Bool.false_eq_true, if_false, List.any_cons, Bool.false_or]
      cases hq : l.findIdx? (fun n => decide (a = n)) with
      | none =>
        rw [hq] at ih
        dsimp only [Option.map_none] at ih ⊢
        by_cases h2 : l.any (fun m => decide (a = m)) = true
        · rw [if_pos h2] at ih
          have := congrArg List.length ih
          simp at this
        · simp [h2]
      | some j =>
        rw [hq] at ih
        dsimp only [Option.map_some] at ih ⊢
        by_cases h2 : l.any (fun m => decide (a = m)) = true
        · rw [if_pos h2] at ih ⊢
          simp [ih]
        · rw [if_neg h2] at ih
          have := congrArg List.length ih
          simp at this
theorem put_node {kt : TypeId} (a : ByteArray) (l : List ByteArray) (ht : keyT Tryz.prog kt (.c (.str a)) = true) : mapPut Tryz.prog kt (.c (.str a)) (.c (.bool true)) (l.map encNn) = some ((addN l a).map encNn) := by
  rw [← ups_node]
  exact put_of (e := encNn) (p := fun n => decide (a = n)) (x := a) ht (findA_str a (fun x : ByteArray => x) (fun _ : ByteArray => .c (.bool true)) l) rfl
def nodesF (l : List Arr) : List ByteArray := l.foldl (fun s x => addN s x.nd) []
theorem nodesF_next {l : List Arr} {k : Nat} (h : k < l.length) : nodesF (l.take (k + 1)) = addN (nodesF (l.take k)) l[k].nd := by
  unfold nodesF; rw [List.take_succ_eq_append_getElem h, List.foldl_append]; rfl
theorem okN_nodes (S : List ByteArray) (n : Nat) : (mpO (S.map encNn)).okN n := by
  unfold mpO AObj.okN
  intro p hp
  obtain ⟨x, _, rfl⟩ := List.mem_map.1 hp
  exact ⟨trivial, trivial⟩
theorem crowded_a (l : List Arr) (hl : l.length ≤ 1000000) (hk : K (.c (.bool (decide (50 < (nodesF l).length)))) H) : ACalls Tryz.prog 156 [.c (.lst 7 (l.map encAr))] H K := by
  refine acalls Tryz.func156 rfl (by kernel_rfl) (by simp (disch := first | omega | (simp only [go_sem]; first | done | omega)) only [go_sem]) (fun hH => ?_)
  simp (disch := first | omega | (simp only [go_sem]; first | done | omega)) only [go_sem]
  refine AWp.loop (H.length + 1) [3, 7, 8] [9] (fun (k : Nat) => k ≤ l.length) (fun (k : Nat) => [(9, (.c (.int .i64 k)))]) (fun (k : Nat) => H ++ [mpO ((nodesF (l.take k)).map encNn)]) (fun (k : Nat) => l.length - k) (by kernel_rfl) (fun _ => rfl) (by kernel_rfl) (by first | (simp; done) | omega) (by first | (simp; done) | (simp; omega) | omega) kl ?_ (fun k hk1 _ _ => ?_)
  · refine Next.mk 0 (by omega) ?_
    exact wk
  by_cases hlt : k < l.length
  · obtain ⟨x, hx⟩ : ∃ x, x = l[k] := ⟨_, rfl⟩
    have hnx := nodesF_next hlt
    rw [← hx] at hnx
    generalize nodesF (l.take k) = S at *
    simp (disch := first | omega | (simp only [go_sem]; first | done | omega)) only [go_sem, hlt, ← hx]
    refine mup_mp (by kernel_rfl) (put_node _ S (by kernel_rfl)) ?_
    simp (disch := first | omega | (simp only [go_sem]; first | done | omega)) only [go_sem]
    refine Next.mk (k + 1) ⟨by omega, by omega⟩ ?_
    rw [hnx]
    refine WkL.keepL hH rfl (by simp) rfl ?_ ?_
    · intro o ho
      simp only [List.mem_singleton] at ho
      subst ho
      exact okN_nodes _ _
    · intro v hv
      simp only [newV, List.map_cons, List.map_nil, List.mem_cons, List.not_mem_nil, or_false] at hv
      subst hv
      trivial
  · simp (disch := first | omega | (simp only [go_sem]; first | done | omega)) only [go_sem, hlt]
    refine ⟨by kernel_rfl, ?_⟩
    refine Ret.dropE hH (Nat.le_refl _) hk trivial ?_
    simp only [AV.c.injEq, AC.bool.injEq]
    exact decide_eq_decide.2 (by omega)
end Go.Proofs.YtflklkijfkmeiaaGreatDoor
/- Arrivals whose packets are not the same where they should be: the program's answer. No condition. -/
namespace Go.Proofs.YtflklkijfkmeiaaGreatDoor
open Go Go.RowKit
set_option maxRecDepth 100000
set_option linter.all false
set_option maxHeartbeats 1000000
variable {H : Hp} {K : AV → Hp → Prop}
instance pkDec : DecidableEq Pk := fun a b =>
  if h : a.n = b.n ∧ a.tag = b.tag ∧ a.s = b.s then isTrue (by cases a; cases b; simp_all) else isFalse (by rintro rfl; simp at h)
def sameK (a b : Arr) : Bool := decide (a.nd = b.nd) && decide (a.p.n = b.p.n)
def cfF : List Arr → List Arr → Bool
  | _, [] => false
  | pre, a :: t => pre.any (fun b => sameK a b && !decide (a.p = b.p)) || cfF (pre ++ [a]) t
def encKv (x : ByteArray × Pk) : AV × AV := (.agg [.str x.1, .int .i64 x.2.n], .agg (encPk x.2))
theorem findA_si {α : Type} {kt : TypeId} (hf : fieldsK Tryz.prog kt = some [(0, 3), (1, 1)]) (a : ByteArray) (n : Int) (f : α → ByteArray) (g : α → Int) (h : α → AV) : ∀ l : List α, findA Tryz.prog kt (.agg [.str a, .int .i64 n]) (l.map fun y => (AV.agg [.str (f y), .int .i64 (g y)], h y)) = some (l.findIdx? fun y => decide (a = f y) && decide (n = g y))
  | [] => rfl
  | x :: l => by
    have e : keyEqS Tryz.prog kt (.agg [.str a, .int .i64 n]) (.agg [.str (f x), .int .i64 (g x)]) = some (decide (a = f x) && decide (n = g x)) := by
      rw [keyEqS_agg, hf]
      have hc : coverL [(0, 3), (1, 1)] 2 = true := by decide
      simp only [List.length_cons, List.length_nil, hc, Bool.and_self, if_true]
      simp only [eqF, eqC, List.getElem?_cons_zero, List.getElem?_cons_succ, str_eq, if_true, Bool.and_true]
      rw [show (n == g x) = decide (n = g x) by rw [Bool.eq_iff_iff, beq_iff_eq, decide_eq_true_eq]]
    simp only [List.map_cons, findA, e, List.findIdx?_cons]
    cases hb : (decide (a = f x) && decide (n = g x)) with
    | true => simp
    | false =>
      simp only [Bool.false_eq_true, if_false]
      rw [findA_si hf a n f g h l]
      rfl
def cfS (S : List (ByteArray × Pk)) (x : Arr) : Option (ByteArray × Pk) := S.find? fun y => decide (x.nd = y.1) && decide (x.p.n = y.2.n)
structure Kept (S : List (ByteArray × Pk)) (pre : List Arr) : Prop where
  all : ∀ b ∈ pre, ∃ y ∈ S, y.1 = b.nd ∧ y.2 = b.p
  out : ∀ y ∈ S, ∃ b ∈ pre, y = (b.nd, b.p)
  one : ∀ b ∈ pre, ∀ b' ∈ pre, sameK b b' = true → b.p = b'.p
theorem kept_nil : Kept [] [] := ⟨by simp, by simp, by simp⟩
theorem sameK_iff {a b : Arr} : sameK a b = true ↔ a.nd = b.nd ∧ a.p.n = b.p.n := by simp [sameK]
theorem kept_bad {S : List (ByteArray × Pk)} {pre : List Arr} {a : Arr} {y : ByteArray × Pk} (h : Kept S pre) (hf : cfS S a = some y) (hp : y.2 ≠ a.p) : pre.any (fun b => sameK a b && !decide (a.p = b.p)) = true := by
  have h1 := List.find?_some hf
  have h2 := List.mem_of_find?_eq_some hf
  simp only [Bool.and_eq_true, decide_eq_true_eq] at h1
  obtain ⟨b, hb, rfl⟩ := h.out y h2
  rw [List.any_eq_true]
  refine ⟨b, hb, ?_⟩
  rw [Bool.and_eq_true]
  exact ⟨sameK_iff.2 h1, by simpa using fun e => hp e.symm⟩
theorem kept_good {S : List (ByteArray × Pk)} {pre : List Arr} {a : Arr} {y : ByteArray × Pk} (h : Kept S pre) (hf : cfS S a = some y) (hp : y.2 = a.p) : pre.any (fun b => sameK a b && !decide (a.p = b.p)) = false ∧ Kept S (pre ++ [a]) := by
  have h1 := List.find?_some hf
  have h2 := List.mem_of_find?_eq_some hf
  simp only [Bool.and_eq_true, decide_eq_true_eq] at h1
  obtain ⟨c, hc, rfl⟩ := h.out y h2
  dsimp only at h1 hp
  have key : ∀ b ∈ pre, sameK a b = true → a.p = b.p := by
    intro b hb hs
    have hs := sameK_iff.1 hs
    rw [← hp]
    exact h.one c hc b hb (sameK_iff.2 ⟨h1.1.symm.trans hs.1, h1.2.symm.trans hs.2⟩)
  refine ⟨?_, ?_, ?_, ?_⟩
  · rw [List.any_eq_false]
    intro b hb hh
    rw [Bool.and_eq_true] at hh
    have := key b hb hh.1
    simp [this] at hh
  · intro b hb
    rcases List.mem_append.1 hb with hb | hb
    · exact h.all b hb
    · simp at hb; subst hb
      exact ⟨_, h2, h1.1.symm, hp⟩
  · intro y hy
    obtain ⟨b, hb, e⟩ := h.out y hy
    exact ⟨b, List.mem_append_left _ hb, e⟩
  · intro b hb b' hb' hs
    rcases List.mem_append.1 hb with g | g <;> rcases List.mem_append.1 hb' with g' | g'
    · exact h.one b g b' g' hs
    · simp at g'; subst g'
      have hs := sameK_iff.1 hs
      exact (key b g (sameK_iff.2 ⟨hs.1.symm, hs.2.symm⟩)).symm
    · simp at g; subst g
      exact key b' g' hs
    · simp at g g'; subst g; subst g'; rfl
theorem kept_new {S : List (ByteArray × Pk)} {pre : List Arr} {a : Arr} (h : Kept S pre) (hf : cfS S a = none) : pre.any (fun b => sameK a b && !decide (a.p = b.p)) = false ∧ Kept (S ++ [(a.nd, a.p)]) (pre ++ [a]) := by
  have key : ∀ b ∈ pre, sameK a b = true → False := by
    intro b hb hs
    have hs := sameK_iff.1 hs
    obtain ⟨y, hy, e1, e2⟩ := h.all b hb
    have := List.find?_eq_none.1 hf y hy
    simp only [Bool.and_eq_true, decide_eq_true_eq, not_and] at this
    exact this (by rw [e1]; exact hs.1) (by rw [e2]; exact hs.2)
  refine ⟨?_, ?_, ?_, ?_⟩
  · rw [List.any_eq_false]
    intro b hb hh
    rw [Bool.and_eq_true] at hh
    exact key b hb hh.1
  · intro b hb
    rcases List.mem_append.1 hb with hb | hb
    · obtain ⟨y, hy, e⟩ := h.all b hb
      exact ⟨y, List.mem_append_left _ hy, e⟩
    · simp at hb; subst hb
      exact ⟨(b.nd, b.p), List.mem_append_right _ (List.mem_singleton.2 rfl), rfl, rfl⟩
  · intro y hy
    rcases List.mem_append.1 hy with hy | hy
    · obtain ⟨b, hb, e⟩ := h.out y hy
      exact ⟨b, List.mem_append_left _ hb, e⟩
    · simp at hy; subst hy
      exact ⟨a, by simp, rfl⟩
  · intro b hb b' hb' hs
    rcases List.mem_append.1 hb with g | g <;> rcases List.mem_append.1 hb' with g' | g'
    · exact h.one b g b' g' hs
    · simp at g'; subst g'
      have hs := sameK_iff.1 hs
      exact (key b g (sameK_iff.2 ⟨hs.1.symm, hs.2.symm⟩)).elim
    · simp at g; subst g
      exact (key b' g' hs).elim
    · simp at g g'; subst g; subst g'; rfl
@[go_sem] theorem mapK_sp : mapK Tryz.prog 258 = some 260 := (by kernel_rfl)
@[go_sem] theorem mapZ_sp : (mapE Tryz.prog 258).bind (zeroA Tryz.prog) = some (.agg [.int .i64 0, .str .empty, .int .i64 0, .int .i64 0, .int .i64 0]) := (by kernel_rfl)
theorem fields_sp : fieldsK Tryz.prog 260 = some [(0, 3), (1, 1)] := (by kernel_rfl)
theorem look_kept {z : AV} (x : Arr) (S : List (ByteArray × Pk)) (ht : keyT Tryz.prog 260 (.agg [.str x.nd, .int .i64 x.p.n]) = true) : mapGet Tryz.prog 260 (.agg [.str x.nd, .int .i64 x.p.n]) (some z) (S.map encKv) = some (match cfS S x with | some y => ((encKv y).2, true) | none => (z, false)) := by
  rw [get_of (z := z) (e := encKv) (p := fun y => decide (x.nd = y.1) && decide (x.p.n = y.2.n)) ht (findA_si fields_sp x.nd x.p.n (fun y : ByteArray × Pk => y.1) (fun y : ByteArray × Pk => y.2.n) (fun y : ByteArray × Pk => .agg (encPk y.2)) S)]
  unfold cfS
  cases List.find? (fun y : ByteArray × Pk => decide (x.nd = y.1) && decide (x.p.n = y.2.n)) S <;> rfl
theorem put_kept (x : Arr) (S : List (ByteArray × Pk)) (ht : keyT Tryz.prog 260 (.agg [.str x.nd, .int .i64 x.p.n]) = true) (h : cfS S x = none) : mapPut Tryz.prog 260 (.agg [.str x.nd, .int .i64 x.p.n]) (.agg (encPk x.p)) (S.map encKv) = some ((S ++ [(x.nd, x.p)]).map encKv) := by
  have h1 := put_of (P := Tryz.prog) (e := encKv) (p := fun y => decide (x.nd = y.1) && decide (x.p.n = y.2.n)) (x := (x.nd, x.p)) (l := S) ht (findA_si fields_sp x.nd x.p.n (fun y : ByteArray × Pk => y.1) (fun y : ByteArray × Pk => y.2.n) (fun y : ByteArray × Pk => .agg (encPk y.2)) S) rfl
  have h2 : upsert (fun y : ByteArray × Pk => decide (x.nd = y.1) && decide (x.p.n = y.2.n)) (x.nd, x.p) S = S ++ [(x.nd, x.p)] := by
    unfold upsert
    rw [List.findIdx?_eq_none_iff.2 (by
      intro y hy
      have := List.find?_eq_none.1 h y hy
      simpa using this)]
  rw [h2] at h1
  exact h1
theorem upsert_same {α : Type} {p : α → Bool} {x : α} : ∀ {l : List α}, l.find? p = some x → upsert p x l = l
  | [], h => by simp at h
  | y :: l, h => by
    unfold upsert
    rw [List.findIdx?_cons]
    cases hy : p y with
    | true =>
      rw [List.find?_cons_of_pos hy] at h
      obtain rfl := Option.some.inj h
      simp
    | false =>
      rw [List.find?_cons_of_neg (by simp [hy])] at h
      have ih := upsert_same h
      unfold upsert at ih
      simp only [Bool.false_eq_true, if_false]
      cases hq : l.findIdx? p with
      | none =>
        rw [hq] at ih
        have := congrArg List.length ih
        simp at this
      | some j =>
        rw [hq] at ih
        simp only [Option.map_some, List.set_cons_succ]
        have ih : l.set j x = l := ih
        rw [ih]
theorem put_again (x : Arr) (S : List (ByteArray × Pk)) {y : ByteArray} (ht : keyT Tryz.prog 260 (.agg [.str x.nd, .int .i64 x.p.n]) = true) (h : cfS S x = some (y, x.p)) : mapPut Tryz.prog 260 (.agg [.str x.nd, .int .i64 x.p.n]) (.agg (encPk x.p)) (S.map encKv) = some (S.map encKv) := by
  have hy : x.nd = y := by
    have := List.find?_some h
    simp only [Bool.and_eq_true, decide_eq_true_eq] at this
    exact this.1
  subst hy
  have h1 := put_of (P := Tryz.prog) (e := encKv) (p := fun y => decide (x.nd = y.1) && decide (x.p.n = y.2.n)) (x := (x.nd, x.p)) (l := S) ht (findA_si fields_sp x.nd x.p.n (fun y : ByteArray × Pk => y.1) (fun y : ByteArray × Pk => y.2.n) (fun y : ByteArray × Pk => .agg (encPk y.2)) S) rfl
  rw [upsert_same h] at h1
  exact h1
theorem pk_eq (a b : Pk) : (decide (a.n = b.n) && (decide (a.tag = b.tag) && (decide (a.s.t = b.s.t) && (decide (a.s.v = b.s.v) && decide (a.s.q = b.s.q))))) = decide (a = b) := by
  rw [Bool.eq_iff_iff]
  simp only [Bool.and_eq_true, decide_eq_true_eq]
  obtain ⟨a1, a2, a3⟩ := a
  obtain ⟨b1, b2, b3⟩ := b
  cases a3; cases b3
  constructor
  · rintro ⟨rfl, rfl, rfl, rfl, rfl⟩; rfl
  · intro h; cases h; exact ⟨rfl, rfl, rfl, rfl, rfl⟩
theorem okN_kept (S : List (ByteArray × Pk)) (n : Nat) : (mpO (S.map encKv)).okN n := by
  unfold mpO AObj.okN
  intro p hp
  obtain ⟨x, _, rfl⟩ := List.mem_map.1 hp
  refine ⟨?_, ?_⟩
  · intro c hc; simp at hc; rcases hc with rfl | rfl <;> trivial
  · intro c hc; simp [encPk] at hc; rcases hc with rfl | rfl | rfl | rfl | rfl <;> trivial
theorem conflict_a (l : List Arr) (hl : l.length ≤ 1000000) (hk : K (.c (.bool (cfF [] l))) H) : ACalls Tryz.prog 157 [.c (.lst 7 (l.map encAr))] H K := by
  refine acalls Tryz.func157 rfl (by kernel_rfl) (by simp (disch := first | omega | (simp only [go_sem]; first | done | omega)) only [go_sem]) (fun hH => ?_)
  simp (disch := first | omega | (simp only [go_sem]; first | done | omega)) only [go_sem]
  refine AWp.loop (H.length + 1) [3, 10, 11] [12] (fun (q : Nat × List (ByteArray × Pk)) => q.1 ≤ l.length ∧ Kept q.2 (l.take q.1) ∧ cfF (l.take q.1) (l.drop q.1) = cfF [] l) (fun (q : Nat × List (ByteArray × Pk)) => [(12, (.c (.int .i64 (q.1))))]) (fun (q : Nat × List (ByteArray × Pk)) => H ++ [mpO (q.2.map encKv)]) (fun (q : Nat × List (ByteArray × Pk)) => l.length - q.1) (by kernel_rfl) (fun _ => rfl) (by kernel_rfl) (by first | (simp; done) | omega) (by first | (simp; done) | (simp; omega) | omega) kl ?_ (fun q hq _ _ => ?_)
  · refine Next.mk (0, []) ⟨Nat.zero_le _, kept_nil, rfl⟩ ?_
    exact wk
  obtain ⟨k, S⟩ := q
  obtain ⟨q1, q2, q3⟩ := hq
  dsimp only at q1 q2 q3 ⊢
  by_cases hlt : k < l.length
  · obtain ⟨x, hx⟩ : ∃ x, x = l[k] := ⟨_, rfl⟩
    have hstep : cfF (l.take k) (l.drop k) = ((l.take k).any (fun b => sameK x b && !decide (x.p = b.p)) || cfF (l.take (k + 1)) (l.drop (k + 1))) := by
      rw [List.drop_eq_getElem_cons hlt, cfF, ← hx, List.take_succ_eq_append_getElem hlt, ← hx]
    have htk : l.take (k + 1) = l.take k ++ [x] := by rw [List.take_succ_eq_append_getElem hlt, ← hx]
    have hlk := fun z => look_kept (z := z) x S (by kernel_rfl)
    simp (disch := first | omega | (simp only [go_sem]; first | done | omega)) only [go_sem, hlt, ← hx]
    cases hf : cfS S x with
    | none =>
      obtain ⟨e1, e2⟩ := kept_new q2 hf
      rw [← htk] at e2
      rw [e1, Bool.false_or] at hstep
      rw [hf] at hlk
      refine look_mp (by kernel_rfl) (hlk _) rfl ?_
      simp (disch := first | omega | (simp only [go_sem]; first | done | omega)) only [go_sem]
      refine mup_mp (by kernel_rfl) (put_kept x S (by kernel_rfl) hf) ?_
      simp (disch := first | omega | (simp only [go_sem]; first | done | omega)) only [go_sem]
      refine Next.mk (k + 1, S ++ [(x.nd, x.p)]) ⟨⟨by dsimp only; omega, e2, by rw [← q3, hstep]⟩, by dsimp only; omega⟩ ?_
      refine WkL.keepL hH rfl (by simp) rfl ?_ ?_
      · intro o ho
        simp only [List.mem_singleton] at ho
        subst ho
        exact okN_kept _ _
      · intro v hv
        simp only [newV, List.map_cons, List.map_nil, List.mem_cons, List.not_mem_nil, or_false] at hv
        subst hv
        trivial
    | some y =>
      rw [hf] at hlk
      refine look_mp (by kernel_rfl) (hlk _) rfl ?_
      by_cases hp : y.2 = x.p
      · obtain ⟨e1, e2⟩ := kept_good q2 hf hp
        rw [← htk] at e2
        rw [e1, Bool.false_or] at hstep
        obtain ⟨y1, y2⟩ := y
        dsimp only at hp
        subst hp
        simp (disch := first | omega | (simp only [go_sem]; first | done | omega)) only [go_sem, encKv]
        refine mup_mp (by kernel_rfl) (put_again x S (by kernel_rfl) hf) ?_
        simp (disch := first | omega | (simp only [go_sem]; first | done | omega)) only [go_sem]
        refine Next.mk (k + 1, S) ⟨⟨by dsimp only; omega, e2, by rw [← q3, hstep]⟩, by dsimp only; omega⟩ ?_
        refine WkL.keepL hH rfl (by simp) rfl ?_ ?_
        · intro o ho
          simp only [List.mem_singleton] at ho
          subst ho
          exact okN_kept _ _
        · intro v hv
          simp only [newV, List.map_cons, List.map_nil, List.mem_cons, List.not_mem_nil, or_false] at hv
          subst hv
          trivial
      · have e1 := kept_bad q2 hf hp
        rw [e1, Bool.true_or, q3] at hstep
        rw [hstep] at hk
        simp (disch := first | omega | (simp only [go_sem]; first | done | omega)) only [go_sem, encKv, pk_eq, hp]
        exact Ret.drop hH (Nat.le_refl _) trivial hk
  · simp (disch := first | omega | (simp only [go_sem]; first | done | omega)) only [go_sem, hlt]
    rw [List.drop_eq_nil_of_le (by omega)] at q3
    rw [← q3, show cfF (l.take k) [] = false from rfl] at hk
    exact Ret.drop hH (Nat.le_refl _) trivial hk
end Go.Proofs.YtflklkijfkmeiaaGreatDoor
/- Arrivals whose packets are not the same where they should be: the document's answer. No condition. -/
namespace Go.Proofs.YtflklkijfkmeiaaGreatDoor
open Go Go.RowKit
set_option maxRecDepth 100000
set_option linter.all false
set_option maxHeartbeats 1000000
variable {H : Hp} {K : AV → Hp → Prop}
theorem samePacket_a (a b : Arr) (hk : K (.c (.bool (sameK a b))) H) : ACalls Tryz.prog 163 [.agg (encAr a), .agg (encAr b)] H K := by
  unfold sameK at hk
  by_cases h : a.nd = b.nd
  · rw [decide_eq_true h, Bool.true_and] at hk
    refine acalls Tryz.func163 rfl (by kernel_rfl) (by simp (disch := first | omega | (simp only [go_sem]; first | done | omega)) only [go_sem]) (fun hH => ?_)
    simp (disch := first | omega | (simp only [go_sem]; first | done | omega)) only [go_sem, decide_eq_true h]
    exact Ret.drop hH (Nat.le_refl _) trivial hk
  · rw [decide_eq_false h, Bool.false_and] at hk
    refine acalls Tryz.func163 rfl (by kernel_rfl) (by simp (disch := first | omega | (simp only [go_sem]; first | done | omega)) only [go_sem]) (fun hH => ?_)
    simp (disch := first | omega | (simp only [go_sem]; first | done | omega)) only [go_sem, decide_eq_false h]
    exact Ret.drop hH (Nat.le_refl _) trivial hk
theorem indexLstAr_a (f : FuncId) (caps : List (Nat × Nat × Nat)) (p : Arr → Bool) (he : entersB Tryz.prog f = true) (hc : ∀ (a b c : Nat), (a, b, c) ∈ caps → a < H.length) (l : List Arr) (hf : ∀ (x : Arr) (K : AV → Hp → Prop), x ∈ l → K (.c (.bool (p x))) H → ACalls Tryz.prog f (.agg (encAr x) :: caps.map fun q => .c (.ptr (some q))) H K) (hlen : l.length ≤ 1099511627776)
    (hk0 : l.any p = false → K (.c (.int .i64 (-1))) H) (hk1 : ∀ k : Nat, (h : k < l.length) → p l[k] = true → (∀ j (h : j < l.length), j < k → p l[j] = false) → K (.c (.int .i64 k)) H) : ACalls Tryz.prog 225 [.c (.lst 7 (l.map encAr)), .c (.fn f [] caps)] H K := by
  refine acalls Tryz.func225 rfl (by kernel_rfl) (by simp (disch := first | omega | (simp only [go_sem]; first | done | omega)) only [go_sem]) (fun hH => ?_)
  simp (disch := first | omega | (simp only [go_sem]; first | done | omega)) only [go_sem]
  refine AWp.loop (H.length) [0, 1, 7] [8] (fun (k : Nat) => k ≤ l.length ∧ ∀ j (h : j < l.length), j < k → p l[j] = false) (fun (k : Nat) => [(8, (.c (.int .i64 k)))]) (fun (k : Nat) => H) (fun (k : Nat) => l.length - k) (by kernel_rfl) (fun _ => rfl) (by kernel_rfl) (by first | (simp; done) | omega) (by first | (simp; done) | (simp; omega) | omega) kl ?_ (fun k hk1' _ _ => ?_)
  · exact Next.mk 0 (by simp) wk
  obtain ⟨hk1', hk2⟩ := hk1'
  by_cases hlt : k < l.length
  · simp (disch := first | omega | (simp only [go_sem]; first | done | omega)) only [go_sem, he]
    refine hf l[k] _ (List.getElem_mem hlt) ?_
    simp (disch := first | omega | (simp only [go_sem]; first | done | omega)) only [go_sem]
    refine acond_b (fun c => ?_) (fun c => ?_)
    · simp (disch := first | omega | (simp only [go_sem]; first | done | omega)) only [go_sem]
      exact Ret.same (Nat.le_refl _) (hk1 k hlt c hk2)
    · simp (disch := first | omega | (simp only [go_sem]; first | done | omega)) only [go_sem]
      refine Next.mk (k + 1) ⟨⟨by omega, fun j h hj => ?_⟩, by omega⟩ wk
      rcases Nat.lt_or_ge j k with h1 | h1
      · exact hk2 j h h1
      · obtain rfl : j = k := by omega
        simpa using c
  · simp (disch := first | omega | (simp only [go_sem]; first | done | omega)) only [go_sem]
    refine Ret.same (Nat.le_refl _) (hk0 ?_)
    rw [List.any_eq_false]
    intro x hx
    obtain ⟨j, hj, rfl⟩ := List.getElem_of_mem hx
    simpa using hk2 j hj (by omega)
theorem contLstAr_a (f : FuncId) (caps : List (Nat × Nat × Nat)) (p : Arr → Bool) (he : entersB Tryz.prog f = true) (hc : ∀ (a b c : Nat), (a, b, c) ∈ caps → a < H.length) (l : List Arr) (hf : ∀ (x : Arr) (K : AV → Hp → Prop), x ∈ l → K (.c (.bool (p x))) H → ACalls Tryz.prog f (.agg (encAr x) :: caps.map fun q => .c (.ptr (some q))) H K) (hlen : l.length ≤ 1099511627776)
    (hk : K (.c (.bool (l.any p))) H) : ACalls Tryz.prog 161 [.c (.lst 7 (l.map encAr)), .c (.fn f [] caps)] H K := by
  refine acalls Tryz.func161 rfl (by kernel_rfl) (by simp (disch := first | omega | (simp only [go_sem]; first | done | omega)) only [go_sem]) (fun hH => ?_)
  simp (disch := first | omega | (simp only [go_sem]; first | done | omega)) only [go_sem]
  refine indexLstAr_a f caps p he hc l hf hlen (fun h => ?_) (fun k h1 h2 _ => ?_)
  · rw [h] at hk
    simp (disch := first | omega | (simp only [go_sem]; first | done | omega)) only [go_sem]
    exact Ret.same (Nat.le_refl _) hk
  · rw [show l.any p = true from List.any_eq_true.2 ⟨_, List.getElem_mem h1, h2⟩] at hk
    simp (disch := first | omega | (simp only [go_sem]; first | done | omega)) only [go_sem]
    exact Ret.same (Nat.le_refl _) hk
theorem cfFn_a (b x : Arr) {i ty : Nat} {own : Bool} (hi : H[i]? = some (.row ty 7 [encAr x] own)) (hk : K (.c (.bool (sameK x b && !decide (x.p = b.p)))) H) : ACalls Tryz.prog 162 [.agg (encAr b), .c (.ptr (some (i, 0, 0)))] H K := by
  have hilt := getElem?_lt hi
  refine acalls Tryz.func162 rfl (by kernel_rfl) (by simp (disch := first | omega | (simp only [go_sem]; first | done | omega)) only [go_sem]) (fun hH => ?_)
  simp (disch := first | omega | (simp only [go_sem]; first | done | omega)) only [go_sem, hi]
  refine samePacket_a x b ?_
  cases hs : sameK x b with
  | true =>
    rw [hs, Bool.true_and] at hk
    simp (disch := first | omega | (simp only [go_sem]; first | done | omega)) only [go_sem, hi, pk_eq]
    exact Ret.drop hH (Nat.le_refl _) trivial hk
  | false =>
    rw [hs, Bool.false_and] at hk
    simp (disch := first | omega | (simp only [go_sem]; first | done | omega)) only [go_sem]
    exact Ret.drop hH (Nat.le_refl _) trivial hk
theorem conflictR_a (l : List Arr) (hl : l.length ≤ 1000000) (hk : K (.c (.bool (cfF [] l))) H) : ACalls Tryz.prog 95 [.c (.lst 7 (l.map encAr))] H K := by
  refine acalls Tryz.func95 rfl (by kernel_rfl) (by simp (disch := first | omega | (simp only [go_sem]; first | done | omega)) only [go_sem]) (fun hH => ?_)
  simp (disch := first | omega | (simp only [go_sem]; first | done | omega)) only [go_sem]
  refine AWp.loop (H.length) [0, 5, 6] [7] (fun (k : Nat) => k ≤ l.length ∧ cfF (l.take k) (l.drop k) = cfF [] l) (fun (k : Nat) => [(7, (.c (.int .i64 k)))]) (fun (k : Nat) => H) (fun (k : Nat) => l.length - k) (by kernel_rfl) (fun _ => rfl) (by kernel_rfl) (by first | (simp; done) | omega) (by first | (simp; done) | (simp; omega) | omega) kl ?_ (fun k hq _ _ => ?_)
  · refine Next.mk 0 ⟨Nat.zero_le _, rfl⟩ ?_
    exact wk
  obtain ⟨q1, q3⟩ := hq
  by_cases hlt : k < l.length
  · obtain ⟨x, hx⟩ : ∃ x, x = l[k] := ⟨_, rfl⟩
    have hstep : cfF (l.take k) (l.drop k) = ((l.take k).any (fun b => sameK x b && !decide (x.p = b.p)) || cfF (l.take (k + 1)) (l.drop (k + 1))) := by
      rw [List.drop_eq_getElem_cons hlt, cfF, ← hx, List.take_succ_eq_append_getElem hlt, ← hx]
    simp (disch := first | omega | (simp only [go_sem]; first | done | omega)) only [go_sem, hlt, ← hx]
    rw [Nat.sub_zero, ← List.map_take]
    refine contLstAr_a _ _ (fun b => sameK x b && !decide (x.p = b.p)) (by kernel_rfl) (by intro a b c hm; simp at hm; simp; omega) (l.take k) (fun b K1 _ hK1 => cfFn_a b x (by rw [List.getElem?_append_right (Nat.le_refl _), Nat.sub_self]; rfl) hK1) (by rw [List.length_take]; omega) ?_
    cases hb : (l.take k).any (fun b => sameK x b && !decide (x.p = b.p)) with
    | true =>
      rw [hb, Bool.true_or, q3] at hstep
      rw [hstep] at hk
      simp (disch := first | omega | (simp only [go_sem]; first | done | omega)) only [go_sem]
      exact Ret.drop hH (Nat.le_refl _) trivial hk
    | false =>
      rw [hb, Bool.false_or, q3] at hstep
      simp (disch := first | omega | (simp only [go_sem]; first | done | omega)) only [go_sem]
      refine Next.mk (k + 1) ⟨⟨by omega, hstep.symm⟩, by omega⟩ ?_
      exact wk
  · simp (disch := first | omega | (simp only [go_sem]; first | done | omega)) only [go_sem, hlt]
    rw [List.drop_eq_nil_of_le (by omega)] at q3
    rw [← q3, show cfF (l.take k) [] = false from rfl] at hk
    exact Ret.same (Nat.le_refl _) hk
end Go.Proofs.YtflklkijfkmeiaaGreatDoor
