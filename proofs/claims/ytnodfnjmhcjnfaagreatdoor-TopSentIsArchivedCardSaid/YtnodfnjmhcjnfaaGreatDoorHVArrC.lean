/- Arrivals whose packets are not the same where they should be: the program's answer. No condition. -/
import Derived.Test.YtnodfnjmhcjnfaaGreatDoorHVMoment
namespace Go.Proofs.YtnodfnjmhcjnfaaGreatDoor
open Go Go.RowKit
set_option maxRecDepth 100000
set_option linter.all false
set_option maxHeartbeats 1000000
variable {H : Hp} {K : AV → Hp → Prop}
instance pkDec : DecidableEq Pk := fun a b =>
  if h : a.n = b.n ∧ a.tag = b.tag ∧ a.s = b.s then isTrue (by cases a; cases b; simp_all) else isFalse (by rintro rfl; simp at h)
def sameK (a b : Arr) : Bool := decide (a.nd = b.nd) && decide (a.p.n = b.p.n)
def cfF : List Arr → List Arr → Bool
  | _, [] => false
  | pre, a :: t => pre.any (fun b => sameK a b && !decide (a.p = b.p)) || cfF (pre ++ [a]) t
def encKv (x : ByteArray × Pk) : AV × AV := (.agg [.str x.1, .int .i64 x.2.n], .agg (encPk x.2))
theorem findA_si {α : Type} {kt : TypeId} (hf : fieldsK Tryz.prog kt = some [(0, 3), (1, 1)]) (a : ByteArray) (n : Int) (f : α → ByteArray) (g : α → Int) (h : α → AV) : ∀ l : List α, findA Tryz.prog kt (.agg [.str a, .int .i64 n]) (l.map fun y => (AV.agg [.str (f y), .int .i64 (g y)], h y)) = some (l.findIdx? fun y => decide (a = f y) && decide (n = g y))
  | [] => rfl
  | x :: l => by
    have e : keyEqS Tryz.prog kt (.agg [.str a, .int .i64 n]) (.agg [.str (f x), .int .i64 (g x)]) = some (decide (a = f x) && decide (n = g x)) := by
      rw [keyEqS_agg, hf]
      have hc : coverL [(0, 3), (1, 1)] 2 = true := by decide
      simp only [List.length_cons, List.length_nil, hc, Bool.and_self, if_true]
      simp only [eqF, eqC, List.getElem?_cons_zero, List.getElem?_cons_succ, str_eq, if_true, Bool.and_true]
      rw [show (n == g x) = decide (n = g x) by rw [Bool.eq_iff_iff, beq_iff_eq, decide_eq_true_eq]]
    simp only [List.map_cons, findA, e, List.findIdx?_cons]
    cases hb : (decide (a = f x) && decide (n = g x)) with
    | true => simp
    | false =>
      simp only [Bool.false_eq_true, if_false]
      rw [findA_si hf a n f g h l]
      rfl
def cfS (S : List (ByteArray × Pk)) (x : Arr) : Option (ByteArray × Pk) := S.find? fun y => decide (x.nd = y.1) && decide (x.p.n = y.2.n)
structure Kept (S : List (ByteArray × Pk)) (pre : List Arr) : Prop where
  all : ∀ b ∈ pre, ∃ y ∈ S, y.1 = b.nd ∧ y.2 = b.p
  out : ∀ y ∈ S, ∃ b ∈ pre, y = (b.nd, b.p)
  one : ∀ b ∈ pre, ∀ b' ∈ pre, sameK b b' = true → b.p = b'.p
theorem kept_nil : Kept [] [] := ⟨by simp, by simp, by simp⟩
theorem sameK_iff {a b : Arr} : sameK a b = true ↔ a.nd = b.nd ∧ a.p.n = b.p.n := by simp [sameK]
theorem kept_bad {S : List (ByteArray × Pk)} {pre : List Arr} {a : Arr} {y : ByteArray × Pk} (h : Kept S pre) (hf : cfS S a = some y) (hp : y.2 ≠ a.p) : pre.any (fun b => sameK a b && !decide (a.p = b.p)) = true := by
  have h1 := List.find?_some hf
  have h2 := List.mem_of_find?_eq_some hf
  simp only [Bool.and_eq_true, decide_eq_true_eq] at h1
  obtain ⟨b, hb, rfl⟩ := h.out y h2
  rw [List.any_eq_true]
  refine ⟨b, hb, ?_⟩
  rw [Bool.and_eq_true]
  exact ⟨sameK_iff.2 h1, by simpa using fun e => hp e.symm⟩
theorem kept_good {S : List (ByteArray × Pk)} {pre : List Arr} {a : Arr} {y : ByteArray × Pk} (h : Kept S pre) (hf : cfS S a = some y) (hp : y.2 = a.p) : pre.any (fun b => sameK a b && !decide (a.p = b.p)) = false ∧ Kept S (pre ++ [a]) := by
  have h1 := List.find?_some hf
  have h2 := List.mem_of_find?_eq_some hf
  simp only [Bool.and_eq_true, decide_eq_true_eq] at h1
  obtain ⟨c, hc, rfl⟩ := h.out y h2
  dsimp only at h1 hp
  have key : ∀ b ∈ pre, sameK a b = true → a.p = b.p := by
    intro b hb hs
    have hs := sameK_iff.1 hs
    rw [← hp]
    exact h.one c hc b hb (sameK_iff.2 ⟨h1.1.symm.trans hs.1, h1.2.symm.trans hs.2⟩)
  refine ⟨?_, ?_, ?_, ?_⟩
  · rw [List.any_eq_false]
    intro b hb hh
    rw [Bool.and_eq_true] at hh
    have := key b hb hh.1
    simp [this] at hh
  · intro b hb
    rcases List.mem_append.1 hb with hb | hb
    · exact h.all b hb
    · simp at hb; subst hb
      exact ⟨_, h2, h1.1.symm, hp⟩
  · intro y hy
    obtain ⟨b, hb, e⟩ := h.out y hy
    exact ⟨b, List.mem_append_left _ hb, e⟩
  · intro b hb b' hb' hs
    rcases List.mem_append.1 hb with g | g <;> rcases List.mem_append.1 hb' with g' | g'
    · exact h.one b g b' g' hs
    · simp at g'; subst g'
      have hs := sameK_iff.1 hs
      exact (key b g (sameK_iff.2 ⟨hs.1.symm, hs.2.symm⟩)).symm
    · simp at g; subst g
      exact key b' g' hs
    · simp at g g'; subst g; subst g'; rfl
theorem kept_new {S : List (ByteArray × Pk)} {pre : List Arr} {a : Arr} (h : Kept S pre) (hf : cfS S a = none) : pre.any (fun b => sameK a b && !decide (a.p = b.p)) = false ∧ Kept (S ++ [(a.nd, a.p)]) (pre ++ [a]) := by
  have key : ∀ b ∈ pre, sameK a b = true → False := by
    intro b hb hs
    have hs := sameK_iff.1 hs
    obtain ⟨y, hy, e1, e2⟩ := h.all b hb
    have := List.find?_eq_none.1 hf y hy
    simp only [Bool.and_eq_true, decide_eq_true_eq, not_and] at this
    exact this (by rw [e1]; exact hs.1) (by rw [e2]; exact hs.2)
  refine ⟨?_, ?_, ?_, ?_⟩
  · rw [List.any_eq_false]
    intro b hb hh
    rw [Bool.and_eq_true] at hh
    exact key b hb hh.1
  · intro b hb
    rcases List.mem_append.1 hb with hb | hb
    · obtain ⟨y, hy, e⟩ := h.all b hb
      exact ⟨y, List.mem_append_left _ hy, e⟩
    · simp at hb; subst hb
      exact ⟨(b.nd, b.p), List.mem_append_right _ (List.mem_singleton.2 rfl), rfl, rfl⟩
  · intro y hy
    rcases List.mem_append.1 hy with hy | hy
    · obtain ⟨b, hb, e⟩ := h.out y hy
      exact ⟨b, List.mem_append_left _ hb, e⟩
    · simp at hy; subst hy
      exact ⟨a, by simp, rfl⟩
  · intro b hb b' hb' hs
    rcases List.mem_append.1 hb with g | g <;> rcases List.mem_append.1 hb' with g' | g'
    · exact h.one b g b' g' hs
    · simp at g'; subst g'
      have hs := sameK_iff.1 hs
      exact (key b g (sameK_iff.2 ⟨hs.1.symm, hs.2.symm⟩)).elim
    · simp at g; subst g
      exact (key b' g' hs).elim
    · simp at g g'; subst g; subst g'; rfl
@[go_sem] theorem mapK_sp : mapK Tryz.prog 358 = some 298 := (by kernel_rfl)
@[go_sem] theorem mapZ_sp : (mapE Tryz.prog 358).bind (zeroA Tryz.prog) = some (.agg [.int .i64 0, .str .empty, .int .i64 0, .int .i64 0, .int .i64 0]) := (by kernel_rfl)
theorem fields_sp : fieldsK Tryz.prog 298 = some [(0, 3), (1, 1)] := (by kernel_rfl)
theorem look_kept {z : AV} (x : Arr) (S : List (ByteArray × Pk)) (ht : keyT Tryz.prog 298 (.agg [.str x.nd, .int .i64 x.p.n]) = true) : mapGet Tryz.prog 298 (.agg [.str x.nd, .int .i64 x.p.n]) (some z) (S.map encKv) = some (match cfS S x with | some y => ((encKv y).2, true) | none => (z, false)) := by
  rw [get_of (z := z) (e := encKv) (p := fun y => decide (x.nd = y.1) && decide (x.p.n = y.2.n)) ht (findA_si fields_sp x.nd x.p.n (fun y : ByteArray × Pk => y.1) (fun y : ByteArray × Pk => y.2.n) (fun y : ByteArray × Pk => .agg (encPk y.2)) S)]
  unfold cfS
  cases List.find? (fun y : ByteArray × Pk => decide (x.nd = y.1) && decide (x.p.n = y.2.n)) S <;> rfl
theorem put_kept (x : Arr) (S : List (ByteArray × Pk)) (ht : keyT Tryz.prog 298 (.agg [.str x.nd, .int .i64 x.p.n]) = true) (h : cfS S x = none) : mapPut Tryz.prog 298 (.agg [.str x.nd, .int .i64 x.p.n]) (.agg (encPk x.p)) (S.map encKv) = some ((S ++ [(x.nd, x.p)]).map encKv) := by
  have h1 := put_of (P := Tryz.prog) (e := encKv) (p := fun y => decide (x.nd = y.1) && decide (x.p.n = y.2.n)) (x := (x.nd, x.p)) (l := S) ht (findA_si fields_sp x.nd x.p.n (fun y : ByteArray × Pk => y.1) (fun y : ByteArray × Pk => y.2.n) (fun y : ByteArray × Pk => .agg (encPk y.2)) S) rfl
  have h2 : upsert (fun y : ByteArray × Pk => decide (x.nd = y.1) && decide (x.p.n = y.2.n)) (x.nd, x.p) S = S ++ [(x.nd, x.p)] := by
    unfold upsert
    rw [List.findIdx?_eq_none_iff.2 (by
      intro y hy
      have := List.find?_eq_none.1 h y hy
      simpa using this)]
  rw [h2] at h1
  exact h1
theorem upsert_same {α : Type} {p : α → Bool} {x : α} : ∀ {l : List α}, l.find? p = some x → upsert p x l = l
  | [], h => by simp at h
  | y :: l, h => by
    unfold upsert
    rw [List.findIdx?_cons]
    cases hy : p y with
    | true =>
      rw [List.find?_cons_of_pos hy] at h
      obtain rfl := Option.some.inj h
      simp
    | false =>
      rw [List.find?_cons_of_neg (by simp [hy])] at h
      have ih := upsert_same h
      unfold upsert at ih
      simp only [Bool.false_eq_true, if_false]
      cases hq : l.findIdx? p with
      | none =>
        rw [hq] at ih
        have := congrArg List.length ih
        simp at this
      | some j =>
        rw [hq] at ih
        simp only [Option.map_some, List.set_cons_succ]
        have ih : l.set j x = l := ih
        rw [ih]
theorem put_again (x : Arr) (S : List (ByteArray × Pk)) {y : ByteArray} (ht : keyT Tryz.prog 298 (.agg [.str x.nd, .int .i64 x.p.n]) = true) (h : cfS S x = some (y, x.p)) : mapPut Tryz.prog 298 (.agg [.str x.nd, .int .i64 x.p.n]) (.agg (encPk x.p)) (S.map encKv) = some (S.map encKv) := by
  have hy : x.nd = y := by
    have := List.find?_some h
    simp only [Bool.and_eq_true, decide_eq_true_eq] at this
    exact this.1
  subst hy
  have h1 := put_of (P := Tryz.prog) (e := encKv) (p := fun y => decide (x.nd = y.1) && decide (x.p.n = y.2.n)) (x := (x.nd, x.p)) (l := S) ht (findA_si fields_sp x.nd x.p.n (fun y : ByteArray × Pk => y.1) (fun y : ByteArray × Pk => y.2.n) (fun y : ByteArray × Pk => .agg (encPk y.2)) S) rfl
  rw [upsert_same h] at h1
  exact h1
theorem pk_eq (a b : Pk) : (decide (a.n = b.n) && (decide (a.tag = b.tag) && (decide (a.s.t = b.s.t) && (decide (a.s.v = b.s.v) && decide (a.s.q = b.s.q))))) = decide (a = b) := by
  rw [Bool.eq_iff_iff]
  simp only [Bool.and_eq_true, decide_eq_true_eq]
  obtain ⟨a1, a2, a3⟩ := a
  obtain ⟨b1, b2, b3⟩ := b
  cases a3; cases b3
  constructor
  · rintro ⟨rfl, rfl, rfl, rfl, rfl⟩; rfl
  · intro h; cases h; exact ⟨rfl, rfl, rfl, rfl, rfl⟩
theorem okN_kept (S : List (ByteArray × Pk)) (n : Nat) : (mpO (S.map encKv)).okN n := by
  unfold mpO AObj.okN
  intro p hp
  obtain ⟨x, _, rfl⟩ := List.mem_map.1 hp
  refine ⟨?_, ?_⟩
  · intro c hc; simp at hc; rcases hc with rfl | rfl <;> trivial
  · intro c hc; simp [encPk] at hc; rcases hc with rfl | rfl | rfl | rfl | rfl <;> trivial
theorem conflict_a (l : List Arr) (hl : l.length ≤ 1000000) (hk : K (.c (.bool (cfF [] l))) H) : ACalls Tryz.prog 231 [.c (.lst 7 (l.map encAr))] H K := by
  refine acalls Tryz.func231 rfl (by kernel_rfl) (by simp (disch := first | omega | (simp only [go_sem]; first | done | omega)) only [go_sem]) (fun hH => ?_)
  simp (disch := first | omega | (simp only [go_sem]; first | done | omega)) only [go_sem]
  refine AWp.loop (H.length + 1) [3, 10, 11] [12] (fun (q : Nat × List (ByteArray × Pk)) => q.1 ≤ l.length ∧ Kept q.2 (l.take q.1) ∧ cfF (l.take q.1) (l.drop q.1) = cfF [] l) (fun (q : Nat × List (ByteArray × Pk)) => [(12, (.c (.int .i64 (q.1))))]) (fun (q : Nat × List (ByteArray × Pk)) => H ++ [mpO (q.2.map encKv)]) (fun (q : Nat × List (ByteArray × Pk)) => l.length - q.1) (by kernel_rfl) (fun _ => rfl) (by kernel_rfl) (by first | (simp; done) | omega) (by first | (simp; done) | (simp; omega) | omega) kl ?_ (fun q hq _ _ => ?_)
  · refine Next.mk (0, []) ⟨Nat.zero_le _, kept_nil, rfl⟩ ?_
    exact wk
  obtain ⟨k, S⟩ := q
  obtain ⟨q1, q2, q3⟩ := hq
  dsimp only at q1 q2 q3 ⊢
  by_cases hlt : k < l.length
  · obtain ⟨x, hx⟩ : ∃ x, x = l[k] := ⟨_, rfl⟩
    have hstep : cfF (l.take k) (l.drop k) = ((l.take k).any (fun b => sameK x b && !decide (x.p = b.p)) || cfF (l.take (k + 1)) (l.drop (k + 1))) := by
      rw [List.drop_eq_getElem_cons hlt, cfF, ← hx, List.take_succ_eq_append_getElem hlt, ← hx]
    have htk : l.take (k + 1) = l.take k ++ [x] := by rw [List.take_succ_eq_append_getElem hlt, ← hx]
    have hlk := fun z => look_kept (z := z) x S (by kernel_rfl)
    simp (disch := first | omega | (simp only [go_sem]; first | done | omega)) only [go_sem, hlt, ← hx]
    cases hf : cfS S x with
    | none =>
      obtain ⟨e1, e2⟩ := kept_new q2 hf
      rw [← htk] at e2
      rw [e1, Bool.false_or] at hstep
      rw [hf] at hlk
      refine look_mp (by kernel_rfl) (hlk _) rfl ?_
      simp (disch := first | omega | (simp only [go_sem]; first | done | omega)) only [go_sem]
      refine mup_mp (by kernel_rfl) (put_kept x S (by kernel_rfl) hf) ?_
      simp (disch := first | omega | (simp only [go_sem]; first | done | omega)) only [go_sem]
      refine Next.mk (k + 1, S ++ [(x.nd, x.p)]) ⟨⟨by dsimp only; omega, e2, by rw [← q3, hstep]⟩, by dsimp only; omega⟩ ?_
      refine WkL.keepL hH rfl (by simp) rfl ?_ ?_
      · intro o ho
        simp only [List.mem_singleton] at ho
        subst ho
        exact okN_kept _ _
      · intro v hv
        simp only [newV, List.map_cons, List.map_nil, List.mem_cons, List.not_mem_nil, or_false] at hv
        subst hv
        trivial
    | some y =>
      rw [hf] at hlk
      refine look_mp (by kernel_rfl) (hlk _) rfl ?_
      by_cases hp : y.2 = x.p
      · obtain ⟨e1, e2⟩ := kept_good q2 hf hp
        rw [← htk] at e2
        rw [e1, Bool.false_or] at hstep
        obtain ⟨y1, y2⟩ := y
        dsimp only at hp
        subst hp
        simp (disch := first | omega | (simp only [go_sem]; first | done | omega)) only [go_sem, encKv]
        refine mup_mp (by kernel_rfl) (put_again x S (by kernel_rfl) hf) ?_
        simp (disch := first | omega | (simp only [go_sem]; first | done | omega)) only [go_sem]
        refine Next.mk (k + 1, S) ⟨⟨by dsimp only; omega, e2, by rw [← q3, hstep]⟩, by dsimp only; omega⟩ ?_
        refine WkL.keepL hH rfl (by simp) rfl ?_ ?_
        · intro o ho
          simp only [List.mem_singleton] at ho
          subst ho
          exact okN_kept _ _
        · intro v hv
          simp only [newV, List.map_cons, List.map_nil, List.mem_cons, List.not_mem_nil, or_false] at hv
          subst hv
          trivial
      · have e1 := kept_bad q2 hf hp
        rw [e1, Bool.true_or, q3] at hstep
        rw [hstep] at hk
        simp (disch := first | omega | (simp only [go_sem]; first | done | omega)) only [go_sem, encKv, pk_eq, hp]
        exact Ret.drop hH (Nat.le_refl _) trivial hk
  · simp (disch := first | omega | (simp only [go_sem]; first | done | omega)) only [go_sem, hlt]
    rw [List.drop_eq_nil_of_le (by omega)] at q3
    rw [← q3, show cfF (l.take k) [] = false from rfl] at hk
    exact Ret.drop hH (Nat.le_refl _) trivial hk
end Go.Proofs.YtnodfnjmhcjnfaaGreatDoor
