/- FixesOf: the document's union of fixes. Condition: the lists are right; at most 12 fixes come together. -/
import Derived.Test.YtgcjenfdndhhpaaGreatHVFixU
namespace Go.Proofs.YtgcjenfdndhhpaaGreat
open Go Go.RowKit
set_option maxRecDepth 100000
set_option linter.all false
set_option maxHeartbeats 2000000
variable {H : Hp} {K : AV → Hp → Prop}
theorem pdq12Fx_a (f : FuncId) (cf : Fix → Fix → Int) (lt : Fix → Fix → Bool) (P : Fix → Prop) (he : entersB Tryz.prog f = true) (hc : ∀ x y, P x → P y → (cf x y < 0 ↔ lt x y = true)) (hf : ∀ (x y : Fix) (H : Hp) (K : AV → Hp → Prop), P x → P y → K (.c (.int .i64 (cf x y))) H → ACalls Tryz.prog f [.agg (encF x), .agg (encF y)] H K)
    {i n : Nat} (lim : Int) (l : List Fix) (hi : H[i]? = some (.row 77 11 (l.map encF) true)) (hn : n = l.length) (hP : ∀ x ∈ l, P x) (hlen : l.length ≤ 12) (hk : K (.tup []) (H.set i (.row 77 11 ((isortG lt l).map encF) true))) :
    ACalls Tryz.prog 158 [.c (.sl (some (i, 0)) n), (.c (.int .i64 0)), (.c (.int .i64 n)), (.c (.int .i64 lim)), .c (.fn f [] [])] H K := by
  subst hn
  have hlt := getElem?_lt hi
  refine acalls Tryz.func158 rfl (by kernel_rfl) (by simp (disch := first | omega | (simp only [go_sem]; first | done | omega)) only [go_sem]) (fun hH => ?_)
  simp (disch := first | omega | (simp only [go_sem]; first | done | omega)) only [go_sem]
  refine AWp.loop (H.length) [0, 4] [1, 2, 3, 10, 11] (fun (q : Unit) => True) (fun (q : Unit) => [(1, (.c (.int .i64 0))), (2, (.c (.int .i64 (l.length)))), (3, (.c (.int .i64 lim))), (10, (.c (.bool true))), (11, (.c (.bool true)))]) (fun (q : Unit) => H) (fun (q : Unit) => 0) (by kernel_rfl) (fun _ => rfl) (by kernel_rfl) (by first | (simp; done) | omega) (by first | (simp; done) | (simp; omega) | omega) (by (try simp only [List.forall_mem_cons, List.not_mem_nil, false_implies, implies_true, and_true]); (try simp (disch := first | omega | (simp only [go_sem]; first | done | omega)) only [go_sem]); all_goals first | trivial | (simp [AV.ok, AV.ok1, AC.ok]; done) | (simp [AV.ok, AV.ok1, AC.ok]; omega) | (simp [AV.ok, AV.ok1, AC.ok]; assumption) | ((repeat' apply And.intro) <;> first | trivial | (simp [AV.ok, AV.ok1, AC.ok]; done) | (simp [AV.ok, AV.ok1, AC.ok]; omega) | (simp [AV.ok, AV.ok1, AC.ok]; assumption) | (refine grV_ok ?_ _; first | (simp; done) | (simp; omega) | omega))) ?_ (fun q hq _ _ => ?_)
  · exact Next.mk () trivial (by (try simp (disch := first | omega | (simp only [go_sem]; first | done | omega)) only [go_sem]); (first | refine WkL.eq ?_ ?_ | refine WkL.rest (by assumption) ?_ ?_ ?_ | refine WkL.keepL (by assumption) rfl ?_ ?_ ?_ ?_) <;> first | rfl | (simp; done) | (simp; omega) | (simp only [List.cons.injEq, AV.c.injEq, AC.int.injEq, AC.bool.injEq, AC.str.injEq, and_true, true_and, Int.natCast_add, Int.natCast_one, Int.cast_ofNat_Int]; omega) | (simp [AV.ok, AV.ok1, AC.ok]; done) | (simp [AV.ok, AV.ok1, AC.ok]; omega) | (simp only [List.forall_mem_cons, List.not_mem_nil, false_implies, implies_true, and_true]; (repeat' apply And.intro) <;> first | exact okN_map (fun x => by simp [go_sem, AC.pure]) | exact okN_grO (fun x => by simp [go_sem, AC.pure]) | (simp [AObj.okN, AC.ok]; done) | (simp [AObj.okN, AC.ok]; omega)) | (simp [*]; done) | grind)
  simp (disch := first | omega | (simp only [go_sem]; first | done | omega)) only [go_sem]
  refine insertionFx_a f cf lt P he hc hf l hi rfl hP (by omega) ?_
  simp (disch := first | omega | (simp only [go_sem]; first | done | omega)) only [go_sem]
  exact Ret.same (by simp) hk
theorem insNil12Fx_a (f : FuncId) (hk : K (.tup []) H) : ACalls Tryz.prog 198 [.c (.sl none 0), (.c (.int .i64 0)), (.c (.int .i64 0)), .c (.fn f [] [])] H K := by
  refine acalls Tryz.func198 rfl (by kernel_rfl) (by simp (disch := first | omega | (simp only [go_sem]; first | done | omega)) only [go_sem]) (fun hH => ?_)
  simp (disch := first | omega | (simp only [go_sem]; first | done | omega)) only [go_sem]
  refine AWp.loop (H.length) [0, 1, 2, 3] [8] (fun (q : Unit) => True) (fun (q : Unit) => [(8, (.c (.int .i64 1)))]) (fun (q : Unit) => H) (fun (q : Unit) => 0) (by kernel_rfl) (fun _ => rfl) (by kernel_rfl) (by first | (simp; done) | omega) (by first | (simp; done) | (simp; omega) | omega) (by (try simp only [List.forall_mem_cons, List.not_mem_nil, false_implies, implies_true, and_true]); (try simp (disch := first | omega | (simp only [go_sem]; first | done | omega)) only [go_sem]); all_goals first | trivial | (simp [AV.ok, AV.ok1, AC.ok]; done) | (simp [AV.ok, AV.ok1, AC.ok]; omega) | (simp [AV.ok, AV.ok1, AC.ok]; assumption) | ((repeat' apply And.intro) <;> first | trivial | (simp [AV.ok, AV.ok1, AC.ok]; done) | (simp [AV.ok, AV.ok1, AC.ok]; omega) | (simp [AV.ok, AV.ok1, AC.ok]; assumption) | (refine grV_ok ?_ _; first | (simp; done) | (simp; omega) | omega))) ?_ (fun q hq _ _ => ?_)
  · exact Next.mk () trivial (by (try simp (disch := first | omega | (simp only [go_sem]; first | done | omega)) only [go_sem]); (first | refine WkL.eq ?_ ?_ | refine WkL.rest (by assumption) ?_ ?_ ?_ | refine WkL.keepL (by assumption) rfl ?_ ?_ ?_ ?_) <;> first | rfl | (simp; done) | (simp; omega) | (simp only [List.cons.injEq, AV.c.injEq, AC.int.injEq, AC.bool.injEq, AC.str.injEq, and_true, true_and, Int.natCast_add, Int.natCast_one, Int.cast_ofNat_Int]; omega) | (simp [AV.ok, AV.ok1, AC.ok]; done) | (simp [AV.ok, AV.ok1, AC.ok]; omega) | (simp only [List.forall_mem_cons, List.not_mem_nil, false_implies, implies_true, and_true]; (repeat' apply And.intro) <;> first | exact okN_map (fun x => by simp [go_sem, AC.pure]) | exact okN_grO (fun x => by simp [go_sem, AC.pure]) | (simp [AObj.okN, AC.ok]; done) | (simp [AObj.okN, AC.ok]; omega)) | (simp [*]; done) | grind)
  simp (disch := first | omega | (simp only [go_sem]; first | done | omega)) only [go_sem]
  exact Ret.same (by simp) hk
theorem pdqNil12Fx_a (f : FuncId) (lim : Int) (hk : K (.tup []) H) : ACalls Tryz.prog 158 [.c (.sl none 0), (.c (.int .i64 0)), (.c (.int .i64 0)), (.c (.int .i64 lim)), .c (.fn f [] [])] H K := by
  refine acalls Tryz.func158 rfl (by kernel_rfl) (by simp (disch := first | omega | (simp only [go_sem]; first | done | omega)) only [go_sem]) (fun hH => ?_)
  simp (disch := first | omega | (simp only [go_sem]; first | done | omega)) only [go_sem]
  refine AWp.loop (H.length) [0, 4] [1, 2, 3, 10, 11] (fun (q : Unit) => True) (fun (q : Unit) => [(1, (.c (.int .i64 0))), (2, (.c (.int .i64 0))), (3, (.c (.int .i64 lim))), (10, (.c (.bool true))), (11, (.c (.bool true)))]) (fun (q : Unit) => H) (fun (q : Unit) => 0) (by kernel_rfl) (fun _ => rfl) (by kernel_rfl) (by first | (simp; done) | omega) (by first | (simp; done) | (simp; omega) | omega) (by (try simp only [List.forall_mem_cons, List.not_mem_nil, false_implies, implies_true, and_true]); (try simp (disch := first | omega | (simp only [go_sem]; first | done | omega)) only [go_sem]); all_goals first | trivial | (simp [AV.ok, AV.ok1, AC.ok]; done) | (simp [AV.ok, AV.ok1, AC.ok]; omega) | (simp [AV.ok, AV.ok1, AC.ok]; assumption) | ((repeat' apply And.intro) <;> first | trivial | (simp [AV.ok, AV.ok1, AC.ok]; done) | (simp [AV.ok, AV.ok1, AC.ok]; omega) | (simp [AV.ok, AV.ok1, AC.ok]; assumption) | (refine grV_ok ?_ _; first | (simp; done) | (simp; omega) | omega))) ?_ (fun q hq _ _ => ?_)
  · exact Next.mk () trivial (by (try simp (disch := first | omega | (simp only [go_sem]; first | done | omega)) only [go_sem]); (first | refine WkL.eq ?_ ?_ | refine WkL.rest (by assumption) ?_ ?_ ?_ | refine WkL.keepL (by assumption) rfl ?_ ?_ ?_ ?_) <;> first | rfl | (simp; done) | (simp; omega) | (simp only [List.cons.injEq, AV.c.injEq, AC.int.injEq, AC.bool.injEq, AC.str.injEq, and_true, true_and, Int.natCast_add, Int.natCast_one, Int.cast_ofNat_Int]; omega) | (simp [AV.ok, AV.ok1, AC.ok]; done) | (simp [AV.ok, AV.ok1, AC.ok]; omega) | (simp only [List.forall_mem_cons, List.not_mem_nil, false_implies, implies_true, and_true]; (repeat' apply And.intro) <;> first | exact okN_map (fun x => by simp [go_sem, AC.pure]) | exact okN_grO (fun x => by simp [go_sem, AC.pure]) | (simp [AObj.okN, AC.ok]; done) | (simp [AObj.okN, AC.ok]; omega)) | (simp [*]; done) | grind)
  simp (disch := first | omega | (simp only [go_sem]; first | done | omega)) only [go_sem]
  refine insNil12Fx_a f ?_
  simp (disch := first | omega | (simp only [go_sem]; first | done | omega)) only [go_sem]
  exact Ret.same (by simp) hk
theorem lenq64Fx_a (n : Nat) (hn : n ≤ 12) (hk : ∀ r : Int, K (.c (.int .i64 r)) H) : ACalls Tryz.prog 189 [.c (.int .u64 n)] H K := by
  have hn' : n = 0 ∨ n = 1 ∨ n = 2 ∨ n = 3 ∨ n = 4 ∨ n = 5 ∨ n = 6 ∨ n = 7 ∨ n = 8 ∨ n = 9 ∨ n = 10 ∨ n = 11 ∨ n = 12 := by omega
  obtain ⟨r, hr⟩ : ∃ r : Int, r = ([0, 1, 2, 2, 3, 3, 3, 3, 4, 4, 4, 4, 4] : List Int).getD n 0 := ⟨_, rfl⟩
  refine acalls Tryz.func189 rfl (by kernel_rfl) (by simp (disch := first | omega | (simp only [go_sem]; first | done | omega)) only [go_sem]) (fun hH => ?_)
  simp (disch := first | omega | (simp only [go_sem]; first | done | omega)) only [go_sem]
  refine aIf_valS (v' := .c (.int .u8 r)) ?_ ?_ ?_
  · rcases hn' with rfl | rfl | rfl | rfl | rfl | rfl | rfl | rfl | rfl | rfl | rfl | rfl | rfl <;> decide +kernel
  · subst hr
    rcases hn' with rfl | rfl | rfl | rfl | rfl | rfl | rfl | rfl | rfl | rfl | rfl | rfl | rfl <;> exact congrArg (fun z => AV.c (.int .u8 z)) (by decide +kernel)
  simp (disch := first | omega | (simp only [go_sem]; first | done | omega)) only [go_sem]
  exact Ret.same (Nat.le_refl _) (hk _)
theorem lenqFx_a (n : Nat) (hn : n ≤ 12) (hk : ∀ r : Int, K (.c (.int .i64 r)) H) : ACalls Tryz.prog 143 [.c (.int .u64 n)] H K := by
  refine acalls Tryz.func143 rfl (by kernel_rfl) (by simp (disch := first | omega | (simp only [go_sem]; first | done | omega)) only [go_sem]) (fun hH => ?_)
  simp (disch := first | omega | (simp only [go_sem]; first | done | omega)) only [go_sem]
  refine lenq64Fx_a n hn (fun r => ?_)
  simp (disch := first | omega | (simp only [go_sem]; first | done | omega)) only [go_sem]
  exact Ret.same (Nat.le_refl _) (hk r)
theorem sort12Fx_a (f : FuncId) (cf : Fix → Fix → Int) (lt : Fix → Fix → Bool) (P : Fix → Prop) (he : entersB Tryz.prog f = true) (hc : ∀ x y, P x → P y → (cf x y < 0 ↔ lt x y = true)) (hf : ∀ (x y : Fix) (H : Hp) (K : AV → Hp → Prop), P x → P y → K (.c (.int .i64 (cf x y))) H → ACalls Tryz.prog f [.agg (encF x), .agg (encF y)] H K)
    {i : Nat} (l : List Fix) (hi : H[i]? = some (grO 77 11 (l.map encF))) (hP : ∀ x ∈ l, P x) (hlen : l.length ≤ 12) (hk : K (.tup []) (H.set i (grO 77 11 ((isortG lt l).map encF)))) :
    ACalls Tryz.prog 118 [.c (grV i l), .c (.fn f [] [])] H K := by
  by_cases h : l = []
  · subst h
    have hk : K (.tup []) (H.set i .dead) := hk
    rw [set_same (o := .dead) hi] at hk
    simp only [grV]
    refine acalls Tryz.func118 rfl (by kernel_rfl) (by simp (disch := first | omega | (simp only [go_sem]; first | done | omega)) only [go_sem]) (fun hH => ?_)
    simp (disch := first | omega | (simp only [go_sem]; first | done | omega)) only [go_sem]
    have hw : IntKind.u64.wrap 0 = ((0 : Nat) : Int) := by decide
    try rw [hw]
    refine lenqFx_a 0 (by omega) (fun r => ?_)
    simp (disch := first | omega | (simp only [go_sem]; first | done | omega)) only [go_sem]
    refine pdqNil12Fx_a f r ?_
    simp (disch := first | omega | (simp only [go_sem]; first | done | omega)) only [go_sem]
    exact Ret.same (by simp) hk
  · have h2 : l.map encF ≠ [] := by simpa using h
    have h3 : (isortG lt l).map encF ≠ [] := by intro h4; have := congrArg List.length h4; simp [isortG_len] at this; exact h this
    rw [grO_pos _ _ h2] at hi
    rw [grO_pos _ _ h3] at hk
    rw [grV_pos _ h]
    refine acalls Tryz.func118 rfl (by kernel_rfl) (by simp (disch := first | omega | (simp only [go_sem]; first | done | omega)) only [go_sem]) (fun hH => ?_)
    simp (disch := first | omega | (simp only [go_sem]; first | done | omega)) only [go_sem]
    have hw : IntKind.u64.wrap (l.length : Int) = l.length := by
      have : ∀ m : Fin 13, IntKind.u64.wrap (m.val : Int) = m.val := by decide
      exact this ⟨l.length, by omega⟩
    try rw [hw]
    refine lenqFx_a l.length hlen (fun r => ?_)
    simp (disch := first | omega | (simp only [go_sem]; first | done | omega)) only [go_sem]
    refine pdq12Fx_a f cf lt P he hc hf r l hi rfl hP hlen ?_
    simp (disch := first | omega | (simp only [go_sem]; first | done | omega)) only [go_sem]
    exact Ret.same (by simp) hk
theorem foFn_a (o x : Fix) {i ty : Nat} {own : Bool} (hi : H[i]? = some (.row ty 11 [encF x] own)) (hk : K (.c (.bool (sameX o x))) H) : ACalls Tryz.prog 117 [.agg (encF o), .c (.ptr (some (i, 0, 0)))] H K := by
  have hilt := getElem?_lt hi
  refine acalls Tryz.func117 rfl (by kernel_rfl) (by simp (disch := first | omega | (simp only [go_sem]; first | done | omega)) only [go_sem]) (fun hH => ?_)
  simp (disch := first | omega | (simp only [go_sem]; first | done | omega)) only [go_sem, hi]
  refine sameFix_a o x ?_
  simp (disch := first | omega | (simp only [go_sem]; first | done | omega)) only [go_sem]
  exact Ret.drop hH (Nat.le_refl _) trivial hk
/-- a list that is a clone, or grew from one (b: it was not nil), and its row -/
def fxW (b : Bool) (i : Nat) (l : List Fix) : AC := if b = true then .sl (some (i, 0)) l.length else grV i l
def fxO (b : Bool) (l : List Fix) : AObj := if b = true then .row 77 11 (l.map encF) true else grO 77 11 (l.map encF)
theorem fxW_pos (b : Bool) (i : Nat) {l : List Fix} (h : l ≠ []) : fxW b i l = .sl (some (i, 0)) l.length := by
  cases b with
  | true => rfl
  | false => exact grV_pos _ h
theorem fxO_pos (b : Bool) {l : List Fix} (h : l ≠ []) : fxO b l = .row 77 11 (l.map encF) true := by
  cases b with
  | true => rfl
  | false => exact grO_pos _ _ (by simpa using h)
theorem cloneW_a (l : List Fix) (hl : l.length ≤ 1000000) (hk : ∀ b, K (.c (fxW b H.length l)) (H ++ [fxO b l])) : ACalls Tryz.prog 43 [.c (.lst 11 (l.map encF))] H K := by
  cases l with
  | nil =>
    refine acalls Tryz.func43 rfl (by kernel_rfl) (by simp (disch := first | omega | (simp only [go_sem]; first | done | omega)) only [go_sem]) (fun hH => ?_)
    simp (disch := first | omega | (simp only [go_sem]; first | done | omega)) only [go_sem]
    refine asome_i (fun b _ => ?_)
    cases b
    · simp (disch := first | omega | (simp only [go_sem]; first | done | omega)) only [go_sem]
      refine app_lst ?_
      simp (disch := first | omega | (simp only [go_sem]; first | done | omega)) only [go_sem]
      exact Ret.same (by simp) (hk true)
    · simp (disch := first | omega | (simp only [go_sem]; first | done | omega)) only [go_sem]
      exact Ret.pad (Nat.le_refl _) (Ret.same (by simp) (hk false))
  | cons x xs =>
    refine cloneFx_a (x :: xs) (by omega) ?_
    have := hk true
    rw [fxO_pos _ (by simp)] at this
    have e : clV H.length 11 ((x :: xs).map encF) = fxW true H.length (x :: xs) := by simp [clV, fxW]
    rw [grO_pos _ _ (by simp), e]
    exact this
theorem appW {i q ty : Nat} {own b : Bool} {J : AV → Hp → Prop} (l : List Fix) (x : Fix) (l2 : List Fix) (e : l2 = l ++ [x]) (hi : H[i]? = some (fxO b l)) (hj : H[q]? = some (.row ty 11 [encF x] own)) (hb : l.length ≤ 1000000)
    (h : J (.c (grV H.length l2)) (H.set i .dead ++ [grO 77 11 (l2.map encF)])) : aBuiltin Tryz.prog .append #[71, 71] [.c (fxW b i l), .c (.sl (some (q, 0)) 1)] H J := by
  subst e
  cases b
  · exact app_grR (enc := encF) (e := 77) (sz := 11) (bs := 96) (z := [.str ⟨#[]⟩, .int .i64 0, .int .i64 0, .int .i64 0, .int .i64 0, .int .i64 0, .int .i64 0, .int .i64 0, .int .i64 0, .int .i64 0, .int .i64 0]) l [x] (by kernel_rfl) (by kernel_rfl) (by kernel_rfl) (by kernel_rfl) hi (by rw [hj]; rfl) (by simp) rfl (by decide) (by simp; omega) (by simp; omega) h
  · refine app_sl ?_
    rw [show elemT Tryz.prog 71 = some 77 by kernel_rfl]
    simp only [Option.bind_some, Option.elim_some]
    rw [show zeroT Tryz.prog 77 = some [.str ⟨#[]⟩, .int .i64 0, .int .i64 0, .int .i64 0, .int .i64 0, .int .i64 0, .int .i64 0, .int .i64 0, .int .i64 0, .int .i64 0, .int .i64 0] by kernel_rfl, show szT Tryz.prog 77 = 11 by kernel_rfl, show Tryz.prog.bytesOf 77 = 96 by kernel_rfl, hj]
    refine ⟨trivial, rfl, ?_⟩
    show _ ∧ _
    refine ⟨rfl, ?_⟩
    rw [hi]
    show aIf _ _ _ _
    refine ⟨⟨rfl, rfl, by simp, by decide, by simp; omega, by simp; omega⟩, ?_⟩
    rw [show List.take l.length (l.map encF) = l.map encF from List.take_of_length_le (by simp)]
    have e1 : grV H.length (l ++ [x]) = .sl (some (H.length, 0)) (l.length + 1) := by rw [grV_pos _ (by simp)]; simp
    have e2 : grO 77 11 ((l ++ [x]).map encF) = .row 77 11 (l.map encF ++ [encF x]) true := by rw [grO_pos _ _ (by simp)]; simp
    rw [e1, e2] at h
    exact h
theorem indexW_a (x : Fix) (l : List Fix) {i c ty : Nat} {own b : Bool} (hi : H[i]? = some (fxO b l)) (hc : H[c]? = some (.row ty 11 [encF x] own)) (hl : l.length ≤ 1000000)
    (hk0 : (l.find? fun o => sameX o x) = none → K (.c (.int .i64 (-1))) H) (hk1 : ∀ (k : Nat) (o : Fix), (h : k < l.length) → o = l[k] → (l.find? fun o => sameX o x) = some o → K (.c (.int .i64 k)) H) : ACalls Tryz.prog 116 [.c (fxW b i l), .c (.fn 117 [] [(c, 0, 0)])] H K := by
  have hcl := getElem?_lt hc
  have key : ∀ {n ty' : Nat} {own' : Bool}, H[i]? = some (.row ty' 11 (l.map encF) own') → n = l.length → ACalls Tryz.prog 116 [.c (.sl (some (i, 0)) n), .c (.fn 117 [] [(c, 0, 0)])] H K := fun hi hn => by
    refine indexRowFx_a 117 [(c, 0, 0)] (fun o => sameX o x) (by kernel_rfl) (by intro a b c h; simp only [List.mem_singleton, Prod.mk.injEq] at h; omega) l hi hn (fun o K _ hK => foFn_a o x hc hK) (by omega) (fun h => hk0 ?_) (fun k h h1 h2 => hk1 k _ h rfl ?_)
    · rw [List.find?_eq_none]
      intro z hz
      have := List.any_eq_false.1 h z hz
      simpa using this
    · exact find_first (fun o => sameX o x) l k h h1 h2
  by_cases h : l = [] ∧ b = false
  · obtain ⟨rfl, rfl⟩ := h
    exact ACalls.nilz [11] (by simp) (indexNilFx_a 117 [(c, 0, 0)] (hk0 rfl))
  · cases b with
    | true => exact key hi rfl
    | false =>
      have h0 : l ≠ [] := fun e => h ⟨e, rfl⟩
      rw [fxW_pos _ _ h0]
      rw [fxO_pos _ h0] at hi
      exact key hi rfl
theorem sortW_a (b : Bool) (l : List Fix) {i : Nat} (hi : H[i]? = some (fxO b l)) (hP : ∀ x ∈ l, fxOk x) (hlen : l.length ≤ 12) (hk : K (.tup []) (H.set i (fxO b (isortG fxLt l)))) : ACalls Tryz.prog 118 [.c (fxW b i l), .c (.fn 97 [] [])] H K := by
  have hc : ∀ x y, fxOk x → fxOk y → (fxC x y < 0 ↔ fxLt x y = true) := fun x y _ _ => by unfold fxLt; rw [decide_eq_true_eq]
  have he : entersB Tryz.prog 97 = true := by kernel_rfl
  cases b with
  | false => exact sort12Fx_a 97 fxC fxLt fxOk he hc cmpFixOrder.hf l hi hP hlen hk
  | true =>
    have hi : H[i]? = some (.row 77 11 (l.map encF) true) := hi
    have hilt := getElem?_lt hi
    show ACalls _ _ [.c (.sl (some (i, 0)) l.length), _] H K
    refine acalls Tryz.func118 rfl (by kernel_rfl) (by simp (disch := first | omega | (simp only [go_sem]; first | done | omega)) only [go_sem]) (fun hH => ?_)
    simp (disch := first | omega | (simp only [go_sem]; first | done | omega)) only [go_sem]
    have hw : IntKind.u64.wrap (l.length : Int) = l.length := by
      have : ∀ m : Fin 13, IntKind.u64.wrap (m.val : Int) = m.val := by decide
      exact this ⟨l.length, by omega⟩
    try rw [hw]
    refine lenqFx_a l.length hlen (fun r => ?_)
    simp (disch := first | omega | (simp only [go_sem]; first | done | omega)) only [go_sem]
    refine pdq12Fx_a 97 fxC fxLt fxOk he hc cmpFixOrder.hf r l hi rfl hP hlen ?_
    simp (disch := first | omega | (simp only [go_sem]; first | done | omega)) only [go_sem]
    exact Ret.same (by simp) hk
theorem fixesOf_a (a b : List Fix) (hl : a.length + b.length ≤ 1000) (ha : twF a = false) (h12 : ∀ r, foS a b = some r → r.length ≤ 12) (hP : ∀ x ∈ a ++ b, fxOk x)
    (hk : K (.tup [.c (.lst 11 ((mgFR a b).1.map encF)), (.c (.int .i64 ((mgFR a b).2)))]) H) : ACalls Tryz.prog 52 [.c (.lst 11 (a.map encF)), .c (.lst 11 (b.map encF))] H K := by
  refine acalls Tryz.func52 rfl (by kernel_rfl) (by simp (disch := first | omega | (simp only [go_sem]; first | done | omega)) only [go_sem]) (fun hH => ?_)
  simp (disch := first | omega | (simp only [go_sem]; first | done | omega)) only [go_sem]
  refine cloneW_a a (by omega) (fun wb => ?_)
  simp (disch := first | omega | (simp only [go_sem]; first | done | omega)) only [go_sem]
  refine AWp.loop (H.length) [12, 13] [14, 6] (fun (s : Nat × List Fix × Bool) => s.1 ≤ b.length ∧ foS s.2.1 (b.drop s.1) = foS a b ∧ s.2.1.length ≤ a.length + s.1 ∧ ∀ x ∈ s.2.1, x ∈ a ++ b) (fun (s : Nat × List Fix × Bool) => [(14, (.c (.int .i64 (s.1)))), (6, .c (fxW s.2.2 H.length s.2.1))]) (fun (s : Nat × List Fix × Bool) => H ++ [fxO s.2.2 s.2.1]) (fun (s : Nat × List Fix × Bool) => b.length - s.1) (by kernel_rfl) (fun _ => rfl) (by kernel_rfl) (by first | (simp; done) | omega) (by first | (simp; done) | (simp; omega) | omega) (by (try simp only [List.forall_mem_cons, List.not_mem_nil, false_implies, implies_true, and_true]); (try simp (disch := first | omega | (simp only [go_sem]; first | done | omega)) only [go_sem]); all_goals first | trivial | (simp [AV.ok, AV.ok1, AC.ok]; done) | (simp [AV.ok, AV.ok1, AC.ok]; omega) | (simp [AV.ok, AV.ok1, AC.ok]; assumption) | ((repeat' apply And.intro) <;> first | trivial | (simp [AV.ok, AV.ok1, AC.ok]; done) | (simp [AV.ok, AV.ok1, AC.ok]; omega) | (simp [AV.ok, AV.ok1, AC.ok]; assumption) | (refine grV_ok ?_ _; first | (simp; done) | (simp; omega) | omega))) ?_ (fun s hs _ _ => ?_)
  · refine Next.mk (0, a, wb) ⟨Nat.zero_le _, rfl, Nat.le_refl _, fun x hx => List.mem_append_left _ hx⟩ ?_
    exact WkL.refl (by simp)
  obtain ⟨k, l, wb⟩ := s
  obtain ⟨q1, q2, q3, q4⟩ := hs
  dsimp only at q1 q2 q3 q4 ⊢
  by_cases hlt : k < b.length
  · obtain ⟨x, hx⟩ : ∃ x, x = b[k] := ⟨_, rfl⟩
    have hnx : foS l (b.drop k) = match l.find? (fun o => sameX o x) with
      | none => foS (l ++ [x]) (b.drop (k + 1))
      | some o => if o = x then foS l (b.drop (k + 1)) else none := by
      rw [List.drop_eq_getElem_cons hlt, foS, ← hx]
      rfl
    rw [q2] at hnx
    simp (disch := first | omega | (simp only [go_sem]; first | done | omega)) only [go_sem, hlt, ← hx]
    refine indexW_a x l (by first | ((repeat first | exact at0 (by simp) | refine atS ?_); done) | assumption) (by first | ((repeat first | exact at0 (by simp) | refine atS ?_); done) | assumption) (by omega) (fun h => ?_) (fun i o hi ho h => ?_)
    · rw [h] at hnx
      dsimp only at hnx
      simp (disch := first | omega | (simp only [go_sem]; first | done | omega)) only [go_sem]
      refine appW l x (l ++ [x]) rfl (by first | exact at0 (by omega) | exact at1 (by omega)) (by first | exact at2 (by omega) | exact at1 (by omega) | exact at3 (by omega)) (by omega) ?_
      simp (disch := first | omega | (simp only [go_sem]; first | done | omega)) only [go_sem]
      refine Next.mk (k + 1, l ++ [x], false) ?_ ?_
      · refine ⟨⟨by dsimp only; omega, hnx.symm, by simp; omega, fun y hy => ?_⟩, by dsimp only; omega⟩
        rcases List.mem_append.1 hy with hy | hy
        · exact q4 y hy
        · simp only [List.mem_singleton] at hy
          subst hy
          rw [hx]
          exact List.mem_append_right _ (List.getElem_mem _)
      · show WkL _ _ _ [_, .c (grV _ _)] (_ ++ [grO _ _ _])
        ((try simp (disch := first | omega | (simp only [go_sem]; first | done | omega)) only [go_sem]); (first | refine WkL.pick [0] ?_ ?_ rfl ?_ ?_ ?_ ?_ | refine WkL.pick [1] ?_ ?_ rfl ?_ ?_ ?_ ?_ | refine WkL.pick [2] ?_ ?_ rfl ?_ ?_ ?_ ?_ | refine WkL.pick [3] ?_ ?_ rfl ?_ ?_ ?_ ?_ | refine WkL.pick [4] ?_ ?_ rfl ?_ ?_ ?_ ?_ | refine WkL.pick [5] ?_ ?_ rfl ?_ ?_ ?_ ?_ | refine WkL.pick [6] ?_ ?_ rfl ?_ ?_ ?_ ?_ | refine WkL.pick [7] ?_ ?_ rfl ?_ ?_ ?_ ?_ | refine WkL.pick [8] ?_ ?_ rfl ?_ ?_ ?_ ?_ | refine WkL.pick [9] ?_ ?_ rfl ?_ ?_ ?_ ?_ | refine WkL.pick [10] ?_ ?_ rfl ?_ ?_ ?_ ?_ | refine WkL.pick [11] ?_ ?_ rfl ?_ ?_ ?_ ?_ | refine WkL.pick [12] ?_ ?_ rfl ?_ ?_ ?_ ?_ | refine WkL.pick [13] ?_ ?_ rfl ?_ ?_ ?_ ?_ | refine WkL.pick [14] ?_ ?_ rfl ?_ ?_ ?_ ?_ | refine WkL.pick [15] ?_ ?_ rfl ?_ ?_ ?_ ?_) <;> first | assumption | exact HOk.str (by assumption) | (simp; done) | (simp; omega) | (simp [pureO_gr, AObj.pureO, pureL, go_sem, AC.pure]; done) | (simp only [List.all_cons, List.all_nil, Bool.and_true]; exact pureO_gr (pureL_map _ (fun x => by simp [go_sem, AC.pure]))) | ((try simp only [List.map_cons, List.map_nil, av_ren_gr]); simp [AV.ren, AV.ren1, AC.ren, renP, pickS]; first | done | omega) | (simp only [List.forall_mem_cons, List.not_mem_nil, false_implies, implies_true, and_true]; (repeat' apply And.intro) <;> first | trivial | exact grV_ok (by simp) _ | exact okN_grO (fun x => by simp [go_sem, AC.pure]) | exact okN_map (fun x => by simp [go_sem, AC.pure]) | (simp [AV.ok, AV.ok1, AC.ok]; done) | (simp [AV.ok, AV.ok1, AC.ok]; omega) | (simp [AObj.okN, AC.ok]; done)) | (simp [AObj.okN]; done))
    · rw [h] at hnx
      dsimp only at hnx
      have h0 : l ≠ [] := by rintro rfl; simp at hi
      have e1 := fxW_pos wb H.length h0
      have e2 := fxO_pos wb h0
      rw [e1, e2]
      by_cases hc : o = x
      · rw [if_pos hc] at hnx
        subst hc
        simp (disch := first | omega | (simp only [go_sem]; first | done | omega)) only [go_sem, ← ho]
        repeat' (first | ((first | refine acond_d ?_ ?_ | refine acond_b ?_ ?_ | refine ag_d ?_ ?_ | refine ag_n ?_ ?_ | refine ag_bt ?_ ?_ | refine ag_bf ?_ ?_ | refine agt_d ?_ ?_ | refine agt_n ?_ ?_ | refine agt_bt ?_ ?_ | refine agt_bf ?_ ?_) <;> intro c <;> try simp (disch := first | omega | (simp only [go_sem]; first | done | omega)) only [go_sem, c, hi, ← ho]) | ((first | refine w_draw (by kernel_rfl) (by decide +kernel) ?_ | refine w_tree (.one 0 (.one 1 (.one 2 (.one 3 (.one 4 (.one 5 .done)))))) (by kernel_rfl) (by decide +kernel) ?_) <;> try simp (disch := first | omega | (simp only [go_sem]; first | done | omega)) only [go_sem, hi, ← ho]) | (refine And.intro ?_ ?_ <;> try simp (disch := first | omega | (simp only [go_sem]; first | done | omega)) only [go_sem, hi, ← ho]))
        refine Next.mk (k + 1, l, wb) ⟨⟨by dsimp only; omega, hnx.symm, by dsimp only; omega, q4⟩, by dsimp only; omega⟩ ?_
        dsimp only
        rw [e1, e2]
        (try simp (disch := first | omega | (simp only [go_sem]; first | done | omega)) only [go_sem]); (first | refine WkL.eq ?_ ?_ | refine WkL.rest (by assumption) ?_ ?_ ?_ | refine WkL.keepL (by assumption) rfl ?_ ?_ ?_ ?_) <;> first | rfl | (simp; done) | (simp; omega) | (simp only [List.cons.injEq, AV.c.injEq, AC.int.injEq, AC.bool.injEq, AC.str.injEq, and_true, true_and, Int.natCast_add, Int.natCast_one, Int.cast_ofNat_Int]; omega) | (simp [AV.ok, AV.ok1, AC.ok]; done) | (simp [AV.ok, AV.ok1, AC.ok]; omega) | (simp only [List.forall_mem_cons, List.not_mem_nil, false_implies, implies_true, and_true]; (repeat' apply And.intro) <;> first | exact okN_map (fun x => by simp [go_sem, AC.pure]) | exact okN_grO (fun x => by simp [go_sem, AC.pure]) | (simp [AObj.okN, AC.ok]; done) | (simp [AObj.okN, AC.ok]; omega)) | (simp [*]; done) | grind
      · rw [if_neg hc] at hnx
        unfold mgFR at hk
        rw [merge_none hnx, if_pos rfl] at hk
        simp (disch := first | omega | (simp only [go_sem]; first | done | omega)) only [go_sem, ← ho]
        repeat' (first | ((first | refine acond_d ?_ ?_ | refine acond_b ?_ ?_ | refine ag_d ?_ ?_ | refine ag_n ?_ ?_ | refine ag_bt ?_ ?_ | refine ag_bf ?_ ?_ | refine agt_d ?_ ?_ | refine agt_n ?_ ?_ | refine agt_bt ?_ ?_ | refine agt_bf ?_ ?_) <;> intro c <;> try simp (disch := first | omega | (simp only [go_sem]; first | done | omega)) only [go_sem, c, hi, ← ho]) | ((first | refine w_draw (by kernel_rfl) (by decide +kernel) ?_ | refine w_tree (.one 0 (.one 1 (.one 2 (.one 3 (.one 4 (.one 5 .done)))))) (by kernel_rfl) (by decide +kernel) ?_) <;> try simp (disch := first | omega | (simp only [go_sem]; first | done | omega)) only [go_sem, hi, ← ho]) | (refine And.intro ?_ ?_ <;> try simp (disch := first | omega | (simp only [go_sem]; first | done | omega)) only [go_sem, hi, ← ho]))
        · exfalso
          rw [fix_eqs, decide_eq_true_eq] at c
          exact hc c
        · exact Ret.nil [11, 0] (by simp) (Ret.drop hH (by simp) (show AV.ok _ (.tup [.c (.lst 11 []), (.c (.int .i64 _))]) from by simp [AV.ok, AV.ok1, AC.ok]) hk)
  · have hkb : k = b.length := by omega
    subst hkb
    rw [List.drop_eq_nil_of_le (Nat.le_refl _)] at q2
    have hfo : foS a b = some l := q2.symm
    obtain ⟨m1, m2, m3⟩ := merge_some ha hfo
    have hpl := isortG_perm fxLt l
    have hsl := isortG_sortedS fxLt_trans fxLt_ntrans fxLt_asymm l
    have e := m3 _ hpl (hsl.imp fun h => by unfold fxLt at h; simpa using h)
    have hl12 := h12 l hfo
    simp (disch := first | omega | (simp only [go_sem]; first | done | omega)) only [go_sem]
    refine sortW_a wb l (by first | ((repeat first | exact at0 (by simp) | refine atS ?_); done) | assumption) (fun x hx => hP x (q4 x hx)) hl12 ?_
    rw [e]
    have hml : (mgX a b).length ≤ 12 := by omega
    unfold mgFR at hk
    rw [m1, if_neg (by simp), if_neg (by omega)] at hk
    dsimp only at hk
    clear m3 e hsl hpl hfo q2
    have hll : l.length = (mgX a b).length := m2
    generalize mgX a b = m at *
    have hW : ∀ i, fxW wb i l = fxW wb i m := fun i => by
      cases wb with
      | true => simp [fxW, hll]
      | false => exact grV_lenX i l m hll
    rw [hW]
    have h1' : ¬ (2000 : Int) < m.length := by omega
    cases m with
    | nil =>
      cases wb with
      | true =>
        simp (disch := first | omega | (simp only [go_sem]; first | done | omega)) only [go_sem, fxW, fxO]
        exact Ret.nil [11, 0] (by simp) (Ret.drop hH (by simp) (show AV.ok _ (.tup [.c (.lst 11 []), (.c (.int .i64 _))]) from by simp [AV.ok, AV.ok1, AC.ok]) hk)
      | false =>
        simp (disch := first | omega | (simp only [go_sem]; first | done | omega)) only [go_sem, fxW, fxO]
        exact Ret.nil [11, 0] (by simp) (Ret.drop hH (by simp) (show AV.ok _ (.tup [.c (.lst 11 []), (.c (.int .i64 _))]) from by simp [AV.ok, AV.ok1, AC.ok]) hk)
    | cons y ys =>
      have hW2 : fxW wb H.length (y :: ys) = grV H.length (y :: ys) := by cases wb <;> rfl
      have hO2 : fxO wb (y :: ys) = grO 77 11 ((y :: ys).map encF) := by cases wb <;> rfl
      rw [hW2, hO2]
      clear hW hW2 hO2
      generalize y :: ys = m at *
      simp (disch := first | omega | (simp only [go_sem]; first | done | omega)) only [go_sem, h1']
      exact Ret.frzGrT 0 hH (Nat.le_refl _) rfl (pureL_map _ (fun x => by simp [go_sem, AC.pure])) rfl (map_grV _ _ _).symm hk
end Go.Proofs.YtgcjenfdndhhpaaGreat
