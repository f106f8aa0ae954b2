/- sample.Differ: the moments at which two series differ. Condition: the lists are not long. -/
import Derived.Test.YtgcjenfdndhhpaaGreatDoorHVFixP
namespace Go.Proofs.YtgcjenfdndhhpaaGreatDoor
open Go Go.RowKit
set_option maxRecDepth 100000
set_option linter.all false
set_option maxHeartbeats 1000000
variable {H : Hp} {K : AV → Hp → Prop}
def eB (p : Int × Bool) : AV × AV := (.c (.int .i64 p.1), .c (.bool p.2))
def putBd (p : Int × Bool) (l : List (Int × Bool)) : List (Int × Bool) := upsert (fun y => decide (p.1 = y.1)) p l
theorem findA_B (P : Program) (kt : TypeId) (t : Int) (m : List (Int × Bool)) : findA P kt (.c (.int .i64 t)) (m.map eB) = some (m.findIdx? fun y => decide (t = y.1)) := findA_int .i64 t (fun y : Int × Bool => y.1) (fun y : Int × Bool => AV.c (.bool y.2)) m
theorem mput_B {P : Program} {kt : TypeId} (p : Int × Bool) (m : List (Int × Bool)) (ht : keyT P kt (.c (.int .i64 p.1)) = true) : mapPut P kt (.c (.int .i64 p.1)) (.c (.bool p.2)) (m.map eB) = some ((putBd p m).map eB) := put_of (P := P) (e := eB) (p := fun y : Int × Bool => decide (p.1 = y.1)) (x := p) (l := m) ht (findA_B P kt p.1 m) rfl
theorem mput_S {P : Program} {kt : TypeId} (x : Smp) (m : List Smp) (ht : keyT P kt (.c (.int .i64 x.t)) = true) : mapPut P kt (.c (.int .i64 x.t)) (.agg [.int .i64 x.t, .int .i64 x.v, .int .i64 x.q]) (m.map eS) = some ((putS x m).map eS) := put_of (P := P) (e := eS) (p := fun y : Smp => decide (x.t = y.t)) (x := x) (l := m) ht (findA_S P kt x.t m) rfl
theorem mpS_okN (m : List Smp) (n : Nat) : (mpO (m.map eS)).okN n := by
  intro p hp
  obtain ⟨x, _, rfl⟩ := List.mem_map.1 hp
  exact ⟨trivial, by intro y hy; simp only [encS, List.mem_cons, List.not_mem_nil, or_false] at hy; rcases hy with rfl | rfl | rfl <;> trivial⟩
theorem mpB_okN (m : List (Int × Bool)) (n : Nat) : (mpO (m.map eB)).okN n := by
  intro p hp
  obtain ⟨x, _, rfl⟩ := List.mem_map.1 hp
  exact ⟨trivial, trivial⟩
attribute [simp] mpS_okN mpB_okN
def pfS (l : List Smp) : List Smp := l.foldl (fun m x => putS x m) []
def pbS (l : List Smp) : List (Int × Bool) := l.foldl (fun m x => putBd (x.t, true) m) []
theorem pfS_next {l : List Smp} {k : Nat} (h : k < l.length) : pfS (l.take (k + 1)) = putS l[k] (pfS (l.take k)) := by
  unfold pfS; rw [List.take_succ_eq_append_getElem h, List.foldl_append]; rfl
theorem pbS_next {l : List Smp} {k : Nat} (h : k < l.length) : pbS (l.take (k + 1)) = putBd (l[k].t, true) (pbS (l.take k)) := by
  unfold pbS; rw [List.take_succ_eq_append_getElem h, List.foldl_append]; rfl
/-- does it differ from what was there? -/
def dfB (m : List Smp) (x : Smp) : Bool := match m.find? (fun y => decide (x.t = y.t)) with
  | some y => !decide (x = y)
  | none => true
def qbS (m : List Smp) (s : List (Int × Bool)) (l : List Smp) : List (Int × Bool) := l.foldl (fun s x => putBd (x.t, dfB m x) s) s
theorem qbS_next {m : List Smp} {s : List (Int × Bool)} {l : List Smp} {k : Nat} (h : k < l.length) : qbS m s (l.take (k + 1)) = putBd (l[k].t, dfB m l[k]) (qbS m s (l.take k)) := by
  unfold qbS; rw [List.take_succ_eq_append_getElem h, List.foldl_append]; rfl
theorem putB_keys {p : Int × Bool} {l : List (Int × Bool)} (h : (l.map (·.1)).Nodup) : ((putBd p l).map (·.1)).Nodup := by
  unfold putBd upsert
  cases hf : l.findIdx? (fun y => decide (p.1 = y.1)) with
  | none =>
    dsimp only
    rw [List.map_append, List.nodup_append]
    refine ⟨h, by simp, ?_⟩
    intro a ha b hb e
    simp only [List.map_cons, List.map_nil, List.mem_singleton] at hb
    obtain ⟨y, hy, rfl⟩ := List.mem_map.1 ha
    have := List.findIdx?_eq_none_iff.1 hf y hy
    subst hb
    simp [e] at this
  | some j =>
    obtain ⟨hj, h1, _⟩ := List.findIdx?_eq_some_iff_getElem.1 hf
    dsimp only
    have e : (l.set j p).map (·.1) = l.map (·.1) := by
      rw [List.map_set]
      refine set_self ?_
      rw [List.getElem?_map, List.getElem?_eq_getElem hj]
      simpa using (of_decide_eq_true h1).symm
    rw [e]
    exact h
theorem putB_len (p : Int × Bool) (l : List (Int × Bool)) : (putBd p l).length ≤ l.length + 1 := by
  unfold putBd upsert
  split <;> simp
theorem pbS_ok (l : List Smp) : ∀ s : List (Int × Bool), (s.map (·.1)).Nodup → ((l.foldl (fun m x => putBd (x.t, true) m) s).map (·.1)).Nodup := by
  induction l with
  | nil => intro s h; exact h
  | cons x r ih => intro s h; exact ih _ (putB_keys h)
theorem qbS_ok (m : List Smp) (l : List Smp) : ∀ s : List (Int × Bool), (s.map (·.1)).Nodup → ((qbS m s l).map (·.1)).Nodup := by
  unfold qbS
  induction l with
  | nil => intro s h; exact h
  | cons x r ih => intro s h; exact ih _ (putB_keys h)
theorem smpD (x y : Smp) : (decide (x.t = y.t) && (decide (x.v = y.v) && decide (x.q = y.q))) = decide (x = y) := by
  obtain ⟨a, b, c⟩ := x
  obtain ⟨d, e, f⟩ := y
  simp only [← Bool.decide_and]
  exact decide_eq_decide.2 (by simp only [Smp.mk.injEq])
theorem mkeysB_a (i : Nat) (hk : K (.c (.fn 177 [] [(H.length, 0, 0)])) (H ++ [.row 172 1 [[.map (some i)]] true])) : ACalls Tryz.prog 134 [.c (.map (some i))] H K := by
  refine acalls Tryz.func134 rfl (by kernel_rfl) (by simp (disch := first | omega | (simp only [go_sem]; first | done | omega)) only [go_sem]) (fun hH => ?_)
  simp (disch := first | omega | (simp only [go_sem]; first | done | omega)) only [go_sem]
  exact Ret.same (by simp) hk
theorem keysBf_a (s : List (Int × Bool)) (i j t : Nat) (hn : (s.map (·.1)).Nodup) (hi : H[i]? = some (mpO (s.map eB))) (hj : H[j]? = some (.row t 1 [[.map (some i)]] true)) (hw : ∀ x ∈ s, -9223372036854775808 ≤ x.1 ∧ x.1 ≤ 9223372036854775807) (hl : s.length ≤ 1000000)
    (hk : K (.c (.lst 1 ((srtI (s.map (·.1))).map encI))) H) : ACalls Tryz.prog 130 [.c (.fn 177 [] [(j, 0, 0)])] H K := by
  have hi2 : H[i]? = some (.map (List.range s.length) (s.length + 1) (s.map fun x => (.c (.int .i64 x.1), .c (.bool x.2)))) := by
    rw [hi]
    unfold mpO
    rw [List.length_map]
    rfl
  refine ACalls.postR (keysB_a s (·.1) (fun x => .c (.bool x.2)) (List.range s.length) s.length i j t hi2 hj List.nodup_range (fun b hb => by simpa using hb) hn hw hl (K := fun v G => v = .c (grV H.length (srtI (s.map (·.1)))) ∧ G = H ++ [grO 3 1 ((srtI (s.map (·.1))).map encI)]) ⟨rfl, rfl⟩) ?_
  rintro hH _ _ ⟨rfl, rfl⟩
  exact Ret.frzGr 0 hH (Nat.le_refl _) rfl (pureL_map _ (fun x => by simp [go_sem, AC.pure])) (map_grV _ _ _).symm hk
theorem putBd_mem {p y : Int × Bool} {l : List (Int × Bool)} (h : y ∈ putBd p l) : y = p ∨ y ∈ l := by
  unfold putBd upsert at h
  split at h
  · rcases List.mem_or_eq_of_mem_set h with h | h
    · exact .inr h
    · exact .inl h
  · rcases List.mem_append.1 h with h | h
    · exact .inr h
    · exact .inl (by simpa using h)
theorem pbS_mem {P : Int → Prop} : ∀ (l : List Smp) (s : List (Int × Bool)), (∀ y ∈ s, P y.1) → (∀ x ∈ l, P x.t) → ∀ y ∈ l.foldl (fun m x => putBd (x.t, true) m) s, P y.1
  | [], s, hs, _ => hs
  | x :: r, s, hs, hl => pbS_mem r (putBd (x.t, true) s) (fun y hy => by rcases putBd_mem hy with rfl | h; exact hl x (by simp); exact hs y h) (fun y hy => hl y (by simp [hy]))
theorem qbS_mem {P : Int → Prop} (m : List Smp) : ∀ (l : List Smp) (s : List (Int × Bool)), (∀ y ∈ s, P y.1) → (∀ x ∈ l, P x.t) → ∀ y ∈ qbS m s l, P y.1
  | [], s, hs, _ => hs
  | x :: r, s, hs, hl => qbS_mem m r (putBd (x.t, dfB m x) s) (fun y hy => by rcases putBd_mem hy with rfl | h; exact hl x (by simp); exact hs y h) (fun y hy => hl y (by simp [hy]))
theorem pbS_len : ∀ (l : List Smp) (s : List (Int × Bool)), (l.foldl (fun m x => putBd (x.t, true) m) s).length ≤ s.length + l.length
  | [], s => by simp
  | x :: r, s => by
    have h1 := pbS_len r (putBd (x.t, true) s)
    have h2 := putB_len (x.t, true) s
    rw [List.foldl_cons, List.length_cons]
    omega
theorem qbS_len (m : List Smp) : ∀ (l : List Smp) (s : List (Int × Bool)), (qbS m s l).length ≤ s.length + l.length
  | [], s => by simp [qbS]
  | x :: r, s => by
    have h1 := qbS_len m r (putBd (x.t, dfB m x) s)
    have h2 := putB_len (x.t, dfB m x) s
    show (qbS m (putBd (x.t, dfB m x) s) r).length ≤ _
    rw [List.length_cons]
    omega
def lkB (s : List (Int × Bool)) (t : Int) : Bool := match s.find? (fun y => decide (t = y.1)) with | some p => p.2 | none => false
theorem get_B {kt : TypeId} (t : Int) (s : List (Int × Bool)) (ht : keyT Tryz.prog kt (.c (.int .i64 t)) = true) : ∃ ok, mapGet Tryz.prog kt (.c (.int .i64 t)) (some (.c (.bool false))) (s.map eB) = some (.c (.bool (lkB s t)), ok) := by
  rw [get_of (e := eB) (p := fun y : Int × Bool => decide (t = y.1)) ht (findA_B Tryz.prog kt t s)]
  unfold lkB
  cases s.find? (fun y => decide (t = y.1)) with
  | some p => exact ⟨true, rfl⟩
  | none => exact ⟨false, rfl⟩
theorem flt_next {ks : List Int} {p : Int → Bool} {k : Nat} (h : k < ks.length) : (ks.take (k + 1)).filter p = (ks.take k).filter p ++ (if p ks[k] = true then [ks[k]] else []) := by
  rw [List.take_succ_eq_append_getElem h, List.filter_append]
  congr 1
  cases hp : p ks[k] <;> simp [hp]
theorem differ_a (a b : List Smp) (ha : a.length ≤ 100000) (hb : b.length ≤ 100000) (hw : ∀ x ∈ a ++ b, -9223372036854775808 ≤ x.t ∧ x.t ≤ 9223372036854775807)
    (hk : K (.c (.lst 1 (((srtI ((qbS (pfS a) (pbS a) b).map (·.1))).filter (lkB (qbS (pfS a) (pbS a) b))).map encI))) H) : ACalls Tryz.prog 75 [.c (.lst 3 (a.map encS)), .c (.lst 3 (b.map encS))] H K := by
  refine acalls Tryz.func75 rfl (by kernel_rfl) (by simp (disch := first | omega | (simp only [go_sem]; first | done | omega)) only [go_sem]) (fun hH => ?_)
  simp (disch := first | omega | (simp only [go_sem]; first | done | omega)) only [go_sem]
  refine AWp.loop (H.length + 2) [1, 5, 6, 18, 19] [20] (fun (k : Nat) => k ≤ a.length) (fun (k : Nat) => [(20, (.c (.int .i64 k)))]) (fun (k : Nat) => H ++ [mpO ((pfS (a.take k)).map eS), mpO ((pbS (a.take k)).map eB)]) (fun (k : Nat) => a.length - k) (by kernel_rfl) (fun _ => rfl) (by kernel_rfl) (by first | (simp; done) | omega) (by first | (simp; done) | (simp; omega) | omega) (by (try simp only [List.forall_mem_cons, List.not_mem_nil, false_implies, implies_true, and_true]); (try simp (disch := first | omega | (simp only [go_sem]; first | done | omega)) only [go_sem]); all_goals first | trivial | (simp [AV.ok, AV.ok1, AC.ok]; done) | (simp [AV.ok, AV.ok1, AC.ok]; omega) | (simp [AV.ok, AV.ok1, AC.ok]; assumption) | ((repeat' apply And.intro) <;> first | trivial | (simp [AV.ok, AV.ok1, AC.ok]; done) | (simp [AV.ok, AV.ok1, AC.ok]; omega) | (simp [AV.ok, AV.ok1, AC.ok]; assumption) | (refine grV_ok ?_ _; first | (simp; done) | (simp; omega) | omega))) ?_ (fun k q1 _ _ => ?_)
  · refine Next.mk 0 (Nat.zero_le _) ?_
    (try simp (disch := first | omega | (simp only [go_sem]; first | done | omega)) only [go_sem]); (first | refine WkL.eq ?_ ?_ | refine WkL.rest (by assumption) ?_ ?_ ?_ | refine WkL.keepL (by assumption) rfl ?_ ?_ ?_ ?_) <;> first | rfl | (simp; done) | (simp; omega) | (simp only [List.cons.injEq, AV.c.injEq, AC.int.injEq, AC.bool.injEq, AC.str.injEq, and_true, true_and, Int.natCast_add, Int.natCast_one, Int.cast_ofNat_Int]; omega) | (simp [AV.ok, AV.ok1, AC.ok]; done) | (simp [AV.ok, AV.ok1, AC.ok]; omega) | (simp only [List.forall_mem_cons, List.not_mem_nil, false_implies, implies_true, and_true]; (repeat' apply And.intro) <;> first | exact okN_map (fun x => by simp [go_sem, AC.pure]) | exact okN_grO (fun x => by simp [go_sem, AC.pure]) | (simp [AObj.okN, AC.ok]; done) | (simp [AObj.okN, AC.ok]; omega)) | (simp [*]; done) | grind
  by_cases hlt : k < a.length
  · obtain ⟨x, hx⟩ : ∃ x, x = a[k] := ⟨_, rfl⟩
    have h1 := pfS_next hlt
    have h2 := pbS_next hlt
    rw [← hx] at h1 h2
    generalize pfS (a.take k) = m at *
    generalize pbS (a.take k) = s at *
    simp (disch := first | omega | (simp only [go_sem]; first | done | omega)) only [go_sem, hlt, ← hx]
    repeat' (first | ((first | refine acond_d ?_ ?_ | refine acond_b ?_ ?_ | refine ag_d ?_ ?_ | refine ag_n ?_ ?_ | refine ag_bt ?_ ?_ | refine ag_bf ?_ ?_ | refine agt_d ?_ ?_ | refine agt_n ?_ ?_ | refine agt_bt ?_ ?_ | refine agt_bf ?_ ?_) <;> intro c <;> try simp (disch := first | omega | (simp only [go_sem]; first | done | omega)) only [go_sem, c]) | ((first | refine w_draw (by kernel_rfl) (by decide +kernel) ?_ | refine mup_mp (by kernel_rfl) (mput_S x m (by kernel_rfl)) ?_ | refine mup_mp (by kernel_rfl) (mput_B (x.t, true) s (by kernel_rfl)) ?_ | refine w_tree (.one 0 (.one 1 (.one 2 (.one 3 (.one 4 (.one 6 (.two 5 (.one 7 (.one 8 .done)) 7 (.one 5 (.one 8 .done))))))))) (by kernel_rfl) (by decide +kernel) ?_) <;> try simp (disch := first | omega | (simp only [go_sem]; first | done | omega)) only [go_sem]) | (refine And.intro ?_ ?_ <;> try simp (disch := first | omega | (simp only [go_sem]; first | done | omega)) only [go_sem]))
    all_goals
      refine Next.mk (k + 1) ⟨by omega, by omega⟩ ?_
      rw [h1, h2]
      clear h1 h2 hx
      (try simp (disch := first | omega | (simp only [go_sem]; first | done | omega)) only [go_sem]); (first | refine WkL.eq ?_ ?_ | refine WkL.rest (by assumption) ?_ ?_ ?_ | refine WkL.keepL (by assumption) rfl ?_ ?_ ?_ ?_) <;> first | rfl | (simp; done) | (simp; omega) | (simp only [List.cons.injEq, AV.c.injEq, AC.int.injEq, AC.bool.injEq, AC.str.injEq, and_true, true_and, Int.natCast_add, Int.natCast_one, Int.cast_ofNat_Int]; omega) | (simp [AV.ok, AV.ok1, AC.ok]; done) | (simp [AV.ok, AV.ok1, AC.ok]; omega) | (simp only [List.forall_mem_cons, List.not_mem_nil, false_implies, implies_true, and_true]; (repeat' apply And.intro) <;> first | exact okN_map (fun x => by simp [go_sem, AC.pure]) | exact okN_grO (fun x => by simp [go_sem, AC.pure]) | (simp [AObj.okN, AC.ok]; done) | (simp [AObj.okN, AC.ok]; omega)) | (simp [*]; done) | grind
  · have hkl : k = a.length := by omega
    subst hkl
    rw [List.take_length]
    generalize hma : pfS a = m at *
    generalize hsa : pbS a = s0 at *
    have hsl : s0.length ≤ 100000 := by have := pbS_len a []; rw [← hsa]; unfold pbS; simp only [List.length_nil] at this; omega
    have hsw : ∀ y ∈ s0, -9223372036854775808 ≤ y.1 ∧ y.1 ≤ 9223372036854775807 := by rw [← hsa]; exact pbS_mem (P := fun t => -9223372036854775808 ≤ t ∧ t ≤ 9223372036854775807) a [] (by simp) (fun x hx => hw x (List.mem_append_left _ hx))
    have hs0 : (s0.map (·.1)).Nodup := by rw [← hsa]; exact pbS_ok a [] (by simp)
    simp (disch := first | omega | (simp only [go_sem]; first | done | omega)) only [go_sem]
    refine AWp.loop (H.length + 2) [5, 6, 32, 33] [34] (fun (k : Nat) => k ≤ b.length) (fun (k : Nat) => [(34, (.c (.int .i64 k)))]) (fun (k : Nat) => H ++ [mpO (m.map eS), mpO ((qbS m s0 (b.take k)).map eB)]) (fun (k : Nat) => b.length - k) (by kernel_rfl) (fun _ => rfl) (by kernel_rfl) (by first | (simp; done) | omega) (by first | (simp; done) | (simp; omega) | omega) (by (try simp only [List.forall_mem_cons, List.not_mem_nil, false_implies, implies_true, and_true]); (try simp (disch := first | omega | (simp only [go_sem]; first | done | omega)) only [go_sem]); all_goals first | trivial | (simp [AV.ok, AV.ok1, AC.ok]; done) | (simp [AV.ok, AV.ok1, AC.ok]; omega) | (simp [AV.ok, AV.ok1, AC.ok]; assumption) | ((repeat' apply And.intro) <;> first | trivial | (simp [AV.ok, AV.ok1, AC.ok]; done) | (simp [AV.ok, AV.ok1, AC.ok]; omega) | (simp [AV.ok, AV.ok1, AC.ok]; assumption) | (refine grV_ok ?_ _; first | (simp; done) | (simp; omega) | omega))) ?_ (fun k q1 _ _ => ?_)
    · refine Next.mk 0 (Nat.zero_le _) ?_
      (try simp (disch := first | omega | (simp only [go_sem]; first | done | omega)) only [go_sem]); (first | refine WkL.eq ?_ ?_ | refine WkL.rest (by assumption) ?_ ?_ ?_ | refine WkL.keepL (by assumption) rfl ?_ ?_ ?_ ?_) <;> first | rfl | (simp; done) | (simp; omega) | (simp only [List.cons.injEq, AV.c.injEq, AC.int.injEq, AC.bool.injEq, AC.str.injEq, and_true, true_and, Int.natCast_add, Int.natCast_one, Int.cast_ofNat_Int]; omega) | (simp [AV.ok, AV.ok1, AC.ok]; done) | (simp [AV.ok, AV.ok1, AC.ok]; omega) | (simp only [List.forall_mem_cons, List.not_mem_nil, false_implies, implies_true, and_true]; (repeat' apply And.intro) <;> first | exact okN_map (fun x => by simp [go_sem, AC.pure]) | exact okN_grO (fun x => by simp [go_sem, AC.pure]) | (simp [AObj.okN, AC.ok]; done) | (simp [AObj.okN, AC.ok]; omega)) | (simp [*]; done) | grind
    by_cases hlt : k < b.length
    · obtain ⟨x, hx⟩ : ∃ x, x = b[k] := ⟨_, rfl⟩
      have h2 := qbS_next (m := m) (s := s0) hlt
      rw [← hx] at h2
      generalize qbS m s0 (b.take k) = s at *
      simp (disch := first | omega | (simp only [go_sem]; first | done | omega)) only [go_sem, hlt, ← hx]
      have hget := get_of (P := Tryz.prog) (kt := 3) (k := .c (.int .i64 x.t)) (z := .agg [.int .i64 0, .int .i64 0, .int .i64 0]) (e := eS) (p := fun y : Smp => decide (x.t = y.t)) (l := m) (by kernel_rfl) (findA_S Tryz.prog _ x.t m)
      cases hf : m.find? (fun y => decide (x.t = y.t)) with
      | some y =>
        have hd : dfB m x = !(decide (x.t = y.t) && (decide (x.v = y.v) && decide (x.q = y.q))) := by rw [smpD]; unfold dfB; rw [hf]
        rw [hf] at hget
        dsimp only at hget
        rw [show (eS y).2 = .agg [.int .i64 y.t, .int .i64 y.v, .int .i64 y.q] from rfl] at hget
        refine look_mp (by kernel_rfl) hget rfl ?_
        simp (disch := first | omega | (simp only [go_sem]; first | done | omega)) only [go_sem]
        repeat' (first | ((first | refine acond_d ?_ ?_ | refine acond_b ?_ ?_ | refine ag_d ?_ ?_ | refine ag_n ?_ ?_ | refine ag_bt ?_ ?_ | refine ag_bf ?_ ?_ | refine agt_d ?_ ?_ | refine agt_n ?_ ?_ | refine agt_bt ?_ ?_ | refine agt_bf ?_ ?_) <;> intro c <;> try simp (disch := first | omega | (simp only [go_sem]; first | done | omega)) only [go_sem, c]) | ((first | refine w_draw (by kernel_rfl) (by decide +kernel) ?_ | refine mup_mp (by kernel_rfl) (mput_B (x.t, _) s (by kernel_rfl)) ?_ | refine w_tree (.one 0 (.one 1 (.one 2 (.one 3 (.one 4 (.one 5 (.one 6 (.one 7 (.one 8 (.one 9 (.one 10 .done))))))))))) (by kernel_rfl) (by decide +kernel) ?_) <;> try simp (disch := first | omega | (simp only [go_sem]; first | done | omega)) only [go_sem]) | (refine And.intro ?_ ?_ <;> try simp (disch := first | omega | (simp only [go_sem]; first | done | omega)) only [go_sem]))
        all_goals
          refine Next.mk (k + 1) ⟨by omega, by omega⟩ ?_
          rw [h2, hd]
          clear h2 hd hx hget hf
          (try simp (disch := first | omega | (simp only [go_sem]; first | done | omega)) only [go_sem]); (first | refine WkL.eq ?_ ?_ | refine WkL.rest (by assumption) ?_ ?_ ?_ | refine WkL.keepL (by assumption) rfl ?_ ?_ ?_ ?_) <;> first | rfl | (simp; done) | (simp; omega) | (simp only [List.cons.injEq, AV.c.injEq, AC.int.injEq, AC.bool.injEq, AC.str.injEq, and_true, true_and, Int.natCast_add, Int.natCast_one, Int.cast_ofNat_Int]; omega) | (simp [AV.ok, AV.ok1, AC.ok]; done) | (simp [AV.ok, AV.ok1, AC.ok]; omega) | (simp only [List.forall_mem_cons, List.not_mem_nil, false_implies, implies_true, and_true]; (repeat' apply And.intro) <;> first | exact okN_map (fun x => by simp [go_sem, AC.pure]) | exact okN_grO (fun x => by simp [go_sem, AC.pure]) | (simp [AObj.okN, AC.ok]; done) | (simp [AObj.okN, AC.ok]; omega)) | (simp [*]; done) | grind
      | none =>
        have hd : dfB m x = true := by unfold dfB; rw [hf]
        rw [hf] at hget
        refine look_mp (by kernel_rfl) hget rfl ?_
        simp (disch := first | omega | (simp only [go_sem]; first | done | omega)) only [go_sem]
        repeat' (first | ((first | refine acond_d ?_ ?_ | refine acond_b ?_ ?_ | refine ag_d ?_ ?_ | refine ag_n ?_ ?_ | refine ag_bt ?_ ?_ | refine ag_bf ?_ ?_ | refine agt_d ?_ ?_ | refine agt_n ?_ ?_ | refine agt_bt ?_ ?_ | refine agt_bf ?_ ?_) <;> intro c <;> try simp (disch := first | omega | (simp only [go_sem]; first | done | omega)) only [go_sem, c]) | ((first | refine w_draw (by kernel_rfl) (by decide +kernel) ?_ | refine mup_mp (by kernel_rfl) (mput_B (x.t, true) s (by kernel_rfl)) ?_ | refine w_tree (.one 0 (.one 1 (.one 2 (.one 3 (.one 4 (.one 5 (.one 6 (.one 7 (.one 8 (.one 9 (.one 10 .done))))))))))) (by kernel_rfl) (by decide +kernel) ?_) <;> try simp (disch := first | omega | (simp only [go_sem]; first | done | omega)) only [go_sem]) | (refine And.intro ?_ ?_ <;> try simp (disch := first | omega | (simp only [go_sem]; first | done | omega)) only [go_sem]))
        all_goals
          refine Next.mk (k + 1) ⟨by omega, by omega⟩ ?_
          rw [h2, hd]
          clear h2 hd hx hget hf
          (try simp (disch := first | omega | (simp only [go_sem]; first | done | omega)) only [go_sem]); (first | refine WkL.eq ?_ ?_ | refine WkL.rest (by assumption) ?_ ?_ ?_ | refine WkL.keepL (by assumption) rfl ?_ ?_ ?_ ?_) <;> first | rfl | (simp; done) | (simp; omega) | (simp only [List.cons.injEq, AV.c.injEq, AC.int.injEq, AC.bool.injEq, AC.str.injEq, and_true, true_and, Int.natCast_add, Int.natCast_one, Int.cast_ofNat_Int]; omega) | (simp [AV.ok, AV.ok1, AC.ok]; done) | (simp [AV.ok, AV.ok1, AC.ok]; omega) | (simp only [List.forall_mem_cons, List.not_mem_nil, false_implies, implies_true, and_true]; (repeat' apply And.intro) <;> first | exact okN_map (fun x => by simp [go_sem, AC.pure]) | exact okN_grO (fun x => by simp [go_sem, AC.pure]) | (simp [AObj.okN, AC.ok]; done) | (simp [AObj.okN, AC.ok]; omega)) | (simp [*]; done) | grind
    · have hkl : k = b.length := by omega
      subst hkl
      rw [List.take_length]
      have hqn : ((qbS m s0 b).map (·.1)).Nodup := qbS_ok m b s0 hs0
      have hql := qbS_len m b s0
      have hqw := qbS_mem (P := fun t => -9223372036854775808 ≤ t ∧ t ≤ 9223372036854775807) m b s0 hsw (fun x hx => hw x (List.mem_append_right _ hx))
      generalize hmq : qbS m s0 b = s at *
      simp (disch := first | omega | (simp only [go_sem]; first | done | omega)) only [go_sem]
      refine mkeysB_a (H.length + 1) ?_
      simp (disch := first | omega | (simp only [go_sem]; first | done | omega)) only [go_sem]
      refine keysBf_a s (H.length + 1) (H.length + 2) 172 hqn (by first | ((repeat first | exact at0 (by simp) | refine atS ?_); done) | assumption) (by first | ((repeat first | exact at0 (by simp) | refine atS ?_); done) | assumption) hqw (by omega) ?_
      have hkl2 : (srtI (s.map (·.1))).length ≤ 200000 := by rw [srtI_len, List.length_map]; omega
      generalize srtI (s.map (·.1)) = ks at *
      have hP : ∀ o ∈ [mpO (m.map eS), mpO (s.map eB), .row 172 1 [[.map (some (H.length + 1))]] true], o.okN (H.length + [mpO (m.map eS), mpO (s.map eB), AObj.row 172 1 [[.map (some (H.length + 1))]] true].length) := by
        intro o ho
        simp only [List.mem_cons, List.not_mem_nil, or_false] at ho
        rcases ho with rfl | rfl | rfl
        · exact mpS_okN _ _
        · exact mpB_okN _ _
        · simp [AObj.okN, AC.ok]
      clear hmq hma hsa hs0 hsl hsw hqn hqw hql hw
      simp (disch := first | omega | (simp only [go_sem]; first | done | omega)) only [go_sem]
      refine AWp.loop (H.length + 3) [6, 58, 59] [60, 13] (fun (k : Nat) => k ≤ ks.length) (fun (k : Nat) => [(60, (.c (.int .i64 k))), (13, .c (grV (H.length + 3) ((ks.take k).filter (lkB s))))]) (fun (k : Nat) => H ++ [mpO (m.map eS), mpO (s.map eB), .row 172 1 [[.map (some (H.length + 1))]] true, grO 3 1 (((ks.take k).filter (lkB s)).map encI)]) (fun (k : Nat) => ks.length - k) (by kernel_rfl) (fun _ => rfl) (by kernel_rfl) (by first | (simp; done) | omega) (by first | (simp; done) | (simp; omega) | omega) (by (try simp only [List.forall_mem_cons, List.not_mem_nil, false_implies, implies_true, and_true]); (try simp (disch := first | omega | (simp only [go_sem]; first | done | omega)) only [go_sem]); all_goals first | trivial | (simp [AV.ok, AV.ok1, AC.ok]; done) | (simp [AV.ok, AV.ok1, AC.ok]; omega) | (simp [AV.ok, AV.ok1, AC.ok]; assumption) | ((repeat' apply And.intro) <;> first | trivial | (simp [AV.ok, AV.ok1, AC.ok]; done) | (simp [AV.ok, AV.ok1, AC.ok]; omega) | (simp [AV.ok, AV.ok1, AC.ok]; assumption) | (refine grV_ok ?_ _; first | (simp; done) | (simp; omega) | omega))) ?_ (fun k q1 _ _ => ?_)
      · refine Next.mk 0 (Nat.zero_le _) ?_
        exact WkL.padP [_, _, _] (by simp)
      by_cases hlt : k < ks.length
      · have hnx := flt_next (p := lkB s) hlt
        have hln : ((ks.take k).filter (lkB s)).length ≤ 200000 := by
          have := List.length_filter_le (lkB s) (ks.take k)
          rw [List.length_take] at this
          omega
        obtain ⟨okb, hg⟩ := get_B (kt := 3) ks[k] s (by kernel_rfl)
        generalize (ks.take k).filter (lkB s) = L at *
        simp (disch := first | omega | (simp only [go_sem]; first | done | omega)) only [go_sem, hlt]
        refine look_mp (by kernel_rfl) hg rfl ?_
        clear hg
        cases hb2 : lkB s ks[k] with
        | true =>
          rw [hb2, if_pos rfl] at hnx
          simp (disch := first | omega | (simp only [go_sem]; first | done | omega)) only [go_sem]
          refine appI L ks[k] _ hnx (by first | ((repeat first | exact at0 (by simp) | refine atS ?_); done) | assumption) (by first | ((repeat first | exact at0 (by simp) | refine atS ?_); done) | assumption) (by omega) ?_
          simp (disch := first | omega | (simp only [go_sem]; first | done | omega)) only [go_sem]
          refine Next.mk (k + 1) ⟨by omega, by omega⟩ ?_
          rw [hnx]
          ((try simp (disch := first | omega | (simp only [go_sem]; first | done | omega)) only [go_sem]); (first | refine WkL.pickAt [_, _, _] [0] ?_ ?_ ?_ rfl ?_ ?_ ?_ ?_ | refine WkL.pickAt [_, _, _] [1] ?_ ?_ ?_ rfl ?_ ?_ ?_ ?_ | refine WkL.pickAt [_, _, _] [2] ?_ ?_ ?_ rfl ?_ ?_ ?_ ?_ | refine WkL.pickAt [_, _, _] [3] ?_ ?_ ?_ rfl ?_ ?_ ?_ ?_ | refine WkL.pickAt [_, _, _] [4] ?_ ?_ ?_ rfl ?_ ?_ ?_ ?_ | refine WkL.pickAt [_, _, _] [5] ?_ ?_ ?_ rfl ?_ ?_ ?_ ?_ | refine WkL.pickAt [_, _, _] [6] ?_ ?_ ?_ rfl ?_ ?_ ?_ ?_ | refine WkL.pickAt [_, _, _] [7] ?_ ?_ ?_ rfl ?_ ?_ ?_ ?_ | refine WkL.pickAt [_, _, _] [8] ?_ ?_ ?_ rfl ?_ ?_ ?_ ?_ | refine WkL.pickAt [_, _, _] [9] ?_ ?_ ?_ rfl ?_ ?_ ?_ ?_ | refine WkL.pickAt [_, _, _] [10] ?_ ?_ ?_ rfl ?_ ?_ ?_ ?_ | refine WkL.pickAt [_, _, _] [11] ?_ ?_ ?_ rfl ?_ ?_ ?_ ?_ | refine WkL.pickAt [_, _, _] [12] ?_ ?_ ?_ rfl ?_ ?_ ?_ ?_ | refine WkL.pickAt [_, _, _] [13] ?_ ?_ ?_ rfl ?_ ?_ ?_ ?_ | refine WkL.pickAt [_, _, _] [14] ?_ ?_ ?_ rfl ?_ ?_ ?_ ?_ | refine WkL.pickAt [_, _, _] [15] ?_ ?_ ?_ rfl ?_ ?_ ?_ ?_ | refine WkL.pickAt [_, _, _] [16] ?_ ?_ ?_ rfl ?_ ?_ ?_ ?_ | refine WkL.pickAt [_, _, _] [17] ?_ ?_ ?_ rfl ?_ ?_ ?_ ?_) <;> first | assumption | exact HOk.str (by assumption) | (simp; done) | (simp; omega) | (simp [pureO_gr, AObj.pureO, pureL, go_sem, AC.pure]; done) | (simp only [List.all_cons, List.all_nil, Bool.and_true]; exact pureO_gr (pureL_map _ (fun x => by simp [go_sem, AC.pure]))) | ((try simp only [List.map_cons, List.map_nil, av_ren_gr]); simp [AV.ren, AV.ren1, AC.ren, renP, pickS]; first | done | omega) | (simp only [List.forall_mem_cons, List.not_mem_nil, false_implies, implies_true, and_true]; (repeat' apply And.intro) <;> first | trivial | exact grV_ok (by simp) _ | exact okN_grO (fun x => by simp [go_sem, AC.pure]) | exact okN_map (fun x => by simp [go_sem, AC.pure]) | (simp [AV.ok, AV.ok1, AC.ok]; done) | (simp [AV.ok, AV.ok1, AC.ok]; omega) | (simp [AObj.okN, AC.ok]; done)) | (simp [AObj.okN]; done))
        | false =>
          rw [hb2, if_neg (by simp), List.append_nil] at hnx
          simp (disch := first | omega | (simp only [go_sem]; first | done | omega)) only [go_sem]
          refine Next.mk (k + 1) ⟨by omega, by omega⟩ ?_
          rw [hnx]
          ((try simp (disch := first | omega | (simp only [go_sem]; first | done | omega)) only [go_sem]); (first | refine WkL.pickAt [_, _, _] [0] ?_ ?_ ?_ rfl ?_ ?_ ?_ ?_ | refine WkL.pickAt [_, _, _] [1] ?_ ?_ ?_ rfl ?_ ?_ ?_ ?_ | refine WkL.pickAt [_, _, _] [2] ?_ ?_ ?_ rfl ?_ ?_ ?_ ?_ | refine WkL.pickAt [_, _, _] [3] ?_ ?_ ?_ rfl ?_ ?_ ?_ ?_ | refine WkL.pickAt [_, _, _] [4] ?_ ?_ ?_ rfl ?_ ?_ ?_ ?_ | refine WkL.pickAt [_, _, _] [5] ?_ ?_ ?_ rfl ?_ ?_ ?_ ?_ | refine WkL.pickAt [_, _, _] [6] ?_ ?_ ?_ rfl ?_ ?_ ?_ ?_ | refine WkL.pickAt [_, _, _] [7] ?_ ?_ ?_ rfl ?_ ?_ ?_ ?_ | refine WkL.pickAt [_, _, _] [8] ?_ ?_ ?_ rfl ?_ ?_ ?_ ?_ | refine WkL.pickAt [_, _, _] [9] ?_ ?_ ?_ rfl ?_ ?_ ?_ ?_ | refine WkL.pickAt [_, _, _] [10] ?_ ?_ ?_ rfl ?_ ?_ ?_ ?_ | refine WkL.pickAt [_, _, _] [11] ?_ ?_ ?_ rfl ?_ ?_ ?_ ?_ | refine WkL.pickAt [_, _, _] [12] ?_ ?_ ?_ rfl ?_ ?_ ?_ ?_ | refine WkL.pickAt [_, _, _] [13] ?_ ?_ ?_ rfl ?_ ?_ ?_ ?_ | refine WkL.pickAt [_, _, _] [14] ?_ ?_ ?_ rfl ?_ ?_ ?_ ?_ | refine WkL.pickAt [_, _, _] [15] ?_ ?_ ?_ rfl ?_ ?_ ?_ ?_ | refine WkL.pickAt [_, _, _] [16] ?_ ?_ ?_ rfl ?_ ?_ ?_ ?_ | refine WkL.pickAt [_, _, _] [17] ?_ ?_ ?_ rfl ?_ ?_ ?_ ?_) <;> first | assumption | exact HOk.str (by assumption) | (simp; done) | (simp; omega) | (simp [pureO_gr, AObj.pureO, pureL, go_sem, AC.pure]; done) | (simp only [List.all_cons, List.all_nil, Bool.and_true]; exact pureO_gr (pureL_map _ (fun x => by simp [go_sem, AC.pure]))) | ((try simp only [List.map_cons, List.map_nil, av_ren_gr]); simp [AV.ren, AV.ren1, AC.ren, renP, pickS]; first | done | omega) | (simp only [List.forall_mem_cons, List.not_mem_nil, false_implies, implies_true, and_true]; (repeat' apply And.intro) <;> first | trivial | exact grV_ok (by simp) _ | exact okN_grO (fun x => by simp [go_sem, AC.pure]) | exact okN_map (fun x => by simp [go_sem, AC.pure]) | (simp [AV.ok, AV.ok1, AC.ok]; done) | (simp [AV.ok, AV.ok1, AC.ok]; omega) | (simp [AObj.okN, AC.ok]; done)) | (simp [AObj.okN]; done))
      · have hkk : k = ks.length := by omega
        subst hkk
        rw [List.take_length]
        simp (disch := first | omega | (simp only [go_sem]; first | done | omega)) only [go_sem]
        exact Ret.frzGr 3 hH (Nat.le_refl _) rfl (pureL_map _ (fun x => by simp [go_sem, AC.pure])) (map_grV _ _ _).symm hk
end Go.Proofs.YtgcjenfdndhhpaaGreatDoor
