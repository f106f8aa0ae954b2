/- The parts of FilesKeepSamples. Condition: lengths are small. -/
import Derived.Test.YtnodfnjmhcjnfaaGreatDoorHVFileF
import Derived.Test.YtnodfnjmhcjnfaaGreatDoorHVSrtM
import Derived.Test.YtnodfnjmhcjnfaaGreatDoorHVBlkA
import Derived.Test.YtnodfnjmhcjnfaaGreatDoorHVGC
import Derived.Test.YtnodfnjmhcjnfaaGreatDoorHVEncTop
namespace Go.Proofs.YtnodfnjmhcjnfaaGreatDoor
open Go Go.RowKit
set_option maxRecDepth 100000
set_option linter.all false
set_option maxHeartbeats 2000000
variable {H : Hp} {K : AV → Hp → Prop}
theorem equalKq_a (l m : List Smp) (hl : l.length ≤ 1099511627776) (hm : m.length ≤ 1099511627776) (hk : K (.c (.bool (decide (l = m)))) H) : ACalls Tryz.prog 18 [.c (.lst 3 (l.map encS)), .c (.lst 3 (m.map encS))] H K := by
  by_cases hlen : l.length = m.length
  · refine acalls Tryz.func18 rfl (by kernel_rfl) (by simp (disch := first | omega | (simp only [go_sem]; first | done | omega)) only [go_sem]) (fun hH => ?_)
    simp (disch := first | omega | (simp only [go_sem]; first | done | omega)) only [go_sem]
    refine AWp.loop (H.length) [0, 1, 12] [13] (fun (k : Nat) => k ≤ l.length ∧ ∀ (j : Nat) (x y : Smp), j < k → l[j]? = some x → m[j]? = some y → x = y) (fun (k : Nat) => [(13, (.c (.int .i64 k)))]) (fun (k : Nat) => H) (fun (k : Nat) => l.length - k) (by kernel_rfl) (fun _ => rfl) (by kernel_rfl) (by first | (simp; done) | omega) (by first | (simp; done) | (simp; omega) | omega) kl ?_ (fun k hk1 _ _ => ?_)
    · exact Next.mk 0 (by simp) wk
    obtain ⟨hk1, hk2⟩ := hk1
    by_cases hlt : k < l.length
    · simp (disch := first | omega | (simp only [go_sem]; first | done | omega)) only [go_sem]
      refine w_draw (by kernel_rfl) (by decide +kernel) ?_
      simp (disch := first | omega | (simp only [go_sem]; first | done | omega)) only [go_sem]
      refine acond_b (fun c => ?_) (fun c => ?_)
      · simp (disch := first | omega | (simp only [go_sem]; first | done | omega)) only [go_sem]
        exact Next.mk (k + 1) ⟨⟨by omega, fun j x y hj hx hy => by
          rcases Nat.lt_or_ge j k with h | h
          · exact hk2 j x y h hx hy
          · obtain rfl : j = k := by omega
            rw [List.getElem?_eq_getElem hlt] at hx
            rw [List.getElem?_eq_getElem (by omega)] at hy
            injection hx with hx; injection hy with hy; rw [← hx, ← hy]; revert c; generalize l[j] = u; generalize m[j] = v; first | (simp; done) | (cases u; cases v; simp)⟩, by omega⟩ wk
      · simp (disch := first | omega | (simp only [go_sem]; first | done | omega)) only [go_sem]
        have : l ≠ m := by rintro rfl; simp at c
        (first | refine Ret.sameE (Nat.le_refl _) (by assumption) ?_ | refine Ret.dropE (by assumption) (Nat.le_refl _) (by assumption) (by simp [AV.ok, AV.ok1, AC.ok]) ?_) <;> simp [this]
    · simp (disch := first | omega | (simp only [go_sem]; first | done | omega)) only [go_sem]
      have : l = m := by
        apply List.ext_getElem hlen
        intro j h1 h2
        exact hk2 j _ _ (by omega) (List.getElem?_eq_getElem h1) (List.getElem?_eq_getElem h2)
      (first | refine Ret.sameE (Nat.le_refl _) (by assumption) ?_ | refine Ret.dropE (by assumption) (Nat.le_refl _) (by assumption) (by simp [AV.ok, AV.ok1, AC.ok]) ?_) <;> simp [this]
  · have : l ≠ m := by rintro rfl; exact hlen rfl
    refine acalls Tryz.func18 rfl (by kernel_rfl) (by simp (disch := first | omega | (simp only [go_sem]; first | done | omega)) only [go_sem]) (fun hH => ?_)
    simp (disch := first | omega | (simp only [go_sem]; first | done | omega)) only [go_sem]
    (first | refine Ret.sameE (Nat.le_refl _) (by assumption) ?_ | refine Ret.dropE (by assumption) (Nat.le_refl _) (by assumption) (by simp [AV.ok, AV.ok1, AC.ok]) ?_) <;> simp [this]
theorem indexKq_a (f : FuncId) (caps : List (Nat × Nat × Nat)) (p : Smp → Bool) (he : entersB Tryz.prog f = true) (hc : ∀ (a b c : Nat), (a, b, c) ∈ caps → a < H.length) (l : List Smp) (hf : ∀ (x : Smp) (K : AV → Hp → Prop), x ∈ l → K (.c (.bool (p x))) H → ACalls Tryz.prog f (.agg (encS x) :: caps.map fun q => .c (.ptr (some q))) H K) (hlen : l.length ≤ 1099511627776) (hk : ∀ r : Int, (0 ≤ r ↔ l.any p = true) → K (.c (.int .i64 r)) H) : ACalls Tryz.prog 154 [.c (.lst 3 (l.map encS)), .c (.fn f [] caps)] H K := by
  refine acalls Tryz.func154 rfl (by kernel_rfl) (by simp (disch := first | omega | (simp only [go_sem]; first | done | omega)) only [go_sem]) (fun hH => ?_)
  simp (disch := first | omega | (simp only [go_sem]; first | done | omega)) only [go_sem]
  refine AWp.loop (H.length) [0, 1, 7] [8] (fun (k : Nat) => k ≤ l.length ∧ ∀ j (h : j < l.length), j < k → p l[j] = false) (fun (k : Nat) => [(8, (.c (.int .i64 k)))]) (fun (k : Nat) => H) (fun (k : Nat) => l.length - k) (by kernel_rfl) (fun _ => rfl) (by kernel_rfl) (by first | (simp; done) | omega) (by first | (simp; done) | (simp; omega) | omega) kl ?_ (fun k hk1 _ _ => ?_)
  · exact Next.mk 0 (by simp) wk
  obtain ⟨hk1, hk2⟩ := hk1
  by_cases hlt : k < l.length
  · simp (disch := first | omega | (simp only [go_sem]; first | done | omega)) only [go_sem, he]
    refine hf l[k] _ (List.getElem_mem hlt) ?_
    simp (disch := first | omega | (simp only [go_sem]; first | done | omega)) only [go_sem]
    refine acond_b (fun c => ?_) (fun c => ?_)
    · simp (disch := first | omega | (simp only [go_sem]; first | done | omega)) only [go_sem]
      refine Ret.same (Nat.le_refl _) (hk k ?_)
      simp only [Int.natCast_nonneg, List.any_eq_true, true_iff]
      exact ⟨l[k], List.getElem_mem _, c⟩
    · simp (disch := first | omega | (simp only [go_sem]; first | done | omega)) only [go_sem]
      refine Next.mk (k + 1) ⟨⟨by omega, fun j h hj => ?_⟩, by omega⟩ wk
      rcases Nat.lt_or_ge j k with h1 | h1
      · exact hk2 j h h1
      · obtain rfl : j = k := by omega
        simpa using c
  · simp (disch := first | omega | (simp only [go_sem]; first | done | omega)) only [go_sem]
    refine Ret.same (Nat.le_refl _) (hk (-1) ?_)
    have : l.any p = false := by
      rw [List.any_eq_false]
      intro x hx
      obtain ⟨j, hj, rfl⟩ := List.getElem_of_mem hx
      simpa using hk2 j hj (by omega)
    simp [this]
theorem containsKq_a (f : FuncId) (caps : List (Nat × Nat × Nat)) (p : Smp → Bool) (he : entersB Tryz.prog f = true) (hc : ∀ (a b c : Nat), (a, b, c) ∈ caps → a < H.length) (l : List Smp) (hf : ∀ (x : Smp) (K : AV → Hp → Prop), x ∈ l → K (.c (.bool (p x))) H → ACalls Tryz.prog f (.agg (encS x) :: caps.map fun q => .c (.ptr (some q))) H K) (hlen : l.length ≤ 1099511627776) (hk : K (.c (.bool (l.any p))) H) : ACalls Tryz.prog 63 [.c (.lst 3 (l.map encS)), .c (.fn f [] caps)] H K := by
  refine acalls Tryz.func63 rfl (by kernel_rfl) (by simp (disch := first | omega | (simp only [go_sem]; first | done | omega)) only [go_sem]) (fun hH => ?_)
  simp (disch := first | omega | (simp only [go_sem]; first | done | omega)) only [go_sem]
  refine indexKq_a f caps p he hc l hf hlen (fun r hr => ?_)
  simp (disch := first | omega | (simp only [go_sem]; first | done | omega)) only [go_sem]
  refine Ret.same (Nat.le_refl _) ?_
  rw [show decide (0 ≤ r) = l.any p by rw [Bool.eq_iff_iff, decide_eq_true_eq]; exact hr]
  exact hk
theorem cloneKq_a (l : List Smp) (hl : l.length ≤ 1099511627776) (hk : K (.c (clV H.length 3 (l.map encS))) (H ++ [grO 38 3 (l.map encS)])) : ACalls Tryz.prog 62 [.c (.lst 3 (l.map encS))] H K := by
  cases l with
  | nil =>
    refine acalls Tryz.func62 rfl (by kernel_rfl) (by simp (disch := first | omega | (simp only [go_sem]; first | done | omega)) only [go_sem]) (fun hH => ?_)
    simp (disch := first | omega | (simp only [go_sem]; first | done | omega)) only [go_sem]
    refine asome_i (fun b _ => ?_)
    cases b
    · simp (disch := first | omega | (simp only [go_sem]; first | done | omega)) only [go_sem]
      refine app_lst ?_
      simp (disch := first | omega | (simp only [go_sem]; first | done | omega)) only [go_sem]
      exact Ret.nil [3] (by simp) (Ret.cut hH (Nat.le_refl _) trivial (Ret.pad (Nat.le_refl _) (Ret.same (by simp) hk)))
    · simp (disch := first | omega | (simp only [go_sem]; first | done | omega)) only [go_sem]
      exact Ret.nil [3] (by simp) (Ret.pad (Nat.le_refl _) (Ret.same (by simp) hk))
  | cons x xs =>
    refine acalls Tryz.func62 rfl (by kernel_rfl) (by simp (disch := first | omega | (simp only [go_sem]; first | done | omega)) only [go_sem]) (fun hH => ?_)
    simp (disch := first | omega | (simp only [go_sem]; first | done | omega)) only [go_sem]
    refine asome_i (fun b hb => ?_)
    subst hb
    simp (disch := first | omega | (simp only [go_sem]; first | done | omega)) only [go_sem]
    refine app_lst ?_
    simp only [List.length_cons] at hl
    simp (disch := first | omega | (simp only [go_sem]; first | done | omega)) only [go_sem]
    refine Ret.pick [1] hH (Nat.le_refl _) (L := [.row 38 3 ((x :: xs).map encS) true]) rfl (by simp) (by simp [AObj.pureO, pureL, encS, AC.pure]) (v' := .c (.sl (some (H.length, 0)) (xs.length + 1))) ?_ (by simp [AV.ok, AV.ok1, AC.ok]) (by simpa [clV, grO] using hk)
    simp [AV.ren, AV.ren1, AC.ren, pickS]
def aVS (a : List Smp) : AC := match a with | [] => .sl none 0 | x :: xs => .lst 3 ((x :: xs).map encS)
theorem cloneV_a (a : List Smp) (ha : a.length ≤ 1000) (hk : K (.c (grV H.length a)) (H ++ [grO 38 3 (a.map encS)])) : ACalls Tryz.prog 62 [.c (aVS a)] H K := by
  cases a with
  | nil =>
    unfold aVS
    refine acalls Tryz.func62 rfl (by kernel_rfl) (by simp (disch := first | omega | (simp only [go_sem]; first | done | omega)) only [go_sem]) (fun hH => ?_)
    simp (disch := first | omega | (simp only [go_sem]; first | done | omega)) only [go_sem]
    exact Ret.pad (Nat.le_refl _) (Ret.same (by simp) hk)
  | cons x xs =>
    refine cloneKq_a (x :: xs) (by omega) ?_
    simpa [clV, grV] using hk
theorem containsV_a (f : FuncId) (caps : List (Nat × Nat × Nat)) (p : Smp → Bool) (he : entersB Tryz.prog f = true) (hc : ∀ (a b c : Nat), (a, b, c) ∈ caps → a < H.length) (l : List Smp) (hf : ∀ (x : Smp) (K : AV → Hp → Prop), x ∈ l → K (.c (.bool (p x))) H → ACalls Tryz.prog f (.agg (encS x) :: caps.map fun q => .c (.ptr (some q))) H K) (hlen : l.length ≤ 1000) (hk : K (.c (.bool (l.any p))) H) : ACalls Tryz.prog 63 [.c (aVS l), .c (.fn f [] caps)] H K := by
  cases l with
  | nil =>
    unfold aVS
    refine ACalls.nilz [3, 0] (by simp) ?_
    exact containsKq_a f caps p he hc [] (fun x K hx _ => by cases hx) (by simp) hk
  | cons x xs => exact containsKq_a f caps p he hc (x :: xs) (fun y K hy h => hf y K hy h) (by omega) hk
theorem appendV_a (file : List UInt8) (tag : ByteArray) (l : List Smp) (hf : file.length ≤ 100000000) (ht : tag.size ≤ 1099511627776) (hl : l.length ≤ 1000) (hk : K (.tup [.c (.lst 1 ((appRes file tag l).1.map encU)), (.c (.int .i64 ((appRes file tag l).2)))]) H) : ACalls Tryz.prog 38 [.c (.lst 1 (file.map encU)), (.c (.str tag)), .c (aVS l)] H K := by
  cases l with
  | nil =>
    unfold aVS
    refine ACalls.nilz [0, 0, 3] (by simp) ?_
    exact appendTop_a file tag [] hf ht (by simp) hk
  | cons x xs => exact appendTop_a file tag (x :: xs) hf ht (by simp at hl; simp; omega) hk
theorem equalG_a {i : Nat} (l : List Smp) (m m2 : List Smp) (hi : H[i]? = some (grO 38 3 (m2.map encS))) (hm : m.length = m2.length) (hl : l.length ≤ 100000) (hm2 : m2.length ≤ 100000) (hk : K (.c (.bool (decide (l = m2)))) (H.set i .dead)) : ACalls Tryz.prog 18 [.c (.lst 3 (l.map encS)), .c (grV i m)] H K := by
  cases m2 with
  | nil =>
    have h0 : m = [] := List.length_eq_zero_iff.1 hm
    subst h0
    rw [set_same (o := .dead) hi] at hk
    refine ACalls.nilz [0, 3] (by simp) ?_
    exact equalKq_a l [] (by omega) (by simp) hk
  | cons y ys =>
    have h0 : m ≠ [] := by rintro rfl; simp at hm
    rw [grV_pos _ h0]
    refine ACalls.lit (i := i) (ty := 38) (sz := 3) (els := (y :: ys).map encS) (own := true) hi (pureL_map _ (fun x => by simp [go_sem, AC.pure])) (args' := [.c (.lst 3 (l.map encS)), .c (.lst 3 ((y :: ys).map encS))]) ?_ (equalKq_a l (y :: ys) (by omega) (by omega) hk)
    simp [AV.frz1, AC.frz, hm, List.take_of_length_le]
theorem fks1_a {i ty : Nat} {o : Bool} (x y : Smp) (hi : H[i]? = some (.row ty 3 [encS y] o)) (hk : K (.c (.bool (decide (x.t = y.t)))) H) : ACalls Tryz.prog 64 [.agg (encS x), .c (.ptr (some (i, 0, 0)))] H K := by
  have hi1 := getElem?_lt hi
  refine acalls Tryz.func64 rfl (by kernel_rfl) (by simp (disch := first | omega | (simp only [go_sem]; first | done | omega)) only [go_sem]) (fun hH => ?_)
  simp (disch := first | omega | (simp only [go_sem]; first | done | omega)) only [go_sem, hi]
  exact Ret.drop hH (Nat.le_refl _) trivial hk
theorem fksByT : ByT 66 := by
  refine ⟨fun args w => enters_of Tryz.func66 (by kernel_rfl) rfl args w, fun x y W hx hy => ?_⟩
  have w1 := wrapT hx hy
  show Calls _ _ #[.agg #[.int .i64 x.t, .int .i64 x.v, .int .i64 x.q], .agg #[.int .i64 y.t, .int .i64 y.v, .int .i64 y.q]] _ _
  go_enter Tryz.func66, Tryz.ntmps66
  go_wp2_with fail
  go_ret
  exact ⟨rfl, 0, _, alloc2T _ _ _⟩
theorem chain_sum : ∀ {ps : List Pc} {p q : Int}, chainP p ps q → (∀ k (h : k < ps.length), ps[k].b.at_ = p + ((ps.take k).map fun x => x.b.long).sum ∧ 1 ≤ ps[k].b.long) ∧ q = p + (ps.map fun x => x.b.long).sum := by
  intro ps
  induction ps with
  | nil =>
    intro p q h
    simp only [chainP] at h
    exact ⟨fun k h => by simp at h, by simp; exact h.symm⟩
  | cons x r ih =>
    intro p q h
    obtain ⟨h1, h2, _, h3⟩ := h
    obtain ⟨i1, i2⟩ := ih h3
    refine ⟨fun k hk => ?_, ?_⟩
    · cases k with
      | zero => simp; omega
      | succ k =>
        have := i1 k (by simpa using hk)
        simp only [List.getElem_cons_succ, List.take_succ_cons, List.map_cons, List.sum_cons]
        omega
    · simp only [List.map_cons, List.sum_cons]
      omega
end Go.Proofs.YtnodfnjmhcjnfaaGreatDoor
