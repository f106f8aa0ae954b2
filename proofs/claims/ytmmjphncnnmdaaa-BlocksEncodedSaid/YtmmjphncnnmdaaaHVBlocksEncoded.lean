/- BlocksEncoded: what the law's function answers for all numbers it is given. No condition. -/
import Derived.Test.YtmmjphncnnmdaaaHVFileD
import Derived.Test.YtmmjphncnnmdaaaHVBroken
import Derived.Test.YtmmjphncnnmdaaaHVArch
namespace Go.Proofs.Ytmmjphncnnmdaaa
open Go Go.RowKit
set_option maxRecDepth 100000
set_option linter.all false
set_option maxHeartbeats 2000000
variable {H : Hp} {K : AV → Hp → Prop}
theorem equalS_a (l m : List Smp) (hl : l.length ≤ 1099511627776) (hm : m.length ≤ 1099511627776) (hk : K (.c (.bool (decide (l = m)))) H) : ACalls Try.prog 19 [.c (.lst 3 (l.map encS)), .c (.lst 3 (m.map encS))] H K := by
  by_cases hlen : l.length = m.length
  · refine acalls Try.func19 rfl (by kernel_rfl) (by simp (disch := first | omega | (simp only [go_sem]; first | done | omega)) only [go_sem]) (fun hH => ?_)
    simp (disch := first | omega | (simp only [go_sem]; first | done | omega)) only [go_sem]
    refine AWp.loop (H.length) [0, 1, 12] [13] (fun (k : Nat) => k ≤ l.length ∧ ∀ (j : Nat) (x y : Smp), j < k → l[j]? = some x → m[j]? = some y → x = y) (fun (k : Nat) => [(13, (.c (.int .i64 k)))]) (fun (k : Nat) => H) (fun (k : Nat) => l.length - k) (by kernel_rfl) (fun _ => rfl) (by kernel_rfl) (by simp) (by first | (simp; done) | (simp; omega)) (by (try simp only [List.forall_mem_cons, List.not_mem_nil, false_implies, implies_true, and_true]); (try simp (disch := first | omega | (simp only [go_sem]; first | done | omega)) only [go_sem]); all_goals first | trivial | (simp [AV.ok, AV.ok1, AC.ok]; done) | (simp [AV.ok, AV.ok1, AC.ok]; omega) | (simp [AV.ok, AV.ok1, AC.ok]; assumption) | ((repeat' apply And.intro) <;> first | trivial | (simp [AV.ok, AV.ok1, AC.ok]; done) | (simp [AV.ok, AV.ok1, AC.ok]; omega) | (simp [AV.ok, AV.ok1, AC.ok]; assumption) | (refine grV_ok ?_ _; first | (simp; done) | (simp; omega) | omega))) ?_ (fun k hk1 _ _ => ?_)
    · exact Next.mk 0 (by simp) (by (try simp (disch := first | omega | (simp only [go_sem]; first | done | omega)) only [go_sem]); (first | refine WkL.eq ?_ ?_ | refine WkL.rest (by assumption) ?_ ?_ ?_ | refine WkL.keepL (by assumption) rfl ?_ ?_ ?_ ?_) <;> first | rfl | (simp; done) | (simp; omega) | (simp only [List.cons.injEq, AV.c.injEq, AC.int.injEq, AC.bool.injEq, AC.str.injEq, and_true, true_and, Int.natCast_add, Int.natCast_one, Int.cast_ofNat_Int]; omega) | (simp [AV.ok, AV.ok1, AC.ok]; done) | (simp [AV.ok, AV.ok1, AC.ok]; omega) | (simp only [List.forall_mem_cons, List.not_mem_nil, false_implies, implies_true, and_true]; (repeat' apply And.intro) <;> first | exact okN_map (fun x => by simp [go_sem, AC.pure]) | exact okN_grO (fun x => by simp [go_sem, AC.pure]) | (simp [AObj.okN, AC.ok]; done) | (simp [AObj.okN, AC.ok]; omega)) | (simp [*]; done) | grind)
    obtain ⟨hk1, hk2⟩ := hk1
    by_cases hlt : k < l.length
    · simp (disch := first | omega | (simp only [go_sem]; first | done | omega)) only [go_sem]
      refine w_draw (by kernel_rfl) (by decide +kernel) ?_
      simp (disch := first | omega | (simp only [go_sem]; first | done | omega)) only [go_sem]
      refine acond_b (fun c => ?_) (fun c => ?_)
      · simp (disch := first | omega | (simp only [go_sem]; first | done | omega)) only [go_sem]
        exact Next.mk (k + 1) ⟨⟨by omega, fun j x y hj hx hy => by
          rcases Nat.lt_or_ge j k with h | h
          · exact hk2 j x y h hx hy
          · obtain rfl : j = k := by omega
            rw [List.getElem?_eq_getElem hlt] at hx
            rw [List.getElem?_eq_getElem (by omega)] at hy
            injection hx with hx; injection hy with hy; rw [← hx, ← hy]; revert c; generalize l[j] = u; generalize m[j] = v; first | (simp; done) | (cases u; cases v; simp)⟩, by omega⟩ (by (try simp (disch := first | omega | (simp only [go_sem]; first | done | omega)) only [go_sem]); (first | refine WkL.eq ?_ ?_ | refine WkL.rest (by assumption) ?_ ?_ ?_ | refine WkL.keepL (by assumption) rfl ?_ ?_ ?_ ?_) <;> first | rfl | (simp; done) | (simp; omega) | (simp only [List.cons.injEq, AV.c.injEq, AC.int.injEq, AC.bool.injEq, AC.str.injEq, and_true, true_and, Int.natCast_add, Int.natCast_one, Int.cast_ofNat_Int]; omega) | (simp [AV.ok, AV.ok1, AC.ok]; done) | (simp [AV.ok, AV.ok1, AC.ok]; omega) | (simp only [List.forall_mem_cons, List.not_mem_nil, false_implies, implies_true, and_true]; (repeat' apply And.intro) <;> first | exact okN_map (fun x => by simp [go_sem, AC.pure]) | exact okN_grO (fun x => by simp [go_sem, AC.pure]) | (simp [AObj.okN, AC.ok]; done) | (simp [AObj.okN, AC.ok]; omega)) | (simp [*]; done) | grind)
      · simp (disch := first | omega | (simp only [go_sem]; first | done | omega)) only [go_sem]
        have : l ≠ m := by rintro rfl; simp at c
        (first | refine Ret.sameE (Nat.le_refl _) (by assumption) ?_ | refine Ret.dropE (by assumption) (Nat.le_refl _) (by assumption) (by simp [AV.ok, AV.ok1, AC.ok]) ?_) <;> simp [this]
    · simp (disch := first | omega | (simp only [go_sem]; first | done | omega)) only [go_sem]
      have : l = m := by
        apply List.ext_getElem hlen
        intro j h1 h2
        exact hk2 j _ _ (by omega) (List.getElem?_eq_getElem h1) (List.getElem?_eq_getElem h2)
      (first | refine Ret.sameE (Nat.le_refl _) (by assumption) ?_ | refine Ret.dropE (by assumption) (Nat.le_refl _) (by assumption) (by simp [AV.ok, AV.ok1, AC.ok]) ?_) <;> simp [this]
  · have : l ≠ m := by rintro rfl; exact hlen rfl
    refine acalls Try.func19 rfl (by kernel_rfl) (by simp (disch := first | omega | (simp only [go_sem]; first | done | omega)) only [go_sem]) (fun hH => ?_)
    simp (disch := first | omega | (simp only [go_sem]; first | done | omega)) only [go_sem]
    (first | refine Ret.sameE (Nat.le_refl _) (by assumption) ?_ | refine Ret.dropE (by assumption) (Nat.le_refl _) (by assumption) (by simp [AV.ok, AV.ok1, AC.ok]) ?_) <;> simp [this]
theorem ACalls.litGr3 {P : Program} {f : FuncId} {p : Nat × Nat × Nat} {rest : List AV} {i ty sz : Nat} {α : Type} {l : List α} {els : List (List AC)} (hi : H[i]? = some (grO ty sz els)) (hl : l.length = els.length) (hp : pureL els = true) (hr : rest.map (AV.frz1 i sz els) = rest)
    (h : ACalls P f (.c (.ptr (some p)) :: .c (.lst sz els) :: rest) (H.set i .dead) K) : ACalls P f (.c (.ptr (some p)) :: .c (grV i l) :: rest) H K := by
  cases els with
  | nil =>
    have h0 : l = [] := List.length_eq_zero_iff.1 hl
    subst h0
    rw [set_same (o := .dead) hi] at h
    refine ACalls.nilz [0, sz] (by simp) ?_
    exact h
  | cons y ys =>
    have h0 : l ≠ [] := by rintro rfl; simp at hl
    rw [grV_pos _ h0]
    refine ACalls.lit (i := i) (ty := ty) (sz := sz) (els := y :: ys) (own := true) hi hp (args' := .c (.ptr (some p)) :: .c (.lst sz (y :: ys)) :: rest) ?_ h
    rw [List.map_cons, List.map_cons, hr]
    simp [AV.frz1, AC.frz, hl]
theorem encRes_len (tag : ByteArray) (l : List Smp) (o : Bool) (ht : tag.size ≤ 1000) : (encRes tag l o).1.length ≤ 20000 := by
  unfold encRes
  split
  · simp
  · split
    · simp
    · rename_i h2
      split
      · simp
      · split
        · simp
        · exact blockB_len tag l o ht (by omega) (serF_sml (by simpa using h2))
theorem decTop_ss (l : List UInt8) (p : Int) : (decTop l p).2.1.length ≤ 100 := by
  have key : ∀ {q : Nat} {kind : UInt8} {tag : ByteArray} {ss : List Smp} {e : Nat}, decP l q = some (kind, tag, ss, e) → ss.length ≤ 100 := by
    intro q kind tag ss e hd
    unfold decP at hd
    split at hd
    · cases hd
    split at hd
    · cases hd
    split at hd
    · cases hd
    split at hd
    · cases hd
    rename_i m y hy
    split at hd
    · cases hd
    rename_i hm
    split at hd
    · cases hd
    rename_i ss' e' hs
    split at hd
    · cases hd
    simp only [Option.some.injEq, Prod.mk.injEq] at hd
    obtain ⟨_, _, rfl, _⟩ := hd
    have := (smps_len _ _ _ _ _ hs).1
    omega
  unfold decTop
  split
  · simp
  split
  · simp
  unfold decRes
  split
  · simp
  split
  · simp
  split
  · simp
  rename_i kind tag ss e hd
  have := key hd
  split
  · simp
  split
  · simp
  split
  · simp
  exact this
theorem blocksEncoded_a (zs : List Int) (hz : zs.length ≤ 9223372036854775807) (hk : K (.c (.bool true)) H) : ACalls Try.prog 3 [.c (.lst 1 (zs.map encI))] H K := by
  have st : ∀ (k : Int) (L : Hp), 0 ≤ k → k ≤ 1000000000 → Str (H ++ strO zs k :: L) H.length zs k := fun k L h1 h2 => ⟨hz, h1, by omega, by simp⟩
  refine acallsS Try.func3 rfl (by simp (disch := first | omega | (simp only [go_sem]; first | done | omega)) only [go_sem]) (fun hH => ?_)
  (refine SWp.go (by kernel_rfl) ?_; simp (disch := first | omega | (simp only [go_sem]; first | done | omega)) only [go_sem])
  (refine SWp.go (by kernel_rfl) ?_; simp (disch := first | omega | (simp only [go_sem]; first | done | omega)) only [go_sem])
  (refine SWp.go (by kernel_rfl) ?_; simp (disch := first | omega | (simp only [go_sem]; first | done | omega)) only [go_sem])
  refine some_lit H.length zs 0 [⟨#[116, 97]⟩, ⟨#[116, 97]⟩, ⟨#[97, 45, 108, 111, 110, 103, 45, 116, 97, 103]⟩, ⟨#[]⟩, ⟨#[65]⟩] (by first | exact at0 (by simp) | exact at1 (by simp) | exact at2 (by simp) | exact at3 (by simp) | exact at4 (by simp) | exact at5 (by simp) | exact atG 6 (by simp) rfl | exact atG 7 (by simp) rfl | exact atG 8 (by simp) rfl | exact atG 9 (by simp) rfl | exact atG 10 (by simp) rfl | assumption) rfl rfl (st _ _ (by omega) (by omega)) (by omega) (by simp) (by simp) (fun tag htag => ?_)
  have ht : tag.size ≤ 1000 := by
    simp only [List.mem_cons, List.not_mem_nil, or_false] at htag
    rcases htag with rfl | rfl | rfl | rfl | rfl <;> decide
  clear htag
  simp (disch := first | omega | (simp only [go_sem]; first | done | omega)) only [go_sem]
  refine samples_a H.length zs (0 + 1) 6 (st _ _ (by omega) (by omega)) (by omega) (by omega) (by omega) (fun a j1 g1 g2 g3 => ?_)
  simp (disch := first | omega | (simp only [go_sem]; first | done | omega)) only [go_sem]
  refine flip_a H.length zs j1 2 (st _ _ (by omega) (by omega)) (by omega) (by omega) (fun over => ?_)
  simp (disch := first | omega | (simp only [go_sem]; first | done | omega)) only [go_sem]
  refine SWp.cut (H.length) [] [3, 4, 5, 6] (fun (s : List Smp × Int) => s.1.length ≤ 205 ∧ 0 ≤ s.2 ∧ s.2 ≤ 10000) (fun (s : List Smp × Int) => [(3, .c (.ptr (some (H.length, 0, 0)))), (4, (.c (.str tag))), (5, .c (.lst 3 (s.1.map encS))), (6, (.c (.bool over)))]) (fun (s : List Smp × Int) => H ++ [strO zs s.2]) (fun _ => rfl) (by kernel_rfl) (by simp) (by first | (simp; done) | (simp; omega)) (by (try simp only [List.forall_mem_cons, List.not_mem_nil, false_implies, implies_true, and_true]); (try simp (disch := first | omega | (simp only [go_sem]; first | done | omega)) only [go_sem]); all_goals first | trivial | (simp [AV.ok, AV.ok1, AC.ok]; done) | (simp [AV.ok, AV.ok1, AC.ok]; omega) | (simp [AV.ok, AV.ok1, AC.ok]; assumption) | ((repeat' apply And.intro) <;> first | trivial | (simp [AV.ok, AV.ok1, AC.ok]; done) | (simp [AV.ok, AV.ok1, AC.ok]; omega) | (simp [AV.ok, AV.ok1, AC.ok]; assumption) | (refine grV_ok ?_ _; first | (simp; done) | (simp; omega) | omega))) ?_ (fun s hs _ _ => ?_)
  · refine SWp.of (by kernel_rfl) ?_
    simp (disch := first | omega | (simp only [go_sem]; first | done | omega)) only [go_sem]
    refine flip_a H.length zs (j1 + 1) 10 (st _ _ (by omega) (by omega)) (by omega) (by omega) (fun b => ?_)
    simp (disch := first | omega | (simp only [go_sem]; first | done | omega)) only [go_sem]
    refine acond_b (fun c => ?_) (fun c => ?_)
    · simp (disch := first | omega | (simp only [go_sem]; first | done | omega)) only [go_sem]
      refine manySamples_a H.length zs (j1 + 1 + 1) (st _ _ (by omega) (by omega)) (by omega) (fun a2 j2 g4 g5 g6 => ?_)
      simp (disch := first | omega | (simp only [go_sem]; first | done | omega)) only [go_sem]
      refine Next.mk (a2, j2) ⟨g6, by dsimp only; omega, by dsimp only; omega⟩ ?_
      (try simp (disch := first | omega | (simp only [go_sem]; first | done | omega)) only [go_sem])
      exact WkL.keep 1 hH rfl (by simp) (by simp) rfl (by intro o ho; simp only [List.mem_singleton] at ho; subst ho; exact okN_pure (by simp [pureL, AC.pure]) (by simp) _) (by simp [AV.ok, AV.ok1, AC.ok])
    · simp (disch := first | omega | (simp only [go_sem]; first | done | omega)) only [go_sem]
      refine Next.mk (a, j1 + 1 + 1) ⟨by dsimp only; omega, by dsimp only; omega, by dsimp only; omega⟩ ?_
      (try simp (disch := first | omega | (simp only [go_sem]; first | done | omega)) only [go_sem])
      exact WkL.keep 1 hH rfl (by simp) (by simp) rfl (by intro o ho; simp only [List.mem_singleton] at ho; subst ho; exact okN_pure (by simp [pureL, AC.pure]) (by simp) _) (by simp [AV.ok, AV.ok1, AC.ok])
  obtain ⟨a, j2⟩ := s
  obtain ⟨i1, i2, i3⟩ := hs
  dsimp only at i1 i2 i3 ⊢
  (refine SWp.go (by kernel_rfl) ?_; simp (disch := first | omega | (simp only [go_sem]; first | done | omega)) only [go_sem])
  refine encodeT_a tag a over ht (by omega) ?_
  have hel := encRes_len tag a over ht
  simp (disch := first | omega | (simp only [go_sem]; first | done | omega)) only [go_sem]
  (refine SWp.go (by kernel_rfl) ?_; simp (disch := first | omega | (simp only [go_sem]; first | done | omega)) only [go_sem])
  refine encodeOf_a tag a over ht (by omega) ?_
  generalize encRes tag a over = R at *
  obtain ⟨B, e⟩ := R
  dsimp only at hel ⊢
  simp (disch := first | omega | (simp only [go_sem]; first | done | omega)) only [go_sem]
  refine SWp.go (by kernel_rfl) ?_
  simp (disch := first | omega | (simp only [go_sem]; first | done | omega)) only [go_sem]
  refine bytesEq_a B B (by omega) (by omega) ?_
  rw [decide_eq_true rfl]
  simp (disch := first | omega | (simp only [go_sem]; first | done | omega)) only [go_sem]
  refine SWp.cut (H.length) [] [3, 11] (fun (s : List UInt8 × Int) => s.1.length ≤ 1000000 ∧ 0 ≤ s.2 ∧ s.2 ≤ 100000) (fun (s : List UInt8 × Int) => [(3, .c (.ptr (some (H.length, 0, 0)))), (11, .c (.lst 1 (s.1.map encU)))]) (fun (s : List UInt8 × Int) => H ++ [strO zs s.2]) (fun _ => rfl) (by kernel_rfl) (by simp) (by first | (simp; done) | (simp; omega)) (by (try simp only [List.forall_mem_cons, List.not_mem_nil, false_implies, implies_true, and_true]); (try simp (disch := first | omega | (simp only [go_sem]; first | done | omega)) only [go_sem]); all_goals first | trivial | (simp [AV.ok, AV.ok1, AC.ok]; done) | (simp [AV.ok, AV.ok1, AC.ok]; omega) | (simp [AV.ok, AV.ok1, AC.ok]; assumption) | ((repeat' apply And.intro) <;> first | trivial | (simp [AV.ok, AV.ok1, AC.ok]; done) | (simp [AV.ok, AV.ok1, AC.ok]; omega) | (simp [AV.ok, AV.ok1, AC.ok]; assumption) | (refine grV_ok ?_ _; first | (simp; done) | (simp; omega) | omega))) ?_ (fun s hs _ _ => ?_)
  · refine SWp.of (by kernel_rfl) ?_
    simp (disch := first | omega | (simp only [go_sem]; first | done | omega)) only [go_sem]
    refine aFile_o H.length zs j2 (st _ _ (by omega) (by omega)) (by omega) (fun f j3 g1 g2 g3 => ?_)
    simp (disch := first | omega | (simp only [go_sem]; first | done | omega)) only [go_sem]
    by_cases hB : B = []
    · subst hB
      have happ : ∀ {H1 : Hp} {J : AV → Hp → Prop} {i : Nat}, J (.c (grV i f)) H1 → aBuiltin Try.prog .append #[31, 31] [.c (grV i f), .c (.lst 1 [])] H1 J := by
        intro H1 J i hJ
        cases f with
        | nil => refine app_lst ?_; simp (disch := first | omega | (simp only [go_sem]; first | done | omega)) only [go_sem]; exact hJ
        | cons x xs => rw [grV_pos _ (by simp)] at hJ ⊢; refine app_lst ?_; simp (disch := first | omega | (simp only [go_sem]; first | done | omega)) only [go_sem]; exact hJ
      refine happ ?_
      simp (disch := first | omega | (simp only [go_sem]; first | done | omega)) only [go_sem]
      refine ACalls.litGr3 (by first | exact at0 (by simp) | exact at1 (by simp) | exact at2 (by simp) | exact at3 (by simp) | exact at4 (by simp) | exact at5 (by simp) | exact atG 6 (by simp) rfl | exact atG 7 (by simp) rfl | exact atG 8 (by simp) rfl | exact atG 9 (by simp) rfl | exact atG 10 (by simp) rfl | assumption) (by simp) (pureL_U _) rfl ?_
      simp (disch := first | omega | (simp only [go_sem]; first | done | omega)) only [go_sem]
      refine bent_a H.length zs j3 f (st _ _ (by omega) (by omega)) (by omega) (by omega) (fun raw j4 g4 g5 g6 => ?_)
      simp (disch := first | omega | (simp only [go_sem]; first | done | omega)) only [go_sem]
      refine Next.mk (raw, j4) ⟨by dsimp only; omega, by dsimp only; omega, by dsimp only; omega⟩ ?_
      (try simp (disch := first | omega | (simp only [go_sem]; first | done | omega)) only [go_sem])
      exact WkL.keep 1 hH rfl (by simp) (by simp) rfl (by intro o ho; simp only [List.mem_singleton] at ho; subst ho; exact okN_pure (by simp [pureL, AC.pure]) (by simp) _) (by simp [AV.ok, AV.ok1, AC.ok])
    · refine appU f B (by first | exact at0 (by simp) | exact at1 (by simp) | exact at2 (by simp) | exact at3 (by simp) | exact at4 (by simp) | exact at5 (by simp) | exact atG 6 (by simp) rfl | exact atG 7 (by simp) rfl | exact atG 8 (by simp) rfl | exact atG 9 (by simp) rfl | exact atG 10 (by simp) rfl | assumption) hB (by omega) ?_
      simp (disch := first | omega | (simp only [go_sem]; first | done | omega)) only [go_sem]
      refine ACalls.litGr3 (by first | exact at0 (by simp) | exact at1 (by simp) | exact at2 (by simp) | exact at3 (by simp) | exact at4 (by simp) | exact at5 (by simp) | exact atG 6 (by simp) rfl | exact atG 7 (by simp) rfl | exact atG 8 (by simp) rfl | exact atG 9 (by simp) rfl | exact atG 10 (by simp) rfl | assumption) (by simp) (pureL_U _) rfl ?_
      simp (disch := first | omega | (simp only [go_sem]; first | done | omega)) only [go_sem]
      refine bent_a H.length zs j3 (f ++ B) (st _ _ (by omega) (by omega)) (by omega) (by simp; omega) (fun raw j4 g4 g5 g6 => ?_)
      rw [List.length_append] at g6
      simp (disch := first | omega | (simp only [go_sem]; first | done | omega)) only [go_sem]
      refine Next.mk (raw, j4) ⟨by dsimp only; omega, by dsimp only; omega, by dsimp only; omega⟩ ?_
      (try simp (disch := first | omega | (simp only [go_sem]; first | done | omega)) only [go_sem])
      exact WkL.keep 1 hH rfl (by simp) (by simp) rfl (by intro o ho; simp only [List.mem_singleton] at ho; subst ho; exact okN_pure (by simp [pureL, AC.pure]) (by simp) _) (by simp [AV.ok, AV.ok1, AC.ok])
  obtain ⟨raw0, j3⟩ := s
  obtain ⟨i4, i5, i6⟩ := hs
  dsimp only at i4 i5 i6 ⊢
  refine SWp.cut (H.length) [] [3, 11] (fun (s : List UInt8 × Int) => s.1.length ≤ 1000000 ∧ 0 ≤ s.2 ∧ s.2 ≤ 200000) (fun (s : List UInt8 × Int) => [(3, .c (.ptr (some (H.length, 0, 0)))), (11, .c (.lst 1 (s.1.map encU)))]) (fun (s : List UInt8 × Int) => H ++ [strO zs s.2]) (fun _ => rfl) (by kernel_rfl) (by simp) (by first | (simp; done) | (simp; omega)) (by (try simp only [List.forall_mem_cons, List.not_mem_nil, false_implies, implies_true, and_true]); (try simp (disch := first | omega | (simp only [go_sem]; first | done | omega)) only [go_sem]); all_goals first | trivial | (simp [AV.ok, AV.ok1, AC.ok]; done) | (simp [AV.ok, AV.ok1, AC.ok]; omega) | (simp [AV.ok, AV.ok1, AC.ok]; assumption) | ((repeat' apply And.intro) <;> first | trivial | (simp [AV.ok, AV.ok1, AC.ok]; done) | (simp [AV.ok, AV.ok1, AC.ok]; omega) | (simp [AV.ok, AV.ok1, AC.ok]; assumption) | (refine grV_ok ?_ _; first | (simp; done) | (simp; omega) | omega))) ?_ (fun s hs _ _ => ?_)
  · refine SWp.of (by kernel_rfl) ?_
    simp (disch := first | omega | (simp only [go_sem]; first | done | omega)) only [go_sem]
    refine flip_a H.length zs j3 3 (st _ _ (by omega) (by omega)) (by omega) (by omega) (fun b => ?_)
    simp (disch := first | omega | (simp only [go_sem]; first | done | omega)) only [go_sem]
    refine acond_b (fun c => ?_) (fun c => ?_)
    · simp (disch := first | omega | (simp only [go_sem]; first | done | omega)) only [go_sem]
      refine broken_a H.length zs (j3 + 1) (st _ _ (by omega) (by omega)) (by omega) (fun raw g1 => ?_)
      simp (disch := first | omega | (simp only [go_sem]; first | done | omega)) only [go_sem]
      refine Next.mk (raw, j3 + 1 + 1 + 1) ⟨by dsimp only; omega, by dsimp only; omega, by dsimp only; omega⟩ ?_
      (try simp (disch := first | omega | (simp only [go_sem]; first | done | omega)) only [go_sem])
      exact WkL.keep 1 hH rfl (by simp) (by simp) rfl (by intro o ho; simp only [List.mem_singleton] at ho; subst ho; exact okN_pure (by simp [pureL, AC.pure]) (by simp) _) (by simp [AV.ok, AV.ok1, AC.ok])
    · simp (disch := first | omega | (simp only [go_sem]; first | done | omega)) only [go_sem]
      refine Next.mk (raw0, j3 + 1) ⟨i4, by dsimp only; omega, by dsimp only; omega⟩ ?_
      (try simp (disch := first | omega | (simp only [go_sem]; first | done | omega)) only [go_sem])
      exact WkL.keep 1 hH rfl (by simp) (by simp) rfl (by intro o ho; simp only [List.mem_singleton] at ho; subst ho; exact okN_pure (by simp [pureL, AC.pure]) (by simp) _) (by simp [AV.ok, AV.ok1, AC.ok])
  obtain ⟨raw, j4⟩ := s
  obtain ⟨i7, i8, i9⟩ := hs
  dsimp only at i7 i8 i9 ⊢
  refine SWp.of (by kernel_rfl) ?_
  simp (disch := first | omega | (simp only [go_sem]; first | done | omega)) only [go_sem]
  refine range_a H.length zs j4 0 raw.length (st _ _ (by omega) (by omega)) (by omega) (by omega) (by omega) (fun r hr0 hr1 => ?_)
  simp (disch := first | omega | (simp only [go_sem]; first | done | omega)) only [go_sem]
  refine pick_lit H.length zs (j4 + 1) [0, 0, raw.length, raw.length + 1, -1, r] (by first | exact at0 (by simp) | exact at1 (by simp) | exact at2 (by simp) | exact at3 (by simp) | exact at4 (by simp) | exact at5 (by simp) | exact atG 6 (by simp) rfl | exact atG 7 (by simp) rfl | exact atG 8 (by simp) rfl | exact atG 9 (by simp) rfl | exact atG 10 (by simp) rfl | assumption) rfl rfl (st _ _ (by omega) (by omega)) (by omega) (by simp) (by simp) (fun at_ hat => ?_)
  clear hat
  simp (disch := first | omega | (simp only [go_sem]; first | done | omega)) only [go_sem]
  refine decodeT_a raw at_ (by omega) ?_
  have key := decTop_ss raw at_
  simp (disch := first | omega | (simp only [go_sem]; first | done | omega)) only [go_sem]
  generalize hD : decTop raw at_ = D at *
  obtain ⟨bk, ss, e2⟩ := D
  dsimp only at key ⊢
  unfold encBk
  simp (disch := first | omega | (simp only [go_sem]; first | done | omega)) only [go_sem]
  refine decodeOf_a raw at_ (by omega) ?_
  rw [hD]
  dsimp only
  unfold encBk
  simp (disch := first | omega | (simp only [go_sem]; first | done | omega)) only [go_sem]
  refine equalS_a ss ss (by omega) (by omega) ?_
  rw [decide_eq_true rfl]
  simp (disch := first | omega | (simp only [go_sem]; first | done | omega)) only [go_sem]
  refine archived_a ?_
  simp (disch := first | omega | (simp only [go_sem]; first | done | omega)) only [go_sem]
  exact Ret.drop hH (Nat.le_refl _) trivial hk
end Go.Proofs.Ytmmjphncnnmdaaa
