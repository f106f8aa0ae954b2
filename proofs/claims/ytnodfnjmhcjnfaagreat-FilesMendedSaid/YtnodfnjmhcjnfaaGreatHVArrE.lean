/- Several texts in one: The nodes of arrivals, sorted, each once: the document's answer, and what follows. No condition. -/
import Derived.Test.YtnodfnjmhcjnfaaGreatHVArch
import Derived.Test.YtnodfnjmhcjnfaaGreatHVCpt
import Derived.Test.YtnodfnjmhcjnfaaGreatHVGA
/- The nodes of arrivals, sorted, each once: the document's answer. No condition. -/
namespace Go.Proofs.YtnodfnjmhcjnfaaGreat
open Go Go.RowKit
set_option maxRecDepth 100000
set_option linter.all false
set_option maxHeartbeats 1000000
variable {H : Hp} {K : AV → Hp → Prop}
theorem insNilS_a (hk : K (.tup []) H) : ACalls Tryz.prog 93 [.c (.sl none 0), (.c (.int .i64 0)), (.c (.int .i64 0))] H K := by
  refine acalls Tryz.func93 rfl (by kernel_rfl) (by simp (disch := first | omega | (simp only [go_sem]; first | done | omega)) only [go_sem]) (fun hH => ?_)
  simp (disch := first | omega | (simp only [go_sem]; first | done | omega)) only [go_sem]
  refine AWp.loop (H.length) [0, 1, 2] [6] (fun (q : Unit) => True) (fun (q : Unit) => [(6, (.c (.int .i64 1)))]) (fun (q : Unit) => H) (fun (q : Unit) => 0) (by kernel_rfl) (fun _ => rfl) (by kernel_rfl) (by first | (simp; done) | omega) (by first | (simp; done) | (simp; omega) | omega) kl ?_ (fun q hq _ _ => ?_)
  · exact Next.mk () trivial wk
  simp (disch := first | omega | (simp only [go_sem]; first | done | omega)) only [go_sem]
  exact Ret.same (Nat.le_refl _) hk
theorem pdqNilS_a {l : Nat} (hk : K (.tup []) H) : ACalls Tryz.prog 82 [.c (.sl none 0), (.c (.int .i64 0)), (.c (.int .i64 0)), (.c (.int .i64 l))] H K := by
  refine acallsS Tryz.func82 rfl (by simp (disch := first | omega | (simp only [go_sem]; first | done | omega)) only [go_sem]) (fun hH => ?_)
  (refine SWp.go (by kernel_rfl) ?_; simp (disch := first | omega | (simp only [go_sem]; first | done | omega)) only [go_sem])
  (refine SWp.go (by kernel_rfl) ?_; simp (disch := first | omega | (simp only [go_sem]; first | done | omega)) only [go_sem])
  refine SWp.inB ?_
  refine SWp.loop (H.length) [0] [1, 2, 3, 8, 9] (fun (s : Unit) => True) (fun (s : Unit) => [(1, (.c (.int .i64 0))), (2, (.c (.int .i64 0))), (3, (.c (.int .i64 l))), (8, (.c (.bool true))), (9, (.c (.bool true)))]) (fun (s : Unit) => H) (fun (s : Unit) => 0) (fun _ => rfl) (by kernel_rfl) (by first | (simp; done) | omega) (by first | (simp; done) | (simp; omega) | omega) kl ?_ (fun s _ _ _ => ?_)
  · exact Next.mk () trivial wk
  refine SWp.inB ?_
  refine SWp.of (by kernel_rfl) ?_
  simp (disch := first | omega | (simp only [go_sem]; first | done | omega)) only [go_sem]
  refine insNilS_a ?_
  simp (disch := first | omega | (simp only [go_sem]; first | done | omega)) only [go_sem]
  exact Ret.same (by simp) hk
theorem sortNilS_a (hk : K (.tup []) H) : ACalls Tryz.prog 55 [.c (.sl none 0)] H K := by
  refine acalls Tryz.func55 rfl (by kernel_rfl) (by simp (disch := first | omega | (simp only [go_sem]; first | done | omega)) only [go_sem]) (fun hH => ?_)
  simp (disch := first | omega | (simp only [go_sem]; first | done | omega)) only [go_sem]
  have hw : IntKind.u64.wrap (0 : Int) = (0 : Int) := by decide
  try rw [hw]
  refine len0_a ?_
  simp (disch := first | omega | (simp only [go_sem]; first | done | omega)) only [go_sem]
  refine pdqNilS_a (l := 0) ?_
  simp (disch := first | omega | (simp only [go_sem]; first | done | omega)) only [go_sem]
  exact Ret.same (Nat.le_refl _) hk
theorem sortVS_a (l : List ByteArray) {i : Nat} (hi : H[i]? = some (grO 9 1 (l.map encSs))) (hlen : l.length ≤ 1000000) (hk : K (.tup []) (H.set i (grO 9 1 ((srtS l).map encSs)))) : ACalls Tryz.prog 55 [.c (grV i l)] H K := by
  by_cases h0 : l = []
  · subst h0
    have e : srtS [] = [] := List.length_eq_zero_iff.1 (by rw [srtS_len]; rfl)
    rw [e, List.map_nil] at hk
    rw [List.map_nil] at hi
    rw [set_same hi] at hk
    exact sortNilS_a hk
  · have h1 : srtS l ≠ [] := by intro h; have := srtS_len l; rw [h] at this; exact h0 (List.length_eq_zero_iff.1 this.symm)
    rw [grO_pos _ _ (by simpa using h0)] at hi
    rw [grO_pos _ _ (by simpa using h1)] at hk
    rw [grV_pos _ h0]
    exact sortS_a l hi rfl h0 hlen hk
theorem compactNilS_a (hk : K (.c (.lst 1 [])) H) : ACalls Tryz.prog 56 [.c (.sl none 0)] H K := by
  refine acalls Tryz.func56 rfl (by kernel_rfl) (by simp (disch := first | omega | (simp only [go_sem]; first | done | omega)) only [go_sem]) (fun hH => ?_)
  simp (disch := first | omega | (simp only [go_sem]; first | done | omega)) only [go_sem]
  refine Ret.nil [1] (Nat.le_refl _) ?_
  exact Ret.same (Nat.le_refl _) hk
theorem compactVS_a (l : List ByteArray) {i : Nat} (hi : H[i]? = some (grO 9 1 (l.map encSs))) (hlen : l.length ≤ 1000000)
    (hk : K (.c (.lst 1 ((cplF l).map encSs))) (H.set i .dead)) : ACalls Tryz.prog 56 [.c (grV i l)] H K := by
  by_cases h : l = []
  · subst h
    have hi2 : H[i]? = some AObj.dead := hi
    rw [set_same hi2] at hk
    exact compactNilS_a hk
  · have h2 : l.map encSs ≠ [] := by simpa using h
    rw [grO_pos _ _ h2] at hi
    rw [grV_pos _ h]
    exact compactSt_a l hi rfl hlen hk
theorem appS {i q ty : Nat} {own : Bool} {J : AV → Hp → Prop} (l : List ByteArray) (x : ByteArray) (l2 : List ByteArray) (e : l2 = l ++ [x]) (hi : H[i]? = some (grO 9 1 (l.map encSs))) (hj : H[q]? = some (.row ty 1 [[.str x]] own)) (hb : l.length ≤ 1000000000)
    (h : J (.c (grV H.length l2)) (H.set i .dead ++ [grO 9 1 (l2.map encSs)])) : aBuiltin Tryz.prog .append #[50, 50] [.c (grV i l), .c (.sl (some (q, 0)) 1)] H J := by
  subst e
  exact app_grR (enc := encSs) (e := 9) (sz := 1) (bs := 16) (z := [.str .empty]) l [x] (by kernel_rfl) (by kernel_rfl) (by kernel_rfl) (by kernel_rfl) hi (by rw [hj]; rfl) (by simp) rfl (by decide) (by simp; omega) (by simp; omega) h
end Go.Proofs.YtnodfnjmhcjnfaaGreat
/- The nodes of arrivals: as many whichever way they are counted. No program in sight. -/
namespace Go.Proofs.YtnodfnjmhcjnfaaGreat
open Go Go.RowKit
set_option maxRecDepth 100000
set_option linter.all false
set_option maxHeartbeats 1000000
theorem cplG_mem {α : Type} [DecidableEq α] {x : α} : ∀ {t : List α} {p : α}, x ∈ p :: cplG p t ↔ x ∈ p :: t
  | [], p => by simp [cplG]
  | y :: t, p => by
    have ih := cplG_mem (x := x) (t := t) (p := y)
    unfold cplG
    by_cases h : y = p
    · subst h
      simp only [if_true, List.nil_append]
      rw [ih]
      simp
    · rw [if_neg h, List.singleton_append, List.mem_cons, ih, List.mem_cons (a := x) (b := p)]
theorem cplF_mem {α : Type} [DecidableEq α] {x : α} {l : List α} : x ∈ cplF l ↔ x ∈ l := by
  cases l with
  | nil => exact Iff.rfl
  | cons p t => exact cplG_mem
theorem srtS_mem {l : List ByteArray} {x : ByteArray} : x ∈ srtS l ↔ x ∈ l := by
  have h : toL x ∈ (srtS l).map toL ↔ toL x ∈ l.map toL := by rw [srtS_toL]; exact (List.mergeSort_perm _ _).mem_iff
  have hi : ∀ a b : ByteArray, toL a = toL b → a = b := fun a b h => by rw [← ofL_toL a, h, ofL_toL]
  have e : ∀ m : List ByteArray, toL x ∈ m.map toL ↔ x ∈ m := fun m => ⟨fun h => by obtain ⟨y, hy, e⟩ := List.mem_map.1 h; rw [← hi _ _ e]; exact hy, fun h => List.mem_map.2 ⟨x, h, rfl⟩⟩
  rw [e, e] at h
  exact h
end Go.Proofs.YtnodfnjmhcjnfaaGreat
/- CompleteOf: the document's answer. Condition: at most a million; numbers from 1 to a million. -/
namespace Go.Proofs.YtnodfnjmhcjnfaaGreat
open Go Go.RowKit
set_option maxRecDepth 100000
set_option linter.all false
set_option maxHeartbeats 1000000
variable {H : Hp} {K : AV → Hp → Prop}
theorem cplG_le {α : Type} [DecidableEq α] : ∀ (t : List α) (p : α), (cplG p t).length ≤ t.length
  | [], _ => by simp [cplG]
  | y :: t, p => by
    have ih := cplG_le t y
    unfold cplG
    split <;> simp <;> omega
theorem cplF_le {α : Type} [DecidableEq α] (l : List α) : (cplF l).length ≤ l.length := by
  cases l with
  | nil => exact Nat.le_refl _
  | cons x t => have := cplG_le t x; unfold cplF; simp; omega
end Go.Proofs.YtnodfnjmhcjnfaaGreat
/- Arrivals sorted, joined and compacted: the program's Merge. Condition: names' sizes; at most 20 arrivals. -/
namespace Go.Proofs.YtnodfnjmhcjnfaaGreat
open Go Go.RowKit
set_option maxRecDepth 100000
set_option linter.all false
set_option maxHeartbeats 1000000
variable {H : Hp} {K : AV → Hp → Prop}
instance arrDec : DecidableEq Arr := fun a b =>
  if h : a.nd = b.nd ∧ a.t = b.t ∧ a.p = b.p then isTrue (by cases a; cases b; simp_all) else isFalse (by rintro rfl; simp at h)
end Go.Proofs.YtnodfnjmhcjnfaaGreat
