/- Strings sorted, each once. No condition. -/
import Derived.Test.YtlnfiflbpmicgaaGreatDoorHVCpt
namespace Go.Proofs.YtlnfiflbpmicgaaGreatDoor
open Go Go.RowKit
set_option maxRecDepth 100000
set_option linter.all false
set_option maxHeartbeats 1000000
variable {H : Hp} {K : AV → Hp → Prop}
theorem aIf_valZ {c : Prop} {v v' : AV} {J : AV → Hp → Prop} (hc : c) (hv : v = v') (h : J v' H) : aIf c v H J := hv ▸ ⟨hc, h⟩
theorem len64z_a (hk : K (.c (.int .i64 0)) H) : ACalls Tryz.prog 225 [.c (.int .u64 0)] H K := by
  refine acalls Tryz.func225 rfl (by kernel_rfl) (by simp (disch := first | omega | (simp only [go_sem]; first | done | omega)) only [go_sem]) (fun hH => ?_)
  simp (disch := first | omega | (simp only [go_sem]; first | done | omega)) only [go_sem]
  refine aIf_valZ (v' := .c (.int .u8 0)) (by decide +kernel) (congrArg (fun z => AV.c (.int .u8 z)) (by decide +kernel : _ = (0 : Int))) ?_
  simp (disch := first | omega | (simp only [go_sem]; first | done | omega)) only [go_sem]
  exact Ret.same (Nat.le_refl _) hk
theorem len0z_a (hk : K (.c (.int .i64 0)) H) : ACalls Tryz.prog 157 [.c (.int .u64 0)] H K := by
  refine acalls Tryz.func157 rfl (by kernel_rfl) (by simp (disch := first | omega | (simp only [go_sem]; first | done | omega)) only [go_sem]) (fun hH => ?_)
  simp (disch := first | omega | (simp only [go_sem]; first | done | omega)) only [go_sem]
  refine len64z_a ?_
  simp (disch := first | omega | (simp only [go_sem]; first | done | omega)) only [go_sem]
  exact Ret.same (Nat.le_refl _) hk
theorem insNilSs_a (hk : K (.tup []) H) : ACalls Tryz.prog 254 [.c (.sl none 0), (.c (.int .i64 0)), (.c (.int .i64 0))] H K := by
  refine acalls Tryz.func254 rfl (by kernel_rfl) (by simp (disch := first | omega | (simp only [go_sem]; first | done | omega)) only [go_sem]) (fun hH => ?_)
  simp (disch := first | omega | (simp only [go_sem]; first | done | omega)) only [go_sem]
  refine AWp.loop (H.length) [0, 1, 2] [6] (fun (q : Unit) => True) (fun (q : Unit) => [(6, (.c (.int .i64 1)))]) (fun (q : Unit) => H) (fun (q : Unit) => 0) (by kernel_rfl) (fun _ => rfl) (by kernel_rfl) (by first | (simp; done) | omega) (by first | (simp; done) | (simp; omega) | omega) kl ?_ (fun q hq _ _ => ?_)
  · exact Next.mk () trivial wk
  simp (disch := first | omega | (simp only [go_sem]; first | done | omega)) only [go_sem]
  exact Ret.same (Nat.le_refl _) hk
theorem pdqNilSs_a {l : Nat} (hk : K (.tup []) H) : ACalls Tryz.prog 213 [.c (.sl none 0), (.c (.int .i64 0)), (.c (.int .i64 0)), (.c (.int .i64 l))] H K := by
  refine acallsS Tryz.func213 rfl (by simp (disch := first | omega | (simp only [go_sem]; first | done | omega)) only [go_sem]) (fun hH => ?_)
  (refine SWp.go (by kernel_rfl) ?_; simp (disch := first | omega | (simp only [go_sem]; first | done | omega)) only [go_sem])
  (refine SWp.go (by kernel_rfl) ?_; simp (disch := first | omega | (simp only [go_sem]; first | done | omega)) only [go_sem])
  refine SWp.inB ?_
  refine SWp.loop (H.length) [0] [1, 2, 3, 8, 9] (fun (s : Unit) => True) (fun (s : Unit) => [(1, (.c (.int .i64 0))), (2, (.c (.int .i64 0))), (3, (.c (.int .i64 l))), (8, (.c (.bool true))), (9, (.c (.bool true)))]) (fun (s : Unit) => H) (fun (s : Unit) => 0) (fun _ => rfl) (by kernel_rfl) (by first | (simp; done) | omega) (by first | (simp; done) | (simp; omega) | omega) kl ?_ (fun s _ _ _ => ?_)
  · exact Next.mk () trivial wk
  refine SWp.inB ?_
  refine SWp.of (by kernel_rfl) ?_
  simp (disch := first | omega | (simp only [go_sem]; first | done | omega)) only [go_sem]
  refine insNilSs_a ?_
  simp (disch := first | omega | (simp only [go_sem]; first | done | omega)) only [go_sem]
  exact Ret.same (by simp) hk
theorem sortNilSs_a (hk : K (.tup []) H) : ACalls Tryz.prog 150 [.c (.sl none 0)] H K := by
  refine acalls Tryz.func150 rfl (by kernel_rfl) (by simp (disch := first | omega | (simp only [go_sem]; first | done | omega)) only [go_sem]) (fun hH => ?_)
  simp (disch := first | omega | (simp only [go_sem]; first | done | omega)) only [go_sem]
  have hw : IntKind.u64.wrap (0 : Int) = (0 : Int) := by decide
  try rw [hw]
  refine len0z_a ?_
  simp (disch := first | omega | (simp only [go_sem]; first | done | omega)) only [go_sem]
  refine pdqNilSs_a (l := 0) ?_
  simp (disch := first | omega | (simp only [go_sem]; first | done | omega)) only [go_sem]
  exact Ret.same (Nat.le_refl _) hk
theorem sortVSs_a (l : List ByteArray) {i : Nat} (hi : H[i]? = some (grO 9 1 (l.map encSs))) (hlen : l.length ≤ 1000000) (hk : K (.tup []) (H.set i (grO 9 1 ((srtS l).map encSs)))) : ACalls Tryz.prog 150 [.c (grV i l)] H K := by
  by_cases h0 : l = []
  · subst h0
    have e : srtS [] = [] := List.length_eq_zero_iff.1 (by rw [srtS_len]; rfl)
    rw [e, List.map_nil] at hk
    rw [List.map_nil] at hi
    rw [set_same hi] at hk
    exact sortNilSs_a hk
  · have h1 : srtS l ≠ [] := by intro h; have := srtS_len l; rw [h] at this; exact h0 (List.length_eq_zero_iff.1 this.symm)
    rw [grO_pos _ _ (by simpa using h0)] at hi
    rw [grO_pos _ _ (by simpa using h1)] at hk
    rw [grV_pos _ h0]
    exact sortS_a l hi rfl h0 hlen hk
theorem compactNilSs_a (hk : K (.c (.lst 1 [])) H) : ACalls Tryz.prog 151 [.c (.sl none 0)] H K := by
  refine acalls Tryz.func151 rfl (by kernel_rfl) (by simp (disch := first | omega | (simp only [go_sem]; first | done | omega)) only [go_sem]) (fun hH => ?_)
  simp (disch := first | omega | (simp only [go_sem]; first | done | omega)) only [go_sem]
  refine Ret.nil [1] (Nat.le_refl _) ?_
  exact Ret.same (Nat.le_refl _) hk
theorem compactVSs_a (l : List ByteArray) {i : Nat} (hi : H[i]? = some (grO 9 1 (l.map encSs))) (hlen : l.length ≤ 1000000)
    (hk : K (.c (.lst 1 ((cplF l).map encSs))) (H.set i .dead)) : ACalls Tryz.prog 151 [.c (grV i l)] H K := by
  by_cases h : l = []
  · subst h
    have hi2 : H[i]? = some AObj.dead := hi
    rw [set_same hi2] at hk
    exact compactNilSs_a hk
  · have h2 : l.map encSs ≠ [] := by simpa using h
    rw [grO_pos _ _ h2] at hi
    rw [grV_pos _ h]
    exact compactSt_a l hi rfl hlen hk
theorem appSs {i q ty : Nat} {own : Bool} {J : AV → Hp → Prop} (l : List ByteArray) (x : ByteArray) (l2 : List ByteArray) (e : l2 = l ++ [x]) (hi : H[i]? = some (grO 9 1 (l.map encSs))) (hj : H[q]? = some (.row ty 1 [[.str x]] own)) (hb : l.length ≤ 1000000000)
    (h : J (.c (grV H.length l2)) (H.set i .dead ++ [grO 9 1 (l2.map encSs)])) : aBuiltin Tryz.prog .append #[57, 57] [.c (grV i l), .c (.sl (some (q, 0)) 1)] H J := by
  subst e
  exact app_grR (enc := encSs) (e := 9) (sz := 1) (bs := 16) (z := [.str .empty]) l [x] (by kernel_rfl) (by kernel_rfl) (by kernel_rfl) (by kernel_rfl) hi (by rw [hj]; rfl) (by simp) rfl (by decide) (by simp; omega) (by simp; omega) h
end Go.Proofs.YtlnfiflbpmicgaaGreatDoor
