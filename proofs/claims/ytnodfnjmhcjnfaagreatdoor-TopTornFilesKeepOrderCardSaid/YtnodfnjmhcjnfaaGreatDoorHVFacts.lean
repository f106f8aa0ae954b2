/- Several texts in one: The packages do something, as the statements through the layers ask: the call is run, and what follows. No condition. -/
import Derived.Test.YtnodfnjmhcjnfaaGreatDoorHCoreD
import Derived.Test.YtnodfnjmhcjnfaaGreatDoorHVStr
import Derived.Test.YtnodfnjmhcjnfaaGreatDoorHVMoment
import Derived.Test.YtnodfnjmhcjnfaaGreatDoorHVDecTop
import Derived.Test.YtnodfnjmhcjnfaaGreatDoorHVBack
import Derived.Test.YtnodfnjmhcjnfaaGreatDoorHVGA
import Derived.Test.YtnodfnjmhcjnfaaGreatDoorHVBlkM
/- The packages do something, as the statements through the layers ask: the call is run. No condition. -/
namespace Go.Proofs.YtnodfnjmhcjnfaaGreatDoor
open Go Go.RowKit
set_option maxRecDepth 100000
set_option linter.all false
variable {H : Hp} {K : AV → Hp → Prop}
def extB : FuncId → List AV → Hp → Res := fun f args H => match Nat.beq f 356, args with
  | true, [.c (.str s), .c (.int .u8 c)] => some ((.c (.int .i64 (Lib.indexByte s.data.toList c.toNat.toUInt8))), H)
  | _, _ => none
theorem extB_ok : ExtOk Tryz.prog extB := by
  intro f args H v H' K h hk
  unfold extB at h
  split at h
  · rename_i s c hf
    have := Nat.eq_of_beq_eq_true hf
    subst this
    injection h with h; injection h with e1 e2; subst e1; subst e2
    exact indexByteX _ ext_indexByte s c hk
  · cases h
theorem facts_a (hk : K (.c (.bool true)) H) : ACalls Tryz.prog 44 [] H K := by
  refine ACalls.run0S specM extB specM_ok extB_ok 100 (.c (.bool true)) ?_ (by decide) (by decide) hk
  kernel_rfl
end Go.Proofs.YtnodfnjmhcjnfaaGreatDoor
/- ManySamples: a right series of about as many samples as a block has, or two. No condition. -/
namespace Go.Proofs.YtnodfnjmhcjnfaaGreatDoor
open Go Go.RowKit
set_option maxRecDepth 100000
set_option linter.all false
set_option maxHeartbeats 2000000
variable {H : Hp} {K : AV → Hp → Prop}
theorem manyR_a (s : Nat) (zs : List Int) (j : Int) (hs : Str H s zs j) (hj : j ≤ 1000000000)
    (hk : ∀ (l : List Smp) (j' : Int), j ≤ j' → j' ≤ j + 500 → 99 ≤ l.length → l.length ≤ 205 → serF l = 0 → K (.c (.lst 3 (l.map encS))) (H.set s (strO zs j'))) :
    ACalls Tryz.prog 37 [.c (.ptr (some (s, 0, 0)))] H K := by
  have hlt := hs.lt
  have hpos := hs.pos
  have hne : H.length ≠ s := by omega
  refine acalls Tryz.func37 rfl (by kernel_rfl) (by simp (disch := first | omega | (simp only [go_sem]; first | done | omega)) only [go_sem]) (fun hH => ?_)
  simp (disch := first | omega | (simp only [go_sem]; first | done | omega)) only [go_sem]
  refine range_a s zs j 0 50 (by first | exact hs | exact hs.app _ | exact hs.set (by omega) (by omega) | exact (hs.set (by omega) (by omega)).app _) (by omega) (by omega) (by omega) (fun a0 ha0 ha1 => ?_)
  simp (disch := first | omega | (simp only [go_sem]; first | done | omega)) only [go_sem]
  refine pick_lit s zs (j + 1) [99, 100, 101, 205] (by first | ((repeat first | exact at0 (by simp) | refine atS ?_); done) | assumption) rfl rfl (by first | exact hs | exact hs.app _ | exact hs.set (by omega) (by omega) | exact (hs.set (by omega) (by omega)).app _) (by omega) (by simp) (by simp) (fun r hr => ?_)
  simp only [List.mem_cons, List.not_mem_nil, or_false] at hr
  simp (disch := first | omega | (simp only [go_sem]; first | done | omega)) only [go_sem]
  refine AWp.loop (H.length) [0, 9] [10, 3, 4] (fun (q : Nat × List Smp × Int × Int) => (q.1 : Int) ≤ r ∧ q.2.1.length = q.1 ∧ 0 ≤ q.2.2.1 ∧ q.2.2.1 ≤ 50 + 100 * q.1 ∧ (j + 2 ≤ q.2.2.2 ∧ q.2.2.2 ≤ j + 2 + 2 * q.1) ∧ risS q.2.1 ∧ ∀ x ∈ q.2.1, 0 ≤ x.t ∧ x.t < q.2.2.1 ∧ 1 ≤ x.v ∧ x.v ≤ 500 ∧ x.q = 0) (fun (q : Nat × List Smp × Int × Int) => [(10, (.c (.int .i64 (q.1)))), (3, .c (grV H.length q.2.1)), (4, (.c (.int .i64 (q.2.2.1))))]) (fun (q : Nat × List Smp × Int × Int) => H.set s (strO zs q.2.2.2) ++ [grO 38 3 (q.2.1.map encS)]) (fun (q : Nat × List Smp × Int × Int) => r.toNat - q.1) (by kernel_rfl) (fun _ => rfl) (by kernel_rfl) (by first | (simp; done) | omega) (by first | (simp; done) | (simp; omega) | omega) kl ?_ (fun q hq _ _ => ?_)
  · refine Next.mk (0, [], a0, j + 1 + 1) ⟨by dsimp only; omega, rfl, by dsimp only; omega, by dsimp only; omega, ⟨by dsimp only; omega, by dsimp only; omega⟩, List.Pairwise.nil, fun x hx => by cases hx⟩ ?_
    simp (disch := first | omega | (simp only [go_sem]; first | done | omega)) only [go_sem]
    exact WkL.refl (by simp)
  obtain ⟨k, l, t, j2⟩ := q
  obtain ⟨q1, q2, q5, q6, ⟨q7, q8⟩, q9, q10⟩ := hq
  dsimp only at q1 q2 q5 q6 q7 q8 q9 q10
  by_cases hkr : (k : Int) < r
  · simp (disch := first | omega | (simp only [go_sem]; first | done | omega)) only [go_sem]
    refine pick_lit s zs j2 [1, 2, 500] (by first | ((repeat first | exact at0 (by simp) | refine atS ?_); done) | assumption) rfl rfl (by first | exact hs | exact hs.app _ | exact hs.set (by omega) (by omega) | exact (hs.set (by omega) (by omega)).app _) (by omega) (by simp) (by simp) (fun v hv => ?_)
    simp only [List.mem_cons, List.not_mem_nil, or_false] at hv
    simp (disch := first | omega | (simp only [go_sem]; first | done | omega)) only [go_sem]
    (refine app_gr (enc := encS) (e := 38) (sz := 3) (bs := 24) (z := [.int .i64 0, .int .i64 0, .int .i64 0]) (l) (⟨t, v, 0⟩) (by kernel_rfl) (by kernel_rfl) (by kernel_rfl) (by kernel_rfl) (by first | ((repeat first | exact at0 (by simp) | refine atS ?_); done) | assumption) (by first | (simp (disch := first | omega | (simp only [go_sem]; first | done | omega)) only [go_sem]; done) | (simp (disch := first | omega | (simp only [go_sem]; first | done | omega)) only [go_sem]; rfl) | (simp (disch := first | omega | (simp only [go_sem]; first | done | omega)) only [go_sem]; simp [go_sem]; done) | (simp (disch := first | omega | (simp only [go_sem]; first | done | omega)) only [go_sem]; simp [*]; done)) rfl (by decide) (by omega) (by omega) (by rfl) ?_)
    simp (disch := first | omega | (simp only [go_sem]; first | done | omega)) only [go_sem]
    refine pick_lit s zs (j2 + 1) [1, 2, 100] (by first | ((repeat first | exact at0 (by simp) | refine atS ?_); done) | assumption) rfl rfl (by first | exact hs | exact hs.app _ | exact hs.set (by omega) (by omega) | exact (hs.set (by omega) (by omega)).app _) (by omega) (by simp) (by simp) (fun d hd => ?_)
    simp only [List.mem_cons, List.not_mem_nil, or_false] at hd
    simp (disch := first | omega | (simp only [go_sem]; first | done | omega)) only [go_sem]
    refine Next.mk (k + 1, l ++ [⟨t, v, 0⟩], t + d, j2 + 1 + 1) ?_ ?_
    · refine ⟨⟨by dsimp only; omega, by simp [q2], by dsimp only; omega, by dsimp only; omega, ⟨by dsimp only; omega, by dsimp only; omega⟩, ?_, ?_⟩, by dsimp only; omega⟩
      · refine List.pairwise_append.2 ⟨q9, List.pairwise_singleton _ _, fun x hx y hy => ?_⟩
        obtain rfl := List.mem_singleton.1 hy
        exact (q10 x hx).2.1
      · intro x hx
        rcases List.mem_append.1 hx with hx | hx
        · have := q10 x hx
          dsimp only
          omega
        · obtain rfl := List.mem_singleton.1 hx
          dsimp only
          omega
    · exact ow
  · have hser : serF l = 0 := by
      refine (serP_iff l).2 ⟨by omega, fun x hx => ?_, q9⟩
      have := q10 x hx
      unfold smpErr
      grind
    simp (disch := first | omega | (simp only [go_sem]; first | done | omega)) only [go_sem]
    exact Ret.frzGr 0 (HOk.str hH) (by simp) rfl (pureL_map _ (fun x => by simp [go_sem, AC.pure])) (by simp [map_grV]) (hk l j2 (by omega) (by omega) (by omega) (by omega) hser)
end Go.Proofs.YtnodfnjmhcjnfaaGreatDoor
