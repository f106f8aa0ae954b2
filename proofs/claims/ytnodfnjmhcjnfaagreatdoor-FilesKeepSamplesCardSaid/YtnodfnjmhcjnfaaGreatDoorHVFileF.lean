/- Several texts in one: A file of blocks that is drawn: a right one, not too great, and what follows. No condition. -/
import Derived.Test.YtnodfnjmhcjnfaaGreatDoorHVFileD
import Derived.Test.YtnodfnjmhcjnfaaGreatDoorHVBlkM
import Derived.Test.YtnodfnjmhcjnfaaGreatDoorHVKeepM
import Derived.Test.YtnodfnjmhcjnfaaGreatDoorHCoreD
import Derived.Test.YtnodfnjmhcjnfaaGreatDoorHVStr
import Derived.Test.YtnodfnjmhcjnfaaGreatDoorHVMoment
/- A file of blocks that is drawn: a right one, not too great. No condition. -/
namespace Go.Proofs.YtnodfnjmhcjnfaaGreatDoor
open Go Go.RowKit
set_option maxRecDepth 100000
set_option linter.all false
set_option maxHeartbeats 2000000
variable {H : Hp} {K : AV → Hp → Prop}
theorem FGood.le {k m : Nat} {f : List UInt8} (h : FGood k f) (hm : k ≤ m) : FGood m f := ⟨h.1, by have := h.2.1; omega, by have := h.2.2; omega⟩
theorem aFile_g (s : Nat) (zs : List Int) (j : Int) (hs : Str H s zs j) (hj : j ≤ 900000000)
    (hk : ∀ (f : List UInt8) (j' : Int), j ≤ j' → j' ≤ j + 5000 → FGood 4 f → K (.c (grV H.length f)) (H.set s (strO zs j') ++ [grO 5 1 (f.map encU)])) :
    ACalls Tryz.prog 58 [.c (.ptr (some (s, 0, 0)))] H K := by
  have hlt := hs.lt
  have hpos := hs.pos
  have hne : H.length ≠ s := by omega
  refine acalls Tryz.func58 rfl (by kernel_rfl) (by simp (disch := first | omega | (simp only [go_sem]; first | done | omega)) only [go_sem]) (fun hH => ?_)
  simp (disch := first | omega | (simp only [go_sem]; first | done | omega)) only [go_sem]
  refine range_a s zs j 0 4 (by first | exact hs | exact hs.app _ | exact hs.set (by omega) (by omega) | exact (hs.set (by omega) (by omega)).app _) (by omega) (by omega) (by omega) (fun r hr0 hr1 => ?_)
  simp (disch := first | omega | (simp only [go_sem]; first | done | omega)) only [go_sem]
  refine AWp.loop (H.length) [0, 8] [9, 3] (fun (q : Nat × List UInt8 × Int) => (q.1 : Int) ≤ r ∧ (j + 1 ≤ q.2.2 ∧ q.2.2 ≤ j + 1 + 600 * q.1) ∧ FGood q.1 q.2.1) (fun (q : Nat × List UInt8 × Int) => [(9, (.c (.int .i64 (q.1)))), (3, .c (grV H.length q.2.1))]) (fun (q : Nat × List UInt8 × Int) => H.set s (strO zs q.2.2) ++ [grO 5 1 (q.2.1.map encU)]) (fun (q : Nat × List UInt8 × Int) => r.toNat - q.1) (by kernel_rfl) (fun _ => rfl) (by kernel_rfl) (by first | (simp; done) | omega) (by first | (simp; done) | (simp; omega) | omega) kl ?_ (fun q hq _ _ => ?_)
  · refine Next.mk (0, [], j + 1) ⟨by dsimp only; omega, ⟨by dsimp only; omega, by dsimp only; omega⟩, FGood.nil⟩ ?_
    simp (disch := first | omega | (simp only [go_sem]; first | done | omega)) only [go_sem]
    exact WkL.pad (by simp)
  obtain ⟨k, f, j2⟩ := q
  obtain ⟨q1, ⟨q3, q4⟩, q5⟩ := hq
  dsimp only at q1 q3 q4 q5
  have q2 : f.length ≤ 200000 := by have := q5.2.1; omega
  by_cases hkr : (k : Int) < r
  · simp (disch := first | omega | (simp only [go_sem]; first | done | omega)) only [go_sem]
    refine rightSamplesF_a s zs j2 5 (by first | exact hs | exact hs.app _ | exact hs.set (by omega) (by omega) | exact (hs.set (by omega) (by omega)).app _) (by omega) (by omega) (by omega) (fun l j3 g1 g2 g3 => ?_)
    have hll : l.length ≤ 205 := by have := g3.2.1; omega
    simp (disch := first | omega | (simp only [go_sem]; first | done | omega)) only [go_sem]
    refine flip_a s zs j3 15 (by first | exact hs | exact hs.app _ | exact hs.set (by omega) (by omega) | exact (hs.set (by omega) (by omega)).app _) (by omega) (by omega) (fun b => ?_)
    simp (disch := first | omega | (simp only [go_sem]; first | done | omega)) only [go_sem]
    have rest : True := trivial
    refine acond_b (fun c => ?_) (fun c => ?_)
    · simp (disch := first | omega | (simp only [go_sem]; first | done | omega)) only [go_sem]
      refine manySamples_a s zs (j3 + 1) (by first | exact hs | exact hs.app _ | exact hs.set (by omega) (by omega) | exact (hs.set (by omega) (by omega)).app _) (by omega) (fun l2 j4 g4 g5 g6 => ?_)
      simp (disch := first | omega | (simp only [go_sem]; first | done | omega)) only [go_sem]
      refine some_lit s zs j4 [⟨#[116, 97]⟩, ⟨#[116, 97]⟩, ⟨#[116, 98]⟩] (by first | ((repeat first | exact at0 (by simp) | refine atS ?_); done) | assumption) rfl rfl (by first | exact hs | exact hs.app _ | exact hs.set (by omega) (by omega) | exact (hs.set (by omega) (by omega)).app _) (by omega) (by simp) (by simp) (fun tag ht => ?_)
      have ht2 : tag.size ≤ 1000 := by
        simp only [List.mem_cons, List.not_mem_nil, or_false] at ht
        rcases ht with rfl | rfl | rfl <;> decide
      simp (disch := first | omega | (simp only [go_sem]; first | done | omega)) only [go_sem]
      by_cases he : (appRes f tag l2).2 = 0
      · have hpa := q5.app (by omega) he
        refine append_good f tag l2 (by omega) ht2 (by omega) (by first | ((repeat first | exact at0 (by simp) | refine atS ?_); done) | assumption) he ?_
        generalize (appRes f tag l2).1 = f2 at *
        simp (disch := first | omega | (simp only [go_sem]; first | done | omega)) only [go_sem]
        refine Next.mk (k + 1, f2, j4 + 1) ⟨⟨by dsimp only; omega, ⟨by dsimp only; omega, by dsimp only; omega⟩, hpa⟩, by dsimp only; omega⟩ ?_
        exact ow
      · refine append_bad f tag l2 (by omega) ht2 (by omega) (by first | ((repeat first | exact at0 (by simp) | refine atS ?_); done) | assumption) he ?_
        simp (disch := first | omega | (simp only [go_sem]; first | done | omega)) only [go_sem, he]
        refine Next.mk (k + 1, f, j4 + 1) ⟨⟨by dsimp only; omega, ⟨by dsimp only; omega, by dsimp only; omega⟩, q5.up⟩, by dsimp only; omega⟩ ?_
        exact ow
    · simp (disch := first | omega | (simp only [go_sem]; first | done | omega)) only [go_sem]
      refine some_lit s zs (j3 + 1) [⟨#[116, 97]⟩, ⟨#[116, 97]⟩, ⟨#[116, 98]⟩] (by first | ((repeat first | exact at0 (by simp) | refine atS ?_); done) | assumption) rfl rfl (by first | exact hs | exact hs.app _ | exact hs.set (by omega) (by omega) | exact (hs.set (by omega) (by omega)).app _) (by omega) (by simp) (by simp) (fun tag ht => ?_)
      have ht2 : tag.size ≤ 1000 := by
        simp only [List.mem_cons, List.not_mem_nil, or_false] at ht
        rcases ht with rfl | rfl | rfl <;> decide
      simp (disch := first | omega | (simp only [go_sem]; first | done | omega)) only [go_sem]
      by_cases he : (appRes f tag l).2 = 0
      · have hpa := q5.app (by omega) he
        refine append_good f tag l (by omega) ht2 (by omega) (by first | ((repeat first | exact at0 (by simp) | refine atS ?_); done) | assumption) he ?_
        generalize (appRes f tag l).1 = f2 at *
        simp (disch := first | omega | (simp only [go_sem]; first | done | omega)) only [go_sem]
        refine Next.mk (k + 1, f2, (j3 + 1) + 1) ⟨⟨by dsimp only; omega, ⟨by dsimp only; omega, by dsimp only; omega⟩, hpa⟩, by dsimp only; omega⟩ ?_
        exact ow
      · refine append_bad f tag l (by omega) ht2 (by omega) (by first | ((repeat first | exact at0 (by simp) | refine atS ?_); done) | assumption) he ?_
        simp (disch := first | omega | (simp only [go_sem]; first | done | omega)) only [go_sem, he]
        refine Next.mk (k + 1, f, (j3 + 1) + 1) ⟨⟨by dsimp only; omega, ⟨by dsimp only; omega, by dsimp only; omega⟩, q5.up⟩, by dsimp only; omega⟩ ?_
        exact ow
  · simp (disch := first | omega | (simp only [go_sem]; first | done | omega)) only [go_sem]
    exact Ret.same (by simp) (hk f j2 (by omega) (by omega) (q5.le (by omega)))
theorem aFile_gf (s : Nat) (zs : List Int) (j : Int) (hs : Str H s zs j) (hj : j ≤ 900000000)
    (hk : ∀ (f : List UInt8) (j' : Int), j ≤ j' → j' ≤ j + 5000 → FGood 4 f → K (.c (.lst 1 (f.map encU))) (H.set s (strO zs j'))) :
    ACalls Tryz.prog 58 [.c (.ptr (some (s, 0, 0)))] H K := by
  refine ACalls.postR (aFile_g s zs j hs hj (K := fun v G => ∃ (l : List UInt8) (j' : Int), j ≤ j' ∧ j' ≤ j + 5000 ∧ FGood 4 l ∧ v = .c (grV H.length l) ∧ G = H.set s (strO zs j') ++ [grO 5 1 (l.map encU)]) (fun l j' h1 h2 h3 => ⟨l, j', h1, h2, h3, rfl, rfl⟩)) ?_
  rintro hH v G ⟨l, j', h1, h2, h3, rfl, rfl⟩
  exact Ret.frzGr 0 (HOk.str hH) (by simp) rfl (pureL_U _) (by simp [map_grV]) (hk l j' h1 h2 h3)
end Go.Proofs.YtnodfnjmhcjnfaaGreatDoor
/- The packages do something: the call is run. No condition. -/
namespace Go.Proofs.YtnodfnjmhcjnfaaGreatDoor
open Go Go.RowKit
set_option maxRecDepth 100000
set_option linter.all false
variable {H : Hp} {K : AV → Hp → Prop}
def extB : FuncId → List AV → Hp → Res := fun f args H => match Nat.beq f 356, args with
  | true, [.c (.str s), .c (.int .u8 c)] => some ((.c (.int .i64 (Lib.indexByte s.data.toList c.toNat.toUInt8))), H)
  | _, _ => none
theorem extB_ok : ExtOk Tryz.prog extB := by
  intro f args H v H' K h hk
  unfold extB at h
  split at h
  · rename_i s c hf
    have := Nat.eq_of_beq_eq_true hf
    subst this
    injection h with h; injection h with e1 e2; subst e1; subst e2
    exact indexByteX _ ext_indexByte s c hk
  · cases h
theorem ready_a (hk : K (.c (.bool true)) H) : ACalls Tryz.prog 67 [] H K := by
  refine ACalls.run0S specM extB specM_ok extB_ok 100 (.c (.bool true)) ?_ (by decide) (by decide) hk
  kernel_rfl
end Go.Proofs.YtnodfnjmhcjnfaaGreatDoor
