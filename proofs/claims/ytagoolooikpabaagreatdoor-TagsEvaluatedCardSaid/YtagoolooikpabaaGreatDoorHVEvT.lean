/- Several texts in one: Eval of the program: what it answers, and what follows. No condition. -/
import Derived.Test.YtagoolooikpabaaGreatDoorHVEvn
import Derived.Test.YtagoolooikpabaaGreatDoorHVLok
set_option linter.all false
namespace Go.Proofs.YtagoolooikpabaaGreatDoor
open Go Go.RowKit
set_option maxRecDepth 100000
set_option maxHeartbeats 4000000
variable {H : Hp} {K : AV → Hp → Prop}
def lkF (ss : List Ser) (x : List UInt8) (m : Int) : Vl := lookP ss (tB x) m
theorem lookup_a (l : List Ser) (hk : K (.c (.fn 127 [] [(H.length, 0, 0)])) (H ++ [.row 42 1 [[.lst 2 (l.map encSr)]] true])) : ACalls Tryz.prog 78 [.c (.lst 2 (l.map encSr))] H K := by
 have he : entersB Tryz.prog 127 = true := by kernel_rfl
 refine acalls Tryz.func78 rfl kRf gT (fun hH => ?_)
 refine gO1 he ?_
 exact Ret.same sMp hk
theorem lookOk {ss : List Ser} (h : slF ss = 0) {i : Nat} (hi : H[i]? = some (.row 42 1 [[.lst 2 (ss.map encSr)]] true)) : LookOk H 127 [] [(i, 0, 0)] (lkF ss) := by
 refine ⟨by kernel_rfl, fun p hp => ?_, fun G K x m h1 h2 h3 hk => ?_⟩
 ·simp only [List.nil_append, List.mem_singleton] at hp
  subst hp
  exact getElem?_lt hi
 ·exact lookE_a ss (tB x) m h ⟨h2, h3⟩ (by rw [List.getElem?_append_left (getElem?_lt hi)]; exact hi) hk
def smp0 : Smp := ⟨0, 0, 0⟩
def evRes (l : List UInt8) (ss : List Ser) (m : Int) : Smp × Int := match parF l with
 | .error (_, c) => (smp0, c)
 | .ok e => if slF ss ≠ 0 then (smp0, slF ss) else if 0 ≤ m ∧ m ≤ 345686399999 then (finV (evP (lkF ss) m e) m, 0) else (smp0, 1)
theorem evalTop_a (l : List UInt8) (ss : List Ser) (m : Int) (hl : l.length ≤ 1000000) (hne : ∀ a c, parF l = .error (a, c) → c ≠ 0) (hlen : ss.length ≤ 1099511627776) (hs : ∀ x ∈ ss, x.fine) (hk : K (.tup [.agg (encS (evRes l ss m).1), (.c (.int .i64 ((evRes l ss m).2)))]) H) : ACalls Tryz.prog 71 [(.c (.str (tB l))), .c (.lst 2 (ss.map encSr)), (.c (.int .i64 m))] H K := by
 unfold evRes at hk
 refine acalls Tryz.func71 rfl kRf gT (fun hH => ?_)
 refine gO ?_
 refine parse_a l hl (fun e he => ?_) (fun a c he => ?_)
 ·rw [he] at hk
  dsimp only at hk
  have hsz := par_sz he
  refine gO ?_
  refine serListF_a ss hlen hs ?_
  by_cases h0 : slF ss = 0
  ·rw [if_neg (by simpa using h0)] at hk
   refine gO1 h0 ?_
   by_cases hm : 0 ≤ m ∧ m ≤ 345686399999
   ·rw [if_pos hm] at hk
    refine moment_a _ _ _ ?_
    rw [decide_eq_true hm]
    refine gO ?_
    refine lookup_a ss ?_
    refine gO ?_
    refine eval_a (look := lkF ss) (fun x m => lookP_ok h0 _ _) m oMg 1000 e (lookOk h0 aTT) oMg (par_good he) ?_
    refine gO ?_
    refine finalE_a _ _ ?_
    refine gO ?_
    exact Ret.drop hH lRf oKs hk
   ·rw [if_neg hm] at hk
    refine moment_a _ _ _ ?_
    rw [decide_eq_false hm]
    refine gO ?_
    exact Ret.drop hH lRf (by simp [AV.ok, AV.ok1, AC.ok, smp0]) hk
  ·rw [if_pos h0] at hk
   refine gO1 h0 ?_
   exact Ret.drop hH lRf (by simp [AV.ok, AV.ok1, AC.ok, smp0]) hk
 ·rw [he] at hk
  have hc := hne a c he
  refine gO1 hc ?_
  exact Ret.drop hH lRf (by simp [AV.ok, AV.ok1, AC.ok, smp0]) hk
end Go.Proofs.YtagoolooikpabaaGreatDoor
namespace Go.Proofs.YtagoolooikpabaaGreatDoor
open Go Go.RowKit
set_option maxRecDepth 100000
set_option maxHeartbeats 4000000
variable {H : Hp} {K : AV → Hp → Prop}
theorem rckEv : evRes [50, 32, 43, 32, 51] [] 5 = (⟨5, 5, 0⟩, 0) := by kernel_rfl
theorem rckNe (a c : Int) (h : parF [50, 32, 43, 32, 51] = .error (a, c)) : c ≠ 0 := by
 have h1 := rckEv
 unfold evRes at h1
 rw [h] at h1
 cases h1
theorem reckonedW_a (hk : K (.c (.bool true)) H) : ACalls Tryz.prog 19 [] H K := by
 refine acalls Tryz.func19 rfl kRf gT (fun hH => ?_)
 refine gO ?_
 refine ACalls.nilz [0, 2, 0] sMp ?_
 change ACalls _ _ [(.c (.str (tB [50, 32, 43, 32, 51]))), .c (.lst 2 (List.map encSr [])), (.c (.int .i64 5))] _ _
 refine evalTop_a [50, 32, 43, 32, 51] [] 5 (by decide) rckNe (by decide) sMp ?_
 rw [rckEv]
 refine gO ?_
 exact Ret.drop hH lRf trivial hk
end Go.Proofs.YtagoolooikpabaaGreatDoor
