/- Several texts in one: What a buffer does: no program in sight, and what follows. No condition. -/
import Derived.Test.YtnodfnjmhcjnfaaGreatDoorHVBack
import Derived.Test.YtnodfnjmhcjnfaaGreatDoorHVPickC
import Derived.Test.YtnodfnjmhcjnfaaGreatDoorHVStr
import Derived.Shelf.Sort.Plain
import Derived.Test.YtnodfnjmhcjnfaaGreatDoorHVGA
/- What a buffer does: no program in sight. No condition. -/
namespace Go.Proofs.YtnodfnjmhcjnfaaGreatDoor
open Go Go.RowKit
set_option maxRecDepth 100000
set_option linter.all false
structure Pk where
  n : Int
  tag : ByteArray
  s : Smp
structure Hd where
  p : Pk
  sent : Bool
structure Nd where
  last : Int
  l : List Hd
  ever : List Int
  acked : Int
  out : List Pk
  drp : List Int
  ref : List Int
  why : List Int
  most : Int
/-! ### what stays -/
/-! ### rows -/
end Go.Proofs.YtnodfnjmhcjnfaaGreatDoor
/- Held packets deleted in place. No condition. -/
namespace Go.Proofs.YtnodfnjmhcjnfaaGreatDoor
open Go Go.RowKit
set_option maxRecDepth 100000
set_option linter.all false
set_option maxHeartbeats 1000000
variable {H : Hp} {K : AV → Hp → Prop}
def encPk (x : Pk) : List AC := [.int .i64 x.n, .str x.tag, .int .i64 x.s.t, .int .i64 x.s.v, .int .i64 x.s.q]
def encHd (x : Hd) : List AC := [.int .i64 x.p.n, .str x.p.tag, .int .i64 x.p.s.t, .int .i64 x.p.s.v, .int .i64 x.p.s.q, .bool x.sent]
attribute [go_sem] encPk encHd
end Go.Proofs.YtnodfnjmhcjnfaaGreatDoor
/- A buffer's node in memory. No condition. -/
namespace Go.Proofs.YtnodfnjmhcjnfaaGreatDoor
open Go Go.RowKit
set_option maxRecDepth 100000
set_option linter.all false
set_option maxHeartbeats 2000000
variable {H : Hp} {K : AV → Hp → Prop}
structure Nm where
  b : Bool
  m : Nat
  l : Nat
  o : Nat
  d : Nat
  r : Nat
  w : Nat
def hdV (b : Bool) (j : Nat) (l : List Hd) : AC := if b = true then .sl (some (j, 0)) l.length else grV j l
def hdO (b : Bool) (l : List Hd) : AObj := if b = true then .row 291 6 (l.map encHd) true else grO 291 6 (l.map encHd)
def everO (l : List Int) : AObj := mpO (l.map fun n => (.c (.int .i64 n), .c (.bool true)))
def nodeO (c p : Int) (nd : Nd) (s : Nm) : AObj := .row 200 11 [[.int .i64 c, .int .i64 p, .int .i64 nd.last, hdV s.b s.l nd.l, .map (some s.m), .int .i64 nd.acked, grV s.o nd.out, grV s.d nd.drp, grV s.r nd.ref, grV s.w nd.why, .int .i64 nd.most]] true
structure NodeAt (c0 : Nat) (S : Nat → Option AObj) (c p : Int) (nd : Nd) (s : Nm) (G : Hp) : Prop where
  pre : ∀ q o, S q = some o → G[q]? = some o ∧ q ∉ [c0, s.m, s.l, s.o, s.d, s.r, s.w]
  hc : G[c0]? = some (nodeO c p nd s)
  hm : G[s.m]? = some (everO nd.ever)
  hl : G[s.l]? = some (hdO s.b nd.l)
  ho : G[s.o]? = some (grO 95 5 (nd.out.map encPk))
  hd : G[s.d]? = some (grO 3 1 (nd.drp.map encI))
  hr : G[s.r]? = some (grO 3 1 (nd.ref.map encI))
  hw : G[s.w]? = some (grO 29 1 (nd.why.map encI))
  ne : [c0, s.m, s.l, s.o, s.d, s.r, s.w].Nodup
def addS (S : Nat → Option AObj) (i : Nat) (o : AObj) (q : Nat) : Option AObj := if q = i then some o else S q
theorem NodeAt.out {c0 i : Nat} {S : Nat → Option AObj} {o : AObj} {c p : Int} {nd : Nd} {s : Nm} {G : Hp} (h : NodeAt c0 (addS S i o) c p nd s G) (hi : ∀ o, S i ≠ some o) : NodeAt c0 S c p nd s G := by
  obtain ⟨pre, hc, hm, hl, ho, hd, hr, hw, ne⟩ := h
  refine ⟨fun q o hq => pre q o ?_, hc, hm, hl, ho, hd, hr, hw, ne⟩
  unfold addS
  rw [if_neg]
  · exact hq
  · rintro rfl
    exact hi _ hq
end Go.Proofs.YtnodfnjmhcjnfaaGreatDoor
/- A packet put into a buffer. No condition. -/
namespace Go.Proofs.YtnodfnjmhcjnfaaGreatDoor
open Go Go.RowKit
set_option maxRecDepth 100000
set_option linter.all false
set_option maxHeartbeats 2000000
variable {H : Hp} {K : AV → Hp → Prop}
section
variable (P : Program) (J : AV → Hp → Prop)
end
end Go.Proofs.YtnodfnjmhcjnfaaGreatDoor
/- Packets acked, and packets sent. No condition. -/
namespace Go.Proofs.YtnodfnjmhcjnfaaGreatDoor
open Go Go.RowKit
set_option maxRecDepth 100000
set_option linter.all false
set_option maxHeartbeats 2000000
variable {H : Hp} {K : AV → Hp → Prop}
theorem NodeAt.app {c0 : Nat} {S : Nat → Option AObj} {c p : Int} {nd : Nd} {s : Nm} {G : Hp} (h : NodeAt c0 S c p nd s G) (L : Hp) : NodeAt c0 S c p nd s (G ++ L) := by
  obtain ⟨pre, hc, hm, hl, ho, hd, hr, hw, ne⟩ := h
  exact ⟨fun q o hq => ⟨get_old (pre q o hq).1 _, (pre q o hq).2⟩, get_old hc _, get_old hm _, get_old hl _, get_old ho _, get_old hd _, get_old hr _, get_old hw _, ne⟩
end Go.Proofs.YtnodfnjmhcjnfaaGreatDoor
/- slices.Sort of integers: the kit's contract in the heap's words. No condition. -/
namespace Go.Proofs.YtnodfnjmhcjnfaaGreatDoor
open Go Go.RowKit Go.Shelf
set_option maxRecDepth 100000
set_option linter.all false
set_option maxHeartbeats 1000000
variable {H : Hp} {K : AV → Hp → Prop}
def srtI (l : List Int) : List Int := l.mergeSort fun x y => decide (x ≤ y)
theorem srtI_len (l : List Int) : (srtI l).length = l.length := by unfold srtI; rw [List.length_mergeSort]
end Go.Proofs.YtnodfnjmhcjnfaaGreatDoor
/- Numbers as rows. Condition: there are not too many, and they are small. -/
namespace Go.Proofs.YtnodfnjmhcjnfaaGreatDoor
open Go Go.RowKit
set_option maxRecDepth 100000
set_option linter.all false
set_option maxHeartbeats 1000000
variable {H : Hp} {K : AV → Hp → Prop}
theorem srtI_mem {l : List Int} {x : Int} : x ∈ srtI l ↔ x ∈ l := by unfold srtI; exact (List.mergeSort_perm l _).mem_iff
theorem aIf_valS {c : Prop} {v v' : AV} {J : AV → Hp → Prop} (hc : c) (hv : v = v') (h : J v' H) : aIf c v H J := hv ▸ ⟨hc, h⟩
theorem len640_a (hk : K (.c (.int .i64 0)) H) : ACalls Tryz.prog 249 [.c (.int .u64 0)] H K := by
  refine acalls Tryz.func249 rfl (by kernel_rfl) (by simp (disch := first | omega | (simp only [go_sem]; first | done | omega)) only [go_sem]) (fun hH => ?_)
  simp (disch := first | omega | (simp only [go_sem]; first | done | omega)) only [go_sem]
  refine aIf_valS (v' := .c (.int .u8 0)) (by decide +kernel) (congrArg (fun z => AV.c (.int .u8 z)) (by decide +kernel : _ = (0 : Int))) ?_
  simp (disch := first | omega | (simp only [go_sem]; first | done | omega)) only [go_sem]
  exact Ret.same (Nat.le_refl _) hk
theorem len0_a (hk : K (.c (.int .i64 0)) H) : ACalls Tryz.prog 156 [.c (.int .u64 0)] H K := by
  refine acalls Tryz.func156 rfl (by kernel_rfl) (by simp (disch := first | omega | (simp only [go_sem]; first | done | omega)) only [go_sem]) (fun hH => ?_)
  simp (disch := first | omega | (simp only [go_sem]; first | done | omega)) only [go_sem]
  refine len640_a ?_
  simp (disch := first | omega | (simp only [go_sem]; first | done | omega)) only [go_sem]
  exact Ret.same (Nat.le_refl _) hk
end Go.Proofs.YtnodfnjmhcjnfaaGreatDoor
/- Package buffer's functions. Condition: the list is not huge. -/
namespace Go.Proofs.YtnodfnjmhcjnfaaGreatDoor
open Go Go.RowKit
set_option maxRecDepth 100000
set_option linter.all false
set_option maxHeartbeats 2000000
variable {H : Hp} {K : AV → Hp → Prop}
theorem ACalls.hok {P : Program} {f : FuncId} {args : List AV} {H : Hp} {K : AV → Hp → Prop} (h : ACalls P f args H (fun v G => HOk G → K v G)) : ACalls P f args H K :=
  fun B w0 ι w vs hs hr ho => (h B w0 ι w vs hs hr ho).mono fun _ _ ⟨ι', v, av, H', h1, h2, h3, h4, h5, h6, h7⟩ => ⟨ι', v, av, H', h1, h2, h3, h4, h5, h6, h7 h4.scope⟩
end Go.Proofs.YtnodfnjmhcjnfaaGreatDoor
/- Arrivals: their faults by themselves, and their order, in the program and in the document's answer. No condition. -/
namespace Go.Proofs.YtnodfnjmhcjnfaaGreatDoor
open Go Go.RowKit
set_option maxRecDepth 100000
set_option linter.all false
set_option maxHeartbeats 1000000
variable {H : Hp} {K : AV → Hp → Prop}
structure Arr where
  nd : ByteArray
  t : Int
  p : Pk
end Go.Proofs.YtnodfnjmhcjnfaaGreatDoor
