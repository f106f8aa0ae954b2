/- Several texts in one: What a buffer does: no program in sight, and what follows. No condition. -/
import Derived.Test.YtnodfnjmhcjnfaaGreatDoorHVBack
import Derived.Test.YtnodfnjmhcjnfaaGreatDoorHVGA
import Derived.Test.YtnodfnjmhcjnfaaGreatDoorHVAnswerR
import Derived.Shelf.Sort.Plain
import Derived.Test.YtnodfnjmhcjnfaaGreatDoorHVStr
/- What a buffer does: no program in sight. No condition. -/
namespace Go.Proofs.YtnodfnjmhcjnfaaGreatDoor
open Go Go.RowKit
set_option maxRecDepth 100000
set_option linter.all false
structure Pk where
  n : Int
  tag : ByteArray
  s : Smp
structure Hd where
  p : Pk
  sent : Bool
structure Nd where
  last : Int
  l : List Hd
  ever : List Int
  acked : Int
  out : List Pk
  drp : List Int
  ref : List Int
  why : List Int
  most : Int
/-! ### what stays -/
/-! ### rows -/
end Go.Proofs.YtnodfnjmhcjnfaaGreatDoor
/- Ends of calls that turn an object of the caller's which holds names of new ones. No condition. -/
namespace Go.Proofs.YtnodfnjmhcjnfaaGreatDoor
open Go Go.RowKit
set_option maxRecDepth 100000
set_option linter.all false
theorem WkL.pickC {B G L : Hp} {m c : Nat} {o o' : AObj} {vs vs' : List AV} (ids : List Nat) (hB : HOk B) (hm : m ≤ B.length) (hc : c < B.length) (hoo : o = o'.ren (pickS B.length ids)) (ho' : o'.okN (B.length + L.length))
    (hL : ids.map (fun j => G[j]?) = L.map (fun o => some (o.ren (pickS B.length ids)))) (hd : ids.Nodup) (hok : ∀ o ∈ L, o.okN (B.length + L.length)) (hv : vs = vs'.map (AV.ren (pickS B.length ids))) (hov : ∀ x ∈ vs', x.ok (B.length + L.length)) :
    WkL m vs (B.set c o ++ G) vs' (B.set c o' ++ L) := by
  have hlen : ids.length = L.length := by have := congrArg List.length hL; simpa using this
  have hget : ∀ (j : Nat) (o : AObj), L[j]? = some o → ∃ q, ids[j]? = some q ∧ G[q]? = some (o.ren (pickS B.length ids)) := by
    intro j o hj
    have h1 : (L.map (fun o => some (o.ren (pickS B.length ids))))[j]? = some (some (o.ren (pickS B.length ids))) := by rw [List.getElem?_map, hj]; rfl
    rw [← hL, List.getElem?_map] at h1
    cases hq : ids[j]? with
    | none => rw [hq] at h1; cases h1
    | some q => rw [hq] at h1; exact ⟨q, rfl, by simpa using h1⟩
  have hlo : ∀ i, i < B.length → pickS B.length ids i = i := fun i hi => by simp [pickS, hi]
  have hl1 : (B.set c o).length = B.length := by simp
  have hl2 : (B.set c o').length = B.length := by simp
  intro B1 w0 ι w us hs hr hov2
  have hok' : HOk (B.set c o' ++ L) := by
    intro i q hi
    rw [List.length_append, hl2]
    rcases Nat.lt_or_ge i B.length with h | h
    · rw [List.getElem?_append_left (by omega)] at hi
      by_cases e : c = i
      · subst e
        rw [List.getElem?_set_self hc] at hi
        injection hi with hi; subst hi; exact ho'
      · rw [List.getElem?_set_ne e] at hi
        exact AObj.okN_mono (by omega) (hB i q hi)
    · rw [List.getElem?_append_right (by omega)] at hi
      exact hok q (List.mem_of_getElem? hi)
  refine WkL.ren (m := m) (pickS B.length ids) (fun i hi => hlo i (by omega)) (by rw [List.length_append]; omega) (fun i q hi hl => ?_) (fun i j hi hj hij => ?_) hv (by rw [List.length_append, hl2]; exact hov) hok' B1 w0 ι w us hs hr hov2
  · rcases Nat.lt_or_ge i B.length with h | h
    · rw [List.getElem?_append_left (by omega)] at hi
      rw [hlo i h, List.getElem?_append_left (by omega)]
      by_cases e : c = i
      · subst e
        rw [List.getElem?_set_self hc] at hi ⊢
        injection hi with hi; subst hi; rw [hoo]
      · rw [List.getElem?_set_ne e] at hi ⊢
        rw [AObj.ren_id (n := B.length) hlo (hB i q hi)]; exact hi
    · rw [List.getElem?_append_right (by omega), hl2] at hi
      obtain ⟨k, h1, h2⟩ := hget _ _ hi
      have : pickS B.length ids i = B.length + k := by
        unfold pickS
        rw [if_neg (by omega), List.getD_eq_getElem?_getD, h1]; rfl
      rw [this, List.getElem?_append_right (by omega), hl1]
      simpa using h2
  · rw [List.length_append, hl2] at hi hj
    have key : ∀ i, i < B.length + L.length → B.length ≤ i → ∃ q, ids[i - B.length]? = some q ∧ pickS B.length ids i = B.length + q := by
      intro i h1 h2
      have h3 : i - B.length < ids.length := by omega
      refine ⟨ids[i - B.length], List.getElem?_eq_getElem h3, ?_⟩
      unfold pickS
      rw [if_neg (by omega), List.getD_eq_getElem?_getD, List.getElem?_eq_getElem h3]; rfl
    rcases Nat.lt_or_ge i B.length with h1 | h1 <;> rcases Nat.lt_or_ge j B.length with h2 | h2
    · rw [hlo i h1, hlo j h2] at hij; exact hij
    · obtain ⟨q, g1, g2⟩ := key j hj h2
      rw [hlo i h1, g2] at hij; omega
    · obtain ⟨q, g1, g2⟩ := key i hi h1
      rw [hlo j h2, g2] at hij; omega
    · obtain ⟨q, g1, g2⟩ := key i hi h1
      obtain ⟨q2, g3, g4⟩ := key j hj h2
      rw [g2, g4] at hij
      obtain rfl : q = q2 := by omega
      have := (List.getElem?_inj (show i - B.length < ids.length by omega) hd).1 (g1.trans g3.symm)
      omega
theorem Ret.pickC {B G L : Hp} {K : AV → Hp → Prop} {n c : Nat} {o o' : AObj} {v v' : AV} (ids : List Nat) (hB : HOk B) (hn : n ≤ B.length) (hc : c < B.length) (hoo : o = o'.ren (pickS B.length ids)) (ho' : o'.okN (B.length + L.length))
    (hL : ids.map (fun j => G[j]?) = L.map (fun o => some (o.ren (pickS B.length ids)))) (hd : ids.Nodup) (hok : ∀ o ∈ L, o.okN (B.length + L.length)) (hv : v = v'.ren (pickS B.length ids)) (hov : v'.ok (B.length + L.length)) (hk : K v' (B.set c o' ++ L)) : Ret n v (B.set c o ++ G) K :=
  Ret.wk (WkL.pickC ids hB hn hc hoo ho' hL hd hok (by simp [hv]) (by simpa using hov)) hk
end Go.Proofs.YtnodfnjmhcjnfaaGreatDoor
/- Held packets deleted in place. No condition. -/
namespace Go.Proofs.YtnodfnjmhcjnfaaGreatDoor
open Go Go.RowKit
set_option maxRecDepth 100000
set_option linter.all false
set_option maxHeartbeats 1000000
variable {H : Hp} {K : AV → Hp → Prop}
def encPk (x : Pk) : List AC := [.int .i64 x.n, .str x.tag, .int .i64 x.s.t, .int .i64 x.s.v, .int .i64 x.s.q]
def encHd (x : Hd) : List AC := [.int .i64 x.p.n, .str x.p.tag, .int .i64 x.p.s.t, .int .i64 x.p.s.v, .int .i64 x.p.s.q, .bool x.sent]
attribute [go_sem] encPk encHd
end Go.Proofs.YtnodfnjmhcjnfaaGreatDoor
/- A buffer's node in memory. No condition. -/
namespace Go.Proofs.YtnodfnjmhcjnfaaGreatDoor
open Go Go.RowKit
set_option maxRecDepth 100000
set_option linter.all false
set_option maxHeartbeats 2000000
variable {H : Hp} {K : AV → Hp → Prop}
structure Nm where
  b : Bool
  m : Nat
  l : Nat
  o : Nat
  d : Nat
  r : Nat
  w : Nat
def hdV (b : Bool) (j : Nat) (l : List Hd) : AC := if b = true then .sl (some (j, 0)) l.length else grV j l
def hdO (b : Bool) (l : List Hd) : AObj := if b = true then .row 291 6 (l.map encHd) true else grO 291 6 (l.map encHd)
def everO (l : List Int) : AObj := mpO (l.map fun n => (.c (.int .i64 n), .c (.bool true)))
def nodeO (c p : Int) (nd : Nd) (s : Nm) : AObj := .row 200 11 [[.int .i64 c, .int .i64 p, .int .i64 nd.last, hdV s.b s.l nd.l, .map (some s.m), .int .i64 nd.acked, grV s.o nd.out, grV s.d nd.drp, grV s.r nd.ref, grV s.w nd.why, .int .i64 nd.most]] true
structure NodeAt (c0 : Nat) (S : Nat → Option AObj) (c p : Int) (nd : Nd) (s : Nm) (G : Hp) : Prop where
  pre : ∀ q o, S q = some o → G[q]? = some o ∧ q ∉ [c0, s.m, s.l, s.o, s.d, s.r, s.w]
  hc : G[c0]? = some (nodeO c p nd s)
  hm : G[s.m]? = some (everO nd.ever)
  hl : G[s.l]? = some (hdO s.b nd.l)
  ho : G[s.o]? = some (grO 95 5 (nd.out.map encPk))
  hd : G[s.d]? = some (grO 3 1 (nd.drp.map encI))
  hr : G[s.r]? = some (grO 3 1 (nd.ref.map encI))
  hw : G[s.w]? = some (grO 29 1 (nd.why.map encI))
  ne : [c0, s.m, s.l, s.o, s.d, s.r, s.w].Nodup
def addS (S : Nat → Option AObj) (i : Nat) (o : AObj) (q : Nat) : Option AObj := if q = i then some o else S q
theorem NodeAt.out {c0 i : Nat} {S : Nat → Option AObj} {o : AObj} {c p : Int} {nd : Nd} {s : Nm} {G : Hp} (h : NodeAt c0 (addS S i o) c p nd s G) (hi : ∀ o, S i ≠ some o) : NodeAt c0 S c p nd s G := by
  obtain ⟨pre, hc, hm, hl, ho, hd, hr, hw, ne⟩ := h
  refine ⟨fun q o hq => pre q o ?_, hc, hm, hl, ho, hd, hr, hw, ne⟩
  unfold addS
  rw [if_neg]
  · exact hq
  · rintro rfl
    exact hi _ hq
end Go.Proofs.YtnodfnjmhcjnfaaGreatDoor
/- A packet put into a buffer. No condition. -/
namespace Go.Proofs.YtnodfnjmhcjnfaaGreatDoor
open Go Go.RowKit
set_option maxRecDepth 100000
set_option linter.all false
set_option maxHeartbeats 2000000
variable {H : Hp} {K : AV → Hp → Prop}
section
variable (P : Program) (J : AV → Hp → Prop)
end
end Go.Proofs.YtnodfnjmhcjnfaaGreatDoor
/- Packets acked, and packets sent. No condition. -/
namespace Go.Proofs.YtnodfnjmhcjnfaaGreatDoor
open Go Go.RowKit
set_option maxRecDepth 100000
set_option linter.all false
set_option maxHeartbeats 2000000
variable {H : Hp} {K : AV → Hp → Prop}
theorem NodeAt.app {c0 : Nat} {S : Nat → Option AObj} {c p : Int} {nd : Nd} {s : Nm} {G : Hp} (h : NodeAt c0 S c p nd s G) (L : Hp) : NodeAt c0 S c p nd s (G ++ L) := by
  obtain ⟨pre, hc, hm, hl, ho, hd, hr, hw, ne⟩ := h
  exact ⟨fun q o hq => ⟨get_old (pre q o hq).1 _, (pre q o hq).2⟩, get_old hc _, get_old hm _, get_old hl _, get_old ho _, get_old hd _, get_old hr _, get_old hw _, ne⟩
end Go.Proofs.YtnodfnjmhcjnfaaGreatDoor
/- slices.Sort of integers: the kit's contract in the heap's words. No condition. -/
namespace Go.Proofs.YtnodfnjmhcjnfaaGreatDoor
open Go Go.RowKit Go.Shelf
set_option maxRecDepth 100000
set_option linter.all false
set_option maxHeartbeats 1000000
variable {H : Hp} {K : AV → Hp → Prop}
def srtI (l : List Int) : List Int := l.mergeSort fun x y => decide (x ≤ y)
theorem srtI_len (l : List Int) : (srtI l).length = l.length := by unfold srtI; rw [List.length_mergeSort]
end Go.Proofs.YtnodfnjmhcjnfaaGreatDoor
/- Numbers as rows. Condition: there are not too many, and they are small. -/
namespace Go.Proofs.YtnodfnjmhcjnfaaGreatDoor
open Go Go.RowKit
set_option maxRecDepth 100000
set_option linter.all false
set_option maxHeartbeats 1000000
variable {H : Hp} {K : AV → Hp → Prop}
theorem srtI_mem {l : List Int} {x : Int} : x ∈ srtI l ↔ x ∈ l := by unfold srtI; exact (List.mergeSort_perm l _).mem_iff
theorem aIf_valS {c : Prop} {v v' : AV} {J : AV → Hp → Prop} (hc : c) (hv : v = v') (h : J v' H) : aIf c v H J := hv ▸ ⟨hc, h⟩
theorem len640_a (hk : K (.c (.int .i64 0)) H) : ACalls Tryz.prog 249 [.c (.int .u64 0)] H K := by
  refine acalls Tryz.func249 rfl (by kernel_rfl) (by simp (disch := first | omega | (simp only [go_sem]; first | done | omega)) only [go_sem]) (fun hH => ?_)
  simp (disch := first | omega | (simp only [go_sem]; first | done | omega)) only [go_sem]
  refine aIf_valS (v' := .c (.int .u8 0)) (by decide +kernel) (congrArg (fun z => AV.c (.int .u8 z)) (by decide +kernel : _ = (0 : Int))) ?_
  simp (disch := first | omega | (simp only [go_sem]; first | done | omega)) only [go_sem]
  exact Ret.same (Nat.le_refl _) hk
theorem len0_a (hk : K (.c (.int .i64 0)) H) : ACalls Tryz.prog 156 [.c (.int .u64 0)] H K := by
  refine acalls Tryz.func156 rfl (by kernel_rfl) (by simp (disch := first | omega | (simp only [go_sem]; first | done | omega)) only [go_sem]) (fun hH => ?_)
  simp (disch := first | omega | (simp only [go_sem]; first | done | omega)) only [go_sem]
  refine len640_a ?_
  simp (disch := first | omega | (simp only [go_sem]; first | done | omega)) only [go_sem]
  exact Ret.same (Nat.le_refl _) hk
end Go.Proofs.YtnodfnjmhcjnfaaGreatDoor
/- Package buffer's functions. Condition: the list is not huge. -/
namespace Go.Proofs.YtnodfnjmhcjnfaaGreatDoor
open Go Go.RowKit
set_option maxRecDepth 100000
set_option linter.all false
set_option maxHeartbeats 2000000
variable {H : Hp} {K : AV → Hp → Prop}
theorem ACalls.hok {P : Program} {f : FuncId} {args : List AV} {H : Hp} {K : AV → Hp → Prop} (h : ACalls P f args H (fun v G => HOk G → K v G)) : ACalls P f args H K :=
  fun B w0 ι w vs hs hr ho => (h B w0 ι w vs hs hr ho).mono fun _ _ ⟨ι', v, av, H', h1, h2, h3, h4, h5, h6, h7⟩ => ⟨ι', v, av, H', h1, h2, h3, h4, h5, h6, h7 h4.scope⟩
end Go.Proofs.YtnodfnjmhcjnfaaGreatDoor
/- Arrivals: their faults by themselves, and their order, in the program and in the document's answer. No condition. -/
namespace Go.Proofs.YtnodfnjmhcjnfaaGreatDoor
open Go Go.RowKit
set_option maxRecDepth 100000
set_option linter.all false
set_option maxHeartbeats 1000000
variable {H : Hp} {K : AV → Hp → Prop}
structure Arr where
  nd : ByteArray
  t : Int
  p : Pk
end Go.Proofs.YtnodfnjmhcjnfaaGreatDoor
