/- Several texts in one: bytes, and what follows. No condition. -/
import Derived.Test.YtnodfnjmhcjnfaaGreatHVEncTop
import Derived.Test.YtnodfnjmhcjnfaaGreatHVDecode
import Derived.Test.YtnodfnjmhcjnfaaGreatHVBack
import Derived.Test.YtnodfnjmhcjnfaaGreatHVGA
import Derived.Test.YtnodfnjmhcjnfaaGreatHVAnswerR
import Derived.Shelf.Sort.Plain
import Derived.Test.YtnodfnjmhcjnfaaGreatHVStr
import Derived.Test.YtnodfnjmhcjnfaaGreatHCoreD
import Derived.Test.YtnodfnjmhcjnfaaGreatHCoreDrawS
/- bytes.Equal, and package block's own number. No condition. -/
namespace Go.Proofs.YtnodfnjmhcjnfaaGreat
open Go Go.RowKit
set_option maxRecDepth 100000
set_option linter.all false
set_option maxHeartbeats 1000000
variable {H : Hp} {K : AV → Hp → Prop}
theorem varint64_a (hk : K (.tup [.c (.lst 1 (([128, 1] : List UInt8).map encU)), (.c (.int .i64 0))]) H) : ACalls Tryz.prog 48 [(.c (.int .i64 64))] H K := by
  refine acalls Tryz.func48 rfl (by kernel_rfl) (by simp (disch := first | omega | (simp only [go_sem]; first | done | omega)) only [go_sem]) (fun hH => ?_)
  simp (disch := first | omega | (simp only [go_sem]; first | done | omega)) only [go_sem]
  refine out_a _ _ _ _ _ ?_
  simp (disch := first | omega | (simp only [go_sem]; first | done | omega)) only [go_sem, or_self, decide_false]
  refine varint_a 64 (by omega) (by omega) ?_
  rw [show vb (zig 64) = [128, 1] by rw [show zig 64 = 128 by decide, vb_ge (by omega), vb_lt (by omega)]; decide]
  simp (disch := first | omega | (simp only [go_sem]; first | done | omega)) only [go_sem]
  exact Ret.same (Nat.le_refl _) hk
theorem archived_a (hk : K (.c (.bool true)) H) : ACalls Tryz.prog 19 [] H K := by
  refine acalls Tryz.func19 rfl (by kernel_rfl) (by simp (disch := first | omega | (simp only [go_sem]; first | done | omega)) only [go_sem]) (fun hH => ?_)
  simp (disch := first | omega | (simp only [go_sem]; first | done | omega)) only [go_sem]
  refine varint64_a ?_
  simp (disch := first | omega | (simp only [go_sem]; first | done | omega)) only [go_sem]
  refine ACalls.lit (i := H.length) (ty := 5) (sz := 1) (els := ([128, 1] : List UInt8).map encU) (own := true) (by simp [encU]) (pureL_U _) (args' := [.c (.lst 1 (([128, 1] : List UInt8).map encU)), .c (.lst 1 (([128, 1] : List UInt8).map encU))]) (by simp [AV.frz1, AC.frz, encU]) ?_
  refine bytesEq_a _ _ (by simp) (by simp) ?_
  simp (disch := first | omega | (simp only [go_sem]; first | done | omega)) only [go_sem]
  exact Ret.drop hH (Nat.le_refl _) trivial hk
end Go.Proofs.YtnodfnjmhcjnfaaGreat
/- What a buffer does: no program in sight. No condition. -/
namespace Go.Proofs.YtnodfnjmhcjnfaaGreat
open Go Go.RowKit
set_option maxRecDepth 100000
set_option linter.all false
structure Pk where
  n : Int
  tag : ByteArray
  s : Smp
structure Hd where
  p : Pk
  sent : Bool
/-! ### what stays -/
/-! ### rows -/
end Go.Proofs.YtnodfnjmhcjnfaaGreat
/- Ends of calls that turn an object of the caller's which holds names of new ones. No condition. -/
namespace Go.Proofs.YtnodfnjmhcjnfaaGreat
open Go Go.RowKit
set_option maxRecDepth 100000
set_option linter.all false
theorem WkL.pickC {B G L : Hp} {m c : Nat} {o o' : AObj} {vs vs' : List AV} (ids : List Nat) (hB : HOk B) (hm : m ≤ B.length) (hc : c < B.length) (hoo : o = o'.ren (pickS B.length ids)) (ho' : o'.okN (B.length + L.length))
    (hL : ids.map (fun j => G[j]?) = L.map (fun o => some (o.ren (pickS B.length ids)))) (hd : ids.Nodup) (hok : ∀ o ∈ L, o.okN (B.length + L.length)) (hv : vs = vs'.map (AV.ren (pickS B.length ids))) (hov : ∀ x ∈ vs', x.ok (B.length + L.length)) :
    WkL m vs (B.set c o ++ G) vs' (B.set c o' ++ L) := by
  have hlen : ids.length = L.length := by have := congrArg List.length hL; simpa using this
  have hget : ∀ (j : Nat) (o : AObj), L[j]? = some o → ∃ q, ids[j]? = some q ∧ G[q]? = some (o.ren (pickS B.length ids)) := by
    intro j o hj
    have h1 : (L.map (fun o => some (o.ren (pickS B.length ids))))[j]? = some (some (o.ren (pickS B.length ids))) := by rw [List.getElem?_map, hj]; rfl
    rw [← hL, List.getElem?_map] at h1
    cases hq : ids[j]? with
    | none => rw [hq] at h1; cases h1
    | some q => rw [hq] at h1; exact ⟨q, rfl, by simpa using h1⟩
  have hlo : ∀ i, i < B.length → pickS B.length ids i = i := fun i hi => by simp [pickS, hi]
  have hl1 : (B.set c o).length = B.length := by simp
  have hl2 : (B.set c o').length = B.length := by simp
  intro B1 w0 ι w us hs hr hov2
  have hok' : HOk (B.set c o' ++ L) := by
    intro i q hi
    rw [List.length_append, hl2]
    rcases Nat.lt_or_ge i B.length with h | h
    · rw [List.getElem?_append_left (by omega)] at hi
      by_cases e : c = i
      · subst e
        rw [List.getElem?_set_self hc] at hi
        injection hi with hi; subst hi; exact ho'
      · rw [List.getElem?_set_ne e] at hi
        exact AObj.okN_mono (by omega) (hB i q hi)
    · rw [List.getElem?_append_right (by omega)] at hi
      exact hok q (List.mem_of_getElem? hi)
  refine WkL.ren (m := m) (pickS B.length ids) (fun i hi => hlo i (by omega)) (by rw [List.length_append]; omega) (fun i q hi hl => ?_) (fun i j hi hj hij => ?_) hv (by rw [List.length_append, hl2]; exact hov) hok' B1 w0 ι w us hs hr hov2
  · rcases Nat.lt_or_ge i B.length with h | h
    · rw [List.getElem?_append_left (by omega)] at hi
      rw [hlo i h, List.getElem?_append_left (by omega)]
      by_cases e : c = i
      · subst e
        rw [List.getElem?_set_self hc] at hi ⊢
        injection hi with hi; subst hi; rw [hoo]
      · rw [List.getElem?_set_ne e] at hi ⊢
        rw [AObj.ren_id (n := B.length) hlo (hB i q hi)]; exact hi
    · rw [List.getElem?_append_right (by omega), hl2] at hi
      obtain ⟨k, h1, h2⟩ := hget _ _ hi
      have : pickS B.length ids i = B.length + k := by
        unfold pickS
        rw [if_neg (by omega), List.getD_eq_getElem?_getD, h1]; rfl
      rw [this, List.getElem?_append_right (by omega), hl1]
      simpa using h2
  · rw [List.length_append, hl2] at hi hj
    have key : ∀ i, i < B.length + L.length → B.length ≤ i → ∃ q, ids[i - B.length]? = some q ∧ pickS B.length ids i = B.length + q := by
      intro i h1 h2
      have h3 : i - B.length < ids.length := by omega
      refine ⟨ids[i - B.length], List.getElem?_eq_getElem h3, ?_⟩
      unfold pickS
      rw [if_neg (by omega), List.getD_eq_getElem?_getD, List.getElem?_eq_getElem h3]; rfl
    rcases Nat.lt_or_ge i B.length with h1 | h1 <;> rcases Nat.lt_or_ge j B.length with h2 | h2
    · rw [hlo i h1, hlo j h2] at hij; exact hij
    · obtain ⟨q, g1, g2⟩ := key j hj h2
      rw [hlo i h1, g2] at hij; omega
    · obtain ⟨q, g1, g2⟩ := key i hi h1
      rw [hlo j h2, g2] at hij; omega
    · obtain ⟨q, g1, g2⟩ := key i hi h1
      obtain ⟨q2, g3, g4⟩ := key j hj h2
      rw [g2, g4] at hij
      obtain rfl : q = q2 := by omega
      have := (List.getElem?_inj (show i - B.length < ids.length by omega) hd).1 (g1.trans g3.symm)
      omega
theorem Ret.pickC {B G L : Hp} {K : AV → Hp → Prop} {n c : Nat} {o o' : AObj} {v v' : AV} (ids : List Nat) (hB : HOk B) (hn : n ≤ B.length) (hc : c < B.length) (hoo : o = o'.ren (pickS B.length ids)) (ho' : o'.okN (B.length + L.length))
    (hL : ids.map (fun j => G[j]?) = L.map (fun o => some (o.ren (pickS B.length ids)))) (hd : ids.Nodup) (hok : ∀ o ∈ L, o.okN (B.length + L.length)) (hv : v = v'.ren (pickS B.length ids)) (hov : v'.ok (B.length + L.length)) (hk : K v' (B.set c o' ++ L)) : Ret n v (B.set c o ++ G) K :=
  Ret.wk (WkL.pickC ids hB hn hc hoo ho' hL hd hok (by simp [hv]) (by simpa using hov)) hk
end Go.Proofs.YtnodfnjmhcjnfaaGreat
/- Packets acked, and packets sent. No condition. -/
namespace Go.Proofs.YtnodfnjmhcjnfaaGreat
open Go Go.RowKit
set_option maxRecDepth 100000
set_option linter.all false
set_option maxHeartbeats 2000000
variable {H : Hp} {K : AV → Hp → Prop}
@[go_sem] theorem mapK_ib : mapK Tryz.prog 110 = some 3 := (by kernel_rfl)
@[go_sem] theorem mapZ_ib : (mapE Tryz.prog 110).bind (zeroA Tryz.prog) = some (.c (.bool false)) := (by kernel_rfl)
end Go.Proofs.YtnodfnjmhcjnfaaGreat
/- slices.Sort of integers: the kit's contract in the heap's words. No condition. -/
namespace Go.Proofs.YtnodfnjmhcjnfaaGreat
open Go Go.RowKit Go.Shelf
set_option maxRecDepth 100000
set_option linter.all false
set_option maxHeartbeats 1000000
variable {H : Hp} {K : AV → Hp → Prop}
def srtI (l : List Int) : List Int := l.mergeSort fun x y => decide (x ≤ y)
theorem srtI_len (l : List Int) : (srtI l).length = l.length := by unfold srtI; rw [List.length_mergeSort]
end Go.Proofs.YtnodfnjmhcjnfaaGreat
/- Numbers as rows. Condition: there are not too many, and they are small. -/
namespace Go.Proofs.YtnodfnjmhcjnfaaGreat
open Go Go.RowKit
set_option maxRecDepth 100000
set_option linter.all false
set_option maxHeartbeats 1000000
variable {H : Hp} {K : AV → Hp → Prop}
theorem srtI_mem {l : List Int} {x : Int} : x ∈ srtI l ↔ x ∈ l := by unfold srtI; exact (List.mergeSort_perm l _).mem_iff
theorem aIf_valS {c : Prop} {v v' : AV} {J : AV → Hp → Prop} (hc : c) (hv : v = v') (h : J v' H) : aIf c v H J := hv ▸ ⟨hc, h⟩
theorem len640_a (hk : K (.c (.int .i64 0)) H) : ACalls Tryz.prog 103 [.c (.int .u64 0)] H K := by
  refine acalls Tryz.func103 rfl (by kernel_rfl) (by simp (disch := first | omega | (simp only [go_sem]; first | done | omega)) only [go_sem]) (fun hH => ?_)
  simp (disch := first | omega | (simp only [go_sem]; first | done | omega)) only [go_sem]
  refine aIf_valS (v' := .c (.int .u8 0)) (by decide +kernel) (congrArg (fun z => AV.c (.int .u8 z)) (by decide +kernel : _ = (0 : Int))) ?_
  simp (disch := first | omega | (simp only [go_sem]; first | done | omega)) only [go_sem]
  exact Ret.same (Nat.le_refl _) hk
theorem len0_a (hk : K (.c (.int .i64 0)) H) : ACalls Tryz.prog 83 [.c (.int .u64 0)] H K := by
  refine acalls Tryz.func83 rfl (by kernel_rfl) (by simp (disch := first | omega | (simp only [go_sem]; first | done | omega)) only [go_sem]) (fun hH => ?_)
  simp (disch := first | omega | (simp only [go_sem]; first | done | omega)) only [go_sem]
  refine len640_a ?_
  simp (disch := first | omega | (simp only [go_sem]; first | done | omega)) only [go_sem]
  exact Ret.same (Nat.le_refl _) hk
end Go.Proofs.YtnodfnjmhcjnfaaGreat
/- Package buffer's functions. Condition: the list is not huge. -/
namespace Go.Proofs.YtnodfnjmhcjnfaaGreat
open Go Go.RowKit
set_option maxRecDepth 100000
set_option linter.all false
set_option maxHeartbeats 2000000
variable {H : Hp} {K : AV → Hp → Prop}
theorem ACalls.hok {P : Program} {f : FuncId} {args : List AV} {H : Hp} {K : AV → Hp → Prop} (h : ACalls P f args H (fun v G => HOk G → K v G)) : ACalls P f args H K :=
  fun B w0 ι w vs hs hr ho => (h B w0 ι w vs hs hr ho).mono fun _ _ ⟨ι', v, av, H', h1, h2, h3, h4, h5, h6, h7⟩ => ⟨ι', v, av, H', h1, h2, h3, h4, h5, h6, h7 h4.scope⟩
end Go.Proofs.YtnodfnjmhcjnfaaGreat
/- Arrivals: their faults by themselves, and their order, in the program and in the document's answer. No condition. -/
namespace Go.Proofs.YtnodfnjmhcjnfaaGreat
open Go Go.RowKit
set_option maxRecDepth 100000
set_option linter.all false
set_option maxHeartbeats 1000000
variable {H : Hp} {K : AV → Hp → Prop}
structure Arr where
  nd : ByteArray
  t : Int
  p : Pk
end Go.Proofs.YtnodfnjmhcjnfaaGreat
/- Arrivals whose packets are not the same where they should be: the program's answer. No condition. -/
namespace Go.Proofs.YtnodfnjmhcjnfaaGreat
open Go Go.RowKit
set_option maxRecDepth 100000
set_option linter.all false
set_option maxHeartbeats 1000000
variable {H : Hp} {K : AV → Hp → Prop}
instance pkDec : DecidableEq Pk := fun a b =>
  if h : a.n = b.n ∧ a.tag = b.tag ∧ a.s = b.s then isTrue (by cases a; cases b; simp_all) else isFalse (by rintro rfl; simp at h)
end Go.Proofs.YtnodfnjmhcjnfaaGreat
