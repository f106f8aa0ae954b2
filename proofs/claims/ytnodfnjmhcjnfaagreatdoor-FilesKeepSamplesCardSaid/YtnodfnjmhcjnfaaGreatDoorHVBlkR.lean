/- Several texts in one: What the document answers of a file's blocks: its fault, index, tags, blocks found, and what follows. No condition. -/
import Derived.Test.YtnodfnjmhcjnfaaGreatDoorHVBlkP
import Derived.Test.YtnodfnjmhcjnfaaGreatDoorHVBlkA
import Derived.Test.YtnodfnjmhcjnfaaGreatDoorHVArrB
import Derived.Test.YtnodfnjmhcjnfaaGreatDoorHVStr
import Derived.Test.YtnodfnjmhcjnfaaGreatDoorHVGA
import Derived.Test.YtnodfnjmhcjnfaaGreatDoorHVGC
/- What the document answers of a file's blocks: its fault, index, tags, blocks found. No condition but that the file is no longer than a machine holds. -/
namespace Go.Proofs.YtnodfnjmhcjnfaaGreatDoor
open Go Go.RowKit
set_option maxRecDepth 100000
set_option linter.all false
set_option maxHeartbeats 2000000
variable {H : Hp} {K : AV → Hp → Prop}
attribute [go_sem, simp] encBk
end Go.Proofs.YtnodfnjmhcjnfaaGreatDoor
/- Compact: the program and the document. Condition: the bytes fit. -/
namespace Go.Proofs.YtnodfnjmhcjnfaaGreatDoor
open Go Go.RowKit
set_option maxRecDepth 100000
set_option linter.all false
set_option maxHeartbeats 2000000
variable {H : Hp} {K : AV → Hp → Prop}
theorem qryF_mem {ps : List Pc} {t : ByteArray} {a b : Int} {y : Smp} (h : y ∈ qryF ps t a b) : ∃ x ∈ ps, y ∈ flatQ t a b x := by
  have h2 := pfS_sub _ _ (serM_mem h)
  obtain ⟨x, hx, hy⟩ := List.mem_flatMap.1 h2
  exact ⟨x, hx, hy⟩
theorem headB_40 (tag : ByteArray) (n : Nat) (o : Bool) (ht : tag.size ≤ 40) (hn : n ≤ 1000) : (headB tag n o).length ≤ 60 := by
  have h1 := vb6 (n := tag.size) ⟨by omega, by omega⟩
  have h2 := vb6 (n := n) ⟨by omega, by omega⟩
  have h3 : tag.data.toList.length = tag.size := Array.length_toList
  simp only [headB, List.length_append, List.length_cons, List.length_nil]
  omega
theorem blockB_40 (tag : ByteArray) (l : List Smp) (o : Bool) (ht2 : tag.size ≤ 40) (hl : l.length ≤ 100) (hs : ∀ s ∈ l, smlS s) : (blockB tag l o).length ≤ 2000 := by
  have h1 := headB_40 tag l.length o ht2 (by omega)
  have h2 := smpsB_len l ⟨0, 0, 0⟩ (by simp [smlS]) hs
  simp only [blockB, bodyB, List.length_append, List.length_cons, List.length_nil]
  omega
theorem chB_40 (tag : ByteArray) (l : List Smp) (o : Bool) (ht2 : tag.size ≤ 40) (hs : ∀ s ∈ l, smlS s) : ∀ ks : List Nat, (chB tag l o ks).length ≤ 2000 * ks.length
  | [] => by simp [chB]
  | k :: ks => by
    have h1 := blockB_40 tag (parts 100 l k) o ht2 (parts_len 100 l k) (fun s h => hs s (parts_mem h))
    have h2 := chB_40 tag l o ht2 hs ks
    simp only [chB, List.flatMap_cons, List.length_append, List.length_cons] at h2 ⊢
    omega
end Go.Proofs.YtnodfnjmhcjnfaaGreatDoor
/- Equality of lists of blocks and of names; Index at any length; AppendOf, its bytes frozen. Condition: lengths below a machine's bounds. -/
namespace Go.Proofs.YtnodfnjmhcjnfaaGreatDoor
open Go Go.RowKit
set_option maxRecDepth 100000
set_option linter.all false
set_option maxHeartbeats 2000000
variable {H : Hp} {K : AV → Hp → Prop}
instance blkDec : DecidableEq Blk := fun a b =>
  if h : a.at_ = b.at_ ∧ a.long = b.long ∧ a.tag = b.tag ∧ a.first = b.first ∧ a.last = b.last ∧ a.count = b.count ∧ a.over = b.over then isTrue (by cases a; cases b; simp_all) else isFalse (by rintro rfl; simp at h)
theorem indexB_a (l : List UInt8) (hl : l.length ≤ 100000000) (hk : K (.tup [.c (.lst 7 ((idxB l).map encBk)), (.c (.int .i64 ((par l).2.2)))]) H) : ACalls Tryz.prog 59 [.c (.lst 1 (l.map encU))] H K := by
  by_cases h : l.length ≤ 200000
  · exact index_a l h hk
  · have e : par l = ([], 0, 2) := by unfold par; rw [if_pos (by omega)]
    refine acalls Tryz.func59 rfl (by kernel_rfl) (by simp (disch := first | omega | (simp only [go_sem]; first | done | omega)) only [go_sem]) (fun hH => ?_)
    simp (disch := first | omega | (simp only [go_sem]; first | done | omega)) only [go_sem]
    refine walkB_a l hl (fun h => ?_) (fun h => ?_)
    · unfold idxB at hk
      rw [if_pos h] at hk
      simp (disch := first | omega | (simp only [go_sem]; first | done | omega)) only [go_sem, h]
      exact Ret.nil [7] (by simp) (Ret.same (by simp) hk)
    · rw [e] at h
      cases h
end Go.Proofs.YtnodfnjmhcjnfaaGreatDoor
/- Holds that are drawn. No condition. -/
namespace Go.Proofs.YtnodfnjmhcjnfaaGreatDoor
open Go Go.RowKit
set_option maxRecDepth 100000
set_option linter.all false
set_option maxHeartbeats 1000000
variable {H : Hp} {K : AV → Hp → Prop}
def encT (s : ByteArray) : List AC := [.str s]
attribute [go_sem] encT
theorem some_a (s : Nat) (zs : List Int) (k : Int) (l : List ByteArray) (hs : Str H s zs k) (h0 : 0 < l.length) (h1 : l.length ≤ 1000)
    (hk : ∀ r : ByteArray, r ∈ l → K (.c (.str r)) (H.set s (strO zs (k + 1)))) : ACalls Tryz.prog 95 [.c (.ptr (some (s, 0, 0))), .c (.lst 1 (l.map encT))] H K := by
  refine acalls Tryz.func95 rfl (by kernel_rfl) (by simp (disch := first | omega | (simp only [go_sem]; first | done | omega)) only [go_sem]) (fun hH => ?_)
  simp (disch := first | omega | (simp only [go_sem]; first | done | omega)) only [go_sem]
  repeat' (first | ((first | refine acond_d ?_ ?_ | refine acond_b ?_ ?_ | refine ag_d ?_ ?_ | refine ag_n ?_ ?_ | refine ag_bt ?_ ?_ | refine ag_bf ?_ ?_) <;> intro c <;> try simp (disch := first | omega | (simp only [go_sem]; first | done | omega)) only [go_sem, c]) | ((first | refine w_draw (by kernel_rfl) (by decide +kernel) ?_ | refine next_a s _ _ _ hs (by omega) (by omega) (fun r _ _ => ?_)) <;> try simp (disch := first | omega | (simp only [go_sem]; first | done | omega)) only [go_sem]))
  exact Ret.same (by simp) (hk _ (List.getElem_mem _))
theorem some_lit (s : Nat) (zs : List Int) (k : Int) (l : List ByteArray) {i ty n : Nat} {els : List (List AC)} {own : Bool} (hi : H[i]? = some (.row ty 1 els own)) (he : els = l.map encT) (hn : n = l.length) (hs : Str H s zs k) (hne : i ≠ s) (h0 : 0 < l.length) (h1 : l.length ≤ 1000)
    (hk : ∀ r : ByteArray, r ∈ l → K (.c (.str r)) ((H.set i .dead).set s (strO zs (k + 1)))) : ACalls Tryz.prog 95 [.c (.ptr (some (s, 0, 0))), .c (.sl (some (i, 0)) n)] H K := by
  subst he hn
  refine ACalls.lit hi (by simp [pureL, encT, AC.pure]) (args' := [.c (.ptr (some (s, 0, 0))), .c (.lst 1 (l.map encT))]) ?_ (some_a s zs k l ⟨hs.1, hs.2.1, hs.2.2.1, ?_⟩ h0 h1 hk)
  · simp [AV.frz1, AC.frz]
    rw [List.take_of_length_le (by simp)]
  · rw [List.getElem?_set_ne hne]; exact hs.2.2.2
end Go.Proofs.YtnodfnjmhcjnfaaGreatDoor
