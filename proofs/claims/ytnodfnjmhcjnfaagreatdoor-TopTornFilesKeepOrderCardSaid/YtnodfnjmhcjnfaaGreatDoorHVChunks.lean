/- Blocks of chunks. No condition. -/
import Derived.Test.YtnodfnjmhcjnfaaGreatDoorHVChunk
import Derived.Test.YtnodfnjmhcjnfaaGreatDoorHVBack
import Derived.Test.YtnodfnjmhcjnfaaGreatDoorHVGA
import Derived.Test.YtnodfnjmhcjnfaaGreatDoorHVEncode
namespace Go.Proofs.YtnodfnjmhcjnfaaGreatDoor
open Go Go.RowKit
set_option maxRecDepth 100000
set_option linter.all false
set_option maxHeartbeats 1000000
variable {H : Hp} {K : AV → Hp → Prop}
theorem chunk_a (els : List (List AC)) (n : Int) (hn : 1 ≤ n) (hp : pureL els = true)
    (hk : K (.c (.fn 286 [] [(H.length, 0, 0), (H.length + 1, 0, 0)])) (H ++ [.row 26 1 [[.lst 3 els]] false, .row 3 1 [[.int .i64 n]] false])) :
    ACalls Tryz.prog 211 [.c (.lst 3 els), (.c (.int .i64 n))] H K := by
  refine acalls Tryz.func211 rfl (by kernel_rfl) (by simp (disch := first | omega | (simp only [go_sem]; first | done | omega)) only [go_sem]) (fun hH => ?_)
  simp (disch := first | omega | (simp only [go_sem]; first | done | omega)) only [go_sem]
  refine Ret.frz (i := H.length) (by first | ((repeat first | exact at0 (by simp) | refine atS ?_); done) | assumption) (by simp [pureL, AC.pure]) (by simp) ?_
  refine Ret.frz (i := H.length + 1) (ty := 3) (sz := 1) (els := [[.int .i64 n]]) (own := true) (by simp) (by simp [pureL, AC.pure]) (by simp) ?_
  have e : ((H ++ [AObj.row 26 1 [[.lst 3 els]] true, .row 3 1 [[.int .i64 n]] true]).set H.length (.row 26 1 [[.lst 3 els]] false)).set (H.length + 1) (.row 3 1 [[.int .i64 n]] false) = H ++ [.row 26 1 [[.lst 3 els]] false, .row 3 1 [[.int .i64 n]] false] := by
    simp [List.set_append]
  rw [e]
  exact Ret.same (by simp) hk
def nch (l : List Smp) : Nat := (l.length + 99) / 100
def chB (tag : ByteArray) (l : List Smp) (o : Bool) (ks : List Nat) : List UInt8 := ks.flatMap fun k => blockB tag (parts 100 l k) o
theorem blockB_len (tag : ByteArray) (l : List Smp) (o : Bool) (ht2 : tag.size ≤ 1000) (hl : l.length ≤ 1000) (hs : ∀ s ∈ l, smlS s) : (blockB tag l o).length ≤ 20000 := by
  have h1 := headB_len tag l.length o ht2 hl
  have h2 := smpsB_len l ⟨0, 0, 0⟩ (by simp [smlS]) hs
  simp only [blockB, bodyB, List.length_append, List.length_cons, List.length_nil]
  omega
theorem parts_len {α : Type} (n : Nat) (l : List α) (k : Nat) : (parts n l k).length ≤ n := by simp [parts]; omega
theorem parts_mem {α : Type} {n : Nat} {l : List α} {k : Nat} {x : α} (h : x ∈ parts n l k) : x ∈ l := List.mem_of_mem_drop (List.mem_of_mem_take h)
theorem parts_map {α β : Type} (f : α → β) (n : Nat) (l : List α) (k : Nat) : parts n (l.map f) k = (parts n l k).map f := by simp [parts, List.map_take, List.map_drop]
theorem chB_len (tag : ByteArray) (l : List Smp) (o : Bool) (ht2 : tag.size ≤ 1000) (hs : ∀ s ∈ l, smlS s) : ∀ ks : List Nat, (chB tag l o ks).length ≤ 20000 * ks.length
  | [] => by simp [chB]
  | k :: ks => by
    have h1 := blockB_len tag (parts 100 l k) o ht2 (by have := parts_len 100 l k; omega) (fun s h => hs s (parts_mem h))
    have h2 := chB_len tag l o ht2 hs ks
    simp only [chB, List.flatMap_cons, List.length_append, List.length_cons] at h2 ⊢
    omega
theorem chB_snoc (tag : ByteArray) (l : List Smp) (o : Bool) (ks : List Nat) (k : Nat) : chB tag l o (ks ++ [k]) = chB tag l o ks ++ blockB tag (parts 100 l k) o := by simp [chB]
end Go.Proofs.YtnodfnjmhcjnfaaGreatDoor
