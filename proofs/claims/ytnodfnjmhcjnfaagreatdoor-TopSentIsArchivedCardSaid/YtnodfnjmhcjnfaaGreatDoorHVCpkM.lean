/- Several texts in one: A compacted file answers each query as before, and what follows. No condition. -/
import Derived.Test.YtnodfnjmhcjnfaaGreatDoorHVClkB
import Derived.Test.YtnodfnjmhcjnfaaGreatDoorHCoreD
import Derived.Test.YtnodfnjmhcjnfaaGreatDoorHVGD
import Derived.Test.YtnodfnjmhcjnfaaGreatDoorHVMoment
import Derived.Test.YtnodfnjmhcjnfaaGreatDoorHVDecTop
import Derived.Test.YtnodfnjmhcjnfaaGreatDoorHVGC
import Derived.Test.YtnodfnjmhcjnfaaGreatDoorHVGA
import Derived.Test.YtnodfnjmhcjnfaaGreatDoorHVGL
/- A compacted file answers each query as before. No program in sight. -/
namespace Go.Proofs.YtnodfnjmhcjnfaaGreatDoor
open Go Go.RowKit
set_option maxRecDepth 100000
set_option linter.all false
set_option maxHeartbeats 2000000
open Classical in
/-! ### queries of all samples -/
theorem ris_nd {l : List Smp} (h : risS l) : (l.map (·.t)).Nodup := List.pairwise_map.2 (h.imp fun h e => by omega)
theorem ser_idem {X : List Smp} (h : risS X) : serM (pfS X) = X := by
  refine (sorted_ser (List.Perm.refl X) (h.imp fun h => by omega) (ris_nd h) (pfS_nd X) (fun t => ?_)).symm
  rw [pfS_fnd, fnd_rev (ris_nd h)]
end Go.Proofs.YtnodfnjmhcjnfaaGreatDoor
/- The packages do something, as the statements through the layers ask: the call is run. No condition. -/
namespace Go.Proofs.YtnodfnjmhcjnfaaGreatDoor
open Go Go.RowKit
set_option maxRecDepth 100000
set_option linter.all false
variable {H : Hp} {K : AV → Hp → Prop}
def extB : FuncId → List AV → Hp → Res := fun f args H => match Nat.beq f 356, args with
  | true, [.c (.str s), .c (.int .u8 c)] => some ((.c (.int .i64 (Lib.indexByte s.data.toList c.toNat.toUInt8))), H)
  | _, _ => none
theorem extB_ok : ExtOk Tryz.prog extB := by
  intro f args H v H' K h hk
  unfold extB at h
  split at h
  · rename_i s c hf
    have := Nat.eq_of_beq_eq_true hf
    subst this
    injection h with h; injection h with e1 e2; subst e1; subst e2
    exact indexByteX _ ext_indexByte s c hk
  · cases h
theorem facts_a (hk : K (.c (.bool true)) H) : ACalls Tryz.prog 44 [] H K := by
  refine ACalls.run0S specM extB specM_ok extB_ok 100 (.c (.bool true)) ?_ (by decide) (by decide) hk
  kernel_rfl
end Go.Proofs.YtnodfnjmhcjnfaaGreatDoor
/- Files that are drawn. No condition. -/
namespace Go.Proofs.YtnodfnjmhcjnfaaGreatDoor
open Go Go.RowKit
set_option maxRecDepth 100000
set_option linter.all false
set_option maxHeartbeats 2000000
variable {H : Hp} {K : AV → Hp → Prop}
theorem rightSamplesF_a (s : Nat) (zs : List Int) (j most : Int) (hs : Str H s zs j) (hj : j ≤ 1090000000000) (hm0 : 0 ≤ most) (hm1 : most ≤ 100)
    (hk : ∀ (l : List Smp) (j' : Int), j ≤ j' → j' ≤ j + 2 + 3 * most → drawnS most l → K (.c (.lst 3 (l.map encS))) (H.set s (strO zs j'))) :
    ACalls Tryz.prog 54 [.c (.ptr (some (s, 0, 0))), (.c (.int .i64 most))] H K := by
  refine ACalls.postR (rightSamples_o s zs j most hs hj hm0 hm1 (K := fun v G => ∃ (l : List Smp) (j' : Int), j ≤ j' ∧ j' ≤ j + 2 + 3 * most ∧ drawnS most l ∧ v = .c (grV H.length l) ∧ G = H.set s (strO zs j') ++ [grO 38 3 (l.map encS)]) (fun l j' h1 h2 h3 => ⟨l, j', h1, h2, h3, rfl, rfl⟩)) ?_
  rintro hH v G ⟨l, j', h1, h2, h3, rfl, rfl⟩
  exact Ret.frzGr 0 (HOk.str hH) (by simp) rfl (pureL_map _ (fun x => by simp [go_sem, AC.pure])) (by simp [map_grV]) (hk l j' h1 h2 h3)
end Go.Proofs.YtnodfnjmhcjnfaaGreatDoor
/- What is stored of arrivals: no program in sight. -/
namespace Go.Proofs.YtnodfnjmhcjnfaaGreatDoor
open Go Go.RowKit
set_option maxRecDepth 100000
set_option linter.all false
set_option maxHeartbeats 1000000
theorem bl_split : ∀ c a b : List UInt8, (Op.bytesLess c a = true ∨ c = a) → (Op.bytesLess c b = true ∨ c = b) ∨ Op.bytesLess b a = true
  | [], a, [], _ => Or.inl (Or.inr rfl)
  | [], a, _ :: _, _ => Or.inl (Or.inl (by simp [Op.bytesLess]))
  | x :: c, [], b, h => by rcases h with h | h <;> simp [Op.bytesLess] at h
  | x :: c, y :: a, [], h => Or.inr (by simp [Op.bytesLess])
  | x :: c, y :: a, z :: b, h => by
    have ih := bl_split c a b
    have tr : ∀ p q r : UInt8, p < q → q < r → p < r := fun p q r => UInt8.lt_trans
    have eq : ∀ p q : UInt8, ¬ p < q → ¬ q < p → p = q := fun p q h1 h2 => UInt8.le_antisymm (UInt8.not_lt.1 h2) (UInt8.not_lt.1 h1)
    have ir : ∀ p : UInt8, ¬ p < p := fun p => UInt8.lt_irrefl p
    simp only [Op.bytesLess, List.cons.injEq] at h ⊢
    grind
theorem leS_iff (x y : ByteArray) : leS x y = true ↔ (Op.bytesLess x.toList y.toList = true ∨ x = y) := by unfold leS; rw [Bool.or_eq_true, decide_eq_true_eq]
theorem leS_split {c a b : ByteArray} (h : leS c a = true) : leS c b = true ∨ leS b a = true := by
  have e : ∀ x y : ByteArray, x.toList = y.toList ↔ x = y := fun x y => by
    rw [ByteArray.toList_eq, ByteArray.toList_eq]
    exact ⟨fun h => data_inj (by simpa using h), fun h => by rw [h]⟩
  rw [leS_iff] at h
  have h2 := bl_split c.toList a.toList b.toList (by rw [e]; exact h)
  rw [e] at h2
  rcases h2 with h2 | h2
  · exact Or.inl ((leS_iff c b).2 h2)
  · exact Or.inr ((leS_iff b a).2 (Or.inl h2))
theorem leS_rfl (a : ByteArray) : leS a a = true := by unfold leS; simp
theorem nkF_rise {l : List NCl} (h : nkF l = 0) : l.Pairwise (fun a b => leS b.nd a.nd = false) := by
  unfold nkF at h
  split at h
  · cases h
  · have hall := errGo_all0 nkErr ncl0 l h
    have step : ∀ k (hk : k + 1 < l.length), leS l[k + 1].nd (l[k]'(by omega)).nd = false := by
      intro k hk
      have h1 := hall (k + 1) hk
      unfold nkErr at h1
      split at h1
      · cases h1
      · split at h1
        · cases h1
        · rename_i c
          rw [prv_pos _ _ _ (by omega) (by omega)] at c
          simpa using c
    rw [List.pairwise_iff_getElem]
    intro i j hi hj hij
    obtain ⟨d, rfl⟩ : ∃ d, j = i + d + 1 := ⟨j - i - 1, by omega⟩
    induction d with
    | zero => exact step i hj
    | succ d ih =>
      have h1 := ih (by omega) (by omega)
      have h2 := step (i + d + 1) hj
      cases h3 : leS l[i + (d + 1) + 1].nd l[i].nd with
      | false => rfl
      | true =>
        exfalso
        rcases leS_split (b := (l[i + d + 1]'(by omega)).nd) h3 with h4 | h4
        · rw [show leS l[i + (d + 1) + 1].nd (l[i + d + 1]'(by omega)).nd = false from h2] at h4; cases h4
        · rw [h1] at h4; cases h4
theorem nkF_apart {l : List NCl} (h : nkF l = 0) : l.Pairwise (fun a b => a.nd ≠ b.nd) := (nkF_rise h).imp fun h e => by rw [e, leS_rfl] at h; cases h
def ckOf (cs : List NCl) (n : ByteArray) : List Clk := match cs.find? (fun x => decide (n = x.nd)) with | some x => x.c | none => []
theorem ckOf_ok {cs : List NCl} (h : nkF cs = 0) (n : ByteArray) : ckF (ckOf cs n) = 0 := by
  unfold ckOf
  split
  · rename_i x hx; exact (nkF_ok h).2 x (List.mem_of_find?_eq_some hx)
  · rfl
def stX (cs : List NCl) (a : Arr) : Smp := ⟨corrF (ckOf cs a.nd) a.p.s.t, a.p.s.v, a.p.s.q⟩
def stS (l : List Arr) (cs : List NCl) (tag : ByteArray) (s : List Smp × List Int) (i : Nat) : List Smp × List Int := match l[i]? with
  | some a => if a.p.tag ≠ tag then s else if s.1.any (fun y => decide (y.t = (stX cs a).t)) = true then (s.1, s.2 ++ [(i : Int)]) else (s.1 ++ [stX cs a], s.2)
  | none => s
def stP (l : List Arr) (cs : List NCl) (tag : ByteArray) (k : Nat) : List Smp × List Int := (fiN l k).foldl (stS l cs tag) ([], [])
theorem fiN_next (l : List Arr) (k : Nat) : fiN l (k + 1) = fiN l k ++ (if isD l k = true then [] else [k]) := by
  unfold fiN
  rw [List.range_succ, List.filter_append]
  congr 1
  cases h : isD l k <;> simp [h]
theorem stP_next (l : List Arr) (cs : List NCl) (tag : ByteArray) (k : Nat) : stP l cs tag (k + 1) = if isD l k = true then stP l cs tag k else stS l cs tag (stP l cs tag k) k := by
  unfold stP
  rw [fiN_next, List.foldl_append]
  cases h : isD l k <;> simp [h]
theorem stS_len (l : List Arr) (cs : List NCl) (tag : ByteArray) (s : List Smp × List Int) (i : Nat) : s.1.length ≤ (stS l cs tag s i).1.length ∧ s.2.length ≤ (stS l cs tag s i).2.length ∧ (stS l cs tag s i).1.length + (stS l cs tag s i).2.length ≤ s.1.length + s.2.length + 1 := by
  unfold stS
  split
  · split
    · omega
    · split <;> (simp; try omega)
  · omega
theorem foldl_st_len (l : List Arr) (cs : List NCl) (tag : ByteArray) : ∀ (is : List Nat) (s : List Smp × List Int), (is.foldl (stS l cs tag) s).1.length + (is.foldl (stS l cs tag) s).2.length ≤ s.1.length + s.2.length + is.length
  | [], s => by simp
  | i :: is, s => by
    rw [List.foldl_cons, List.length_cons]
    have h1 := foldl_st_len l cs tag is (stS l cs tag s i)
    have h2 := stS_len l cs tag s i
    omega
theorem stP_len (l : List Arr) (cs : List NCl) (tag : ByteArray) (k : Nat) : (stP l cs tag k).1.length + (stP l cs tag k).2.length ≤ k := by
  have h1 := foldl_st_len l cs tag (fiN l k) ([], [])
  have h2 := fiN_len l k
  unfold stP
  simp only [List.length_nil] at h1
  omega
def tLt (x y : Smp) : Bool := decide (x.t < y.t)
def stR (l : List Arr) (cs : List NCl) (tag : ByteArray) : List Smp × List Int := (isortG tLt (stP l cs tag l.length).1, (stP l cs tag l.length).2)
end Go.Proofs.YtnodfnjmhcjnfaaGreatDoor
