/- Several texts in one: A file of blocks that is drawn: a right one, not too great, and what follows. No condition. -/
import Derived.Test.YtnodfnjmhcjnfaaGreatDoorHVEqB
import Derived.Test.YtnodfnjmhcjnfaaGreatDoorHVBlkM
import Derived.Test.YtnodfnjmhcjnfaaGreatDoorHVKeepM
import Derived.Test.YtnodfnjmhcjnfaaGreatDoorHCoreD
import Derived.Test.YtnodfnjmhcjnfaaGreatDoorHVStr
import Derived.Test.YtnodfnjmhcjnfaaGreatDoorHVMoment
import Derived.Test.YtnodfnjmhcjnfaaGreatDoorHCoreC
import Derived.Test.YtnodfnjmhcjnfaaGreatDoorHVCmpk
/- A file of blocks that is drawn: a right one, not too great. No condition. -/
namespace Go.Proofs.YtnodfnjmhcjnfaaGreatDoor
open Go Go.RowKit
set_option maxRecDepth 100000
set_option linter.all false
set_option maxHeartbeats 2000000
variable {H : Hp} {K : AV → Hp → Prop}
theorem FGood.le {k m : Nat} {f : List UInt8} (h : FGood k f) (hm : k ≤ m) : FGood m f := ⟨h.1, by have := h.2.1; omega, by have := h.2.2; omega⟩
theorem aFile_g (s : Nat) (zs : List Int) (j : Int) (hs : Str H s zs j) (hj : j ≤ 900000000)
    (hk : ∀ (f : List UInt8) (j' : Int), j ≤ j' → j' ≤ j + 5000 → FGood 4 f → K (.c (grV H.length f)) (H.set s (strO zs j') ++ [grO 5 1 (f.map encU)])) :
    ACalls Tryz.prog 58 [.c (.ptr (some (s, 0, 0)))] H K := by
  have hlt := hs.lt
  have hpos := hs.pos
  have hne : H.length ≠ s := by omega
  refine acalls Tryz.func58 rfl (by kernel_rfl) (by simp (disch := first | omega | (simp only [go_sem]; first | done | omega)) only [go_sem]) (fun hH => ?_)
  simp (disch := first | omega | (simp only [go_sem]; first | done | omega)) only [go_sem]
  refine range_a s zs j 0 4 (by first | exact hs | exact hs.app _ | exact hs.set (by omega) (by omega) | exact (hs.set (by omega) (by omega)).app _) (by omega) (by omega) (by omega) (fun r hr0 hr1 => ?_)
  simp (disch := first | omega | (simp only [go_sem]; first | done | omega)) only [go_sem]
  refine AWp.loop (H.length) [0, 8] [9, 3] (fun (q : Nat × List UInt8 × Int) => (q.1 : Int) ≤ r ∧ (j + 1 ≤ q.2.2 ∧ q.2.2 ≤ j + 1 + 600 * q.1) ∧ FGood q.1 q.2.1) (fun (q : Nat × List UInt8 × Int) => [(9, (.c (.int .i64 (q.1)))), (3, .c (grV H.length q.2.1))]) (fun (q : Nat × List UInt8 × Int) => H.set s (strO zs q.2.2) ++ [grO 5 1 (q.2.1.map encU)]) (fun (q : Nat × List UInt8 × Int) => r.toNat - q.1) (by kernel_rfl) (fun _ => rfl) (by kernel_rfl) (by first | (simp; done) | omega) (by first | (simp; done) | (simp; omega) | omega) kl ?_ (fun q hq _ _ => ?_)
  · refine Next.mk (0, [], j + 1) ⟨by dsimp only; omega, ⟨by dsimp only; omega, by dsimp only; omega⟩, FGood.nil⟩ ?_
    simp (disch := first | omega | (simp only [go_sem]; first | done | omega)) only [go_sem]
    exact WkL.pad (by simp)
  obtain ⟨k, f, j2⟩ := q
  obtain ⟨q1, ⟨q3, q4⟩, q5⟩ := hq
  dsimp only at q1 q3 q4 q5
  have q2 : f.length ≤ 200000 := by have := q5.2.1; omega
  by_cases hkr : (k : Int) < r
  · simp (disch := first | omega | (simp only [go_sem]; first | done | omega)) only [go_sem]
    refine rightSamplesF_a s zs j2 5 (by first | exact hs | exact hs.app _ | exact hs.set (by omega) (by omega) | exact (hs.set (by omega) (by omega)).app _) (by omega) (by omega) (by omega) (fun l j3 g1 g2 g3 => ?_)
    have hll : l.length ≤ 205 := by have := g3.2.1; omega
    simp (disch := first | omega | (simp only [go_sem]; first | done | omega)) only [go_sem]
    refine flip_a s zs j3 15 (by first | exact hs | exact hs.app _ | exact hs.set (by omega) (by omega) | exact (hs.set (by omega) (by omega)).app _) (by omega) (by omega) (fun b => ?_)
    simp (disch := first | omega | (simp only [go_sem]; first | done | omega)) only [go_sem]
    have rest : True := trivial
    refine acond_b (fun c => ?_) (fun c => ?_)
    · simp (disch := first | omega | (simp only [go_sem]; first | done | omega)) only [go_sem]
      refine manySamples_a s zs (j3 + 1) (by first | exact hs | exact hs.app _ | exact hs.set (by omega) (by omega) | exact (hs.set (by omega) (by omega)).app _) (by omega) (fun l2 j4 g4 g5 g6 => ?_)
      simp (disch := first | omega | (simp only [go_sem]; first | done | omega)) only [go_sem]
      refine some_lit s zs j4 [⟨#[116, 97]⟩, ⟨#[116, 97]⟩, ⟨#[116, 98]⟩] (by first | ((repeat first | exact at0 (by simp) | refine atS ?_); done) | assumption) rfl rfl (by first | exact hs | exact hs.app _ | exact hs.set (by omega) (by omega) | exact (hs.set (by omega) (by omega)).app _) (by omega) (by simp) (by simp) (fun tag ht => ?_)
      have ht2 : tag.size ≤ 1000 := by
        simp only [List.mem_cons, List.not_mem_nil, or_false] at ht
        rcases ht with rfl | rfl | rfl <;> decide
      simp (disch := first | omega | (simp only [go_sem]; first | done | omega)) only [go_sem]
      by_cases he : (appRes f tag l2).2 = 0
      · have hpa := q5.app (by omega) he
        refine append_good f tag l2 (by omega) ht2 (by omega) (by first | ((repeat first | exact at0 (by simp) | refine atS ?_); done) | assumption) he ?_
        generalize (appRes f tag l2).1 = f2 at *
        simp (disch := first | omega | (simp only [go_sem]; first | done | omega)) only [go_sem]
        refine Next.mk (k + 1, f2, j4 + 1) ⟨⟨by dsimp only; omega, ⟨by dsimp only; omega, by dsimp only; omega⟩, hpa⟩, by dsimp only; omega⟩ ?_
        exact ow
      · refine append_bad f tag l2 (by omega) ht2 (by omega) (by first | ((repeat first | exact at0 (by simp) | refine atS ?_); done) | assumption) he ?_
        simp (disch := first | omega | (simp only [go_sem]; first | done | omega)) only [go_sem, he]
        refine Next.mk (k + 1, f, j4 + 1) ⟨⟨by dsimp only; omega, ⟨by dsimp only; omega, by dsimp only; omega⟩, q5.up⟩, by dsimp only; omega⟩ ?_
        exact ow
    · simp (disch := first | omega | (simp only [go_sem]; first | done | omega)) only [go_sem]
      refine some_lit s zs (j3 + 1) [⟨#[116, 97]⟩, ⟨#[116, 97]⟩, ⟨#[116, 98]⟩] (by first | ((repeat first | exact at0 (by simp) | refine atS ?_); done) | assumption) rfl rfl (by first | exact hs | exact hs.app _ | exact hs.set (by omega) (by omega) | exact (hs.set (by omega) (by omega)).app _) (by omega) (by simp) (by simp) (fun tag ht => ?_)
      have ht2 : tag.size ≤ 1000 := by
        simp only [List.mem_cons, List.not_mem_nil, or_false] at ht
        rcases ht with rfl | rfl | rfl <;> decide
      simp (disch := first | omega | (simp only [go_sem]; first | done | omega)) only [go_sem]
      by_cases he : (appRes f tag l).2 = 0
      · have hpa := q5.app (by omega) he
        refine append_good f tag l (by omega) ht2 (by omega) (by first | ((repeat first | exact at0 (by simp) | refine atS ?_); done) | assumption) he ?_
        generalize (appRes f tag l).1 = f2 at *
        simp (disch := first | omega | (simp only [go_sem]; first | done | omega)) only [go_sem]
        refine Next.mk (k + 1, f2, (j3 + 1) + 1) ⟨⟨by dsimp only; omega, ⟨by dsimp only; omega, by dsimp only; omega⟩, hpa⟩, by dsimp only; omega⟩ ?_
        exact ow
      · refine append_bad f tag l (by omega) ht2 (by omega) (by first | ((repeat first | exact at0 (by simp) | refine atS ?_); done) | assumption) he ?_
        simp (disch := first | omega | (simp only [go_sem]; first | done | omega)) only [go_sem, he]
        refine Next.mk (k + 1, f, (j3 + 1) + 1) ⟨⟨by dsimp only; omega, ⟨by dsimp only; omega, by dsimp only; omega⟩, q5.up⟩, by dsimp only; omega⟩ ?_
        exact ow
  · simp (disch := first | omega | (simp only [go_sem]; first | done | omega)) only [go_sem]
    exact Ret.same (by simp) (hk f j2 (by omega) (by omega) (q5.le (by omega)))
theorem aFile_gf (s : Nat) (zs : List Int) (j : Int) (hs : Str H s zs j) (hj : j ≤ 900000000)
    (hk : ∀ (f : List UInt8) (j' : Int), j ≤ j' → j' ≤ j + 5000 → FGood 4 f → K (.c (.lst 1 (f.map encU))) (H.set s (strO zs j'))) :
    ACalls Tryz.prog 58 [.c (.ptr (some (s, 0, 0)))] H K := by
  refine ACalls.postR (aFile_g s zs j hs hj (K := fun v G => ∃ (l : List UInt8) (j' : Int), j ≤ j' ∧ j' ≤ j + 5000 ∧ FGood 4 l ∧ v = .c (grV H.length l) ∧ G = H.set s (strO zs j') ++ [grO 5 1 (l.map encU)]) (fun l j' h1 h2 h3 => ⟨l, j', h1, h2, h3, rfl, rfl⟩)) ?_
  rintro hH v G ⟨l, j', h1, h2, h3, rfl, rfl⟩
  exact Ret.frzGr 0 (HOk.str hH) (by simp) rfl (pureL_U _) (by simp [map_grV]) (hk l j' h1 h2 h3)
end Go.Proofs.YtnodfnjmhcjnfaaGreatDoor
/- The packages do something: the call is run. No condition. -/
namespace Go.Proofs.YtnodfnjmhcjnfaaGreatDoor
open Go Go.RowKit
set_option maxRecDepth 100000
set_option linter.all false
variable {H : Hp} {K : AV → Hp → Prop}
def extB : FuncId → List AV → Hp → Res := fun f args H => match Nat.beq f 356, args with
  | true, [.c (.str s), .c (.int .u8 c)] => some ((.c (.int .i64 (Lib.indexByte s.data.toList c.toNat.toUInt8))), H)
  | _, _ => none
theorem extB_ok : ExtOk Tryz.prog extB := by
  intro f args H v H' K h hk
  unfold extB at h
  split at h
  · rename_i s c hf
    have := Nat.eq_of_beq_eq_true hf
    subst this
    injection h with h; injection h with e1 e2; subst e1; subst e2
    exact indexByteX _ ext_indexByte s c hk
  · cases h
theorem ready_a (hk : K (.c (.bool true)) H) : ACalls Tryz.prog 67 [] H K := by
  refine ACalls.run0S specM extB specM_ok extB_ok 100 (.c (.bool true)) ?_ (by decide) (by decide) hk
  kernel_rfl
end Go.Proofs.YtnodfnjmhcjnfaaGreatDoor
/- The least cost of steps between two places: from before or from behind. No program in sight. -/
namespace Go.Proofs.YtnodfnjmhcjnfaaGreatDoor
open Go Go.RowKit
inductive ChS (c : Nat → Nat → Int) : Nat → Nat → Int → Prop
  | nil (i : Nat) : ChS c i i 0
  | cons {i k j : Nat} {x : Int} (h1 : i < k) (h2 : k ≤ i + 100) (h : ChS c k j x) : ChS c i j (c i k + x)
theorem ChS.le {c : Nat → Nat → Int} {i j : Nat} {x : Int} (h : ChS c i j x) : i ≤ j := by
  induction h with
  | nil i => exact Nat.le_refl _
  | cons h1 h2 h ih => omega
theorem ChS.last {c : Nat → Nat → Int} {i j : Nat} {x : Int} (h : ChS c i j x) : (i = j ∧ x = 0) ∨ ∃ k y, ChS c i k y ∧ k < j ∧ j ≤ k + 100 ∧ x = y + c k j := by
  induction h with
  | nil i => exact .inl ⟨rfl, rfl⟩
  | @cons i k j x h1 h2 h ih =>
    rcases ih with ⟨rfl, rfl⟩ | ⟨m, y, g1, g2, g3, rfl⟩
    · exact .inr ⟨i, 0, .nil i, h1, h2, by omega⟩
    · exact .inr ⟨m, c i k + y, .cons h1 h2 g1, g2, g3, by omega⟩
def IsMin (c : Nat → Nat → Int) (i j : Nat) (m : Int) : Prop := ChS c i j m ∧ ∀ x, ChS c i j x → m ≤ x
theorem IsMin.one {c : Nat → Nat → Int} {i j : Nat} {m m' : Int} (h : IsMin c i j m) (h' : IsMin c i j m') : m = m' := by
  have h1 := h.2 _ h'.1
  have h2 := h'.2 _ h.1
  omega
theorem isMin_refl (c : Nat → Nat → Int) (i : Nat) : IsMin c i i 0 := by
  refine ⟨.nil i, fun x h => ?_⟩
  rcases h.last with ⟨_, rfl⟩ | ⟨k, y, g1, g2, g3, rfl⟩
  · exact Int.le_refl _
  · have := g1.le
    omega
theorem isMin_from {c : Nat → Nat → Int} {i n : Nat} (hi : i < n) (b : Nat → Int) (hb : ∀ k, i < k → k ≤ n → IsMin c k n (b k)) {m : Int} (hm : (∃ k, i < k ∧ k ≤ n ∧ k ≤ i + 100 ∧ m = c i k + b k) ∧ ∀ k, i < k → k ≤ n → k ≤ i + 100 → m ≤ c i k + b k) : IsMin c i n m := by
  obtain ⟨⟨k, h1, h2, h3, rfl⟩, h4⟩ := hm
  refine ⟨.cons h1 h3 (hb k h1 h2).1, fun x hx => ?_⟩
  cases hx with
  | nil => omega
  | @cons _ k' _ y g1 g2 g3 =>
    have e1 := g3.le
    have e2 := h4 k' g1 e1 g2
    have e3 := (hb k' g1 e1).2 _ g3
    omega
end Go.Proofs.YtnodfnjmhcjnfaaGreatDoor
/- What blocks of samples cost. No program in sight. -/
namespace Go.Proofs.YtnodfnjmhcjnfaaGreatDoor
open Go Go.RowKit
set_option maxRecDepth 100000
set_option linter.all false
set_option maxHeartbeats 2000000
def vl (n : Int) : Nat := (vb (zig n)).length
def cB (tag : ByteArray) (l : List Smp) (i j : Nat) : Int := ((blockB tag ((l.take j).drop i) false).length : Int)
def fixL (tag : ByteArray) : Nat := 4 + vl tag.size + tag.size
def fstL (s : Smp) : Nat := vl s.t + vl s.v + vl s.q
def nxtL (p s : Smp) : Nat := vl (s.t - p.t) + vl (s.v - p.v) + vl s.q
def smL (l : List Smp) (i j : Nat) : Nat := (smpsB ⟨0, 0, 0⟩ ((l.take j).drop i)).length
theorem cB_eq (tag : ByteArray) {l : List Smp} {i j : Nat} (hj : j ≤ l.length) : cB tag l i j = (fixL tag : Int) + vl ((j - i : Nat) : Int) + smL l i j := by
  have h3 : tag.data.toList.length = tag.size := Array.length_toList
  have h4 : ((l.take j).drop i).length = j - i := by rw [List.length_drop, List.length_take]; omega
  unfold cB fixL smL vl blockB bodyB headB
  rw [h4]
  simp only [List.length_append, List.length_cons, List.length_nil, h3]
  omega
theorem take_drop_snoc {α : Type} {l : List α} {i j : Nat} (hij : i ≤ j) (hj : j < l.length) : (l.take (j + 1)).drop i = (l.take j).drop i ++ [l[j]] := by
  rw [List.take_succ_eq_append_getElem hj, List.drop_append_of_le_length (by rw [List.length_take]; omega)]
theorem smL_one {l : List Smp} {i : Nat} (h : i < l.length) : smL l i (i + 1) = fstL l[i] := by
  unfold smL
  rw [take_drop_snoc (Nat.le_refl _) h, List.drop_eq_nil_of_le (by rw [List.length_take]; omega)]
  simp [smpsB, smpB, fstL, vl]
  omega
theorem smL_next {l : List Smp} {i j : Nat} (hij : i < j) (hj : j < l.length) : smL l i (j + 1) = smL l i j + nxtL l[j - 1] l[j] := by
  unfold smL
  have e : (l.take j).drop i = (l.take (j - 1)).drop i ++ [l[j - 1]] := by
    have := take_drop_snoc (l := l) (i := i) (j := j - 1) (by omega) (by omega)
    rwa [show j - 1 + 1 = j by omega] at this
  rw [take_drop_snoc (by omega) hj, smpsB_snoc, List.length_append]
  have hl : ((⟨0, 0, 0⟩ : Smp) :: (l.take j).drop i).getLast (by simp) = l[j - 1] := by
    rw [List.getLast_cons (by rw [e]; simp)]
    simp [e]
  rw [hl]
  simp [smpB, nxtL, vl]
  omega
theorem fst_le {s : Smp} (h : smlS s) : fstL s ≤ 18 := by
  have := smpB_len (p := ⟨0, 0, 0⟩) (s := s) (by simp [smlS]) h
  simp [smpB, List.length_append] at this
  simp [fstL, vl]
  omega
theorem nxt_le {p s : Smp} (hp : smlS p) (h : smlS s) : nxtL p s ≤ 18 := by
  have := smpB_len hp h
  simp [smpB, List.length_append] at this
  simp [nxtL, vl]
  omega
theorem cB_nn (tag : ByteArray) (l : List Smp) (i j : Nat) : 0 ≤ cB tag l i j := Int.natCast_nonneg _
theorem cB_le {tag : ByteArray} {l : List Smp} {i j : Nat} (ht : tag.size ≤ 40) (hl : ∀ s ∈ l, smlS s) (h : j ≤ i + 100) : cB tag l i j ≤ 2000 := by
  have := blockB_40 tag ((l.take j).drop i) false ht (by rw [List.length_drop, List.length_take]; omega) (fun s hs => hl s (List.mem_of_mem_take (List.mem_of_mem_drop hs)))
  unfold cB; omega
theorem ChS.nn {c : Nat → Nat → Int} (h0 : ∀ i j, 0 ≤ c i j) {i j : Nat} {x : Int} (h : ChS c i j x) : 0 ≤ x := by
  induction h with
  | nil i => exact Int.le_refl _
  | @cons i k j x h1 h2 h ih => have := h0 i k; omega
theorem chS_ones {c : Nat → Nat → Int} {n : Nat} (h1 : ∀ i, i < n → c i (i + 1) ≤ 2000) : ∀ d k, k + d = n → ∃ x, ChS c k n x ∧ x ≤ 2000 * d
  | 0, k, h => ⟨0, by rw [← h]; exact .nil k, by simp⟩
  | d + 1, k, h => by
    obtain ⟨x, g1, g2⟩ := chS_ones h1 d (k + 1) (by omega)
    have := h1 k (by omega)
    exact ⟨c k (k + 1) + x, .cons (by omega) (by omega) g1, by omega⟩
theorem isMin_bd {c : Nat → Nat → Int} {n : Nat} (h0 : ∀ i j, 0 ≤ c i j) (h1 : ∀ i, i < n → c i (i + 1) ≤ 2000) {k : Nat} {m : Int} (hk : k ≤ n) (h : IsMin c k n m) : 0 ≤ m ∧ m ≤ 2000 * (n : Int) := by
  obtain ⟨x, g1, g2⟩ := chS_ones h1 (n - k) k (by omega)
  have := h.2 x g1
  exact ⟨h.1.nn h0, by omega⟩
def sizE (tag : ByteArray) (l : List Smp) : Int := if isKey tag then serF l else 5
end Go.Proofs.YtnodfnjmhcjnfaaGreatDoor
