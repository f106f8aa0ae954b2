/- Several texts in one: slices, and what follows. No condition. -/
import Derived.Shelf.SlicesE.Delete
import Derived.Test.YtnodfnjmhcjnfaaGreatHVInsert
import Derived.Test.YtnodfnjmhcjnfaaGreatHVBent0
import Derived.Test.YtnodfnjmhcjnfaaGreatHVNums
import Derived.Test.YtnodfnjmhcjnfaaGreatHVGC
/- slices.Delete of bytes, laid from the kit's contract. No condition. -/
namespace Go.Proofs.YtnodfnjmhcjnfaaGreat
open Go Go.RowKit Go.Shelf
def delRen : Go.Shelf.Ren := { f := fun x => match x with | 45 => 24 | n => n, t := fun x => match x with | 22 => 26 | 23 => 5 | 3 => 3 | 4 => 4 | n => n, g := fun x => x }
theorem delLay : SlLaysE.n45 Tryz.prog delRen := {
  mixed := by kernel_rfl
  f45 := ⟨(Tryz.f24).name, by kernel_rfl, by kernel_rfl⟩
  t0 := by kernel_rfl
  a0 := fun w => by kernel_rfl
  z0 := fun w => by kernel_rfl
  v0 := fun w => by kernel_rfl
  t3 := by kernel_rfl
  a3 := fun w => by kernel_rfl
  z3 := fun w => by kernel_rfl
  v3 := fun w => by kernel_rfl
  t4 := by kernel_rfl
  a4 := fun w => by kernel_rfl
  z4 := fun w => by kernel_rfl
  v4 := fun w => by kernel_rfl
  t22 := by kernel_rfl
  a22 := fun w => by kernel_rfl
  z22 := fun w => by kernel_rfl
  v22 := fun w => by kernel_rfl
  a23 := fun w => by kernel_rfl
  z23 := fun w => by kernel_rfl }
end Go.Proofs.YtnodfnjmhcjnfaaGreat
/- slices.Delete of bytes, in the heap's words. No condition. -/
namespace Go.Proofs.YtnodfnjmhcjnfaaGreat
open Go Go.RowKit Go.Shelf Go.Lib Go.Sort
set_option maxRecDepth 100000
set_option linter.all false
set_option maxHeartbeats 1000000
variable {H : Hp} {K : AV → Hp → Prop} {B : Nat → Prop} {w0 w : World} {ι : En}
def delL (l : List UInt8) (n k : Nat) : List UInt8 := l.take k ++ (l.drop (k + 1)).take (n - (k + 1)) ++ [0]
theorem del_run (b c k : Nat) (d : Array UInt8) (w : World) (hH : Holds bU w b 0 d) (hcap : d.size ≤ c) (hm : c ≤ 9223372036854775807) (hk : k < d.size) :
    Calls Tryz.prog 24 #[.slice (some ⟨b, 0, none⟩) d.size c, .int .i64 k, .int .i64 ((k + 1 : Nat) : Int)] w fun e w' => e = .returned (.slice (some ⟨b, 0, none⟩) (d.size - 1) c) ∧ ∃ q, w' = putRow bU (Sort.ahead w q) b 0 (d.toList.take k ++ d.toList.drop (k + 1) ++ [0]).toArray := by
  obtain ⟨i0, hi0, hz1⟩ : ∃ i0, Tryz.prog.info? 5 = some i0 ∧ i0.size = 1 := by
    have q2 : (Tryz.prog.info? 5).map (·.size) = some 1 := by kernel_rfl
    cases hq : Tryz.prog.info? 5 with
    | none => rw [hq] at q2; cases q2
    | some i0 => rw [hq] at q2; exact ⟨i0, rfl, by simpa using q2⟩
  have h := AnyE.slices_Delete delLay bU (fun _ => rfl) (0 : UInt8) (fun w => by kernel_rfl) i0 hi0 hz1 b 0 c k (k + 1) d w hH hcap hm (by omega) (by omega)
  rw [Nat.add_sub_cancel_left] at h
  exact h
theorem put_row {w : World} {b : Nat} {cur : Array Value} {d : Array UInt8} {q : Nat} (h : w.heap[b]? = some (.cells cur 5 (0, 0))) :
    ∃ cur', (putRow bU (Sort.ahead w q) b 0 d).heap[b]? = some (.cells cur' 5 (0, 0)) ∧ cur'.size = cur.size ∧ ∀ (j : Nat) (y : UInt8), d[j]? = some y → j < cur.size → cur'[j]? = some (bU y) := by
  refine ⟨putCells bU 0 d cur, ?_, by simp [putCells], fun j y hj hlt => ?_⟩
  · show (Array.modify _ _ _)[b]? = _
    rw [Array.getElem?_modify, if_pos rfl]
    show Option.map _ w.heap[b]? = _
    rw [h]; rfl
  · have hjd : j < d.size := (Array.getElem?_eq_some_iff.1 hj).1
    have e1 : d[j] = y := by rw [Array.getElem?_eq_getElem hjd] at hj; simpa using hj
    simp [putCells, hlt, hjd, e1]
theorem put_grown {w : World} {b q : Nat} {d : Array UInt8} : w.grownBy (putRow bU (Sort.ahead w q) b 0 d) (some b) := by
  refine ⟨rfl, rfl, rfl, ?_, fun k hk hne => ?_⟩
  · show w.heap.size ≤ (Array.modify _ _ _).size
    rw [Array.size_modify]; exact Nat.le_refl _
  · show (Array.modify w.heap b _)[k]? = _
    rw [Array.getElem?_modify, if_neg (fun e => hne (by rw [e]))]
theorem delete_a {i : Nat} (l : List UInt8) (n k : Nat) (hi : H[i]? = some (.row 5 1 (l.map encU) true)) (hn : n ≤ l.length) (hkn : k < n)
    (hk : K (.c (.sl (some (H.length, 0)) (n - 1))) (H.set i .dead ++ [.row 5 1 ((delL l n k).map encU) true])) : ACalls Tryz.prog 24 [.c (.sl (some (i, 0)) n), (.c (.int .i64 k)), (.c (.int .i64 ((k : Int) + 1)))] H K := by
  have hll : (delL l n k).length = n := by simp [delL]; omega
  refine ACalls.bytes hi (by rw [hll]; omega) (fun B w0 ι w vs hs hr => ?_) hk
  obtain ⟨cur, a1, a2, a3, a4, a5, a6, a7⟩ := own_row hs hi
  rw [List.length_map] at a3
  obtain ⟨vl⟩ := vs
  match vl, hr with
  | [v1, v2, v3], hr =>
    obtain ⟨⟨p1, rfl, g1, g2⟩, rfl, rfl, _⟩ := hr
    have g2 := g2 (.inr rfl)
    simp only [Loc.at, a5, a6, Nat.zero_mul, Nat.add_zero, Nat.zero_add] at g2
    subst g2
    rw [Nat.sub_zero]
    generalize hb1 : (ι i).block = b at *
    generalize (ι i).cap = c at *
    have hcur : ∀ (m : Nat) (y : UInt8), l[m]? = some y → cur[m]? = some (bU y) := fun m y hm => by
      obtain ⟨u, h1, h2⟩ := a7 m (encU y) (by rw [List.getElem?_map, hm]; rfl) _ rfl
      rw [h1]
      exact congrArg some h2
    obtain ⟨d, hd⟩ : ∃ d, d = (l.take n).toArray := ⟨_, rfl⟩
    have hds : d.size = n := by rw [hd]; simp; omega
    have hH : Holds bU w b 0 d := fun m hm => by
      rw [Nat.zero_add]
      refine ⟨?_, by simp [World.frozen?, a1]⟩
      rw [cell_at a1]
      refine hcur m _ ?_
      rw [getElem!_pos d m hm]
      subst hd
      simp at hm ⊢
    have h := del_run b c k d w hH (by omega) (by unfold maxLen at a4; omega) (by omega)
    rw [hds] at h
    refine h.mono ?_
    rintro e w' ⟨rfl, q, rfl⟩
    have hdl : (d.toList.take k ++ d.toList.drop (k + 1) ++ [0]) = delL l n k := by
      subst hd
      simp only [delL, List.toList_toArray]
      rw [List.take_take, Nat.min_eq_left (by omega), List.drop_take]
    rw [hdl]
    obtain ⟨cur', r1, r2, r3⟩ := put_row (d := (delL l n k).toArray) (q := q) a1
    exact ⟨b, c, rfl, put_grown, .inl rfl, ⟨cur', r1, by rw [r2, a2], fun j y hj => r3 j y (by simpa using hj) (by have := getElem?_lt hj; omega)⟩, by omega, a4⟩
end Go.Proofs.YtnodfnjmhcjnfaaGreat
/- A number as a byte. No condition. -/
namespace Go.Proofs.YtnodfnjmhcjnfaaGreat
open Go Go.RowKit
theorem wrapU (r : Int) : ∃ x : UInt8, IntKind.u8.wrap r = (x.toNat : Int) := by
  have h : 0 ≤ IntKind.u8.wrap r ∧ IntKind.u8.wrap r < 256 := by rw [IntKind.wrap_u8]; omega
  exact ⟨u8I (IntKind.u8.wrap r), (u8I_toNat _ h).symm⟩
end Go.Proofs.YtnodfnjmhcjnfaaGreat
/- Bytes that are bent. Condition: not huge. -/
namespace Go.Proofs.YtnodfnjmhcjnfaaGreat
open Go Go.RowKit
set_option maxRecDepth 100000
set_option linter.all false
set_option maxHeartbeats 2000000
variable {H : Hp} {K : AV → Hp → Prop}
theorem cloneU_a (l : List UInt8) (hl : l.length ≤ 1000000000) (hk : K (.c (clV H.length 1 (l.map encU))) (H ++ [grO 5 1 (l.map encU)])) : ACalls Tryz.prog 20 [.c (.lst 1 (l.map encU))] H K := by
  cases l with
  | nil =>
    refine acalls Tryz.func20 rfl (by kernel_rfl) (by simp (disch := first | omega | (simp only [go_sem]; first | done | omega)) only [go_sem]) (fun hH => ?_)
    simp (disch := first | omega | (simp only [go_sem]; first | done | omega)) only [go_sem]
    refine asome_i (fun b _ => ?_)
    cases b
    · simp (disch := first | omega | (simp only [go_sem]; first | done | omega)) only [go_sem]
      refine app_lst ?_
      simp (disch := first | omega | (simp only [go_sem]; first | done | omega)) only [go_sem]
      exact Ret.nil [1] (by simp) (Ret.cut hH (Nat.le_refl _) trivial (Ret.pad (Nat.le_refl _) (Ret.same (by simp) hk)))
    · simp (disch := first | omega | (simp only [go_sem]; first | done | omega)) only [go_sem]
      exact Ret.nil [1] (by simp) (Ret.pad (Nat.le_refl _) (Ret.same (by simp) hk))
  | cons x xs =>
    refine acalls Tryz.func20 rfl (by kernel_rfl) (by simp (disch := first | omega | (simp only [go_sem]; first | done | omega)) only [go_sem]) (fun hH => ?_)
    simp (disch := first | omega | (simp only [go_sem]; first | done | omega)) only [go_sem]
    refine asome_i (fun b hb => ?_)
    subst hb
    simp (disch := first | omega | (simp only [go_sem]; first | done | omega)) only [go_sem]
    refine app_lst ?_
    simp only [List.length_cons] at hl
    simp (disch := first | omega | (simp only [go_sem]; first | done | omega)) only [go_sem]
    refine Ret.pick [1] hH (Nat.le_refl _) (L := [.row 5 1 ((x :: xs).map encU) true]) rfl (by simp) (by simp [AObj.pureO, pureL, encU, AC.pure]) (v' := .c (.sl (some (H.length, 0)) (xs.length + 1))) ?_ (by simp [AV.ok, AV.ok1, AC.ok]) (by simpa [clV, grO] using hk)
    simp [AV.ren, AV.ren1, AC.ren, pickS]
end Go.Proofs.YtnodfnjmhcjnfaaGreat
