/- Several texts in one: Rows of bytes that a call turns: its contract in the heap's words, and what follows. No condition. -/
import Derived.Shelf.Spec.SlicesInsertGrow
import Derived.Test.YtnodfnjmhcjnfaaGreatDoorProg
import Derived.Test.YtnodfnjmhcjnfaaGreatDoorHCoreC
import Derived.Test.YtnodfnjmhcjnfaaGreatDoorHVBytes
import Derived.Shelf.SlicesE.Delete
import Derived.Test.YtnodfnjmhcjnfaaGreatDoorHVBack
import Derived.Test.YtnodfnjmhcjnfaaGreatDoorHVGA
/- Rows of bytes that a call turns: its contract in the heap's words. No condition. -/
namespace Go.Proofs.YtnodfnjmhcjnfaaGreatDoor
open Go Go.RowKit
set_option maxRecDepth 100000
set_option linter.all false
set_option maxHeartbeats 1000000
variable {H : Hp} {K : AV → Hp → Prop}
def bU (x : UInt8) : Value := .int .u8 (x.toNat : Int)
structure BRow (w w' : World) (b g cap : Nat) (l : List UInt8) : Prop where
  keep : w.grownBy w' (some b)
  place : g = b ∨ w.heap.size ≤ g
  row : ∃ cur, w'.heap[g]? = some (.cells cur 5 (0, 0)) ∧ cur.size = cap ∧ ∀ (j : Nat) (x : UInt8), l[j]? = some x → cur[j]? = some (bU x)
  len : l.length ≤ cap
  most : cap ≤ maxLen
theorem ACalls.bytes {f : FuncId} {args : List AV} {i : Nat} {els : List (List AC)} {l : List UInt8} {n : Nat} (hi : H[i]? = some (.row 5 1 els true)) (hnl : n ≤ l.length)
    (h : ∀ B w0 ι w vs, Sim B w0 ι H w → argsRel ι args vs → Calls Tryz.prog f vs w fun e w' => ∃ g cap, e = .returned (.slice (some ⟨g, 0, none⟩) n cap) ∧ BRow w w' (ι i).block g cap l)
    (hk : K (.c (.sl (some (H.length, 0)) n)) (H.set i .dead ++ [.row 5 1 (l.map encU) true])) : ACalls Tryz.prog f args H K := by
  intro B w0 ι w vs hs hr ho
  refine (h B w0 ι w vs hs hr).mono ?_
  rintro e w' ⟨g, cap, rfl, hw⟩
  obtain ⟨cur, hc1, hc2, hc3⟩ := hw.row
  have hlt := getElem?_lt hi
  have hsd := hs.dead hi rfl
  have hHb : ∀ b, some (ι i).block = some b → ¬ B b ∧ (∀ o, ι.fz b o = none) ∧ ∀ (j : Nat) (o : AObj), (H.set i .dead)[j]? = some o → o.live = true → (ι j).block ≠ b := by
    rintro b hb
    injection hb with hb
    subst hb
    refine ⟨hs.base i _ hi rfl, hs.apart i _ hi rfl, fun j o hj hl => ?_⟩
    by_cases e : i = j
    · subst e
      rw [List.getElem?_set_self hlt] at hj
      injection hj with hj; subst hj; simp [AObj.live] at hl
    · rw [List.getElem?_set_ne e] at hj
      exact Ne.symm (hs.sep i j _ o e hi rfl hj hl)
  have hsd' := hsd.grownRow hw.keep hHb
  have hgB : ¬ B g ∧ (∀ o, ι.fz g o = none) ∧ ∀ (j : Nat) (o : AObj), (H.set i .dead)[j]? = some o → o.live = true → (ι j).block ≠ g := by
    rcases hw.place with h0 | h0
    · exact hHb g (by rw [h0])
    · refine ⟨fun hk => by have := hs.big _ hk; omega, fun o => hs.fz_new h0 o, fun j o hj hl => ?_⟩
      have := AObj.holds_lt hl (hsd.obj j o hj)
      omega
  have hlen : (H.set i .dead).length = H.length := by simp
  have hfin := hsd'.add (.row 5 1 (l.map encU) true) ⟨g, 0, 1, cap⟩ hgB.1 (fun _ => hgB.2.1) hgB.2.2 (by
      intro e he
      obtain ⟨x, _, rfl⟩ := List.mem_map.1 he
      exact ⟨rfl, fun y hy => by simp only [encU, List.mem_singleton] at hy; subst hy; trivial⟩)
    ⟨rfl, by rw [List.length_map]; exact hw.len, cur, (0, 0), hc1, fun k e hke j y hj => by
      rw [List.getElem?_map] at hke
      obtain ⟨x, hx, rfl⟩ := Option.map_eq_some_iff.1 hke
      cases j with
      | zero =>
        simp only [encU, List.getElem?_cons_zero, Option.some.injEq] at hj
        subst hj
        exact ⟨bU x, by simpa using hc3 k x hx, rfl⟩
      | succ j => simp [encU] at hj, fun _ => ⟨rfl, rfl, by rw [hc2, Nat.mul_one], hw.most⟩⟩
  refine ⟨_, _, .c (.sl (some (H.length, 0)) n), _, rfl, by rw [← hlen]; exact upd_agree _ _ _, by simp, hfin, ?_, ?_, hk⟩
  · rw [← hlen]
    have hn := hw.len
    exact ⟨⟨g, 0, none⟩, by rw [upd_same]; simp, by rw [upd_same]; show 0 + n ≤ cap; omega, fun _ => by rw [upd_same]; simp [Loc.at]⟩
  · show H.length < _
    simp
end Go.Proofs.YtnodfnjmhcjnfaaGreatDoor
/- Bytes that are bent. Condition: not huge. -/
namespace Go.Proofs.YtnodfnjmhcjnfaaGreatDoor
open Go Go.RowKit
set_option maxRecDepth 100000
set_option linter.all false
set_option maxHeartbeats 2000000
variable {H : Hp} {K : AV → Hp → Prop}
theorem cloneU_a (l : List UInt8) (hl : l.length ≤ 1000000000) (hk : K (.c (clV H.length 1 (l.map encU))) (H ++ [grO 5 1 (l.map encU)])) : ACalls Tryz.prog 128 [.c (.lst 1 (l.map encU))] H K := by
  cases l with
  | nil =>
    refine acalls Tryz.func128 rfl (by kernel_rfl) (by simp (disch := first | omega | (simp only [go_sem]; first | done | omega)) only [go_sem]) (fun hH => ?_)
    simp (disch := first | omega | (simp only [go_sem]; first | done | omega)) only [go_sem]
    refine asome_i (fun b _ => ?_)
    cases b
    · simp (disch := first | omega | (simp only [go_sem]; first | done | omega)) only [go_sem]
      refine app_lst ?_
      simp (disch := first | omega | (simp only [go_sem]; first | done | omega)) only [go_sem]
      exact Ret.nil [1] (by simp) (Ret.cut hH (Nat.le_refl _) trivial (Ret.pad (Nat.le_refl _) (Ret.same (by simp) hk)))
    · simp (disch := first | omega | (simp only [go_sem]; first | done | omega)) only [go_sem]
      exact Ret.nil [1] (by simp) (Ret.pad (Nat.le_refl _) (Ret.same (by simp) hk))
  | cons x xs =>
    refine acalls Tryz.func128 rfl (by kernel_rfl) (by simp (disch := first | omega | (simp only [go_sem]; first | done | omega)) only [go_sem]) (fun hH => ?_)
    simp (disch := first | omega | (simp only [go_sem]; first | done | omega)) only [go_sem]
    refine asome_i (fun b hb => ?_)
    subst hb
    simp (disch := first | omega | (simp only [go_sem]; first | done | omega)) only [go_sem]
    refine app_lst ?_
    simp only [List.length_cons] at hl
    simp (disch := first | omega | (simp only [go_sem]; first | done | omega)) only [go_sem]
    refine Ret.pick [1] hH (Nat.le_refl _) (L := [.row 5 1 ((x :: xs).map encU) true]) rfl (by simp) (by simp [AObj.pureO, pureL, encU, AC.pure]) (v' := .c (.sl (some (H.length, 0)) (xs.length + 1))) ?_ (by simp [AV.ok, AV.ok1, AC.ok]) (by simpa [clV, grO] using hk)
    simp [AV.ren, AV.ren1, AC.ren, pickS]
end Go.Proofs.YtnodfnjmhcjnfaaGreatDoor
