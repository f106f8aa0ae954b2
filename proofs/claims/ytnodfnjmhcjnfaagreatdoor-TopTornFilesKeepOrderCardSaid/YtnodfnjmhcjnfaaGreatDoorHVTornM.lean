/- A torn file: what is recovered of it is the front of what there was. No program in sight. -/
import Derived.Test.YtnodfnjmhcjnfaaGreatDoorHVBlkR
import Derived.Test.YtnodfnjmhcjnfaaGreatDoorHVRecR
import Derived.Test.YtnodfnjmhcjnfaaGreatDoorHVGF
namespace Go.Proofs.YtnodfnjmhcjnfaaGreatDoor
open Go Go.RowKit
set_option maxRecDepth 100000
set_option linter.all false
set_option maxHeartbeats 2000000
def tgA : ByteArray := ⟨#[116, 97]⟩
theorem key_tgA : isKey tgA := by decide +kernel
theorem torn_law {a : List Smp} (h0 : serF a = 0) (hl : a.length ≤ 205) {b : List UInt8} (hb : b = appB [] tgA a) (c : Nat) (hc : c ≤ b.length) :
    ∃ (R : List UInt8) (n : Int) (X Y : List Smp), recR (b.take c) = (R, n, 0) ∧ R.length ≤ 100000 ∧ 0 ≤ n ∧ n ≤ 100000 ∧ (par R).2.2 = 0 ∧ a = X ++ Y ∧ qryF (par R).1 tgA 0 345686400000 = X := by
  have hres := FGood.nil.res (by omega) key_tgA h0 hl
  have he : (appRes [] tgA a).2 = 0 := by rw [hres]
  obtain ⟨h1, h2, _⟩ := append_par he
  have hG := FGood.nil.app hl he
  rw [hres] at h1 h2 hG
  dsimp only at h1 h2 hG
  rw [← hb] at h1 h2 hG
  have hbl : b.length ≤ 100000 := by have := hG.2.1; omega
  have hris := ((serP_iff a).1 h0).2.2
  have hpb : (parG b 0 []).2.2 = 0 := by rw [← par_G h2]; exact hG.1
  obtain ⟨A, B, q, f1, f2, f3, f4, f5, f6, f7, f8⟩ := cut_par h2 c hc b.length 0 [] (by omega) (by omega) hpb
  rw [List.nil_append] at f1 f3 f8
  have htl : (b.take c).length = c := by rw [List.length_take]; omega
  have hpc : par (b.take c) = parG (b.take c) 0 [] := par_G (by omega)
  have hpq : par (b.take q) = (A, q, 0) := by rw [par_G (by rw [List.length_take]; omega)]; exact f8
  have hrl : ((b.take c).take q) = b.take q := by rw [List.take_take, Nat.min_eq_left f5]
  have hAB : A ++ B = newP [] tgA a := by
    rw [← f3, ← par_G h2, h1]
    rfl
  have hsplit : a = A.flatMap (fun x => x.ss) ++ B.flatMap (fun x => x.ss) := by
    rw [← List.flatMap_append, hAB, newP_flat hris]
  have hmom := ser_mom h0
  refine ⟨b.take q, (c : Int) - q, A.flatMap (fun x => x.ss), B.flatMap (fun x => x.ss), ?_, by rw [List.length_take]; omega, by omega, by omega, by rw [hpq], hsplit, ?_⟩
  · unfold recR
    rw [if_neg (by omega), hpc, f2, hrl, htl]
  · rw [hpq]
    unfold qryF
    dsimp only
    rw [flat_tag (tag := tgA) (fun x hx => newP_tag x (by rw [← hAB]; exact List.mem_append_left _ hx)) (fun y hy => hmom y (by rw [hsplit]; exact List.mem_append_left _ hy))]
    refine ser_idem ?_
    have := hris
    rw [hsplit] at this
    exact (List.pairwise_append.1 this).1
def fromF (X : List Smp) : Int := if X.length = 0 then 0 else (X.getLastD ⟨0, 0, 0⟩).t + 1
theorem again_law {X Y : List Smp} (h : serF (X ++ Y) = 0) : withinF (X ++ Y) ⟨fromF X, 345686400000⟩ = Y ∧ winE ⟨fromF X, 345686400000⟩ = 0 := by
  have hmom := ser_mom h
  have hris := ((serP_iff _).1 h).2.2
  obtain ⟨r1, r2, r3⟩ := List.pairwise_append.1 hris
  have hlast : ∀ x ∈ X, x.t < fromF X := by
    intro x hx
    unfold fromF
    rw [if_neg (by intro e; rw [List.length_eq_zero_iff] at e; subst e; cases hx)]
    have hne : X ≠ [] := by rintro rfl; cases hx
    obtain ⟨Z, z, rfl⟩ : ∃ Z z, X = Z ++ [z] := ⟨X.dropLast, X.getLast hne, (List.dropLast_concat_getLast hne).symm⟩
    have e : (Z ++ [z]).getLastD ⟨0, 0, 0⟩ = z := by simp
    rw [e]
    rcases List.mem_append.1 hx with hx | hx
    · have := (List.pairwise_append.1 r1).2.2 x hx z (by simp)
      omega
    · obtain rfl := List.mem_singleton.1 hx
      omega
  have hfrom : 0 ≤ fromF X ∧ fromF X ≤ 345686400000 := by
    unfold fromF
    split
    · omega
    · rename_i hX
      have := hmom _ (List.mem_append_left Y (last_mem (l := X) (by omega)))
      omega
  have hge : ∀ y ∈ Y, fromF X ≤ y.t := by
    intro y hy
    unfold fromF
    split
    · exact (hmom y (List.mem_append_right _ hy)).1
    · rename_i hX
      have := r3 _ (last_mem (l := X) (by omega)) y hy
      omega
  constructor
  · unfold withinF
    rw [List.filter_append]
    have e1 : X.filter (fun x => decide (fromF X ≤ x.t ∧ x.t < 345686400000)) = [] := List.filter_eq_nil_iff.2 (fun x hx => by have := hlast x hx; simp; omega)
    have e2 : Y.filter (fun x => decide (fromF X ≤ x.t ∧ x.t < 345686400000)) = Y := List.filter_eq_self.2 (fun y hy => decide_eq_true ⟨hge y hy, (hmom y (List.mem_append_right _ hy)).2⟩)
    show X.filter (fun x => decide (fromF X ≤ x.t ∧ x.t < 345686400000)) ++ Y.filter (fun x => decide (fromF X ≤ x.t ∧ x.t < 345686400000)) = Y
    rw [e1, e2]
    rfl
  · unfold winE
    dsimp only
    rw [if_neg (by omega)]
end Go.Proofs.YtnodfnjmhcjnfaaGreatDoor
