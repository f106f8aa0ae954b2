/- OrderIsPossible: what the law's function answers for all numbers it is given. No condition. -/
import Derived.Test.YtagoolooikpabaaGreatDoorHVPosW
import Derived.Test.YtagoolooikpabaaGreatDoorHVCld
import Derived.Test.YtagoolooikpabaaGreatDoorHVFar
import Derived.Test.YtagoolooikpabaaGreatDoorHVReady
set_option linter.all false
namespace Go.Proofs.YtagoolooikpabaaGreatDoor
open Go Go.RowKit
set_option maxRecDepth 100000
set_option maxHeartbeats 4000000
variable {H : Hp} {K : AV → Hp → Prop}
structure PosOk (cs : List Cal) (y o : List Nme) (ec : Int) : Prop where
 ord : ordE (orderG (nmC cs) (kidC cs)) = .tup [.c (.lst 1 (o.map encSs)), (.c (.int .i64 ec))]
 one : ec = 0 ∨ ec = 14
 cyc : decide ((y.length : Int) = 0) = decide (ec = 0)
 all : ec = 0 → o.length = cs.length
 len : o.length ≤ 1000
 nodup : o.Nodup
 mem : ∀ x ∈ o, x ∈ nmC cs
 tags : ∀ (i : Nat) (h : i < o.length), ∀ t ∈ tgC cs o[i], t ∈ nmC cs → t ∈ o.take i
 aft : ∀ (i : Nat) (h : i < o.length), Aft o i (affR o[i] cs)
theorem posOk {cs : List Cal} (hF : clF cs = 0) (hl : cs.length ≤ 1000) : ∃ o ec, PosOk cs (cycG (nmC cs) (kidC cs)) o ec := by
 have h := ord_or_cyc hF
 cases ho : orderG (nmC cs) (kidC cs) with
 | none =>
  rw [ho] at h
  have hc : cycG (nmC cs) (kidC cs) ≠ [] := by simpa using h.symm
  have hcl := List.length_pos_iff.2 hc
  exact ⟨[], 14, by rw [ho]; rfl, .inr rfl, by rw [decide_eq_false (by omega)]; rfl, fun h => absurd h (by decide), by simp, List.nodup_nil, by simp, fun i h => absurd h (by simp), fun i h => absurd h (by simp)⟩
 | some o =>
  rw [ho] at h
  have hc : cycG (nmC cs) (kidC cs) = [] := by simpa using h.symm
  obtain ⟨⟨k1, k2, k3⟩, k4⟩ := orderG_ok ho
  have k5 : o.length = cs.length := by rw [k4]; unfold nmC; rw [List.length_map]
  exact ⟨o, 0, by rw [ho]; rfl, .inl rfl, by rw [hc]; rfl, fun _ => k5, by omega, k1, k2, fun i hi t h1 h2 => ord_tags ho hi h1 h2, fun i hi => aft_R hF ho hi⟩
theorem affR_len (t : Nme) (cs : List Cal) : (affR t cs).length ≤ cs.length := by
 have h := List.length_filter_le (fun x => decide (x ∈ affG t cs)) (nmC cs)
 unfold affR
 have : (nmC cs).length = cs.length := by unfold nmC; rw [List.length_map]
 omega
theorem cyc_len {cs : List Cal} : (cycG (nmC cs) (kidC cs)).length ≤ cs.length + 1 := by
 by_cases h : cycG (nmC cs) (kidC cs) = []
 ·rw [h]; simp
 ·obtain ⟨n, x, hx, g⟩ := cycG_row h
  obtain ⟨h1, h2, _⟩ := clos_row (N := nmC cs) (fun s _ k hk => kidC_mem hk) _ _ _ _ (by simp) (by simpa using hx) hx g
  have := nodup_len h1 h2
  have h3 : (nmC cs).length = cs.length := by unfold nmC; rw [List.length_map]
  omega
theorem chain_next {cs : List Cal} {y : List Nme} (hc : Chain (kidC cs) y) {k : Nat} (h : k < y.length) : ∃ q : Nat, ∃ hq : q < y.length, ((k : Int) + 1) % (y.length : Int) = (q : Int) ∧ y[q] ∈ tgC cs y[k] :=
 ⟨(k + 1) % y.length, Nat.mod_lt _ (by omega), by first | (push_cast; rfl) | (norm_cast) | (simp [Int.natCast_emod]), chain_kid hc h⟩
theorem orderIsPossible_a (zs : List Int) (hz : zs.length ≤ 9223372036854775807) (hk : K (.c (.bool true)) H) : ACalls Tryz.prog 5 [.c (.lst 1 (zs.map encI))] H K := by
 have st : ∀ (k : Int) (L : Hp), 0 ≤ k → k ≤ 1000000000 → Str (H ++ strO zs k :: L) H.length zs k := fun k L h1 h2 => ⟨hz, h1, by omega, by simp⟩
 have he1 : entersB Tryz.prog 32 = true := by kernel_rfl
 have he2 : entersB Tryz.prog 37 = true := by kernel_rfl
 refine acalls Tryz.func5 rfl (by kernel_rfl) (by simp (disch := first | omega | (simp only [go_sem]; try omega)) only [go_sem]) (fun hH => ?_)
 simp (disch := first | omega | (simp only [go_sem]; try omega)) only [go_sem]
 refine calcs_a H.length zs 0 (st _ _ (by omega) (by omega)) (by omega) (fun cs j1 g1 g2 g3 g4 => ?_)
 have hs : ∀ x ∈ cs, x.fine := fun x hx => by
  have := g4 x hx
  exact ⟨by omega, by show (tL x.ex).length ≤ 1000000; have h2 : (tL x.ex).length = x.ex.size := rfl; omega⟩
 simp (disch := first | omega | (simp only [go_sem]; try omega)) only [go_sem]
 refine calcsFault_a cs (by omega) hs ?_
 by_cases hF : clF cs = 0
 ·obtain ⟨o, ec, hP⟩ := posOk hF (by omega)
  have hyl := cyc_len (cs := cs)
  have hch := cycG_chain (nmC cs) (kidC cs)
  obtain ⟨p1, p2, p3, p4, p5, p6, p7, p8, p9⟩ := hP
  rw [hF]
  simp (disch := first | omega | (simp only [go_sem]; try omega)) only [go_sem]
  refine orderTop_a cs (by omega) hs (fun h => absurd hF h) (fun _ => ?_)
  rw [p1]
  simp (disch := first | omega | (simp only [go_sem]; try omega)) only [go_sem]
  refine cycle_a cs (by omega) hs (fun h => absurd hF h) (fun _ => ?_)
  generalize cycG (nmC cs) (kidC cs) = y at *
  rcases p2 with rfl | rfl
  all_goals (
   simp (disch := first | omega | (simp only [go_sem]; try omega)) only [go_sem, p3, he1]
   refine AWp.loop (H.length + 3) [4, 5, 6, 7, 9, 56, 57] [58] (fun (k : Nat) => k ≤ y.length) (fun (k : Nat) => [(58, (.c (.int .i64 k)))]) (fun (k : Nat) => H ++ [strO zs j1, .row 26 1 [[.lst 2 (cs.map encCl)]] true, .row 29 1 [[.lst 1 (o.map encSs)]] true]) (fun (k : Nat) => y.length - k) (by kernel_rfl) (fun _ => rfl) (by kernel_rfl) (by first | (simp; done) | omega) (by first | (simp; done) | (simp; omega) | omega) kl ?_ (fun k hk1 _ _ => ?_)
   ·exact Next.mk 0 (Nat.zero_le _) wk
   by_cases hlt : k < y.length
   ·obtain ⟨q, hml, hmod, hkid⟩ := chain_next hch hlt
    have hfst := chain_first hch hlt
    have hlt2 : Op.bytesLess y[k].toList (y[0]'(by omega)).toList = false := by
     rw [lt_ord]
     exact decide_eq_false hfst
    have htl := tgC_len hF y[k]
    have hy0 : ¬ ((y.length : Int) = 0) := by omega
    simp (disch := first | omega | (simp only [go_sem]; try omega)) only [go_sem, hlt, he1]
    refine w_tree (.one 0 (.one 1 (.one 3 (.one 4 (.one 5 (.one 6 (.one 7 (.one 8 (.two 2 (.one 9 (.one 10 (.one 11 (.one 12 (.one 13 (.one 14 (.one 15 (.one 16 (.one 17 (.one 18 (.one 19 .done))))))))))) 9 (.two 2 (.one 10 (.one 11 (.one 12 (.one 13 (.one 14 (.one 15 (.one 16 (.one 17 (.one 18 (.one 19 .done)))))))))) 10 (.one 2 (.one 11 (.one 12 (.one 13 (.one 14 (.one 15 (.one 16 (.one 17 (.one 18 (.one 19 .done)))))))))))))))))))) (by kernel_rfl) (by decide +kernel) ?_
    simp (disch := first | omega | (simp only [go_sem]; try omega)) only [go_sem, hlt, he1]
    repeat' first | (refine tgs1_a hF hs (b := H.length + 1) (by first | ((repeat first | exact at0 (by simp) | refine atS ?_); done) | assumption) y[k] ?_; simp (disch := first | omega | (simp only [go_sem]; try omega)) only [go_sem, hlt, hmod, hml, hy0]) | (refine hasSx_a (tgC cs y[k]) _ (by omega) ?_; rw [decide_eq_true hkid]; simp (disch := first | omega | (simp only [go_sem]; try omega)) only [go_sem, hlt, hlt2]) | (exact Next.mk (k + 1) ⟨by omega, by omega⟩ wk) | apply And.intro
   ·simp (disch := first | omega | (simp only [go_sem]; try omega)) only [go_sem, hlt]
    refine AWp.loop (H.length + 3) [4, 5, 6, 9, 84, 85] [86] (fun (i : Nat) => i ≤ o.length) (fun (i : Nat) => [(86, (.c (.int .i64 i)))]) (fun (i : Nat) => H ++ [strO zs j1, .row 26 1 [[.lst 2 (cs.map encCl)]] true, .row 29 1 [[.lst 1 (o.map encSs)]] true]) (fun (i : Nat) => o.length - i) (by kernel_rfl) (fun _ => rfl) (by kernel_rfl) (by first | (simp; done) | omega) (by first | (simp; done) | (simp; omega) | omega) kl ?_ (fun i hi1 _ _ => ?_)
    ·exact Next.mk 0 (Nat.zero_le _) wk
    by_cases hli : i < o.length
    ·have htg := p8 i hli
     have haf := p9 i hli
     have htl := tgC_len hF o[i]
     have hon := p7 o[i] (List.getElem_mem hli)
     obtain ⟨x, hx, hxe⟩ := List.mem_map.1 hon
     have hkey : isKey o[i] := hxe ▸ ((clF_ok hF).2.1 x hx).1.1
     have hosz : o[i].size ≤ 10 := hxe ▸ (g4 x hx).1
     have hal := affR_len o[i] cs
     simp (disch := first | omega | (simp only [go_sem]; try omega)) only [go_sem, hli, he1]
     refine tgs1_a hF hs (b := H.length + 1) (by first | ((repeat first | exact at0 (by simp) | refine atS ?_); done) | assumption) o[i] ?_
     generalize tgC cs o[i] = ts at *
     simp (disch := first | omega | (simp only [go_sem]; try omega)) only [go_sem, hli]
     refine AWp.loop (H.length + 4) [4, 5, 6, 9, 12, 13, 84, 85, 86, 93, 94] [95] (fun (k : Nat) => k ≤ ts.length) (fun (k : Nat) => [(95, (.c (.int .i64 k)))]) (fun (k : Nat) => H ++ [strO zs j1, .row 26 1 [[.lst 2 (cs.map encCl)]] true, .row 29 1 [[.lst 1 (o.map encSs)]] true, .row 3 1 [[.int .i64 i]] true]) (fun (k : Nat) => ts.length - k) (by kernel_rfl) (fun _ => rfl) (by kernel_rfl) (by first | (simp; done) | omega) (by first | (simp; done) | (simp; omega) | omega) kl ?_ (fun k hk1 _ _ => ?_)
     ·exact Next.mk 0 (Nat.zero_le _) wk
     by_cases hlk : k < ts.length
     ·have htk := htg ts[k] (List.getElem_mem hlk)
      simp (disch := first | omega | (simp only [go_sem]; try omega)) only [go_sem, hlk]
      refine calAt_a cs ts[k] (by omega) (fun hn => ?_) (fun q hq1 hq2 hq3 => ?_)
      ·simp (disch := first | omega | (simp only [go_sem]; try omega)) only [go_sem]
       exact Next.mk (k + 1) ⟨by omega, by omega⟩ wk
      ·have hin : ts[k] ∈ o.take i := htk (hq2 ▸ nmC_mem (List.getElem_mem hq1))
       simp (disch := first | omega | (simp only [go_sem]; try omega)) only [go_sem]
       rw [Nat.sub_zero, ← List.map_take]
       refine hasSx_a (o.take i) ts[k] (by rw [List.length_take]; omega) ?_
       rw [decide_eq_true hin]
       simp (disch := first | omega | (simp only [go_sem]; try omega)) only [go_sem]
       exact Next.mk (k + 1) ⟨by omega, by omega⟩ wk
     ·simp (disch := first | omega | (simp only [go_sem]; try omega)) only [go_sem, hlk]
      refine affects_a cs (by omega) hs o[i] (by omega) (fun h => absurd hF h) (fun _ h => absurd hkey h) (fun _ _ => ?_)
      simp (disch := first | omega | (simp only [go_sem]; try omega)) only [go_sem, he2]
      refine contLstSx_a _ [(H.length + 2, 0, 0), (H.length + 3, 0, 0)] (fun _ => false) he2 (by intro p q r h; simp at h; simp; omega) (affR o[i] cs) (fun t K ht hK => ?_) (by omega) ?_
      ·obtain ⟨j, hj, hij, e⟩ := haf t ht
       rw [← e]
       exact aft1_a p6 p5 hij hj (a := H.length + 2) (b := H.length + 3) (by first | ((repeat first | exact at0 (by simp) | refine atS ?_); done) | assumption) (by first | ((repeat first | exact at0 (by simp) | refine atS ?_); done) | assumption) hK
      ·rw [List.any_eq_false.2 (fun _ _ => by simp)]
       simp (disch := first | omega | (simp only [go_sem]; try omega)) only [go_sem]
       exact Next.mk (i + 1) ⟨by omega, by omega⟩ wk
    ·simp (disch := first | omega | (simp only [go_sem]; try omega)) only [go_sem, hli]
     first | (have hol := p4 rfl; simp (disch := first | omega | (simp only [go_sem]; try omega)) only [go_sem, hol]) | skip
     refine ready_a ?_
     simp (disch := first | omega | (simp only [go_sem]; try omega)) only [go_sem]
     exact Ret.drop hH (Nat.le_refl _) trivial hk)
 ·simp (disch := first | omega | (simp only [go_sem]; try omega)) only [go_sem, hF]
  refine ready_a ?_
  simp (disch := first | omega | (simp only [go_sem]; try omega)) only [go_sem]
  exact Ret.drop hH (Nat.le_refl _) trivial hk
end Go.Proofs.YtagoolooikpabaaGreatDoor
