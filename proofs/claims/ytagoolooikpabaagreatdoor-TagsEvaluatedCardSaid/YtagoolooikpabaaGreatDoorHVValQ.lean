/- The document's ValuesOf: what it answers. Condition: the calculated tags and the series are right, and there is an order. -/
import Derived.Test.YtagoolooikpabaaGreatDoorHVVal
import Derived.Test.YtagoolooikpabaaGreatDoorHVVlq
import Derived.Test.YtagoolooikpabaaGreatDoorHVShq
set_option linter.all false
namespace Go.Proofs.YtagoolooikpabaaGreatDoor
open Go Go.RowKit
set_option maxRecDepth 100000
set_option maxHeartbeats 4000000
variable {H : Hp} {K : AV → Hp → Prop}
theorem WkL.frzGrV {A : Hp} {n ty sz : Nat} {l : List (List AC)} (hA : HOk A) (hn : n ≤ A.length) (hp : pureL l = true) : WkL n [.c (grV A.length l)] (A ++ [grO ty sz l]) [.c (.lst sz l)] A := by
 cases l with
 | nil =>
  have h1 : WkL n [.c (.sl none 0)] (A ++ [AObj.dead]) [(AV.c (.sl none 0)).nilz [sz]] (A ++ [AObj.dead]) := by
   intro B w0 ι w us hs hr ho
   match us, hr with
   | [u], hr =>
    obtain ⟨h1, h2⟩ := AV.nilz_rel [sz] hr.1 (ho (.c (.sl none 0)) sMp)
    exact ⟨ι, Agree.refl _ _, by simp; omega, hs, ⟨h1, trivial⟩, by intro x hx; rw [List.mem_singleton] at hx; subst hx; exact h2⟩
  exact h1.trans (WkL.drop hA hn (by simp [AV.nilz, AC.nilz, AV.ok, AV.ok1, AC.ok]))
 | cons x xs => exact WkL.frzCl1 hA hn hp
theorem valQAsk_a {cs : List Cal} {ss : List Ser} {A C X G : Hp} {v : Nat} (hE : SvAt cs ss A C v) (x : List UInt8) (m : Int) (hX : svT cs ss A C X) (hx : x.length ≤ 40) (h0 : 0 ≤ m) (h1 : m ≤ 1000000000000) (hk : ∀ M, K (.agg (encV (valL cs (lkF ss) x m))) (memT A C (svQ cs ss) M ++ G)) : ACalls Tryz.prog 85 [.c (.ptr (some (v, 0, 0))), (.c (.str (tB x))), (.c (.int .i64 m))] (X ++ G) K :=
 (serveQ_a hE).ask X G K x m hX trivial hx oMg h1 (by
  rintro _ ⟨M, rfl⟩
  have e : valQ cs ss x m = valL cs (lkF ss) x m := if_neg oMg
  rw [e]
  exact hk M)
theorem qwords_a (hk : K (.c (.lst 1 [[.str (tB [103, 111, 111, 100])], [.str (tB [117, 110, 99, 101, 114, 116, 97, 105, 110])], [.str (tB [98, 97, 100])]])) H) : ACalls Tryz.prog 86 [] H K := by
 refine acalls Tryz.func86 rfl kRf gT (fun hH => ?_)
 refine gO ?_
 exact Ret.frzRow 0 hH lRf rfl rfl rfl rfl hk
theorem valuesOf_a {cs : List Cal} {ss : List Ser} {o : List Nme} (hF : clF cs = 0) (hs : ∀ x ∈ cs, x.fine) (hS : slF ss = 0) (ho : orderG (nmC cs) (kidC cs) = some o) (m : Int) (hm : 0 ≤ m ∧ m ≤ 345686399999)
  (hk0 : shR cs o = none → K (.tup [.c (.lst 2 []), (.c (.int .i64 12))]) H) (hk1 : ∀ R, shR cs o = some R → K (.tup [.c (.lst 2 ((cs.map (prV cs ss m)).map encPr)), (.c (.int .i64 0))]) H) : ACalls Tryz.prog 29 [.c (.lst 2 (cs.map encCl)), .c (.lst 2 (ss.map encSr)), (.c (.int .i64 m))] H K := by
 have hcl := (clF_ok hF).1
 have hnl : (nmC cs).length = cs.length := by unfold nmC; rw [List.length_map]
 refine acallsS Tryz.func29 rfl gT (fun hH => ?_)
 (refine SWp.go kRf ?_; refine gO ?_)
 (refine SWp.go kRf ?_; refine gO ?_)
 refine SWp.cut (H.length) [0, 1, 2] [8] (fun (_u : Unit) => True) (fun (_u : Unit) => [(8, .c (.lst 1 ((nmC cs).map encSs)))]) (fun (_u : Unit) => H) (fun _ => rfl) kRf sOo sOm kl ?_ (fun _ _ _ _ => ?_)
 ·refine SWp.of kRf ?_
  refine gO ?_
  refine AWp.loop (H.length) [0, 1, 2, 16, 17] [18, 8] (fun (k : Nat) => k ≤ cs.length) (fun (k : Nat) => [(18, (.c (.int .i64 k))), (8, .c (grV H.length ((nmC cs).take k)))]) (fun (k : Nat) => H ++ [grO 9 1 (((nmC cs).take k).map encSs)]) (fun (k : Nat) => cs.length - k) kRf (fun _ => rfl) kRf sOo sOm kl ?_ (fun k hk1 _ _ => ?_)
  ·refine Next.mk 0 (Nat.zero_le _) ?_
   exact WkL.pad lRf
  by_cases hlt : k < cs.length
  ·have htk : (nmC cs).take (k + 1) = (nmC cs).take k ++ [cs[k].tg] := by rw [List.take_succ_eq_append_getElem oMg]; unfold nmC; simp
   have hul : ((nmC cs).take k).length = k := by rw [List.length_take]; omega
   generalize (nmC cs).take k = us at *
   simp (disch := first | omega | (simp only [go_sem]; try omega)) only [go_sem, hlt]
   refine appSs us cs[k].tg _ rfl (by first | ((repeat first | exact at0 (by simp) | refine atS ?_); done) | assumption) (by first | ((repeat first | exact at0 (by simp) | refine atS ?_); done) | assumption) (by omega) ?_
   refine gO ?_
   refine Next.mk (k + 1) ⟨by omega, by omega⟩ ?_
   rw [htk]
   exact ow
  ·have htl : (nmC cs).take k = nmC cs := List.take_of_length_le oMg
   rw [htl]
   refine gO1 hlt ?_
   refine Next.mk () trivial ?_
   have e2 := WkL.frzGrV (A := H) (n := H.length) (ty := 9) (sz := 1) (l := (nmC cs).map encSs) hH lRf (pureL_map _ pUr)
   rw [map_grV] at e2
   exact e2
 obtain ⟨⟨k1, k2, k3⟩, k4⟩ := orderG_ok ho
 have hall := nodup_all k1 k2 oMg
 have hsame : shR cs (nmC cs) = none ↔ shR cs o = none := shR_same (fun t => ⟨hall t, k2 t⟩)
 refine SWp.cut (H.length) [0, 1, 2, 8] [] (fun (_u : Unit) => (shR cs o).isSome = true) (fun (_u : Unit) => []) (fun (_u : Unit) => H) (fun _ => rfl) kRf sOo sOm kl ?_ (fun _ hu _ _ => ?_)
 ·refine SWp.of kRf ?_
  by_cases h0 : 0 < cs.length
  ·refine gO1 h0 ?_
   refine shiftedOf_a hF hs (nmC cs) oMg (fun t ht => ht) (fun hn => ?_) (fun R hR j G hG => ?_)
   ·have hk0 := hk0 (hsame.1 hn)
    refine gO1 h0 ?_
    exact Ret.nilS lRf rfl hk0
   ·have hsm : (shR cs o).isSome = true := by
     cases h : shR cs o with
     | some _ => rfl
     | none => rw [hsame.2 h] at hR; cases hR
    have hRn : R ≠ [] := by
     rintro rfl
     have h1 := ((shR_some hR).2.2 (cs[0].tg, 0)).1 (.base _ (nmC_mem (List.getElem_mem h0)))
     cases h1
    rw [grV_pos _ hRn]
    refine gO1 h0 ?_
    refine Next.mk () hsm ?_
    refine gO ?_
    exact WkL.drop hH lRf oKs
  ·have hsm : (shR cs o).isSome = true := by
    have e : o = [] := List.eq_nil_of_length_eq_zero oMg
    rw [e]
    rfl
   refine gO1 h0 ?_
   refine Next.mk () hsm ?_
   exact wk
 obtain ⟨R, hR⟩ := Option.isSome_iff_exists.1 hu
 have hk := hk1 R hR
 clear hk0 hk1
 obtain ⟨us, hus⟩ : ∃ us, us = cs.map (prV cs ss m) := ⟨_, rfl⟩
 rw [← hus] at hk
 have hul : us.length = cs.length := by rw [hus, List.length_map]
 have hlv : ∀ x m, VlOk (valL cs (lkF ss) x m) := fun x m => valL_ok hF (fun x m => lookP_ok hS _ _) x m
 obtain ⟨srvR, hsrvR⟩ : ∃ r, r = AObj.row 124 3 [[.lst 2 (cs.map encCl), .lst 2 (ss.map encSr), .map (some H.length)]] true := ⟨_, rfl⟩
 have hE : SvAt cs ss H [srvR] (H.length + 1) := ⟨⟨o, ho⟩, hF, hs, hS, fun M => by unfold memT; rw [hsrvR]; simp⟩
 have hh : ∀ M L, H ++ mpO (M.map (memE (svQ cs ss))) :: srvR :: L = memT H [srvR] (svQ cs ss) M ++ L := fun M L => by unfold memT; simp
 refine SWp.of kRf ?_
 refine gO ?_
 rw [← hsrvR]
 refine AWp.loop (H.length + 2) [2, 11, 42, 43] [12, 44] (fun (s : Nat × List Ky) => s.1 ≤ cs.length) (fun (s : Nat × List Ky) => [(12, .c (grV (H.length + 2) (us.take s.1))), (44, (.c (.int .i64 (s.1))))]) (fun (s : Nat × List Ky) => H ++ [mpO (s.2.map (memE (svQ cs ss))), srvR, grO 55 2 ((us.take s.1).map encPr)]) (fun (s : Nat × List Ky) => cs.length - s.1) kRf (fun _ => rfl) kRf sOo sOm kl ?_ (fun s hk1 _ hH2 => ?_)
 ·refine Next.mk (0, []) (Nat.zero_le _) ?_
  exact WkL.padP [_, _] sMp
 obtain ⟨k, M⟩ := s
 dsimp only at hk1 ⊢
 by_cases hlt : k < cs.length
 ·have htk : us.take (k + 1) = us.take k ++ [us[k]'oMg] := by rw [List.take_succ_eq_append_getElem oMg]
  have huk : us[k]'oMg = prV cs ss m cs[k] := by simp only [hus, List.getElem_map]
  obtain ⟨tg, htg⟩ : ∃ tg, cs[k].tg = tB tg := ⟨tL cs[k].tg, rfl⟩
  have hnk : (nmC cs)[k]'oMg = tB tg := by rw [← htg]; simp only [nmC, List.getElem_map]
  have hkey := ((clF_ok hF).2.1 cs[k] (List.getElem_mem hlt)).1.1
  have htl : tg.length ≤ 40 := by have := hkey.2.1; rw [htg, tB_size] at this; exact this
  have hv := hlv tg m
  unfold prV at huk
  rw [htg, tL_tB] at huk
  have hutl : (us.take k).length = k := by rw [List.length_take]; omega
  refine gO2 hlt hnk ?_
  rw [hh]
  refine valQAsk_a hE tg m ⟨M, rfl⟩ htl hm.1 oMg (fun M2 => ?_)
  rw [← hh]
  have hok4 : ∀ o ∈ [mpO (M2.map (memE (svQ cs ss))), srvR], o.okN (H.length + [mpO (M2.map (memE (svQ cs ss))), srvR].length) := by
   intro o ho
   simp only [List.mem_cons, List.not_mem_nil, or_false] at ho
   rcases ho with rfl | rfl
   ·exact memE_okN _ (svQ_ok cs ss) _ _
   ·rw [hsrvR]; simp [AObj.okN, AC.ok]
  generalize valL cs (lkF ss) tg m = u at *
  generalize us.take k = ws at *
  obtain ⟨v1, v2, _⟩ := hv
  have hil := itoa_lenV (n := u.n) oMg
  have hwl := wordB_len u.q
  obtain ⟨un, uq⟩ := u
  dsimp only at v1 v2 hil hwl
  unfold txV at huk
  dsimp only at huk
  have h3 : uq = 0 ∨ uq = 1 ∨ uq = 2 := by omega
  have e0 : wordB 0 = [103, 111, 111, 100] := rfl
  have e1 : wordB 1 = [117, 110, 99, 101, 114, 116, 97, 105, 110] := rfl
  have e2 : wordB 2 = [98, 97, 100] := rfl
  rcases h3 with rfl | rfl | rfl
  ·simp only [e0, e1, e2, List.append_assoc, List.cons_append, List.nil_append] at huk
   refine gO ?_
   refine w_tree (.one 0 (.one 1 (.one 2 (.one 3 (.one 7 (.two 4 (.one 5 (.two 6 (.one 8 (.one 9 (.one 10 (.one 11 (.one 12 (.one 13 (.one 14 (.one 15 .done)))))))) 8 (.one 6 (.one 9 (.one 10 (.one 11 (.one 12 (.one 13 (.one 14 (.one 15 .done)))))))))) 8 (.one 4 (.one 5 (.one 6 (.one 9 (.one 10 (.one 11 (.one 12 (.one 13 (.one 14 (.one 15 .done)))))))))))))))) kRf dKn ?_
   refine gO ?_
   repeat' first | (refine itoa_a un oMg oMg ?_; refine gO ?_) | (refine qwords_a ?_; refine gO ?_) | (refine aIf_strV rfl rfl rfl (by simp only [List.length_append, List.length_cons, List.length_nil]; omega) ?_; refine gO ?_) | apply And.intro
   all_goals ((refine app_gr (enc := encPr) (e := 55) (sz := 2) (bs := 32) (z := [.str ⟨#[]⟩, .str ⟨#[]⟩]) (ws) ((tB tg, tB (Lib.itoa un ++ [32, 103, 111, 111, 100]))) kRf kRf kRf kRf aTT (by first | (refine gO ?_; done) | (refine gO ?_; rfl) | (refine gO ?_; simp [go_sem]; done) | (refine gO ?_; simp [*]; done)) rfl (by decide) oMg oMg (by rfl) ?_))
   all_goals (refine gO ?_)
   all_goals refine Next.mk (k + 1, M2) ⟨by dsimp only; omega, by dsimp only; omega⟩ ?_
   all_goals dsimp only
   all_goals rw [htk, huk]
   all_goals (((try refine gO ?_); (first | refine WkL.pickAt [_, _] [0] ?_ ?_ ?_ rfl ?_ ?_ ?_ ?_ | refine WkL.pickAt [_, _] [1] ?_ ?_ ?_ rfl ?_ ?_ ?_ ?_ | refine WkL.pickAt [_, _] [2] ?_ ?_ ?_ rfl ?_ ?_ ?_ ?_ | refine WkL.pickAt [_, _] [3] ?_ ?_ ?_ rfl ?_ ?_ ?_ ?_ | refine WkL.pickAt [_, _] [4] ?_ ?_ ?_ rfl ?_ ?_ ?_ ?_ | refine WkL.pickAt [_, _] [5] ?_ ?_ ?_ rfl ?_ ?_ ?_ ?_ | refine WkL.pickAt [_, _] [6] ?_ ?_ ?_ rfl ?_ ?_ ?_ ?_ | refine WkL.pickAt [_, _] [7] ?_ ?_ ?_ rfl ?_ ?_ ?_ ?_ | refine WkL.pickAt [_, _] [8] ?_ ?_ ?_ rfl ?_ ?_ ?_ ?_) <;> exact cLs))
  ·simp only [e0, e1, e2, List.append_assoc, List.cons_append, List.nil_append] at huk
   refine gO ?_
   refine w_tree (.one 0 (.one 1 (.one 2 (.one 3 (.one 7 (.two 4 (.one 5 (.two 6 (.one 8 (.one 9 (.one 10 (.one 11 (.one 12 (.one 13 (.one 14 (.one 15 .done)))))))) 8 (.one 6 (.one 9 (.one 10 (.one 11 (.one 12 (.one 13 (.one 14 (.one 15 .done)))))))))) 8 (.one 4 (.one 5 (.one 6 (.one 9 (.one 10 (.one 11 (.one 12 (.one 13 (.one 14 (.one 15 .done)))))))))))))))) kRf dKn ?_
   refine gO ?_
   repeat' first | (refine itoa_a un oMg oMg ?_; refine gO ?_) | (refine qwords_a ?_; refine gO ?_) | (refine aIf_strV rfl rfl rfl (by simp only [List.length_append, List.length_cons, List.length_nil]; omega) ?_; refine gO ?_) | apply And.intro
   all_goals ((refine app_gr (enc := encPr) (e := 55) (sz := 2) (bs := 32) (z := [.str ⟨#[]⟩, .str ⟨#[]⟩]) (ws) ((tB tg, tB (Lib.itoa un ++ [32, 117, 110, 99, 101, 114, 116, 97, 105, 110]))) kRf kRf kRf kRf aTT (by first | (refine gO ?_; done) | (refine gO ?_; rfl) | (refine gO ?_; simp [go_sem]; done) | (refine gO ?_; simp [*]; done)) rfl (by decide) oMg oMg (by rfl) ?_))
   all_goals (refine gO ?_)
   all_goals refine Next.mk (k + 1, M2) ⟨by dsimp only; omega, by dsimp only; omega⟩ ?_
   all_goals dsimp only
   all_goals rw [htk, huk]
   all_goals (((try refine gO ?_); (first | refine WkL.pickAt [_, _] [0] ?_ ?_ ?_ rfl ?_ ?_ ?_ ?_ | refine WkL.pickAt [_, _] [1] ?_ ?_ ?_ rfl ?_ ?_ ?_ ?_ | refine WkL.pickAt [_, _] [2] ?_ ?_ ?_ rfl ?_ ?_ ?_ ?_ | refine WkL.pickAt [_, _] [3] ?_ ?_ ?_ rfl ?_ ?_ ?_ ?_ | refine WkL.pickAt [_, _] [4] ?_ ?_ ?_ rfl ?_ ?_ ?_ ?_ | refine WkL.pickAt [_, _] [5] ?_ ?_ ?_ rfl ?_ ?_ ?_ ?_ | refine WkL.pickAt [_, _] [6] ?_ ?_ ?_ rfl ?_ ?_ ?_ ?_ | refine WkL.pickAt [_, _] [7] ?_ ?_ ?_ rfl ?_ ?_ ?_ ?_ | refine WkL.pickAt [_, _] [8] ?_ ?_ ?_ rfl ?_ ?_ ?_ ?_) <;> exact cLs))
  ·simp only [e0, e1, e2, List.append_assoc, List.cons_append, List.nil_append] at huk
   refine gO ?_
   refine w_tree (.one 0 (.one 1 (.one 2 (.one 3 (.one 7 (.two 4 (.one 5 (.two 6 (.one 8 (.one 9 (.one 10 (.one 11 (.one 12 (.one 13 (.one 14 (.one 15 .done)))))))) 8 (.one 6 (.one 9 (.one 10 (.one 11 (.one 12 (.one 13 (.one 14 (.one 15 .done)))))))))) 8 (.one 4 (.one 5 (.one 6 (.one 9 (.one 10 (.one 11 (.one 12 (.one 13 (.one 14 (.one 15 .done)))))))))))))))) kRf dKn ?_
   refine gO ?_
   repeat' first | (refine itoa_a un oMg oMg ?_; refine gO ?_) | (refine qwords_a ?_; refine gO ?_) | (refine aIf_strV rfl rfl rfl (by simp only [List.length_append, List.length_cons, List.length_nil]; omega) ?_; refine gO ?_) | apply And.intro
   all_goals ((refine app_gr (enc := encPr) (e := 55) (sz := 2) (bs := 32) (z := [.str ⟨#[]⟩, .str ⟨#[]⟩]) (ws) ((tB tg, tB (Lib.itoa un ++ [32, 98, 97, 100]))) kRf kRf kRf kRf aTT (by first | (refine gO ?_; done) | (refine gO ?_; rfl) | (refine gO ?_; simp [go_sem]; done) | (refine gO ?_; simp [*]; done)) rfl (by decide) oMg oMg (by rfl) ?_))
   all_goals (refine gO ?_)
   all_goals refine Next.mk (k + 1, M2) ⟨by dsimp only; omega, by dsimp only; omega⟩ ?_
   all_goals dsimp only
   all_goals rw [htk, huk]
   all_goals (((try refine gO ?_); (first | refine WkL.pickAt [_, _] [0] ?_ ?_ ?_ rfl ?_ ?_ ?_ ?_ | refine WkL.pickAt [_, _] [1] ?_ ?_ ?_ rfl ?_ ?_ ?_ ?_ | refine WkL.pickAt [_, _] [2] ?_ ?_ ?_ rfl ?_ ?_ ?_ ?_ | refine WkL.pickAt [_, _] [3] ?_ ?_ ?_ rfl ?_ ?_ ?_ ?_ | refine WkL.pickAt [_, _] [4] ?_ ?_ ?_ rfl ?_ ?_ ?_ ?_ | refine WkL.pickAt [_, _] [5] ?_ ?_ ?_ rfl ?_ ?_ ?_ ?_ | refine WkL.pickAt [_, _] [6] ?_ ?_ ?_ rfl ?_ ?_ ?_ ?_ | refine WkL.pickAt [_, _] [7] ?_ ?_ ?_ rfl ?_ ?_ ?_ ?_ | refine WkL.pickAt [_, _] [8] ?_ ?_ ?_ rfl ?_ ?_ ?_ ?_) <;> exact cLs))
 ·have htl : us.take k = us := List.take_of_length_le oMg
  rw [htl]
  refine gO1 hlt ?_
  exact Ret.frzGrT 2 hH lRf rfl (pureL_map _ pUr) rfl (map_grV _ _ _).symm hk
end Go.Proofs.YtagoolooikpabaaGreatDoor
