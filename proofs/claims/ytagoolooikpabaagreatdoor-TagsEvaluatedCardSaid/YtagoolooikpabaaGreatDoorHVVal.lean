/- expr.Values: what it answers. Condition: lists are not huge. -/
import Derived.Test.YtagoolooikpabaaGreatDoorHVVlu
import Derived.Test.YtagoolooikpabaaGreatDoorHVShf
import Derived.Test.YtagoolooikpabaaGreatDoorHVOrT
set_option linter.all false
namespace Go.Proofs.YtagoolooikpabaaGreatDoor
open Go Go.RowKit
set_option maxRecDepth 100000
set_option maxHeartbeats 4000000
variable {H : Hp} {K : AV → Hp → Prop}
abbrev Pr := ByteArray × ByteArray
@[go_sem] def encPr (x : Pr) : List AC := [.str x.1, .str x.2]
def wordB (q : Int) : List UInt8 := if q = 0 then [103, 111, 111, 100] else if q = 1 then [117, 110, 99, 101, 114, 116, 97, 105, 110] else [98, 97, 100]
theorem wordB_len (q : Int) : (wordB q).length ≤ 9 := by unfold wordB; split <;> (try split) <;> decide
theorem aIf_strV {a b : ByteArray} {x y z : List UInt8} {H : Hp} {J : AV → Hp → Prop} (hx : a = tB x) (hy : b = tB y) (hz : z = x ++ y) (hl : x.length + y.length ≤ 1000000) (h : J (.c (.str (tB z))) H) : aIf (a.size + b.size ≤ 9223372036854775807) (.c (.str (a ++ b))) H J := by
 subst hx hy hz
 refine ⟨?_, by rw [app_tB]; exact h⟩
 rw [tB_size, tB_size]
 omega
theorem itoa_lenV {n : Int} (h : -1000000000000 ≤ n ∧ n ≤ 1000000000000) : (Lib.itoa n).length ≤ 16 := by
 have := dec_len 14 n.natAbs (by simp; omega)
 unfold Lib.itoa
 split
 ·simp only [List.length_cons]; omega
 ·first | omega | (rw [show n.toNat = n.natAbs by omega]; omega)
theorem word_a (q : Int) (hk : K (.c (.str (tB (wordB q)))) H) : ACalls Tryz.prog 81 [(.c (.int .i64 q))] H K := by
 by_cases h0 : q = 0
 ·subst h0
  refine acalls Tryz.func81 rfl kRf gT (fun hH => ?_)
  refine gO ?_
  exact Ret.same lRf hk
 ·by_cases h1 : q = 1
  ·subst h1
   refine acalls Tryz.func81 rfl kRf gT (fun hH => ?_)
   refine gO ?_
   exact Ret.same lRf hk
  ·have e : wordB q = [98, 97, 100] := by unfold wordB; rw [if_neg h0, if_neg h1]
   rw [e] at hk
   refine acalls Tryz.func81 rfl kRf gT (fun hH => ?_)
   refine gO2 h0 h1 ?_
   exact Ret.same lRf hk
def txV (v : Vl) : List UInt8 := Lib.itoa v.n ++ [32] ++ wordB v.q
def prV (cs : List Cal) (ss : List Ser) (m : Int) (x : Cal) : Pr := (x.tg, tB (txV (valL cs (lkF ss) (tL x.tg) m)))
def valsF (cs : List Cal) (ss : List Ser) (m : Int) : List Pr × Int :=
 if clF cs ≠ 0 then ([], clF cs) else match orderG (nmC cs) (kidC cs) with
  | none => ([], 14)
  | some o => if slF ss ≠ 0 then ([], slF ss) else if ¬ (0 ≤ m ∧ m ≤ 345686399999) then ([], 1) else match shR cs o with
   | none => ([], 12)
   | some _ => (cs.map (prV cs ss m), 0)
theorem valueAsk_a {cs : List Cal} {ss : List Ser} {A C X G : Hp} {a s v : Nat} (hE : EvAt cs ss A C a s v) (x : List UInt8) (m : Int) (hX : evT cs ss A C X) (hx : x.length ≤ 40) (h0 : 0 ≤ m) (h1 : m ≤ 1000000000000) (hk : ∀ M, K (.agg (encV (valL cs (lkF ss) x m))) (memT A C (svP cs ss) M ++ G)) : ACalls Tryz.prog 79 [.c (.ptr (some (v, 0, 0))), (.c (.str (tB x))), (.c (.int .i64 m))] (X ++ G) K :=
 (valueE_a hE).ask X G K x m hX trivial hx h0 h1 (by rintro _ ⟨M, rfl⟩; exact hk M)
theorem values_a (cs : List Cal) (ss : List Ser) (m : Int) (hl : cs.length ≤ 1000) (hs : ∀ x ∈ cs, x.fine) (hsl : ss.length ≤ 1000000) (hss : ∀ x ∈ ss, x.fine) (hk : K (.tup [.c (.lst 2 ((valsF cs ss m).1.map encPr)), (.c (.int .i64 ((valsF cs ss m).2)))]) H) : ACalls Tryz.prog 25 [.c (.lst 2 (cs.map encCl)), .c (.lst 2 (ss.map encSr)), (.c (.int .i64 m))] H K := by
 unfold valsF at hk
 refine acalls Tryz.func25 rfl kRf gT (fun hH => ?_)
 refine gO ?_
 refine orderTop_a cs hl hs (fun hF => ?_) (fun hF => ?_)
 ·rw [if_pos hF] at hk
  refine gO1 hF ?_
  exact Ret.nilS lRf rfl hk
 rw [if_neg (by simpa using hF)] at hk
 cases ho : orderG (nmC cs) (kidC cs) with
 | none =>
  rw [ho] at hk
  simp only [ordE]
  refine gO ?_
  exact Ret.nilS lRf rfl hk
 | some o =>
 rw [ho] at hk
 dsimp only at hk
 simp only [ordE]
 refine gO ?_
 refine serListF_a ss oMg hss ?_
 by_cases hS : slF ss ≠ 0
 ·rw [if_pos hS] at hk
  refine gO1 hS ?_
  exact Ret.nilS lRf rfl hk
 rw [if_neg hS] at hk
 have hS : slF ss = 0 := by simpa using hS
 refine gO1 hS ?_
 refine moment_a _ _ _ ?_
 by_cases hm : 0 ≤ m ∧ m ≤ 345686399999
 case neg =>
  rw [if_pos hm] at hk
  rw [decide_eq_false hm]
  refine gO ?_
  exact Ret.nilS lRf rfl hk
 rw [if_neg (by simpa using hm)] at hk
 rw [decide_eq_true hm]
 refine gO ?_
 refine parsed_a cs hF hs ?_
 refine gO ?_
 obtain ⟨⟨k1, k2, k3⟩, k4⟩ := orderG_ok ho
 have hnl : (nmC cs).length = cs.length := by unfold nmC; rw [List.length_map]
 refine shifts_a (cs := cs) hF (a := H.length) sMp o oMg k2 ?_
 cases hR : shR cs o with
 | none =>
  rw [hR] at hk
  simp only [shV]
  refine gO ?_
  exact Ret.nilT hH lRf rfl hk
 | some R =>
 rw [hR] at hk
 dsimp only at hk
 simp only [shV]
 refine gO ?_
 refine lookup_a ss ?_
 refine gO ?_
 obtain ⟨us, hus⟩ : ∃ us, us = cs.map (prV cs ss m) := ⟨_, rfl⟩
 rw [← hus] at hk
 have hul : us.length = cs.length := by rw [hus, List.length_map]
 have hlv : ∀ x m, VlOk (valL cs (lkF ss) x m) := fun x m => valL_ok hF (fun x m => lookP_ok hS _ _) x m
 obtain ⟨serR, hserR⟩ : ∃ r, r = AObj.row 42 1 [[.lst 2 (ss.map encSr)]] true := ⟨_, rfl⟩
 obtain ⟨evR, hevR⟩ : ∃ r, r = AObj.row 115 3 [[.map (some H.length), .fn 127 [] [(H.length + 1, 0, 0)], .map (some (H.length + 2))]] true := ⟨_, rfl⟩
 have hE : EvAt cs ss (H ++ [trO cs, serR]) [evR] H.length (H.length + 1) (H.length + 3) := ⟨⟨o, ho⟩, hF, hS, fun M => by unfold memT; simp, fun M => by unfold memT; rw [hserR]; simp, fun M => by unfold memT; rw [hevR]; simp⟩
 have hh : ∀ M L, H ++ trO cs :: serR :: mpO (M.map (memE (svP cs ss))) :: evR :: L = memT (H ++ [trO cs, serR]) [evR] (svP cs ss) M ++ L := fun M L => by unfold memT; simp
 rw [← hserR, ← hevR]
 refine AWp.loop (H.length + 4) [2, 14, 51, 52] [15, 53] (fun (s : Nat × List Ky) => s.1 ≤ cs.length) (fun (s : Nat × List Ky) => [(15, .c (grV (H.length + 4) (us.take s.1))), (53, (.c (.int .i64 (s.1))))]) (fun (s : Nat × List Ky) => H ++ [trO cs, serR, mpO (s.2.map (memE (svP cs ss))), evR, grO 55 2 ((us.take s.1).map encPr)]) (fun (s : Nat × List Ky) => cs.length - s.1) kRf (fun _ => rfl) kRf sOo sOm kl ?_ (fun s hk1 _ hH2 => ?_)
 ·refine Next.mk (0, []) (Nat.zero_le _) ?_
  exact WkL.padP [_, _, _, _] sMp
 obtain ⟨k, M⟩ := s
 dsimp only at hk1 ⊢
 by_cases hlt : k < cs.length
 ·have htk : us.take (k + 1) = us.take k ++ [us[k]'oMg] := by rw [List.take_succ_eq_append_getElem oMg]
  have huk : us[k]'oMg = prV cs ss m cs[k] := by simp only [hus, List.getElem_map]
  obtain ⟨tg, htg⟩ : ∃ tg, cs[k].tg = tB tg := ⟨tL cs[k].tg, rfl⟩
  have hkey := ((clF_ok hF).2.1 cs[k] (List.getElem_mem hlt)).1.1
  have htl : tg.length ≤ 40 := by have := hkey.2.1; rw [htg, tB_size] at this; exact this
  have hv := hlv tg m
  unfold prV at huk
  rw [htg, tL_tB] at huk
  have hutl : (us.take k).length = k := by rw [List.length_take]; omega
  simp (disch := first | omega | (simp only [go_sem]; try omega)) only [go_sem, hlt, htg]
  rw [hh]
  refine valueAsk_a hE tg m ⟨M, rfl⟩ htl hm.1 oMg (fun M2 => ?_)
  rw [← hh]
  have hok4 : ∀ o ∈ [trO cs, serR, mpO (M2.map (memE (svP cs ss))), evR], o.okN (H.length + [trO cs, serR, mpO (M2.map (memE (svP cs ss))), evR].length) := by
   intro o ho
   simp only [List.mem_cons, List.not_mem_nil, or_false] at ho
   rcases ho with rfl | rfl | rfl | rfl
   ·exact trO_okN _ _
   ·rw [hserR]; simp [AObj.okN, AC.ok]
   ·exact memE_okN _ (svP_ok cs ss) _ _
   ·rw [hevR]; simp [AObj.okN, AC.ok]; omega
  generalize valL cs (lkF ss) tg m = u at *
  generalize us.take k = ws at *
  obtain ⟨v1, v2, _⟩ := hv
  have hil := itoa_lenV (n := u.n) oMg
  have hwl := wordB_len u.q
  refine gO1 htg ?_
  refine w_tree (.one 0 (.one 1 (.one 3 (.one 4 (.one 7 (.three 2 (.two 5 (.one 6 (.one 8 (.one 9 (.one 10 (.one 11 (.one 12 (.one 13 (.one 14 .done)))))))) 8 (.one 5 (.one 6 (.one 9 (.one 10 (.one 11 (.one 12 (.one 13 (.one 14 .done))))))))) 5 (.one 6 (.one 8 (.two 2 (.one 9 (.one 10 (.one 11 (.one 12 (.one 13 (.one 14 .done)))))) 9 (.one 2 (.one 10 (.one 11 (.one 12 (.one 13 (.one 14 .done))))))))) 8 (.two 2 (.one 5 (.one 6 (.one 9 (.one 10 (.one 11 (.one 12 (.one 13 (.one 14 .done)))))))) 5 (.one 6 (.two 2 (.one 9 (.one 10 (.one 11 (.one 12 (.one 13 (.one 14 .done)))))) 9 (.one 2 (.one 10 (.one 11 (.one 12 (.one 13 (.one 14 .done))))))))))))))) kRf dKn ?_
  refine gO1 htg ?_
  unfold txV at huk
  repeat' first | (refine itoa_a u.n oMg oMg ?_; refine gO1 htg ?_) | (refine word_a u.q ?_; refine gO1 htg ?_) | (refine aIf_strV rfl rfl rfl (by simp only [List.length_append, List.length_cons, List.length_nil]; omega) ?_; refine gO1 htg ?_) | apply And.intro
  all_goals ((refine app_gr (enc := encPr) (e := 55) (sz := 2) (bs := 32) (z := [.str ⟨#[]⟩, .str ⟨#[]⟩]) (ws) ((tB tg, tB (Lib.itoa u.n ++ [32] ++ wordB u.q))) kRf kRf kRf kRf aTT (by first | (refine gO ?_; done) | (refine gO ?_; rfl) | (refine gO ?_; simp [go_sem]; done) | (refine gO ?_; simp [*]; done)) rfl (by decide) oMg oMg (by rfl) ?_))
  all_goals (refine gO ?_)
  all_goals refine Next.mk (k + 1, M2) ⟨by dsimp only; omega, by dsimp only; omega⟩ ?_
  all_goals dsimp only
  all_goals rw [htk, huk]
  all_goals (((try refine gO ?_); (first | refine WkL.pickAt [_, _, _, _] [0] ?_ ?_ ?_ rfl ?_ ?_ ?_ ?_ | refine WkL.pickAt [_, _, _, _] [1] ?_ ?_ ?_ rfl ?_ ?_ ?_ ?_ | refine WkL.pickAt [_, _, _, _] [2] ?_ ?_ ?_ rfl ?_ ?_ ?_ ?_ | refine WkL.pickAt [_, _, _, _] [3] ?_ ?_ ?_ rfl ?_ ?_ ?_ ?_ | refine WkL.pickAt [_, _, _, _] [4] ?_ ?_ ?_ rfl ?_ ?_ ?_ ?_ | refine WkL.pickAt [_, _, _, _] [5] ?_ ?_ ?_ rfl ?_ ?_ ?_ ?_ | refine WkL.pickAt [_, _, _, _] [6] ?_ ?_ ?_ rfl ?_ ?_ ?_ ?_ | refine WkL.pickAt [_, _, _, _] [7] ?_ ?_ ?_ rfl ?_ ?_ ?_ ?_ | refine WkL.pickAt [_, _, _, _] [8] ?_ ?_ ?_ rfl ?_ ?_ ?_ ?_) <;> exact cLs))
 ·have hke : k = cs.length := by omega
  have htl : us.take k = us := List.take_of_length_le oMg
  rw [htl]
  refine gO1 hlt ?_
  exact Ret.frzGrT 4 hH lRf rfl (pureL_map _ pUr) rfl (map_grV _ _ _).symm hk
end Go.Proofs.YtagoolooikpabaaGreatDoor
