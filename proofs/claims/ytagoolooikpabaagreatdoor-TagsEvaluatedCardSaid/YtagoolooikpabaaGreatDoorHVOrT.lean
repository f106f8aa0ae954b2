/- Several texts in one: expr, and what follows. No condition. -/
import Derived.Test.YtagoolooikpabaaGreatDoorHVSrN
import Derived.Test.YtagoolooikpabaaGreatDoorHVHaS
set_option linter.all false
namespace Go.Proofs.YtagoolooikpabaaGreatDoor
open Go Go.RowKit
set_option maxRecDepth 100000
set_option maxHeartbeats 4000000
variable {H : Hp} {K : AV → Hp → Prop}
theorem notIn_a (out : List ByteArray) {d i : Nat} (hd : H[d]? = some (htO out)) (hi : H[i]? = some (.row 82 1 [[.map (some d)]] true)) (k : ByteArray) (hk : K (.c (.bool (!decide (k ∈ out)))) H) : ACalls Tryz.prog 102 [(.c (.str k)), .c (.ptr (some (i, 0, 0)))] H K := by
 have hg := get_ht k out
 refine acalls Tryz.func102 rfl kRf gT (fun hH => ?_)
 simp (disch := first | omega | (simp only [go_sem]; try omega)) only [go_sem, hd, hi, htO]
 refine look_mp kRf hg rfl ?_
 refine gO ?_
 exact Ret.same lRf hk
theorem ready1_a {cs : List Cal} (hF : clF cs = 0) (out : List ByteArray) {a b d i : Nat} (ha : H[a]? = some (trO cs)) (hb : H[b]? = some (.row 76 1 [[.map (some a)]] true)) (hd : H[d]? = some (htO out)) (hi : H[i]? = some (.row 82 1 [[.map (some d)]] true)) (s : ByteArray) (hs : s ∈ nmC cs)
  (hk : K (.c (.bool (decide (s ∉ out) && (kidC cs s).all fun k => decide (k ∈ out)))) H) : ACalls Tryz.prog 101 [(.c (.str s)), .c (.ptr (some (i, 0, 0))), .c (.ptr (some (b, 0, 0)))] H K := by
 have hg := get_ht s out
 have hil := getElem?_lt hi
 have hlen := kidC_len hF s
 have he : entersB Tryz.prog 102 = true := by kernel_rfl
 refine acalls Tryz.func101 rfl kRf gT (fun hH => ?_)
 simp (disch := first | omega | (simp only [go_sem]; try omega)) only [go_sem, hd, hi, hb, htO]
 refine look_mp kRf hg rfl ?_
 by_cases hm : s ∈ out
 ·simp only [hm, decide_true] at hk ⊢
  refine gO2 hi hb ?_
  exact Ret.same lRf hk
 ·simp only [hm, decide_false] at hk ⊢
  refine gO2 hi hb ?_
  refine kids_a hF ha s hs ?_
  refine gO ?_
  refine contLstSx_a _ [(i, 0, 0)] (fun k => !decide (k ∈ out)) he (by intro p q r h; simp at h; omega) (kidC cs s) (fun k K hk1 hK => notIn_a out hd hi k hK) oMg ?_
  have e : (decide (¬False) && (kidC cs s).all fun k => decide (k ∈ out)) = !((kidC cs s).any fun k => !decide (k ∈ out)) := by
   rw [List.not_any_eq_all_not]
   simp
  rw [e] at hk
  refine gO ?_
  exact Ret.same lRf hk
def ordV (o : Option (List Nme)) : AV := match o with
 | some o => .tup [.c (.lst 1 (o.map encSs)), (.c (.bool true))]
 | none => .tup [.c (.lst 1 []), (.c (.bool false))]
theorem order_a {cs : List Cal} (hF : clF cs = 0) (hs : ∀ x ∈ cs, x.fine) {a : Nat} (ha : H[a]? = some (trO cs)) (hk : K (ordV (orderG (nmC cs) (kidC cs))) H) : ACalls Tryz.prog 47 [.c (.map (some a))] H K := by
 have hal := getElem?_lt ha
 have hae : H[a] = trO cs := by rw [List.getElem?_eq_getElem hal] at ha; exact Option.some.inj ha
 have hlen : (nmC cs).length ≤ 100 := by have := (clF_ok hF).1; unfold nmC; rw [List.length_map]; exact this
 have he : entersB Tryz.prog 101 = true := by kernel_rfl
 have ha1 : ∀ G : Hp, (H ++ G)[a]? = some (trO cs) := fun G => by rw [List.getElem?_append_left hal]; exact ha
 generalize hN : nmC cs = N at *
 have hmem : ∀ s, s ∈ N → s ∈ nmC cs := fun s h => by rw [hN]; exact h
 refine acalls Tryz.func47 rfl kRf gT (fun hH => ?_)
 refine gO ?_
 refine mkeysT_a a ?_
 refine gO ?_
 refine namesT_a hF hs (ha1 _) (j := H.length + 3) (t := 76) sMp ?_
 rw [hN]
 refine gO ?_
 refine AWp.loop (H.length + 4) [4, 6, 7] [5] (fun (o : List Nme) => o.length ≤ N.length ∧ ordG N (kidC cs) (N.length - o.length) o = orderG N (kidC cs)) (fun (o : List Nme) => [(5, .c (grV (H.length + 4) o))]) (fun (o : List Nme) => H ++ [.row 76 1 [[.map (some a)]] true, htO o, .row 82 1 [[.map (some (H.length + 1))]] true, .row 76 1 [[.map (some a)]] true, grO 9 1 (o.map encSs)]) (fun (o : List Nme) => N.length - o.length) kRf (fun _ => rfl) kRf sOo sOm kl ?_ (fun o ho _ _ => ?_)
 ·refine Next.mk [] ⟨by simp, by simp [orderG]⟩ ?_
  exact WkL.padP [_, _, _, _] sMp
 obtain ⟨ho1, ho2⟩ := ho
 by_cases hlt : o.length < N.length
 ·obtain ⟨q, hq⟩ : ∃ q, N.length - o.length = q + 1 := ⟨N.length - o.length - 1, by omega⟩
  rw [hq] at ho2
  refine gO1 hlt ?_
  refine indexLstSx_a _ [(H.length + 2, 0, 0), (H.length, 0, 0)] (fun x => decide (x ∉ o) && (kidC cs x).all fun k => decide (k ∈ o)) he (by intro p q r h; simp at h; simp; omega) N (fun x K hx hK => ready1_a hF o (a := a) (b := H.length) (d := H.length + 1) (i := H.length + 2) (ha1 _) aTT aTT aTT x (hmem x hx) hK) oMg (fun h0 => ?_) (fun k hk1 hk2 hk3 => ?_)
  ·have hn : nextO N (kidC cs) o = none := by
    unfold nextO
    rw [List.find?_eq_none]
    intro x hx
    have := List.any_eq_false.1 h0 x hx
    exact this
   have hr : orderG N (kidC cs) = none := by
    rw [← ho2]
    unfold ordG
    rw [hn]
   rw [hr] at hk
   refine gO ?_
   exact Ret.nilT hH lRf rfl hk
  ·have hn : nextO N (kidC cs) o = some N[k] := by
    unfold nextO
    rw [List.find?_eq_some_iff_getElem]
    exact ⟨hk2, k, hk1, rfl, fun j hj => by rw [hk3 j oMg hj]; rfl⟩
   have ho3 : ordG N (kidC cs) q (o ++ [N[k]]) = orderG N (kidC cs) := by
    rw [← ho2]
    conv => rhs; unfold ordG
    rw [hn]
   have hni := (nextO_some hn).2.1
   obtain ⟨x, hx⟩ : ∃ x, x = N[k] := ⟨_, rfl⟩
   rw [← hx] at ho3 hni
   have hpt := put_ht hni
   have hxk : N[k]'hk1 = x := hx.symm
   simp (disch := first | omega | (simp only [go_sem]; try omega)) only [go_sem, ← hx]
   refine w_tree (.one 0 (.one 1 (.one 2 (.one 3 (.one 4 (.one 5 .done)))))) kRf dKn ?_
   refine gO1 hxk ?_
   repeat' first
    | (refine mup_mp kRf hpt ?_; refine gO ?_)
    | apply And.intro
   have hP : ∀ y ∈ [AObj.row 76 1 [[.map (some a)]] true, mpO ((o ++ [x]).map eHt), .row 82 1 [[.map (some (H.length + 1))]] true, .row 76 1 [[.map (some a)]] true], y.okN (H.length + [AObj.row 76 1 [[.map (some a)]] true, mpO ((o ++ [x]).map eHt), .row 82 1 [[.map (some (H.length + 1))]] true, .row 76 1 [[.map (some a)]] true].length) := by
    intro y hy
    simp only [List.mem_cons, List.not_mem_nil, or_false] at hy
    rcases hy with rfl | rfl | rfl | rfl
    ·simp [AObj.okN, AC.ok]; omega
    ·exact htO_okN _ _
    ·simp [AObj.okN, AC.ok]
    ·simp [AObj.okN, AC.ok]; omega
   rw [hxk]
   refine appSs o x _ rfl aTT aTT oMg ?_
   refine gO ?_
   refine Next.mk (o ++ [x]) ⟨⟨by simp; omega, by rw [show N.length - (o ++ [x]).length = q by simp; omega]; exact ho3⟩, by simp; omega⟩ ?_
   ((try refine gO ?_); (first | refine WkL.pickAt [_, _, _, _] [0] ?_ ?_ ?_ rfl ?_ ?_ ?_ ?_ | refine WkL.pickAt [_, _, _, _] [1] ?_ ?_ ?_ rfl ?_ ?_ ?_ ?_ | refine WkL.pickAt [_, _, _, _] [2] ?_ ?_ ?_ rfl ?_ ?_ ?_ ?_ | refine WkL.pickAt [_, _, _, _] [3] ?_ ?_ ?_ rfl ?_ ?_ ?_ ?_ | refine WkL.pickAt [_, _, _, _] [4] ?_ ?_ ?_ rfl ?_ ?_ ?_ ?_ | refine WkL.pickAt [_, _, _, _] [5] ?_ ?_ ?_ rfl ?_ ?_ ?_ ?_ | refine WkL.pickAt [_, _, _, _] [6] ?_ ?_ ?_ rfl ?_ ?_ ?_ ?_ | refine WkL.pickAt [_, _, _, _] [7] ?_ ?_ ?_ rfl ?_ ?_ ?_ ?_ | refine WkL.pickAt [_, _, _, _] [8] ?_ ?_ ?_ rfl ?_ ?_ ?_ ?_) <;> exact cLs)
 ·have hq : N.length - o.length = 0 := by omega
  rw [hq] at ho2
  have hr : orderG N (kidC cs) = some o := by rw [← ho2]; rfl
  rw [hr] at hk
  refine gO ?_
  exact Ret.frzGrT 4 hH lRf rfl (pureL_map _ pUr) rfl (map_grV _ _ _).symm hk
end Go.Proofs.YtagoolooikpabaaGreatDoor
namespace Go.Proofs.YtagoolooikpabaaGreatDoor
open Go Go.RowKit
set_option maxRecDepth 100000
set_option maxHeartbeats 4000000
variable {H : Hp} {K : AV → Hp → Prop}
def ordE (o : Option (List Nme)) : AV := match o with
 | some o => .tup [.c (.lst 1 (o.map encSs)), (.c (.int .i64 0))]
 | none => .tup [.c (.lst 1 []), (.c (.int .i64 14))]
theorem orderTop_a (cs : List Cal) (hl : cs.length ≤ 1000) (hs : ∀ x ∈ cs, x.fine) (hk0 : clF cs ≠ 0 → K (.tup [.c (.lst 1 []), (.c (.int .i64 (clF cs)))]) H) (hk : clF cs = 0 → K (ordE (orderG (nmC cs) (kidC cs))) H) : ACalls Tryz.prog 8 [.c (.lst 2 (cs.map encCl))] H K := by
 refine acalls Tryz.func8 rfl kRf gT (fun hH => ?_)
 refine gO ?_
 refine checkCalcs_a cs oMg hs ?_
 by_cases h : clF cs = 0
 ·rw [h]
  refine gO ?_
  refine parsed_a cs h hs ?_
  refine gO ?_
  refine order_a h hs (cs := cs) sMp ?_
  have hk := hk h
  cases ho : orderG (nmC cs) (kidC cs) with
  | none =>
   rw [ho] at hk
   simp only [ordV]
   refine gO ?_
   exact Ret.nilT hH lRf rfl hk
  | some o =>
   rw [ho] at hk
   simp only [ordV]
   refine gO ?_
   exact Ret.cut hH lRf oKs (Ret.same lRf hk)
 ·refine gO1 h ?_
  exact Ret.nilS lRf rfl (hk0 h)
end Go.Proofs.YtagoolooikpabaaGreatDoor
