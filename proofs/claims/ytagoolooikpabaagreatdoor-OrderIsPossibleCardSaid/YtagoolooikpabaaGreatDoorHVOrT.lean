/- Several texts in one: expr, and what follows. No condition. -/
import Derived.Test.YtagoolooikpabaaGreatDoorHVTre
import Derived.Test.YtagoolooikpabaaGreatDoorHVHaS
set_option linter.all false
namespace Go.Proofs.YtagoolooikpabaaGreatDoor
open Go Go.RowKit
set_option maxRecDepth 100000
set_option maxHeartbeats 4000000
variable {H : Hp} {K : AV → Hp → Prop}
theorem notIn_a (out : List ByteArray) {d i : Nat} (hd : H[d]? = some (htO out)) (hi : H[i]? = some (.row 82 1 [[.map (some d)]] true)) (k : ByteArray) (hk : K (.c (.bool (!decide (k ∈ out)))) H) : ACalls Tryz.prog 102 [(.c (.str k)), .c (.ptr (some (i, 0, 0)))] H K := by
 have hg := get_ht k out
 refine acalls Tryz.func102 rfl (by kernel_rfl) (by simp (disch := first | omega | (simp only [go_sem]; try omega)) only [go_sem]) (fun hH => ?_)
 simp (disch := first | omega | (simp only [go_sem]; try omega)) only [go_sem, hd, hi, htO]
 refine look_mp (by kernel_rfl) hg rfl ?_
 simp (disch := first | omega | (simp only [go_sem]; try omega)) only [go_sem]
 exact Ret.same (Nat.le_refl _) hk
theorem ready1_a {cs : List Cal} (hF : clF cs = 0) (out : List ByteArray) {a b d i : Nat} (ha : H[a]? = some (trO cs)) (hb : H[b]? = some (.row 76 1 [[.map (some a)]] true)) (hd : H[d]? = some (htO out)) (hi : H[i]? = some (.row 82 1 [[.map (some d)]] true)) (s : ByteArray) (hs : s ∈ nmC cs)
  (hk : K (.c (.bool (decide (s ∉ out) && (kidC cs s).all fun k => decide (k ∈ out)))) H) : ACalls Tryz.prog 101 [(.c (.str s)), .c (.ptr (some (i, 0, 0))), .c (.ptr (some (b, 0, 0)))] H K := by
 have hg := get_ht s out
 have hil := getElem?_lt hi
 have hlen := kidC_len hF s
 have he : entersB Tryz.prog 102 = true := by kernel_rfl
 refine acalls Tryz.func101 rfl (by kernel_rfl) (by simp (disch := first | omega | (simp only [go_sem]; try omega)) only [go_sem]) (fun hH => ?_)
 simp (disch := first | omega | (simp only [go_sem]; try omega)) only [go_sem, hd, hi, hb, htO]
 refine look_mp (by kernel_rfl) hg rfl ?_
 by_cases hm : s ∈ out
 ·simp only [hm, decide_true] at hk ⊢
  simp (disch := first | omega | (simp only [go_sem]; try omega)) only [go_sem, hi, hb]
  exact Ret.same (Nat.le_refl _) hk
 ·simp only [hm, decide_false] at hk ⊢
  simp (disch := first | omega | (simp only [go_sem]; try omega)) only [go_sem, hi, hb]
  refine kids_a hF ha s hs ?_
  simp (disch := first | omega | (simp only [go_sem]; try omega)) only [go_sem]
  refine contLstSx_a _ [(i, 0, 0)] (fun k => !decide (k ∈ out)) he (by intro p q r h; simp at h; omega) (kidC cs s) (fun k K hk1 hK => notIn_a out hd hi k hK) (by omega) ?_
  have e : (decide (¬False) && (kidC cs s).all fun k => decide (k ∈ out)) = !((kidC cs s).any fun k => !decide (k ∈ out)) := by
   rw [List.not_any_eq_all_not]
   simp
  rw [e] at hk
  simp (disch := first | omega | (simp only [go_sem]; try omega)) only [go_sem]
  exact Ret.same (Nat.le_refl _) hk
def ordV (o : Option (List Nme)) : AV := match o with
 | some o => .tup [.c (.lst 1 (o.map encSs)), (.c (.bool true))]
 | none => .tup [.c (.lst 1 []), (.c (.bool false))]
theorem order_a {cs : List Cal} (hF : clF cs = 0) (hs : ∀ x ∈ cs, x.fine) {a : Nat} (ha : H[a]? = some (trO cs)) (hk : K (ordV (orderG (nmC cs) (kidC cs))) H) : ACalls Tryz.prog 47 [.c (.map (some a))] H K := by
 have hal := getElem?_lt ha
 have hae : H[a] = trO cs := by rw [List.getElem?_eq_getElem hal] at ha; exact Option.some.inj ha
 have hlen : (nmC cs).length ≤ 100 := by have := (clF_ok hF).1; unfold nmC; rw [List.length_map]; exact this
 have he : entersB Tryz.prog 101 = true := by kernel_rfl
 have ha1 : ∀ G : Hp, (H ++ G)[a]? = some (trO cs) := fun G => by rw [List.getElem?_append_left hal]; exact ha
 generalize hN : nmC cs = N at *
 have hmem : ∀ s, s ∈ N → s ∈ nmC cs := fun s h => by rw [hN]; exact h
 refine acalls Tryz.func47 rfl (by kernel_rfl) (by simp (disch := first | omega | (simp only [go_sem]; try omega)) only [go_sem]) (fun hH => ?_)
 simp (disch := first | omega | (simp only [go_sem]; try omega)) only [go_sem]
 refine mkeysT_a a ?_
 simp (disch := first | omega | (simp only [go_sem]; try omega)) only [go_sem]
 refine namesT_a hF hs (ha1 _) (j := H.length + 3) (t := 76) (by simp) ?_
 rw [hN]
 simp (disch := first | omega | (simp only [go_sem]; try omega)) only [go_sem]
 refine AWp.loop (H.length + 4) [4, 6, 7] [5] (fun (o : List Nme) => o.length ≤ N.length ∧ ordG N (kidC cs) (N.length - o.length) o = orderG N (kidC cs)) (fun (o : List Nme) => [(5, .c (grV (H.length + 4) o))]) (fun (o : List Nme) => H ++ [.row 76 1 [[.map (some a)]] true, htO o, .row 82 1 [[.map (some (H.length + 1))]] true, .row 76 1 [[.map (some a)]] true, grO 9 1 (o.map encSs)]) (fun (o : List Nme) => N.length - o.length) (by kernel_rfl) (fun _ => rfl) (by kernel_rfl) (by first | (simp; done) | omega) (by first | (simp; done) | (simp; omega) | omega) kl ?_ (fun o ho _ _ => ?_)
 ·refine Next.mk [] ⟨by simp, by simp [orderG]⟩ ?_
  exact WkL.padP [_, _, _, _] (by simp)
 obtain ⟨ho1, ho2⟩ := ho
 by_cases hlt : o.length < N.length
 ·obtain ⟨q, hq⟩ : ∃ q, N.length - o.length = q + 1 := ⟨N.length - o.length - 1, by omega⟩
  rw [hq] at ho2
  simp (disch := first | omega | (simp only [go_sem]; try omega)) only [go_sem, hlt]
  refine indexLstSx_a _ [(H.length + 2, 0, 0), (H.length, 0, 0)] (fun x => decide (x ∉ o) && (kidC cs x).all fun k => decide (k ∈ o)) he (by intro p q r h; simp at h; simp; omega) N (fun x K hx hK => ready1_a hF o (a := a) (b := H.length) (d := H.length + 1) (i := H.length + 2) (ha1 _) (by first | ((repeat first | exact at0 (by simp) | refine atS ?_); done) | assumption) (by first | ((repeat first | exact at0 (by simp) | refine atS ?_); done) | assumption) (by first | ((repeat first | exact at0 (by simp) | refine atS ?_); done) | assumption) x (hmem x hx) hK) (by omega) (fun h0 => ?_) (fun k hk1 hk2 hk3 => ?_)
  ·have hn : nextO N (kidC cs) o = none := by
    unfold nextO
    rw [List.find?_eq_none]
    intro x hx
    have := List.any_eq_false.1 h0 x hx
    exact this
   have hr : orderG N (kidC cs) = none := by
    rw [← ho2]
    unfold ordG
    rw [hn]
   rw [hr] at hk
   simp (disch := first | omega | (simp only [go_sem]; try omega)) only [go_sem]
   exact Ret.nilT hH (Nat.le_refl _) rfl hk
  ·have hn : nextO N (kidC cs) o = some N[k] := by
    unfold nextO
    rw [List.find?_eq_some_iff_getElem]
    exact ⟨hk2, k, hk1, rfl, fun j hj => by rw [hk3 j (by omega) hj]; rfl⟩
   have ho3 : ordG N (kidC cs) q (o ++ [N[k]]) = orderG N (kidC cs) := by
    rw [← ho2]
    conv => rhs; unfold ordG
    rw [hn]
   have hni := (nextO_some hn).2.1
   obtain ⟨x, hx⟩ : ∃ x, x = N[k] := ⟨_, rfl⟩
   rw [← hx] at ho3 hni
   have hpt := put_ht hni
   have hxk : N[k]'hk1 = x := hx.symm
   simp (disch := first | omega | (simp only [go_sem]; try omega)) only [go_sem, ← hx]
   refine w_tree (.one 0 (.one 1 (.one 2 (.one 3 (.one 4 (.one 5 .done)))))) (by kernel_rfl) (by decide +kernel) ?_
   simp (disch := first | omega | (simp only [go_sem]; try omega)) only [go_sem, hxk]
   repeat' first
    | (refine mup_mp (by kernel_rfl) hpt ?_; simp (disch := first | omega | (simp only [go_sem]; try omega)) only [go_sem])
    | apply And.intro
   have hP : ∀ y ∈ [AObj.row 76 1 [[.map (some a)]] true, mpO ((o ++ [x]).map eHt), .row 82 1 [[.map (some (H.length + 1))]] true, .row 76 1 [[.map (some a)]] true], y.okN (H.length + [AObj.row 76 1 [[.map (some a)]] true, mpO ((o ++ [x]).map eHt), .row 82 1 [[.map (some (H.length + 1))]] true, .row 76 1 [[.map (some a)]] true].length) := by
    intro y hy
    simp only [List.mem_cons, List.not_mem_nil, or_false] at hy
    rcases hy with rfl | rfl | rfl | rfl
    ·simp [AObj.okN, AC.ok]; omega
    ·exact htO_okN _ _
    ·simp [AObj.okN, AC.ok]
    ·simp [AObj.okN, AC.ok]; omega
   rw [hxk]
   refine appSs o x _ rfl (by first | ((repeat first | exact at0 (by simp) | refine atS ?_); done) | assumption) (by first | ((repeat first | exact at0 (by simp) | refine atS ?_); done) | assumption) (by omega) ?_
   simp (disch := first | omega | (simp only [go_sem]; try omega)) only [go_sem]
   refine Next.mk (o ++ [x]) ⟨⟨by simp; omega, by rw [show N.length - (o ++ [x]).length = q by simp; omega]; exact ho3⟩, by simp; omega⟩ ?_
   ((try simp (disch := first | omega | (simp only [go_sem]; try omega)) only [go_sem]); (first | refine WkL.pickAt [_, _, _, _] [0] ?_ ?_ ?_ rfl ?_ ?_ ?_ ?_ | refine WkL.pickAt [_, _, _, _] [1] ?_ ?_ ?_ rfl ?_ ?_ ?_ ?_ | refine WkL.pickAt [_, _, _, _] [2] ?_ ?_ ?_ rfl ?_ ?_ ?_ ?_ | refine WkL.pickAt [_, _, _, _] [3] ?_ ?_ ?_ rfl ?_ ?_ ?_ ?_ | refine WkL.pickAt [_, _, _, _] [4] ?_ ?_ ?_ rfl ?_ ?_ ?_ ?_ | refine WkL.pickAt [_, _, _, _] [5] ?_ ?_ ?_ rfl ?_ ?_ ?_ ?_ | refine WkL.pickAt [_, _, _, _] [6] ?_ ?_ ?_ rfl ?_ ?_ ?_ ?_ | refine WkL.pickAt [_, _, _, _] [7] ?_ ?_ ?_ rfl ?_ ?_ ?_ ?_ | refine WkL.pickAt [_, _, _, _] [8] ?_ ?_ ?_ rfl ?_ ?_ ?_ ?_) <;> first | assumption | exact HOk.str (by assumption) | (simp; done) | (simp; omega) | (simp [pureO_gr, AObj.pureO, pureL, go_sem, AC.pure]; done) | (simp only [List.all_cons, List.all_nil, Bool.and_true]; exact pureO_gr (pureL_map _ (fun x => by simp [go_sem, AC.pure]))) | ((try simp only [List.map_cons, List.map_nil, av_ren_gr]); simp [AV.ren, AV.ren1, AC.ren, renP, pickS]; first | done | omega) | (simp only [List.forall_mem_cons, List.not_mem_nil, false_implies, implies_true, and_true]; (repeat' apply And.intro) <;> first | trivial | exact grV_ok (by simp) _ | exact okN_grO (fun x => by simp [go_sem, AC.pure]) | exact okN_map (fun x => by simp [go_sem, AC.pure]) | (simp [AV.ok, AV.ok1, AC.ok]; done) | (simp [AV.ok, AV.ok1, AC.ok]; omega) | (simp [AObj.okN, AC.ok]; done)) | (simp [AObj.okN]; done))
 ·have hq : N.length - o.length = 0 := by omega
  rw [hq] at ho2
  have hr : orderG N (kidC cs) = some o := by rw [← ho2]; rfl
  rw [hr] at hk
  simp (disch := first | omega | (simp only [go_sem]; try omega)) only [go_sem]
  exact Ret.frzGrT 4 hH (Nat.le_refl _) rfl (pureL_map _ (fun x => by simp [go_sem, AC.pure])) rfl (map_grV _ _ _).symm hk
end Go.Proofs.YtagoolooikpabaaGreatDoor
namespace Go.Proofs.YtagoolooikpabaaGreatDoor
open Go Go.RowKit
set_option maxRecDepth 100000
set_option maxHeartbeats 4000000
variable {H : Hp} {K : AV → Hp → Prop}
def ordE (o : Option (List Nme)) : AV := match o with
 | some o => .tup [.c (.lst 1 (o.map encSs)), (.c (.int .i64 0))]
 | none => .tup [.c (.lst 1 []), (.c (.int .i64 14))]
theorem orderTop_a (cs : List Cal) (hl : cs.length ≤ 1000) (hs : ∀ x ∈ cs, x.fine) (hk0 : clF cs ≠ 0 → K (.tup [.c (.lst 1 []), (.c (.int .i64 (clF cs)))]) H) (hk : clF cs = 0 → K (ordE (orderG (nmC cs) (kidC cs))) H) : ACalls Tryz.prog 8 [.c (.lst 2 (cs.map encCl))] H K := by
 refine acalls Tryz.func8 rfl (by kernel_rfl) (by simp (disch := first | omega | (simp only [go_sem]; try omega)) only [go_sem]) (fun hH => ?_)
 simp (disch := first | omega | (simp only [go_sem]; try omega)) only [go_sem]
 refine checkCalcs_a cs (by omega) hs ?_
 by_cases h : clF cs = 0
 ·rw [h]
  simp (disch := first | omega | (simp only [go_sem]; try omega)) only [go_sem]
  refine parsed_a cs h hs ?_
  simp (disch := first | omega | (simp only [go_sem]; try omega)) only [go_sem]
  refine order_a h hs (cs := cs) (by simp) ?_
  have hk := hk h
  cases ho : orderG (nmC cs) (kidC cs) with
  | none =>
   rw [ho] at hk
   simp only [ordV]
   simp (disch := first | omega | (simp only [go_sem]; try omega)) only [go_sem]
   exact Ret.nilT hH (Nat.le_refl _) rfl hk
  | some o =>
   rw [ho] at hk
   simp only [ordV]
   simp (disch := first | omega | (simp only [go_sem]; try omega)) only [go_sem]
   exact Ret.cut hH (Nat.le_refl _) (by simp [AV.ok, AV.ok1, AC.ok]) (Ret.same (Nat.le_refl _) hk)
 ·simp (disch := first | omega | (simp only [go_sem]; try omega)) only [go_sem, h]
  exact Ret.nilS (Nat.le_refl _) rfl (hk0 h)
end Go.Proofs.YtagoolooikpabaaGreatDoor
namespace Go.Proofs.YtagoolooikpabaaGreatDoor
open Go Go.RowKit
set_option maxRecDepth 100000
set_option maxHeartbeats 4000000
variable {H : Hp} {K : AV → Hp → Prop}
theorem affT1_a (t : ByteArray) (hl : List ByteArray) {b i d : Nat} (hb : H[b]? = some (.row 9 1 [[.str t]] true)) (hd : H[d]? = some (htO hl)) (hi : H[i]? = some (.row 82 1 [[.map (some d)]] true)) (k : ByteArray) (hk : K (.c (.bool (decide (k = t) || decide (k ∈ hl)))) H) : ACalls Tryz.prog 54 [(.c (.str k)), .c (.ptr (some (b, 0, 0))), .c (.ptr (some (i, 0, 0)))] H K := by
 have hg := get_ht k hl
 have hil := getElem?_lt hi
 have hdl := getElem?_lt hd
 have hie : H[i] = .row 82 1 [[.map (some d)]] true := by rw [List.getElem?_eq_getElem hil] at hi; exact Option.some.inj hi
 have hde : H[d] = htO hl := by rw [List.getElem?_eq_getElem hdl] at hd; exact Option.some.inj hd
 by_cases hm : k = t
 ·simp only [hm, decide_true, Bool.true_or] at hk
  refine acalls Tryz.func54 rfl (by kernel_rfl) (by simp (disch := first | omega | (simp only [go_sem]; try omega)) only [go_sem]) (fun hH => ?_)
  simp (disch := first | omega | (simp only [go_sem]; try omega)) only [go_sem, hb, hm]
  exact Ret.same (Nat.le_refl _) hk
 ·simp only [hm, decide_false, Bool.false_or] at hk
  refine acalls Tryz.func54 rfl (by kernel_rfl) (by simp (disch := first | omega | (simp only [go_sem]; try omega)) only [go_sem]) (fun hH => ?_)
  simp (disch := first | omega | (simp only [go_sem]; try omega)) only [go_sem, hb, hm, hie, hde, htO]
  refine look_mp (by kernel_rfl) hg rfl ?_
  simp (disch := first | omega | (simp only [go_sem]; try omega)) only [go_sem]
  exact Ret.same (Nat.le_refl _) hk
def atP (H : Hp) (t : ByteArray) (cs : List Cal) (l : List ByteArray) : Hp := [AObj.row 9 1 [[.str t]] true, trO cs, htO l, .row 82 1 [[.map (some (H.length + 2))]] true]
theorem at_okN {H : Hp} (t : ByteArray) (cs : List Cal) (l : List ByteArray) : ∀ o ∈ atP H t cs l, o.okN (H.length + (atP H t cs l).length) := by
 intro y hy
 simp only [atP, List.mem_cons, List.not_mem_nil, or_false] at hy
 rcases hy with rfl | rfl | rfl | rfl
 ·simp [AObj.okN, AC.ok]
 ·exact trO_okN _ _
 ·exact htO_okN _ _
 ·simp [atP, AObj.okN, AC.ok]
theorem at_wk {H : Hp} (hH : HOk H) (t : ByteArray) (cs : List Cal) (l : List ByteArray) (G : Hp) {m : Nat} (hm : m ≤ H.length + 4) (vs : List AV) (hv : ∀ f, vs.map (AV.ren f) = vs) (ho : ∀ x ∈ vs, ∀ n, x.ok n) : WkL m vs (H ++ .row 9 1 [[.str t]] true :: trO cs :: htO l :: .row 82 1 [[.map (some (H.length + 2))]] true :: G) vs (H ++ [.row 9 1 [[.str t]] true, trO cs, htO l, .row 82 1 [[.map (some (H.length + 2))]] true]) :=
 WkL.pickAt (G := G) (L := []) (atP H t cs l) [] hH (at_okN t cs l) hm rfl List.nodup_nil rfl (hv _).symm (fun x hx => ho x hx _)
theorem srtS_aff {cs : List Cal} (hF : clF cs = 0) (t : ByteArray) : srtS (affG t cs) = affR t cs := by
 obtain ⟨h1, h2⟩ := affG_ok t cs
 refine srtS_same h1 ((nmC_rise hF).filter _) (fun x => ?_)
 unfold affR
 rw [List.mem_filter, decide_eq_true_eq]
 exact ⟨fun h => ⟨h2 x h, h⟩, fun h => h.2⟩
theorem affects_a (cs : List Cal) (hl : cs.length ≤ 1000) (hs : ∀ x ∈ cs, x.fine) (t : ByteArray) (ht : t.size ≤ 1000) (hk0 : clF cs ≠ 0 → K (.tup [.c (.lst 1 []), (.c (.int .i64 (clF cs)))]) H) (hk1 : clF cs = 0 → ¬ isKey t → K (.tup [.c (.lst 1 []), (.c (.int .i64 5))]) H) (hk : clF cs = 0 → isKey t → K (.tup [.c (.lst 1 ((affR t cs).map encSs)), (.c (.int .i64 0))]) H) : ACalls Tryz.prog 10 [.c (.lst 2 (cs.map encCl)), (.c (.str t))] H K := by
 have he : entersB Tryz.prog 54 = true := by kernel_rfl
 refine acalls Tryz.func10 rfl (by kernel_rfl) (by simp (disch := first | omega | (simp only [go_sem]; try omega)) only [go_sem]) (fun hH => ?_)
 simp (disch := first | omega | (simp only [go_sem]; try omega)) only [go_sem]
 refine checkCalcs_a cs (by omega) hs ?_
 by_cases hF : clF cs = 0
 ·rw [hF]
  simp (disch := first | omega | (simp only [go_sem]; try omega)) only [go_sem]
  refine key_a t (by omega) ?_
  by_cases hkey : isKey t
  ·simp only [hkey, decide_true]
   have hk := hk hF hkey
   have hcl := (clF_ok hF).1
   simp (disch := first | omega | (simp only [go_sem]; try omega)) only [go_sem]
   refine parsed_a cs hF hs ?_
   simp (disch := first | omega | (simp only [go_sem]; try omega)) only [go_sem]
   refine AWp.loop (H.length + 4) [0, 3, 7, 8] [9] (fun (s : Nat × List Nme × Bool) => AfAt t cs s.1 s.2.1 s.2.2) (fun (s : Nat × List Nme × Bool) => [(9, (.c (.bool (s.2.2))))]) (fun (s : Nat × List Nme × Bool) => H ++ [.row 9 1 [[.str t]] true, trO cs, htO s.2.1, .row 82 1 [[.map (some (H.length + 2))]] true]) (fun (s : Nat × List Nme × Bool) => 2 * (cs.length - s.2.1.length) + (if s.2.2 = true then 1 else 0)) (by kernel_rfl) (fun _ => rfl) (by kernel_rfl) (by first | (simp; done) | omega) (by first | (simp; done) | (simp; omega) | omega) kl ?_ (fun s hs1 _ _ => ?_)
   ·exact Next.mk (cs.length + 1, [], true) (AfAt.zero t cs) wk
   obtain ⟨f, h, b⟩ := s
   dsimp only at hs1 ⊢
   cases b with
   | false =>
    have hh := hs1.2.2.2 rfl
    have hok := affG_ok t cs
    have hlen := hok.len
    have hsr := srtS_aff hF t
    rw [← hh] at hok hlen hsr
    have hsz : ∀ x ∈ h, x.size ≤ 1000000 := fun x hx => by
     obtain ⟨y, hy, rfl⟩ := List.mem_map.1 (hok.2 x hx)
     have := (hs y hy).1
     omega
    simp (disch := first | omega | (simp only [go_sem]; try omega)) only [go_sem]
    refine mkeysH_a (H.length + 2) ?_
    simp (disch := first | omega | (simp only [go_sem]; try omega)) only [go_sem]
    refine namesH_a h hok.1 hsz (by omega) (i := H.length + 2) (j := H.length + 4) (t := 82) (by simp) (by simp) ?_
    rw [hsr]
    simp (disch := first | omega | (simp only [go_sem]; try omega)) only [go_sem]
    exact Ret.drop hH (Nat.le_refl _) (by simp [AV.ok, AV.ok1, AC.ok]) hk
   | true =>
    simp (disch := first | omega | (simp only [go_sem]; try omega)) only [go_sem]
    refine AWp.loop (H.length + 4) [0, 3, 7, 8, 24, 25] [9, 26] (fun (k : Nat) => k ≤ cs.length) (fun (k : Nat) => [(9, (.c (.bool (decide (h.length < (affP t (cs.take k) h).length))))), (26, (.c (.int .i64 k)))]) (fun (k : Nat) => H ++ [.row 9 1 [[.str t]] true, trO cs, htO (affP t (cs.take k) h), .row 82 1 [[.map (some (H.length + 2))]] true]) (fun (k : Nat) => cs.length - k) (by kernel_rfl) (fun _ => rfl) (by kernel_rfl) (by first | (simp; done) | omega) (by first | (simp; done) | (simp; omega) | omega) kl ?_ (fun k hk1 _ _ => ?_)
    ·refine Next.mk 0 (by simp) ?_
     rw [show affP t (cs.take 0) h = h from rfl, show decide (h.length < h.length) = false by simp]
     exact wk
    by_cases hlt : k < cs.length
    ·obtain ⟨x, hx⟩ : ∃ x, x = cs[k] := ⟨_, rfl⟩
     have hxk : cs[k]'hlt = x := hx.symm
     have hnx := affP_next t h hlt
     rw [hxk] at hnx
     have hlen0 := affP_len t (cs.take k) h
     have hxc : x ∈ cs := by rw [hx]; exact List.getElem_mem hlt
     have htl := tagsE_lenC (exC x)
     have hes := exC_ok hF hxc
     generalize affP t (cs.take k) h = hk1 at *
     have hg := get_ht x.tg hk1
     have hg2 := get_tr x.tg cs
     rw [find_mem hF hxc] at hg2
     simp (disch := first | omega | (simp only [go_sem]; try omega)) only [go_sem, hlt, hxk]
     refine look_mp (by kernel_rfl) hg rfl ?_
     by_cases hm : x.tg ∈ hk1
     ·have e : affS t hk1 x = hk1 := by unfold affS affB; simp [hm]
      rw [e] at hnx
      simp only [hm, decide_true]
      simp (disch := first | omega | (simp only [go_sem]; try omega)) only [go_sem]
      refine Next.mk (k + 1) ⟨by omega, by omega⟩ ?_
      rw [hnx]
      simp (disch := first | omega | (simp only [go_sem]; try omega)) only [go_sem]
      exact at_wk hH t cs hk1 [_] (by omega) _ (fun f => rfl) (by simp [AV.ok, AV.ok1, AC.ok])
     ·simp only [hm, decide_false]
      simp (disch := first | omega | (simp only [go_sem]; try omega)) only [go_sem]
      refine look_mp (by kernel_rfl) hg2 rfl ?_
      simp (disch := first | omega | (simp only [go_sem]; try omega)) only [go_sem]
      refine tagsN_a (exC x) (by omega) hes.1 ?_
      simp (disch := first | omega | (simp only [go_sem]; try omega)) only [go_sem]
      refine contLstSx_a _ [(H.length, 0, 0), (H.length + 3, 0, 0)] (fun s => decide (s = t) || decide (s ∈ hk1)) he (by intro p q r h; simp at h; simp; omega) (tagsE (exC x)) (fun s K hs1 hK => affT1_a t hk1 (d := H.length + 2) (by first | ((repeat first | exact at0 (by simp) | refine atS ?_); done) | assumption) (by first | ((repeat first | exact at0 (by simp) | refine atS ?_); done) | assumption) (by first | ((repeat first | exact at0 (by simp) | refine atS ?_); done) | assumption) s hK) (by omega) ?_
      simp (disch := first | omega | (simp only [go_sem]; try omega)) only [go_sem]
      refine acond_b (fun c => ?_) (fun c => ?_)
      ·have e : affS t hk1 x = hk1 ++ [x.tg] := by unfold affS affB; rw [c]; simp [hm]
       rw [e] at hnx
       have hpt := put_ht hm
       simp (disch := first | omega | (simp only [go_sem]; try omega)) only [go_sem]
       refine mup_mp (by kernel_rfl) hpt ?_
       simp (disch := first | omega | (simp only [go_sem]; try omega)) only [go_sem]
       refine Next.mk (k + 1) ⟨by omega, by omega⟩ ?_
       rw [hnx, decide_eq_true (show h.length < (hk1 ++ [x.tg]).length by simp; omega)]
       simp (disch := first | omega | (simp only [go_sem]; try omega)) only [go_sem]
       exact at_wk hH t cs (hk1 ++ [x.tg]) [_] (by omega) _ (fun f => rfl) (by simp [AV.ok, AV.ok1, AC.ok])
      ·have e : affS t hk1 x = hk1 := by unfold affS affB; rw [c]; simp
       rw [e] at hnx
       simp (disch := first | omega | (simp only [go_sem]; try omega)) only [go_sem]
       refine Next.mk (k + 1) ⟨by omega, by omega⟩ ?_
       rw [hnx]
       simp (disch := first | omega | (simp only [go_sem]; try omega)) only [go_sem]
       exact at_wk hH t cs hk1 [_] (by omega) _ (fun f => rfl) (by simp [AV.ok, AV.ok1, AC.ok])
    ·have hkl : k = cs.length := by omega
     subst hkl
     rw [List.take_length]
     obtain ⟨f2, g2⟩ := hs1.step
     have hl2 := g2.1.len
     have hl3 := affP_len t cs h
     simp (disch := first | omega | (simp only [go_sem]; try omega)) only [go_sem]
     refine Next.mk (f2, affP t cs h, decide (h.length < (affP t cs h).length)) ⟨g2, ?_⟩ wk
     dsimp only
     split
     ·rename_i c
      rw [decide_eq_true_eq] at c
      omega
     ·rename_i c
      rw [decide_eq_true_eq] at c
      omega
  ·simp only [hkey, decide_false]
   simp (disch := first | omega | (simp only [go_sem]; try omega)) only [go_sem]
   exact Ret.nilT hH (Nat.le_refl _) rfl (hk1 hF hkey)
 ·simp (disch := first | omega | (simp only [go_sem]; try omega)) only [go_sem, hF]
  exact Ret.nilT hH (Nat.le_refl _) rfl (hk0 hF)
end Go.Proofs.YtagoolooikpabaaGreatDoor
