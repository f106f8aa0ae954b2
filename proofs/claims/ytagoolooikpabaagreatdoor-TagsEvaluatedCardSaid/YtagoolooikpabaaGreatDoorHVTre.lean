/- Several texts in one: Trees of calculated tags: parsed, kids, and what follows. No condition. -/
import Derived.Test.YtagoolooikpabaaGreatDoorHVClM
set_option linter.all false
namespace Go.Proofs.YtagoolooikpabaaGreatDoor
open Go Go.RowKit
set_option maxRecDepth 100000
set_option maxHeartbeats 4000000
variable {H : Hp} {K : AV → Hp → Prop}
@[go_sem] theorem mapK_tr : mapK Tryz.prog 76 = some 9 := kRf
@[go_sem] theorem mapZ_tr : (mapE Tryz.prog 76).bind (zeroA Tryz.prog) = some (.c (.ptr none)) := kRf
def eTr (x : Cal) : AV × AV := (.c (.str x.tg), .c (.fp (encNd (exC x))))
def trO (cs : List Cal) : AObj := mpO (cs.map eTr)
theorem trO_okN (cs : List Cal) (n : Nat) : (trO cs).okN n := by
 intro p hp
 obtain ⟨x, _, rfl⟩ := List.mem_map.1 hp
 exact ⟨trivial, trivial⟩
attribute [simp] trO_okN
theorem get_tr (t : ByteArray) (cs : List Cal) : mapGet Tryz.prog 9 (.c (.str t)) (some (.c (.ptr none))) (cs.map eTr) = some (match cs.find? (trK t) with | some x => (.c (.fp (encNd (exC x))), true) | none => (.c (.ptr none), false)) := by
 rw [get_of (e := eTr) (p := trK t) kRf (findA_str t (fun x : Cal => x.tg) (fun x : Cal => .c (.fp (encNd (exC x)))) cs)]
 cases cs.find? (trK t) with
 | none => rfl
 | some p => rfl
theorem ups_new {cs : List Cal} (h : clF cs = 0) {k : Nat} (hk : k < cs.length) : upsert (trK cs[k].tg) cs[k] (cs.take k) = cs.take (k + 1) := by
 have h3 := (clF_ok h).2.2
 unfold upsert
 have hn : (cs.take k).findIdx? (trK cs[k].tg) = none := by
  rw [List.findIdx?_eq_none_iff]
  intro x hx
  obtain ⟨j, hj, rfl⟩ := List.getElem_of_mem hx
  rw [List.length_take] at hj
  rw [List.getElem_take]
  simp only [trK, decide_eq_false_iff_not]
  intro e
  have := h3 j k hk oMg
  rw [← e, ordS_rfl] at this
  omega
 rw [hn]
 exact (List.take_succ_eq_append_getElem hk).symm
theorem put_tr {cs : List Cal} (h : clF cs = 0) {k : Nat} (hk : k < cs.length) : mapPut Tryz.prog 9 (.c (.str cs[k].tg)) (.c (.fp (encNd (exC cs[k])))) ((cs.take k).map eTr) = some ((cs.take (k + 1)).map eTr) := by
 rw [← ups_new h hk]
 exact put_of (e := eTr) (p := trK cs[k].tg) (x := cs[k]) kRf (findA_str cs[k].tg (fun x : Cal => x.tg) (fun x : Cal => .c (.fp (encNd (exC x)))) (cs.take k)) rfl
theorem parsed_a (cs : List Cal) (h : clF cs = 0) (hs : ∀ x ∈ cs, x.fine) (hk : K (.c (.map (some H.length))) (H ++ [trO cs])) : ACalls Tryz.prog 46 [.c (.lst 2 (cs.map encCl))] H K := by
 obtain ⟨h1, h2, h3⟩ := clF_ok h
 refine acalls Tryz.func46 rfl kRf gT (fun hH => ?_)
 refine gO ?_
 refine AWp.loop (H.length + 1) [3, 7, 8] [9] (fun (k : Nat) => k ≤ cs.length) (fun (k : Nat) => [(9, (.c (.int .i64 k)))]) (fun (k : Nat) => H ++ [trO (cs.take k)]) (fun (k : Nat) => cs.length - k) kRf (fun _ => rfl) kRf sOo sOm kl ?_ (fun k hk1 _ _ => ?_)
 ·exact Next.mk 0 (Nat.zero_le _) wk
 by_cases hlt : k < cs.length
 ·have hp := (h2 cs[k] (List.getElem_mem hlt)).2
  have hput := put_tr h hlt
  obtain ⟨x, hx⟩ : ∃ x, x = cs[k] := ⟨_, rfl⟩
  rw [← hx] at hp hput
  have hsz := (hs x (by rw [hx]; exact List.getElem_mem hlt)).2
  have hsz : (tL x.ex).length ≤ 1000000 := hsz
  simp (disch := first | omega | (simp only [go_sem]; try omega)) only [go_sem, hlt, ← hx]
  refine w_tree (.one 0 (.one 1 (.one 3 (.one 4 (.two 2 (.one 5 (.one 6 (.one 7 (.one 8 (.one 9 (.one 10 .done)))))) 5 (.one 2 (.one 6 (.one 7 (.one 8 (.one 9 (.one 10 .done))))))))))) kRf dKn ?_
  refine gO ?_
  repeat' first
   | (refine parse_a (tL x.ex) hsz (fun e he => ?_) (fun a c he => by rw [hp] at he; cases he); rw [hp] at he; injection he with he; subst he; refine gO ?_)
   | (refine mup_mp kRf hput ?_; refine gO ?_)
   | apply And.intro
  all_goals (refine Next.mk (k + 1) ⟨by omega, by omega⟩ ?_; refine gO ?_; rw [List.append_cons]; refine WkL.rest (HOk.app hH (trO_okN _ _)) ?_ rfl ?_ <;> simp [AV.ok, AV.ok1, AC.ok])
 ·refine gO1 hlt ?_
  exact Ret.same sMp hk
end Go.Proofs.YtagoolooikpabaaGreatDoor
namespace Go.Proofs.YtagoolooikpabaaGreatDoor
open Go Go.RowKit
set_option maxRecDepth 100000
set_option maxHeartbeats 4000000
variable {H : Hp} {K : AV → Hp → Prop}
theorem kids1_a {cs : List Cal} (hF : clF cs = 0) {a b : Nat} (ha : H[a]? = some (trO cs)) (hb : H[b]? = some (.row 76 1 [[.map (some a)]] true)) (s : ByteArray) (hk : K (.c (.bool (!decide (s ∈ nmC cs)))) H) : ACalls Tryz.prog 104 [(.c (.str s)), .c (.ptr (some (b, 0, 0)))] H K := by
 have hg := get_tr s cs
 have hal := getElem?_lt ha
 have hbl := getElem?_lt hb
 refine acalls Tryz.func104 rfl kRf gT (fun hH => ?_)
 simp (disch := first | omega | (simp only [go_sem]; try omega)) only [go_sem, ha, hb, trO]
 refine look_mp kRf hg ?_ ?_
 ·cases cs.find? (trK s) <;> rfl
 by_cases hm : s ∈ nmC cs
 ·obtain ⟨x, _, _, hf⟩ := find_some hm hF
  rw [hf]
  simp only [hm, decide_true, Bool.not_true] at hk
  refine gO ?_
  exact Ret.same lRf hk
 ·rw [find_none hm]
  simp only [hm, decide_false, Bool.not_false] at hk
  refine gO ?_
  exact Ret.same lRf hk
theorem kids_a {cs : List Cal} (hF : clF cs = 0) {a : Nat} (ha : H[a]? = some (trO cs)) (t : ByteArray) (ht : t ∈ nmC cs) (hk : K (.c (.lst 1 ((kidC cs t).map encSs))) H) : ACalls Tryz.prog 49 [.c (.map (some a)), (.c (.str t))] H K := by
 have hg := get_tr t cs
 have hal := getElem?_lt ha
 obtain ⟨x, hx, _, hf⟩ := find_some ht hF
 rw [hf] at hg
 have hkc : kidC cs t = (tagsE (exC x)).filter fun k => decide (k ∈ nmC cs) := by unfold kidC; rw [hf]
 rw [hkc] at hk
 obtain ⟨ok1, ok2⟩ := exC_ok hF hx
 have htl := tagsE_lenC (exC x)
 have hae : H[a] = trO cs := by rw [List.getElem?_eq_getElem hal] at ha; exact Option.some.inj ha
 refine acalls Tryz.func49 rfl kRf gT (fun hH => ?_)
 simp (disch := first | omega | (simp only [go_sem]; try omega)) only [go_sem, hae, trO]
 refine look_mp kRf hg rfl ?_
 refine gO ?_
 refine tagsO_a (exC x) oMg ok1 ?_
 refine gO ?_
 have hb : ∀ G : Hp, (H ++ .row 76 1 [[.map (some a)]] true :: G)[H.length]? = some (.row 76 1 [[.map (some a)]] true) := fun G => by simp
 refine delxGrTg_a _ [(H.length, 0, 0)] (fun k => !decide (k ∈ nmC cs)) kRf (by intro p q r h; simp at h; simp; omega) (tagsE (exC x)) sMp (fun G s K hG _ hK => kids1_a hF (a := a) (b := H.length) ?_ ?_ s hK) oMg ?_
 ·rw [hG a (by simp; omega) oMg, List.getElem?_append_left hal]; exact ha
 ·rw [hG H.length sMp oMg]; exact hb _
 refine gO ?_
 exact Ret.cut hH lRf trivial (Ret.same lRf hk)
end Go.Proofs.YtagoolooikpabaaGreatDoor
