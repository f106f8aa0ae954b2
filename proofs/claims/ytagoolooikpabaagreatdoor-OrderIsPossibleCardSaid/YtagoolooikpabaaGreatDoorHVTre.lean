/- Several texts in one: Trees of calculated tags: parsed, kids, and what follows. No condition. -/
import Derived.Test.YtagoolooikpabaaGreatDoorHVClM
import Derived.Test.YtagoolooikpabaaGreatDoorHVTgO
set_option linter.all false
namespace Go.Proofs.YtagoolooikpabaaGreatDoor
open Go Go.RowKit
set_option maxRecDepth 100000
set_option maxHeartbeats 4000000
variable {H : Hp} {K : AV → Hp → Prop}
@[go_sem] theorem mapK_tr : mapK Tryz.prog 76 = some 9 := (by kernel_rfl)
@[go_sem] theorem mapZ_tr : (mapE Tryz.prog 76).bind (zeroA Tryz.prog) = some (.c (.ptr none)) := (by kernel_rfl)
def eTr (x : Cal) : AV × AV := (.c (.str x.tg), .c (.fp (encNd (exC x))))
def trO (cs : List Cal) : AObj := mpO (cs.map eTr)
theorem trO_okN (cs : List Cal) (n : Nat) : (trO cs).okN n := by
 intro p hp
 obtain ⟨x, _, rfl⟩ := List.mem_map.1 hp
 exact ⟨trivial, trivial⟩
attribute [simp] trO_okN
theorem get_tr (t : ByteArray) (cs : List Cal) : mapGet Tryz.prog 9 (.c (.str t)) (some (.c (.ptr none))) (cs.map eTr) = some (match cs.find? (trK t) with | some x => (.c (.fp (encNd (exC x))), true) | none => (.c (.ptr none), false)) := by
 rw [get_of (e := eTr) (p := trK t) (by kernel_rfl) (findA_str t (fun x : Cal => x.tg) (fun x : Cal => .c (.fp (encNd (exC x)))) cs)]
 cases cs.find? (trK t) with
 | none => rfl
 | some p => rfl
theorem ups_new {cs : List Cal} (h : clF cs = 0) {k : Nat} (hk : k < cs.length) : upsert (trK cs[k].tg) cs[k] (cs.take k) = cs.take (k + 1) := by
 have h3 := (clF_ok h).2.2
 unfold upsert
 have hn : (cs.take k).findIdx? (trK cs[k].tg) = none := by
  rw [List.findIdx?_eq_none_iff]
  intro x hx
  obtain ⟨j, hj, rfl⟩ := List.getElem_of_mem hx
  rw [List.length_take] at hj
  rw [List.getElem_take]
  simp only [trK, decide_eq_false_iff_not]
  intro e
  have := h3 j k hk (by omega)
  rw [← e, ordS_rfl] at this
  omega
 rw [hn]
 exact (List.take_succ_eq_append_getElem hk).symm
theorem put_tr {cs : List Cal} (h : clF cs = 0) {k : Nat} (hk : k < cs.length) : mapPut Tryz.prog 9 (.c (.str cs[k].tg)) (.c (.fp (encNd (exC cs[k])))) ((cs.take k).map eTr) = some ((cs.take (k + 1)).map eTr) := by
 rw [← ups_new h hk]
 exact put_of (e := eTr) (p := trK cs[k].tg) (x := cs[k]) (by kernel_rfl) (findA_str cs[k].tg (fun x : Cal => x.tg) (fun x : Cal => .c (.fp (encNd (exC x)))) (cs.take k)) rfl
theorem parsed_a (cs : List Cal) (h : clF cs = 0) (hs : ∀ x ∈ cs, x.fine) (hk : K (.c (.map (some H.length))) (H ++ [trO cs])) : ACalls Tryz.prog 46 [.c (.lst 2 (cs.map encCl))] H K := by
 obtain ⟨h1, h2, h3⟩ := clF_ok h
 refine acalls Tryz.func46 rfl (by kernel_rfl) (by simp (disch := first | omega | (simp only [go_sem]; try omega)) only [go_sem]) (fun hH => ?_)
 simp (disch := first | omega | (simp only [go_sem]; try omega)) only [go_sem]
 refine AWp.loop (H.length + 1) [3, 7, 8] [9] (fun (k : Nat) => k ≤ cs.length) (fun (k : Nat) => [(9, (.c (.int .i64 k)))]) (fun (k : Nat) => H ++ [trO (cs.take k)]) (fun (k : Nat) => cs.length - k) (by kernel_rfl) (fun _ => rfl) (by kernel_rfl) (by first | (simp; done) | omega) (by first | (simp; done) | (simp; omega) | omega) kl ?_ (fun k hk1 _ _ => ?_)
 ·exact Next.mk 0 (Nat.zero_le _) wk
 by_cases hlt : k < cs.length
 ·have hp := (h2 cs[k] (List.getElem_mem hlt)).2
  have hput := put_tr h hlt
  obtain ⟨x, hx⟩ : ∃ x, x = cs[k] := ⟨_, rfl⟩
  rw [← hx] at hp hput
  have hsz := (hs x (by rw [hx]; exact List.getElem_mem hlt)).2
  have hsz : (tL x.ex).length ≤ 1000000 := hsz
  simp (disch := first | omega | (simp only [go_sem]; try omega)) only [go_sem, hlt, ← hx]
  refine w_tree (.one 0 (.one 1 (.one 3 (.one 4 (.two 2 (.one 5 (.one 6 (.one 7 (.one 8 (.one 9 (.one 10 .done)))))) 5 (.one 2 (.one 6 (.one 7 (.one 8 (.one 9 (.one 10 .done))))))))))) (by kernel_rfl) (by decide +kernel) ?_
  simp (disch := first | omega | (simp only [go_sem]; try omega)) only [go_sem]
  repeat' first
   | (refine parse_a (tL x.ex) hsz (fun e he => ?_) (fun a c he => by rw [hp] at he; cases he); rw [hp] at he; injection he with he; subst he; simp (disch := first | omega | (simp only [go_sem]; try omega)) only [go_sem])
   | (refine mup_mp (by kernel_rfl) hput ?_; simp (disch := first | omega | (simp only [go_sem]; try omega)) only [go_sem])
   | apply And.intro
  all_goals (refine Next.mk (k + 1) ⟨by omega, by omega⟩ ?_; simp (disch := first | omega | (simp only [go_sem]; try omega)) only [go_sem]; rw [List.append_cons]; refine WkL.rest (HOk.app hH (trO_okN _ _)) ?_ rfl ?_ <;> simp [AV.ok, AV.ok1, AC.ok])
 ·simp (disch := first | omega | (simp only [go_sem]; try omega)) only [go_sem, hlt]
  exact Ret.same (by simp) hk
end Go.Proofs.YtagoolooikpabaaGreatDoor
namespace Go.Proofs.YtagoolooikpabaaGreatDoor
open Go Go.RowKit
set_option maxRecDepth 100000
set_option maxHeartbeats 4000000
variable {H : Hp} {K : AV → Hp → Prop}
theorem kids1_a {cs : List Cal} (hF : clF cs = 0) {a b : Nat} (ha : H[a]? = some (trO cs)) (hb : H[b]? = some (.row 76 1 [[.map (some a)]] true)) (s : ByteArray) (hk : K (.c (.bool (!decide (s ∈ nmC cs)))) H) : ACalls Tryz.prog 104 [(.c (.str s)), .c (.ptr (some (b, 0, 0)))] H K := by
 have hg := get_tr s cs
 have hal := getElem?_lt ha
 have hbl := getElem?_lt hb
 refine acalls Tryz.func104 rfl (by kernel_rfl) (by simp (disch := first | omega | (simp only [go_sem]; try omega)) only [go_sem]) (fun hH => ?_)
 simp (disch := first | omega | (simp only [go_sem]; try omega)) only [go_sem, ha, hb, trO]
 refine look_mp (by kernel_rfl) hg ?_ ?_
 ·cases cs.find? (trK s) <;> rfl
 by_cases hm : s ∈ nmC cs
 ·obtain ⟨x, _, _, hf⟩ := find_some hm hF
  rw [hf]
  simp only [hm, decide_true, Bool.not_true] at hk
  simp (disch := first | omega | (simp only [go_sem]; try omega)) only [go_sem]
  exact Ret.same (Nat.le_refl _) hk
 ·rw [find_none hm]
  simp only [hm, decide_false, Bool.not_false] at hk
  simp (disch := first | omega | (simp only [go_sem]; try omega)) only [go_sem]
  exact Ret.same (Nat.le_refl _) hk
theorem kids_a {cs : List Cal} (hF : clF cs = 0) {a : Nat} (ha : H[a]? = some (trO cs)) (t : ByteArray) (ht : t ∈ nmC cs) (hk : K (.c (.lst 1 ((kidC cs t).map encSs))) H) : ACalls Tryz.prog 49 [.c (.map (some a)), (.c (.str t))] H K := by
 have hg := get_tr t cs
 have hal := getElem?_lt ha
 obtain ⟨x, hx, _, hf⟩ := find_some ht hF
 rw [hf] at hg
 have hkc : kidC cs t = (tagsE (exC x)).filter fun k => decide (k ∈ nmC cs) := by unfold kidC; rw [hf]
 rw [hkc] at hk
 obtain ⟨ok1, ok2⟩ := exC_ok hF hx
 have htl := tagsE_lenC (exC x)
 have hae : H[a] = trO cs := by rw [List.getElem?_eq_getElem hal] at ha; exact Option.some.inj ha
 refine acalls Tryz.func49 rfl (by kernel_rfl) (by simp (disch := first | omega | (simp only [go_sem]; try omega)) only [go_sem]) (fun hH => ?_)
 simp (disch := first | omega | (simp only [go_sem]; try omega)) only [go_sem, hae, trO]
 refine look_mp (by kernel_rfl) hg rfl ?_
 simp (disch := first | omega | (simp only [go_sem]; try omega)) only [go_sem]
 refine tagsO_a (exC x) (by omega) ok1 ?_
 simp (disch := first | omega | (simp only [go_sem]; try omega)) only [go_sem]
 have hb : ∀ G : Hp, (H ++ .row 76 1 [[.map (some a)]] true :: G)[H.length]? = some (.row 76 1 [[.map (some a)]] true) := fun G => by simp
 refine delxGrTg_a _ [(H.length, 0, 0)] (fun k => !decide (k ∈ nmC cs)) (by kernel_rfl) (by intro p q r h; simp at h; simp; omega) (tagsE (exC x)) (by simp) (fun G s K hG _ hK => kids1_a hF (a := a) (b := H.length) ?_ ?_ s hK) (by omega) ?_
 ·rw [hG a (by simp; omega) (by omega), List.getElem?_append_left hal]; exact ha
 ·rw [hG H.length (by simp) (by omega)]; exact hb _
 simp (disch := first | omega | (simp only [go_sem]; try omega)) only [go_sem]
 exact Ret.cut hH (Nat.le_refl _) trivial (Ret.same (Nat.le_refl _) hk)
end Go.Proofs.YtagoolooikpabaaGreatDoor
namespace Go.Proofs.YtagoolooikpabaaGreatDoor
open Go Go.RowKit
set_option maxRecDepth 100000
set_option maxHeartbeats 4000000
variable {H : Hp} {K : AV → Hp → Prop}
theorem ordB_lt : ∀ a b : List UInt8, Lib.compareBytes a b < 0 → a < b
 | [], [] => by simp [Lib.compareBytes]
 | [], _ :: _ => by simp [Lib.compareBytes]
 | _ :: _, [] => by simp [Lib.compareBytes]
 | x :: xs, y :: ys => by
  have ih := ordB_lt xs ys
  intro h
  unfold Lib.compareBytes at h
  rw [List.cons_lt_cons_iff]
  grind
theorem srtS_same {L M : List ByteArray} (hL : L.Nodup) (hM : M.Pairwise ltN) (h : ∀ x, x ∈ L ↔ x ∈ M) : srtS L = M := by
 have hp : L.Perm M := (List.perm_ext_iff_of_nodup hL (rise_nodup hM)).2 h
 unfold srtS
 have e : (L.map toL).mergeSort (fun x y => decide (x ≤ y)) = (M.map toL).mergeSort (fun x y => decide (x ≤ y)) := mergeSort_of_perm (hp.map toL)
 rw [e, List.mergeSort_of_pairwise, List.map_map]
 ·exact List.map_id'' (fun x => rfl) _
 ·rw [List.pairwise_map]
  exact hM.imp fun h => decide_eq_true (List.le_of_lt (ordB_lt _ _ h))
theorem mkeysT_a (i : Nat) (hk : K (.c (.fn 163 [] [(H.length, 0, 0)])) (H ++ [.row 76 1 [[.map (some i)]] true])) : ACalls Tryz.prog 100 [.c (.map (some i))] H K := by
 refine acalls Tryz.func100 rfl (by kernel_rfl) (by simp (disch := first | omega | (simp only [go_sem]; try omega)) only [go_sem]) (fun hH => ?_)
 simp (disch := first | omega | (simp only [go_sem]; try omega)) only [go_sem]
 exact Ret.same (by simp) hk
theorem mkeysH_a (i : Nat) (hk : K (.c (.fn 110 [] [(H.length, 0, 0)])) (H ++ [.row 82 1 [[.map (some i)]] true])) : ACalls Tryz.prog 56 [.c (.map (some i))] H K := by
 refine acalls Tryz.func56 rfl (by kernel_rfl) (by simp (disch := first | omega | (simp only [go_sem]; try omega)) only [go_sem]) (fun hH => ?_)
 simp (disch := first | omega | (simp only [go_sem]; try omega)) only [go_sem]
 exact Ret.same (by simp) hk
theorem namesT_a {cs : List Cal} (hF : clF cs = 0) (hs : ∀ x ∈ cs, x.fine) {i j t : Nat} (hi : H[i]? = some (trO cs)) (hj : H[j]? = some (.row t 1 [[.map (some i)]] true))
  (hk : K (.c (.lst 1 ((nmC cs).map encSs))) H) : ACalls Tryz.prog 55 [.c (.fn 163 [] [(j, 0, 0)])] H K := by
 have hr := nmC_rise hF
 have hl := (clF_ok hF).1
 have hi2 : H[i]? = some (.map (List.range cs.length) (cs.length + 1) (cs.map fun x => (.c (.str x.tg), .c (.fp (encNd (exC x)))))) := by
  rw [hi]
  unfold trO mpO
  rw [List.length_map]
  rfl
 have hsr : srtS (cs.map (·.tg)) = nmC cs := srtS_same (rise_nodup hr) hr (fun x => Iff.rfl)
 refine ACalls.postR (keyzT_a cs (·.tg) (fun x => .c (.fp (encNd (exC x)))) (List.range cs.length) cs.length i j t hi2 hj List.nodup_range (fun b hb => by simpa using hb) (rise_nodup hr) (fun x hx => by have := (hs x hx).1; omega) (by omega) (K := fun v G => v = .c (grV H.length (srtS (cs.map (·.tg)))) ∧ G = H ++ [grO 9 1 ((srtS (cs.map (·.tg))).map encSs)]) ⟨rfl, rfl⟩) ?_
 rintro hH _ _ ⟨rfl, rfl⟩
 rw [hsr]
 exact Ret.frzGr 0 hH (Nat.le_refl _) rfl (pureL_map _ (fun x => by simp [go_sem, AC.pure])) (map_grV _ _ _).symm hk
def eHt (x : ByteArray) : AV × AV := (.c (.str x), .c (.bool true))
def htO (l : List ByteArray) : AObj := mpO (l.map eHt)
theorem htO_okN (l : List ByteArray) (n : Nat) : (htO l).okN n := by
 intro p hp
 obtain ⟨x, _, rfl⟩ := List.mem_map.1 hp
 exact ⟨trivial, trivial⟩
attribute [simp] htO_okN
theorem namesH_a (l : List ByteArray) (hn : l.Nodup) (hs : ∀ x ∈ l, x.size ≤ 1000000) (hl : l.length ≤ 1000000) {i j t : Nat} (hi : H[i]? = some (htO l)) (hj : H[j]? = some (.row t 1 [[.map (some i)]] true))
  (hk : K (.c (.lst 1 ((srtS l).map encSs))) H) : ACalls Tryz.prog 55 [.c (.fn 110 [] [(j, 0, 0)])] H K := by
 have hi2 : H[i]? = some (.map (List.range l.length) (l.length + 1) (l.map fun x => (.c (.str (id x)), .c (.bool true)))) := by
  rw [hi]
  unfold htO mpO
  rw [List.length_map]
  rfl
 refine ACalls.postR (keyzH_a l id (fun _ => .c (.bool true)) (List.range l.length) l.length i j t hi2 hj List.nodup_range (fun b hb => by simpa using hb) (by rwa [List.map_id]) hs hl (K := fun v G => v = .c (grV H.length (srtS (l.map id))) ∧ G = H ++ [grO 9 1 ((srtS (l.map id)).map encSs)]) ⟨rfl, rfl⟩) ?_
 rintro hH _ _ ⟨rfl, rfl⟩
 rw [List.map_id]
 exact Ret.frzGr 0 hH (Nat.le_refl _) rfl (pureL_map _ (fun x => by simp [go_sem, AC.pure])) (map_grV _ _ _).symm hk
@[go_sem] theorem mapK_ht : mapK Tryz.prog 82 = some 9 := (by kernel_rfl)
@[go_sem] theorem mapZ_ht : (mapE Tryz.prog 82).bind (zeroA Tryz.prog) = some (.c (.bool false)) := (by kernel_rfl)
theorem get_ht (t : ByteArray) (l : List ByteArray) : mapGet Tryz.prog 9 (.c (.str t)) (some (.c (.bool false))) (l.map eHt) = some ((.c (.bool (decide (t ∈ l)))), decide (t ∈ l)) := by
 rw [get_of (e := eHt) (p := fun x => decide (t = x)) (by kernel_rfl) (findA_str t (fun x => x) (fun _ => (.c (.bool true))) l)]
 by_cases h : t ∈ l
 ·cases hf : l.find? (fun x => decide (t = x)) with
  | none => exact absurd (List.find?_eq_none.1 hf t h) (by simp)
  | some y => simp [h]; rfl
 ·have hf : l.find? (fun x => decide (t = x)) = none := by
   rw [List.find?_eq_none]
   intro x hx e
   simp only [decide_eq_true_eq] at e
   exact h (e ▸ hx)
  rw [hf]
  simp [h]
theorem put_ht {t : ByteArray} {l : List ByteArray} (h : t ∉ l) : mapPut Tryz.prog 9 (.c (.str t)) (.c (.bool true)) (l.map eHt) = some ((l ++ [t]).map eHt) := by
 have hn : l.findIdx? (fun x => decide (t = x)) = none := by
  rw [List.findIdx?_eq_none_iff]
  intro x hx
  simp only [decide_eq_false_iff_not]
  rintro rfl
  exact h hx
 have := put_of (e := eHt) (p := fun x => decide (t = x)) (x := t) (by kernel_rfl) (findA_str t (fun x => x) (fun _ => (.c (.bool true))) l) (l := l) (P := Tryz.prog) (kt := 9) rfl
 unfold upsert at this
 rw [hn] at this
 exact this
end Go.Proofs.YtagoolooikpabaaGreatDoor
