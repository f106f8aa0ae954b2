/- Several texts in one: Calculated tags that are right: names, expressions, kids, and what follows. No condition. -/
import Derived.Test.YtagoolooikpabaaGreatDoorHVClF
import Derived.Test.YtagoolooikpabaaGreatDoorHVTgs
set_option linter.all false
namespace Go.Proofs.YtagoolooikpabaaGreatDoor
open Go Go.RowKit
set_option maxRecDepth 100000
set_option maxHeartbeats 1000000
def exC (x : Cal) : Ex := match parF (tL x.ex) with | .ok e => e | .error _ => .num 0
def nmC (cs : List Cal) : List Nme := cs.map (·.tg)
def trK (t : Nme) (x : Cal) : Bool := decide (t = x.tg)
def kidC (cs : List Cal) (t : Nme) : List Nme := match cs.find? (trK t) with
 | some x => (tagsE (exC x)).filter fun k => decide (k ∈ nmC cs)
 | none => []
theorem par_neC {l : List UInt8} {a c : Int} (h : parF l = .error (a, c)) : c ≠ 0 := by
 unfold parF at h
 repeat' split at h
 all_goals first | (cases h; done) | (injection h with h; injection h with h1 h2; omega)
theorem chk_ok {x : Cal} (h : (chkF (tL x.ex)).2 = 0) : parF (tL x.ex) = .ok (exC x) := by
 unfold chkF at h
 unfold exC
 cases hp : parF (tL x.ex) with
 | error e =>
  obtain ⟨a, c⟩ := e
  rw [hp] at h
  exact absurd h (par_neC hp)
 | ok e => rfl
theorem clF_ok {l : List Cal} (h : clF l = 0) : l.length ≤ 100 ∧ (∀ x ∈ l, clName x.tg ∧ parF (tL x.ex) = .ok (exC x)) ∧ ∀ (i j : Nat) (hj : j < l.length) (hij : i < j), ordS (l[i]'oMg).tg l[j].tg < 0 := by
 unfold clF at h
 split at h
 ·cases h
 ·have hall := errGo_eachS clErr cal0 l h
  have key : ∀ k (hk : k < l.length), clName l[k].tg ∧ (∀ hk0 : 0 < k, ordS (l[k - 1]'oMg).tg l[k].tg < 0) ∧ (chkF (tL l[k].ex)).2 = 0 := fun k hk => by
   have h1 := hall k hk
   unfold clErr at h1
   split at h1
   ·cases h1
   ·rename_i hkey
    split at h1
    ·cases h1
    ·rename_i h2
     refine ⟨Decidable.not_not.1 hkey, fun hk0 => ?_, h1⟩
     have hpv : prv cal0 l k = l[k - 1]'oMg := prv_pos _ _ _ oMg hk0
     rw [hpv, leS_ord, decide_eq_true_eq] at h2
     have := ordS_flip l[k].tg (l[k - 1]'oMg).tg
     omega
  refine ⟨by omega, fun x hx => ?_, fun i j hj hij => ?_⟩
  ·obtain ⟨k, hk, rfl⟩ := List.getElem_of_mem hx
   exact ⟨(key k hk).1, chk_ok (key k hk).2.2⟩
  ·obtain ⟨d, rfl⟩ : ∃ d, j = i + 1 + d := ⟨j - (i + 1), by omega⟩
   have key2 : ∀ d (hj : i + 1 + d < l.length), ordS (l[i]'oMg).tg l[i + 1 + d].tg < 0 := by
    intro d
    induction d with
    | zero => exact fun hj => (key (i + 1) hj).2.1 oMg
    | succ d ih =>
    intro hj
    have h1 := ih oMg
    have h2 := (key (i + 1 + (d + 1)) hj).2.1 oMg
    exact ordS_trans h1 h2
   exact key2 d hj
theorem nmC_rise {cs : List Cal} (h : clF cs = 0) : (nmC cs).Pairwise ltN := by
 obtain ⟨_, _, h3⟩ := clF_ok h
 unfold nmC
 rw [List.pairwise_iff_getElem]
 intro i j hi hj hij
 rw [List.length_map] at hi hj
 simp only [List.getElem_map]
 exact h3 i j hj hij
theorem nmC_mem {cs : List Cal} {x : Cal} (h : x ∈ cs) : x.tg ∈ nmC cs := List.mem_map.2 ⟨x, h, rfl⟩
theorem find_at {cs : List Cal} (h : clF cs = 0) {k : Nat} (hk : k < cs.length) : cs.find? (trK cs[k].tg) = some cs[k] := by
 obtain ⟨_, _, h3⟩ := clF_ok h
 rw [List.find?_eq_some_iff_getElem]
 refine ⟨by simp [trK], k, hk, rfl, fun j hj => ?_⟩
 simp only [trK, Bool.not_eq_true', decide_eq_false_iff_not]
 intro e
 have := h3 j k hk hj
 rw [← e, ordS_rfl] at this
 omega
theorem find_mem {cs : List Cal} (h : clF cs = 0) {x : Cal} (hx : x ∈ cs) : cs.find? (trK x.tg) = some x := by
 obtain ⟨k, hk, rfl⟩ := List.getElem_of_mem hx
 exact find_at h hk
theorem find_none {cs : List Cal} {t : Nme} (h : t ∉ nmC cs) : cs.find? (trK t) = none := by
 rw [List.find?_eq_none]
 intro x hx e
 simp only [trK, decide_eq_true_eq] at e
 exact h (e ▸ nmC_mem hx)
theorem find_some {cs : List Cal} {t : Nme} (h : t ∈ nmC cs) (hF : clF cs = 0) : ∃ x ∈ cs, x.tg = t ∧ cs.find? (trK t) = some x := by
 obtain ⟨x, hx, rfl⟩ := List.mem_map.1 h
 exact ⟨x, hx, rfl, find_mem hF hx⟩
theorem exC_ok {cs : List Cal} (h : clF cs = 0) {x : Cal} (hx : x ∈ cs) : ExOk (exC x) ∧ szE (exC x) ≤ 501 := by
 have := ((clF_ok h).2.1 x hx).2
 exact ⟨par_good this, par_sz this⟩
theorem cplG_leC {α : Type} [DecidableEq α] : ∀ (t : List α) (x : α), (cplG x t).length ≤ t.length
 | [], _ => Nat.le_refl _
 | y :: t, x => by
  have := cplG_leC t y
  unfold cplG
  rw [List.length_append, List.length_cons]
  split
  ·simp only [List.length_nil]; omega
  ·simp only [List.length_cons, List.length_nil]; omega
theorem tagsE_lenC (e : Ex) : (tagsE e).length ≤ szE e := by
 have h1 : (cplF (srtS (nmsE e))).length ≤ (srtS (nmsE e)).length := by
  cases srtS (nmsE e) with
  | nil => exact Nat.le_refl _
  | cons x t =>
   have := cplG_leC t x
   unfold cplF
   simp only [List.length_cons]
   omega
 have h2 := srtS_len (nmsE e)
 have h3 := nmsE_len e
 unfold tagsE
 omega
theorem kidC_len {cs : List Cal} (h : clF cs = 0) (t : Nme) : (kidC cs t).length ≤ 501 := by
 unfold kidC
 split
 ·rename_i x hx
  have h1 := (exC_ok h (List.mem_of_find?_eq_some hx)).2
  have h2 := tagsE_lenC (exC x)
  have h3 := List.length_filter_le (fun k => decide (k ∈ nmC cs)) (tagsE (exC x))
  omega
 ·exact Nat.zero_le _
end Go.Proofs.YtagoolooikpabaaGreatDoor
namespace Go.Proofs.YtagoolooikpabaaGreatDoor
open Go Go.RowKit
set_option maxRecDepth 100000
set_option maxHeartbeats 1000000
def affB (t : Nme) (h : List Nme) (x : Cal) : Bool := !decide (x.tg ∈ h) && (tagsE (exC x)).any fun s => decide (s = t) || decide (s ∈ h)
def affS (t : Nme) (h : List Nme) (x : Cal) : List Nme := if affB t h x = true then h ++ [x.tg] else h
def affP (t : Nme) (l : List Cal) (h : List Nme) : List Nme := l.foldl (affS t) h
def affN (t : Nme) (cs : List Cal) : Nat → List Nme → List Nme
 | 0, h => h
 | f + 1, h => if (affP t cs h).length = h.length then h else affN t cs f (affP t cs h)
def affG (t : Nme) (cs : List Cal) : List Nme := affN t cs (cs.length + 1) []
def AfOk (cs : List Cal) (h : List Nme) : Prop := h.Nodup ∧ ∀ x ∈ h, x ∈ nmC cs
theorem AfOk.len {cs : List Cal} {h : List Nme} (g : AfOk cs h) : h.length ≤ cs.length := by
 have := nodup_len g.1 g.2
 unfold nmC at this
 rwa [List.length_map] at this
theorem affS_ok {t : Nme} {cs : List Cal} {h : List Nme} {x : Cal} (g : AfOk cs h) (hx : x ∈ cs) : AfOk cs (affS t h x) ∧ h.length ≤ (affS t h x).length := by
 unfold affS
 split
 ·rename_i hb
  unfold affB at hb
  rw [Bool.and_eq_true, Bool.not_eq_true', decide_eq_false_iff_not] at hb
  refine ⟨⟨?_, fun y hy => ?_⟩, by simp⟩
  ·rw [List.nodup_append]
   refine ⟨g.1, by simp, fun a ha b hb2 e => ?_⟩
   rw [List.mem_singleton] at hb2
   subst hb2; subst e
   exact hb.1 ha
  ·rcases List.mem_append.1 hy with h1 | h1
   ·exact g.2 y h1
   ·rw [List.mem_singleton.1 h1]; exact nmC_mem hx
 ·exact ⟨g, Nat.le_refl _⟩
theorem affP_ok {t : Nme} {cs : List Cal} : ∀ (l : List Cal) (h : List Nme), (∀ x ∈ l, x ∈ cs) → AfOk cs h → AfOk cs (affP t l h) ∧ h.length ≤ (affP t l h).length
 | [], h, _, g => ⟨g, Nat.le_refl _⟩
 | x :: l, h, hl, g => by
  have h1 := affS_ok (t := t) g (hl x sMp)
  have h2 := affP_ok (t := t) l (affS t h x) (fun y hy => hl y (by simp [hy])) h1.1
  exact ⟨h2.1, Nat.le_trans h1.2 h2.2⟩
theorem affS_len (t : Nme) (h : List Nme) (x : Cal) : h.length ≤ (affS t h x).length := by
 unfold affS
 split
 ·simp
 ·exact Nat.le_refl _
theorem affP_len (t : Nme) : ∀ (l : List Cal) (h : List Nme), h.length ≤ (affP t l h).length
 | [], h => Nat.le_refl _
 | x :: l, h => Nat.le_trans (affS_len t h x) (affP_len t l _)
theorem affP_same {t : Nme} : ∀ (l : List Cal) (h : List Nme), (affP t l h).length ≤ h.length → affP t l h = h
 | [], h, _ => rfl
 | x :: l, h, e => by
  have h1 := affP_len t l (affS t h x)
  have e : (affP t l (affS t h x)).length ≤ h.length := e
  have h2 : affS t h x = h := by
   unfold affS at h1 e ⊢
   split at h1
   ·rename_i hb
    rw [if_pos hb] at e
    rw [List.length_append] at h1
    simp at h1
    omega
   ·rename_i hb
    rw [if_neg hb]
  show affP t l (affS t h x) = h
  rw [h2] at e ⊢
  exact affP_same l h e
def AfAt (t : Nme) (cs : List Cal) (f : Nat) (h : List Nme) (b : Bool) : Prop := AfOk cs h ∧ cs.length + 1 ≤ h.length + f ∧ (b = true → affN t cs f h = affG t cs) ∧ (b = false → h = affG t cs)
theorem AfAt.zero (t : Nme) (cs : List Cal) : AfAt t cs (cs.length + 1) [] true := ⟨⟨List.nodup_nil, by simp⟩, by simp, fun _ => rfl, fun h => by cases h⟩
theorem AfAt.step {t : Nme} {cs : List Cal} {f : Nat} {h : List Nme} (g : AfAt t cs f h true) : ∃ f2, AfAt t cs f2 (affP t cs h) (decide (h.length < (affP t cs h).length)) := by
 obtain ⟨g1, g2, g3, g4⟩ := g
 have hl := g1.len
 obtain ⟨p, rfl⟩ : ∃ p, f = p + 1 := ⟨f - 1, by omega⟩
 have h3 := g3 rfl
 obtain ⟨k1, k2⟩ := affP_ok (t := t) cs h (fun _ hx => hx) g1
 unfold affN at h3
 by_cases he : (affP t cs h).length = h.length
 ·rw [if_pos he] at h3
  refine ⟨p + 1, k1, by omega, fun hb => ?_, fun _ => ?_⟩
  ·rw [decide_eq_true_eq] at hb; omega
  ·rw [← h3]
   exact affP_same cs h oMg
 ·rw [if_neg he] at h3
  exact ⟨p, k1, by omega, fun _ => h3, fun hb => by rw [decide_eq_false_iff_not] at hb; omega⟩
end Go.Proofs.YtagoolooikpabaaGreatDoor
namespace Go.Proofs.YtagoolooikpabaaGreatDoor
open Go Go.RowKit
set_option maxRecDepth 100000
set_option maxHeartbeats 4000000
variable {H : Hp} {K : AV → Hp → Prop}
theorem nC_nm {cs : List Cal} {t : ByteArray} : nC cs t ↔ t ∉ nmC cs := by
 unfold nC nmC
 rw [List.mem_map]
 exact ⟨fun h => fun ⟨x, hx, e⟩ => h x hx e, fun h x hx e => h ⟨x, hx, e⟩⟩
theorem noKid_a {cs : List Cal} (hl : cs.length ≤ 1000) {b : Nat} (hb : H[b]? = some (.row 26 1 [[.lst 2 (cs.map encCl)]] true)) (s : ByteArray) (hk : K (.c (.bool (!decide (s ∈ nmC cs)))) H) : ACalls Tryz.prog 115 [(.c (.str s)), .c (.ptr (some (b, 0, 0)))] H K := by
 have hbl := getElem?_lt hb
 refine acalls Tryz.func115 rfl kRf gT (fun hH => ?_)
 refine gO1 hb ?_
 refine calAt_a cs s oMg (fun h => ?_) (fun k h1 h2 _ => ?_)
 ·rw [decide_eq_false (nC_nm.1 h)] at hk
  refine gO ?_
  exact Ret.same lRf hk
 ·have hm : s ∈ nmC cs := by rw [← h2]; exact nmC_mem (List.getElem_mem h1)
  rw [decide_eq_true hm] at hk
  refine gO ?_
  exact Ret.same lRf hk
theorem kidsOf_a {cs : List Cal} (hF : clF cs = 0) (hs : ∀ x ∈ cs, x.fine) (t : ByteArray) (ht : t ∈ nmC cs) (hk : K (.c (.lst 1 ((kidC cs t).map encSs))) H) : ACalls Tryz.prog 64 [.c (.lst 2 (cs.map encCl)), (.c (.str t))] H K := by
 have hl := (clF_ok hF).1
 refine acalls Tryz.func64 rfl kRf gT (fun hH => ?_)
 refine gO ?_
 refine calAt_a cs t oMg (fun h => absurd ht (nC_nm.1 h)) (fun k h1 h2 _ => ?_)
 have hf := find_at hF h1
 rw [h2] at hf
 have hx := List.getElem_mem h1
 have hp := ((clF_ok hF).2.1 _ hx).2
 have hsz : (tL cs[k].ex).length ≤ 1000000 := (hs _ hx).2
 have hkc : kidC cs t = (tagsE (exC cs[k])).filter fun k => decide (k ∈ nmC cs) := by unfold kidC; rw [hf]
 rw [hkc] at hk
 obtain ⟨ok1, ok2⟩ := exC_ok hF hx
 have htl := tagsE_lenC (exC cs[k])
 simp (disch := first | omega | (simp only [go_sem]; try omega)) only [go_sem, h1]
 refine tagsInO_a (tL cs[k].ex) hsz (exC cs[k]) hp ?_
 refine gO ?_
 have hb : ∀ G : Hp, (H ++ .row 26 1 [[.lst 2 (cs.map encCl)]] true :: G)[H.length]? = some (.row 26 1 [[.lst 2 (cs.map encCl)]] true) := fun G => by simp
 refine delxGrTg_a _ [(H.length, 0, 0)] (fun k => !decide (k ∈ nmC cs)) kRf (by intro p q r h; simp at h; simp; omega) (tagsE (exC cs[k])) sMp (fun G s K hG _ hK => noKid_a oMg (b := H.length) ?_ s hK) oMg ?_
 ·rw [hG H.length sMp oMg]; exact hb _
 refine gO ?_
 exact Ret.cut hH lRf trivial (Ret.same lRf hk)
end Go.Proofs.YtagoolooikpabaaGreatDoor
