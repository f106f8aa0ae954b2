/- Several texts in one: Calculated tags that are right: names, expressions, kids, and what follows. No condition. -/
import Derived.Test.YtagoolooikpabaaGreatDoorHVClF
import Derived.Test.YtagoolooikpabaaGreatDoorHVTgs
set_option linter.all false
namespace Go.Proofs.YtagoolooikpabaaGreatDoor
open Go Go.RowKit
set_option maxRecDepth 100000
set_option maxHeartbeats 1000000
def exC (x : Cal) : Ex := match parF (tL x.ex) with | .ok e => e | .error _ => .num 0
def nmC (cs : List Cal) : List Nme := cs.map (·.tg)
def trK (t : Nme) (x : Cal) : Bool := decide (t = x.tg)
def kidC (cs : List Cal) (t : Nme) : List Nme := match cs.find? (trK t) with
 | some x => (tagsE (exC x)).filter fun k => decide (k ∈ nmC cs)
 | none => []
theorem par_neC {l : List UInt8} {a c : Int} (h : parF l = .error (a, c)) : c ≠ 0 := by
 unfold parF at h
 repeat' split at h
 all_goals first | (cases h; done) | (injection h with h; injection h with h1 h2; omega)
theorem chk_ok {x : Cal} (h : (chkF (tL x.ex)).2 = 0) : parF (tL x.ex) = .ok (exC x) := by
 unfold chkF at h
 unfold exC
 cases hp : parF (tL x.ex) with
 | error e =>
  obtain ⟨a, c⟩ := e
  rw [hp] at h
  exact absurd h (par_neC hp)
 | ok e => rfl
theorem clF_ok {l : List Cal} (h : clF l = 0) : l.length ≤ 100 ∧ (∀ x ∈ l, clName x.tg ∧ parF (tL x.ex) = .ok (exC x)) ∧ ∀ (i j : Nat) (hj : j < l.length) (hij : i < j), ordS (l[i]'(by omega)).tg l[j].tg < 0 := by
 unfold clF at h
 split at h
 ·cases h
 ·have hall := errGo_eachS clErr cal0 l h
  have key : ∀ k (hk : k < l.length), clName l[k].tg ∧ (∀ hk0 : 0 < k, ordS (l[k - 1]'(by omega)).tg l[k].tg < 0) ∧ (chkF (tL l[k].ex)).2 = 0 := fun k hk => by
   have h1 := hall k hk
   unfold clErr at h1
   split at h1
   ·cases h1
   ·rename_i hkey
    split at h1
    ·cases h1
    ·rename_i h2
     refine ⟨Decidable.not_not.1 hkey, fun hk0 => ?_, h1⟩
     have hpv : prv cal0 l k = l[k - 1]'(by omega) := prv_pos _ _ _ (by omega) hk0
     rw [hpv, leS_ord, decide_eq_true_eq] at h2
     have := ordS_flip l[k].tg (l[k - 1]'(by omega)).tg
     omega
  refine ⟨by omega, fun x hx => ?_, fun i j hj hij => ?_⟩
  ·obtain ⟨k, hk, rfl⟩ := List.getElem_of_mem hx
   exact ⟨(key k hk).1, chk_ok (key k hk).2.2⟩
  ·obtain ⟨d, rfl⟩ : ∃ d, j = i + 1 + d := ⟨j - (i + 1), by omega⟩
   have key2 : ∀ d (hj : i + 1 + d < l.length), ordS (l[i]'(by omega)).tg l[i + 1 + d].tg < 0 := by
    intro d
    induction d with
    | zero => exact fun hj => (key (i + 1) hj).2.1 (by omega)
    | succ d ih =>
    intro hj
    have h1 := ih (by omega)
    have h2 := (key (i + 1 + (d + 1)) hj).2.1 (by omega)
    exact ordS_trans h1 h2
   exact key2 d hj
theorem nmC_rise {cs : List Cal} (h : clF cs = 0) : (nmC cs).Pairwise ltN := by
 obtain ⟨_, _, h3⟩ := clF_ok h
 unfold nmC
 rw [List.pairwise_iff_getElem]
 intro i j hi hj hij
 rw [List.length_map] at hi hj
 simp only [List.getElem_map]
 exact h3 i j hj hij
theorem nmC_mem {cs : List Cal} {x : Cal} (h : x ∈ cs) : x.tg ∈ nmC cs := List.mem_map.2 ⟨x, h, rfl⟩
theorem find_at {cs : List Cal} (h : clF cs = 0) {k : Nat} (hk : k < cs.length) : cs.find? (trK cs[k].tg) = some cs[k] := by
 obtain ⟨_, _, h3⟩ := clF_ok h
 rw [List.find?_eq_some_iff_getElem]
 refine ⟨by simp [trK], k, hk, rfl, fun j hj => ?_⟩
 simp only [trK, Bool.not_eq_true', decide_eq_false_iff_not]
 intro e
 have := h3 j k hk hj
 rw [← e, ordS_rfl] at this
 omega
theorem find_mem {cs : List Cal} (h : clF cs = 0) {x : Cal} (hx : x ∈ cs) : cs.find? (trK x.tg) = some x := by
 obtain ⟨k, hk, rfl⟩ := List.getElem_of_mem hx
 exact find_at h hk
theorem find_none {cs : List Cal} {t : Nme} (h : t ∉ nmC cs) : cs.find? (trK t) = none := by
 rw [List.find?_eq_none]
 intro x hx e
 simp only [trK, decide_eq_true_eq] at e
 exact h (e ▸ nmC_mem hx)
theorem find_some {cs : List Cal} {t : Nme} (h : t ∈ nmC cs) (hF : clF cs = 0) : ∃ x ∈ cs, x.tg = t ∧ cs.find? (trK t) = some x := by
 obtain ⟨x, hx, rfl⟩ := List.mem_map.1 h
 exact ⟨x, hx, rfl, find_mem hF hx⟩
theorem exC_ok {cs : List Cal} (h : clF cs = 0) {x : Cal} (hx : x ∈ cs) : ExOk (exC x) ∧ szE (exC x) ≤ 501 := by
 have := ((clF_ok h).2.1 x hx).2
 exact ⟨par_good this, par_sz this⟩
theorem kidC_mem {cs : List Cal} {t k : Nme} (h : k ∈ kidC cs t) : k ∈ nmC cs := by
 unfold kidC at h
 split at h
 ·exact of_decide_eq_true (List.mem_filter.1 h).2
 ·cases h
theorem cplG_leC {α : Type} [DecidableEq α] : ∀ (t : List α) (x : α), (cplG x t).length ≤ t.length
 | [], _ => Nat.le_refl _
 | y :: t, x => by
  have := cplG_leC t y
  unfold cplG
  rw [List.length_append, List.length_cons]
  split
  ·simp only [List.length_nil]; omega
  ·simp only [List.length_cons, List.length_nil]; omega
theorem tagsE_lenC (e : Ex) : (tagsE e).length ≤ szE e := by
 have h1 : (cplF (srtS (nmsE e))).length ≤ (srtS (nmsE e)).length := by
  cases srtS (nmsE e) with
  | nil => exact Nat.le_refl _
  | cons x t =>
   have := cplG_leC t x
   unfold cplF
   simp only [List.length_cons]
   omega
 have h2 := srtS_len (nmsE e)
 have h3 := nmsE_len e
 unfold tagsE
 omega
theorem kidC_len {cs : List Cal} (h : clF cs = 0) (t : Nme) : (kidC cs t).length ≤ 501 := by
 unfold kidC
 split
 ·rename_i x hx
  have h1 := (exC_ok h (List.mem_of_find?_eq_some hx)).2
  have h2 := tagsE_lenC (exC x)
  have h3 := List.length_filter_le (fun k => decide (k ∈ nmC cs)) (tagsE (exC x))
  omega
 ·exact Nat.zero_le _
end Go.Proofs.YtagoolooikpabaaGreatDoor
namespace Go.Proofs.YtagoolooikpabaaGreatDoor
open Go Go.RowKit
set_option maxRecDepth 100000
set_option maxHeartbeats 1000000
def affB (t : Nme) (h : List Nme) (x : Cal) : Bool := !decide (x.tg ∈ h) && (tagsE (exC x)).any fun s => decide (s = t) || decide (s ∈ h)
def affS (t : Nme) (h : List Nme) (x : Cal) : List Nme := if affB t h x = true then h ++ [x.tg] else h
def affP (t : Nme) (l : List Cal) (h : List Nme) : List Nme := l.foldl (affS t) h
def affN (t : Nme) (cs : List Cal) : Nat → List Nme → List Nme
 | 0, h => h
 | f + 1, h => if (affP t cs h).length = h.length then h else affN t cs f (affP t cs h)
def affG (t : Nme) (cs : List Cal) : List Nme := affN t cs (cs.length + 1) []
theorem affP_next (t : Nme) {l : List Cal} (h : List Nme) {k : Nat} (hk : k < l.length) : affP t (l.take (k + 1)) h = affS t (affP t (l.take k) h) l[k] := by
 unfold affP
 rw [List.take_succ_eq_append_getElem hk, List.foldl_append]
 rfl
def AfOk (cs : List Cal) (h : List Nme) : Prop := h.Nodup ∧ ∀ x ∈ h, x ∈ nmC cs
theorem AfOk.len {cs : List Cal} {h : List Nme} (g : AfOk cs h) : h.length ≤ cs.length := by
 have := nodup_len g.1 g.2
 unfold nmC at this
 rwa [List.length_map] at this
theorem affS_ok {t : Nme} {cs : List Cal} {h : List Nme} {x : Cal} (g : AfOk cs h) (hx : x ∈ cs) : AfOk cs (affS t h x) ∧ h.length ≤ (affS t h x).length := by
 unfold affS
 split
 ·rename_i hb
  unfold affB at hb
  rw [Bool.and_eq_true, Bool.not_eq_true', decide_eq_false_iff_not] at hb
  refine ⟨⟨?_, fun y hy => ?_⟩, by simp⟩
  ·rw [List.nodup_append]
   refine ⟨g.1, by simp, fun a ha b hb2 e => ?_⟩
   rw [List.mem_singleton] at hb2
   subst hb2; subst e
   exact hb.1 ha
  ·rcases List.mem_append.1 hy with h1 | h1
   ·exact g.2 y h1
   ·rw [List.mem_singleton.1 h1]; exact nmC_mem hx
 ·exact ⟨g, Nat.le_refl _⟩
theorem affP_ok {t : Nme} {cs : List Cal} : ∀ (l : List Cal) (h : List Nme), (∀ x ∈ l, x ∈ cs) → AfOk cs h → AfOk cs (affP t l h) ∧ h.length ≤ (affP t l h).length
 | [], h, _, g => ⟨g, Nat.le_refl _⟩
 | x :: l, h, hl, g => by
  have h1 := affS_ok (t := t) g (hl x (by simp))
  have h2 := affP_ok (t := t) l (affS t h x) (fun y hy => hl y (by simp [hy])) h1.1
  exact ⟨h2.1, Nat.le_trans h1.2 h2.2⟩
theorem affS_len (t : Nme) (h : List Nme) (x : Cal) : h.length ≤ (affS t h x).length := by
 unfold affS
 split
 ·simp
 ·exact Nat.le_refl _
theorem affP_len (t : Nme) : ∀ (l : List Cal) (h : List Nme), h.length ≤ (affP t l h).length
 | [], h => Nat.le_refl _
 | x :: l, h => Nat.le_trans (affS_len t h x) (affP_len t l _)
theorem affP_same {t : Nme} : ∀ (l : List Cal) (h : List Nme), (affP t l h).length ≤ h.length → affP t l h = h
 | [], h, _ => rfl
 | x :: l, h, e => by
  have h1 := affP_len t l (affS t h x)
  have e : (affP t l (affS t h x)).length ≤ h.length := e
  have h2 : affS t h x = h := by
   unfold affS at h1 e ⊢
   split at h1
   ·rename_i hb
    rw [if_pos hb] at e
    rw [List.length_append] at h1
    simp at h1
    omega
   ·rename_i hb
    rw [if_neg hb]
  show affP t l (affS t h x) = h
  rw [h2] at e ⊢
  exact affP_same l h e
theorem affN_ok {t : Nme} {cs : List Cal} : ∀ (f : Nat) (h : List Nme), AfOk cs h → AfOk cs (affN t cs f h)
 | 0, h, g => g
 | f + 1, h, g => by
  unfold affN
  split
  ·exact g
  ·exact affN_ok f _ (affP_ok cs h (fun _ hx => hx) g).1
theorem affG_ok (t : Nme) (cs : List Cal) : AfOk cs (affG t cs) := affN_ok _ _ ⟨List.nodup_nil, by simp⟩
def affR (t : Nme) (cs : List Cal) : List Nme := (nmC cs).filter fun x => decide (x ∈ affG t cs)
def AfAt (t : Nme) (cs : List Cal) (f : Nat) (h : List Nme) (b : Bool) : Prop := AfOk cs h ∧ cs.length + 1 ≤ h.length + f ∧ (b = true → affN t cs f h = affG t cs) ∧ (b = false → h = affG t cs)
theorem AfAt.zero (t : Nme) (cs : List Cal) : AfAt t cs (cs.length + 1) [] true := ⟨⟨List.nodup_nil, by simp⟩, by simp, fun _ => rfl, fun h => by cases h⟩
theorem AfAt.step {t : Nme} {cs : List Cal} {f : Nat} {h : List Nme} (g : AfAt t cs f h true) : ∃ f2, AfAt t cs f2 (affP t cs h) (decide (h.length < (affP t cs h).length)) := by
 obtain ⟨g1, g2, g3, g4⟩ := g
 have hl := g1.len
 obtain ⟨p, rfl⟩ : ∃ p, f = p + 1 := ⟨f - 1, by omega⟩
 have h3 := g3 rfl
 obtain ⟨k1, k2⟩ := affP_ok (t := t) cs h (fun _ hx => hx) g1
 unfold affN at h3
 by_cases he : (affP t cs h).length = h.length
 ·rw [if_pos he] at h3
  refine ⟨p + 1, k1, by omega, fun hb => ?_, fun _ => ?_⟩
  ·rw [decide_eq_true_eq] at hb; omega
  ·rw [← h3]
   exact affP_same cs h (by omega)
 ·rw [if_neg he] at h3
  exact ⟨p, k1, by omega, fun _ => h3, fun hb => by rw [decide_eq_false_iff_not] at hb; omega⟩
end Go.Proofs.YtagoolooikpabaaGreatDoor
namespace Go.Proofs.YtagoolooikpabaaGreatDoor
open Go Go.RowKit
set_option maxRecDepth 100000
set_option maxHeartbeats 1000000
theorem cycG_row {N : List Nme} {kids : Nme → List Nme} (h : cycG N kids ≠ []) : ∃ n x, x ∈ N ∧ closG kids n (n - 1) [x] x x = some (cycG N kids) := by
 unfold cycG at h ⊢
 cases e : (List.range' 1 N.length).findSome? fun n => cycN N kids n with
 | none => rw [e] at h; exact absurd rfl h
 | some l =>
  obtain ⟨n, _, g⟩ := List.exists_of_findSome?_eq_some e
  unfold cycN at g
  obtain ⟨x, hx, g⟩ := List.exists_of_findSome?_eq_some g
  exact ⟨n, x, hx, g⟩
theorem cycG_chain (N : List Nme) (kids : Nme → List Nme) : Chain kids (cycG N kids) := by
 by_cases h : cycG N kids = []
 ·rw [h]
  intro i hi
  exact absurd hi (by simp)
 ·obtain ⟨n, x, _, g⟩ := cycG_row h
  refine (clos_chain _ _ _ _ ⟨by simp, rfl, rfl⟩ (fun i hi => ?_) g).1
  have : i = 0 := by simp at hi; omega
  subst this
  exact ⟨fun h2 => absurd h2 (by simp), fun h => absurd h (by omega)⟩
theorem first_split {α : Type} {p : α → Prop} : ∀ {N : List α}, (∃ x ∈ N, p x) → ∃ A x B, N = A ++ x :: B ∧ p x ∧ ∀ y ∈ A, ¬ p y
 | [], ⟨_, h, _⟩ => by cases h
 | a :: N, h => by
  by_cases ha : p a
  ·exact ⟨[], a, N, rfl, ha, by simp⟩
  ·obtain ⟨A, x, B, h1, h2, h3⟩ := first_split (N := N) (by
    obtain ⟨x, hx, h2⟩ := h
    rcases List.mem_cons.1 hx with rfl | hx
    ·exact absurd h2 ha
    ·exact ⟨x, hx, h2⟩)
   refine ⟨a :: A, x, B, by rw [h1]; rfl, h2, fun y hy => ?_⟩
   rcases List.mem_cons.1 hy with rfl | hy
   ·exact ha
   ·exact h3 y hy
theorem least_nat {p : Nat → Prop} : ∀ n, p n → ∃ m, p m ∧ ∀ k, k < m → ¬ p k := by
 intro n
 induction n using Nat.strongRecOn with
 | ind n ih =>
  intro h
  by_cases hc : ∃ k, k < n ∧ p k
  ·obtain ⟨k, h1, h2⟩ := hc
   exact ih k h1 h2
  ·exact ⟨n, h, fun k hk hp => hc ⟨k, hk, hp⟩⟩
open Classical in
theorem cyc_is {N : List Nme} {kids : Nme → List Nme} (hN : ∀ s ∈ N, ∀ k ∈ kids s, k ∈ N) {x : Nme} (hx : x ∈ N) {n : Nat} (hw : Wk kids x n x) : cycG N kids ≠ [] := by
 obtain ⟨m, ⟨y, hy, hm⟩, hmin⟩ := least_nat (p := fun m => ∃ y ∈ N, Wk kids y m y) n ⟨x, hx, hw⟩
 obtain ⟨A, z, B, hAB, hz, hA⟩ := first_split (p := fun y => Wk kids y m y) ⟨y, hy, hm⟩
 have h := (cyc_some hN hAB (fun y hy k hk hc => hmin k hk ⟨y, hy, hc⟩) hA hz (way := fun m k => decide (Wk kids z m k ∧ ∀ m' < m, ¬ Wk kids z m' k)) (fun m k _ _ _ => by simp)).2.2
 intro e
 rw [e] at h
 cases h
theorem ord_or_cyc {cs : List Cal} (hF : clF cs = 0) : (orderG (nmC cs) (kidC cs)).isSome = decide (cycG (nmC cs) (kidC cs) = []) := by
 cases h : orderG (nmC cs) (kidC cs) with
 | none =>
  obtain ⟨x, hx, n, hw⟩ := no_order_cycle (nmC_rise hF) (fun x _ k hk => kidC_mem hk) h
  simp [cyc_is (fun s _ k hk => kidC_mem hk) hx hw]
 | some o =>
  simp [cyc_none (fun x hx n => order_no_cycle h x hx n)]
def tgC (cs : List Cal) (t : Nme) : List Nme := match cs.find? (trK t) with
 | some x => tagsE (exC x)
 | none => []
theorem kid_tg {cs : List Cal} {t k : Nme} : k ∈ kidC cs t ↔ k ∈ tgC cs t ∧ k ∈ nmC cs := by
 unfold kidC tgC
 cases cs.find? (trK t) with
 | some x =>
  dsimp only
  rw [List.mem_filter, decide_eq_true_eq]
 | none => simp
theorem tgC_len {cs : List Cal} (h : clF cs = 0) (t : Nme) : (tgC cs t).length ≤ 501 := by
 unfold tgC
 split
 ·rename_i x hx
  have h1 := (exC_ok h (List.mem_of_find?_eq_some hx)).2
  have h2 := tagsE_lenC (exC x)
  omega
 ·exact Nat.zero_le _
theorem chain_kid {cs : List Cal} {y : List Nme} (hc : Chain (kidC cs) y) {i : Nat} (h : i < y.length) : y[(i + 1) % y.length]'(Nat.mod_lt _ (by omega)) ∈ tgC cs y[i] := by
 obtain ⟨h1, h2, _⟩ := hc i h
 by_cases e : i + 1 < y.length
 ·have e2 : (i + 1) % y.length = i + 1 := Nat.mod_eq_of_lt e
  simp only [e2]
  exact (kid_tg.1 (h1 e)).1
 ·have e2 : i + 1 = y.length := by omega
  have e3 : (i + 1) % y.length = 0 := by rw [e2, Nat.mod_self]
  simp only [e3]
  exact (kid_tg.1 (h2 e2)).1
theorem chain_first {cs : List Cal} {y : List Nme} (hc : Chain (kidC cs) y) {i : Nat} (h : i < y.length) : ¬ ltN y[i] (y[0]'(by omega)) := by
 obtain ⟨_, _, h3⟩ := hc i h
 intro hl
 by_cases e : 0 < i
 ·exact ltN_irr _ (ltN_trans hl (h3 e))
 ·have : i = 0 := by omega
  subst this
  exact ltN_irr _ hl
theorem ord_tags {cs : List Cal} {o : List Nme} (h : orderG (nmC cs) (kidC cs) = some o) {i : Nat} (hi : i < o.length) {t : Nme} (ht : t ∈ tgC cs o[i]) (hn : t ∈ nmC cs) : t ∈ o.take i := (orderG_ok h).1.2.2 i hi t (kid_tg.2 ⟨ht, hn⟩)
def Aft (o : List Nme) (i : Nat) (h : List Nme) : Prop := ∀ x ∈ h, ∃ j, ∃ hj : j < o.length, i < j ∧ o[j] = x
theorem aft_S {cs : List Cal} (hF : clF cs = 0) {o : List Nme} (ho : orderG (nmC cs) (kidC cs) = some o) {i : Nat} (hi : i < o.length) {h : List Nme} {x : Cal} (hx : x ∈ cs) (g : Aft o i h) : Aft o i (affS o[i] h x) := by
 obtain ⟨⟨k1, k2, k3⟩, k4⟩ := orderG_ok ho
 have hall := nodup_all k1 k2 (by omega)
 unfold affS
 split
 ·rename_i hb
  intro y hy
  rcases List.mem_append.1 hy with h1 | h1
  ·exact g y h1
  ·rw [List.mem_singleton.1 h1]
   obtain ⟨j, hj, e⟩ := List.getElem_of_mem (hall _ (nmC_mem hx))
   refine ⟨j, hj, ?_, e⟩
   unfold affB at hb
   rw [Bool.and_eq_true, List.any_eq_true] at hb
   obtain ⟨s, hs1, hs2⟩ := hb.2
   have htg : s ∈ tgC cs o[j] := by
    unfold tgC
    rw [e, find_mem hF hx]
    exact hs1
   rw [Bool.or_eq_true, decide_eq_true_eq, decide_eq_true_eq] at hs2
   rcases hs2 with e2 | h2
   ·have hin := ord_tags ho hj htg (e2 ▸ k2 _ (List.getElem_mem hi))
    rw [e2] at hin
    exact take_idx k1 hi hin
   ·obtain ⟨q, hq, hiq, e3⟩ := g s h2
    have hin := ord_tags ho hj htg (e3 ▸ k2 _ (List.getElem_mem hq))
    rw [← e3] at hin
    have := take_idx k1 hq hin
    omega
 ·exact g
theorem aft_P {cs : List Cal} (hF : clF cs = 0) {o : List Nme} (ho : orderG (nmC cs) (kidC cs) = some o) {i : Nat} (hi : i < o.length) : ∀ (l : List Cal) (h : List Nme), (∀ x ∈ l, x ∈ cs) → Aft o i h → Aft o i (affP o[i] l h)
 | [], _, _, g => g
 | x :: l, h, hl, g => aft_P hF ho hi l (affS o[i] h x) (fun y hy => hl y (by simp [hy])) (aft_S hF ho hi (hl x (by simp)) g)
theorem aft_N {cs : List Cal} (hF : clF cs = 0) {o : List Nme} (ho : orderG (nmC cs) (kidC cs) = some o) {i : Nat} (hi : i < o.length) : ∀ (f : Nat) (h : List Nme), Aft o i h → Aft o i (affN o[i] cs f h)
 | 0, _, g => g
 | f + 1, h, g => by
  unfold affN
  split
  ·exact g
  ·exact aft_N hF ho hi f _ (aft_P hF ho hi cs h (fun _ hx => hx) g)
theorem aft_R {cs : List Cal} (hF : clF cs = 0) {o : List Nme} (ho : orderG (nmC cs) (kidC cs) = some o) {i : Nat} (hi : i < o.length) : Aft o i (affR o[i] cs) := by
 intro x hx
 unfold affR at hx
 rw [List.mem_filter, decide_eq_true_eq] at hx
 exact aft_N hF ho hi _ [] (by intro x hx; cases hx) x hx.2
end Go.Proofs.YtagoolooikpabaaGreatDoor
