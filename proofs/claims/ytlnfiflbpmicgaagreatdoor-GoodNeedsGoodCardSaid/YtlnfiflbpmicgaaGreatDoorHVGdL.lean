/- An expression without if, good and shifts is no better than its tags. No program in sight. -/
import Derived.Test.YtlnfiflbpmicgaaGreatDoorHVGdM
import Derived.Test.YtlnfiflbpmicgaaGreatDoorHVFmB
import Derived.Test.YtlnfiflbpmicgaaGreatDoorHVEvT
import Derived.Test.YtlnfiflbpmicgaaGreatDoorHVTgs
import Derived.Test.YtlnfiflbpmicgaaGreatDoorHVCpt
import Derived.Lib.IndexMore
namespace Go.Proofs.YtlnfiflbpmicgaaGreatDoor
open Go Go.RowKit
set_option maxRecDepth 100000
set_option linter.all false
set_option maxHeartbeats 1000000
theorem noSub {l w : List UInt8} (h : Lib.contains l w = false) (hw : w ≠ []) : ¬ subL w l := by
  rintro ⟨o, ho⟩
  unfold Lib.contains at h
  have h := of_decide_eq_false h
  rcases Lib.index_spec l w with ⟨_, h2⟩ | ⟨i, h1, _⟩
  · by_cases hl : o ≤ l.length
    · have h3 := h2 o hl
      unfold Lib.occAt at h3
      have h4 : w.isPrefixOf (l.drop o) = true := by
        rw [List.isPrefixOf_iff_prefix]
        exact ⟨(l.drop o).drop w.length, by
          have := List.take_append_drop w.length (l.drop o)
          rwa [ho] at this⟩
      rw [h3] at h4
      cases h4
    · rw [List.drop_eq_nil_of_le (by omega), List.take_nil] at ho
      exact hw ho.symm
  · rw [h1] at h
    omega
theorem leaf_tag : ∀ e : Ex, ExOk e → WdE e → ∀ p ∈ leafE e, ExOk (.tag p.1 none) ∧ WdE (.tag p.1 none)
  | .num _, _, _, p, hp => by cases hp
  | .tag x s, h, g, p, hp => by
    rw [List.mem_singleton.1 hp]
    exact ⟨⟨h.1, fun n e => by cases e⟩, g⟩
  | .neg a, h, g, p, hp => leaf_tag a h g p hp
  | .bin _ a b, h, g, p, hp => by
    rcases List.mem_append.1 hp with hp | hp
    · exact leaf_tag a h.2.1 g.1 p hp
    · exact leaf_tag b h.2.2 g.2 p hp
  | .f1 _ a, h, g, p, hp => leaf_tag a h.2 g p hp
  | .f2 _ a b, h, g, p, hp => by
    rcases List.mem_append.1 hp with hp | hp
    · exact leaf_tag a h.2.1 g.1 p hp
    · exact leaf_tag b h.2.2 g.2 p hp
  | .f3 _ a b c, h, g, p, hp => by
    rcases List.mem_append.1 hp with hp | hp
    · rcases List.mem_append.1 hp with hp | hp
      · exact leaf_tag a h.2.1 g.1 p hp
      · exact leaf_tag b h.2.2.1 g.2.1 p hp
    · exact leaf_tag c h.2.2.2 g.2.2 p hp
theorem par_leaf {l : List UInt8} {e : Ex} (h : parF l = .ok e) {p : List UInt8 × Int} (hp : p ∈ leafE e) : parF p.1 = .ok (.tag p.1 none) := by
  obtain ⟨h1, _, _⟩ := par_w h
  obtain ⟨h3, h4⟩ := leaf_tag e (par_good h) h1 p hp
  exact par_fmt (e := .tag p.1 none) h3 h4 (by
    have := h3.1.2.1
    show p.1.length ≤ 500
    omega) (Nat.zero_le _)
theorem tagsE_mem {e : Ex} {k : ByteArray} (hk : k ∈ tagsE e) : ∃ p ∈ leafE e, k = tB p.1 := by
  unfold tagsE at hk
  rw [cplF_mem, srtS_mem] at hk
  unfold nmsE at hk
  obtain ⟨p, hp, rfl⟩ := List.mem_map.1 hk
  exact ⟨p, hp, rfl⟩
theorem tagsE_sz {l : List UInt8} {e : Ex} (h : parF l = .ok e) {k : ByteArray} (hk : k ∈ tagsE e) : (tL k).length ≤ 40 := by
  obtain ⟨p, hp, rfl⟩ := tagsE_mem hk
  obtain ⟨h1, _, _⟩ := par_w h
  rw [tL_tB]
  exact (leaf_tag e (par_good h) h1 p hp).1.1.2.1
theorem lookP_bd {ss : List Ser} (h : slF ss = 0) (x : ByteArray) (m : Int) : -1000000 ≤ (lookP ss x m).n ∧ (lookP ss x m).n ≤ 1000000 := by
  unfold lookP
  cases hl : lastS (serL ss x) m with
  | none => exact ⟨by decide, by decide⟩
  | some y =>
    obtain ⟨s, hs, _, hy⟩ := serL_mem (lastS_mem hl).1
    have h1 := ((slF_ok h).2.1 s hs).1
    obtain ⟨_, h2, h3, h4⟩ := smp_ok2 h1 y hy
    exact h2
theorem bdV_same (n q most : Int) (h : -most ≤ n ∧ n ≤ most) : (bdV n q most).q = q := by
  unfold bdV
  split
  · rename_i h1
    rcases h1 with h1 | h1 | h1
    · exact h1.symm
    · omega
    · omega
  · rfl
theorem good_law {l : List UInt8} {e : Ex} (hp : parF l = .ok e) {ss : List Ser} (h : slF ss = 0) {m : Int} (hm : 0 ≤ m ∧ m ≤ 345686399999) (c1 : Lib.contains l wIf = false) (c2 : Lib.contains l wGd = false) (c3 : Lib.contains l [64] = false) :
    ∀ k ∈ tagsE e, (evRes (tL k) ss m).2 = 0 ∧ (evRes (tL k) ss m).1.q ≤ (evRes l ss m).1.q := by
  intro k hk
  obtain ⟨p, hpe, rfl⟩ := tagsE_mem hk
  have hk2 := par_leaf hp hpe
  have hpl : plainE e := ⟨fun hw => noSub c1 (by decide) (par_o hp _ hw), fun hw => noSub c2 (by decide) (par_o hp _ hw), fun hw => noSub c3 (by decide) (par_o hp _ hw)⟩
  have hq := good_q (look := lkF ss) (fun x m => lookP_ok h _ _) m hm.1 e (par_good hp) hpl p hpe
  have hv := evP_ok (look := lkF ss) (fun x m => lookP_ok h _ _) m e (par_good hp)
  have e1 : evRes (tL (tB p.1)) ss m = (finV (evP (lkF ss) m (.tag p.1 none)) m, 0) := by
    unfold evRes
    rw [tL_tB, hk2]
    dsimp only
    rw [if_neg (by simpa using h), if_pos hm]
  have e2 : evRes l ss m = (finV (evP (lkF ss) m e) m, 0) := by
    unfold evRes
    rw [hp]
    dsimp only
    rw [if_neg (by simpa using h), if_pos hm]
  rw [e1, e2]
  refine ⟨rfl, ?_⟩
  have e3 : evP (lkF ss) m (.tag p.1 none) = lkF ss p.1 m := by
    unfold evP
    rw [if_neg (by simp; omega)]
    simp
  rw [e3]
  show (bdV _ _ 1000000).q ≤ (bdV _ _ 1000000).q
  have h6 := bdV_same (lkF ss p.1 m).n (lkF ss p.1 m).q 1000000 (lookP_bd h (tB p.1) m)
  rw [h6]
  have h5 := bdV_q (evP (lkF ss) m e).n (evP (lkF ss) m e).q 1000000 (by have := hv.2.1; omega)
  omega
end Go.Proofs.YtlnfiflbpmicgaaGreatDoor
