/- Series merged in any order are one; slices side by side; what is written is read. No program in sight. -/
import Derived.Test.YtebhpfhichdgaaaGreatDoorHVMrgK
import Derived.Test.YtebhpfhichdgaaaGreatDoorHVTxtM
import Derived.Test.YtebhpfhichdgaaaGreatDoorHVTxtD
import Derived.Test.YtebhpfhichdgaaaGreatDoorHVGF
import Derived.Test.YtebhpfhichdgaaaGreatDoorHVGC
namespace Go.Proofs.YtebhpfhichdgaaaGreatDoor
open Go Go.RowKit
set_option maxRecDepth 100000
set_option linter.all false
set_option maxHeartbeats 1000000
def leastM (L : List Smp) (r : Smp) : Prop := r ∈ L ∧ ∀ y ∈ L, y.t = r.t → ltM y r = false
theorem ltM_le {x y : Smp} (h : ltM y x = false) : x.t ≤ y.t := by
  rw [Bool.eq_false_iff, ne_eq, ltM_iff] at h
  omega
theorem ltM_refl (x : Smp) : ltM x x = false := swoM.irrefl x
theorem cptG_mem : ∀ (t : List Smp) (p : Smp), ((p :: t).Pairwise fun x y => ltM y x = false) → ∀ r, r ∈ cptG sameT p t ↔ (r ∈ t ∧ p.t < r.t ∧ ∀ y ∈ t, y.t = r.t → ltM y r = false)
  | [], p, _, r => by simp [cptG]
  | y :: t, p, h, r => by
    have h1 := List.pairwise_cons.1 h
    have h2 := List.pairwise_cons.1 h1.2
    have hpy := ltM_le (h1.1 y (by simp))
    have ih := cptG_mem t y h1.2 r
    rw [cptG, List.mem_append, ih]
    by_cases hs : y.t = p.t
    · rw [if_pos (by unfold sameT; simp [hs])]
      constructor
      · rintro (h | ⟨g1, g2, g3⟩)
        · cases h
        · refine ⟨List.mem_cons_of_mem _ g1, by omega, fun z hz he => ?_⟩
          rcases List.mem_cons.1 hz with rfl | hz
          · omega
          · exact g3 z hz he
      · rintro ⟨g1, g2, g3⟩
        refine .inr ⟨?_, by omega, fun z hz he => g3 z (List.mem_cons_of_mem _ hz) he⟩
        rcases List.mem_cons.1 g1 with rfl | g1
        · omega
        · exact g1
    · rw [if_neg (by unfold sameT; simp [hs])]
      constructor
      · rintro (h | ⟨g1, g2, g3⟩)
        · rw [List.mem_singleton] at h
          subst h
          refine ⟨by simp, by omega, fun z hz he => ?_⟩
          rcases List.mem_cons.1 hz with rfl | hz
          · exact ltM_refl _
          · exact h2.1 z hz
        · refine ⟨List.mem_cons_of_mem _ g1, by omega, fun z hz he => ?_⟩
          rcases List.mem_cons.1 hz with rfl | hz
          · omega
          · exact g3 z hz he
      · rintro ⟨g1, g2, g3⟩
        rcases List.mem_cons.1 g1 with rfl | g1
        · exact .inl (by simp)
        · have h5 := ltM_le (h2.1 r g1)
          by_cases h6 : y.t = r.t
          · have h7 := g3 y (by simp) h6
            have h8 := ltM_anti (h2.1 r g1) h7
            subst h8
            exact .inl (by simp)
          · exact .inr ⟨g1, by omega, fun z hz he => g3 z (List.mem_cons_of_mem _ hz) he⟩
theorem cptG_ris : ∀ (t : List Smp) (p : Smp), ((p :: t).Pairwise fun x y => ltM y x = false) → (cptG sameT p t).Pairwise fun x y => x.t < y.t
  | [], p, _ => by simp [cptG]
  | y :: t, p, h => by
    have h1 := List.pairwise_cons.1 h
    have ih := cptG_ris t y h1.2
    rw [cptG]
    split
    · exact ih
    · exact List.pairwise_cons.2 ⟨fun r hr => ((cptG_mem t y h1.2 r).1 hr).2.1, ih⟩
theorem compact_mem {L : List Smp} (h : L.Pairwise fun x y => ltM y x = false) (r : Smp) : r ∈ compactG sameT L ↔ leastM L r := by
  cases L with
  | nil => unfold leastM; simp [compactG]
  | cons x t =>
    have h1 := List.pairwise_cons.1 h
    unfold leastM
    rw [compactG, List.mem_cons, cptG_mem t x h]
    constructor
    · rintro (rfl | ⟨g1, g2, g3⟩)
      · refine ⟨by simp, fun z hz he => ?_⟩
        rcases List.mem_cons.1 hz with rfl | hz
        · exact ltM_refl _
        · exact h1.1 z hz
      · refine ⟨List.mem_cons_of_mem _ g1, fun z hz he => ?_⟩
        rcases List.mem_cons.1 hz with rfl | hz
        · omega
        · exact g3 z hz he
    · rintro ⟨g1, g2⟩
      rcases List.mem_cons.1 g1 with rfl | g1
      · exact .inl rfl
      · have h5 := ltM_le (h1.1 r g1)
        by_cases h6 : x.t = r.t
        · exact .inl (ltM_anti (h1.1 r g1) (g2 x (by simp) h6)).symm
        · exact .inr ⟨g1, by omega, fun z hz he => g2 z (List.mem_cons_of_mem _ hz) he⟩
theorem compact_ris {L : List Smp} (h : L.Pairwise fun x y => ltM y x = false) : (compactG sameT L).Pairwise fun x y => x.t < y.t := by
  cases L with
  | nil => simp [compactG]
  | cons x t => exact List.pairwise_cons.2 ⟨fun r hr => ((cptG_mem t x h r).1 hr).2.1, cptG_ris t x h⟩
theorem mrg_mem (a b : List Smp) (r : Smp) : r ∈ mrgF a b ↔ leastM (a ++ b) r := by
  unfold mrgF
  rw [compact_mem (srtM_sorted _)]
  unfold leastM
  have hp := srtM_perm (a ++ b)
  rw [hp.mem_iff]
  constructor
  · rintro ⟨g1, g2⟩
    exact ⟨g1, fun y hy => g2 y (hp.mem_iff.2 hy)⟩
  · rintro ⟨g1, g2⟩
    exact ⟨g1, fun y hy => g2 y (hp.mem_iff.1 hy)⟩
theorem mrg_ris (a b : List Smp) : (mrgF a b).Pairwise fun x y => x.t < y.t := compact_ris (srtM_sorted _)
theorem ris_one : ∀ {l m : List Smp}, (l.Pairwise fun x y => x.t < y.t) → (m.Pairwise fun x y => x.t < y.t) → (∀ r, r ∈ l ↔ r ∈ m) → l = m
  | [], [], _, _, _ => rfl
  | [], y :: m, _, _, h => by have := (h y).2 (by simp); cases this
  | x :: l, [], _, _, h => by have := (h x).1 (by simp); cases this
  | x :: l, y :: m, h1, h2, h => by
    have g1 := List.pairwise_cons.1 h1
    have g2 := List.pairwise_cons.1 h2
    have e : x = y := by
      rcases List.mem_cons.1 ((h x).1 (by simp)) with e | e
      · exact e
      · rcases List.mem_cons.1 ((h y).2 (by simp)) with e' | e'
        · exact e'.symm
        · have := g1.1 y e'; have := g2.1 x e; omega
    subst e
    congr 1
    refine ris_one g1.2 g2.2 (fun r => ⟨fun hr => ?_, fun hr => ?_⟩)
    · rcases List.mem_cons.1 ((h r).1 (List.mem_cons_of_mem _ hr)) with e | e
      · subst e; have := g1.1 r hr; omega
      · exact e
    · rcases List.mem_cons.1 ((h r).2 (List.mem_cons_of_mem _ hr)) with e | e
      · subst e; have := g2.1 r hr; omega
      · exact e
theorem mrg_comm (a b : List Smp) : mrgF b a = mrgF a b := ris_one (mrg_ris _ _) (mrg_ris _ _) fun r => by
  rw [mrg_mem, mrg_mem]
  unfold leastM
  simp only [List.mem_append]
  constructor
  · rintro ⟨g1, g2⟩
    exact ⟨g1.symm, fun y hy => g2 y hy.symm⟩
  · rintro ⟨g1, g2⟩
    exact ⟨g1.symm, fun y hy => g2 y hy.symm⟩
theorem ltM_tr {x y z : Smp} (h1 : ltM x y = true) (h2 : ltM y z = true) : ltM x z = true := swoM.trans _ _ _ h1 h2
theorem least_ex : ∀ (L : List Smp) (r : Smp), r ∈ L → ∃ m, leastM L m ∧ m.t = r.t
  | [], r, h => by cases h
  | x :: L, r, h => by
    by_cases hx : x.t = r.t
    · by_cases hr : ∃ r' ∈ L, r'.t = r.t
      · obtain ⟨r', h1, h2⟩ := hr
        obtain ⟨m, ⟨g1, g2⟩, g3⟩ := least_ex L r' h1
        by_cases hm : ltM x m = true
        · refine ⟨x, ⟨by simp, fun y hy he => ?_⟩, hx⟩
          rcases List.mem_cons.1 hy with rfl | hy
          · exact ltM_refl _
          · cases hc : ltM y x with
            | false => rfl
            | true => have := ltM_tr hc hm; rw [g2 y hy (by omega)] at this; cases this
        · refine ⟨m, ⟨List.mem_cons_of_mem _ g1, fun y hy he => ?_⟩, by omega⟩
          rcases List.mem_cons.1 hy with rfl | hy
          · simpa using hm
          · exact g2 y hy he
      · refine ⟨x, ⟨by simp, fun y hy he => ?_⟩, hx⟩
        rcases List.mem_cons.1 hy with rfl | hy
        · exact ltM_refl _
        · exact absurd ⟨y, hy, by omega⟩ hr
    · rcases List.mem_cons.1 h with rfl | h
      · exact absurd rfl hx
      · obtain ⟨m, ⟨g1, g2⟩, g3⟩ := least_ex L r h
        refine ⟨m, ⟨List.mem_cons_of_mem _ g1, fun y hy he => ?_⟩, g3⟩
        rcases List.mem_cons.1 hy with rfl | hy
        · omega
        · exact g2 y hy he
theorem mrg_again (a b : List Smp) : mrgF (mrgF a b) a = mrgF a b := ris_one (mrg_ris _ _) (mrg_ris _ _) fun r => by
  rw [mrg_mem (mrgF a b) a]
  constructor
  · rintro ⟨g1, g2⟩
    rcases List.mem_append.1 g1 with h | h
    · exact h
    · obtain ⟨m, h1, h2⟩ := least_ex (a ++ b) r (List.mem_append_left _ h)
      have h3 := g2 m (List.mem_append_left _ ((mrg_mem a b m).2 h1)) h2
      have h4 := h1.2 r (List.mem_append_left _ h) h2.symm
      rw [ltM_anti h3 h4]
      exact (mrg_mem a b m).2 h1
  · intro h
    refine ⟨List.mem_append_left _ h, fun y hy he => ?_⟩
    have h1 := (mrg_mem a b r).1 h
    rcases List.mem_append.1 hy with hy | hy
    · exact h1.2 y ((mrg_mem a b y).1 hy).1 he
    · exact h1.2 y (List.mem_append_left _ hy) he
theorem mrg_ser {a b : List Smp} (ha : serF a = 0) (hb : serF b = 0) (hl : a.length + b.length ≤ 5000) : serF (mrgF a b) = 0 := by
  have h1 := mrgF_le a b
  refine serF_of (by omega) (fun x hx => ?_) (incS_iff.2 (mrg_ris a b))
  have h2 := ((mrg_mem a b x).1 hx).1
  rcases List.mem_append.1 h2 with h | h
  · exact (serF_ok' ha).2 x h
  · exact (serF_ok' hb).2 x h
theorem within_two (c E : Int) : ∀ l : List Smp, (l.Pairwise fun x y => x.t < y.t) → (∀ x ∈ l, 0 ≤ x.t ∧ x.t < E) → withinF l ⟨0, c⟩ ++ withinF l ⟨c, E⟩ = l
  | [], _, _ => rfl
  | x :: l, h, hE => by
    have h1 := List.pairwise_cons.1 h
    have hx := hE x (by simp)
    have ih := within_two c E l h1.2 (fun y hy => hE y (List.mem_cons_of_mem _ hy))
    unfold withinF at ih ⊢
    rw [List.filter_cons, List.filter_cons]
    dsimp only at ih ⊢
    by_cases hc : x.t < c
    · rw [if_pos (by simp; omega), if_neg (by simp; omega), List.cons_append, ih]
    · rw [if_neg (by simp; omega), if_pos (by simp; omega)]
      have h0 : l.filter (fun y => decide ((0 : Int) ≤ y.t ∧ y.t < c)) = [] := by
        rw [List.filter_eq_nil_iff]
        intro y hy
        have := h1.1 y hy
        simp
        omega
      rw [h0] at ih ⊢
      rw [List.nil_append] at ih ⊢
      rw [ih]
theorem okLn_all {rd : List UInt8 → Option Smp} : ∀ L : List (List UInt8), (∀ x ∈ L, (rd x).isSome = true) → okLn rd L = L.length := by
  intro L
  induction L with
  | nil => intro _; rfl
  | cons x L ih =>
    intro h
    have hx := h x (by simp)
    have := ih (fun y hy => h y (List.mem_cons_of_mem _ hy))
    unfold okLn at this ⊢
    rw [List.takeWhile_cons, if_pos hx, List.length_cons, List.length_cons, this]
theorem txtR_text {l : List Smp} (h : serF l = 0) (hl : l.length ≤ 1000) : txtR (textT l) = (l, 0, 0) ∧ (textT l).length ≤ 44 * l.length := by
  obtain ⟨s1, s2⟩ := serF_ok' h
  have key : ∀ m : List Smp, (∀ x ∈ m, smpErr x = 0) → (textT m).length ≤ 44 * m.length := by
    intro m
    induction m with
    | nil => intro _; simp [textT]
    | cons x r ih =>
      intro hm
      have h7 := smp_ok' (hm x (by simp))
      have h8 := lineT_len (x := x) (by omega) (by omega)
      have h9 := ih (fun y hy => hm y (List.mem_cons_of_mem _ hy))
      unfold textT at h9 ⊢
      rw [List.flatMap_cons, List.length_append, List.length_append, List.length_singleton, List.length_cons]
      omega
  have hlen := key l s2
  have hrd : ∀ x ∈ l, rdLine (lineT x) = some x := fun x hx => by
    have h7 := smp_ok' (s2 x hx)
    exact rdLine_lineT (by omega) (by omega) (by omega)
  have hfm : (l.map lineT).filterMap rdLine = l := by
    rw [List.filterMap_map]
    clear h s1 s2 key hlen hl
    induction l with
    | nil => rfl
    | cons x r ih =>
      rw [List.filterMap_cons, Function.comp_apply, hrd x (by simp), ih (fun y hy => hrd y (List.mem_cons_of_mem _ hy))]
  have hok : okLn rdLine (l.map lineT) = (l.map lineT).length := okLn_all _ fun y hy => by
    obtain ⟨x, hx, rfl⟩ := List.mem_map.1 hy
    rw [hrd x hx]; rfl
  refine ⟨?_, hlen⟩
  unfold txtR
  rw [if_neg (by omega), (textT_lns l).1, (textT_lns l).2, hok, if_neg (by omega), if_neg (by simp), hfm, if_neg (by simp [h])]
end Go.Proofs.YtebhpfhichdgaaaGreatDoor
