/- Operations: what they are said to do follows what is asked behind them; which of them turn nothing. No condition. -/
import Derived.Test.YtkmkkjlfnobciaaGreatDoorCoreSound3
namespace Go.Proofs.YtkmkkjlfnobciaaGreatDoor
open Go Go.RowKit
set_option linter.all false

/-- nothing of the heap is looked at or turned -/
def clsA : Op → Bool
  | .binOp _ _ _ y _ => !isNilS y || isNilI y
  | .move _ | .assign _ | .pick .. | .unOp .. | .nilCheck _ | .fieldAddr .. | .extract .. | .build .. | .index .. | .convert .. | .field .. | .makeInterface .. => true
  | .call ⟨.builtin b, _, ats⟩ => match b with | .len => !(ats.toList.any isMapT) | .min | .max => true | _ => false
  | _ => false
/-- the heap is looked at, and not turned -/
def clsB : Op → Bool
  | .load .. | .indexAddr .. | .slice .. => true
  | _ => false
section
variable {P : Program} {op : Op} {ev ev' : Operand → AV} {H : Hp} {J J' : AV → Hp → Prop}
theorem aBin_det {b : BinOp} {x y : AV} {K : AV → Prop} (h : aBin b x y K) : ∃ v, aBin b x y (· = v) ∧ K v := by
  unfold aBin at h
  split at h <;> first
    | exact h.elim
    | exact ⟨_, ⟨h.1, rfl⟩, h.2⟩
    | exact ⟨_, ⟨h.1, h.2.1, rfl⟩, h.2.2⟩
    | exact ⟨_, rfl, h⟩
theorem aBin_mono {b : BinOp} {x y : AV} {K K' : AV → Prop} (hk : ∀ v, K v → K' v) (h : aBin b x y K) : aBin b x y K' := by
  unfold aBin at h ⊢
  split at h <;> first
    | exact h.elim
    | exact ⟨h.1, hk _ h.2⟩
    | exact ⟨h.1, h.2.1, hk _ h.2.2⟩
    | exact hk _ h
theorem aBinT_det {t : TypeId} {b : BinOp} {x y : AV} {K : AV → Prop} (h : aBinT P t b x y K) : ∃ v, aBinT P t b x y (· = v) ∧ K v := by
  unfold aBinT at h ⊢
  split at h <;> first
    | exact ⟨_, ⟨h.1, rfl⟩, h.2⟩
    | (obtain ⟨c, h1, h2⟩ := h; exact ⟨_, ⟨c, h1, rfl⟩, h2⟩)
    | exact aBin_det h
theorem aBinT_mono {t : TypeId} {b : BinOp} {x y : AV} {K K' : AV → Prop} (hk : ∀ v, K v → K' v) (h : aBinT P t b x y K) : aBinT P t b x y K' := by
  unfold aBinT at h ⊢
  split at h <;> first
    | exact ⟨h.1, hk _ h.2⟩
    | (obtain ⟨c, h1, h2⟩ := h; exact ⟨c, h1, hk _ h2⟩)
    | exact aBin_mono hk h
theorem aBinN_mono {t : TypeId} {b : BinOp} {x y : AV} {nl : Bool} {K K' : AV → Prop} (hk : ∀ v, K v → K' v) (h : aBinN P t b x y nl K) : aBinN P t b x y nl K' := by
  unfold aBinN at h ⊢
  split at h
  · exact ⟨h.1, fun b hb => hk _ (h.2 b hb)⟩
  · exact ⟨h.1, fun b hb => hk _ (h.2 b hb)⟩
  · exact aBinT_mono hk h
theorem aNilI_mono {t : TypeId} {b : BinOp} {x : AV} {K K' : AV → Prop} (hk : ∀ v, K v → K' v) (h : aNilI P t b x K) : aNilI P t b x K' := by
  unfold aNilI at h ⊢
  split at h <;> first | exact ⟨h.1, hk _ h.2⟩ | exact h.elim
theorem aNilI_det {t : TypeId} {b : BinOp} {x : AV} {K : AV → Prop} (h : aNilI P t b x K) : ∃ v, aNilI P t b x (· = v) ∧ K v := by
  unfold aNilI at h ⊢
  split at h <;> first | exact ⟨_, ⟨h.1, rfl⟩, h.2⟩ | exact h.elim
theorem aBinO_mono {t : TypeId} {b : BinOp} {x y : AV} {nl ni : Bool} {K K' : AV → Prop} (hk : ∀ v, K v → K' v) (h : aBinO P t b x y nl ni K) : aBinO P t b x y nl ni K' := by
  cases ni
  · exact aBinN_mono hk h
  · exact aNilI_mono hk h
theorem aBinN_f (t : TypeId) (b : BinOp) (x y : AV) (K : AV → Prop) : aBinN P t b x y false K = aBinT P t b x y K := rfl
/-- the value of an operation that turns nothing -/
def RV (P : Program) (op : Op) (ev : Operand → AV) (H : Hp) (v : AV) : Prop := aOp P op ev H (fun u H' => u = v ∧ H' = H)
theorem quiet_det (hc : clsA op = true ∨ clsB op = true) (h : aOp P op ev H J) : ∃ v, RV P op ev H v ∧ J v H := by
  unfold RV
  cases op <;> first | (rcases hc with hc | hc <;> cases hc; done) | skip
  case move x => exact ⟨_, ⟨rfl, (by first | rfl | trivial)⟩, h⟩
  case assign x => exact ⟨_, ⟨rfl, (by first | rfl | trivial)⟩, h⟩
  case pick c x y =>
    simp only [aOp, aPick] at h ⊢
    split at h
    · split at h
      · exact ⟨_, ⟨rfl, (by first | rfl | trivial)⟩, h⟩
      · exact ⟨_, ⟨rfl, (by first | rfl | trivial)⟩, h⟩
    · exact h.elim
  case binOp b t x y t2 =>
    simp only [aOp] at h ⊢
    cases hi : isNilI y with
    | true =>
      rw [hi] at h
      obtain ⟨v, h1, h2⟩ := aNilI_det (show aNilI P t b (ev x) (fun v => J v H) from h)
      refine ⟨v, ?_, h2⟩
      have h3 := aNilI_mono (K' := fun u => u = v ∧ True) (fun u hu => ⟨hu, trivial⟩) h1
      exact h3
    | false =>
    rw [hi] at h
    have hn : isNilS y = false := by rcases hc with hc | hc <;> simpa [clsA, clsB, hi] using hc
    rw [hn] at h ⊢
    simp only [aBinO, aBinN_f] at h ⊢
    obtain ⟨v, h1, h2⟩ := aBinT_det h
    exact ⟨v, aBinT_mono (fun u hu => ⟨hu, (by first | rfl | trivial)⟩) h1, h2⟩
  case unOp u t x =>
    simp only [aOp, aUn] at h ⊢
    split at h
    · exact ⟨_, ⟨rfl, (by first | rfl | trivial)⟩, h⟩
    · exact ⟨_, ⟨rfl, (by first | rfl | trivial)⟩, h⟩
    · exact h.elim
  case nilCheck x =>
    simp only [aOp, aNil] at h ⊢
    split at h
    · exact ⟨_, ⟨rfl, (by first | rfl | trivial)⟩, h⟩
    · exact ⟨_, ⟨rfl, (by first | rfl | trivial)⟩, h⟩
    · exact h.elim
  case fieldAddr s x f =>
    simp only [aOp, aFld] at h ⊢
    split at h
    · exact ⟨_, ⟨h.1, rfl, (by first | rfl | trivial)⟩, h.2⟩
    · exact ⟨_, ⟨h.1, rfl, (by first | rfl | trivial)⟩, h.2⟩
    · exact h.elim
  case extract x i =>
    simp only [aOp, aExt] at h ⊢
    split at h
    · unfold aExt2 at h ⊢
      split at h
      · exact ⟨_, ⟨rfl, (by first | rfl | trivial)⟩, h⟩
      · exact h.elim
    · exact h.elim
  case build t ps =>
    simp only [aOp, aBuild] at h ⊢
    split at h
    · exact ⟨_, ⟨h.1, rfl, (by first | rfl | trivial)⟩, h.2⟩
    · exact h.elim
  case index t x i =>
    simp only [aOp, aStr] at h ⊢
    split at h
    · exact ⟨_, ⟨h.1, rfl, (by first | rfl | trivial)⟩, h.2⟩
    · exact h.elim
  case convert s d x =>
    simp only [aOp, aCv] at h ⊢
    split at h
    · unfold aCv2 at h ⊢
      split at h
      · exact ⟨_, ⟨h.1, rfl, (by first | rfl | trivial)⟩, h.2⟩
      · exact h.elim
    · unfold aCvS at h ⊢
      split at h <;> exact ⟨_, ⟨h.1, rfl, (by first | rfl | trivial)⟩, h.2⟩
    · unfold aCvB at h ⊢
      split at h
      · exact ⟨_, ⟨h.1, rfl, (by first | rfl | trivial)⟩, h.2⟩
      · exact h.elim
    · exact h.elim
  case makeInterface t x =>
    simp only [aOp, aIfc] at h ⊢
    split at h
    · exact h.elim
    · exact ⟨_, ⟨h.1, rfl, (by first | rfl | trivial)⟩, h.2⟩
  case field s x f =>
    simp only [aOp, aFd] at h ⊢
    split at h
    · exact ⟨_, ⟨h.1, rfl, (by first | rfl | trivial)⟩, h.2⟩
    · unfold aOf at h ⊢
      split at h
      · exact ⟨_, ⟨rfl, (by first | rfl | trivial)⟩, h⟩
      · exact h.elim
    · exact h.elim
  case load t x =>
    simp only [aOp, aLoad] at h ⊢
    split at h
    · unfold aLd at h ⊢
      split at h
      · exact ⟨_, ⟨h.1, rfl, (by first | rfl | trivial)⟩, h.2⟩
      · obtain ⟨h1, h2⟩ := h
        unfold aOf at h2 ⊢
        split at h2
        · exact ⟨_, ⟨h1, rfl, (by first | rfl | trivial)⟩, h2⟩
        · exact h2.elim
      · exact h.elim
    · unfold aLd at h ⊢
      split at h
      · exact ⟨_, ⟨h.1, rfl, (by first | rfl | trivial)⟩, h.2⟩
      · obtain ⟨h1, h2⟩ := h
        unfold aOf at h2 ⊢
        split at h2
        · exact ⟨_, ⟨h1, rfl, (by first | rfl | trivial)⟩, h2⟩
        · exact h2.elim
      · exact h.elim
    · exact h.elim
  case indexAddr t x i =>
    simp only [aOp, aIx] at h ⊢
    split at h
    · unfold aIx2 at h ⊢
      split at h
      · exact ⟨_, ⟨h.1, rfl, (by first | rfl | trivial)⟩, h.2⟩
      · exact h.elim
    · unfold aIxL at h ⊢
      split at h
      · exact ⟨_, ⟨h.1, rfl, (by first | rfl | trivial)⟩, h.2⟩
      · exact h.elim
    · exact h.elim
  case slice t x lo hi mx =>
    simp only [aOp, aSub] at h ⊢
    split at h
    · split at h
      · exact ⟨_, ⟨h.1, rfl, (by first | rfl | trivial)⟩, h.2⟩
      · exact h.elim
    · split at h
      · exact ⟨_, ⟨h.1, rfl, (by first | rfl | trivial)⟩, h.2⟩
      · exact h.elim
    · split at h
      · exact ⟨_, ⟨h.1, rfl, (by first | rfl | trivial)⟩, h.2⟩
      · exact h.elim
    · exact h.elim
  case call c =>
    obtain ⟨callee, args, ts⟩ := c
    cases callee with
    | value f => rcases hc with hc | hc <;> cases hc
    | invoke r m => rcases hc with hc | hc <;> cases hc
    | builtin b =>
      simp only [aOp] at h ⊢
      unfold aBuiltin at h ⊢
      split at h
      · exact ⟨_, ⟨h.1, rfl, (by first | rfl | trivial)⟩, h.2⟩
      · exact ⟨_, ⟨h.1, rfl, (by first | rfl | trivial)⟩, h.2⟩
      · exact ⟨_, ⟨h.1, rfl, (by first | rfl | trivial)⟩, h.2⟩
      · exact ⟨_, ⟨rfl, (by first | rfl | trivial)⟩, h⟩
      · exact ⟨_, ⟨rfl, (by first | rfl | trivial)⟩, h⟩
      · rcases hc with hc | hc <;> cases hc
      · rcases hc with hc | hc <;> cases hc
      · rcases hc with hc | hc <;> cases hc
      · rcases hc with hc | hc <;> cases hc
      · rcases hc with hc | hc <;> cases hc
      · rename_i hts _
        rcases hc with hc | hc
        · exact absurd hc (by simp [clsA, hts, h.1.1])
        · cases hc
      · exact h.elim
theorem aOp_mono (hk : ∀ v H', J v H' → J' v H') (h : aOp P op ev H J) : aOp P op ev H J' := by
  cases op <;> first | exact h.elim | skip
  case move x => exact hk _ _ h
  case assign x => exact hk _ _ h
  case pick c x y =>
    simp only [aOp, aPick] at h ⊢
    split at h
    · split at h <;> exact hk _ _ h
    · exact h.elim
  case binOp b t x y t2 =>
    have h : aBinO P t b (ev x) (ev y) (isNilS y) (isNilI y) (fun v => J v H) := h
    exact aBinO_mono (K' := fun v => J' v H) (fun u hu => hk u H hu) h
  case unOp u t x =>
    simp only [aOp, aUn] at h ⊢
    split at h <;> first | exact hk _ _ h | exact h.elim
  case alloc t =>
    simp only [aOp, aNew] at h ⊢
    split at h <;> first | exact hk _ _ h | exact h.elim
  case box t x =>
    simp only [aOp, aNew] at h ⊢
    split at h <;> first | exact hk _ _ h | exact h.elim
  case build t ps =>
    simp only [aOp, aBuild] at h ⊢
    split at h <;> first | exact ⟨h.1, hk _ _ h.2⟩ | exact h.elim
  case buildSlice t n ps =>
    simp only [aOp, aLit] at h ⊢
    split at h <;> first | exact ⟨h.1, h.2.1, h.2.2.1, h.2.2.2.1, hk _ _ h.2.2.2.2⟩ | exact h.elim
  case load t x =>
    simp only [aOp, aLoad] at h ⊢
    split at h
    · unfold aLd at h ⊢
      split at h
      · exact ⟨h.1, hk _ _ h.2⟩
      · obtain ⟨h1, h2⟩ := h
        refine ⟨h1, ?_⟩
        unfold aOf at h2 ⊢
        split at h2 <;> first | exact hk _ _ h2 | exact h2.elim
      · exact h.elim
    · unfold aLd at h ⊢
      split at h
      · exact ⟨h.1, hk _ _ h.2⟩
      · obtain ⟨h1, h2⟩ := h
        refine ⟨h1, ?_⟩
        unfold aOf at h2 ⊢
        split at h2 <;> first | exact hk _ _ h2 | exact h2.elim
      · exact h.elim
    · exact h.elim
  case store t x y =>
    simp only [aOp, aSt] at h ⊢
    split at h
    · unfold aSt2 at h ⊢
      split at h
      · unfold aSt3 at h ⊢
        split at h <;> first | exact ⟨h.1, hk _ _ h.2⟩ | exact h.elim
      · exact h.elim
    · exact h.elim
  case nilCheck x =>
    simp only [aOp, aNil] at h ⊢
    split at h <;> first | exact hk _ _ h | exact h.elim
  case fieldAddr s x f =>
    simp only [aOp, aFld] at h ⊢
    split at h <;> first | exact ⟨h.1, hk _ _ h.2⟩ | exact h.elim
  case indexAddr t x i =>
    simp only [aOp, aIx] at h ⊢
    split at h
    · unfold aIx2 at h ⊢
      split at h <;> first | exact ⟨h.1, hk _ _ h.2⟩ | exact h.elim
    · unfold aIxL at h ⊢
      split at h <;> first | exact ⟨h.1, hk _ _ h.2⟩ | exact h.elim
    · exact h.elim
  case index t x i =>
    simp only [aOp, aStr] at h ⊢
    split at h <;> first | exact ⟨h.1, hk _ _ h.2⟩ | exact h.elim
  case slice t x lo hi mx =>
    simp only [aOp, aSub] at h ⊢
    split at h
    · split at h <;> first | exact ⟨h.1, hk _ _ h.2⟩ | exact h.elim
    · split at h <;> first | exact ⟨h.1, hk _ _ h.2⟩ | exact h.elim
    · split at h <;> first | exact ⟨h.1, hk _ _ h.2⟩ | exact h.elim
    · exact h.elim
  case convert s d x =>
    simp only [aOp, aCv] at h ⊢
    split at h
    · unfold aCv2 at h ⊢
      split at h <;> first | exact ⟨h.1, hk _ _ h.2⟩ | exact h.elim
    · unfold aCvS at h ⊢
      split at h <;> exact ⟨h.1, hk _ _ h.2⟩
    · unfold aCvB at h ⊢
      split at h <;> first | exact ⟨h.1, hk _ _ h.2⟩ | exact h.elim
    · exact h.elim
  case makeInterface t x =>
    simp only [aOp, aIfc] at h ⊢
    split at h
    · exact h.elim
    · exact ⟨h.1, hk _ _ h.2⟩
  case makeMap t r =>
    simp only [aOp, aNewM] at h ⊢
    split at h <;> first | exact hk _ _ h | exact h.elim
  case mapUpdate t m k x =>
    simp only [aOp, aMapUp] at h ⊢
    split at h
    · unfold aMapUp2 at h ⊢
      split at h
      · refine ⟨h.1, ?_⟩
        have h := h.2
        unfold aPutM at h ⊢
        split at h <;> first | exact hk _ _ h | exact h.elim
      · exact h.elim
    · exact h.elim
  case lookup t x ix ok =>
    have get : ∀ {r : Option (AV × Bool)}, aGetM r ok H J → aGetM r ok H J' := by
      intro r h
      unfold aGetM at h ⊢
      split at h <;> first | exact ⟨h.1, hk _ _ h.2⟩ | exact h.elim
    simp only [aOp, aLook] at h ⊢
    split at h
    · unfold aLook2 at h ⊢
      split at h
      · exact ⟨h.1, get h.2⟩
      · exact h.elim
    · exact ⟨h.1, get h.2⟩
    · exact h.elim
  case field s x f =>
    simp only [aOp, aFd] at h ⊢
    split at h
    · exact ⟨h.1, hk _ _ h.2⟩
    · unfold aOf at h ⊢
      split at h <;> first | exact hk _ _ h | exact h.elim
    · exact h.elim
  case makeFunc fn fs cs =>
    simp only [aOp, aMk] at h ⊢
    split at h
    · exact hk _ _ h
    · exact h.elim
  case extract x i =>
    simp only [aOp, aExt] at h ⊢
    split at h
    · unfold aExt2 at h ⊢
      split at h <;> first | exact hk _ _ h | exact h.elim
    · exact h.elim
  case call c =>
    obtain ⟨callee, args, ts⟩ := c
    cases callee with
    | invoke r m => exact h.elim
    | value f =>
      simp only [aOp, aCall] at h ⊢
      split at h
      · refine ⟨h.1, ?_⟩
        have h2 := h.2
        unfold aCallB at h2 ⊢
        split at h2
        · exact h2.mono hk
        · exact h2.mono hk
      · exact h.elim
    | builtin b =>
      simp only [aOp] at h ⊢
      unfold aBuiltin at h ⊢
      split at h
      · exact ⟨h.1, hk _ _ h.2⟩
      · exact ⟨h.1, hk _ _ h.2⟩
      · exact ⟨h.1, hk _ _ h.2⟩
      · exact hk _ _ h
      · exact hk _ _ h
      · obtain ⟨h0, h⟩ := h
        refine ⟨h0, ?_⟩
        split at h
        · obtain ⟨h1, h2, h3⟩ := h
          refine ⟨h1, fun e => hk _ _ (h2 e), fun e => ?_⟩
          obtain ⟨els, new, g1, g2, g3, g4, g5, g6⟩ := h3 e
          exact ⟨els, new, g1, g2, g3, g4, g5, hk _ _ g6⟩
        · exact h.elim
      · obtain ⟨h0, h⟩ := h
        refine ⟨h0, ?_⟩
        split at h
        · obtain ⟨h1, h2, h3⟩ := h
          refine ⟨h1, fun e => hk _ _ (h2 e), fun e => ?_⟩
          obtain ⟨els, g1, g2, g3, g4, g5, g6⟩ := h3 e
          exact ⟨els, g1, g2, g3, g4, g5, hk _ _ g6⟩
        · exact h.elim
      · unfold aClr at h ⊢
        split at h
        · exact hk _ _ h
        · split at h
          · unfold aClr2 at h ⊢
            split at h
            · exact ⟨h.1, hk _ _ h.2⟩
            · exact h.elim
          · exact h.elim
        · exact h.elim
      · exact ⟨h.1, h.2.1, hk _ _ h.2.2⟩
      · obtain ⟨h0, h1, h2, h⟩ := h
        refine ⟨h0, h1, h2, ?_⟩
        split at h
        · split at h
          · obtain ⟨g1, g2, g3, g4, g5, g6⟩ := h
            exact ⟨g1, g2, g3, g4, g5, hk _ _ g6⟩
          · exact h.elim
        · exact h.elim
      · refine ⟨h.1, ?_⟩
        have h := h.2
        unfold aLenM at h ⊢
        split at h <;> first | exact hk _ _ h | exact h.elim
      · exact h.elim
theorem RV_run {v : AV} (h : RV P op ev H v) (k : J v H) : aOp P op ev H J := aOp_mono (by rintro u H' ⟨rfl, rfl⟩; exact k) h
theorem aOp_congr' (h : ∀ x ∈ op.operands, ev x = ev' x) : aOp P op ev H J = aOp P op ev' H J := by
  have pairs : ∀ ps : List (Nat × Operand), (∀ x ∈ (ps.map (·.2)), ev x = ev' x) → partsOf ps ev = partsOf ps ev' := by
    intro ps hp
    exact List.map_congr_left fun p hm => by rw [hp p.2 (List.mem_map.2 ⟨p, hm, rfl⟩)]
  have opts : ∀ o : Option Operand, (∀ x ∈ o.toArray, ev x = ev' x) → o.map ev = o.map ev' := by
    intro o ho
    cases o with
    | none => rfl
    | some x => simp [ho x (by simp)]
  cases op <;> simp only [Op.operands] at h <;> simp only [aOp]
  case move x => rw [h x (by simp)]
  case assign x => rw [h x (by simp)]
  case pick c x y => rw [h c (by simp), h x (by simp), h y (by simp)]
  case binOp b t x y t2 => rw [h x (by simp), h y (by simp)]
  case unOp u t x => rw [h x (by simp)]
  case box t x => rw [h x (by simp)]
  case build t ps => rw [pairs ps.toList (fun x hx => h x (by simpa using hx))]
  case buildSlice t n ps => rw [pairs ps.toList (fun x hx => h x (by simpa using hx))]
  case load t x => rw [h x (by simp)]
  case store t x y => rw [h x (by simp), h y (by simp)]
  case nilCheck x => rw [h x (by simp)]
  case fieldAddr s x f => rw [h x (by simp)]
  case indexAddr t x i => rw [h x (by simp), h i (by simp)]
  case index t x i => rw [h x (by simp), h i (by simp)]
  case slice t x lo hi mx => rw [h x (by simp), opts lo (fun y hy => h y (by simp at hy ⊢; simp [hy])), opts hi (fun y hy => h y (by simp at hy ⊢; simp [hy]))]
  case makeFunc fn fs cs =>
    have e : ∀ l : List Operand, (∀ x ∈ l, x ∈ fs ++ cs) → l.map ev = l.map ev' := fun l hl => List.map_congr_left fun x hx => h x (hl x hx)
    rw [e fs.toList (by simp +contextual), e cs.toList (by simp +contextual)]
  case convert s d x => rw [h x (by simp)]
  case makeInterface t x => rw [h x (by simp)]
  case mapUpdate t m k x => rw [h m (by simp), h k (by simp), h x (by simp)]
  case lookup t x ix ok => rw [h x (by simp), h ix (by simp)]
  case field s x f => rw [h x (by simp)]
  case extract x i => rw [h x (by simp)]
  case call c =>
    obtain ⟨callee, args, ts⟩ := c
    have ha : args.toList.map ev = args.toList.map ev' := List.map_congr_left fun x hx => h x (by simp [Call.operands]; exact .inr (by simpa using hx))
    cases callee with
    | builtin b => simp only [ha]
    | value f => simp only [ha]; rw [h f (by simp [Call.operands])]
    | invoke r m => rfl
end

end Go.Proofs.YtkmkkjlfnobciaaGreatDoor
