/- Without if, good and shifts a value is good only if all of its tags are. No program in sight. -/
import Derived.Test.YtlnfiflbpmicgaaGreatDoorHVFmA
namespace Go.Proofs.YtlnfiflbpmicgaaGreatDoor
open Go Go.RowKit
set_option maxRecDepth 100000
set_option linter.all false
set_option maxHeartbeats 1000000
def wdsE : Ex → List (List UInt8)
  | .num _ => []
  | .tag _ none => []
  | .tag _ (some _) => [[64]]
  | .neg a => wdsE a
  | .bin _ a b => wdsE a ++ wdsE b
  | .f1 f a => f :: wdsE a
  | .f2 f a b => f :: (wdsE a ++ wdsE b)
  | .f3 f a b c => f :: (wdsE a ++ wdsE b ++ wdsE c)
def inT (T : List Tok) (w : List UInt8) : Prop := ∃ t ∈ T, t.x = w
def RdO (rd : List Tok → Int → PR Ex) : Prop := ∀ T dp x T' dp', rd T dp = .ok (x, T', dp') → (∀ w ∈ wdsE x, inT T w) ∧ ∀ t ∈ T', t ∈ T
theorem inT.mono {T T' : List Tok} {w : List UInt8} (h : inT T' w) (hs : ∀ t ∈ T', t ∈ T) : inT T w := by
  obtain ⟨t, ht, e⟩ := h
  exact ⟨t, hs t ht, e⟩
theorem row_o {rd : List Tok → Int → PR Ex} (hr : RdO rd) (ops : List UInt8) (d : Int) : ∀ (m : Nat) (x : Ex) (T : List Tok) (dp : Int) (x' : Ex) (T' : List Tok) (dp' : Int), rowF ops rd d m x T dp = .ok (x', T', dp') → (∀ w ∈ wdsE x', w ∈ wdsE x ∨ inT T w) ∧ ∀ t ∈ T', t ∈ T
  | 0, x, T, dp, x', T', dp', h => by
    unfold rowF at h
    injection h with h
    injection h with h1 h2
    injection h2 with h2 h3
    subst h1 h2
    exact ⟨fun w hw => .inl hw, fun t ht => ht⟩
  | m + 1, x, T, dp, x', T', dp', h => by
    unfold rowF at h
    split at h
    · injection h with h
      injection h with h1 h2
      injection h2 with h2 h3
      subst h1 h2
      exact ⟨fun w hw => .inl hw, fun t ht => ht⟩
    · rename_i t T1
      split at h
      · injection h with h
        injection h with h1 h2
        injection h2 with h2 h3
        subst h1 h2
        exact ⟨fun w hw => .inl hw, fun t ht => ht⟩
      · rename_i c hc
        split at h
        · cases h
        · rename_i y T2 dp2 hy
          obtain ⟨g1, g2⟩ := hr _ _ _ _ _ hy
          obtain ⟨g3, g4⟩ := row_o hr ops d m (.bin c x y) T2 dp2 x' T' dp' h
          refine ⟨fun w hw => ?_, fun u hu => List.mem_cons_of_mem _ (g2 u (g4 u hu))⟩
          rcases g3 w hw with hw | hw
          · rcases List.mem_append.1 hw with hw | hw
            · exact .inl hw
            · exact .inr ((g1 w hw).mono fun t ht => List.mem_cons_of_mem _ ht)
          · exact .inr (hw.mono fun t ht => List.mem_cons_of_mem _ (g2 t ht))
theorem join_o {rd : List Tok → Int → PR Ex} (hr : RdO rd) (ops : List UInt8) (many : Bool) (d : Int) : RdO (joinF ops many rd d) := by
  intro T dp x' T' dp' h
  unfold joinF at h
  split at h
  · cases h
  · rename_i x T1 dp1 h1
    obtain ⟨g1, g2⟩ := hr _ _ _ _ _ h1
    obtain ⟨g3, g4⟩ := row_o hr ops d _ x T1 dp1 x' T' dp' h
    refine ⟨fun w hw => ?_, fun u hu => g2 u (g4 u hu)⟩
    rcases g3 w hw with hw | hw
    · exact g1 w hw
    · exact hw.mono g2
theorem comp_o {fc : Int → List Tok → Int → PR Ex} (d : Int) (hr : RdO (fc d)) : RdO (compG fc d) := join_o (join_o (join_o hr _ _ _) _ _ _) _ _ _
theorem arg_o {rd : List Tok → Int → PR Ex} (hr : RdO rd) (d : Int) : ∀ (m : Nat) (acc : List Ex) (T : List Tok) (dp : Int) (acc' : List Ex) (T' : List Tok) (dp' : Int), argF rd d m acc T dp = .ok (acc', T', dp') → (∀ x ∈ acc', x ∈ acc ∨ ∀ w ∈ wdsE x, inT T w) ∧ ∀ t ∈ T', t ∈ T
  | 0, acc, T, dp, acc', T', dp', h => by
    unfold argF at h
    injection h with h
    injection h with h1 h2
    injection h2 with h2 h3
    subst h1 h2
    exact ⟨fun x hx => .inl hx, fun t ht => ht⟩
  | m + 1, acc, T, dp, acc', T', dp', h => by
    unfold argF at h
    split at h
    · cases h
    · rename_i T1 dp1 h1
      have hT1 : ∀ t ∈ T1, t ∈ T := by
        split at h1
        · injection h1 with h1
          injection h1 with h1 h2
          subst h1
          exact fun t ht => ht
        · split at h1
          · cases h1
          · split at h1
            · injection h1 with h1
              injection h1 with h1 h2
              subst h1
              exact fun t ht => List.mem_cons_of_mem _ ht
            · cases h1
      split at h
      · cases h
      · rename_i x T2 dp2 h2
        obtain ⟨g1, g2⟩ := hr _ _ _ _ _ h2
        obtain ⟨g3, g4⟩ := arg_o hr d m (acc ++ [x]) T2 dp2 acc' T' dp' h
        refine ⟨fun y hy => ?_, fun u hu => hT1 u (g2 u (g4 u hu))⟩
        rcases g3 y hy with hy | hy
        · rcases List.mem_append.1 hy with hy | hy
          · exact .inl hy
          · rw [List.mem_singleton.1 hy]
            exact .inr fun w hw => (g1 w hw).mono hT1
        · exact .inr fun w hw => (hy w hw).mono fun t ht => hT1 t (g2 t ht)
theorem enc_o {rd : List Tok → Int → PR Ex} (hr : RdO rd) (d : Int) (many : Nat) (T : List Tok) (dp : Int) (acc : List Ex) (T' : List Tok) (dp' : Int) (h : encF rd d many T dp = .ok (acc, T', dp')) : (∀ x ∈ acc, ∀ w ∈ wdsE x, inT T w) ∧ ∀ t ∈ T', t ∈ T := by
  unfold encF at h
  split at h
  · cases h
  · split at h
    · split at h
      · cases h
      · rename_i a T2 dp2 h2
        obtain ⟨g1, g2⟩ := arg_o hr (d + 1) many [] _ _ a T2 dp2 h2
        split at h
        · cases h
        · split at h
          · injection h with h
            injection h with h1 h2
            injection h2 with h2 h3
            subst h1 h2
            refine ⟨fun x hx w hw => ?_, fun u hu => List.mem_cons_of_mem _ (g2 u (List.mem_cons_of_mem _ hu))⟩
            rcases g1 x hx with h | h
            · cases h
            · exact (h w hw).mono fun t ht => List.mem_cons_of_mem _ ht
          · cases h
    · cases h
theorem mkFn_o {f : List UInt8} {L : List Ex} {w : List UInt8} (h : w ∈ wdsE (mkFn f L)) : w = f ∨ ∃ x ∈ L, w ∈ wdsE x := by
  match L, h with
  | [], h => cases h
  | [a], h =>
    rcases List.mem_cons.1 h with h | h
    · exact .inl h
    · exact .inr ⟨a, by simp, h⟩
  | [a, b], h =>
    rcases List.mem_cons.1 h with h | h
    · exact .inl h
    · rcases List.mem_append.1 h with h | h
      · exact .inr ⟨a, by simp, h⟩
      · exact .inr ⟨b, by simp, h⟩
  | [a, b, c], h =>
    rcases List.mem_cons.1 h with h | h
    · exact .inl h
    · rcases List.mem_append.1 h with h | h
      · rcases List.mem_append.1 h with h | h
        · exact .inr ⟨a, by simp, h⟩
        · exact .inr ⟨b, by simp, h⟩
      · exact .inr ⟨c, by simp, h⟩
  | _ :: _ :: _ :: _ :: _, h => cases h
theorem fact_o : ∀ (n : Nat) (d : Int), RdO (factF n d)
  | 0, d => fun T dp x T' dp' h => by unfold factF at h; cases h
  | n + 1, d => fun T dp x T' dp' h => by
    cases T with
    | nil => unfold factF at h; cases h
    | cons t T1 =>
      unfold factF at h
      split at h
      · split at h
        · cases h
        · rename_i y T2 dp2 h2
          obtain ⟨g1, g2⟩ := fact_o n (d + 1) _ _ _ _ _ h2
          injection h with h
          injection h with h1 h2
          injection h2 with h2 h3
          subst h1 h2
          exact ⟨fun w hw => (g1 w hw).mono fun t ht => List.mem_cons_of_mem _ ht, fun u hu => List.mem_cons_of_mem _ (g2 u hu)⟩
      · split at h
        · split at h
          · injection h with h
            injection h with h1 h2
            injection h2 with h2 h3
            subst h1 h2
            exact ⟨fun w hw => (by cases hw), fun u hu => List.mem_cons_of_mem _ hu⟩
          · cases h
        · split at h
          · split at h
            · cases h
            · rename_i L T2 dp2 h2
              obtain ⟨g1, g2⟩ := enc_o (comp_o (d + 1) (fact_o n (d + 1))) d 1 _ _ _ _ _ h2
              injection h with h
              injection h with h1 h2
              injection h2 with h2 h3
              subst h1 h2
              refine ⟨fun w hw => ?_, g2⟩
              cases L with
              | nil => cases hw
              | cons a r => exact g1 a (by simp) w hw
          · split at h
            · split at h
              · split at h
                · cases h
                · rename_i L T2 dp2 h2
                  obtain ⟨g1, g2⟩ := enc_o (comp_o (d + 1) (fact_o n (d + 1))) d _ _ _ _ _ _ h2
                  injection h with h
                  injection h with h1 h2
                  injection h2 with h2 h3
                  subst h1 h2
                  refine ⟨fun w hw => ?_, fun u hu => List.mem_cons_of_mem _ (g2 u hu)⟩
                  rcases mkFn_o hw with rfl | ⟨x, hx, hw⟩
                  · exact ⟨t, List.mem_cons_self .., rfl⟩
                  · exact (g1 x hx w hw).mono fun t ht => List.mem_cons_of_mem _ ht
              · split at h
                · cases h
                · unfold shfF at h
                  split at h
                  · cases h
                  · rename_i t2 T2 _
                    split at h
                    · rename_i hs
                      obtain ⟨c, hc⟩ := Option.isSome_iff_exists.1 hs
                      obtain ⟨s1, s2, s3⟩ := sgT_some hc
                      have hc64 := List.mem_singleton.1 s3
                      split at h
                      · cases h
                      · split at h
                        · split at h
                          · split at h
                            · injection h with h
                              injection h with h1 h2
                              injection h2 with h2 h3
                              subst h1 h2
                              refine ⟨fun w hw => ?_, fun u hu => by simp [hu]⟩
                              have hw : w ∈ ([[64]] : List (List UInt8)) := hw
                              rw [List.mem_singleton.1 hw]
                              exact ⟨_, List.mem_cons_of_mem _ (List.mem_cons_self ..), by rw [s2, hc64]⟩
                            · cases h
                          · cases h
                        · cases h
                    · injection h with h
                      injection h with h1 h2
                      injection h2 with h2 h3
                      subst h1 h2
                      exact ⟨fun w hw => (by cases hw), fun u hu => by simp [hu]⟩
            · cases h
def subL (w l : List UInt8) : Prop := ∃ o, (l.drop o).take w.length = w
theorem tok_sub : ∀ (l0 : List UInt8) (r : List UInt8) (o : Nat), r = l0.drop o → ∀ t ∈ tokF r o, subL t.x l0
  | l0, [], o, _, t, ht => by
    rw [tokF_nil] at ht
    rw [List.mem_singleton.1 ht]
    exact ⟨0, by simp⟩
  | l0, c :: r, o, he, t, ht => by
    have h1 := (List.dropWhile_sublist isDg (l := r)).length_le
    have h2 := (List.dropWhile_sublist isWd (l := r)).length_le
    have hr : r = l0.drop (o + 1) := by rw [← List.drop_drop, ← he]; rfl
    have hd : ∀ k, r.drop k = l0.drop (o + 1 + k) := fun k => by rw [hr, List.drop_drop]
    rw [tokF_cons] at ht
    split at ht
    · exact tok_sub l0 r (o + 1) hr t ht
    · split at ht
      · rcases List.mem_cons.1 ht with rfl | ht
        · refine ⟨o, ?_⟩
          show (l0.drop o).take (List.length (c :: _)) = _
          rw [← he, List.length_cons, List.take_succ_cons, take_tw]
        · rw [drop_tw, hd] at ht
          exact tok_sub l0 (l0.drop (o + 1 + (r.takeWhile isDg).length)) _ rfl t ht
      · split at ht
        · rcases List.mem_cons.1 ht with rfl | ht
          · refine ⟨o, ?_⟩
            show (l0.drop o).take (List.length (c :: _)) = _
            rw [← he, List.length_cons, List.take_succ_cons, take_tw]
          · rw [drop_tw, hd] at ht
            exact tok_sub l0 (l0.drop (o + 1 + (r.takeWhile isWd).length)) _ rfl t ht
        · split at ht
          · rcases List.mem_cons.1 ht with rfl | ht
            · exact ⟨o, by rw [← he]; rfl⟩
            · exact tok_sub l0 r (o + 1) hr t ht
          · rw [List.mem_singleton.1 ht]
            exact ⟨o, by rw [← he]; rfl⟩
termination_by l0 r => r.length
decreasing_by
  all_goals first
    | (simp only [List.length_cons]; omega)
    | (rw [← hd, List.length_drop, List.length_cons]; omega)
theorem par_o {l : List UInt8} {e : Ex} (h : parF l = .ok e) : ∀ w ∈ wdsE e, subL w l := by
  unfold parF at h
  split at h
  · cases h
  · split at h
    · cases h
    · rename_i x T dp h1
      have h2 := (comp_o 0 (fact_o _ 0) _ _ _ _ _ h1).1
      split at h
      · cases h
      · split at h
        · cases h
        · split at h
          · cases h
          · injection h with h
            subst h
            intro w hw
            obtain ⟨t, ht, rfl⟩ := h2 w hw
            exact tok_sub l l 0 (by simp) t ht
def plainE (e : Ex) : Prop := wIf ∉ wdsE e ∧ wGd ∉ wdsE e ∧ [64] ∉ wdsE e
theorem bdV_q (n q most : Int) (hq : q ≤ 2) : q ≤ (bdV n q most).q := by
  unfold bdV
  split
  · exact hq
  · exact Int.le_refl _
theorem two_q (c : UInt8) (a b : Vl) (ha : a.q ≤ 2) (hb : b.q ≤ 2) : a.q ≤ (twoV c a b).q ∧ b.q ≤ (twoV c a b).q := by
  have h : ∀ n most, a.q ≤ (bdV n (max a.q b.q) most).q ∧ b.q ≤ (bdV n (max a.q b.q) most).q := fun n most => by
    have := bdV_q n (max a.q b.q) most (by omega)
    omega
  unfold twoV
  repeat' split
  all_goals first | exact h _ _ | exact ⟨ha, hb⟩
theorem good_q {look : List UInt8 → Int → Vl} (hl : ∀ x m, VlOk (look x m)) (m : Int) (hm : 0 ≤ m) : ∀ (e : Ex), ExOk e → plainE e → ∀ p ∈ leafE e, (look p.1 m).q ≤ (evP look m e).q
  | .num _, _, _, p, hp => by cases hp
  | .tag x none, h, g, p, hp => by
    have hp : p ∈ [(x, (0 : Int))] := hp
    rw [List.mem_singleton.1 hp]
    unfold evP
    rw [if_neg (by simp; omega)]
    simp
  | .tag x (some n), h, g, p, hp => absurd (List.mem_singleton.2 rfl) g.2.2
  | .neg a, h, g, p, hp => by
    have ih := good_q hl m hm a h g p hp
    have := (evP_ok hl m a h).2.1
    unfold evP
    have := bdV_q (-(evP look m a).n) (evP look m a).q 1000000000000 (by omega)
    omega
  | .bin c a b, h, g, p, hp => by
    have g1 : plainE a := ⟨fun e => g.1 (List.mem_append_left _ e), fun e => g.2.1 (List.mem_append_left _ e), fun e => g.2.2 (List.mem_append_left _ e)⟩
    have g2 : plainE b := ⟨fun e => g.1 (List.mem_append_right _ e), fun e => g.2.1 (List.mem_append_right _ e), fun e => g.2.2 (List.mem_append_right _ e)⟩
    have ha := (evP_ok hl m a h.2.1).2.1
    have hb := (evP_ok hl m b h.2.2).2.1
    have := two_q c (evP look m a) (evP look m b) (by omega) (by omega)
    unfold evP
    rcases List.mem_append.1 hp with hp | hp
    · have ih := good_q hl m hm a h.2.1 g1 p hp
      omega
    · have ih := good_q hl m hm b h.2.2 g2 p hp
      omega
  | .f1 f a, h, g, p, hp => by
    have g1 : plainE a := ⟨fun e => g.1 (List.mem_cons_of_mem _ e), fun e => g.2.1 (List.mem_cons_of_mem _ e), fun e => g.2.2 (List.mem_cons_of_mem _ e)⟩
    have ih := good_q hl m hm a h.2 g1 p hp
    have := (evP_ok hl m a h.2).2.1
    have hf : f = wAbs := by
      have h1 := h.1
      unfold fnN at h1
      split at h1
      · rename_i e
        rcases e with e | e
        · exact e
        · exact absurd (by rw [e]; exact List.mem_cons_self ..) g.2.1
      · split at h1
        · cases h1
        · split at h1 <;> cases h1
    unfold evP
    rw [if_pos hf]
    have := bdV_q (max (evP look m a).n (-(evP look m a).n)) (evP look m a).q 1000000000000 (by omega)
    omega
  | .f2 f a b, h, g, p, hp => by
    have g1 : plainE a := ⟨fun e => g.1 (List.mem_cons_of_mem _ (List.mem_append_left _ e)), fun e => g.2.1 (List.mem_cons_of_mem _ (List.mem_append_left _ e)), fun e => g.2.2 (List.mem_cons_of_mem _ (List.mem_append_left _ e))⟩
    have g2 : plainE b := ⟨fun e => g.1 (List.mem_cons_of_mem _ (List.mem_append_right _ e)), fun e => g.2.1 (List.mem_cons_of_mem _ (List.mem_append_right _ e)), fun e => g.2.2 (List.mem_cons_of_mem _ (List.mem_append_right _ e))⟩
    have ha := (evP_ok hl m a h.2.1).2.1
    have hb := (evP_ok hl m b h.2.2).2.1
    unfold evP
    have := bdV_q (if f = wMin then min (evP look m a).n (evP look m b).n else max (evP look m a).n (evP look m b).n) (max (evP look m a).q (evP look m b).q) 1000000000000 (by omega)
    rcases List.mem_append.1 hp with hp | hp
    · have ih := good_q hl m hm a h.2.1 g1 p hp
      omega
    · have ih := good_q hl m hm b h.2.2 g2 p hp
      omega
  | .f3 f a b c, h, g, p, hp => by
    have hf : f = wIf := by
      have h1 := h.1
      unfold fnN at h1
      split at h1
      · cases h1
      · split at h1
        · cases h1
        · split at h1
          · assumption
          · cases h1
    exact absurd (by rw [hf]; exact List.mem_cons_self ..) g.1
end Go.Proofs.YtlnfiflbpmicgaaGreatDoor
