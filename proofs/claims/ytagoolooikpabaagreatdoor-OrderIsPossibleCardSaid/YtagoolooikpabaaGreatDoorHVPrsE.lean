/- Several texts in one: The program's parser: factors, and all that is built on them, and what follows. No condition. -/
import Derived.Test.YtagoolooikpabaaGreatDoorHVPrsC
set_option linter.all false
namespace Go.Proofs.YtagoolooikpabaaGreatDoor
open Go Go.RowKit
set_option maxRecDepth 100000
set_option maxHeartbeats 2000000
variable {H : Hp} {K : AV → Hp → Prop}
theorem tB_c {x y : List UInt8} {s : ByteArray} (h : s = tB y) : tB x = s ↔ x = y := by rw [h, tB_inj]
theorem operands_a (x : List UInt8) (hk : K (.c (.int .i64 (fnN x))) H) : ACalls Tryz.prog 118 [(.c (.str (tB x)))] H K := by
 have e1 : tB x = ⟨#[97, 98, 115]⟩ ↔ x = wAbs := tB_c rfl
 have e2 : tB x = ⟨#[103, 111, 111, 100]⟩ ↔ x = wGd := tB_c rfl
 have e3 : tB x = ⟨#[109, 105, 110]⟩ ↔ x = wMin := tB_c rfl
 have e4 : tB x = ⟨#[109, 97, 120]⟩ ↔ x = wMax := tB_c rfl
 have e5 : tB x = ⟨#[105, 102]⟩ ↔ x = wIf := tB_c rfl
 have key : ∀ (p : Bool) (q : Prop) [Decidable q], (decide q = p) → ∀ (L : ByteArray), (tB x = L ↔ q) → decide (tB x = L) = p := fun p q _ h L hq => by rw [← h]; congr 1; rw [eq_iff_iff]; exact hq
 unfold fnN at hk
 by_cases h1 : x = wAbs
 ·rw [if_pos (.inl h1)] at hk
  have c1 := key true _ (decide_eq_true h1) _ e1
  refine acalls Tryz.func118 rfl (by kernel_rfl) (by simp (disch := first | omega | (simp only [go_sem]; try omega)) only [go_sem]) (fun hH => ?_)
  simp (disch := first | omega | (simp only [go_sem]; try omega)) only [go_sem, c1]
  exact Ret.same (Nat.le_refl _) hk
 have c1 := key false _ (decide_eq_false h1) _ e1
 by_cases h2 : x = wGd
 ·rw [if_pos (.inr h2)] at hk
  have c2 := key true _ (decide_eq_true h2) _ e2
  refine acalls Tryz.func118 rfl (by kernel_rfl) (by simp (disch := first | omega | (simp only [go_sem]; try omega)) only [go_sem]) (fun hH => ?_)
  simp (disch := first | omega | (simp only [go_sem]; try omega)) only [go_sem, c1, c2]
  exact Ret.same (Nat.le_refl _) hk
 have c2 := key false _ (decide_eq_false h2) _ e2
 rw [if_neg (fun h => h.elim h1 h2)] at hk
 by_cases h3 : x = wMin
 ·rw [if_pos (.inl h3)] at hk
  have c3 := key true _ (decide_eq_true h3) _ e3
  refine acalls Tryz.func118 rfl (by kernel_rfl) (by simp (disch := first | omega | (simp only [go_sem]; try omega)) only [go_sem]) (fun hH => ?_)
  simp (disch := first | omega | (simp only [go_sem]; try omega)) only [go_sem, c1, c2, c3]
  exact Ret.same (Nat.le_refl _) hk
 have c3 := key false _ (decide_eq_false h3) _ e3
 by_cases h4 : x = wMax
 ·rw [if_pos (.inr h4)] at hk
  have c4 := key true _ (decide_eq_true h4) _ e4
  refine acalls Tryz.func118 rfl (by kernel_rfl) (by simp (disch := first | omega | (simp only [go_sem]; try omega)) only [go_sem]) (fun hH => ?_)
  simp (disch := first | omega | (simp only [go_sem]; try omega)) only [go_sem, c1, c2, c3, c4]
  exact Ret.same (Nat.le_refl _) hk
 have c4 := key false _ (decide_eq_false h4) _ e4
 rw [if_neg (fun h => h.elim h3 h4)] at hk
 by_cases h5 : x = wIf
 ·rw [if_pos h5] at hk
  have c5 := key true _ (decide_eq_true h5) _ e5
  refine acalls Tryz.func118 rfl (by kernel_rfl) (by simp (disch := first | omega | (simp only [go_sem]; try omega)) only [go_sem]) (fun hH => ?_)
  simp (disch := first | omega | (simp only [go_sem]; try omega)) only [go_sem, c1, c2, c3, c4, c5]
  exact Ret.same (Nat.le_refl _) hk
 have c5 := key false _ (decide_eq_false h5) _ e5
 rw [if_neg h5] at hk
 refine acalls Tryz.func118 rfl (by kernel_rfl) (by simp (disch := first | omega | (simp only [go_sem]; try omega)) only [go_sem]) (fun hH => ?_)
 simp (disch := first | omega | (simp only [go_sem]; try omega)) only [go_sem, c1, c2, c3, c4, c5]
 exact Ret.same (Nat.le_refl _) hk
theorem product_a {l : List UInt8} (hl : l.length ≤ 1000) {n : Nat} {d : Int} {fc : Int → List Tok → Int → PR Ex} (hrd : RdC 275 l n d (fc d)) (hg : RdG l (fc d)) : RdC 247 l n d (prodG fc d) := by
 intro i H K T dp hi hT hn hk1 hk2
 refine acalls Tryz.func247 rfl (by kernel_rfl) (by simp (disch := first | omega | (simp only [go_sem]; try omega)) only [go_sem]) (fun hH => ?_)
 simp (disch := first | omega | (simp only [go_sem]; try omega)) only [go_sem]
 refine joined_a hl (by kernel_rfl) hrd hg [42, 47] true i T dp hi hT hn (fun x T' dp' h => ?_) (fun e k a s d' dp' cs h => ?_)
 ·have := hk1 x T' dp' h
  simp (disch := first | omega | (simp only [go_sem]; try omega)) only [go_sem]
  exact Ret.same (by simp) this
 ·have := hk2 e k a s d' dp' cs h
  simp (disch := first | omega | (simp only [go_sem]; try omega)) only [go_sem]
  exact Ret.same (by simp) this
theorem sum_a {l : List UInt8} (hl : l.length ≤ 1000) {n : Nat} {d : Int} {fc : Int → List Tok → Int → PR Ex} (hrd : RdC 275 l n d (fc d)) (hg : RdG l (fc d)) : RdC 194 l n d (sumG fc d) := by
 intro i H K T dp hi hT hn hk1 hk2
 refine acalls Tryz.func194 rfl (by kernel_rfl) (by simp (disch := first | omega | (simp only [go_sem]; try omega)) only [go_sem]) (fun hH => ?_)
 simp (disch := first | omega | (simp only [go_sem]; try omega)) only [go_sem]
 refine joined_a hl (by kernel_rfl) (product_a hl hrd hg) (prod_good d hg) [43, 45] true i T dp hi hT hn (fun x T' dp' h => ?_) (fun e k a s d' dp' cs h => ?_)
 ·have := hk1 x T' dp' h
  simp (disch := first | omega | (simp only [go_sem]; try omega)) only [go_sem]
  exact Ret.same (by simp) this
 ·have := hk2 e k a s d' dp' cs h
  simp (disch := first | omega | (simp only [go_sem]; try omega)) only [go_sem]
  exact Ret.same (by simp) this
theorem compareP_a {l : List UInt8} (hl : l.length ≤ 1000) {n : Nat} {d : Int} {fc : Int → List Tok → Int → PR Ex} (hrd : RdC 275 l n d (fc d)) (hg : RdG l (fc d)) : RdC 153 l n d (compG fc d) := by
 intro i H K T dp hi hT hn hk1 hk2
 refine acalls Tryz.func153 rfl (by kernel_rfl) (by simp (disch := first | omega | (simp only [go_sem]; try omega)) only [go_sem]) (fun hH => ?_)
 simp (disch := first | omega | (simp only [go_sem]; try omega)) only [go_sem]
 refine joined_a hl (by kernel_rfl) (sum_a hl hrd hg) (sum_good d hg) [60, 61] false i T dp hi hT hn (fun x T' dp' h => ?_) (fun e k a s d' dp' cs h => ?_)
 ·have := hk1 x T' dp' h
  simp (disch := first | omega | (simp only [go_sem]; try omega)) only [go_sem]
  exact Ret.same (by simp) this
 ·have := hk2 e k a s d' dp' cs h
  simp (disch := first | omega | (simp only [go_sem]; try omega)) only [go_sem]
  exact Ret.same (by simp) this
theorem encNd_fn (f : List UInt8) {L : List Ex} (h : L.length = 1 ∨ L.length = 2 ∨ L.length = 3) : encNd (mkFn f L) = [.str (tB f), .int .i64 0, .str ⟨#[]⟩, .lst 1 (L.map fun x => [.fp (encNd x)]), .bool false] := by
 match L, h with
 | [a], _ => simp [mkFn, encNd]
 | [a, b], _ => simp [mkFn, encNd]
 | [a, b, c], _ => simp [mkFn, encNd]
 | [], h => simp at h
 | _ :: _ :: _ :: _ :: _, h => simp at h
theorem fnN_3 (x : List UInt8) : fnN x ≤ 3 := by
 unfold fnN
 repeat' split
 all_goals omega
theorem Ret.nd2 {A : Hp} {n : Nat} {ty : Nat} {cs : List AC} {own : Bool} {o : AObj} (hA : HOk A) (hn : n = A.length) (hp : pureL [cs] = true) (hk : K (.c (.fp cs)) A) : Ret n (.c (.ptr (some (n + 1, 0, 0)))) (A ++ [o, .row ty 5 [cs] own]) K := by
 subst hn
 exact Ret.node1 (v' := .c (.fp cs)) (els := [cs]) 1 hA (Nat.le_refl _) rfl hp (by simp [AV.frzX, AV.frzX1, AC.frzX]) trivial hk
theorem encNd_pure (e : Ex) : pureL [encNd e] = true := by
 cases e with
 | tag x s => cases s <;> rfl
 | _ => rfl
theorem factor_a {l : List UInt8} (hl : l.length ≤ 1000) : ∀ (n : Nat) (d : Int), 0 ≤ d → d + n ≤ 5000 → RdC 275 l n d (factF n d)
 | 0, d, _, _ => by
  intro i H K T dp hi hT hn hk1 hk2
  obtain ⟨t, T1, rfl, _⟩ := hT.head
  rw [List.length_cons] at hn
  omega
 | n + 1, d, hd0, hd1 => by
  intro i H K T dp hi hT hn hk1 hk2
  have ih := factor_a hl n
  have hil := getElem?_lt hi
  obtain ⟨t, T1, rfl, ht, _⟩ := hT.head
  rw [List.length_cons] at hn
  have hkind := prK_k ht
  unfold factF at hk1 hk2
  have hset : ∀ (X : AObj) (G : Hp), (H ++ G).set i X = H.set i X ++ G := fun X G => by rw [List.set_append_left _ _ hil]
  have hat : ∀ G : Hp, (H ++ G)[i]? = some (psO l (t :: T1) d dp) := fun G => by rw [List.getElem?_append_left hil]; exact hi
  have hset3 : ∀ (X Y : AObj) (G : Hp), (H.set i X ++ G).set i Y = H.set i Y ++ G := fun X Y G => by rw [List.set_append_left _ _ (by simpa using hil), List.set_set]
  have hset2 : ∀ (X C : AObj) (G : Hp), (H.set i X ++ G).set (H.length + 1) C = H.set i X ++ G.set 1 C := fun X C G => by rw [List.set_append_right _ _ (by simp)]; simp
  have hat3 : ∀ (X : AObj) (G : Hp), (H.set i X ++ G)[i]? = some X := fun X G => by rw [List.getElem?_append_left (by simpa using hil), List.getElem?_set_self hil]
  have hi' := hi
  rw [psO_row] at hi'
  refine acalls Tryz.func275 rfl (by kernel_rfl) (by simp (disch := first | omega | (simp only [go_sem]; try omega)) only [go_sem]) (fun hH => ?_)
  simp (disch := first | omega | (simp only [go_sem]; try omega)) only [go_sem, hi']
  refine isT_a (T := T1) 45 _ rfl ht (hat _) ?_
  by_cases h1 : (sgT t [45]).isSome = true
  ·rw [if_pos h1] at hk1 hk2
   rw [h1]
   have hk3 := sgT_is h1
   simp (disch := first | omega | (simp only [go_sem]; try omega)) only [go_sem]
   refine minusP_a hl (n := n) ⟨by omega, by omega⟩ (ih (d + 1) (by omega) (by omega)) hT (by omega) hk3 (hat _) (fun x T' dp' h => ?_) (fun e k a s d' dp' cs h => ?_)
   ·rw [h] at hk1
    have hk := hk1 _ _ _ rfl
    rw [hset]
    simp (disch := first | omega | (simp only [go_sem]; try omega)) only [go_sem]
    exact Ret.drop (HOk.set hH (psO_ok _)) (by simp) trivial hk
   ·rw [h] at hk2
    have hk := hk2 _ k a s d' dp' cs rfl
    rw [hset]
    simp (disch := first | omega | (simp only [go_sem]; try omega)) only [go_sem]
    exact Ret.drop (HOk.psJ hH) (by simp) trivial hk
  ·rw [if_neg h1] at hk1 hk2
   have h1' : (sgT t [45]).isSome = false := by simpa using h1
   rw [h1']
   by_cases h2 : t.k = 1
   ·rw [if_pos h2] at hk1 hk2
    cases hq : numF t.x 9 with
    | some v =>
     rw [hq] at hk1
     have hk := hk1 _ _ _ rfl
     have hp1 : prK t = 1 := hkind.1.2 ⟨h2, by rw [hq]; rfl⟩
     have hxl : t.x.length ≤ 1000 := by have := ht.1; omega
     simp (disch := first | omega | (simp only [go_sem]; try omega)) only [go_sem, hp1]
     refine atoiTok_a t.x hxl (fun w e hw he => ?_)
     obtain rfl := hw v hq
     simp (disch := first | omega | (simp only [go_sem]; try omega)) only [go_sem]
     refine nextP_a hl hT (by omega) (hat _) ?_
     rw [hset]
     simp (disch := first | omega | (simp only [go_sem]; try omega)) only [go_sem]
     exact Ret.nd2 (HOk.set hH (psO_ok _)) (by simp) rfl hk
    | none =>
     rw [hq] at hk2
     have hp1 : prK t = 4 := by
      rcases ht.2.2 with h | h | h | h | h
      ·omega
      ·rw [prK_1 h.1 h.2.2 h.2.1, hq]; rfl
      ·omega
      ·omega
      ·omega
     have hk := hk2 t.o (prK t) t.o (tB t.x) d dp ndE0 rfl
     rw [hp1] at hk
     have h40 : (sgT t [40]).isSome = false := by
      cases hc : (sgT t [40]).isSome with
      | false => rfl
      | true => have := sgT_is hc; omega
     simp (disch := first | omega | (simp only [go_sem]; try omega)) only [go_sem, hp1]
     refine isT_a (T := T1) 40 _ rfl ht (by rw [← hp1]; exact hat _) ?_
     rw [h40]
     simp (disch := first | omega | (simp only [go_sem]; try omega)) only [go_sem, hp1]
     refine failP_a (l := l) (k := 4) (a := t.o) (x := tB t.x) (d := d) (dp := dp) (bad := -1) (by rw [← hp1]; exact hat _) ?_
     rw [if_pos (by decide), hset]
     simp (disch := first | omega | (simp only [go_sem]; try omega)) only [go_sem]
     exact Ret.drop (HOk.psJ hH) (by simp) trivial hk
   ·rw [if_neg h2] at hk1 hk2
    have hp1 : ¬ prK t = 1 := fun h => h2 (hkind.1.1 h).1
    simp (disch := first | omega | (simp only [go_sem]; try omega)) only [go_sem, hp1]
    refine isT_a (T := T1) 40 _ rfl ht (hat _) ?_
    by_cases h3 : (sgT t [40]).isSome = true
    ·rw [if_pos h3] at hk1 hk2
     rw [h3]
     simp (disch := first | omega | (simp only [go_sem]; try omega)) only [go_sem]
     refine enclosedP_a hl (n := n) (d := d) ⟨by omega, by omega⟩ (compareP_a hl (ih (d + 1) (by omega) (by omega)) (fact_good l n (d + 1))) (comp_good (d + 1) (fact_good l n (d + 1))) 1 (by omega) hT (by rw [List.length_cons]; omega) (hat _) (fun L T' dp' h => ?_) (fun e k a s d' dp' h => ?_)
     ·rw [h] at hk1
      have hk := hk1 _ _ _ rfl
      obtain ⟨g1, g2, g3, g4⟩ := enc_good (comp_good (d + 1) (fact_good l n (d + 1))) d 1 _ _ _ _ _ hT h
      obtain ⟨x, rfl⟩ : ∃ x, L = [x] := by
       match L, g2 with
       | [x], _ => exact ⟨x, rfl⟩
      rw [hset]
      simp (disch := first | omega | (simp only [go_sem]; try omega)) only [go_sem]
      exact Ret.drop (HOk.set hH (psO_ok _)) (by simp) trivial hk
     ·rw [h] at hk2
      have hk := hk2 e k a s d' dp' ndE0 rfl
      rw [hset]
      simp (disch := first | omega | (simp only [go_sem]; try omega)) only [go_sem]
      exact Ret.nd2 (HOk.psJ hH) (by simp) rfl hk
    ·rw [if_neg h3] at hk1 hk2
     have h3' : (sgT t [40]).isSome = false := by simpa using h3
     rw [h3']
     by_cases h4 : t.k = 2
     ·rw [if_pos h4] at hk1 hk2
      have hT1 := (hT.next (by omega)).1
      by_cases h5 : 0 < fnN t.x
      ·rw [if_pos h5] at hk1 hk2
       have hfn := fnN_3 t.x
       have hp2 : prK t = 2 := by
        refine hkind.2.1.2 ⟨h4, ?_⟩
        have : t.x = wAbs ∨ t.x = wGd ∨ t.x = wMin ∨ t.x = wMax ∨ t.x = wIf := by
         unfold fnN at h5
         split at h5
         ·rename_i h; rcases h with h | h <;> simp [h]
         ·split at h5
          ·rename_i h; rcases h with h | h <;> simp [h]
          ·split at h5
           ·rename_i h; simp [h]
           ·omega
        rcases this with h | h | h | h | h <;> rw [h] <;> decide
       have h5' : (0 : Int) < (fnN t.x : Int) := by omega
       simp (disch := first | omega | (simp only [go_sem]; try omega)) only [go_sem, hp2]
       refine operands_a t.x ?_
       simp (disch := first | omega | (simp only [go_sem]; try omega)) only [go_sem, h5']
       refine nextP_a hl hT (by omega) (by rw [← hp2]; exact hat _) ?_
       rw [hset]
       simp (disch := first | omega | (simp only [go_sem]; try omega)) only [go_sem]
       refine w_tree (.one 0 (.one 2 (.one 3 (.one 4 (.two 1 (.one 5 (.one 6 (.one 7 (.one 8 (.one 9 .done))))) 5 (.two 1 (.one 6 (.one 7 (.one 8 (.one 9 .done)))) 6 (.one 1 (.one 7 (.one 8 (.one 9 .done)))))))))) (by kernel_rfl) (by decide +kernel) ?_
       simp (disch := first | omega | (simp only [go_sem]; try omega)) only [go_sem]
       repeat' apply And.intro
       all_goals refine operands_a t.x ?_
       all_goals simp (disch := first | omega | (simp only [go_sem]; try omega)) only [go_sem]
       all_goals repeat' apply And.intro
       all_goals
        refine enclosedP_a hl (n := n) (d := d) ⟨by omega, by omega⟩ (compareP_a hl (ih (d + 1) (by omega) (by omega)) (fact_good l n (d + 1))) (comp_good (d + 1) (fact_good l n (d + 1))) (fnN t.x) hfn hT1 (by omega) (hat3 _ _) (fun L T' dp' h => ?_) (fun e k a s d' dp' h => ?_)
        ·rw [h] at hk1
         have hk := hk1 _ _ _ rfl
         obtain ⟨g1, g2, g3, g4⟩ := enc_good (comp_good (d + 1) (fact_good l n (d + 1))) d _ _ _ _ _ _ hT1 h
         rw [encNd_fn t.x (by omega)] at hk
         rw [hset3]
         simp (disch := first | omega | (simp only [go_sem]; try omega)) only [go_sem]
         exact Ret.nd2 (HOk.set hH (psO_ok _)) (by simp) rfl hk
        ·rw [h] at hk2
         have hk := hk2 e k a s d' dp' [.str (tB t.x), .int .i64 0, .str ⟨#[]⟩, .lst 1 [], .bool false] rfl
         rw [hset3]
         simp (disch := first | omega | (simp only [go_sem]; try omega)) only [go_sem]
         exact Ret.nd2 (HOk.psJ hH) (by simp) rfl hk
      ·have h5' : ¬ (0 : Int) < (fnN t.x : Int) := by omega
       rw [if_neg h5] at hk1 hk2
       by_cases h6 : 40 < t.x.length
       ·rw [if_pos h6] at hk2
        have hp2 : prK t = 4 := by unfold prK; rw [if_neg h2, if_pos h4, if_pos h6]
        have hk := hk2 t.o (prK t) t.o (tB t.x) d dp ndE0 rfl
        rw [hp2] at hk
        simp (disch := first | omega | (simp only [go_sem]; try omega)) only [go_sem, hp2]
        refine failP_a (l := l) (k := 4) (a := t.o) (x := tB t.x) (d := d) (dp := dp) (bad := -1) (by rw [← hp2]; exact hat _) ?_
        rw [if_pos (by decide), hset]
        simp (disch := first | omega | (simp only [go_sem]; try omega)) only [go_sem]
        exact Ret.drop (HOk.psJ hH) (by simp) trivial hk
       ·rw [if_neg h6] at hk1 hk2
        have hp2 : prK t = 2 := hkind.2.1.2 ⟨h4, by omega⟩
        simp (disch := first | omega | (simp only [go_sem]; try omega)) only [go_sem, hp2]
        refine operands_a t.x ?_
        simp (disch := first | omega | (simp only [go_sem]; try omega)) only [go_sem, h5']
        refine nextP_a hl hT (by omega) (by rw [← hp2]; exact hat _) ?_
        rw [hset]
        simp (disch := first | omega | (simp only [go_sem]; try omega)) only [go_sem]
        refine shiftedP_a hl (d := d) (dp := deepF d dp t) t.x (i := i) (j := H.length + 1) (by omega) hT1 (by rw [List.getElem?_append_left (by simpa using hil), List.getElem?_set_self hil]) (by first | ((repeat first | exact at0 (by simp) | refine atS ?_); done) | assumption) (fun y T' dp' h => ?_) (fun e k a s d' dp' cs h => ?_)
        ·have hk := hk1 _ _ _ h
         rw [hset3, hset2]
         simp (disch := first | omega | (simp only [go_sem]; try omega)) only [go_sem]
         exact Ret.nd2 (HOk.set hH (psO_ok _)) (by simp) (encNd_pure y) hk
        ·have hk := hk2 e k a s d' dp' cs h
         rw [hset3]
         simp (disch := first | omega | (simp only [go_sem]; try omega)) only [go_sem]
         exact Ret.drop (HOk.psJ hH) (by simp) trivial hk
     ·rw [if_neg h4] at hk2
      have hp2 : ¬ prK t = 2 := fun h => h4 (hkind.2.1.1 h).1
      have hk := hk2 t.o (prK t) t.o (tB t.x) d dp ndE0 rfl
      simp (disch := first | omega | (simp only [go_sem]; try omega)) only [go_sem, hp2]
      refine failP_a (l := l) (k := prK t) (a := t.o) (x := tB t.x) (d := d) (dp := dp) (bad := -1) (hat _) ?_
      rw [if_pos (by decide), hset]
      simp (disch := first | omega | (simp only [go_sem]; try omega)) only [go_sem]
      exact Ret.drop (HOk.psJ hH) (by simp) trivial hk
end Go.Proofs.YtagoolooikpabaaGreatDoor
namespace Go.Proofs.YtagoolooikpabaaGreatDoor
open Go Go.RowKit
set_option maxRecDepth 100000
set_option maxHeartbeats 2000000
variable {H : Hp} {K : AV → Hp → Prop}
theorem parse_a (l : List UInt8) (hl : l.length ≤ 1000000) (hk1 : ∀ e, parF l = .ok e → K (.tup [.c (.fp (encNd e)), (.c (.int .i64 0)), (.c (.int .i64 0))]) H) (hk2 : ∀ a c, parF l = .error (a, c) → K (.tup [.c (.ptr none), (.c (.int .i64 a)), (.c (.int .i64 c))]) H) : ACalls Tryz.prog 93 [(.c (.str (tB l)))] H K := by
 have hsz := tB_size l
 unfold parF at hk1 hk2
 by_cases h5 : 500 < l.length
 ·rw [if_pos h5] at hk2
  have hk := hk2 0 2 rfl
  refine acalls Tryz.func93 rfl (by kernel_rfl) (by simp (disch := first | omega | (simp only [go_sem]; try omega)) only [go_sem]) (fun hH => ?_)
  simp (disch := first | omega | (simp only [go_sem]; try omega)) only [go_sem, hsz, h5]
  exact Ret.same (Nat.le_refl _) hk
 rw [if_neg h5] at hk1 hk2
 obtain ⟨n, hn⟩ : ∃ n, n = (tokF l 0).length := ⟨_, rfl⟩
 have hnl := (tokF_len l 0).2
 rw [← hn] at hk1 hk2 hnl
 have hT := Tl.top l
 have hat : ∀ X : AObj, (H ++ [X])[H.length]? = some X := fun X => by simp
 have hset : ∀ X Y : AObj, (H ++ [X]).set H.length Y = H ++ [Y] := fun X Y => by simp
 have hfac := compareP_a (d := 0) (by omega) (factor_a (l := l) (by omega) n 0 (by omega) (by omega)) (fact_good l n 0)
 have hcg := comp_good 0 (fact_good l n 0)
 refine acalls Tryz.func93 rfl (by kernel_rfl) (by simp (disch := first | omega | (simp only [go_sem]; try omega)) only [go_sem]) (fun hH => ?_)
 simp (disch := first | omega | (simp only [go_sem]; try omega)) only [go_sem, hsz, h5]
 repeat' (first | ((first | refine acond_d ?_ ?_ | refine acond_b ?_ ?_ | refine ag_d ?_ ?_ | refine ag_n ?_ ?_ | refine ag_bt ?_ ?_ | refine ag_bf ?_ ?_) <;> intro c <;> try simp (disch := first | omega | (simp only [go_sem]; try omega)) only [go_sem, c]) | ((first | refine w_draw (by kernel_rfl) (by decide +kernel) ?_ | refine scan_a l 0 (by omega) (by omega) (fun u T1 hu => ?_)) <;> try simp (disch := first | omega | (simp only [go_sem]; try omega)) only [go_sem]))
 rw [List.drop_zero] at hu
 have e0 : AObj.row 216 7 [[.str (tB l), .int .i64 (prK u), .int .i64 u.o, .str (tB u.x), .int .i64 0, .int .i64 (-1), .int .i64 (-1)]] true = psO l (tokF l 0) 0 (-1) := by rw [hu]; rfl
 rw [e0]
 refine hfac H.length _ _ (tokF l 0) (-1) (hat _) hT (by omega) (fun x T' dp' h => ?_) (fun e k a s d' dp' cs h => ?_)
 ·rw [h] at hk1 hk2
  obtain ⟨g1, g2, g3⟩ := hcg _ _ _ _ _ hT h
  obtain ⟨t, T2, rfl, ht, _⟩ := g2.head
  dsimp only at hk1 hk2
  rw [hset, psO_row]
  have hkd := (prK_k ht).2.2.2
  by_cases h0 : t.k = 0
  ·have hp : prK t = 0 := hkd.2 h0
   rw [if_neg (by simpa using h0)] at hk1 hk2
   by_cases hdp : 0 ≤ dp'
   ·rw [if_pos hdp] at hk2
    have hk := hk2 _ _ rfl
    simp (disch := first | omega | (simp only [go_sem]; try omega)) only [go_sem, hp, hdp]
    refine w_draw (by kernel_rfl) (by decide +kernel) ?_
    simp (disch := first | omega | (simp only [go_sem]; try omega)) only [go_sem]
    exact Ret.drop hH (Nat.le_refl _) (by simp [AV.ok, AV.ok1, AC.ok]) hk
   ·rw [if_neg hdp] at hk1
    have hk := hk1 _ rfl
    simp (disch := first | omega | (simp only [go_sem]; try omega)) only [go_sem, hp, hdp]
    exact Ret.drop hH (Nat.le_refl _) (by simp [AV.ok, AV.ok1, AC.ok]) hk
  ·have hp : ¬ prK t = 0 := fun h => h0 (hkd.1 h)
   rw [if_pos (by simpa using h0)] at hk2
   have hk := hk2 _ _ rfl
   simp (disch := first | omega | (simp only [go_sem]; try omega)) only [go_sem, hp]
   refine failP_a (l := l) (k := prK t) (a := t.o) (x := tB t.x) (d := 0) (dp := dp') (bad := -1) (hat _) ?_
   rw [if_pos (by decide), hset]
   unfold psJ
   have hto : (0 : Int) ≤ (t.o : Int) := by omega
   simp (disch := first | omega | (simp only [go_sem]; try omega)) only [go_sem, hto]
   refine w_draw (by kernel_rfl) (by decide +kernel) ?_
   simp (disch := first | omega | (simp only [go_sem]; try omega)) only [go_sem]
   exact Ret.drop hH (Nat.le_refl _) (by simp [AV.ok, AV.ok1, AC.ok]) hk
 ·rw [h] at hk2
  have hk := hk2 _ _ rfl
  rw [hset, psJ_row]
  simp (disch := first | omega | (simp only [go_sem]; try omega)) only [go_sem]
  refine w_draw (by kernel_rfl) (by decide +kernel) ?_
  simp (disch := first | omega | (simp only [go_sem]; try omega)) only [go_sem]
  exact Ret.drop hH (Nat.le_refl _) (by simp [AV.ok, AV.ok1, AC.ok]) hk
def chkF (l : List UInt8) : Int × Int := match parF l with
 | .ok _ => (0, 0)
 | .error p => p
theorem check_a (l : List UInt8) (hl : l.length ≤ 1000000) (hk : K (.tup [(.c (.int .i64 ((chkF l).1))), (.c (.int .i64 ((chkF l).2)))]) H) : ACalls Tryz.prog 70 [(.c (.str (tB l)))] H K := by
 unfold chkF at hk
 refine acalls Tryz.func70 rfl (by kernel_rfl) (by simp (disch := first | omega | (simp only [go_sem]; try omega)) only [go_sem]) (fun hH => ?_)
 simp (disch := first | omega | (simp only [go_sem]; try omega)) only [go_sem]
 refine parse_a l hl (fun e h => ?_) (fun a c h => ?_)
 ·rw [h] at hk
  simp (disch := first | omega | (simp only [go_sem]; try omega)) only [go_sem]
  exact Ret.same (Nat.le_refl _) hk
 ·rw [h] at hk
  simp (disch := first | omega | (simp only [go_sem]; try omega)) only [go_sem]
  exact Ret.same (Nat.le_refl _) hk
end Go.Proofs.YtagoolooikpabaaGreatDoor
