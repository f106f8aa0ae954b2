/- Several texts in one: The document's parser: tags, factors, and the whole, and what follows. No condition. -/
import Derived.Test.YtagoolooikpabaaGreatDoorHVQrsE
set_option linter.all false
namespace Go.Proofs.YtagoolooikpabaaGreatDoor
open Go Go.RowKit
set_option maxRecDepth 100000
set_option maxHeartbeats 4000000
variable {H : Hp} {K : AV → Hp → Prop}
theorem nameT_a {l : List UInt8} (hl : l.length ≤ 1000) {i : Nat} {d : Int} {t : Tok} {T : List Tok} {dp : Int} (hT : Tl l (t :: T)) (htk : t.k = 2) (hf : ¬ 0 < fnN t.x) (hi : H[i]? = some (psQ (t :: T) d dp (-1)))
  (hk0 : 40 < t.x.length → K (.agg trQ0) (H.set i (psQ (t :: T) d dp t.o)))
  (hk1 : t.x.length ≤ 40 → ∀ y T' dp', shfF t.x d T (deepF d dp t) = .ok (y, T', dp') → K (.agg (encT y)) (H.set i (psQ T' d dp' (-1))))
  (hk2 : t.x.length ≤ 40 → ∀ (e : Nat) (T' : List Tok) (d' dp' : Int) (cs : List AC), shfF t.x d T (deepF d dp t) = .error e → okT cs → K (.agg cs) (H.set i (psQ T' d' dp' e))) : ACalls Tryz.prog 266 [.c (.ptr (some (i, 0, 0)))] H K := by
 have hil := getElem?_lt hi
 have hset0 : ∀ (X : AObj) (G : Hp), (H ++ G).set i X = H.set i X ++ G := fun X G => by rw [List.set_append_left _ _ hil]
 have hat0 : ∀ G : Hp, (H ++ G)[i]? = some (psQ (t :: T) d dp (-1)) := fun G => by rw [List.getElem?_append_left hil]; exact hi
 have hset : ∀ (X Y : AObj) (G : Hp), (H.set i X ++ G).set i Y = H.set i Y ++ G := fun X Y G => by rw [List.set_append_left _ _ (by simpa using hil), List.set_set]
 have hat : ∀ (X : AObj) (G : Hp), (H.set i X ++ G)[i]? = some X := fun X G => by rw [List.getElem?_append_left (by simpa using hil), List.getElem?_set_self hil]
 have hqx : qX t = t.x := by unfold qX; rw [if_neg (by omega)]
 have hqk := qK_k hT.ok
 have htl := hT.ok.1
 have hTT := (hT.next (by omega)).1
 obtain ⟨u, T2, rfl, hu, _⟩ := hTT.head
 have hi' : H[i]? = some (.row 243 4 [[.lst 3 ((t :: u :: T2).map encQ), .int .i64 d, .int .i64 (-1), .int .i64 dp]] true) := hi
 have hf' : ¬ (0 : Int) < (fnN t.x : Int) := by omega
 refine acalls Tryz.func266 rfl (by kernel_rfl) (by simp (disch := first | omega | (simp only [go_sem]; try omega)) only [go_sem]) (fun hH => ?_)
 simp (disch := first | omega | (simp only [go_sem]; try omega)) only [go_sem, hi', hqx]
 refine functionQ_a t.x ?_
 simp (disch := first | omega | (simp only [go_sem]; try omega)) only [go_sem, hf']
 refine keyR_a (tB t.x) (by rw [tB_size]; omega) ?_
 rw [key_tok hT.ok htk]
 by_cases h40 : t.x.length ≤ 40
 ·rw [decide_eq_true h40]
  have hk1 := hk1 h40
  have hk2 := hk2 h40
  unfold shfF at hk1 hk2
  dsimp only at hk1 hk2
  obtain ⟨dp1, hdp1⟩ : ∃ dp1, dp1 = deepF d dp t := ⟨_, rfl⟩
  rw [← hdp1] at hk1 hk2
  simp (disch := first | omega | (simp only [go_sem]; try omega)) only [go_sem]
  refine takeQ_a (t := t) (T := u :: T2) (d := d) (dp := dp) (by simp) (fun h => by have := hqk.1.1 h; omega) (hat0 _) ?_
  rw [hset0, ← hdp1]
  simp (disch := first | omega | (simp only [go_sem]; try omega)) only [go_sem, hqx]
  refine nextQ_a (t := u) (T := T2) (d := d) (dp := dp1) (bad := -1) (hat _ _) ?_
  have h64 := qK_sg hu 64 (by decide) 64 rfl
  by_cases hsg : (sgT u [64]).isSome = true
  ·rw [if_pos hsg] at hk1 hk2
   have hq64 := h64.2 hsg
   have hku := sgT_is hsg
   have hT2 := (hTT.next (by omega)).1
   obtain ⟨v, T3, rfl, hv, _⟩ := hT2.head
   dsimp only at hk1 hk2
   simp (disch := first | omega | (simp only [go_sem]; try omega)) only [go_sem, hq64]
   refine takeQ_a (t := u) (T := v :: T3) (d := d) (dp := dp1) (by simp) (fun h => by rw [hq64] at h; cases h) (hat _ _) ?_
   obtain ⟨dp2, hdp2⟩ : ∃ dp2, dp2 = deepF d dp1 u := ⟨_, rfl⟩
   rw [← hdp2] at hk1 hk2 ⊢
   rw [hset, psQ_row]
   simp (disch := first | omega | (simp only [go_sem]; try omega)) only [go_sem]
   refine smallQ_a hl hv 86400000 (fun n hn => ?_)
   simp (disch := first | omega | (simp only [go_sem]; try omega)) only [go_sem]
   refine nextQ_a (t := v) (T := T3) (d := d) (dp := dp2) (bad := -1) (hat _ _) ?_
   have h110 := (qK_k hv).2.1
   by_cases h1 : v.k = 1
   ·have hq110 := h110.2 h1
    have hqv : qX v = v.x := by unfold qX; rw [if_neg (by omega)]
    rw [if_pos h1] at hk1 hk2
    cases hq : numF v.x 9 with
    | none =>
     have hqs : numF (qX v) 9 = none := by rw [hqv]; exact hq
     rw [hq] at hk2
     have hk := hk2 _ (v :: T3) d dp2 trQ0 rfl ⟨rfl, rfl⟩
     simp (disch := first | omega | (simp only [go_sem]; try omega)) only [go_sem, hq110, hqs]
     refine failQ_a (t := v) (T := T3) (d := d) (dp := dp2) (by rw [← hq110]; exact hat _ _) ?_
     rw [hset]
     simp (disch := first | omega | (simp only [go_sem]; try omega)) only [go_sem]
     exact Ret.drop (HOk.psQ hH) (by simp) (by simp [AV.ok, AV.ok1, AC.ok]) hk
    | some q =>
     obtain rfl := hn q hq (by omega)
     have hqs : numF (qX v) 9 = some n := by rw [hqv]; exact hq
     rw [hq] at hk1 hk2
     dsimp only at hk1 hk2
     by_cases h4 : n ≤ 86400000
     ·rw [if_pos h4] at hk1
      have hk := hk1 _ _ _ rfl
      have hT3 := (hT2.next (by omega)).1
      obtain ⟨w, T4, rfl, hw, _⟩ := hT3.head
      simp (disch := first | omega | (simp only [go_sem]; try omega)) only [go_sem, hq110, h4, hqs]
      refine takeQ_a (t := v) (T := w :: T4) (d := d) (dp := dp2) (by simp) (fun h => by rw [hq110] at h; cases h) (by rw [← hq110]; exact hat _ _) ?_
      rw [hset]
      simp (disch := first | omega | (simp only [go_sem]; try omega)) only [go_sem]
      exact Ret.drop (HOk.psQ hH) (by simp) (by simp [AV.ok, AV.ok1, AC.ok]) hk
     ·rw [if_neg h4] at hk2
      have hk := hk2 _ (v :: T3) d dp2 trQ0 rfl ⟨rfl, rfl⟩
      simp (disch := first | omega | (simp only [go_sem]; try omega)) only [go_sem, hq110, h4, hqs]
      refine failQ_a (t := v) (T := T3) (d := d) (dp := dp2) (by rw [← hq110]; exact hat _ _) ?_
      rw [hset]
      simp (disch := first | omega | (simp only [go_sem]; try omega)) only [go_sem]
      exact Ret.drop (HOk.psQ hH) (by simp) (by simp [AV.ok, AV.ok1, AC.ok]) hk
   ·have hq110 : ¬ qK v = 110 := fun h => h1 (h110.1 h)
    rw [if_neg h1] at hk2
    have hk := hk2 _ (v :: T3) d dp2 trQ0 rfl ⟨rfl, rfl⟩
    simp (disch := first | omega | (simp only [go_sem]; try omega)) only [go_sem, hq110]
    refine failQ_a (t := v) (T := T3) (d := d) (dp := dp2) (hat _ _) ?_
    rw [hset]
    simp (disch := first | omega | (simp only [go_sem]; try omega)) only [go_sem]
    exact Ret.drop (HOk.psQ hH) (by simp) (by simp [AV.ok, AV.ok1, AC.ok]) hk
  ·rw [if_neg hsg] at hk1
   have hq64 : ¬ qK u = 64 := fun h => hsg (h64.1 h)
   have hk := hk1 _ _ _ rfl
   simp (disch := first | omega | (simp only [go_sem]; try omega)) only [go_sem, hq64]
   exact Ret.drop (HOk.psQ hH) (by simp) (by simp [AV.ok, AV.ok1, AC.ok]) hk
 ·rw [decide_eq_false h40]
  have hk := hk0 (by omega)
  simp (disch := first | omega | (simp only [go_sem]; try omega)) only [go_sem]
  refine failQ_a (t := t) (T := u :: T2) (d := d) (dp := dp) (hat0 _) ?_
  rw [hset0]
  simp (disch := first | omega | (simp only [go_sem]; try omega)) only [go_sem]
  exact Ret.drop (HOk.psQ hH) (by simp) (by simp [AV.ok, AV.ok1, AC.ok]) hk
theorem enc1_err {cmp : List Tok → Int → PR Ex} {d dp : Int} {t : Tok} {T1 : List Tok} {e : Nat} (h : (sgT t [40]).isSome = true) (hc : cmp T1 (deepF d dp t) = .error e) : encF cmp d 1 (t :: T1) dp = .error e := by
 unfold encF
 dsimp only
 rw [if_pos h]
 unfold argF
 rw [if_pos rfl]
 dsimp only
 rw [hc]
theorem enc1_ok {cmp : List Tok → Int → PR Ex} {d dp dp' : Int} {t u : Tok} {T1 T3 : List Tok} {x : Ex} (h : (sgT t [40]).isSome = true) (hc : cmp T1 (deepF d dp t) = .ok (x, u :: T3, dp')) : encF cmp d 1 (t :: T1) dp = if (sgT u [41]).isSome = true then .ok ([x], T3, deepF (d + 1) dp' u) else .error u.o := by
 unfold encF
 dsimp only
 rw [if_pos h]
 unfold argF
 rw [if_pos rfl]
 dsimp only
 rw [hc]
 rfl
theorem factorQ_a {l : List UInt8} (hl : l.length ≤ 1000) (i : Nat) : ∀ (n : Nat) (d : Int), 0 ≤ d → d + n ≤ 5000 → RdQ l 223 [.c (.ptr (some (i, 0, 0)))] i noSide n d (factF n d)
 | 0, d, _, _ => by
  intro H K T dp hi hs hT hn hk1 hk2
  obtain ⟨t, T1, rfl, _⟩ := hT.head
  rw [List.length_cons] at hn
  omega
 | n + 1, d, hd0, hd1 => by
  intro H K T dp hi hs hT hn hk1 hk2
  have ih := factorQ_a hl i n
  have hil := getElem?_lt hi
  obtain ⟨t, T1, rfl, ht, _⟩ := hT.head
  rw [List.length_cons] at hn
  have hqk := qK_k ht
  have hset0 : ∀ (X : AObj) (G : Hp), (H ++ G).set i X = H.set i X ++ G := fun X G => by rw [List.set_append_left _ _ hil]
  have hat0 : ∀ G : Hp, (H ++ G)[i]? = some (psQ (t :: T1) d dp (-1)) := fun G => by rw [List.getElem?_append_left hil]; exact hi
  have hset : ∀ (X Y : AObj) (G : Hp), (H.set i X ++ G).set i Y = H.set i Y ++ G := fun X Y G => by rw [List.set_append_left _ _ (by simpa using hil), List.set_set]
  have hat : ∀ (X : AObj) (G : Hp), (H.set i X ++ G)[i]? = some X := fun X G => by rw [List.getElem?_append_left (by simpa using hil), List.getElem?_set_self hil]
  have h45 := qK_sg ht 45 (by decide) 45 rfl
  have h40 := qK_sg ht 40 (by decide) 40 rfl
  have hw1 : IntKind.i64.wrap (d + 1) = d + 1 := by rw [IntKind.wrap_i64]; omega
  have hw2 : IntKind.i64.wrap (d + 1 - 1) = d := by rw [IntKind.wrap_i64]; omega
  unfold factF at hk1 hk2
  have hi' : H[i]? = some (.row 243 4 [[.lst 3 ((t :: T1).map encQ), .int .i64 d, .int .i64 (-1), .int .i64 dp]] true) := hi
  by_cases h1 : (sgT t [45]).isSome = true
  ·rw [if_pos h1] at hk1 hk2
   have hq := h45.2 h1
   have hk3 := sgT_is h1
   have hT1 := (hT.next (by omega)).1
   obtain ⟨dp1, hdp1⟩ : ∃ dp1, dp1 = deepF d dp t := ⟨_, rfl⟩
   rw [← hdp1] at hk1 hk2
   refine acalls Tryz.func223 rfl (by kernel_rfl) (by simp (disch := first | omega | (simp only [go_sem]; try omega)) only [go_sem]) (fun hH => ?_)
   simp (disch := first | omega | (simp only [go_sem]; try omega)) only [go_sem, hi', hq]
   refine takeQ_a (t := t) (T := T1) (d := d) (dp := dp) (tl_ne hT (by omega)) (fun h => by rw [hq] at h; cases h) (hat0 _) ?_
   rw [hset0, ← hdp1, psQ_row]
   simp (disch := first | omega | (simp only [go_sem]; try omega)) only [go_sem, hw1]
   refine ih (d + 1) (by omega) (by omega) _ _ T1 dp1 (hat _ _) trivial hT1 (by omega) (fun x T' dp' h => ?_) (fun e T' d' dp' cs h hcs => ?_)
   ·rw [h] at hk1
    have hk := hk1 _ _ _ rfl
    have h5 := (encT_ok x).1
    have h6 : (encT x).take 5 = encT x := List.take_of_length_le (by omega)
    have hlit := lit1 h5
    rw [hset, psQ_row]
    simp (disch := first | omega | (simp only [go_sem]; try omega)) only [go_sem, hw2, h5, h6, hlit]
    exact Ret.tree (els := [encT x]) (j := 3) (HOk.psQ hH) (by simp) rfl (pureT1 (encT_ok x)) rfl (by simp) hk
   ·rw [h] at hk2
    have h5 := hcs.1
    have h6 : cs.take 5 = cs := List.take_of_length_le (by omega)
    have hlit := lit1 h5
    have hk := hk2 e T' (IntKind.i64.wrap (d' - 1)) dp' [.int .u8 109, .str ⟨#[]⟩, .int .i64 0, .lst 5 [cs], .int .i64 0] rfl ⟨rfl, rfl⟩
    rw [hset, psQ_row]
    simp (disch := first | omega | (simp only [go_sem]; try omega)) only [go_sem, h5, h6, hlit]
    exact Ret.tree (els := [cs]) (j := 3) (HOk.psQ hH) (by simp) rfl (pureT1 hcs) rfl (by simp) hk
  ·rw [if_neg h1] at hk1 hk2
   have hq45 : ¬ qK t = 45 := fun h => h1 (h45.1 h)
   by_cases h2 : t.k = 1
   ·rw [if_pos h2] at hk1 hk2
    have hq := hqk.2.1.2 h2
    have hqv : qX t = t.x := by unfold qX; rw [if_neg (by omega)]
    have hT1 := (hT.next (by omega)).1
    have hxd : ∀ c ∈ t.x, isDg c = true := by
     rcases ht.2.2 with h | h | h | h | h
     ·omega
     ·exact h.2.2
     ·omega
     ·omega
     ·omega
    refine acalls Tryz.func223 rfl (by kernel_rfl) (by simp (disch := first | omega | (simp only [go_sem]; try omega)) only [go_sem]) (fun hH => ?_)
    simp (disch := first | omega | (simp only [go_sem]; try omega)) only [go_sem, hi', hq]
    rw [show [AC.int .u8 110, AC.str (tB (qX t)), AC.int .i64 (t.o : Int)] = encQ t by unfold encQ; rw [hq]]
    refine smallQ_a hl ht 999999999 (fun v hv => ?_)
    cases hn : numF t.x 9 with
    | none =>
     have hqs : numF (qX t) 9 = none := by rw [hqv]; exact hn
     rw [hn] at hk2
     have hk := hk2 t.o (t :: T1) d dp trQ0 rfl ⟨rfl, rfl⟩
     simp (disch := first | omega | (simp only [go_sem]; try omega)) only [go_sem, hqs]
     refine failQ_a (t := t) (T := T1) (d := d) (dp := dp) (hat0 _) ?_
     rw [hset0]
     simp (disch := first | omega | (simp only [go_sem]; try omega)) only [go_sem]
     exact Ret.drop (HOk.psQ hH) (by simp) (by simp [AV.ok, AV.ok1, AC.ok]) hk
    | some q =>
     obtain rfl := hv q hn (by omega)
     have hqs : numF (qX t) 9 = some v := by rw [hqv]; exact hn
     have hb := num_tok hxd hn
     have hle : v ≤ 999999999 := by omega
     rw [hn] at hk1
     have hk := hk1 _ _ _ rfl
     simp (disch := first | omega | (simp only [go_sem]; try omega)) only [go_sem, hle, hqs]
     refine takeQ_a (t := t) (T := T1) (d := d) (dp := dp) (tl_ne hT (by omega)) (fun h => by rw [hq] at h; cases h) (hat0 _) ?_
     rw [hset0]
     simp (disch := first | omega | (simp only [go_sem]; try omega)) only [go_sem]
     exact Ret.drop (HOk.psQ hH) (by simp) (by simp [AV.ok, AV.ok1, AC.ok]) hk
   ·rw [if_neg h2] at hk1 hk2
    have hq110 : ¬ qK t = 110 := fun h => h2 (hqk.2.1.1 h)
    by_cases h3 : (sgT t [40]).isSome = true
    ·rw [if_pos h3] at hk1 hk2
     have hq := h40.2 h3
     have hk3 := sgT_is h3
     have hT1 := (hT.next (by omega)).1
     have hcg := comp_good (d + 1) (fact_good l n (d + 1))
     obtain ⟨dp1, hdp1⟩ : ∃ dp1, dp1 = deepF d dp t := ⟨_, rfl⟩
     refine acalls Tryz.func223 rfl (by kernel_rfl) (by simp (disch := first | omega | (simp only [go_sem]; try omega)) only [go_sem]) (fun hH => ?_)
     simp (disch := first | omega | (simp only [go_sem]; try omega)) only [go_sem, hi', hq]
     refine takeQ_a (t := t) (T := T1) (d := d) (dp := dp) (tl_ne hT (by omega)) (fun h => by rw [hq] at h; cases h) (hat0 _) ?_
     rw [hset0, ← hdp1, psQ_row]
     simp (disch := first | omega | (simp only [go_sem]; try omega)) only [go_sem, hw1]
     refine compareQ_a hl (ih (d + 1) (by omega) (by omega)) (fact_good l n (d + 1)) _ _ T1 dp1 (hat _ _) trivial hT1 (by omega) (fun x T' dp' h => ?_) (fun e T' d' dp' cs h hcs => ?_)
     ·obtain ⟨g1, g2, g3⟩ := hcg _ _ _ _ _ hT1 h
      obtain ⟨u, T3, rfl, hu, _⟩ := g2.head
      rw [hdp1] at h
      have he := enc1_ok h3 h
      have h5 := (encT_ok x).1
      have h6 : (encT x).take 5 = encT x := List.take_of_length_le (by omega)
      rw [hset, psQ_row]
      simp (disch := first | omega | (simp only [go_sem]; try omega)) only [go_sem, hw2, h5, h6]
      by_cases hc : (sgT u [41]).isSome = true
      ·rw [if_pos hc] at he
       rw [he] at hk1
       have hk := hk1 _ _ _ rfl
       refine closeQ_ok (t := u) (T := T3) (d := d) (dp := dp') ⟨by omega, by omega⟩ g2 hc (hat _ _) ?_
       rw [hset]
       simp (disch := first | omega | (simp only [go_sem]; try omega)) only [go_sem, h5, h6]
       exact Ret.drop (HOk.psQ hH) (by simp) ((encT_ok x).ok _) hk
      ·have hc' : (sgT u [41]).isSome = false := by simpa using hc
       rw [if_neg hc] at he
       rw [he] at hk2
       have hk := hk2 u.o (u :: T3) d dp' (encT x) rfl (encT_ok x)
       refine closeQ_no (t := u) (T := T3) (d := d) (dp := dp') ⟨by omega, by omega⟩ hu hc' (hat _ _) ?_
       rw [hset]
       simp (disch := first | omega | (simp only [go_sem]; try omega)) only [go_sem, h5, h6]
       exact Ret.drop (HOk.psQ hH) (by simp) ((encT_ok x).ok _) hk
     ·rw [hdp1] at h
      have he := enc1_err h3 h
      rw [he] at hk2
      have h5 := hcs.1
      have h6 : cs.take 5 = cs := List.take_of_length_le (by omega)
      have hk := fun d'' => hk2 e T' d'' dp' cs rfl hcs
      rw [hset, psQ_row]
      simp (disch := first | omega | (simp only [go_sem]; try omega)) only [go_sem, h5, h6]
      refine closeQ_bad (T := T') (d := IntKind.i64.wrap (d' - 1)) (dp := dp') (e := e) (hat _ _) (fun d'' => ?_)
      rw [hset]
      simp (disch := first | omega | (simp only [go_sem]; try omega)) only [go_sem, h5, h6]
      exact Ret.drop (HOk.psQ hH) (by simp) (hcs.ok _) (hk d'')
    ·rw [if_neg h3] at hk1 hk2
     have hq40 : ¬ qK t = 40 := fun h => h3 (h40.1 h)
     by_cases h4 : t.k = 2
     ·rw [if_pos h4] at hk1 hk2
      have hq := hqk.2.2.1.2 h4
      have hT1 := (hT.next (by omega)).1
      refine acalls Tryz.func223 rfl (by kernel_rfl) (by simp (disch := first | omega | (simp only [go_sem]; try omega)) only [go_sem]) (fun hH => ?_)
      simp (disch := first | omega | (simp only [go_sem]; try omega)) only [go_sem, hi', hq]
      by_cases h5 : 0 < fnN t.x
      ·rw [if_pos h5] at hk1 hk2
       refine nameF_a hl (n := n) ⟨by omega, by omega⟩ (compareQ_a hl (ih (d + 1) (by omega) (by omega)) (fact_good l n (d + 1))) (comp_good (d + 1) (fact_good l n (d + 1))) hT h4 h5 (by omega) (hat0 _) (fun L T' dp' h => ?_) (fun e T' d' dp' cs h hcs => ?_)
       ·rw [h] at hk1
        have hk := hk1 _ _ _ rfl
        have h7 := (encT_ok (mkFn t.x L)).1
        have h6 : (encT (mkFn t.x L)).take 5 = encT (mkFn t.x L) := List.take_of_length_le (by omega)
        rw [hset0]
        simp (disch := first | omega | (simp only [go_sem]; try omega)) only [go_sem, h7, h6]
        exact Ret.drop (HOk.psQ hH) (by simp) ((encT_ok _).ok _) hk
       ·rw [h] at hk2
        have hk := hk2 e T' d' dp' cs rfl hcs
        have h7 := hcs.1
        have h6 : cs.take 5 = cs := List.take_of_length_le (by omega)
        rw [hset0]
        simp (disch := first | omega | (simp only [go_sem]; try omega)) only [go_sem, h7, h6]
        exact Ret.drop (HOk.psQ hH) (by simp) (hcs.ok _) hk
      ·rw [if_neg h5] at hk1 hk2
       refine nameT_a hl hT h4 h5 (hat0 _) (fun h40 => ?_) (fun h40 y T' dp' h => ?_) (fun h40 e T' d' dp' cs h hcs => ?_)
       ·rw [if_pos h40] at hk2
        have hk := hk2 t.o (t :: T1) d dp trQ0 rfl ⟨rfl, rfl⟩
        rw [hset0]
        simp (disch := first | omega | (simp only [go_sem]; try omega)) only [go_sem]
        exact Ret.drop (HOk.psQ (T := t :: T1) (d := d) (dp := dp) (bad := t.o) hH) (by simp) (by simp [AV.ok, AV.ok1, AC.ok]) hk
       ·rw [if_neg (by omega)] at hk1
        have hk := hk1 _ _ _ h
        have h7 := (encT_ok y).1
        have h6 : (encT y).take 5 = encT y := List.take_of_length_le (by omega)
        rw [hset0]
        simp (disch := first | omega | (simp only [go_sem]; try omega)) only [go_sem, h7, h6]
        exact Ret.drop (HOk.psQ hH) (by simp) ((encT_ok _).ok _) hk
       ·rw [if_neg (by omega)] at hk2
        have hk := hk2 e T' d' dp' cs h hcs
        have h7 := hcs.1
        have h6 : cs.take 5 = cs := List.take_of_length_le (by omega)
        rw [hset0]
        simp (disch := first | omega | (simp only [go_sem]; try omega)) only [go_sem, h7, h6]
        exact Ret.drop (HOk.psQ hH) (by simp) (hcs.ok _) hk
     ·rw [if_neg h4] at hk2
      have hq119 : ¬ qK t = 119 := fun h => h4 (hqk.2.2.1.1 h)
      have hk := hk2 t.o (t :: T1) d dp trQ0 rfl ⟨rfl, rfl⟩
      refine acalls Tryz.func223 rfl (by kernel_rfl) (by simp (disch := first | omega | (simp only [go_sem]; try omega)) only [go_sem]) (fun hH => ?_)
      simp (disch := first | omega | (simp only [go_sem]; try omega)) only [go_sem, hi', hq45, hq110, hq40, hq119]
      refine failQ_a (t := t) (T := T1) (d := d) (dp := dp) (hat0 _) ?_
      rw [hset0]
      simp (disch := first | omega | (simp only [go_sem]; try omega)) only [go_sem]
      exact Ret.drop (HOk.psQ (T := t :: T1) (d := d) (dp := dp) (bad := t.o) hH) (by simp) (by simp [AV.ok, AV.ok1, AC.ok]) hk
end Go.Proofs.YtagoolooikpabaaGreatDoor
namespace Go.Proofs.YtagoolooikpabaaGreatDoor
open Go Go.RowKit
set_option maxRecDepth 100000
set_option maxHeartbeats 4000000
variable {H : Hp} {K : AV → Hp → Prop}
theorem parsedQ_a (l : List UInt8) (hl : l.length ≤ 1000000) (hk1 : ∀ e, parF l = .ok e → K (.tup [.agg (encT e), (.c (.int .i64 0)), (.c (.int .i64 0))]) H) (hk2 : ∀ a c, parF l = .error (a, c) → K (.tup [.agg zT, (.c (.int .i64 a)), (.c (.int .i64 c))]) H) : ACalls Tryz.prog 114 [(.c (.str (tB l)))] H K := by
 have hsz := tB_size l
 unfold parF at hk1 hk2
 by_cases h5 : 500 < l.length
 ·rw [if_pos h5] at hk2
  have hk := hk2 0 2 rfl
  refine acalls Tryz.func114 rfl (by kernel_rfl) (by simp (disch := first | omega | (simp only [go_sem]; try omega)) only [go_sem]) (fun hH => ?_)
  simp (disch := first | omega | (simp only [go_sem]; try omega)) only [go_sem, hsz, h5]
  exact Ret.drop hH (Nat.le_refl _) (by simp [AV.ok, AV.ok1, AC.ok]) hk
 rw [if_neg h5] at hk1 hk2
 obtain ⟨n, hn⟩ : ∃ n, n = (tokF l 0).length := ⟨_, rfl⟩
 have hnl := (tokF_len l 0).2
 rw [← hn] at hk1 hk2 hnl
 have hT := Tl.top l
 have hat : ∀ (X Y : AObj) (G : Hp), (H ++ (Y :: X :: G))[H.length + 1]? = some X := fun X Y G => by rw [List.getElem?_append_right (by omega)]; simp
 have hset : ∀ (X Y Z : AObj) (G : Hp), (H ++ (Y :: X :: G)).set (H.length + 1) Z = H ++ (Y :: Z :: G) := fun X Y Z G => by rw [List.set_append_right _ _ (by omega)]; simp
 have hcg := comp_good 0 (fact_good l n 0)
 refine acalls Tryz.func114 rfl (by kernel_rfl) (by simp (disch := first | omega | (simp only [go_sem]; try omega)) only [go_sem]) (fun hH => ?_)
 simp (disch := first | omega | (simp only [go_sem]; try omega)) only [go_sem, hsz, h5]
 refine tokensQ_a l (by omega) ?_
 simp (disch := first | omega | (simp only [go_sem]; try omega)) only [go_sem]
 refine compareQ_a (i := H.length + 1) (by omega) (factorQ_a (l := l) (by omega) (H.length + 1) n 0 (by omega) (by omega)) (fact_good l n 0) _ _ (tokF l 0) (-1) (hat _ _ _) trivial hT (by omega) (fun x T' dp' h => ?_) (fun e T' d' dp' cs h hcs => ?_)
 ·rw [h] at hk1 hk2
  obtain ⟨g1, g2, g3⟩ := hcg _ _ _ _ _ hT h
  obtain ⟨t, T2, rfl, ht, _⟩ := g2.head
  dsimp only at hk1 hk2
  have h7 := (encT_ok x).1
  have h6 : (encT x).take 5 = encT x := List.take_of_length_le (by omega)
  have hq := (qK_k ht).1
  rw [hset, psQ_row]
  simp (disch := first | omega | (simp only [go_sem]; try omega)) only [go_sem, h6, h7]
  refine nextQ_a (t := t) (T := T2) (d := 0) (dp := dp') (bad := -1) (hat _ _ _) ?_
  by_cases h0 : t.k = 0
  ·have hp : qK t = 36 := hq.2 h0
   rw [if_neg (by simpa using h0)] at hk1 hk2
   by_cases hdp : 0 ≤ dp'
   ·rw [if_pos hdp] at hk2
    have hk := hk2 _ _ rfl
    simp (disch := first | omega | (simp only [go_sem]; try omega)) only [go_sem, hp, hdp]
    refine w_tree (.one 0 (.one 1 (.one 2 (.one 3 (.two 4 (.one 5 (.one 6 (.one 7 .done))) 5 (.one 4 (.one 6 (.one 7 .done)))))))) (by kernel_rfl) (by decide +kernel) ?_
    simp (disch := first | omega | (simp only [go_sem]; try omega)) only [go_sem]
    all_goals (repeat' apply And.intro)
    all_goals try simp (disch := first | omega | (simp only [go_sem]; try omega)) only [go_sem]
    all_goals (repeat' apply And.intro)
    all_goals try simp (disch := first | omega | (simp only [go_sem]; try omega)) only [go_sem]
    all_goals exact Ret.drop hH (Nat.le_refl _) (by simp [AV.ok, AV.ok1, AC.ok]) hk
   ·rw [if_neg hdp] at hk1
    have hk := hk1 _ rfl
    simp (disch := first | omega | (simp only [go_sem]; try omega)) only [go_sem, hp, hdp, h6, h7]
    refine Ret.drop hH (Nat.le_refl _) ?_ hk
    intro z hz
    simp only [List.mem_cons, List.not_mem_nil, or_false] at hz
    rcases hz with rfl | rfl | rfl
    ·exact (encT_ok x).ok _
    ·trivial
    ·trivial
  ·have hp : ¬ qK t = 36 := fun h => h0 (hq.1 h)
   rw [if_pos (by simpa using h0)] at hk2
   have hk := hk2 _ _ rfl
   simp (disch := first | omega | (simp only [go_sem]; try omega)) only [go_sem, hp]
   refine failQ_a (t := t) (T := T2) (d := 0) (dp := dp') (hat _ _ _) ?_
   rw [hset, psQ_row]
   have hto : (0 : Int) ≤ (t.o : Int) := by omega
   simp (disch := first | omega | (simp only [go_sem]; try omega)) only [go_sem, hto]
   refine w_tree (.one 0 (.one 1 (.one 2 (.one 3 (.two 4 (.one 5 (.one 6 (.one 7 .done))) 5 (.one 4 (.one 6 (.one 7 .done)))))))) (by kernel_rfl) (by decide +kernel) ?_
   simp (disch := first | omega | (simp only [go_sem]; try omega)) only [go_sem]
   all_goals (repeat' apply And.intro)
   all_goals try simp (disch := first | omega | (simp only [go_sem]; try omega)) only [go_sem]
   all_goals (repeat' apply And.intro)
   all_goals try simp (disch := first | omega | (simp only [go_sem]; try omega)) only [go_sem]
   all_goals exact Ret.drop hH (Nat.le_refl _) (by simp [AV.ok, AV.ok1, AC.ok]) hk
 ·rw [h] at hk2
  have hk := hk2 _ _ rfl
  have h7 := hcs.1
  have h6 : cs.take 5 = cs := List.take_of_length_le (by omega)
  rw [hset, psQ_row]
  simp (disch := first | omega | (simp only [go_sem]; try omega)) only [go_sem, h6, h7]
  refine w_tree (.one 0 (.one 1 (.one 2 (.one 3 (.two 4 (.one 5 (.one 6 (.one 7 .done))) 5 (.one 4 (.one 6 (.one 7 .done)))))))) (by kernel_rfl) (by decide +kernel) ?_
  simp (disch := first | omega | (simp only [go_sem]; try omega)) only [go_sem]
  all_goals (repeat' apply And.intro)
  all_goals try simp (disch := first | omega | (simp only [go_sem]; try omega)) only [go_sem]
  all_goals (repeat' apply And.intro)
  all_goals try simp (disch := first | omega | (simp only [go_sem]; try omega)) only [go_sem]
  all_goals exact Ret.drop hH (Nat.le_refl _) (by simp [AV.ok, AV.ok1, AC.ok]) hk
theorem checkOf_a (l : List UInt8) (hl : l.length ≤ 1000000) (hk : K (.tup [(.c (.int .i64 ((chkF l).1))), (.c (.int .i64 ((chkF l).2)))]) H) : ACalls Tryz.prog 60 [(.c (.str (tB l)))] H K := by
 unfold chkF at hk
 refine acalls Tryz.func60 rfl (by kernel_rfl) (by simp (disch := first | omega | (simp only [go_sem]; try omega)) only [go_sem]) (fun hH => ?_)
 simp (disch := first | omega | (simp only [go_sem]; try omega)) only [go_sem]
 refine parsedQ_a l hl (fun e h => ?_) (fun a c h => ?_)
 ·rw [h] at hk
  have h7 := (encT_ok e).1
  simp (disch := first | omega | (simp only [go_sem]; try omega)) only [go_sem, h7]
  exact Ret.drop hH (Nat.le_refl _) (by simp [AV.ok, AV.ok1, AC.ok]) hk
 ·rw [h] at hk
  simp (disch := first | omega | (simp only [go_sem]; try omega)) only [go_sem]
  exact Ret.drop hH (Nat.le_refl _) (by simp [AV.ok, AV.ok1, AC.ok]) hk
end Go.Proofs.YtagoolooikpabaaGreatDoor
