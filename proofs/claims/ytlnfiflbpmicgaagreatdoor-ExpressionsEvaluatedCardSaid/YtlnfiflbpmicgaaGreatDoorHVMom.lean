/- The moments at which an expression can change: logref2.momentsOf. Condition: the series are right and not long. -/
import Derived.Test.YtlnfiflbpmicgaaGreatDoorHVEwd
import Derived.Test.YtlnfiflbpmicgaaGreatDoorHVTgsQ
import Derived.Test.YtlnfiflbpmicgaaGreatDoorHVSrI
set_option linter.all false
namespace Go.Proofs.YtlnfiflbpmicgaaGreatDoor
open Go Go.RowKit
set_option maxRecDepth 100000
set_option maxHeartbeats 4000000
variable {H : Hp} {K : AV → Hp → Prop}
def shM (w : Win) (s : Int) (l : List Smp) : List Int := (l.filter fun y => decide (w.a ≤ y.t + s ∧ y.t + s < w.b)).map fun y => y.t + s
theorem shM_app (w : Win) (s : Int) (a b : List Smp) : shM w s (a ++ b) = shM w s a ++ shM w s b := by unfold shM; rw [List.filter_append, List.map_append]
theorem shM_one (w : Win) (s : Int) (y : Smp) : shM w s [y] = if w.a ≤ y.t + s ∧ y.t + s < w.b then [y.t + s] else [] := by
  unfold shM
  by_cases h : w.a ≤ y.t + s ∧ y.t + s < w.b
  · rw [if_pos h, List.filter_cons_of_pos (by simpa using h)]; rfl
  · rw [if_neg h, List.filter_cons_of_neg (by simpa using h)]; rfl
theorem shM_len (w : Win) (s : Int) (l : List Smp) : (shM w s l).length ≤ l.length := by unfold shM; rw [List.length_map]; exact List.length_filter_le _ _
def leafM (cs : List Cal) (ss : List Ser) (w : Win) (sh : Int) : Ex → List Int
  | .tag t s => if nC cs (tB t) then shM w (sh + max 0 (s.getD (-1))) (serL ss (tB t)) else []
  | _ => []
def momQ (cs : List Cal) (ss : List Ser) (w : Win) (sh : Int) (e : Ex) : List Int := (if w.a < w.b then [w.a] else []) ++ (leafX e).flatMap (leafM cs ss w sh)
theorem flat_le {α β : Type} (f : α → List β) (n : Nat) : ∀ l : List α, (∀ x ∈ l, (f x).length ≤ n) → (l.flatMap f).length ≤ n * l.length
  | [], _ => by simp
  | x :: l, h => by
    have h1 := h x (List.mem_cons_self ..)
    have h2 := flat_le f n l fun y hy => h y (List.mem_cons_of_mem _ hy)
    rw [List.flatMap_cons, List.length_append, List.length_cons, Nat.mul_succ]
    omega
theorem flat_take {α β : Type} (f : α → List β) (l : List α) (k : Nat) (h : k < l.length) : (l.take (k + 1)).flatMap f = (l.take k).flatMap f ++ f l[k] := by
  rw [List.take_succ_eq_append_getElem h, List.flatMap_append]
  simp
theorem serL_split (l : List Ser) (t : ByteArray) (k : Nat) : (serL (l.take k) t).length ≤ (serL l t).length := by
  have : serL l t = serL (l.take k) t ++ serL (l.drop k) t := by
    conv => lhs; rw [← List.take_append_drop k l]
    unfold serL
    rw [List.filter_append, List.map_append, List.flatten_append]
  rw [this, List.length_append]
  omega
theorem pre_app {H G : Hp} (h : ∀ i, i < H.length → G[i]? = H[i]?) (hl : H.length ≤ G.length) : G = H ++ G.drop H.length := by
  refine List.ext_getElem? fun i => ?_
  by_cases hi : i < H.length
  · rw [h i hi, List.getElem?_append_left hi]
  · rw [List.getElem?_append_right (by omega), List.getElem?_drop, show H.length + (i - H.length) = i by omega]
theorem leafX_ok : ∀ e : Ex, ExOk e → ∀ x ∈ leafX e, ExOk x
  | .num _, _, x, h => by cases h
  | .tag t s, he, x, h => by rw [List.mem_singleton.1 h]; exact he
  | .neg a, he, x, h => leafX_ok a he x h
  | .bin _ a b, he, x, h => by
    rcases List.mem_append.1 h with h | h
    · exact leafX_ok a he.2.1 x h
    · exact leafX_ok b he.2.2 x h
  | .f1 _ a, he, x, h => leafX_ok a he.2 x h
  | .f2 _ a b, he, x, h => by
    rcases List.mem_append.1 h with h | h
    · exact leafX_ok a he.2.1 x h
    · exact leafX_ok b he.2.2 x h
  | .f3 _ a b c, he, x, h => by
    rcases List.mem_append.1 h with h | h
    · exact leafX_ok a he.2.1 x h
    · rcases List.mem_append.1 h with h | h
      · exact leafX_ok b he.2.2.1 x h
      · exact leafX_ok c he.2.2.2 x h
structure KeepX (G0 G : Hp) (j0 j : Nat) (L : List Int) : Prop where
  keep : ∀ i, i < G0.length → i ≠ j0 → G[i]? = G0[i]?
  row : G[j]? = some (grO 3 1 (L.map encI))
  pos : j = j0 ∨ G0.length ≤ j
  len : G0.length ≤ G.length
theorem KeepX.refl {G : Hp} {j : Nat} {L : List Int} (h : G[j]? = some (grO 3 1 (L.map encI))) : KeepX G G j j L := ⟨fun _ _ _ => rfl, h, .inl rfl, Nat.le_refl _⟩
theorem KeepX.app {G0 G : Hp} {j0 j : Nat} {L : List Int} (h : KeepX G0 G j0 j L) (A : Hp) : KeepX G0 (G ++ A) j0 j L := by
  have h1 := getElem?_lt h.row
  have h2 := h.len
  exact ⟨fun i hi hn => by rw [List.getElem?_append_left (by omega)]; exact h.keep i hi hn, by rw [List.getElem?_append_left h1]; exact h.row, h.pos, by rw [List.length_append]; omega⟩
theorem KeepX.push {G0 G : Hp} {j0 j : Nat} {L L2 : List Int} (h : KeepX G0 G j0 j L) : KeepX G0 (G.set j .dead ++ [grO 3 1 (L2.map encI)]) j0 G.length L2 := by
  have h1 := getElem?_lt h.row
  have h2 := h.len
  refine ⟨fun i hi hn => ?_, ?_, .inr h2, by simp; omega⟩
  · have : j ≠ i := by rcases h.pos with e | e <;> omega
    rw [List.getElem?_append_left (by simp; omega), List.getElem?_set_ne this]
    exact h.keep i hi hn
  · rw [List.getElem?_append_right (by simp), List.length_set, Nat.sub_self]; rfl
theorem KeepX.trans {G0 G1 G2 : Hp} {j0 j1 j2 : Nat} {L1 L2 : List Int} (h : KeepX G0 G1 j0 j1 L1) (g : KeepX G1 G2 j1 j2 L2) : KeepX G0 G2 j0 j2 L2 := by
  have h2 := h.len
  have g2 := g.len
  refine ⟨fun i hi hn => ?_, g.row, ?_, by omega⟩
  · have : i ≠ j1 := by rcases h.pos with e | e <;> omega
    rw [g.keep i (by omega) this]
    exact h.keep i hi hn
  · rcases g.pos with e | e
    · rw [e]; exact h.pos
    · exact .inr (by omega)
theorem momentsOf_a (cs : List Cal) (hcl : cs.length ≤ 1000) (ss : List Ser) (hss : slF ss = 0) (hsl : ∀ t, (serL ss t).length ≤ 1000) (e : Ex) (he : ExOk e) (hsz : szE e ≤ 501) (sh : Int) (hsh : 0 ≤ sh ∧ sh ≤ 1000000000000) (w : Win) (hk : K (.c (.lst 1 ((cplF (srtI (momQ cs ss w sh e))).map encI))) H) :
    ACalls Tryz.prog 88 [.c (.lst 2 (cs.map encCl)), .c (.lst 2 (ss.map encSr)), .agg (encT e), (.c (.int .i64 sh)), .agg (encW w)] H K := by
  obtain ⟨s1, s2, s3⟩ := slF_ok hss
  have hxl := leafX_len e
  have hxt := leafX_tag e
  have hlm : ∀ x, (leafM cs ss w sh x).length ≤ 1000 := fun x => by
    unfold leafM
    split
    · split
      · exact Nat.le_trans (shM_len _ _ _) (hsl _)
      · exact Nat.zero_le _
    · exact Nat.zero_le _
  obtain ⟨B, hB⟩ : ∃ B : List Int, B = if w.a < w.b then [w.a] else [] := ⟨_, rfl⟩
  have hBl : B.length ≤ 1 := by rw [hB]; split <;> simp
  unfold momQ at hk
  rw [← hB] at hk
  obtain ⟨X, hX⟩ : ∃ X, X = leafX e := ⟨_, rfl⟩
  rw [← hX] at hk hxl hxt
  have hsx : ∀ t sx, Ex.tag t sx ∈ X → -1 ≤ sx.getD (-1) ∧ sx.getD (-1) ≤ 86400000 := fun t sx h => by
    have := leafX_ok e he _ (hX ▸ h)
    cases sx with
    | none => exact ⟨by decide, by decide⟩
    | some n => have := this.2 n rfl; exact ⟨by show -1 ≤ n; omega, by show n ≤ _; omega⟩
  have hfl : ∀ k, ((X.take k).flatMap (leafM cs ss w sh)).length ≤ 501000 := fun k => by
    have := flat_le (leafM cs ss w sh) 1000 (X.take k) (fun x _ => hlm x)
    have : (X.take k).length ≤ 501 := by rw [List.length_take]; omega
    omega
  refine acalls Tryz.func88 rfl (by kernel_rfl) (by simp (disch := first | omega | (simp only [go_sem]; try omega)) only [go_sem]) (fun hH => ?_)
  simp (disch := first | omega | (simp only [go_sem]; try omega)) only [go_sem]
  by_cases hw : w.a < w.b
  · simp (disch := first | omega | (simp only [go_sem]; try omega)) only [go_sem, hw]
    refine app_sl ?_
    simp (disch := first | omega | (simp only [go_sem]; try omega)) only [go_sem, hw, encT_l, encT_t]
    refine leaves_a 501 e hsz (by omega) he ?_
    rw [← hX]
    simp (disch := first | omega | (simp only [go_sem]; try omega)) only [go_sem, encT_l, encT_t]
    refine AWp.loop (H.length + 2) [0, 1, 3, 9, 30, 31] [32, 11] (fun (s : Nat × Nat × Hp) => s.1 ≤ X.length ∧ KeepX (H ++ [.row 118 5 [encT e] true, .row 31 2 [encW w] true]) s.2.2 (H.length + 2) s.2.1 (B ++ (X.take s.1).flatMap (leafM cs ss w sh))) (fun (s : Nat × Nat × Hp) => [(32, (.c (.int .i64 (s.1)))), (11, .c (grV s.2.1 (B ++ (X.take s.1).flatMap (leafM cs ss w sh))))]) (fun (s : Nat × Nat × Hp) => s.2.2) (fun (s : Nat × Nat × Hp) => X.length - s.1) (by kernel_rfl) (fun _ => rfl) (by kernel_rfl) (by first | (simp; done) | omega) (by first | (simp; done) | (simp; omega) | omega) kl ?_ (fun s hs _ _ => ?_)
    · refine Next.mk (0, H.length + 3, H ++ [.row 118 5 [encT e] true, .row 31 2 [encW w] true, .row 3 1 [[.int .i64 w.a]] true, .row 3 1 [[.int .i64 w.a]] true]) ⟨by dsimp only; omega, ?_⟩ ?_
      · dsimp only
        rw [hB, if_pos hw]
        refine ⟨fun i hi hn => ?_, by simp [grO]; rfl, .inr (by simp), by simp⟩
        rw [show H ++ [.row 118 5 [encT e] true, .row 31 2 [encW w] true, .row 3 1 [[.int .i64 w.a]] true, .row 3 1 [[.int .i64 w.a]] true] = (H ++ [.row 118 5 [encT e] true, .row 31 2 [encW w] true]) ++ [.row 3 1 [[.int .i64 w.a]] true, .row 3 1 [[.int .i64 w.a]] true] by simp]
        exact List.getElem?_append_left hi
      · rw [hB, if_pos hw]
        exact wk
    · obtain ⟨k, j, G⟩ := s
      obtain ⟨hk1, hK⟩ := hs
      dsimp only at hk1 hK ⊢
      have hwb : G[H.length + 1]? = some (.row 31 2 [encW w] true) := by rw [hK.keep _ (by simp) (by omega)]; simp
      have hGl : H.length + 2 ≤ G.length := by have := hK.len; simpa using this
      have hrow := hK.row
      have hjl := getElem?_lt hrow
      have hpj : H.length + 2 ≤ j := by
        rcases hK.pos with e | e
        · omega
        · simpa using e
      by_cases hlt : k < X.length
      · obtain ⟨t, sx, hx⟩ := hxt X[k] (List.getElem_mem hlt)
        have hft := flat_take (leafM cs ss w sh) X k hlt
        have hfk := hfl k
        rw [hx] at hft
        generalize (X.take k).flatMap (leafM cs ss w sh) = L0 at *
        obtain ⟨BL, hBL⟩ : ∃ BL, BL = B ++ L0 := ⟨_, rfl⟩
        have hBLl : BL.length ≤ 501001 := by rw [hBL, List.length_append]; omega
        rw [← hBL] at hrow hK ⊢
        have hxe : encT (.tag t sx) = [.int .u8 119, .str (tB t), .int .i64 0, .sl none 0, .int .i64 (sx.getD (-1))] := rfl
        have hsb : -1 ≤ sx.getD (-1) ∧ sx.getD (-1) ≤ 86400000 := hsx t sx (hx ▸ List.getElem_mem hlt)
        obtain ⟨S, hS⟩ : ∃ S, S = sh + max 0 (sx.getD (-1)) := ⟨_, rfl⟩
        have hSb : 0 ≤ S ∧ S ≤ 1100000000000 := by omega
        obtain ⟨P, hP⟩ : ∃ P : List Smp → List Int, P = fun l => if nC cs (tB t) then shM w S l else [] := ⟨_, rfl⟩
        have hPa : ∀ a b, P (a ++ b) = P a ++ P b := fun a b => by
          rw [hP]; dsimp only; split
          · exact shM_app _ _ _ _
          · rfl
        have hPl : leafM cs ss w sh (.tag t sx) = P (serL ss (tB t)) := by rw [hP, hS]; rfl
        have hPo : ∀ z : Smp, P [z] = if nC cs (tB t) ∧ w.a ≤ z.t + S ∧ z.t + S < w.b then [z.t + S] else [] := fun z => by
          rw [hP]; dsimp only
          by_cases h : nC cs (tB t)
          · rw [if_pos h, shM_one]
            by_cases h2 : w.a ≤ z.t + S ∧ z.t + S < w.b
            · rw [if_pos h2, if_pos ⟨h, h2⟩]
            · rw [if_neg h2, if_neg (fun e => h2 e.2)]
          · rw [if_neg h, if_neg (fun e => h e.1)]
        have hP0 : P [] = [] := by rw [hP]; dsimp only; split <;> rfl
        have hPn : ∀ l, (P l).length ≤ l.length := fun l => by
          rw [hP]; dsimp only; split
          · exact shM_len _ _ _
          · exact Nat.zero_le _
        rw [hPl] at hft
        simp (disch := first | omega | (simp only [go_sem]; try omega)) only [go_sem, hlt, hx, hwb, hxe, ← hS]
        refine AWp.loop (G.length + 1) [0, 1, 3, 9, 13, 14, 30, 31, 32, 41, 42] [43, 11] (fun (q : Nat × Nat × Hp) => q.1 ≤ ss.length ∧ KeepX (G ++ [.row 118 5 [encT (.tag t sx)] true]) q.2.2 j q.2.1 (BL ++ P (serL (ss.take q.1) (tB t)))) (fun (q : Nat × Nat × Hp) => [(43, (.c (.int .i64 (q.1)))), (11, .c (grV q.2.1 (BL ++ P (serL (ss.take q.1) (tB t)))))]) (fun (q : Nat × Nat × Hp) => q.2.2) (fun (q : Nat × Nat × Hp) => ss.length - q.1) (by kernel_rfl) (fun _ => rfl) (by kernel_rfl) (by first | (simp; done) | omega) (by first | (simp; done) | (simp; omega) | omega) kl ?_ (fun q hq _ _ => ?_)
        · refine Next.mk (0, j, G ++ [.row 118 5 [encT (.tag t sx)] true]) ⟨by dsimp only; omega, ?_⟩ ?_
          · dsimp only
            rw [List.take_zero, show serL [] (tB t) = [] from rfl, hP0, List.append_nil]
            exact KeepX.refl (by rw [List.getElem?_append_left hjl]; exact hrow)
          · rw [List.take_zero, show serL [] (tB t) = [] from rfl, hP0, List.append_nil]
            exact wk
        · obtain ⟨y, j2, G2⟩ := q
          obtain ⟨hy1, hK2⟩ := hq
          dsimp only at hy1 hK2 ⊢
          have hwb2 : G2[H.length + 1]? = some (.row 31 2 [encW w] true) := by
            rw [hK2.keep _ (by simp; omega) (by omega), List.getElem?_append_left (by omega)]
            exact hwb
          have hxb2 : G2[G.length]? = some (.row 118 5 [[.int .u8 119, .str (tB t), .int .i64 0, .sl none 0, .int .i64 (sx.getD (-1))]] true) := by
            rw [hK2.keep _ (by simp) (by omega), List.getElem?_append_right (Nat.le_refl _), Nat.sub_self]
            rfl
          have hGl2 : G.length + 1 ≤ G2.length := by have := hK2.len; simpa using this
          have hrow2 := hK2.row
          have hjl2 := getElem?_lt hrow2
          by_cases hlt2 : y < ss.length
          · have hst := serL_step ss (tB t) y hlt2
            have hls := hsl (tB t)
            obtain ⟨u, hu⟩ : ∃ u, u = ss[y] := ⟨_, rfl⟩
            have hul := (s2 ss[y] (List.getElem_mem hlt2)).1
            rw [← hu] at hst hul
            have hus := smp_ok2 hul
            have hul2 : u.l.length ≤ 5000 := by
              unfold serF at hul
              split at hul
              · cases hul
              · omega
            obtain ⟨L1, hL1⟩ : ∃ L1, L1 = serL (ss.take y) (tB t) := ⟨_, rfl⟩
            rw [← hL1] at hst hrow2 hK2 ⊢
            simp (disch := first | omega | (simp only [go_sem]; try omega)) only [go_sem, hlt2, ← hu, hwb2, hxb2]
            refine AWp.loop (G2.length + 1) [0, 1, 3, 9, 13, 14, 16, 30, 31, 32, 41, 42, 43, 48, 49] [50, 11] (fun (q : Nat × Nat × Hp) => q.1 ≤ u.l.length ∧ KeepX (G2 ++ [.row 92 2 [encSr u] true]) q.2.2 j2 q.2.1 (BL ++ P (L1 ++ if u.tg = tB t then u.l.take q.1 else []))) (fun (q : Nat × Nat × Hp) => [(50, (.c (.int .i64 (q.1)))), (11, .c (grV q.2.1 (BL ++ P (L1 ++ if u.tg = tB t then u.l.take q.1 else []))))]) (fun (q : Nat × Nat × Hp) => q.2.2) (fun (q : Nat × Nat × Hp) => u.l.length - q.1) (by kernel_rfl) (fun _ => rfl) (by kernel_rfl) (by first | (simp; done) | omega) (by first | (simp; done) | (simp; omega) | omega) kl ?_ (fun q hq _ _ => ?_)
            · have e0 : (if u.tg = tB t then u.l.take 0 else []) = [] := by split <;> rfl
              refine Next.mk (0, j2, G2 ++ [.row 92 2 [encSr u] true]) ⟨by dsimp only; omega, ?_⟩ ?_
              · dsimp only
                rw [e0, List.append_nil]
                exact KeepX.refl (by rw [List.getElem?_append_left hjl2]; exact hrow2)
              · rw [e0, List.append_nil]
                exact wk
            · obtain ⟨i, j3, G3⟩ := q
              obtain ⟨hi1, hK3⟩ := hq
              dsimp only at hi1 hK3 ⊢
              have hpj2 : H.length + 2 ≤ j2 := by
                rcases hK2.pos with e | e
                · omega
                · have : G.length + 1 ≤ j2 := by simpa using e
                  omega
              have hwb3 : G3[H.length + 1]? = some (.row 31 2 [encW w] true) := by
                rw [hK3.keep _ (by simp; omega) (by omega), List.getElem?_append_left (by omega)]
                exact hwb2
              have hjx : G.length ≠ j2 := by
                rcases hK2.pos with e | e
                · omega
                · have : G.length + 1 ≤ j2 := by simpa using e
                  omega
              have hxb3 : G3[G.length]? = some (.row 118 5 [[.int .u8 119, .str (tB t), .int .i64 0, .sl none 0, .int .i64 (sx.getD (-1))]] true) := by
                rw [hK3.keep _ (by simp; omega) hjx, List.getElem?_append_left (by omega)]
                exact hxb2
              have hub3 : G3[G2.length]? = some (.row 92 2 [[.str u.tg, .lst 3 (u.l.map encS)]] true) := by
                rw [hK3.keep _ (by simp) (by omega), List.getElem?_append_right (Nat.le_refl _), Nat.sub_self]
                rfl
              have hGl3 : G2.length + 1 ≤ G3.length := by have := hK3.len; simpa using this
              have hrow3 := hK3.row
              have hjl3 := getElem?_lt hrow3
              by_cases hlt3 : i < u.l.length
              · have htk : u.l.take (i + 1) = u.l.take i ++ [u.l[i]] := List.take_succ_eq_append_getElem hlt3
                obtain ⟨z, hz⟩ : ∃ z, z = u.l[i] := ⟨_, rfl⟩
                have hzb := (hus u.l[i] (List.getElem_mem hlt3)).1
                rw [← hz] at htk hzb
                have hLs : L1.length ≤ 1000 := by rw [hL1]; exact Nat.le_trans (serL_split ss (tB t) y) hls
                have hLl : (P (L1 ++ u.l.take i)).length ≤ 6000 := by
                  refine Nat.le_trans (hPn _) ?_
                  rw [List.length_append, List.length_take]
                  omega
                by_cases ht : u.tg = tB t
                · have htd : decide (u.tg = tB t) = true := decide_eq_true ht
                  simp only [if_pos ht] at hK3 hrow3 ⊢
                  by_cases h9 : nC cs (tB t) ∧ w.a ≤ z.t + S ∧ z.t + S < w.b
                  · have e9 : BL ++ P (L1 ++ u.l.take (i + 1)) = BL ++ P (L1 ++ u.l.take i) ++ [z.t + S] := by rw [htk, ← List.append_assoc, hPa, hPo, if_pos h9, List.append_assoc]
                    obtain ⟨hn, h1, h2⟩ := h9
                    simp (disch := first | omega | (simp only [go_sem]; try omega)) only [go_sem, hlt3, ← hz, hwb3, hxb3, hub3]
                    refine calAt_a cs (tB t) (by omega) (fun _ => ?_) (fun q hq he' _ => absurd he' (hn _ (List.getElem_mem hq)))
                    simp (disch := first | omega | (simp only [go_sem]; try omega)) only [go_sem, hwb3, hxb3, hub3, htd, h1, h2]
                    refine appIv _ (z.t + S) _ e9 (by rw [List.getElem?_append_left hjl3]; exact hrow3) (by first | ((repeat first | exact at0 (by simp) | refine atS ?_); done) | assumption) (by rw [List.length_append]; omega) ?_
                    simp (disch := first | omega | (simp only [go_sem]; try omega)) only [go_sem]
                    have hKp := (hK3.app [AObj.row 34 3 [[.int .i64 z.t, .int .i64 z.v, .int .i64 z.q]] true, AObj.row 3 1 [[.int .i64 (z.t + S)]] true]).push (L2 := BL ++ P (L1 ++ u.l.take (i + 1)))
                    rw [List.set_append_left _ _ hjl3, List.append_assoc, show (G3 ++ [AObj.row 34 3 [[.int .i64 z.t, .int .i64 z.v, .int .i64 z.q]] true, AObj.row 3 1 [[.int .i64 (z.t + S)]] true]).length = G3.length + 2 by simp] at hKp
                    refine Next.mk (i + 1, G3.length + 2, G3.set j3 .dead ++ ([AObj.row 34 3 [[.int .i64 z.t, .int .i64 z.v, .int .i64 z.q]] true, AObj.row 3 1 [[.int .i64 (z.t + S)]] true] ++ [grO 3 1 ((BL ++ P (L1 ++ u.l.take (i + 1))).map encI)])) ⟨⟨by dsimp only; omega, hKp⟩, by dsimp only; omega⟩ ?_
                    exact wk
                  · have e9 : P (L1 ++ u.l.take (i + 1)) = P (L1 ++ u.l.take i) := by rw [htk, ← List.append_assoc, hPa, hPo, if_neg h9, List.append_nil]
                    simp (disch := first | omega | (simp only [go_sem]; try omega)) only [go_sem, hlt3, ← hz, hwb3, hxb3, hub3]
                    refine calAt_a cs (tB t) (by omega) (fun hn => ?_) (fun q hq he' _ => ?_)
                    · by_cases h1 : w.a ≤ z.t + S
                      · have h2 : ¬ z.t + S < w.b := fun e => h9 ⟨hn, h1, e⟩
                        simp (disch := first | omega | (simp only [go_sem]; try omega)) only [go_sem, hwb3, hxb3, hub3, htd, h1, h2]
                        refine Next.mk (i + 1, j3, G3 ++ [.row 34 3 [[.int .i64 z.t, .int .i64 z.v, .int .i64 z.q]] true]) ⟨⟨by dsimp only; omega, by dsimp only; rw [e9]; exact hK3.app _⟩, by dsimp only; omega⟩ ?_
                        rw [e9]
                        exact wk
                      · simp (disch := first | omega | (simp only [go_sem]; try omega)) only [go_sem, hwb3, hxb3, hub3, htd, h1]
                        refine Next.mk (i + 1, j3, G3 ++ [.row 34 3 [[.int .i64 z.t, .int .i64 z.v, .int .i64 z.q]] true]) ⟨⟨by dsimp only; omega, by dsimp only; rw [e9]; exact hK3.app _⟩, by dsimp only; omega⟩ ?_
                        rw [e9]
                        exact wk
                    · simp (disch := first | omega | (simp only [go_sem]; try omega)) only [go_sem, hwb3, hxb3, hub3]
                      refine Next.mk (i + 1, j3, G3 ++ [.row 34 3 [[.int .i64 z.t, .int .i64 z.v, .int .i64 z.q]] true]) ⟨⟨by dsimp only; omega, by dsimp only; rw [e9]; exact hK3.app _⟩, by dsimp only; omega⟩ ?_
                      rw [e9]
                      exact wk
                · simp only [if_neg ht, List.append_nil] at hK3 hrow3 ⊢
                  simp (disch := first | omega | (simp only [go_sem]; try omega)) only [go_sem, hlt3, ← hz, hwb3, hxb3, hub3]
                  refine calAt_a cs (tB t) (by omega) (fun hn => ?_) (fun q hq he' _ => ?_)
                  · simp (disch := first | omega | (simp only [go_sem]; try omega)) only [go_sem, hwb3, hxb3, hub3, ht]
                    exact Next.mk (i + 1, j3, G3 ++ [.row 34 3 [[.int .i64 z.t, .int .i64 z.v, .int .i64 z.q]] true]) ⟨⟨by dsimp only; omega, hK3.app _⟩, by dsimp only; omega⟩ wk
                  · simp (disch := first | omega | (simp only [go_sem]; try omega)) only [go_sem, hwb3, hxb3, hub3]
                    exact Next.mk (i + 1, j3, G3 ++ [.row 34 3 [[.int .i64 z.t, .int .i64 z.v, .int .i64 z.q]] true]) ⟨⟨by dsimp only; omega, hK3.app _⟩, by dsimp only; omega⟩ wk
              · have hie : i = u.l.length := by omega
                subst hie
                have etk : u.l.take u.l.length = u.l := List.take_length
                rw [etk, ← hst] at hK3 hrow3 ⊢
                simp (disch := first | omega | (simp only [go_sem]; try omega)) only [go_sem, hlt3]
                exact Next.mk (y + 1, j3, G3) ⟨⟨by dsimp only; omega, (hK2.app _).trans hK3⟩, by dsimp only; omega⟩ wk
          · have hye : y = ss.length := by omega
            subst hye
            rw [List.take_length] at hK2 hrow2 ⊢
            simp (disch := first | omega | (simp only [go_sem]; try omega)) only [go_sem, hlt2]
            have e8 : BL ++ P (serL ss (tB t)) = B ++ (X.take (k + 1)).flatMap (leafM cs ss w sh) := by rw [hft, hBL, List.append_assoc]
            rw [e8] at hK2 hrow2 ⊢
            exact Next.mk (k + 1, j2, G2) ⟨⟨by dsimp only; omega, (hK.app _).trans hK2⟩, by dsimp only; omega⟩ wk
      · have hke : k = X.length := by omega
        subst hke
        have hfk := hfl X.length
        rw [List.take_length] at hfk hK hrow ⊢
        have hLl0 : (B ++ X.flatMap (leafM cs ss w sh)).length ≤ 501001 := by rw [List.length_append]; omega
        generalize B ++ X.flatMap (leafM cs ss w sh) = L at *
        have hLl : L.length ≤ 501001 := hLl0
        simp (disch := first | omega | (simp only [go_sem]; try omega)) only [go_sem, hlt]
        refine sortIv_a L hrow (by omega) ?_
        simp (disch := first | omega | (simp only [go_sem]; try omega)) only [go_sem]
        rw [grV_sorted L j]
        have hilt := getElem?_lt hrow
        refine compactIvV_a (srtI L) (List.getElem?_set_self hilt) (by rw [srtI_len]; omega) ?_
        rw [List.set_set]
        have hpre : G.set j .dead = H ++ (G.set j .dead).drop H.length := pre_app (fun i hi => by
          rw [List.getElem?_set_ne (by omega), hK.keep i (by simp; omega) (by omega), List.getElem?_append_left hi]) (by simp; omega)
        rw [hpre]
        simp (disch := first | omega | (simp only [go_sem]; try omega)) only [go_sem]
        exact Ret.drop hH (Nat.le_refl _) (by simp [AV.ok, AV.ok1, AC.ok]) hk
  · simp (disch := first | omega | (simp only [go_sem]; try omega)) only [go_sem, hw, encT_l, encT_t]
    refine leaves_a 501 e hsz (by omega) he ?_
    rw [← hX]
    simp (disch := first | omega | (simp only [go_sem]; try omega)) only [go_sem, encT_l, encT_t]
    refine AWp.loop (H.length + 2) [0, 1, 3, 9, 30, 31] [32, 11] (fun (s : Nat × Nat × Hp) => s.1 ≤ X.length ∧ KeepX (H ++ [.row 118 5 [encT e] true, .row 31 2 [encW w] true]) s.2.2 (H.length + 2) s.2.1 (B ++ (X.take s.1).flatMap (leafM cs ss w sh))) (fun (s : Nat × Nat × Hp) => [(32, (.c (.int .i64 (s.1)))), (11, .c (grV s.2.1 (B ++ (X.take s.1).flatMap (leafM cs ss w sh))))]) (fun (s : Nat × Nat × Hp) => s.2.2) (fun (s : Nat × Nat × Hp) => X.length - s.1) (by kernel_rfl) (fun _ => rfl) (by kernel_rfl) (by first | (simp; done) | omega) (by first | (simp; done) | (simp; omega) | omega) kl ?_ (fun s hs _ _ => ?_)
    · refine Next.mk (0, H.length + 2, H ++ [.row 118 5 [encT e] true, .row 31 2 [encW w] true, .dead]) ⟨by dsimp only; omega, ?_⟩ ?_
      · dsimp only
        rw [hB, if_neg hw]
        refine ⟨fun i hi hn => ?_, by simp [grO], .inr (by simp), by simp⟩
        rw [show H ++ [.row 118 5 [encT e] true, .row 31 2 [encW w] true, .dead] = (H ++ [.row 118 5 [encT e] true, .row 31 2 [encW w] true]) ++ [.dead] by simp]
        exact List.getElem?_append_left hi
      · rw [hB, if_neg hw]
        exact WkL.padP [_, _] (by simp)
    · obtain ⟨k, j, G⟩ := s
      obtain ⟨hk1, hK⟩ := hs
      dsimp only at hk1 hK ⊢
      have hwb : G[H.length + 1]? = some (.row 31 2 [encW w] true) := by rw [hK.keep _ (by simp) (by omega)]; simp
      have hGl : H.length + 2 ≤ G.length := by have := hK.len; simpa using this
      have hrow := hK.row
      have hjl := getElem?_lt hrow
      have hpj : H.length + 2 ≤ j := by
        rcases hK.pos with e | e
        · omega
        · simpa using e
      by_cases hlt : k < X.length
      · obtain ⟨t, sx, hx⟩ := hxt X[k] (List.getElem_mem hlt)
        have hft := flat_take (leafM cs ss w sh) X k hlt
        have hfk := hfl k
        rw [hx] at hft
        generalize (X.take k).flatMap (leafM cs ss w sh) = L0 at *
        obtain ⟨BL, hBL⟩ : ∃ BL, BL = B ++ L0 := ⟨_, rfl⟩
        have hBLl : BL.length ≤ 501001 := by rw [hBL, List.length_append]; omega
        rw [← hBL] at hrow hK ⊢
        have hxe : encT (.tag t sx) = [.int .u8 119, .str (tB t), .int .i64 0, .sl none 0, .int .i64 (sx.getD (-1))] := rfl
        have hsb : -1 ≤ sx.getD (-1) ∧ sx.getD (-1) ≤ 86400000 := hsx t sx (hx ▸ List.getElem_mem hlt)
        obtain ⟨S, hS⟩ : ∃ S, S = sh + max 0 (sx.getD (-1)) := ⟨_, rfl⟩
        have hSb : 0 ≤ S ∧ S ≤ 1100000000000 := by omega
        obtain ⟨P, hP⟩ : ∃ P : List Smp → List Int, P = fun l => if nC cs (tB t) then shM w S l else [] := ⟨_, rfl⟩
        have hPa : ∀ a b, P (a ++ b) = P a ++ P b := fun a b => by
          rw [hP]; dsimp only; split
          · exact shM_app _ _ _ _
          · rfl
        have hPl : leafM cs ss w sh (.tag t sx) = P (serL ss (tB t)) := by rw [hP, hS]; rfl
        have hPo : ∀ z : Smp, P [z] = if nC cs (tB t) ∧ w.a ≤ z.t + S ∧ z.t + S < w.b then [z.t + S] else [] := fun z => by
          rw [hP]; dsimp only
          by_cases h : nC cs (tB t)
          · rw [if_pos h, shM_one]
            by_cases h2 : w.a ≤ z.t + S ∧ z.t + S < w.b
            · rw [if_pos h2, if_pos ⟨h, h2⟩]
            · rw [if_neg h2, if_neg (fun e => h2 e.2)]
          · rw [if_neg h, if_neg (fun e => h e.1)]
        have hP0 : P [] = [] := by rw [hP]; dsimp only; split <;> rfl
        have hPn : ∀ l, (P l).length ≤ l.length := fun l => by
          rw [hP]; dsimp only; split
          · exact shM_len _ _ _
          · exact Nat.zero_le _
        rw [hPl] at hft
        simp (disch := first | omega | (simp only [go_sem]; try omega)) only [go_sem, hlt, hx, hwb, hxe, ← hS]
        refine AWp.loop (G.length + 1) [0, 1, 3, 9, 13, 14, 30, 31, 32, 41, 42] [43, 11] (fun (q : Nat × Nat × Hp) => q.1 ≤ ss.length ∧ KeepX (G ++ [.row 118 5 [encT (.tag t sx)] true]) q.2.2 j q.2.1 (BL ++ P (serL (ss.take q.1) (tB t)))) (fun (q : Nat × Nat × Hp) => [(43, (.c (.int .i64 (q.1)))), (11, .c (grV q.2.1 (BL ++ P (serL (ss.take q.1) (tB t)))))]) (fun (q : Nat × Nat × Hp) => q.2.2) (fun (q : Nat × Nat × Hp) => ss.length - q.1) (by kernel_rfl) (fun _ => rfl) (by kernel_rfl) (by first | (simp; done) | omega) (by first | (simp; done) | (simp; omega) | omega) kl ?_ (fun q hq _ _ => ?_)
        · refine Next.mk (0, j, G ++ [.row 118 5 [encT (.tag t sx)] true]) ⟨by dsimp only; omega, ?_⟩ ?_
          · dsimp only
            rw [List.take_zero, show serL [] (tB t) = [] from rfl, hP0, List.append_nil]
            exact KeepX.refl (by rw [List.getElem?_append_left hjl]; exact hrow)
          · rw [List.take_zero, show serL [] (tB t) = [] from rfl, hP0, List.append_nil]
            exact wk
        · obtain ⟨y, j2, G2⟩ := q
          obtain ⟨hy1, hK2⟩ := hq
          dsimp only at hy1 hK2 ⊢
          have hwb2 : G2[H.length + 1]? = some (.row 31 2 [encW w] true) := by
            rw [hK2.keep _ (by simp; omega) (by omega), List.getElem?_append_left (by omega)]
            exact hwb
          have hxb2 : G2[G.length]? = some (.row 118 5 [[.int .u8 119, .str (tB t), .int .i64 0, .sl none 0, .int .i64 (sx.getD (-1))]] true) := by
            rw [hK2.keep _ (by simp) (by omega), List.getElem?_append_right (Nat.le_refl _), Nat.sub_self]
            rfl
          have hGl2 : G.length + 1 ≤ G2.length := by have := hK2.len; simpa using this
          have hrow2 := hK2.row
          have hjl2 := getElem?_lt hrow2
          by_cases hlt2 : y < ss.length
          · have hst := serL_step ss (tB t) y hlt2
            have hls := hsl (tB t)
            obtain ⟨u, hu⟩ : ∃ u, u = ss[y] := ⟨_, rfl⟩
            have hul := (s2 ss[y] (List.getElem_mem hlt2)).1
            rw [← hu] at hst hul
            have hus := smp_ok2 hul
            have hul2 : u.l.length ≤ 5000 := by
              unfold serF at hul
              split at hul
              · cases hul
              · omega
            obtain ⟨L1, hL1⟩ : ∃ L1, L1 = serL (ss.take y) (tB t) := ⟨_, rfl⟩
            rw [← hL1] at hst hrow2 hK2 ⊢
            simp (disch := first | omega | (simp only [go_sem]; try omega)) only [go_sem, hlt2, ← hu, hwb2, hxb2]
            refine AWp.loop (G2.length + 1) [0, 1, 3, 9, 13, 14, 16, 30, 31, 32, 41, 42, 43, 48, 49] [50, 11] (fun (q : Nat × Nat × Hp) => q.1 ≤ u.l.length ∧ KeepX (G2 ++ [.row 92 2 [encSr u] true]) q.2.2 j2 q.2.1 (BL ++ P (L1 ++ if u.tg = tB t then u.l.take q.1 else []))) (fun (q : Nat × Nat × Hp) => [(50, (.c (.int .i64 (q.1)))), (11, .c (grV q.2.1 (BL ++ P (L1 ++ if u.tg = tB t then u.l.take q.1 else []))))]) (fun (q : Nat × Nat × Hp) => q.2.2) (fun (q : Nat × Nat × Hp) => u.l.length - q.1) (by kernel_rfl) (fun _ => rfl) (by kernel_rfl) (by first | (simp; done) | omega) (by first | (simp; done) | (simp; omega) | omega) kl ?_ (fun q hq _ _ => ?_)
            · have e0 : (if u.tg = tB t then u.l.take 0 else []) = [] := by split <;> rfl
              refine Next.mk (0, j2, G2 ++ [.row 92 2 [encSr u] true]) ⟨by dsimp only; omega, ?_⟩ ?_
              · dsimp only
                rw [e0, List.append_nil]
                exact KeepX.refl (by rw [List.getElem?_append_left hjl2]; exact hrow2)
              · rw [e0, List.append_nil]
                exact wk
            · obtain ⟨i, j3, G3⟩ := q
              obtain ⟨hi1, hK3⟩ := hq
              dsimp only at hi1 hK3 ⊢
              have hpj2 : H.length + 2 ≤ j2 := by
                rcases hK2.pos with e | e
                · omega
                · have : G.length + 1 ≤ j2 := by simpa using e
                  omega
              have hwb3 : G3[H.length + 1]? = some (.row 31 2 [encW w] true) := by
                rw [hK3.keep _ (by simp; omega) (by omega), List.getElem?_append_left (by omega)]
                exact hwb2
              have hjx : G.length ≠ j2 := by
                rcases hK2.pos with e | e
                · omega
                · have : G.length + 1 ≤ j2 := by simpa using e
                  omega
              have hxb3 : G3[G.length]? = some (.row 118 5 [[.int .u8 119, .str (tB t), .int .i64 0, .sl none 0, .int .i64 (sx.getD (-1))]] true) := by
                rw [hK3.keep _ (by simp; omega) hjx, List.getElem?_append_left (by omega)]
                exact hxb2
              have hub3 : G3[G2.length]? = some (.row 92 2 [[.str u.tg, .lst 3 (u.l.map encS)]] true) := by
                rw [hK3.keep _ (by simp) (by omega), List.getElem?_append_right (Nat.le_refl _), Nat.sub_self]
                rfl
              have hGl3 : G2.length + 1 ≤ G3.length := by have := hK3.len; simpa using this
              have hrow3 := hK3.row
              have hjl3 := getElem?_lt hrow3
              by_cases hlt3 : i < u.l.length
              · have htk : u.l.take (i + 1) = u.l.take i ++ [u.l[i]] := List.take_succ_eq_append_getElem hlt3
                obtain ⟨z, hz⟩ : ∃ z, z = u.l[i] := ⟨_, rfl⟩
                have hzb := (hus u.l[i] (List.getElem_mem hlt3)).1
                rw [← hz] at htk hzb
                have hLs : L1.length ≤ 1000 := by rw [hL1]; exact Nat.le_trans (serL_split ss (tB t) y) hls
                have hLl : (P (L1 ++ u.l.take i)).length ≤ 6000 := by
                  refine Nat.le_trans (hPn _) ?_
                  rw [List.length_append, List.length_take]
                  omega
                by_cases ht : u.tg = tB t
                · have htd : decide (u.tg = tB t) = true := decide_eq_true ht
                  simp only [if_pos ht] at hK3 hrow3 ⊢
                  by_cases h9 : nC cs (tB t) ∧ w.a ≤ z.t + S ∧ z.t + S < w.b
                  · exfalso; omega
                  · have e9 : P (L1 ++ u.l.take (i + 1)) = P (L1 ++ u.l.take i) := by rw [htk, ← List.append_assoc, hPa, hPo, if_neg h9, List.append_nil]
                    simp (disch := first | omega | (simp only [go_sem]; try omega)) only [go_sem, hlt3, ← hz, hwb3, hxb3, hub3]
                    refine calAt_a cs (tB t) (by omega) (fun hn => ?_) (fun q hq he' _ => ?_)
                    · by_cases h1 : w.a ≤ z.t + S
                      · have h2 : ¬ z.t + S < w.b := fun e => h9 ⟨hn, h1, e⟩
                        simp (disch := first | omega | (simp only [go_sem]; try omega)) only [go_sem, hwb3, hxb3, hub3, htd, h1, h2]
                        refine Next.mk (i + 1, j3, G3 ++ [.row 34 3 [[.int .i64 z.t, .int .i64 z.v, .int .i64 z.q]] true]) ⟨⟨by dsimp only; omega, by dsimp only; rw [e9]; exact hK3.app _⟩, by dsimp only; omega⟩ ?_
                        rw [e9]
                        exact wk
                      · simp (disch := first | omega | (simp only [go_sem]; try omega)) only [go_sem, hwb3, hxb3, hub3, htd, h1]
                        refine Next.mk (i + 1, j3, G3 ++ [.row 34 3 [[.int .i64 z.t, .int .i64 z.v, .int .i64 z.q]] true]) ⟨⟨by dsimp only; omega, by dsimp only; rw [e9]; exact hK3.app _⟩, by dsimp only; omega⟩ ?_
                        rw [e9]
                        exact wk
                    · simp (disch := first | omega | (simp only [go_sem]; try omega)) only [go_sem, hwb3, hxb3, hub3]
                      refine Next.mk (i + 1, j3, G3 ++ [.row 34 3 [[.int .i64 z.t, .int .i64 z.v, .int .i64 z.q]] true]) ⟨⟨by dsimp only; omega, by dsimp only; rw [e9]; exact hK3.app _⟩, by dsimp only; omega⟩ ?_
                      rw [e9]
                      exact wk
                · simp only [if_neg ht, List.append_nil] at hK3 hrow3 ⊢
                  simp (disch := first | omega | (simp only [go_sem]; try omega)) only [go_sem, hlt3, ← hz, hwb3, hxb3, hub3]
                  refine calAt_a cs (tB t) (by omega) (fun hn => ?_) (fun q hq he' _ => ?_)
                  · simp (disch := first | omega | (simp only [go_sem]; try omega)) only [go_sem, hwb3, hxb3, hub3, ht]
                    exact Next.mk (i + 1, j3, G3 ++ [.row 34 3 [[.int .i64 z.t, .int .i64 z.v, .int .i64 z.q]] true]) ⟨⟨by dsimp only; omega, hK3.app _⟩, by dsimp only; omega⟩ wk
                  · simp (disch := first | omega | (simp only [go_sem]; try omega)) only [go_sem, hwb3, hxb3, hub3]
                    exact Next.mk (i + 1, j3, G3 ++ [.row 34 3 [[.int .i64 z.t, .int .i64 z.v, .int .i64 z.q]] true]) ⟨⟨by dsimp only; omega, hK3.app _⟩, by dsimp only; omega⟩ wk
              · have hie : i = u.l.length := by omega
                subst hie
                have etk : u.l.take u.l.length = u.l := List.take_length
                rw [etk, ← hst] at hK3 hrow3 ⊢
                simp (disch := first | omega | (simp only [go_sem]; try omega)) only [go_sem, hlt3]
                exact Next.mk (y + 1, j3, G3) ⟨⟨by dsimp only; omega, (hK2.app _).trans hK3⟩, by dsimp only; omega⟩ wk
          · have hye : y = ss.length := by omega
            subst hye
            rw [List.take_length] at hK2 hrow2 ⊢
            simp (disch := first | omega | (simp only [go_sem]; try omega)) only [go_sem, hlt2]
            have e8 : BL ++ P (serL ss (tB t)) = B ++ (X.take (k + 1)).flatMap (leafM cs ss w sh) := by rw [hft, hBL, List.append_assoc]
            rw [e8] at hK2 hrow2 ⊢
            exact Next.mk (k + 1, j2, G2) ⟨⟨by dsimp only; omega, (hK.app _).trans hK2⟩, by dsimp only; omega⟩ wk
      · have hke : k = X.length := by omega
        subst hke
        have hfk := hfl X.length
        rw [List.take_length] at hfk hK hrow ⊢
        have hLl0 : (B ++ X.flatMap (leafM cs ss w sh)).length ≤ 501001 := by rw [List.length_append]; omega
        generalize B ++ X.flatMap (leafM cs ss w sh) = L at *
        have hLl : L.length ≤ 501001 := hLl0
        simp (disch := first | omega | (simp only [go_sem]; try omega)) only [go_sem, hlt]
        refine sortIv_a L hrow (by omega) ?_
        simp (disch := first | omega | (simp only [go_sem]; try omega)) only [go_sem]
        rw [grV_sorted L j]
        have hilt := getElem?_lt hrow
        refine compactIvV_a (srtI L) (List.getElem?_set_self hilt) (by rw [srtI_len]; omega) ?_
        rw [List.set_set]
        have hpre : G.set j .dead = H ++ (G.set j .dead).drop H.length := pre_app (fun i hi => by
          rw [List.getElem?_set_ne (by omega), hK.keep i (by simp; omega) (by omega), List.getElem?_append_left hi]) (by simp; omega)
        rw [hpre]
        simp (disch := first | omega | (simp only [go_sem]; try omega)) only [go_sem]
        exact Ret.drop hH (Nat.le_refl _) (by simp [AV.ok, AV.ok1, AC.ok]) hk
end Go.Proofs.YtlnfiflbpmicgaaGreatDoor
