/- Words of a line: base.Words, sample.word, sample.ReadWords. -/
import Derived.Test.YtflklkijfkmeiaaGreatDoorHVTxtP
import Derived.Test.YtflklkijfkmeiaaGreatDoorHVGB
import Derived.Test.YtflklkijfkmeiaaGreatDoorHVGA
import Derived.Test.YtflklkijfkmeiaaGreatDoorHCoreDrawS
namespace Go.Proofs.YtflklkijfkmeiaaGreatDoor
open Go Go.RowKit
set_option maxRecDepth 100000
set_option linter.all false
set_option maxHeartbeats 2000000
variable {H : Hp} {K : AV → Hp → Prop}
theorem appIx {i q ty : Nat} {own : Bool} {J : AV → Hp → Prop} (l : List Int) (x : Int) (l2 : List Int) (e : l2 = l ++ [x]) (hi : H[i]? = some (grO 3 1 (l.map encI))) (hj : H[q]? = some (.row ty 1 [encI x] own)) (hb : l.length ≤ 1000000000)
    (h : J (.c (grV H.length l2)) (H.set i .dead ++ [grO 3 1 (l2.map encI)])) : aBuiltin Tryz.prog .append #[22, 22] [.c (grV i l), .c (.sl (some (q, 0)) 1)] H J := by
  subst e
  exact app_grR (enc := encI) (e := 3) (sz := 1) (bs := 8) (z := [.int .i64 0]) l [x] (by kernel_rfl) (by kernel_rfl) (by kernel_rfl) (by kernel_rfl) hi (by rw [hj]; rfl) (by simp) rfl (by decide) (by simp; omega) (by simp; omega) h
theorem tB_noS {l : List UInt8} : tB l = ⟨#[]⟩ ↔ l = [] := tB_nil
theorem getElem_tx {ws : List (List UInt8)} {k : Nat} (h : k < ws.length) (h2 : k < (ws.map encTx).length) : (ws.map encTx)[k] = [.str (tB ws[k])] := by rw [List.getElem_map]; rfl
theorem wordsP_a (l : List UInt8) (n : Nat) (hl : l.length ≤ 1000000) (hk : K (.tup [.c (if (splitL 32 l).length = n ∧ [] ∉ splitL 32 l then .lst 1 ((splitL 32 l).map encTx) else .sl none 0), (.c (.bool (decide ((splitL 32 l).length = n ∧ [] ∉ splitL 32 l))))]) H) : ACalls Tryz.prog 167 [(.c (.str (tB l))), (.c (.int .i64 n))] H K := by
  have hlen : (splitL 32 l).length ≤ l.length + 1 := by
    rw [splitL_len]
    have := List.length_filter_le (fun x => decide (x = 32)) l
    omega
  refine acalls Tryz.func167 rfl (by kernel_rfl) (by simp (disch := first | omega | (simp only [go_sem]; first | done | omega)) only [go_sem]) (fun hH => ?_)
  simp (disch := first | omega | (simp only [go_sem]; first | done | omega)) only [go_sem]
  refine splitS_a l 32 hl ?_
  generalize splitL 32 l = ws at *
  have hml : (ws.map encTx).length = ws.length := List.length_map ..
  by_cases h0 : ws.length = n
  · have h0' : (ws.length : Int) = (n : Int) := by omega
    simp (disch := first | omega | (simp only [go_sem]; first | done | omega)) only [go_sem, hml, h0']
    refine AWp.loop (H.length) [6, 15, 16] [17] (fun (k : Nat) => k ≤ ws.length ∧ [] ∉ ws.take k) (fun (k : Nat) => [(17, (.c (.int .i64 k)))]) (fun (k : Nat) => H) (fun (k : Nat) => ws.length - k) (by kernel_rfl) (fun _ => rfl) (by kernel_rfl) (by first | (simp; done) | omega) (by first | (simp; done) | (simp; omega) | omega) kl ?_ (fun k hk1 _ _ => ?_)
    · exact Next.mk 0 ⟨by omega, by simp⟩ wk
    obtain ⟨hk1, hk2⟩ := hk1
    by_cases hlt : k < ws.length
    · have hlt' : (k : Int) < (n : Int) := by omega
      by_cases he : ws[k] = []
      · rw [if_neg (fun h => h.2 (by rw [← he]; exact List.getElem_mem hlt)), decide_eq_false (fun h => h.2 (by rw [← he]; exact List.getElem_mem hlt))] at hk
        simp (disch := first | omega | (simp only [go_sem]; first | done | omega)) only [go_sem, hml, hlt', getElem_tx hlt, tB_noS, he]
        exact Ret.same (Nat.le_refl _) hk
      · simp (disch := first | omega | (simp only [go_sem]; first | done | omega)) only [go_sem, hml, hlt', getElem_tx hlt, tB_noS, he]
        refine Next.mk (k + 1) ⟨⟨by omega, ?_⟩, by omega⟩ wk
        rw [List.take_succ_eq_append_getElem hlt]
        intro h
        rcases List.mem_append.1 h with h | h
        · exact hk2 h
        · exact he (List.mem_singleton.1 h).symm
    · have hlt' : ¬ (k : Int) < (n : Int) := by omega
      rw [List.take_of_length_le (by omega)] at hk2
      rw [if_pos ⟨h0, hk2⟩, decide_eq_true ⟨h0, hk2⟩] at hk
      simp (disch := first | omega | (simp only [go_sem]; first | done | omega)) only [go_sem, hml, hlt']
      exact Ret.same (Nat.le_refl _) hk
  · have h0' : ¬ (ws.length : Int) = (n : Int) := by omega
    rw [if_neg (fun h => h0 h.1), decide_eq_false (fun h => h0 h.1)] at hk
    simp (disch := first | omega | (simp only [go_sem]; first | done | omega)) only [go_sem, hml, h0']
    exact Ret.same (Nat.le_refl _) hk
theorem word_a (q : Int) (hk : K (.c (.str (tB (wordF q)))) H) : ACalls Tryz.prog 160 [(.c (.int .i64 q))] H K := by
  unfold wordF at hk
  by_cases h0 : q = 0
  · rw [if_pos h0] at hk
    refine acalls Tryz.func160 rfl (by kernel_rfl) (by simp (disch := first | omega | (simp only [go_sem]; first | done | omega)) only [go_sem]) (fun hH => ?_)
    simp (disch := first | omega | (simp only [go_sem]; first | done | omega)) only [go_sem, h0]
    exact Ret.same (Nat.le_refl _) hk
  rw [if_neg h0] at hk
  by_cases h1 : q = 1
  · rw [if_pos h1] at hk
    refine acalls Tryz.func160 rfl (by kernel_rfl) (by simp (disch := first | omega | (simp only [go_sem]; first | done | omega)) only [go_sem]) (fun hH => ?_)
    simp (disch := first | omega | (simp only [go_sem]; first | done | omega)) only [go_sem, h0, h1]
    exact Ret.same (Nat.le_refl _) hk
  rw [if_neg h1] at hk
  refine acalls Tryz.func160 rfl (by kernel_rfl) (by simp (disch := first | omega | (simp only [go_sem]; first | done | omega)) only [go_sem]) (fun hH => ?_)
  simp (disch := first | omega | (simp only [go_sem]; first | done | omega)) only [go_sem, h0, h1]
  exact Ret.same (Nat.le_refl _) hk
def domTx (f : FuncId) : Bool := Nat.beq f 89 || Nat.beq f 160
def spTx (f : FuncId) (args : List AV) : Option AV := match args with
  | [.c (.int .i64 x)] => if Nat.beq f 160 = true then some (.c (.str (tB (wordF x)))) else if -1000000000000000 < x ∧ x < 1000000000000000 then some (.c (.str (tB (Lib.itoa x)))) else none
  | _ => none
@[go_sem] theorem domTx_i : domTx 89 = true := (rfl)
@[go_sem] theorem domTx_w : domTx 160 = true := (rfl)
@[go_sem] theorem spTx_i (x : Int) : spTx 89 [(.c (.int .i64 x))] = if -1000000000000000 < x ∧ x < 1000000000000000 then some (.c (.str (tB (Lib.itoa x)))) else none := (rfl)
@[go_sem] theorem spTx_w (x : Int) : spTx 160 [(.c (.int .i64 x))] = some (.c (.str (tB (wordF x)))) := (rfl)
theorem specTx_ok : SpecOk Tryz.prog domTx spTx := by
  intro f args v H K hd hs hk
  unfold spTx at hs
  split at hs
  · rename_i x
    by_cases hw : Nat.beq f 160 = true
    · have hf := Nat.eq_of_beq_eq_true hw
      subst hf
      rw [if_pos hw] at hs
      injection hs with hs
      subst hs
      exact ⟨by kernel_rfl, rfl, word_a x hk⟩
    · unfold domTx at hd
      rw [Bool.or_eq_true] at hd
      have hf := Nat.eq_of_beq_eq_true (hd.resolve_right hw)
      subst hf
      rw [if_neg hw] at hs
      split at hs
      · rename_i hb
        injection hs with hs
        subst hs
        exact ⟨by kernel_rfl, rfl, itoa_a x (by omega) (by omega) hk⟩
      · cases hs
  · cases hs
def numsF (ws : List (List UInt8)) : List Int := ws.filterMap fun w => numF w 15
theorem numsF_next {ws : List (List UInt8)} {k : Nat} (h : k < ws.length) {n : Int} (hn : numF ws[k] 15 = some n) : numsF (ws.take (k + 1)) = numsF (ws.take k) ++ [n] := by
  unfold numsF
  rw [List.take_succ_eq_append_getElem h, List.filterMap_append]
  simp [hn]
theorem numsP_a (ws : List (List UInt8)) (hw : ws.length ≤ 1000000) (hl : ∀ w ∈ ws, w.length ≤ 1000000) (hk1 : (∀ w ∈ ws, (numF w 15).isSome = true) → K (.tup [.c (.lst 1 ((numsF ws).map encI)), (.c (.bool true))]) H)
    (hk2 : ¬ (∀ w ∈ ws, (numF w 15).isSome = true) → K (.tup [.c (.sl none 0), (.c (.bool false))]) H) : ACalls Tryz.prog 169 [.c (.lst 1 (ws.map encTx)), (.c (.int .i64 15))] H K := by
  have hml : (ws.map encTx).length = ws.length := List.length_map ..
  refine acalls Tryz.func169 rfl (by kernel_rfl) (by simp (disch := first | omega | (simp only [go_sem]; first | done | omega)) only [go_sem]) (fun hH => ?_)
  simp (disch := first | omega | (simp only [go_sem]; first | done | omega)) only [go_sem]
  refine AWp.loop (H.length) [1, 11, 12] [13, 6] (fun (k : Nat) => k ≤ ws.length ∧ (∀ w ∈ ws.take k, (numF w 15).isSome = true) ∧ (numsF (ws.take k)).length ≤ k) (fun (k : Nat) => [(13, (.c (.int .i64 k))), (6, .c (grV H.length (numsF (ws.take k))))]) (fun (k : Nat) => H ++ [grO 3 1 ((numsF (ws.take k)).map encI)]) (fun (k : Nat) => ws.length - k) (by kernel_rfl) (fun _ => rfl) (by kernel_rfl) (by first | (simp; done) | omega) (by first | (simp; done) | (simp; omega) | omega) kl ?_ (fun k q _ _ => ?_)
  · refine Next.mk 0 ⟨Nat.zero_le _, by simp, by simp [numsF]⟩ ?_
    exact WkL.pad (by omega)
  obtain ⟨q1, q2, q3⟩ := q
  by_cases hlt : k < ws.length
  · simp (disch := first | omega | (simp only [go_sem]; first | done | omega)) only [go_sem, hml, hlt, getElem_tx hlt]
    refine numP_a ws[k] 15 (hl _ (List.getElem_mem hlt)) (by omega) ?_
    cases hn : numF ws[k] 15 with
    | none =>
      simp (disch := first | omega | (simp only [go_sem]; first | done | omega)) only [go_sem]
      exact Ret.drop hH (Nat.le_refl _) (by simp [AV.ok, AV.ok1, AC.ok]) (hk2 (fun h => by have := h _ (List.getElem_mem hlt); rw [hn] at this; cases this))
    | some n =>
      have hnx := numsF_next hlt hn
      generalize numsF (ws.take k) = L at *
      simp (disch := first | omega | (simp only [go_sem]; first | done | omega)) only [go_sem]
      refine appIx L n _ hnx (by first | ((repeat first | exact at0 (by simp) | refine atS ?_); done) | assumption) (by first | ((repeat first | exact at0 (by simp) | refine atS ?_); done) | assumption) (by omega) ?_
      simp (disch := first | omega | (simp only [go_sem]; first | done | omega)) only [go_sem]
      refine Next.mk (k + 1) ⟨⟨by omega, ?_, by rw [hnx, List.length_append, List.length_singleton]; omega⟩, by omega⟩ ?_
      · rw [List.take_succ_eq_append_getElem hlt]
        intro w hw
        rcases List.mem_append.1 hw with h | h
        · exact q2 w h
        · rw [List.mem_singleton.1 h, hn]; rfl
      · exact ow
  · have hkl : k = ws.length := by omega
    subst hkl
    rw [List.take_length] at q2 ⊢
    simp (disch := first | omega | (simp only [go_sem]; first | done | omega)) only [go_sem, hml]
    exact Ret.frzGrT 0 hH (by omega) rfl (pureL_map _ (fun x => by simp [go_sem, AC.pure])) rfl (map_grV _ _ _).symm (hk1 q2)
theorem readW_a (a b c : List UInt8) (ha : a.length ≤ 1000000) (hb : b.length ≤ 1000000) (hk : K (.tup [.agg (encS ((rdW [a, b, c]).getD ⟨0, 0, 0⟩)), (.c (.bool ((rdW [a, b, c]).isSome)))]) H) : ACalls Tryz.prog 170 [.c (.lst 1 [[.str (tB a)], [.str (tB b)], [.str (tB c)]])] H K := by
  refine acalls Tryz.func170 rfl (by kernel_rfl) (by simp (disch := first | omega | (simp only [go_sem]; first | done | omega)) only [go_sem]) (fun hH => ?_)
  simp (disch := first | omega | (simp only [go_sem]; first | done | omega)) only [go_sem]
  refine numsP_a [a, b] (by simp) (by intro w hw; simp at hw; rcases hw with rfl | rfl <;> assumption) (fun h => ?_) (fun h => ?_)
  · obtain ⟨x, hx⟩ := Option.isSome_iff_exists.1 (h a (by simp))
    obtain ⟨y, hy⟩ := Option.isSome_iff_exists.1 (h b (by simp))
    rw [show numsF [a, b] = [x, y] by simp [numsF, hx, hy]]
    simp (disch := first | omega | (simp only [go_sem]; first | done | omega)) only [go_sem]
    refine AWp.loop (H.length + 1) [0, 2, 4] [6] (fun (q : Nat) => q ≤ 3 ∧ ∀ j : Nat, j < q → wordF j ≠ c) (fun (q : Nat) => [(6, (.c (.int .i64 q)))]) (fun (q : Nat) => H ++ [.row 34 3 [[.int .i64 0, .int .i64 0, .int .i64 0]] true]) (fun (q : Nat) => 3 - q) (by kernel_rfl) (fun _ => rfl) (by kernel_rfl) (by first | (simp; done) | omega) (by first | (simp; done) | (simp; omega) | omega) kl ?_ (fun q hq _ _ => ?_)
    · exact Next.mk 0 ⟨by omega, fun j hj => by omega⟩ wk
    obtain ⟨q1, q2⟩ := hq
    by_cases hlt : q < 3
    · have hlt' : (q : Int) ≤ 2 := by omega
      simp (disch := first | omega | (simp only [go_sem]; first | done | omega)) only [go_sem, hlt']
      refine w_drawS specTx_ok (by kernel_rfl) (by decide +kernel) ?_
      simp (disch := first | omega | (simp only [go_sem]; first | done | omega)) only [go_sem]
      by_cases he : wordF q = c
      · have hr : rdW [a, b, c] = some ⟨x, y, q⟩ := by
          unfold rdW
          simp only [hx, hy, ← he, wordQ_F (q := (q : Int)) ⟨by omega, hlt'⟩]
        rw [hr] at hk
        simp (disch := first | omega | (simp only [go_sem]; first | done | omega)) only [go_sem, tB_inj, he]
        refine w_draw (by kernel_rfl) (by decide +kernel) ?_
        simp (disch := first | omega | (simp only [go_sem]; first | done | omega)) only [go_sem]
        exact Ret.drop hH (Nat.le_refl _) (by simp [AV.ok, AV.ok1, AC.ok]) hk
      · simp (disch := first | omega | (simp only [go_sem]; first | done | omega)) only [go_sem, tB_inj, he]
        refine Next.mk (q + 1) ⟨⟨by omega, fun j hj => ?_⟩, by omega⟩ wk
        rcases Nat.lt_or_ge j q with h | h
        · exact q2 j h
        · obtain rfl : j = q := by omega
          exact he
    · have hlt' : ¬ (q : Int) ≤ 2 := by omega
      obtain rfl : q = 3 := by omega
      have hno : wordQ c = none := by
        unfold wordQ
        rw [if_neg (fun e => q2 0 (by omega) e.symm), if_neg (fun e => q2 1 (by omega) e.symm), if_neg (fun e => q2 2 (by omega) e.symm)]
      have hr : rdW [a, b, c] = none := by
        unfold rdW
        simp only [hno]
        split <;> simp_all
      rw [hr] at hk
      simp (disch := first | omega | (simp only [go_sem]; first | done | omega)) only [go_sem, hlt']
      exact Ret.drop hH (Nat.le_refl _) (by simp [AV.ok, AV.ok1, AC.ok]) hk
  · have hr : rdW [a, b, c] = none := by
      cases h1 : numF a 15 with
      | none => unfold rdW; simp only [h1]
      | some x => cases h2 : numF b 15 with
        | none => unfold rdW; simp only [h1, h2]
        | some y => exact absurd (fun w hw => by simp at hw; rcases hw with rfl | rfl; rw [h1]; rfl; rw [h2]; rfl) h
    rw [hr] at hk
    simp (disch := first | omega | (simp only [go_sem]; first | done | omega)) only [go_sem]
    exact Ret.drop hH (Nat.le_refl _) (by simp [AV.ok, AV.ok1, AC.ok]) hk
theorem itoa_len {n : Int} (h : -1000000000000000 < n ∧ n < 1000000000000000) : (Lib.itoa n).length ≤ 16 := by
  have := dec_len 14 n.natAbs (by simp; omega)
  unfold Lib.itoa
  split
  · rw [List.length_cons]; omega
  · first | omega | (rw [show n.toNat = n.natAbs by omega]; omega)
theorem wordF_len (q : Int) : (wordF q).length ≤ 9 := by
  unfold wordF
  split
  · decide
  · split <;> decide
theorem app32 (l : List UInt8) : tB l ++ (⟨#[32]⟩ : ByteArray) = tB (l ++ [32]) := app_tB l [32]
theorem one32 : (#[32] : Array UInt8).size = 1 := rfl
theorem lineP_a (x : Smp) (ht : -1000000000000000 < x.t ∧ x.t < 1000000000000000) (hv : -1000000000000000 < x.v ∧ x.v < 1000000000000000) (hk : K (.c (.str (tB (lineT x)))) H) : ACalls Tryz.prog 90 [.agg (encS x)] H K := by
  have h1 := itoa_len ht
  have h2 := itoa_len hv
  have h3 := wordF_len x.q
  refine acalls Tryz.func90 rfl (by kernel_rfl) (by simp (disch := first | omega | (simp only [go_sem]; first | done | omega)) only [go_sem]) (fun hH => ?_)
  simp (disch := first | omega | (simp only [go_sem]; first | done | omega)) only [go_sem]
  refine w_drawS specTx_ok (by kernel_rfl) (by decide +kernel) ?_
  simp (disch := first | omega | (simp only [go_sem]; first | done | omega)) only [go_sem, ht, hv, app32, app_tB, tB_size, List.length_append, one32]
  rw [show Lib.itoa x.t ++ 32 :: (Lib.itoa x.v ++ 32 :: wordF x.q) = lineT x from rfl]
  exact Ret.drop hH (Nat.le_refl _) trivial hk
end Go.Proofs.YtflklkijfkmeiaaGreatDoor
