/- Texts of expressions, the document's side. Condition: no more nodes than the source gives. -/
import Derived.Test.YtebhpfhichdgaaaGreatDoorHVFmt
namespace Go.Proofs.YtebhpfhichdgaaaGreatDoor
open Go Go.RowKit
set_option maxRecDepth 100000
set_option linter.all false
set_option maxHeartbeats 4000000
@[go_sem] theorem u8_43 : (((43 : UInt8).toNat : Nat) : Int) = 43 := rfl
@[go_sem] theorem u8_45 : (((45 : UInt8).toNat : Nat) : Int) = 45 := rfl
@[go_sem] theorem u8_42 : (((42 : UInt8).toNat : Nat) : Int) = 42 := rfl
@[go_sem] theorem u8_47 : (((47 : UInt8).toNat : Nat) : Int) = 47 := rfl
@[go_sem] theorem u8_60 : (((60 : UInt8).toNat : Nat) : Int) = 60 := rfl
@[go_sem] theorem u8_61 : (((61 : UInt8).toNat : Nat) : Int) = 61 := rfl
theorem pickTx {A G : Hp} {m ty j q : Nat} {x : List AC} {T : List (List UInt8)} (r : Int) (hA : HOk A) (hm : m ≤ A.length + 1) (h0 : G[0]? = some (.row ty 5 [x] true)) (hx : okT x) (hj : j = A.length + q) (hq : G[q]? = some (grO 9 1 (T.map encTx))) (h1 : 1 ≤ q) :
    WkL m [.c (grV j T), (.c (.int .i64 r))] (A ++ G) [.c (grV (A.length + 1) T), (.c (.int .i64 r))] (A ++ [.row ty 5 [x] true, grO 9 1 (T.map encTx)]) := by
  subst hj
  have hp : pureL [x] = true := by
    unfold pureL
    simp only [List.all_cons, List.all_nil, Bool.and_true]
    exact hx.2
  have hpT : pureL (T.map encTx) = true := pureL_map _ (fun x => by simp [go_sem, AC.pure])
  refine WkL.pickR [0, q] 1 hA hm (by simp) (by simp) ?_ (by simp; omega) ?_ ?_ ?_
  · simp only [List.map_cons, List.map_nil]
    rw [grO_ren _ _ _ hpT, pureO_ren (show (AObj.row ty 5 [x] true).pureO = true from hp), h0, hq]
  · intro o ho
    simp only [List.mem_cons, List.not_mem_nil, or_false] at ho
    rcases ho with rfl | rfl
    · exact hx.row _ _ _
    · exact okN_grO (fun x => by simp [go_sem, AC.pure])
  · simp only [List.map_cons, List.map_nil, av_ren_gr]
    rw [pickS_add]
    rfl
  · intro v hv
    simp only [List.mem_cons, List.not_mem_nil, or_false] at hv
    rcases hv with rfl | rfl
    · exact grV_ok (by simp) _
    · trivial
theorem rank_a {H : Hp} {K : AV → Hp → Prop} : ∀ (e : Ex), ExOk e → (∀ r : Int, r + 1 = stE e → K (.c (.int .i64 r)) H) → ACalls Tryz.prog 214 [.agg (encT e)] H K
  | .num n, he, hk => by
    have hk := hk 3 rfl
    unfold encT
    refine acalls Tryz.func214 rfl (by kernel_rfl) (by simp (disch := first | omega | (simp only [go_sem]; first | done | omega)) only [go_sem]) (fun hH => ?_)
    simp (disch := first | omega | (simp only [go_sem]; first | done | omega)) only [go_sem]
    exact Ret.drop hH (Nat.le_refl _) trivial hk
  | .tag x s, he, hk => by
    have hk := hk 3 rfl
    unfold encT
    refine acalls Tryz.func214 rfl (by kernel_rfl) (by simp (disch := first | omega | (simp only [go_sem]; first | done | omega)) only [go_sem]) (fun hH => ?_)
    simp (disch := first | omega | (simp only [go_sem]; first | done | omega)) only [go_sem]
    exact Ret.drop hH (Nat.le_refl _) trivial hk
  | .neg a, he, hk => by
    have hk := hk 3 rfl
    unfold encT
    refine acalls Tryz.func214 rfl (by kernel_rfl) (by simp (disch := first | omega | (simp only [go_sem]; first | done | omega)) only [go_sem]) (fun hH => ?_)
    simp (disch := first | omega | (simp only [go_sem]; first | done | omega)) only [go_sem]
    exact Ret.drop hH (Nat.le_refl _) trivial hk
  | .bin c a b, he, hk => by
    have hk : K (.c (.int .i64 ((stC c : Int) - 1))) H := hk _ (by simp [stE])
    unfold encT
    obtain ⟨h1, _, _⟩ := he
    simp only [ops6, List.mem_cons, List.not_mem_nil, or_false] at h1
    rcases h1 with rfl | rfl | rfl | rfl | rfl | rfl <;>
    · refine acalls Tryz.func214 rfl (by kernel_rfl) (by simp (disch := first | omega | (simp only [go_sem]; first | done | omega)) only [go_sem]) (fun hH => ?_)
      simp (disch := first | omega | (simp only [go_sem]; first | done | omega)) only [go_sem]
      refine Ret.drop hH (Nat.le_refl _) ?_ hk
      trivial
  | .f1 f a, he, hk => by
    have hk := hk 3 rfl
    unfold encT
    refine acalls Tryz.func214 rfl (by kernel_rfl) (by simp (disch := first | omega | (simp only [go_sem]; first | done | omega)) only [go_sem]) (fun hH => ?_)
    simp (disch := first | omega | (simp only [go_sem]; first | done | omega)) only [go_sem]
    exact Ret.drop hH (Nat.le_refl _) trivial hk
  | .f2 f a b, he, hk => by
    have hk := hk 3 rfl
    unfold encT
    refine acalls Tryz.func214 rfl (by kernel_rfl) (by simp (disch := first | omega | (simp only [go_sem]; first | done | omega)) only [go_sem]) (fun hH => ?_)
    simp (disch := first | omega | (simp only [go_sem]; first | done | omega)) only [go_sem]
    exact Ret.drop hH (Nat.le_refl _) trivial hk
  | .f3 f a b c, he, hk => by
    have hk := hk 3 rfl
    unfold encT
    refine acalls Tryz.func214 rfl (by kernel_rfl) (by simp (disch := first | omega | (simp only [go_sem]; first | done | omega)) only [go_sem]) (fun hH => ?_)
    simp (disch := first | omega | (simp only [go_sem]; first | done | omega)) only [go_sem]
    exact Ret.drop hH (Nat.le_refl _) trivial hk
theorem within_a {H : Hp} {K : AV → Hp → Prop} (e : Ex) (he : ExOk e) (r : Int) (n : Nat) (hr : r + 1 = n) (hn : n ≤ 5) (hl : (fmtB e).length ≤ 100000)
    (ht : ∀ {H : Hp} {K : AV → Hp → Prop}, K (.c (.str (tB (fmtB e)))) H → ACalls Tryz.prog 126 [.agg (encT e)] H K)
    (hk : K (.c (.str (tB (fmtF e n)))) H) : ACalls Tryz.prog 213 [.agg (encT e), (.c (.int .i64 r))] H K := by
  have h7 := encT_l e
  have h6 := encT_t e
  refine acalls Tryz.func213 rfl (by kernel_rfl) (by simp (disch := first | omega | (simp only [go_sem]; first | done | omega)) only [go_sem]) (fun hH => ?_)
  simp (disch := first | omega | (simp only [go_sem]; first | done | omega)) only [go_sem, h6, h7]
  refine rank_a e he (fun q hq => ?_)
  by_cases hlt : q < r
  · have hk2 : K (.c (.str (tB ([40] ++ fmtB e ++ [41])))) H := by
      unfold fmtF parB at hk
      rw [if_pos (by rw [decide_eq_true_eq]; omega)] at hk
      simpa using hk
    simp (disch := first | omega | (simp only [go_sem]; first | done | omega)) only [go_sem, hlt, h6, h7]
    refine ht ?_
    simp (disch := first | omega | (simp only [go_sem]; first | done | omega)) only [go_sem]
    (refine aIf_str rfl rfl rfl (by simp only [List.length_append, List.length_cons, List.length_nil]; omega) ?_)
    simp (disch := first | omega | (simp only [go_sem]; first | done | omega)) only [go_sem]
    (refine aIf_str rfl rfl rfl (by simp only [List.length_append, List.length_cons, List.length_nil]; omega) ?_)
    simp (disch := first | omega | (simp only [go_sem]; first | done | omega)) only [go_sem]
    exact Ret.drop hH (Nat.le_refl _) trivial hk2
  · have hk2 : K (.c (.str (tB (fmtB e)))) H := by
      rw [fmtF_top (by omega)] at hk
      exact hk
    simp (disch := first | omega | (simp only [go_sem]; first | done | omega)) only [go_sem, hlt, h6, h7]
    refine ht ?_
    simp (disch := first | omega | (simp only [go_sem]; first | done | omega)) only [go_sem]
    exact Ret.drop hH (Nat.le_refl _) trivial hk2
theorem text1F_a {H : Hp} {K : AV → Hp → Prop} (f : List UInt8) (L : List Ex) (hf : fnN f = L.length) (hL : 1 ≤ L.length ∧ L.length ≤ 3) (hl : ∀ x ∈ L, 0 < (fmtB x).length ∧ (fmtB x).length ≤ 40000)
    (ih : ∀ x ∈ L, ∀ {H : Hp} {K : AV → Hp → Prop}, K (.c (.str (tB (fmtB x)))) H → ACalls Tryz.prog 126 [.agg (encT x)] H K)
    (hk : K (.c (.str (tB (f ++ 40 :: (joinL [44, 32] (L.map fmtB) ++ [41]))))) H) : ACalls Tryz.prog 126 [.agg [.int .u8 102, .str (tB f), .int .i64 0, .lst 5 (L.map encT), .int .i64 0]] H K := by
  have hfl := fn_len (f := f) (by omega)
  have hml : (L.map encT).length = L.length := List.length_map ..
  have hge : ∀ (k : Nat) (h : k < L.length) (h' : k < (L.map encT).length), (L.map encT)[k]'h' = encT L[k] := fun k h h' => List.getElem_map ..
  have hjl : (joinL [44, 32] (L.map fmtB)).length ≤ 500000 := by
    obtain ⟨M, hM⟩ : ∃ M, M = L.map fmtB := ⟨_, rfl⟩
    have h1 : M.length = L.length := by rw [hM, List.length_map]
    have h2 : ∀ y ∈ M, y.length ≤ 40000 := fun y hy => by
      rw [hM] at hy
      obtain ⟨x, hx, rfl⟩ := List.mem_map.1 hy
      exact (hl x hx).2
    rw [← hM]
    match M, h1, h2 with
    | [], h1, h2 => simp [joinL]
    | x :: t, h1, h2 =>
      have := joinL_len [44, 32] 40000 x t h2
      simp only [List.length_cons, List.length_nil] at this h1
      omega
  refine acalls Tryz.func126 rfl (by kernel_rfl) (by simp (disch := first | omega | (simp only [go_sem]; first | done | omega)) only [go_sem]) (fun hH => ?_)
  simp (disch := first | omega | (simp only [go_sem]; first | done | omega)) only [go_sem, hml]
  refine AWp.loop (H.length + 1) [1, 40, 41] [3, 42] (fun (k : Nat) => k ≤ L.length) (fun (k : Nat) => [(3, .c (grV (H.length + 1) ((L.take k).map fmtB))), (42, (.c (.int .i64 k)))]) (fun (k : Nat) => H ++ [.row 154 5 [[.int .u8 102, .str (tB f), .int .i64 0, .lst 5 (L.map encT), .int .i64 0]] true, grO 9 1 (((L.take k).map fmtB).map encTx)]) (fun (k : Nat) => L.length - k) (by kernel_rfl) (fun _ => rfl) (by kernel_rfl) (by first | (simp; done) | omega) (by first | (simp; done) | (simp; omega) | omega) kl ?_ (fun k q _ _ => ?_)
  · refine Next.mk 0 (Nat.zero_le _) ?_
    exact WkL.padP [_] (by simp)
  by_cases hlt : k < L.length
  · have hnx : (L.take (k + 1)).map fmtB = (L.take k).map fmtB ++ [fmtB L[k]] := by rw [List.take_succ_eq_append_getElem hlt, List.map_append]; rfl
    have hnl : ((L.take k).map fmtB).length ≤ 1000 := by rw [List.length_map, List.length_take]; omega
    have h7 := encT_l L[k]
    have h6 := encT_t L[k]
    generalize (L.take k).map fmtB = M at *
    simp (disch := first | omega | (simp only [go_sem]; first | done | omega)) only [go_sem, hlt, hml, hge k hlt, h6, h7]
    refine ih L[k] (List.getElem_mem hlt) ?_
    simp (disch := first | omega | (simp only [go_sem]; first | done | omega)) only [go_sem]
    refine appTx M (fmtB L[k]) _ hnx (by first | ((repeat first | exact at0 (by simp) | refine atS ?_); done) | assumption) (by first | ((repeat first | exact at0 (by simp) | refine atS ?_); done) | assumption) (by omega) ?_
    simp (disch := first | omega | (simp only [go_sem]; first | done | omega)) only [go_sem]
    refine Next.mk (k + 1) ⟨by omega, by omega⟩ ?_
    simp (disch := first | omega | (simp only [go_sem]; first | done | omega)) only [go_sem]
    exact pickTx (q := 4) _ hH (by simp) rfl (⟨rfl, rfl⟩) (by first | rfl | omega) rfl (by omega)
  · have hkl : k = L.length := by omega
    subst hkl
    rw [List.take_length]
    have hjoin : ∀ {H' : Hp} {K' : AV → Hp → Prop} {i : Nat}, H'[i]? = some (grO 9 1 ((L.map fmtB).map encTx)) → K' (.c (.str (tB (joinL [44, 32] (L.map fmtB))))) (H'.set i .dead) → ACalls Tryz.prog 168 [.c (grV i (L.map fmtB)), (.c (.str (⟨#[44, 32]⟩)))] H' K' := fun hi hk' => by
      refine ACalls.litGr hi (by simp) (pureL_map _ (fun x => by simp [go_sem, AC.pure])) rfl ?_
      refine joinG_a (L.map fmtB) (by rw [List.length_map]; omega) (fun y hy => ?_) hk'
      obtain ⟨x, hx, rfl⟩ := List.mem_map.1 hy
      exact hl x hx
    simp (disch := first | omega | (simp only [go_sem]; first | done | omega)) only [go_sem, hml]
    refine w_tree (.one 0 (.one 3 (.two 1 (.one 2 (.one 4 (.one 5 (.one 6 (.one 7 .done))))) 4 (.one 1 (.one 2 (.one 5 (.one 6 (.one 7 .done)))))))) (by kernel_rfl) (by decide +kernel) ?_
    simp (disch := first | omega | (simp only [go_sem]; first | done | omega)) only [go_sem]
    refine ⟨?_, ?_⟩
    · (refine aIf_str rfl rfl rfl (by simp only [List.length_append, List.length_cons, List.length_nil]; omega) ?_)
      simp (disch := first | omega | (simp only [go_sem]; first | done | omega)) only [go_sem]
      refine hjoin (by first | ((repeat first | exact at0 (by simp) | refine atS ?_); done) | assumption) ?_
      simp (disch := first | omega | (simp only [go_sem]; first | done | omega)) only [go_sem]
      (refine aIf_str rfl rfl rfl (by simp only [List.length_append, List.length_cons, List.length_nil]; omega) ?_)
      simp (disch := first | omega | (simp only [go_sem]; first | done | omega)) only [go_sem]
      (refine aIf_str rfl rfl rfl (by simp only [List.length_append, List.length_cons, List.length_nil]; omega) ?_)
      simp (disch := first | omega | (simp only [go_sem]; first | done | omega)) only [go_sem]
      exact Ret.drop hH (Nat.le_refl _) trivial hk
    · refine hjoin (by first | ((repeat first | exact at0 (by simp) | refine atS ?_); done) | assumption) ?_
      simp (disch := first | omega | (simp only [go_sem]; first | done | omega)) only [go_sem]
      (refine aIf_str rfl rfl rfl (by simp only [List.length_append, List.length_cons, List.length_nil]; omega) ?_)
      simp (disch := first | omega | (simp only [go_sem]; first | done | omega)) only [go_sem]
      (refine aIf_str rfl rfl rfl (by simp only [List.length_append, List.length_cons, List.length_nil]; omega) ?_)
      simp (disch := first | omega | (simp only [go_sem]; first | done | omega)) only [go_sem]
      (refine aIf_str rfl rfl rfl (by simp only [List.length_append, List.length_cons, List.length_nil]; omega) ?_)
      simp (disch := first | omega | (simp only [go_sem]; first | done | omega)) only [go_sem]
      exact Ret.drop hH (Nat.le_refl _) trivial hk
theorem u8_conv {c : UInt8} : UInt8.ofNat (c.toNat : Int).toNat = c := by simp
theorem text1_a : ∀ (N : Nat) (e : Ex) {H : Hp} {K : AV → Hp → Prop}, szE e ≤ N → N ≤ 501 → ExOk e → K (.c (.str (tB (fmtB e)))) H → ACalls Tryz.prog 126 [.agg (encT e)] H K
  | 0, e, H, K, hs, hN, he, hk => by have := (hgt_sz e); omega
  | N + 1, .num v, H, K, hs, hN, he, hk => by
    have h9 : 0 ≤ v ∧ v ≤ 999999999 := he
    unfold encT
    refine acalls Tryz.func126 rfl (by kernel_rfl) (by simp (disch := first | omega | (simp only [go_sem]; first | done | omega)) only [go_sem]) (fun hH => ?_)
    simp (disch := first | omega | (simp only [go_sem]; first | done | omega)) only [go_sem]
    refine itoa_a v (by omega) (by omega) ?_
    simp (disch := first | omega | (simp only [go_sem]; first | done | omega)) only [go_sem]
    exact Ret.drop hH (Nat.le_refl _) trivial hk
  | N + 1, .tag x none, H, K, hs, hN, he, hk => by
    unfold encT
    refine acalls Tryz.func126 rfl (by kernel_rfl) (by simp (disch := first | omega | (simp only [go_sem]; first | done | omega)) only [go_sem]) (fun hH => ?_)
    simp (disch := first | omega | (simp only [go_sem]; first | done | omega)) only [go_sem, Option.getD_none]
    exact Ret.drop hH (Nat.le_refl _) trivial hk
  | N + 1, .tag x (some v), H, K, hs, hN, he, hk => by
    have h9 := he.2 v rfl
    have hx := he.1.2.1
    have hv := itoa_9 (n := v) (by omega)
    unfold encT
    refine acalls Tryz.func126 rfl (by kernel_rfl) (by simp (disch := first | omega | (simp only [go_sem]; first | done | omega)) only [go_sem]) (fun hH => ?_)
    simp (disch := first | omega | (simp only [go_sem]; first | done | omega)) only [go_sem, Option.getD_some]
    refine w_tree (.one 0 (.one 3 (.one 4 (.two 1 (.one 2 (.one 5 (.one 6 (.one 7 .done)))) 5 (.one 1 (.one 2 (.one 6 (.one 7 .done)))))))) (by kernel_rfl) (by decide +kernel) ?_
    simp (disch := first | omega | (simp only [go_sem]; first | done | omega)) only [go_sem]
    refine ⟨?_, ?_⟩
    · (refine aIf_str rfl rfl rfl (by simp only [List.length_append, List.length_cons, List.length_nil]; omega) ?_)
      simp (disch := first | omega | (simp only [go_sem]; first | done | omega)) only [go_sem]
      refine itoa_a v (by omega) (by omega) ?_
      simp (disch := first | omega | (simp only [go_sem]; first | done | omega)) only [go_sem]
      rw [show (⟨(Lib.itoa v).toArray⟩ : ByteArray) = tB (Lib.itoa v) from rfl]
      (refine aIf_str rfl rfl rfl (by simp only [List.length_append, List.length_cons, List.length_nil]; omega) ?_)
      simp (disch := first | omega | (simp only [go_sem]; first | done | omega)) only [go_sem]
      exact Ret.drop hH (Nat.le_refl _) trivial hk
    · refine itoa_a v (by omega) (by omega) ?_
      simp (disch := first | omega | (simp only [go_sem]; first | done | omega)) only [go_sem]
      rw [show (⟨(Lib.itoa v).toArray⟩ : ByteArray) = tB (Lib.itoa v) from rfl]
      (refine aIf_str rfl rfl rfl (by simp only [List.length_append, List.length_cons, List.length_nil]; omega) ?_)
      simp (disch := first | omega | (simp only [go_sem]; first | done | omega)) only [go_sem]
      (refine aIf_str rfl rfl rfl (by simp only [List.length_append, List.length_cons, List.length_nil]; omega) ?_)
      simp (disch := first | omega | (simp only [go_sem]; first | done | omega)) only [go_sem]
      exact Ret.drop hH (Nat.le_refl _) trivial hk
  | N + 1, .neg a, H, K, hs, hN, he, hk => by
    simp only [szE] at hs
    have hl := fmtF_len a 4 he
    have hl2 := fmt_len a he
    have h7 := encT_l a
    have h6 := encT_t a
    unfold encT
    refine acalls Tryz.func126 rfl (by kernel_rfl) (by simp (disch := first | omega | (simp only [go_sem]; first | done | omega)) only [go_sem]) (fun hH => ?_)
    simp (disch := first | omega | (simp only [go_sem]; first | done | omega)) only [go_sem, h6, h7]
    refine within_a a he 3 4 rfl (by omega) (by omega) (fun hk => text1_a N a (by omega) (by omega) he hk) ?_
    simp (disch := first | omega | (simp only [go_sem]; first | done | omega)) only [go_sem]
    (refine aIf_str rfl rfl rfl (by simp only [List.length_append, List.length_cons, List.length_nil]; omega) ?_)
    simp (disch := first | omega | (simp only [go_sem]; first | done | omega)) only [go_sem]
    exact Ret.drop hH (Nat.le_refl _) trivial hk
  | N + 1, .f1 f a, H, K, hs, hN, he, hk => by
    simp only [szE] at hs
    refine text1F_a f [a] he.1 (by simp) (fun x hx => ?_) (fun x hx => ?_) (by simpa [joinL, fmtB] using hk)
    · rw [List.mem_singleton.1 hx]
      exact ⟨fmt_pos a he.2, by have := fmt_len a he.2; omega⟩
    · rw [List.mem_singleton.1 hx]
      intro H K hk
      exact text1_a N a (by omega) (by omega) he.2 hk
  | N + 1, .f2 f a b, H, K, hs, hN, he, hk => by
    simp only [szE] at hs
    refine text1F_a f [a, b] he.1 (by simp) (fun x hx => ?_) (fun x hx => ?_) (by simpa [joinL, fmtB] using hk)
    · simp only [List.mem_cons, List.not_mem_nil, or_false] at hx
      rcases hx with rfl | rfl
      · exact ⟨fmt_pos _ he.2.1, by have := fmt_len _ he.2.1; omega⟩
      · exact ⟨fmt_pos _ he.2.2, by have := fmt_len _ he.2.2; omega⟩
    · simp only [List.mem_cons, List.not_mem_nil, or_false] at hx
      rcases hx with rfl | rfl
      · intro H K hk
        exact text1_a N _ (by omega) (by omega) he.2.1 hk
      · intro H K hk
        exact text1_a N _ (by omega) (by omega) he.2.2 hk
  | N + 1, .f3 f a b c, H, K, hs, hN, he, hk => by
    simp only [szE] at hs
    refine text1F_a f [a, b, c] he.1 (by simp) (fun x hx => ?_) (fun x hx => ?_) (by simpa [joinL, fmtB] using hk)
    · simp only [List.mem_cons, List.not_mem_nil, or_false] at hx
      rcases hx with rfl | rfl | rfl
      · exact ⟨fmt_pos _ he.2.1, by have := fmt_len _ he.2.1; omega⟩
      · exact ⟨fmt_pos _ he.2.2.1, by have := fmt_len _ he.2.2.1; omega⟩
      · exact ⟨fmt_pos _ he.2.2.2, by have := fmt_len _ he.2.2.2; omega⟩
    · simp only [List.mem_cons, List.not_mem_nil, or_false] at hx
      rcases hx with rfl | rfl | rfl
      · intro H K hk
        exact text1_a N _ (by omega) (by omega) he.2.1 hk
      · intro H K hk
        exact text1_a N _ (by omega) (by omega) he.2.2.1 hk
      · intro H K hk
        exact text1_a N _ (by omega) (by omega) he.2.2.2 hk
  | N + 1, .bin c a b, H, K, hs, hN, he, hk => by
    simp only [szE] at hs
    have hc := stC_3 he.1
    have hla := fun n => fmtF_len a n he.2.1
    have hlb := fun n => fmtF_len b n he.2.2
    have hl2 := fmt_len a he.2.1
    have hl3 := fmt_len b he.2.2
    have a7 := encT_l a
    have a6 := encT_t a
    have b7 := encT_l b
    have b6 := encT_t b
    obtain ⟨q, hq⟩ : ∃ q : Int, q + 1 = stC c := ⟨(stC c : Int) - 1, by omega⟩
    have hrk : ∀ {H : Hp} {K : AV → Hp → Prop}, K (.c (.int .i64 q)) H → ACalls Tryz.prog 214 [.agg (encT (.bin c a b))] H K := fun {H K} hk => rank_a (.bin c a b) he (fun r hr => by
      have : r = q := by
        have : ((stE (.bin c a b) : Nat) : Int) = stC c := rfl
        omega
      rw [this]
      exact hk)
    have hcv : (UInt8.ofNat (c.toNat : Int).toNat) = c := u8_conv
    have hc1 := c.toNat_lt
    have hwa := fun {H : Hp} {K : AV → Hp → Prop} (r : Int) (m : Nat) (hr : r + 1 = m) (hm : m ≤ 5) (hk : K (.c (.str (tB (fmtF a m)))) H) => within_a a he.2.1 r m hr hm (by omega) (fun hk => text1_a N a (by omega) (by omega) he.2.1 hk) hk
    have hwb := fun {H : Hp} {K : AV → Hp → Prop} (r : Int) (m : Nat) (hr : r + 1 = m) (hm : m ≤ 5) (hk : K (.c (.str (tB (fmtF b m)))) H) => within_a b he.2.2 r m hr hm (by omega) (fun hk => text1_a N b (by omega) (by omega) he.2.2 hk) hk
    have hcl : IntKind.i32.wrap (c.toNat : Int) = (c.toNat : Int) ∧ (c.toNat : Int) < 128 ∧ ¬ (c.toNat : Int) = 110 ∧ ¬ (c.toNat : Int) = 119 ∧ ¬ (c.toNat : Int) = 109 ∧ ¬ (c.toNat : Int) = 102 := by
      have h1 := he.1
      simp only [List.mem_cons, List.not_mem_nil, or_false] at h1
      rcases h1 with rfl | rfl | rfl | rfl | rfl | rfl <;> decide
    obtain ⟨cw, c1, c2, c3, c4, c5⟩ := hcl
    clear text1_a
    unfold encT at hrk ⊢
    refine acalls Tryz.func126 rfl (by kernel_rfl) (by simp (disch := first | omega | (simp only [go_sem]; first | done | omega)) only [go_sem]) (fun hH => ?_)
    simp (disch := first | omega | (simp only [go_sem]; first | done | omega)) only [go_sem, c1, c2, c3, c4, c5]
    refine hrk ?_
    by_cases hq0 : q = 0
    · have h1 : stC c = 1 := by omega
      rw [fmtB, h1] at hk
      have hk : K (.c (.str (tB (fmtF a 2 ++ [32] ++ [c] ++ [32] ++ fmtF b 2)))) H := by simpa [fmtF] using hk
      have ha2 := hla 2
      have hb2 := hlb 2
      simp (disch := first | omega | (simp only [go_sem]; first | done | omega)) only [go_sem, hq0]
      refine w_tree (.one 0 (.one 1 (.one 2 (.one 3 (.one 4 (.one 7 (.one 13 (.one 17 (.one 18 (.three 5 (.one 6 (.one 14 (.one 15 (.one 16 (.two 8 (.one 9 (.one 10 (.one 11 (.one 12 (.one 19 (.one 20 (.one 21 .done))))))) 19 (.one 8 (.one 9 (.one 10 (.one 11 (.one 12 (.one 20 (.one 21 .done)))))))))))) 8 (.one 9 (.one 10 (.two 5 (.one 6 (.one 11 (.one 12 (.one 14 (.one 15 (.one 16 (.one 19 (.one 20 (.one 21 .done))))))))) 14 (.two 5 (.one 6 (.one 11 (.one 12 (.one 15 (.one 16 (.one 19 (.one 20 (.one 21 .done)))))))) 15 (.two 5 (.one 6 (.one 11 (.one 12 (.one 16 (.one 19 (.one 20 (.one 21 .done))))))) 16 (.one 5 (.one 6 (.one 11 (.one 12 (.one 19 (.one 20 (.one 21 .done)))))))))))) 14 (.three 5 (.one 6 (.one 15 (.one 16 (.two 8 (.one 9 (.one 10 (.one 11 (.one 12 (.one 19 (.one 20 (.one 21 .done))))))) 19 (.one 8 (.one 9 (.one 10 (.one 11 (.one 12 (.one 20 (.one 21 .done))))))))))) 8 (.one 9 (.one 10 (.two 5 (.one 6 (.one 11 (.one 12 (.one 15 (.one 16 (.one 19 (.one 20 (.one 21 .done)))))))) 15 (.two 5 (.one 6 (.one 11 (.one 12 (.one 16 (.one 19 (.one 20 (.one 21 .done))))))) 16 (.one 5 (.one 6 (.one 11 (.one 12 (.one 19 (.one 20 (.one 21 .done))))))))))) 15 (.three 5 (.one 6 (.one 16 (.two 8 (.one 9 (.one 10 (.one 11 (.one 12 (.one 19 (.one 20 (.one 21 .done))))))) 19 (.one 8 (.one 9 (.one 10 (.one 11 (.one 12 (.one 20 (.one 21 .done)))))))))) 8 (.one 9 (.one 10 (.two 5 (.one 6 (.one 11 (.one 12 (.one 16 (.one 19 (.one 20 (.one 21 .done))))))) 16 (.one 5 (.one 6 (.one 11 (.one 12 (.one 19 (.one 20 (.one 21 .done)))))))))) 16 (.two 5 (.one 6 (.two 8 (.one 9 (.one 10 (.one 11 (.one 12 (.one 19 (.one 20 (.one 21 .done))))))) 19 (.one 8 (.one 9 (.one 10 (.one 11 (.one 12 (.one 20 (.one 21 .done))))))))) 8 (.one 9 (.one 10 (.one 5 (.one 6 (.one 11 (.one 12 (.one 19 (.one 20 (.one 21 .done)))))))))))))))))))))) (by kernel_rfl) (by decide +kernel) ?_
      simp (disch := first | omega | (simp only [go_sem]; first | done | omega)) only [go_sem, a6, a7, b6, b7, c1, cw, hcv]
      repeat' first | ((refine aIf_str rfl rfl rfl (by simp only [List.length_append, List.length_cons, List.length_nil]; omega) ?_); simp (disch := first | omega | (simp only [go_sem]; first | done | omega)) only [go_sem, a6, a7, b6, b7, c1, cw, hcv]) | (refine hwa 1 2 (by omega) (by omega) ?_; simp (disch := first | omega | (simp only [go_sem]; first | done | omega)) only [go_sem, a6, a7, b6, b7, c1, cw, hcv]) | (refine hwb 1 2 (by omega) (by omega) ?_; simp (disch := first | omega | (simp only [go_sem]; first | done | omega)) only [go_sem, a6, a7, b6, b7, c1, cw, hcv]) | (exact Ret.drop hH (Nat.le_refl _) trivial hk) | (exact Ret.drop hH (Nat.le_refl _) trivial (by simpa using hk)) | apply And.intro
    · rw [fmtB, if_neg (show ¬ stC c = 1 by omega)] at hk
      have hk : K (.c (.str (tB (fmtF a (stC c) ++ [32] ++ [c] ++ [32] ++ fmtF b (stC c + 1))))) H := by simpa [fmtF] using hk
      have ha2 := hla (stC c)
      have hb2 := hlb (stC c + 1)
      simp (disch := first | omega | (simp only [go_sem]; first | done | omega)) only [go_sem, hq0]
      refine w_tree (.one 0 (.one 1 (.one 2 (.one 3 (.one 4 (.one 7 (.one 13 (.one 17 (.one 18 (.three 5 (.one 6 (.one 14 (.one 15 (.one 16 (.two 8 (.one 9 (.one 10 (.one 11 (.one 12 (.one 19 (.one 20 (.one 21 .done))))))) 19 (.one 8 (.one 9 (.one 10 (.one 11 (.one 12 (.one 20 (.one 21 .done)))))))))))) 8 (.one 9 (.one 10 (.two 5 (.one 6 (.one 11 (.one 12 (.one 14 (.one 15 (.one 16 (.one 19 (.one 20 (.one 21 .done))))))))) 14 (.two 5 (.one 6 (.one 11 (.one 12 (.one 15 (.one 16 (.one 19 (.one 20 (.one 21 .done)))))))) 15 (.two 5 (.one 6 (.one 11 (.one 12 (.one 16 (.one 19 (.one 20 (.one 21 .done))))))) 16 (.one 5 (.one 6 (.one 11 (.one 12 (.one 19 (.one 20 (.one 21 .done)))))))))))) 14 (.three 5 (.one 6 (.one 15 (.one 16 (.two 8 (.one 9 (.one 10 (.one 11 (.one 12 (.one 19 (.one 20 (.one 21 .done))))))) 19 (.one 8 (.one 9 (.one 10 (.one 11 (.one 12 (.one 20 (.one 21 .done))))))))))) 8 (.one 9 (.one 10 (.two 5 (.one 6 (.one 11 (.one 12 (.one 15 (.one 16 (.one 19 (.one 20 (.one 21 .done)))))))) 15 (.two 5 (.one 6 (.one 11 (.one 12 (.one 16 (.one 19 (.one 20 (.one 21 .done))))))) 16 (.one 5 (.one 6 (.one 11 (.one 12 (.one 19 (.one 20 (.one 21 .done))))))))))) 15 (.three 5 (.one 6 (.one 16 (.two 8 (.one 9 (.one 10 (.one 11 (.one 12 (.one 19 (.one 20 (.one 21 .done))))))) 19 (.one 8 (.one 9 (.one 10 (.one 11 (.one 12 (.one 20 (.one 21 .done)))))))))) 8 (.one 9 (.one 10 (.two 5 (.one 6 (.one 11 (.one 12 (.one 16 (.one 19 (.one 20 (.one 21 .done))))))) 16 (.one 5 (.one 6 (.one 11 (.one 12 (.one 19 (.one 20 (.one 21 .done)))))))))) 16 (.two 5 (.one 6 (.two 8 (.one 9 (.one 10 (.one 11 (.one 12 (.one 19 (.one 20 (.one 21 .done))))))) 19 (.one 8 (.one 9 (.one 10 (.one 11 (.one 12 (.one 20 (.one 21 .done))))))))) 8 (.one 9 (.one 10 (.one 5 (.one 6 (.one 11 (.one 12 (.one 19 (.one 20 (.one 21 .done)))))))))))))))))))))) (by kernel_rfl) (by decide +kernel) ?_
      simp (disch := first | omega | (simp only [go_sem]; first | done | omega)) only [go_sem, a6, a7, b6, b7, c1, cw, hcv]
      repeat' first | ((refine aIf_str rfl rfl rfl (by simp only [List.length_append, List.length_cons, List.length_nil]; omega) ?_); simp (disch := first | omega | (simp only [go_sem]; first | done | omega)) only [go_sem, a6, a7, b6, b7, c1, cw, hcv]) | (refine hwa q (stC c) (by omega) (by omega) ?_; simp (disch := first | omega | (simp only [go_sem]; first | done | omega)) only [go_sem, a6, a7, b6, b7, c1, cw, hcv]) | (refine hwb (q + 1) (stC c + 1) (by omega) (by omega) ?_; simp (disch := first | omega | (simp only [go_sem]; first | done | omega)) only [go_sem, a6, a7, b6, b7, c1, cw, hcv]) | (exact Ret.drop hH (Nat.le_refl _) trivial hk) | (exact Ret.drop hH (Nat.le_refl _) trivial (by simpa using hk)) | apply And.intro
theorem formatOf_a {H : Hp} {K : AV → Hp → Prop} (l : List UInt8) (hl : l.length ≤ 1000000) (hne : ∀ a c, parF l = .error (a, c) → c ≠ 0) (hk : K (.tup [(.c (.str (tB (rstF l).1))), (.c (.int .i64 ((rstF l).2.1))), (.c (.int .i64 ((rstF l).2.2)))]) H) : ACalls Tryz.prog 42 [(.c (.str (tB l)))] H K := by
  unfold rstF at hk
  refine acalls Tryz.func42 rfl (by kernel_rfl) (by simp (disch := first | omega | (simp only [go_sem]; first | done | omega)) only [go_sem]) (fun hH => ?_)
  simp (disch := first | omega | (simp only [go_sem]; first | done | omega)) only [go_sem]
  refine parsedQ_a l hl (fun e h => ?_) (fun a c h => ?_)
  · rw [h] at hk
    have hs := par_sz h
    have hz := tB_size (fmtB e)
    have h7 := encT_l e
    have h6 := encT_t e
    dsimp only at hk
    simp (disch := first | omega | (simp only [go_sem]; first | done | omega)) only [go_sem, h6, h7]
    refine text1_a 501 e (by omega) (by omega) (par_good h) ?_
    by_cases h5 : 500 < (fmtB e).length
    · rw [if_pos h5] at hk
      simp (disch := first | omega | (simp only [go_sem]; first | done | omega)) only [go_sem, hz, h5]
      exact Ret.drop hH (Nat.le_refl _) (by simp [AV.ok, AV.ok1, AC.ok]) hk
    · rw [if_neg h5] at hk
      simp (disch := first | omega | (simp only [go_sem]; first | done | omega)) only [go_sem, hz, h5]
      exact Ret.drop hH (Nat.le_refl _) (by simp [AV.ok, AV.ok1, AC.ok]) hk
  · rw [h] at hk
    have hc := hne a c h
    simp (disch := first | omega | (simp only [go_sem]; first | done | omega)) only [go_sem, hc]
    exact Ret.drop hH (Nat.le_refl _) (by simp [AV.ok, AV.ok1, AC.ok]) hk
end Go.Proofs.YtebhpfhichdgaaaGreatDoor
