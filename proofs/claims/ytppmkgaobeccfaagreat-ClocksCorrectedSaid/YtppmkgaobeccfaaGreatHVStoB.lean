/- StoredOf: the document's answer. Condition: right arguments; at most 12 arrivals. -/
import Derived.Test.YtppmkgaobeccfaaGreatHVStoA
namespace Go.Proofs.YtppmkgaobeccfaaGreat
open Go Go.RowKit
set_option maxRecDepth 100000
set_option linter.all false
set_option maxHeartbeats 2000000
variable {H : Hp} {K : AV → Hp → Prop}
theorem indexRowSo_a (f : FuncId) (caps : List (Nat × Nat × Nat)) (p : Smp → Bool) (he : entersB Tryz.prog f = true) (hc : ∀ (a b c : Nat), (a, b, c) ∈ caps → a < H.length) {i ty n : Nat} {own : Bool} (l : List Smp) (hi : H[i]? = some (.row ty 3 (l.map encS) own)) (hn : n = l.length) (hf : ∀ (x : Smp) (K : AV → Hp → Prop), x ∈ l → K (.c (.bool (p x))) H → ACalls Tryz.prog f (.agg (encS x) :: caps.map fun q => .c (.ptr (some q))) H K) (hlen : l.length ≤ 1099511627776)
    (hk0 : l.any p = false → K (.c (.int .i64 (-1))) H) (hk1 : ∀ k : Nat, (h : k < l.length) → p l[k] = true → (∀ j (h : j < l.length), j < k → p l[j] = false) → K (.c (.int .i64 k)) H) : ACalls Tryz.prog 143 [.c (.sl (some (i, 0)) n), .c (.fn f [] caps)] H K := by
  subst hn
  have hilt := getElem?_lt hi
  refine acalls Tryz.func143 rfl (by kernel_rfl) (by simp (disch := first | omega | (simp only [go_sem]; first | done | omega)) only [go_sem]) (fun hH => ?_)
  simp (disch := first | omega | (simp only [go_sem]; first | done | omega)) only [go_sem]
  refine AWp.loop (H.length) [0, 1, 7] [8] (fun (k : Nat) => k ≤ l.length ∧ ∀ j (h : j < l.length), j < k → p l[j] = false) (fun (k : Nat) => [(8, (.c (.int .i64 k)))]) (fun (k : Nat) => H) (fun (k : Nat) => l.length - k) (by kernel_rfl) (fun _ => rfl) (by kernel_rfl) (by first | (simp; done) | omega) (by first | (simp; done) | (simp; omega) | omega) (by (try simp only [List.forall_mem_cons, List.not_mem_nil, false_implies, implies_true, and_true]); (try simp (disch := first | omega | (simp only [go_sem]; first | done | omega)) only [go_sem]); all_goals first | trivial | (simp [AV.ok, AV.ok1, AC.ok]; done) | (simp [AV.ok, AV.ok1, AC.ok]; omega) | (simp [AV.ok, AV.ok1, AC.ok]; assumption) | ((repeat' apply And.intro) <;> first | trivial | (simp [AV.ok, AV.ok1, AC.ok]; done) | (simp [AV.ok, AV.ok1, AC.ok]; omega) | (simp [AV.ok, AV.ok1, AC.ok]; assumption) | (refine grV_ok ?_ _; first | (simp; done) | (simp; omega) | omega))) ?_ (fun k hk1' _ _ => ?_)
  · exact Next.mk 0 (by simp) (by (try simp (disch := first | omega | (simp only [go_sem]; first | done | omega)) only [go_sem]); (first | refine WkL.eq ?_ ?_ | refine WkL.rest (by assumption) ?_ ?_ ?_ | refine WkL.keepL (by assumption) rfl ?_ ?_ ?_ ?_) <;> first | rfl | (simp; done) | (simp; omega) | (simp only [List.cons.injEq, AV.c.injEq, AC.int.injEq, AC.bool.injEq, AC.str.injEq, and_true, true_and, Int.natCast_add, Int.natCast_one, Int.cast_ofNat_Int]; omega) | (simp [AV.ok, AV.ok1, AC.ok]; done) | (simp [AV.ok, AV.ok1, AC.ok]; omega) | (simp only [List.forall_mem_cons, List.not_mem_nil, false_implies, implies_true, and_true]; (repeat' apply And.intro) <;> first | exact okN_map (fun x => by simp [go_sem, AC.pure]) | exact okN_grO (fun x => by simp [go_sem, AC.pure]) | (simp [AObj.okN, AC.ok]; done) | (simp [AObj.okN, AC.ok]; omega)) | (simp [*]; done) | grind)
  obtain ⟨hk1', hk2⟩ := hk1'
  by_cases hlt : k < l.length
  · simp (disch := first | omega | (simp only [go_sem]; first | done | omega)) only [go_sem, he, hi]
    refine hf l[k] _ (List.getElem_mem hlt) ?_
    simp (disch := first | omega | (simp only [go_sem]; first | done | omega)) only [go_sem]
    refine acond_b (fun c => ?_) (fun c => ?_)
    · simp (disch := first | omega | (simp only [go_sem]; first | done | omega)) only [go_sem]
      exact Ret.same (Nat.le_refl _) (hk1 k hlt c hk2)
    · simp (disch := first | omega | (simp only [go_sem]; first | done | omega)) only [go_sem]
      refine Next.mk (k + 1) ⟨⟨by omega, fun j h hj => ?_⟩, by omega⟩ (by (try simp (disch := first | omega | (simp only [go_sem]; first | done | omega)) only [go_sem]); (first | refine WkL.eq ?_ ?_ | refine WkL.rest (by assumption) ?_ ?_ ?_ | refine WkL.keepL (by assumption) rfl ?_ ?_ ?_ ?_) <;> first | rfl | (simp; done) | (simp; omega) | (simp only [List.cons.injEq, AV.c.injEq, AC.int.injEq, AC.bool.injEq, AC.str.injEq, and_true, true_and, Int.natCast_add, Int.natCast_one, Int.cast_ofNat_Int]; omega) | (simp [AV.ok, AV.ok1, AC.ok]; done) | (simp [AV.ok, AV.ok1, AC.ok]; omega) | (simp only [List.forall_mem_cons, List.not_mem_nil, false_implies, implies_true, and_true]; (repeat' apply And.intro) <;> first | exact okN_map (fun x => by simp [go_sem, AC.pure]) | exact okN_grO (fun x => by simp [go_sem, AC.pure]) | (simp [AObj.okN, AC.ok]; done) | (simp [AObj.okN, AC.ok]; omega)) | (simp [*]; done) | grind)
      rcases Nat.lt_or_ge j k with h1 | h1
      · exact hk2 j h h1
      · obtain rfl : j = k := by omega
        simpa using c
  · simp (disch := first | omega | (simp only [go_sem]; first | done | omega)) only [go_sem]
    refine Ret.same (Nat.le_refl _) (hk0 ?_)
    rw [List.any_eq_false]
    intro x hx
    obtain ⟨j, hj, rfl⟩ := List.getElem_of_mem hx
    simpa using hk2 j hj (by omega)
theorem containsSo_a (f : FuncId) (caps : List (Nat × Nat × Nat)) (p : Smp → Bool) (he : entersB Tryz.prog f = true) (hc : ∀ (a b c : Nat), (a, b, c) ∈ caps → a < H.length) {i : Nat} (l : List Smp) (hi : H[i]? = some (grO 52 3 (l.map encS))) (hf : ∀ (x : Smp) (K : AV → Hp → Prop), x ∈ l → K (.c (.bool (p x))) H → ACalls Tryz.prog f (.agg (encS x) :: caps.map fun q => .c (.ptr (some q))) H K) (hlen : l.length ≤ 1099511627776)
    (hk : K (.c (.bool (l.any p))) H) : ACalls Tryz.prog 82 [.c (grV i l), .c (.fn f [] caps)] H K := by
  by_cases h0 : l = []
  · subst h0
    have hnil : ∀ (K : AV → Hp → Prop), K (.c (.int .i64 (-1))) H → ACalls Tryz.prog 143 [.c (.sl none 0), .c (.fn f [] caps)] H K := by
      intro K hk
      refine acalls Tryz.func143 rfl (by kernel_rfl) (by simp (disch := first | omega | (simp only [go_sem]; first | done | omega)) only [go_sem]) (fun hH => ?_)
      simp (disch := first | omega | (simp only [go_sem]; first | done | omega)) only [go_sem]
      refine AWp.rounds 0 (by kernel_rfl) ?_
      simp (disch := first | omega | (simp only [go_sem]; first | done | omega)) only [go_sem]
      exact Ret.same (Nat.le_refl _) hk
    show ACalls _ _ [.c (.sl none 0), .c (.fn f [] caps)] H K
    refine acalls Tryz.func82 rfl (by kernel_rfl) (by simp (disch := first | omega | (simp only [go_sem]; first | done | omega)) only [go_sem]) (fun hH => ?_)
    simp (disch := first | omega | (simp only [go_sem]; first | done | omega)) only [go_sem]
    refine hnil _ ?_
    simp (disch := first | omega | (simp only [go_sem]; first | done | omega)) only [go_sem]
    exact Ret.same (Nat.le_refl _) hk
  · rw [grO_pos _ _ (by simpa using h0)] at hi
    rw [grV_pos _ h0]
    refine acalls Tryz.func82 rfl (by kernel_rfl) (by simp (disch := first | omega | (simp only [go_sem]; first | done | omega)) only [go_sem]) (fun hH => ?_)
    simp (disch := first | omega | (simp only [go_sem]; first | done | omega)) only [go_sem]
    refine indexRowSo_a f caps p he hc l hi rfl hf hlen (fun h => ?_) (fun k h1 h2 _ => ?_)
    · rw [h] at hk
      simp (disch := first | omega | (simp only [go_sem]; first | done | omega)) only [go_sem]
      exact Ret.same (Nat.le_refl _) hk
    · rw [show l.any p = true from List.any_eq_true.2 ⟨_, List.getElem_mem h1, h2⟩] at hk
      simp (disch := first | omega | (simp only [go_sem]; first | done | omega)) only [go_sem]
      exact Ret.same (Nat.le_refl _) hk
theorem stoFn_a (x y : Smp) {i ty : Nat} {own : Bool} (hi : H[i]? = some (.row ty 3 [encS x] own)) (hk : K (.c (.bool (decide (y.t = x.t)))) H) : ACalls Tryz.prog 83 [.agg (encS y), .c (.ptr (some (i, 0, 0)))] H K := by
  have hilt := getElem?_lt hi
  refine acalls Tryz.func83 rfl (by kernel_rfl) (by simp (disch := first | omega | (simp only [go_sem]; first | done | omega)) only [go_sem]) (fun hH => ?_)
  simp (disch := first | omega | (simp only [go_sem]; first | done | omega)) only [go_sem, hi]
  exact Ret.drop hH (Nat.le_refl _) trivial hk
theorem tC_sub (x y : Smp) : (if x.t - y.t < 0 then (-1 : Int) else if 0 < x.t - y.t then 1 else 0) = tC x y := by
  unfold tC
  repeat' split
  all_goals omega
theorem stoCmpR_a (x y : Smp) (hx : 0 ≤ x.t ∧ x.t ≤ 345686399999) (hy : 0 ≤ y.t ∧ y.t ≤ 345686399999) (hk : K (.c (.int .i64 (tC x y))) H) : ACalls Tryz.prog 84 [.agg (encS x), .agg (encS y)] H K := by
  refine acalls Tryz.func84 rfl (by kernel_rfl) (by simp (disch := first | omega | (simp only [go_sem]; first | done | omega)) only [go_sem]) (fun hH => ?_)
  simp (disch := first | omega | (simp only [go_sem]; first | done | omega)) only [go_sem]
  refine sign_a _ _ _ ?_
  rw [tC_sub]
  simp (disch := first | omega | (simp only [go_sem]; first | done | omega)) only [go_sem]
  exact Ret.drop hH (Nat.le_refl _) trivial hk
theorem capW {n m : Nat} (h : n < m) : ∀ (a b c : Nat), (a, b, c) ∈ [(n, 0, 0)] → a < m := by
  intro a b c hm
  simp at hm
  omega
theorem stX_bd {cs : List NCl} {a : Arr} (ha : smpErr a.p.s = 0) : 0 ≤ (stX cs a).t ∧ (stX cs a).t ≤ 345686399999 := by
  have := smpErr_bd ha
  exact corrF_bd this.1 this.2
theorem stQ_bd {l : List Arr} (he : arF l = 0) (cs : List NCl) (tag : ByteArray) (k : Nat) : ∀ y ∈ (stQ l cs tag k).1, 0 ≤ y.t ∧ y.t ≤ 345686399999 := by
  have key : ∀ (is : List Nat) (s : List Smp × List Int), (∀ y ∈ s.1, 0 ≤ y.t ∧ y.t ≤ 345686399999) → ∀ y ∈ (is.foldl (stS l cs tag) s).1, 0 ≤ y.t ∧ y.t ≤ 345686399999 := by
    intro is
    induction is with
    | nil => intro s h; exact h
    | cons i is ih =>
      intro s h
      rw [List.foldl_cons]
      refine ih _ ?_
      unfold stS
      split
      · rename_i a ha
        split
        · exact h
        · split
          · exact h
          · intro y hy
            rcases List.mem_append.1 hy with hy | hy
            · exact h y hy
            · simp at hy; subst hy
              exact stX_bd (arrErr_smp (arF_all he a (List.mem_of_getElem? ha)))
      · exact h
  unfold stQ
  exact key _ _ (by simp)
theorem storedOf_a (l : List Arr) (cs : List NCl) (tag : ByteArray) (hl : l.length ≤ 12) (he : arF l = 0) (hc : nkF cs = 0)
    (hk : K (.tup [.c (.lst 3 ((stR l cs tag).1.map encS)), .c (.lst 1 ((stR l cs tag).2.map encI))]) H) : ACalls Tryz.prog 21 [.c (.lst 7 (l.map encAr)), .c (.lst 2 (cs.map encC)), (.c (.str tag))] H K := by
  have hap := nkF_apart hc
  obtain ⟨hcl, hco⟩ := nkF_ok hc
  have hfn := fiN_len l l.length
  refine acalls Tryz.func21 rfl (by kernel_rfl) (by simp (disch := first | omega | (simp only [go_sem]; first | done | omega)) only [go_sem]) (fun hH => ?_)
  simp (disch := first | omega | (simp only [go_sem]; first | done | omega)) only [go_sem]
  refine firstsR_a l (by omega) ?_
  have hll : (fiF l l.length).length = (fiN l l.length).length := by unfold fiF; rw [List.length_map]
  have hfg : ∀ (k : Nat) (h : k < (fiF l l.length).length), (fiF l l.length)[k] = (((fiN l l.length)[k]'(by omega) : Nat) : Int) := fun k h => fiF_at l h
  simp (disch := first | omega | (simp only [go_sem]; first | done | omega)) only [go_sem]
  refine AWp.loop (H.length) [0, 1, 2, 17, 18] [19, 8, 9] (fun (k : Nat) => k ≤ (fiN l l.length).length) (fun (k : Nat) => [(19, (.c (.int .i64 k))), (8, .c (grV H.length (stQ l cs tag k).1)), (9, .c (grV (H.length + 1) (stQ l cs tag k).2))]) (fun (k : Nat) => H ++ [grO 52 3 ((stQ l cs tag k).1.map encS), grO 3 1 ((stQ l cs tag k).2.map encI)]) (fun (k : Nat) => (fiN l l.length).length - k) (by kernel_rfl) (fun _ => rfl) (by kernel_rfl) (by first | (simp; done) | omega) (by first | (simp; done) | (simp; omega) | omega) (by (try simp only [List.forall_mem_cons, List.not_mem_nil, false_implies, implies_true, and_true]); (try simp (disch := first | omega | (simp only [go_sem]; first | done | omega)) only [go_sem]); all_goals first | trivial | (simp [AV.ok, AV.ok1, AC.ok]; done) | (simp [AV.ok, AV.ok1, AC.ok]; omega) | (simp [AV.ok, AV.ok1, AC.ok]; assumption) | ((repeat' apply And.intro) <;> first | trivial | (simp [AV.ok, AV.ok1, AC.ok]; done) | (simp [AV.ok, AV.ok1, AC.ok]; omega) | (simp [AV.ok, AV.ok1, AC.ok]; assumption) | (refine grV_ok ?_ _; first | (simp; done) | (simp; omega) | omega))) ?_ (fun k q1 _ _ => ?_)
  · refine Next.mk 0 (Nat.zero_le _) ?_
    exact WkL.trans (WkL.pad (by omega)) (WkL.padP [_] (by simp))
  by_cases hlt : k < (fiN l l.length).length
  · have hlt2 : k < (fiF l l.length).length := by omega
    have hnx := stQ_next l cs tag hlt
    have hln := stQ_len l cs tag k
    obtain ⟨hm1, hm2⟩ := fiN_lt l hlt
    have hfk := hfg k hlt2
    generalize (fiN l l.length)[k] = m at *
    obtain ⟨x, hx⟩ : ∃ x, x = l[m] := ⟨_, rfl⟩
    have hb2 := smpErr_bd (arrErr_smp (arF_all he x (hx ▸ List.getElem_mem hm1)))
    have hst : stS l cs tag (stQ l cs tag k) m = if x.p.tag ≠ tag then stQ l cs tag k else if (stQ l cs tag k).1.any (fun y => decide (y.t = (stX cs x).t)) = true then ((stQ l cs tag k).1, (stQ l cs tag k).2 ++ [(m : Int)]) else ((stQ l cs tag k).1 ++ [stX cs x], (stQ l cs tag k).2) := by
      unfold stS; rw [List.getElem?_eq_getElem hm1, ← hx]
    rw [hst] at hnx
    clear hst
    generalize stQ l cs tag k = st at *
    obtain ⟨o, f⟩ := st
    dsimp only at hnx hln ⊢
    by_cases htg : x.p.tag = tag
    · rw [if_neg (by simp [htg])] at hnx
      have hcg : (⟨corG cs x.nd x.p.s.t, x.p.s.v, x.p.s.q⟩ : Smp) = stX cs x := by rw [corG_is _ _ _ hap]; rfl
      simp (disch := first | omega | (simp only [go_sem]; first | done | omega)) only [go_sem, hlt2, hfk, hm1, ← hx, htg]
      refine AWp.loop (H.length + 4) [0, 1, 2, 8, 9, 11, 12, 13, 17, 18, 19, 35, 36] [37] (fun (jj : Nat) => jj ≤ cs.length) (fun (jj : Nat) => [(37, (.c (.int .i64 jj)))]) (fun (jj : Nat) => H ++ [grO 52 3 (o.map encS), grO 3 1 (f.map encI), .row 61 7 [[.str x.nd, .int .i64 x.t, .int .i64 x.p.n, .str tag, .int .i64 x.p.s.t, .int .i64 x.p.s.v, .int .i64 x.p.s.q]] true, .row 52 3 [encS ⟨corG (cs.take jj) x.nd x.p.s.t, x.p.s.v, x.p.s.q⟩] true]) (fun (jj : Nat) => cs.length - jj) (by kernel_rfl) (fun _ => rfl) (by kernel_rfl) (by first | (simp; done) | omega) (by first | (simp; done) | (simp; omega) | omega) (by (try simp only [List.forall_mem_cons, List.not_mem_nil, false_implies, implies_true, and_true]); (try simp (disch := first | omega | (simp only [go_sem]; first | done | omega)) only [go_sem]); all_goals first | trivial | (simp [AV.ok, AV.ok1, AC.ok]; done) | (simp [AV.ok, AV.ok1, AC.ok]; omega) | (simp [AV.ok, AV.ok1, AC.ok]; assumption) | ((repeat' apply And.intro) <;> first | trivial | (simp [AV.ok, AV.ok1, AC.ok]; done) | (simp [AV.ok, AV.ok1, AC.ok]; omega) | (simp [AV.ok, AV.ok1, AC.ok]; assumption) | (refine grV_ok ?_ _; first | (simp; done) | (simp; omega) | omega))) ?_ (fun jj j1 _ _ => ?_)
      · refine Next.mk 0 (Nat.zero_le _) ?_
        (try simp (disch := first | omega | (simp only [go_sem]; first | done | omega)) only [go_sem]); (first | refine WkL.eq ?_ ?_ | refine WkL.rest (by assumption) ?_ ?_ ?_ | refine WkL.keepL (by assumption) rfl ?_ ?_ ?_ ?_) <;> first | rfl | (simp; done) | (simp; omega) | (simp only [List.cons.injEq, AV.c.injEq, AC.int.injEq, AC.bool.injEq, AC.str.injEq, and_true, true_and, Int.natCast_add, Int.natCast_one, Int.cast_ofNat_Int]; omega) | (simp [AV.ok, AV.ok1, AC.ok]; done) | (simp [AV.ok, AV.ok1, AC.ok]; omega) | (simp only [List.forall_mem_cons, List.not_mem_nil, false_implies, implies_true, and_true]; (repeat' apply And.intro) <;> first | exact okN_map (fun x => by simp [go_sem, AC.pure]) | exact okN_grO (fun x => by simp [go_sem, AC.pure]) | (simp [AObj.okN, AC.ok]; done) | (simp [AObj.okN, AC.ok]; omega)) | (simp [*]; done) | grind
      by_cases hjl : jj < cs.length
      · obtain ⟨y, hy⟩ : ∃ y, y = cs[jj] := ⟨_, rfl⟩
        have hsn := corG_snoc cs x.nd x.p.s.t hjl
        have hgb := corG_bd (n := x.nd) (cs.take jj) x.p.s.t hb2.1 hb2.2
        have hck := hco y (hy ▸ List.getElem_mem hjl)
        rw [← hy] at hsn
        generalize corG (cs.take jj) x.nd x.p.s.t = T at *
        by_cases hnn : y.nd = x.nd
        · rw [if_pos hnn] at hsn
          simp (disch := first | omega | (simp only [go_sem]; first | done | omega)) only [go_sem, hjl, ← hy, hnn]
          refine correctedOf_a y.c T hck hgb.1 hgb.2 ?_
          simp (disch := first | omega | (simp only [go_sem]; first | done | omega)) only [go_sem]
          refine Next.mk (jj + 1) ⟨by omega, by omega⟩ ?_
          rw [hsn]
          refine WkL.keepL hH rfl (by simp) rfl ?_ ?_
          · intro q hq
            simp only [List.mem_cons, List.not_mem_nil, or_false] at hq
            rcases hq with rfl | rfl | rfl | rfl
            · exact okN_grO (enc := encS) (fun x => by simp [go_sem, AC.pure])
            · exact okN_grO (enc := encI) (fun x => by simp [go_sem, AC.pure])
            · exact okN_pure rfl rfl _
            · exact okN_pure rfl rfl _
          · intro v hv
            simp only [newV, List.map_cons, List.map_nil, List.mem_cons, List.not_mem_nil, or_false] at hv
            subst hv
            trivial
        · rw [if_neg hnn] at hsn
          simp (disch := first | omega | (simp only [go_sem]; first | done | omega)) only [go_sem, hjl, ← hy, hnn]
          refine Next.mk (jj + 1) ⟨by omega, by omega⟩ ?_
          rw [hsn]
          refine WkL.keepL hH rfl (by simp) rfl ?_ ?_
          · intro q hq
            simp only [List.mem_cons, List.not_mem_nil, or_false] at hq
            rcases hq with rfl | rfl | rfl | rfl
            · exact okN_grO (enc := encS) (fun x => by simp [go_sem, AC.pure])
            · exact okN_grO (enc := encI) (fun x => by simp [go_sem, AC.pure])
            · exact okN_pure rfl rfl _
            · exact okN_pure rfl rfl _
          · intro v hv
            simp only [newV, List.map_cons, List.map_nil, List.mem_cons, List.not_mem_nil, or_false] at hv
            subst hv
            trivial
      · rw [List.take_of_length_le (by omega), hcg]
        generalize stX cs x = X at *
        simp (disch := first | omega | (simp only [go_sem]; first | done | omega)) only [go_sem, hjl]
        refine containsSo_a 83 [(H.length + 3, 0, 0)] (fun y => decide (y.t = X.t)) (by kernel_rfl) (capW (by simp)) o (by first | exact at0 (by simp) | exact at1 (by simp) | exact at2 (by simp) | exact at3 (by simp) | exact at4 (by simp) | exact at5 (by simp) | exact atG 6 (by simp) rfl | exact atG 7 (by simp) rfl | exact atG 8 (by simp) rfl | exact atG 9 (by simp) rfl | exact atG 10 (by simp) rfl | exact atG 11 (by simp) rfl | exact atG 12 (by simp) rfl | exact atG 13 (by simp) rfl | exact atG 14 (by simp) rfl | exact atG 15 (by simp) rfl | assumption) (fun y K1 _ hK1 => stoFn_a X y (by first | exact at0 (by simp) | exact at1 (by simp) | exact at2 (by simp) | exact at3 (by simp) | exact at4 (by simp) | exact at5 (by simp) | exact atG 6 (by simp) rfl | exact atG 7 (by simp) rfl | exact atG 8 (by simp) rfl | exact atG 9 (by simp) rfl | exact atG 10 (by simp) rfl | exact atG 11 (by simp) rfl | exact atG 12 (by simp) rfl | exact atG 13 (by simp) rfl | exact atG 14 (by simp) rfl | exact atG 15 (by simp) rfl | assumption) hK1) (by omega) ?_
        cases hb : o.any (fun y => decide (y.t = X.t)) with
        | true =>
          rw [hb, if_pos rfl] at hnx
          obtain ⟨f2, hf2⟩ : ∃ f2, f2 = f ++ [(m : Int)] := ⟨_, rfl⟩
          rw [← hf2] at hnx
          simp (disch := first | omega | (simp only [go_sem]; first | done | omega)) only [go_sem]
          refine appI f (m : Int) f2 hf2 (by first | exact at0 (by simp) | exact at1 (by simp) | exact at2 (by simp) | exact at3 (by simp) | exact at4 (by simp) | exact at5 (by simp) | exact atG 6 (by simp) rfl | exact atG 7 (by simp) rfl | exact atG 8 (by simp) rfl | exact atG 9 (by simp) rfl | exact atG 10 (by simp) rfl | exact atG 11 (by simp) rfl | exact atG 12 (by simp) rfl | exact atG 13 (by simp) rfl | exact atG 14 (by simp) rfl | exact atG 15 (by simp) rfl | assumption) (by first | exact at0 (by simp) | exact at1 (by simp) | exact at2 (by simp) | exact at3 (by simp) | exact at4 (by simp) | exact at5 (by simp) | exact atG 6 (by simp) rfl | exact atG 7 (by simp) rfl | exact atG 8 (by simp) rfl | exact atG 9 (by simp) rfl | exact atG 10 (by simp) rfl | exact atG 11 (by simp) rfl | exact atG 12 (by simp) rfl | exact atG 13 (by simp) rfl | exact atG 14 (by simp) rfl | exact atG 15 (by simp) rfl | assumption) (by omega) ?_
          simp (disch := first | omega | (simp only [go_sem]; first | done | omega)) only [go_sem]
          refine Next.mk (k + 1) ⟨by omega, by omega⟩ ?_
          rw [hnx]
          ((try simp (disch := first | omega | (simp only [go_sem]; first | done | omega)) only [go_sem]); (refine WkL.pick [0, 5] ?_ ?_ rfl ?_ ?_ ?_ ?_) <;> first | (simp only [List.map_cons, List.map_nil, av_ren_gr]; (try simp only [AV.ren, AV.ren1, AC.ren, renP]); (try simp only [pickS_add, pickS_zero]); rfl) | (simp only [List.all_cons, List.all_nil, Bool.and_true, Bool.and_eq_true]; (repeat' apply And.intro) <;> first | exact pureO_gr (pureL_map _ (fun x => by simp [go_sem, AC.pure])) | (simp [AObj.pureO, pureL, go_sem, AC.pure]; done)) | assumption | exact HOk.str (by assumption) | (simp; done) | (simp; omega) | (simp [pureO_gr, AObj.pureO, pureL, go_sem, AC.pure]; done) | (simp only [List.all_cons, List.all_nil, Bool.and_true]; exact pureO_gr (pureL_map _ (fun x => by simp [go_sem, AC.pure]))) | ((try simp only [List.map_cons, List.map_nil, av_ren_gr]); simp [AV.ren, AV.ren1, AC.ren, pickS]; first | done | omega) | (simp only [List.forall_mem_cons, List.not_mem_nil, false_implies, implies_true, and_true]; (repeat' apply And.intro) <;> first | trivial | exact grV_ok (by simp) _ | exact okN_grO (fun x => by simp [go_sem, AC.pure]) | exact okN_map (fun x => by simp [go_sem, AC.pure]) | (simp [AV.ok, AV.ok1, AC.ok]; done) | (simp [AV.ok, AV.ok1, AC.ok]; omega) | (simp [AObj.okN, AC.ok]; done)) | (simp [AObj.okN]; done))
        | false =>
          rw [hb, if_neg (by simp)] at hnx
          simp (disch := first | omega | (simp only [go_sem]; first | done | omega)) only [go_sem]
          (refine app_gr (enc := encS) (e := 52) (sz := 3) (bs := 24) (z := [.int .i64 0, .int .i64 0, .int .i64 0]) (o) (X) (by kernel_rfl) (by kernel_rfl) (by kernel_rfl) (by kernel_rfl) (by first | exact at0 (by simp) | exact at1 (by simp) | exact at2 (by simp) | exact at3 (by simp) | exact at4 (by simp) | exact at5 (by simp) | exact atG 6 (by simp) rfl | exact atG 7 (by simp) rfl | exact atG 8 (by simp) rfl | exact atG 9 (by simp) rfl | exact atG 10 (by simp) rfl | exact atG 11 (by simp) rfl | exact atG 12 (by simp) rfl | exact atG 13 (by simp) rfl | exact atG 14 (by simp) rfl | exact atG 15 (by simp) rfl | assumption) (by first | (simp (disch := first | omega | (simp only [go_sem]; first | done | omega)) only [go_sem]; done) | (simp (disch := first | omega | (simp only [go_sem]; first | done | omega)) only [go_sem]; rfl) | (simp (disch := first | omega | (simp only [go_sem]; first | done | omega)) only [go_sem]; simp [go_sem]; done) | (simp (disch := first | omega | (simp only [go_sem]; first | done | omega)) only [go_sem]; simp [*]; done)) rfl (by decide) (by omega) (by omega) (by rfl) ?_)
          simp (disch := first | omega | (simp only [go_sem]; first | done | omega)) only [go_sem]
          refine Next.mk (k + 1) ⟨by omega, by omega⟩ ?_
          rw [hnx]
          ((try simp (disch := first | omega | (simp only [go_sem]; first | done | omega)) only [go_sem]); (refine WkL.pick [5, 1] ?_ ?_ rfl ?_ ?_ ?_ ?_) <;> first | (simp only [List.map_cons, List.map_nil, av_ren_gr]; (try simp only [AV.ren, AV.ren1, AC.ren, renP]); (try simp only [pickS_add, pickS_zero]); rfl) | (simp only [List.all_cons, List.all_nil, Bool.and_true, Bool.and_eq_true]; (repeat' apply And.intro) <;> first | exact pureO_gr (pureL_map _ (fun x => by simp [go_sem, AC.pure])) | (simp [AObj.pureO, pureL, go_sem, AC.pure]; done)) | assumption | exact HOk.str (by assumption) | (simp; done) | (simp; omega) | (simp [pureO_gr, AObj.pureO, pureL, go_sem, AC.pure]; done) | (simp only [List.all_cons, List.all_nil, Bool.and_true]; exact pureO_gr (pureL_map _ (fun x => by simp [go_sem, AC.pure]))) | ((try simp only [List.map_cons, List.map_nil, av_ren_gr]); simp [AV.ren, AV.ren1, AC.ren, pickS]; first | done | omega) | (simp only [List.forall_mem_cons, List.not_mem_nil, false_implies, implies_true, and_true]; (repeat' apply And.intro) <;> first | trivial | exact grV_ok (by simp) _ | exact okN_grO (fun x => by simp [go_sem, AC.pure]) | exact okN_map (fun x => by simp [go_sem, AC.pure]) | (simp [AV.ok, AV.ok1, AC.ok]; done) | (simp [AV.ok, AV.ok1, AC.ok]; omega) | (simp [AObj.okN, AC.ok]; done)) | (simp [AObj.okN]; done))
    · rw [if_pos htg] at hnx
      simp (disch := first | omega | (simp only [go_sem]; first | done | omega)) only [go_sem, hlt2, hfk, hm1, ← hx, htg]
      refine Next.mk (k + 1) ⟨by omega, by omega⟩ ?_
      rw [hnx]
      ((try simp (disch := first | omega | (simp only [go_sem]; first | done | omega)) only [go_sem]); (refine WkL.pick [0, 1] ?_ ?_ rfl ?_ ?_ ?_ ?_) <;> first | (simp only [List.map_cons, List.map_nil, av_ren_gr]; (try simp only [AV.ren, AV.ren1, AC.ren, renP]); (try simp only [pickS_add, pickS_zero]); rfl) | (simp only [List.all_cons, List.all_nil, Bool.and_true, Bool.and_eq_true]; (repeat' apply And.intro) <;> first | exact pureO_gr (pureL_map _ (fun x => by simp [go_sem, AC.pure])) | (simp [AObj.pureO, pureL, go_sem, AC.pure]; done)) | assumption | exact HOk.str (by assumption) | (simp; done) | (simp; omega) | (simp [pureO_gr, AObj.pureO, pureL, go_sem, AC.pure]; done) | (simp only [List.all_cons, List.all_nil, Bool.and_true]; exact pureO_gr (pureL_map _ (fun x => by simp [go_sem, AC.pure]))) | ((try simp only [List.map_cons, List.map_nil, av_ren_gr]); simp [AV.ren, AV.ren1, AC.ren, pickS]; first | done | omega) | (simp only [List.forall_mem_cons, List.not_mem_nil, false_implies, implies_true, and_true]; (repeat' apply And.intro) <;> first | trivial | exact grV_ok (by simp) _ | exact okN_grO (fun x => by simp [go_sem, AC.pure]) | exact okN_map (fun x => by simp [go_sem, AC.pure]) | (simp [AV.ok, AV.ok1, AC.ok]; done) | (simp [AV.ok, AV.ok1, AC.ok]; omega) | (simp [AObj.okN, AC.ok]; done)) | (simp [AObj.okN]; done))
  · have hkl : k = (fiN l l.length).length := by omega
    subst hkl
    have hbd := stQ_bd he cs tag (fiN l l.length).length
    have hln := stQ_len l cs tag (fiN l l.length).length
    rw [stQ_all] at hbd hln ⊢
    unfold stR at hk
    generalize stP l cs tag l.length = st at *
    obtain ⟨o, f⟩ := st
    dsimp only at hbd hln hk ⊢
    simp (disch := first | omega | (simp only [go_sem]; first | done | omega)) only [go_sem, hll]
    refine sort12Sm_a 84 tC tLt (fun y => 0 ≤ y.t ∧ y.t ≤ 345686399999) (by kernel_rfl) (fun x y _ _ => tC_lt x y) (fun x y H K hx hy hk => stoCmpR_a x y hx hy hk) o (by first | exact at0 (by simp) | exact at1 (by simp) | exact at2 (by simp) | exact at3 (by simp) | exact at4 (by simp) | exact at5 (by simp) | exact atG 6 (by simp) rfl | exact atG 7 (by simp) rfl | exact atG 8 (by simp) rfl | exact atG 9 (by simp) rfl | exact atG 10 (by simp) rfl | exact atG 11 (by simp) rfl | exact atG 12 (by simp) rfl | exact atG 13 (by simp) rfl | exact atG 14 (by simp) rfl | exact atG 15 (by simp) rfl | assumption) hbd (by omega) ?_
    simp (disch := first | omega | (simp only [go_sem]; first | done | omega)) only [go_sem]
    have e : grV H.length o = grV H.length ((isortG tLt o).map encS) := by rw [map_grV]; exact grV_lenA _ _ _ (isortG_len tLt o).symm
    rw [e]
    exact Ret.frzGr2 0 1 (by omega) hH (Nat.le_refl _) rfl rfl (pureL_map _ (fun x => by simp [go_sem, AC.pure])) (pureL_map _ (fun x => by simp [go_sem, AC.pure])) rfl rfl (by rw [map_grV]) hk
end Go.Proofs.YtppmkgaobeccfaaGreat
