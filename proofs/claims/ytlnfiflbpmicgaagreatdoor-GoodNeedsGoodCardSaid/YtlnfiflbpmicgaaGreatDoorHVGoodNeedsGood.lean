/- GoodNeedsGood: what the law's function answers for all numbers it is given. No condition. -/
import Derived.Test.YtlnfiflbpmicgaaGreatDoorHVGdL
import Derived.Test.YtlnfiflbpmicgaaGreatDoorHVTxtS
import Derived.Test.YtlnfiflbpmicgaaGreatDoorHVSrl
import Derived.Test.YtlnfiflbpmicgaaGreatDoorHVReady
namespace Go.Proofs.YtlnfiflbpmicgaaGreatDoor
open Go Go.RowKit
set_option maxRecDepth 100000
set_option linter.all false
set_option maxHeartbeats 4000000
variable {H : Hp} {K : AV → Hp → Prop}
theorem par_neG {l : List UInt8} {a c : Int} (h : parF l = .error (a, c)) : c ≠ 0 := by
  unfold parF at h
  repeat' split at h
  all_goals first | (cases h; done) | (injection h with h; injection h with h1 h2; omega)
theorem cplG_leG {α : Type} [DecidableEq α] : ∀ (t : List α) (x : α), (cplG x t).length ≤ t.length
  | [], _ => Nat.le_refl _
  | y :: t, x => by
    have := cplG_leG t y
    unfold cplG
    rw [List.length_append, List.length_cons]
    split
    · simp only [List.length_nil]; omega
    · simp only [List.length_cons, List.length_nil]; omega
theorem tagsE_lenG (e : Ex) : (tagsE e).length ≤ szE e := by
  have h1 : (cplF (srtS (nmsE e))).length ≤ (srtS (nmsE e)).length := by
    cases srtS (nmsE e) with
    | nil => exact Nat.le_refl _
    | cons x t =>
      have := cplG_leG t x
      unfold cplF
      simp only [List.length_cons]
      omega
  have h2 := srtS_len (nmsE e)
  have h3 := nmsE_len e
  unfold tagsE
  omega
theorem goodNeedsGood_a (zs : List Int) (hz : zs.length ≤ 9223372036854775807) (hk : K (.c (.bool true)) H) : ACalls Tryz.prog 4 [.c (.lst 1 (zs.map encI))] H K := by
  have st : ∀ (k : Int) (L : Hp), 0 ≤ k → k ≤ 1000000000 → Str (H ++ strO zs k :: L) H.length zs k := fun k L h1 h2 => ⟨hz, h1, by omega, by simp⟩
  refine acalls Tryz.func4 rfl (by kernel_rfl) (by simp (disch := first | omega | (simp only [go_sem]; first | done | omega)) only [go_sem]) (fun hH => ?_)
  simp (disch := first | omega | (simp only [go_sem]; first | done | omega)) only [go_sem]
  refine range_a H.length zs 0 0 3 (st _ _ (by omega) (by omega)) (by omega) (by omega) (by omega) (fun d hd0 hd1 => ?_)
  obtain ⟨e0, rfl⟩ : ∃ e : Nat, d = e := ⟨d.toNat, by omega⟩
  have he0 : e0 ≤ 3 := by omega
  have hJ := eJ_le he0
  have hB := eB_le he0
  simp (disch := first | omega | (simp only [go_sem]; first | done | omega)) only [go_sem]
  refine expr_a e0 he0 _ H.length zs (0 + 1) (st _ _ (by omega) (by omega)) (by omega) (fun r j1 g1 g2 g3 => ?_)
  obtain ⟨l, rfl⟩ : ∃ l, r = tB l := ⟨tL r, rfl⟩
  rw [tB_size] at g3
  have hl : l.length ≤ 1000 := by omega
  simp (disch := first | omega | (simp only [go_sem]; first | done | omega)) only [go_sem]
  refine seriesList_a H.length zs j1 (st _ _ (by omega) (by omega)) (by omega) (fun ss j2 g4 g5 g6 g7 => ?_)
  simp (disch := first | omega | (simp only [go_sem]; first | done | omega)) only [go_sem]
  refine range_a H.length zs j2 0 200 (st _ _ (by omega) (by omega)) (by omega) (by omega) (by omega) (fun m hm0 hm1 => ?_)
  have hne : ∀ (l : List UInt8) a c, parF l = .error (a, c) → c ≠ 0 := fun l a c h => par_neG h
  have hcon : ∀ (sub : ByteArray) (b : Bool) (hb : Lib.contains l (tL sub) = b) {G : Hp} {J : AV → Hp → Prop}, J (.c (.bool b)) G → ACalls Tryz.prog 27 [(.c (.str (tB l))), (.c (.str sub))] G J := fun sub b hb {G} {J} h => contains_a (tB l) sub (by rw [tB_size]; omega) (by rw [tL_tB, hb]; exact h)
  have hfn : ∀ x ∈ ss, x.fine := fun x hx => (g7 x hx).1
  cases c1 : Lib.contains l wIf with
  | true =>
    simp (disch := first | omega | (simp only [go_sem]; first | done | omega)) only [go_sem]
    refine hcon ⟨#[105, 102]⟩ true c1 ?_
    simp (disch := first | omega | (simp only [go_sem]; first | done | omega)) only [go_sem]
    refine ready_a ?_
    simp (disch := first | omega | (simp only [go_sem]; first | done | omega)) only [go_sem]
    exact Ret.drop hH (Nat.le_refl _) trivial hk
  | false =>
  simp (disch := first | omega | (simp only [go_sem]; first | done | omega)) only [go_sem]
  refine hcon ⟨#[105, 102]⟩ false c1 ?_
  cases c2 : Lib.contains l wGd with
  | true =>
    simp (disch := first | omega | (simp only [go_sem]; first | done | omega)) only [go_sem]
    refine hcon ⟨#[103, 111, 111, 100]⟩ true c2 ?_
    simp (disch := first | omega | (simp only [go_sem]; first | done | omega)) only [go_sem]
    refine ready_a ?_
    simp (disch := first | omega | (simp only [go_sem]; first | done | omega)) only [go_sem]
    exact Ret.drop hH (Nat.le_refl _) trivial hk
  | false =>
  simp (disch := first | omega | (simp only [go_sem]; first | done | omega)) only [go_sem]
  refine hcon ⟨#[103, 111, 111, 100]⟩ false c2 ?_
  cases c3 : Lib.contains l [64] with
  | true =>
    simp (disch := first | omega | (simp only [go_sem]; first | done | omega)) only [go_sem]
    refine hcon ⟨#[64]⟩ true c3 ?_
    simp (disch := first | omega | (simp only [go_sem]; first | done | omega)) only [go_sem]
    refine ready_a ?_
    simp (disch := first | omega | (simp only [go_sem]; first | done | omega)) only [go_sem]
    exact Ret.drop hH (Nat.le_refl _) trivial hk
  | false =>
  simp (disch := first | omega | (simp only [go_sem]; first | done | omega)) only [go_sem]
  refine hcon ⟨#[64]⟩ false c3 ?_
  simp (disch := first | omega | (simp only [go_sem]; first | done | omega)) only [go_sem]
  refine evalTop_a l ss m (by omega) (hne l) (by omega) hfn ?_
  cases hp : parF l with
  | error x =>
    obtain ⟨a, c⟩ := x
    have hc := hne l a c hp
    have hR : evRes l ss m = (smp0, c) := by unfold evRes; rw [hp]
    rw [hR]
    simp (disch := first | omega | (simp only [go_sem]; first | done | omega)) only [go_sem, hc]
    refine tagsP_a l (by omega) (hne l) (fun e' he' => by rw [hp] at he'; cases he') (fun a' c' h' => ?_)
    rw [hp] at h'
    injection h' with h'
    injection h' with h1 h2
    subst h1 h2
    simp (disch := first | omega | (simp only [go_sem]; first | done | omega)) only [go_sem, hc]
    refine ready_a ?_
    simp (disch := first | omega | (simp only [go_sem]; first | done | omega)) only [go_sem]
    exact Ret.drop hH (Nat.le_refl _) trivial hk
  | ok e =>
    have hsz := par_sz hp
    have htl := tagsE_lenG e
    by_cases hss : slF ss = 0
    · have hG := good_law hp hss (m := m) (by omega) c1 c2 c3
      have hR2 : (evRes l ss m).2 = 0 := by
        unfold evRes
        rw [hp]
        dsimp only
        rw [if_neg (by simpa using hss), if_pos (by omega)]
      have hRt : (evRes l ss m).1.t = m := by
        unfold evRes
        rw [hp]
        dsimp only
        rw [if_neg (by simpa using hss), if_pos (by omega)]
        rfl
      have hts : ∀ k ∈ tagsE e, (tL k).length ≤ 40 := fun k hk => tagsE_sz hp hk
      rw [hR2]
      generalize evRes l ss m = R at *
      obtain ⟨⟨rt, rv, rq⟩, rc⟩ := R
      dsimp only at hRt hR2 hG ⊢
      simp (disch := first | omega | (simp only [go_sem]; first | done | omega)) only [go_sem]
      refine tagsP_a l (by omega) (hne l) (fun e' he' => ?_) (fun a c h' => by rw [hp] at h'; cases h')
      rw [hp] at he'
      injection he' with he'
      subst he'
      generalize tagsE e = M at *
      simp (disch := first | omega | (simp only [go_sem]; first | done | omega)) only [go_sem]
      refine AWp.loop (H.length + 2) [5, 6, 7, 58, 59] [60] (fun (k : Nat) => k ≤ M.length) (fun (k : Nat) => [(60, (.c (.int .i64 k)))]) (fun (k : Nat) => H ++ [strO zs (j2 + 1), .row 34 3 [[.int .i64 rt, .int .i64 rv, .int .i64 rq]] true]) (fun (k : Nat) => M.length - k) (by kernel_rfl) (fun _ => rfl) (by kernel_rfl) (by first | (simp; done) | omega) (by first | (simp; done) | (simp; omega) | omega) kl ?_ (fun k hk1 _ _ => ?_)
      · exact Next.mk 0 (Nat.zero_le _) wk
      by_cases hlt : k < M.length
      · obtain ⟨q1, q2⟩ := hG M[k] (List.getElem_mem hlt)
        have q3 := hts M[k] (List.getElem_mem hlt)
        simp (disch := first | omega | (simp only [go_sem]; first | done | omega)) only [go_sem, hlt]
        refine evalTop_a (tL M[k]) ss m (by omega) (hne _) (by omega) hfn ?_
        generalize evRes (tL M[k]) ss m = Q at *
        obtain ⟨⟨qt, qv, qq⟩, qc⟩ := Q
        dsimp only at q1 q2 ⊢
        subst q1
        have q4 : ¬ rq < qq := by omega
        simp (disch := first | omega | (simp only [go_sem]; first | done | omega)) only [go_sem, q4]
        exact Next.mk (k + 1) ⟨by omega, by omega⟩ wk
      · simp (disch := first | omega | (simp only [go_sem]; first | done | omega)) only [go_sem, hlt]
        refine ready_a ?_
        simp (disch := first | omega | (simp only [go_sem]; first | done | omega)) only [go_sem, hRt]
        exact Ret.drop hH (Nat.le_refl _) trivial hk
    · have hR : evRes l ss m = (smp0, slF ss) := by
        unfold evRes
        rw [hp]
        dsimp only
        rw [if_pos hss]
      rw [hR]
      simp (disch := first | omega | (simp only [go_sem]; first | done | omega)) only [go_sem]
      refine tagsP_a l (by omega) (hne l) (fun e' he' => ?_) (fun a c h' => by rw [hp] at h'; cases h')
      rw [hp] at he'
      injection he' with he'
      subst he'
      generalize tagsE e = M at *
      simp (disch := first | omega | (simp only [go_sem]; first | done | omega)) only [go_sem, hss]
      refine ready_a ?_
      simp (disch := first | omega | (simp only [go_sem]; first | done | omega)) only [go_sem]
      exact Ret.drop hH (Nat.le_refl _) trivial hk
end Go.Proofs.YtlnfiflbpmicgaaGreatDoor
