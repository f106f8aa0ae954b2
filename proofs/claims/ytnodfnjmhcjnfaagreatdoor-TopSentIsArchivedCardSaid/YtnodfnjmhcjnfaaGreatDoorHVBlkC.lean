/- Several texts in one: How many samples a file's blocks hold, and that these are right, and what follows. No condition. -/
import Derived.Test.YtnodfnjmhcjnfaaGreatDoorHVQry
import Derived.Test.YtnodfnjmhcjnfaaGreatDoorHVArrC
import Derived.Shelf.Sort.Plain
import Derived.Test.YtnodfnjmhcjnfaaGreatDoorHVGA
import Derived.Test.YtnodfnjmhcjnfaaGreatDoorHVBack
import Derived.Test.YtnodfnjmhcjnfaaGreatDoorHVGD
import Derived.Test.YtnodfnjmhcjnfaaGreatDoorHVSortI
/- How many samples a file's blocks hold, and that these are right. No program in sight. -/
namespace Go.Proofs.YtnodfnjmhcjnfaaGreatDoor
open Go Go.RowKit
set_option maxRecDepth 100000
set_option linter.all false
theorem smps_adv {l : List UInt8} : ∀ (k p : Nat) (s : Smp) (ss : List Smp) (e : Nat), smps l k p s = some (ss, e) → p + k ≤ e
  | 0, p, s, ss, e, h => by
    simp only [smps, Option.some.injEq, Prod.mk.injEq] at h
    omega
  | k + 1, p, s, ss, e, h => by
    unfold smps at h
    split at h
    · cases h
    · rename_i a p1 h1
      split at h
      · cases h
      · rename_i v p2 h2
        split at h
        · cases h
        · rename_i q p3 h3
          obtain ⟨r, h4, h5⟩ := Option.map_eq_some_iff.1 h
          obtain ⟨r1, r2⟩ := r
          simp only [Prod.mk.injEq] at h5
          obtain ⟨_, rfl⟩ := h5
          have g := smps_adv k p3 _ r1 r2 h4
          have b1 := (unvarint_le h1).1
          have b2 := (unvarint_le h2).1
          have b3 := (unvarint_le h3).1
          omega
theorem decP_adv {l : List UInt8} {p : Nat} {kind : UInt8} {tag : ByteArray} {ss : List Smp} {e : Nat} (h : decP l p = some (kind, tag, ss, e)) : p + ss.length ≤ e := by
  unfold decP at h
  split at h
  · cases h
  · split at h
    · cases h
    · rename_i n x h1
      split at h
      · cases h
      · split at h
        · cases h
        · rename_i m y h2
          split at h
          · cases h
          · split at h
            · cases h
            · rename_i ss' e' h3
              split at h
              · cases h
              · simp only [Option.some.injEq, Prod.mk.injEq] at h
                obtain ⟨_, _, rfl, rfl⟩ := h
                have g := smps_adv _ _ _ _ _ h3
                have g2 := (smps_len _ _ _ _ _ h3).1
                have b1 := (unvarint_le h1).1
                have b2 := (unvarint_le h2).1
                omega
theorem decRes_cnt {l : List UInt8} {p : Nat} (h : (decRes l p).2.2 = 0) : ((decRes l p).2.1.length : Int) ≤ (decRes l p).1.long := by
  unfold decRes at h ⊢
  split at h
  · cases h
  rename_i g0
  rw [if_neg g0]
  split at h
  · cases h
  rename_i g1
  rw [if_neg g1]
  split at h
  · cases h
  rename_i kind tag ss e hd
  have g := decP_adv hd
  split at h
  · cases h
  rename_i g2
  split at h
  · cases h
  rename_i g3
  split at h
  · rename_i g4; exact absurd h g4
  rename_i g4
  rw [if_neg g2, if_neg g3, if_neg g4]
  dsimp only
  omega
def ssL (ps : List Pc) : Nat := (ps.flatMap fun x => x.ss).length
theorem ssL_app (a b : List Pc) : ssL (a ++ b) = ssL a + ssL b := by unfold ssL; rw [List.flatMap_append, List.length_append]
theorem ssL_one (x : Pc) : ssL [x] = x.ss.length := by unfold ssL; simp
theorem par_cnt {l : List UInt8} (hl : l.length ≤ 200000) : ∀ (n p : Nat) (acc : List Pc), l.length - p ≤ n → p ≤ l.length → p ≤ (parG l p acc).2.1 ∧ ssL (parG l p acc).1 ≤ ssL acc + ((parG l p acc).2.1 - p) := by
  intro n
  induction n with
  | zero =>
    intro p acc hn hp
    rw [parG_end acc (by omega)]
    exact ⟨Nat.le_refl _, by dsimp only; omega⟩
  | succ n ih =>
    intro p acc hn hp
    by_cases hlt : p < l.length
    case neg =>
      rw [parG_end acc (by omega)]
      exact ⟨Nat.le_refl _, by dsimp only; omega⟩
    rw [parG_step acc hlt]
    by_cases h0 : (decTop l p).2.2 = 0
    case neg => rw [if_pos h0]; exact ⟨Nat.le_refl _, by dsimp only; omega⟩
    rw [if_neg (by simpa using h0)]
    by_cases h1 : foll acc (decTop l p).1 = false
    case pos => rw [if_pos h1]; exact ⟨Nat.le_refl _, by dsimp only; omega⟩
    rw [if_neg h1]
    have hok := decTop_ok h0
    have hdt := decTop_in hl hp
    have hc := decRes_cnt (l := l) (p := p) (by rw [← hdt]; exact h0)
    rw [← hdt] at hc
    obtain ⟨i1, i2⟩ := ih (p + (decTop l p).1.long.toNat) (acc ++ [⟨(decTop l p).1, (decTop l p).2.1⟩]) (by omega) (by omega)
    rw [ssL_app, ssL_one] at i2
    dsimp only at i2
    omega
theorem par_good {l : List UInt8} (h : (par l).2.2 = 0) : chainP 0 (par l).1 l.length ∧ ssL (par l).1 ≤ 200000 ∧ (par l).1.length ≤ 200000 ∧ ∀ x ∈ (par l).1, serF x.ss = 0 ∧ isKey x.b.tag ∧ 1 ≤ x.ss.length := by
  have hl := par_small h
  have hpl := par_len l
  rw [par_G hl] at h hpl ⊢
  obtain ⟨B, h1, h2, h3, h4⟩ := par_chain hl l.length 0 [] (by omega) (by omega)
  obtain ⟨h5, h6⟩ := par_cnt hl l.length 0 [] (by omega) (by omega)
  rw [List.nil_append] at h1
  rw [h4 h] at h2 h6
  rw [← h1] at h2
  refine ⟨h2, ?_, by omega, fun x hx => ?_⟩
  · have : ssL ([] : List Pc) = 0 := rfl
    omega
  · have := (chainP_all _ _ _ h2).2 x hx
    exact ⟨this.2.2.2.2.1, this.2.2.2.2.2.1, this.2.2.2.2.2.2⟩
theorem par_smOk {l : List UInt8} (h : (par l).2.2 = 0) : ∀ x ∈ (par l).1, ∀ y ∈ x.ss, smOk y := by
  intro x hx y hy
  have h1 := (par_good h).2.2.2 x hx
  have h2 := smp_ok ((serF_ok h1.1).2 y hy)
  exact ⟨by omega, by omega⟩
end Go.Proofs.YtnodfnjmhcjnfaaGreatDoor
/- What the program answers of a file's blocks: Query, Find, Tags. Condition: names are not longer than a machine holds; moments are not huge. -/
namespace Go.Proofs.YtnodfnjmhcjnfaaGreatDoor
open Go Go.RowKit
set_option maxRecDepth 100000
set_option linter.all false
set_option maxHeartbeats 2000000
variable {H : Hp} {K : AV → Hp → Prop}
theorem Ret.anyV {x y : AC} {n : Nat} {A G : Hp} (hA : HOk A) (hn : n ≤ A.length) (hx : AV.ok A.length (.c x)) (hk : K (.tup [.any, .c x]) A) : Ret n (.tup [.c y, .c x]) (A ++ G) K := by
  have h1 : WkL n [.tup [.c y, .c x]] (A ++ G) [.tup [.any, .c x]] (A ++ G) := by
    intro B w0 ι w us hs hr ho
    match us, hr with
    | [u], ⟨⟨ts, h1, h2⟩, _⟩ =>
      refine ⟨ι, Agree.refl _ _, by rw [List.length_append]; omega, hs, ⟨⟨ts, h1, ?_⟩, trivial⟩, ?_⟩
      · match ts, h2 with
        | [a, b], ⟨_, h3, _⟩ => exact ⟨trivial, h3, trivial⟩
      · intro v hv
        simp only [List.mem_singleton] at hv
        subst hv
        have := ho (.tup [.c y, .c x]) (by simp)
        intro z hz
        simp only [List.mem_cons, List.not_mem_nil, or_false] at hz
        rcases hz with rfl | rfl
        · trivial
        · exact this _ (by simp)
  have hok : (AV.tup [.any, .c x]).ok A.length := by
    intro z hz
    simp only [List.mem_cons, List.not_mem_nil, or_false] at hz
    rcases hz with rfl | rfl
    · trivial
    · exact hx
  refine Ret.wk (h1.trans (WkL.drop hA hn (by intro v hv; simp only [List.mem_singleton] at hv; subst hv; exact hok))) hk
theorem walkB_a (l : List UInt8) (hl : l.length ≤ 100000000) (hk0 : (par l).2.2 ≠ 0 → K (.tup [.c (.ptr none), (.c (.int .i64 ((par l).2.2)))]) H)
    (hk1 : (par l).2.2 = 0 → K (.tup [.c (.ptr (some (H.length + 1, 0, 0))), (.c (.int .i64 0))]) (H ++ [lastMp (par l).1, wlk 180 l (par l).2.1 (H.length + 2) H.length (par l).1, grO 215 8 ((par l).1.map encPc)])) : ACalls Tryz.prog 153 [.c (.lst 1 (l.map encU))] H K := by
  by_cases h : 200000 < l.length
  · have e : par l = ([], 0, 2) := by unfold par; rw [if_pos h]
    rw [e] at hk0
    have e0 : ((200000 : Int) < l.length) = True := by simp; omega
    refine acalls Tryz.func153 rfl (by kernel_rfl) (by simp (disch := first | omega | (simp only [go_sem]; first | done | omega)) only [go_sem]) (fun hH => ?_)
    simp (disch := first | omega | (simp only [go_sem]; first | done | omega)) only [go_sem, e0]
    exact Ret.same (Nat.le_refl _) (hk0 (by decide))
  · exact walk_a l (by omega) hk0 hk1
def tgE (l : List UInt8) (tag : ByteArray) : Int := if (par l).2.2 ≠ 0 then (par l).2.2 else if isKey tag then 0 else 5
theorem tagged_a (l : List UInt8) (tag : ByteArray) (hl : l.length ≤ 100000000) (ht : tag.size ≤ 1099511627776) (hk0 : tgE l tag ≠ 0 → K (.tup [.any, (.c (.int .i64 (tgE l tag)))]) H)
    (hk1 : tgE l tag = 0 → K (.tup [.c (.ptr (some (H.length + 1, 0, 0))), (.c (.int .i64 0))]) (H ++ [lastMp (par l).1, wlk 180 l (par l).2.1 (H.length + 2) H.length (par l).1, grO 215 8 ((par l).1.map encPc)])) : ACalls Tryz.prog 123 [.c (.lst 1 (l.map encU)), (.c (.str tag))] H K := by
  refine acalls Tryz.func123 rfl (by kernel_rfl) (by simp (disch := first | omega | (simp only [go_sem]; first | done | omega)) only [go_sem]) (fun hH => ?_)
  simp (disch := first | omega | (simp only [go_sem]; first | done | omega)) only [go_sem]
  refine walkB_a l hl (fun h => ?_) (fun h => ?_)
  · have e : tgE l tag = (par l).2.2 := by unfold tgE; rw [if_pos h]
    rw [e] at hk0
    simp (disch := first | omega | (simp only [go_sem]; first | done | omega)) only [go_sem, h]
    have hr := Ret.anyV (n := H.length) (G := []) (y := .ptr none) hH (Nat.le_refl _) (by simp [AV.ok, AV.ok1, AC.ok]) (hk0 h)
    rwa [List.append_nil] at hr
  · by_cases hk : isKey tag
    · have e : tgE l tag = 0 := by unfold tgE; rw [if_neg (by simp [h]), if_pos hk]
      simp (disch := first | omega | (simp only [go_sem]; first | done | omega)) only [go_sem]
      refine key_a tag ht ?_
      rw [decide_eq_true hk]
      simp (disch := first | omega | (simp only [go_sem]; first | done | omega)) only [go_sem]
      exact Ret.same (by simp) (hk1 e)
    · have e : tgE l tag = 5 := by unfold tgE; rw [if_neg (by simp [h]), if_neg hk]
      rw [e] at hk0
      simp (disch := first | omega | (simp only [go_sem]; first | done | omega)) only [go_sem]
      refine key_a tag ht ?_
      rw [decide_eq_false hk]
      simp (disch := first | omega | (simp only [go_sem]; first | done | omega)) only [go_sem]
      exact Ret.anyV hH (Nat.le_refl _) (by simp [AV.ok, AV.ok1, AC.ok]) (hk0 (by decide))
theorem tgE_0 {l : List UInt8} {tag : ByteArray} (h : tgE l tag = 0) : (par l).2.2 = 0 ∧ isKey tag := by
  unfold tgE at h
  split at h
  · rename_i h1; exact absurd h h1
  · rename_i h1
    split at h
    · rename_i h2; exact ⟨by simpa using h1, h2⟩
    · cases h
def qRes (l : List UInt8) (tag : ByteArray) (w : Win) : List Smp × Int := if tgE l tag ≠ 0 then ([], tgE l tag) else if winE w ≠ 0 then ([], 1) else if 5000 < (qryF (par l).1 tag w.a w.b).length then ([], 2) else (qryF (par l).1 tag w.a w.b, 0)
theorem queryTop_a (l : List UInt8) (tag : ByteArray) (w : Win) (hl : l.length ≤ 100000000) (ht : tag.size ≤ 1099511627776) (hk : K (.tup [.c (.lst 3 ((qRes l tag w).1.map encS)), (.c (.int .i64 ((qRes l tag w).2)))]) H) : ACalls Tryz.prog 41 [.c (.lst 1 (l.map encU)), (.c (.str tag)), .agg (encW w)] H K := by
  unfold qRes at hk
  refine acalls Tryz.func41 rfl (by kernel_rfl) (by simp (disch := first | omega | (simp only [go_sem]; first | done | omega)) only [go_sem]) (fun hH => ?_)
  simp (disch := first | omega | (simp only [go_sem]; first | done | omega)) only [go_sem]
  refine tagged_a l tag hl ht (fun h => ?_) (fun h => ?_)
  · rw [if_pos h] at hk
    simp (disch := first | omega | (simp only [go_sem]; first | done | omega)) only [go_sem, h]
    exact Ret.nilT hH (Nat.le_refl _) rfl hk
  obtain ⟨h1, h2⟩ := tgE_0 h
  obtain ⟨g1, g2, g3, g4⟩ := par_good h1
  have g5 := par_smOk h1
  rw [if_neg (by simp [h])] at hk
  simp (disch := first | omega | (simp only [go_sem]; first | done | omega)) only [go_sem]
  refine window_a w ?_
  by_cases hw : winE w = 0
  rotate_left
  · rw [if_pos hw] at hk
    rw [decide_eq_false hw]
    simp (disch := first | omega | (simp only [go_sem]; first | done | omega)) only [go_sem]
    exact Ret.nilT hH (Nat.le_refl _) rfl hk
  rw [if_neg (by simp [hw])] at hk
  rw [decide_eq_true hw]
  simp (disch := first | omega | (simp only [go_sem]; first | done | omega)) only [go_sem]
  have hqb : (qryF (par l).1 tag w.a w.b).length ≤ 200000 := by
    unfold qryF
    rw [serM_len]
    have h1 := puts_len ((par l).1.flatMap (flatQ tag w.a w.b)) []
    have h2 := flatm_len (flatQ tag w.a w.b) (fun x : Pc => x.ss) (fun x => flatQ_sub) (par l).1
    have h3 : (pfS ((par l).1.flatMap (flatQ tag w.a w.b))).length ≤ ((par l).1.flatMap (flatQ tag w.a w.b)).length := by simpa [pfS] using h1
    unfold ssL at g2
    omega
  refine query_a (j := H.length + 3) (m := H.length + 1) (p := (par l).2.1) l (par l).1 tag w (by omega) (by unfold ssL at g2; omega) g5 (by first | exact at2 (by simp) | exact at2 (by omega)) (by first | exact at3 (by simp) | exact at3 (by omega)) ?_
  generalize qryF (par l).1 tag w.a w.b = R at *
  by_cases h5 : 5000 < R.length
  · rw [if_pos h5] at hk
    have h5' : (5000 : Int) < R.length := by omega
    simp (disch := first | omega | (simp only [go_sem]; first | done | omega)) only [go_sem, h5']
    exact Ret.nilT hH (Nat.le_refl _) rfl hk
  · rw [if_neg h5] at hk
    have h5' : ¬ (5000 : Int) < R.length := by omega
    simp (disch := first | omega | (simp only [go_sem]; first | done | omega)) only [go_sem, h5']
    exact Ret.drop hH (Nat.le_refl _) (by simp [AV.ok, AV.ok1, AC.ok]) hk
end Go.Proofs.YtnodfnjmhcjnfaaGreatDoor
