/- CompactChangesNothing: what the law's function answers for all numbers it is given. No condition. -/
import Derived.Test.YtnodfnjmhcjnfaaGreatDoorHVCpkM
import Derived.Test.YtnodfnjmhcjnfaaGreatDoorHVFileF
import Derived.Test.YtnodfnjmhcjnfaaGreatDoorHVSizP
import Derived.Test.YtnodfnjmhcjnfaaGreatDoorHVEqB
import Derived.Test.YtnodfnjmhcjnfaaGreatDoorHVGC
import Derived.Test.YtnodfnjmhcjnfaaGreatDoorHVEncTop
namespace Go.Proofs.YtnodfnjmhcjnfaaGreatDoor
open Go Go.RowKit
set_option maxRecDepth 100000
set_option linter.all false
set_option maxHeartbeats 2000000
variable {H : Hp} {K : AV → Hp → Prop}
theorem equalKq_a (l m : List Smp) (hl : l.length ≤ 1099511627776) (hm : m.length ≤ 1099511627776) (hk : K (.c (.bool (decide (l = m)))) H) : ACalls Tryz.prog 18 [.c (.lst 3 (l.map encS)), .c (.lst 3 (m.map encS))] H K := by
  by_cases hlen : l.length = m.length
  · refine acalls Tryz.func18 rfl (by kernel_rfl) (by simp (disch := first | omega | (simp only [go_sem]; first | done | omega)) only [go_sem]) (fun hH => ?_)
    simp (disch := first | omega | (simp only [go_sem]; first | done | omega)) only [go_sem]
    refine AWp.loop (H.length) [0, 1, 12] [13] (fun (k : Nat) => k ≤ l.length ∧ ∀ (j : Nat) (x y : Smp), j < k → l[j]? = some x → m[j]? = some y → x = y) (fun (k : Nat) => [(13, (.c (.int .i64 k)))]) (fun (k : Nat) => H) (fun (k : Nat) => l.length - k) (by kernel_rfl) (fun _ => rfl) (by kernel_rfl) (by first | (simp; done) | omega) (by first | (simp; done) | (simp; omega) | omega) kl ?_ (fun k hk1 _ _ => ?_)
    · exact Next.mk 0 (by simp) wk
    obtain ⟨hk1, hk2⟩ := hk1
    by_cases hlt : k < l.length
    · simp (disch := first | omega | (simp only [go_sem]; first | done | omega)) only [go_sem]
      refine w_draw (by kernel_rfl) (by decide +kernel) ?_
      simp (disch := first | omega | (simp only [go_sem]; first | done | omega)) only [go_sem]
      refine acond_b (fun c => ?_) (fun c => ?_)
      · simp (disch := first | omega | (simp only [go_sem]; first | done | omega)) only [go_sem]
        exact Next.mk (k + 1) ⟨⟨by omega, fun j x y hj hx hy => by
          rcases Nat.lt_or_ge j k with h | h
          · exact hk2 j x y h hx hy
          · obtain rfl : j = k := by omega
            rw [List.getElem?_eq_getElem hlt] at hx
            rw [List.getElem?_eq_getElem (by omega)] at hy
            injection hx with hx; injection hy with hy; rw [← hx, ← hy]; revert c; generalize l[j] = u; generalize m[j] = v; first | (simp; done) | (cases u; cases v; simp)⟩, by omega⟩ wk
      · simp (disch := first | omega | (simp only [go_sem]; first | done | omega)) only [go_sem]
        have : l ≠ m := by rintro rfl; simp at c
        (first | refine Ret.sameE (Nat.le_refl _) (by assumption) ?_ | refine Ret.dropE (by assumption) (Nat.le_refl _) (by assumption) (by simp [AV.ok, AV.ok1, AC.ok]) ?_) <;> simp [this]
    · simp (disch := first | omega | (simp only [go_sem]; first | done | omega)) only [go_sem]
      have : l = m := by
        apply List.ext_getElem hlen
        intro j h1 h2
        exact hk2 j _ _ (by omega) (List.getElem?_eq_getElem h1) (List.getElem?_eq_getElem h2)
      (first | refine Ret.sameE (Nat.le_refl _) (by assumption) ?_ | refine Ret.dropE (by assumption) (Nat.le_refl _) (by assumption) (by simp [AV.ok, AV.ok1, AC.ok]) ?_) <;> simp [this]
  · have : l ≠ m := by rintro rfl; exact hlen rfl
    refine acalls Tryz.func18 rfl (by kernel_rfl) (by simp (disch := first | omega | (simp only [go_sem]; first | done | omega)) only [go_sem]) (fun hH => ?_)
    simp (disch := first | omega | (simp only [go_sem]; first | done | omega)) only [go_sem]
    (first | refine Ret.sameE (Nat.le_refl _) (by assumption) ?_ | refine Ret.dropE (by assumption) (Nat.le_refl _) (by assumption) (by simp [AV.ok, AV.ok1, AC.ok]) ?_) <;> simp [this]
theorem indexBk_a (f : FuncId) (caps : List (Nat × Nat × Nat)) (p : Blk → Bool) (he : entersB Tryz.prog f = true) (hc : ∀ (a b c : Nat), (a, b, c) ∈ caps → a < H.length) (l : List Blk) (hf : ∀ (x : Blk) (K : AV → Hp → Prop), x ∈ l → K (.c (.bool (p x))) H → ACalls Tryz.prog f (.agg (encBk x) :: caps.map fun q => .c (.ptr (some q))) H K) (hlen : l.length ≤ 1099511627776) (hk : ∀ r : Int, (0 ≤ r ↔ l.any p = true) → K (.c (.int .i64 r)) H) : ACalls Tryz.prog 161 [.c (.lst 7 (l.map encBk)), .c (.fn f [] caps)] H K := by
  refine acalls Tryz.func161 rfl (by kernel_rfl) (by simp (disch := first | omega | (simp only [go_sem]; first | done | omega)) only [go_sem]) (fun hH => ?_)
  simp (disch := first | omega | (simp only [go_sem]; first | done | omega)) only [go_sem]
  refine AWp.loop (H.length) [0, 1, 7] [8] (fun (k : Nat) => k ≤ l.length ∧ ∀ j (h : j < l.length), j < k → p l[j] = false) (fun (k : Nat) => [(8, (.c (.int .i64 k)))]) (fun (k : Nat) => H) (fun (k : Nat) => l.length - k) (by kernel_rfl) (fun _ => rfl) (by kernel_rfl) (by first | (simp; done) | omega) (by first | (simp; done) | (simp; omega) | omega) kl ?_ (fun k hk1 _ _ => ?_)
  · exact Next.mk 0 (by simp) wk
  obtain ⟨hk1, hk2⟩ := hk1
  by_cases hlt : k < l.length
  · simp (disch := first | omega | (simp only [go_sem]; first | done | omega)) only [go_sem, he]
    refine hf l[k] _ (List.getElem_mem hlt) ?_
    simp (disch := first | omega | (simp only [go_sem]; first | done | omega)) only [go_sem]
    refine acond_b (fun c => ?_) (fun c => ?_)
    · simp (disch := first | omega | (simp only [go_sem]; first | done | omega)) only [go_sem]
      refine Ret.same (Nat.le_refl _) (hk k ?_)
      simp only [Int.natCast_nonneg, List.any_eq_true, true_iff]
      exact ⟨l[k], List.getElem_mem _, c⟩
    · simp (disch := first | omega | (simp only [go_sem]; first | done | omega)) only [go_sem]
      refine Next.mk (k + 1) ⟨⟨by omega, fun j h hj => ?_⟩, by omega⟩ wk
      rcases Nat.lt_or_ge j k with h1 | h1
      · exact hk2 j h h1
      · obtain rfl : j = k := by omega
        simpa using c
  · simp (disch := first | omega | (simp only [go_sem]; first | done | omega)) only [go_sem]
    refine Ret.same (Nat.le_refl _) (hk (-1) ?_)
    have : l.any p = false := by
      rw [List.any_eq_false]
      intro x hx
      obtain ⟨j, hj, rfl⟩ := List.getElem_of_mem hx
      simpa using hk2 j hj (by omega)
    simp [this]
theorem containsBk_a (f : FuncId) (caps : List (Nat × Nat × Nat)) (p : Blk → Bool) (he : entersB Tryz.prog f = true) (hc : ∀ (a b c : Nat), (a, b, c) ∈ caps → a < H.length) (l : List Blk) (hf : ∀ (x : Blk) (K : AV → Hp → Prop), x ∈ l → K (.c (.bool (p x))) H → ACalls Tryz.prog f (.agg (encBk x) :: caps.map fun q => .c (.ptr (some q))) H K) (hlen : l.length ≤ 1099511627776) (hk : K (.c (.bool (l.any p))) H) : ACalls Tryz.prog 72 [.c (.lst 7 (l.map encBk)), .c (.fn f [] caps)] H K := by
  refine acalls Tryz.func72 rfl (by kernel_rfl) (by simp (disch := first | omega | (simp only [go_sem]; first | done | omega)) only [go_sem]) (fun hH => ?_)
  simp (disch := first | omega | (simp only [go_sem]; first | done | omega)) only [go_sem]
  refine indexBk_a f caps p he hc l hf hlen (fun r hr => ?_)
  simp (disch := first | omega | (simp only [go_sem]; first | done | omega)) only [go_sem]
  refine Ret.same (Nat.le_refl _) ?_
  rw [show decide (0 ≤ r) = l.any p by rw [Bool.eq_iff_iff, decide_eq_true_eq]; exact hr]
  exact hk
theorem overC_a (x : Blk) (hk : K (.c (.bool (x.over))) H) : ACalls Tryz.prog 73 [.agg (encBk x)] H K := by
  unfold encBk
  refine acalls Tryz.func73 rfl (by kernel_rfl) (by simp (disch := first | omega | (simp only [go_sem]; first | done | omega)) only [go_sem]) (fun hH => ?_)
  simp (disch := first | omega | (simp only [go_sem]; first | done | omega)) only [go_sem]
  exact Ret.drop hH (Nat.le_refl _) trivial hk
def SzOk (tag : ByteArray) (l : List Smp) (m : Int) : Prop := (sizE tag l ≠ 0 → m = 0) ∧ (sizE tag l = 0 → IsMin (cB tag l) 0 l.length m)
theorem size_b (tag : ByteArray) (l : List Smp) (ht : tag.size ≤ 1099511627776) (hl : l.length ≤ 1099511627776) (hk : ∀ m, SzOk tag l m → K (.tup [(.c (.int .i64 m)), (.c (.int .i64 (sizE tag l)))]) H) : ACalls Tryz.prog 74 [(.c (.str tag)), .c (.lst 3 (l.map encS))] H K :=
  size_a tag l ht hl (fun h => hk 0 ⟨fun _ => rfl, fun e => absurd e h⟩) (fun h m hm => by have := hk m ⟨fun e => absurd h e, fun _ => hm⟩; rwa [h] at this)
theorem qRes_ok {f : List UInt8} {t : ByteArray} {a b : Int} (h : (par f).2.2 = 0) (ht : isKey t) (ha : 0 ≤ a) (hab : a ≤ b) (hb : b ≤ 345686400000) (hq : (qryF (par f).1 t a b).length ≤ 5000) : qRes f t ⟨a, b⟩ = (qryF (par f).1 t a b, 0) := by
  unfold qRes
  rw [show tgE f t = 0 by unfold tgE; rw [if_neg (by simpa using h), if_pos ht], show winE ⟨a, b⟩ = 0 by unfold winE; dsimp only; rw [if_neg (by omega)], if_neg (by decide), if_neg (by decide), if_neg (by dsimp only; omega)]
theorem size_one {tag : ByteArray} {l : List Smp} {m : Int} (h1 : 1 ≤ l.length) (h2 : l.length ≤ 100) (h : IsMin (cB tag l) 0 l.length m) : m ≤ ((blockB tag l false).length : Int) := by
  have h3 := h.2 _ (.cons (k := l.length) (by omega) (by omega) (.nil l.length))
  have e : cB tag l 0 l.length = ((blockB tag l false).length : Int) := by unfold cB; rw [List.take_length, List.drop_zero]
  omega
theorem compactChangesNothing_a (zs : List Int) (hz : zs.length ≤ 9223372036854775807) (hk : K (.c (.bool true)) H) : ACalls Tryz.prog 10 [.c (.lst 1 (zs.map encI))] H K := by
  have st : ∀ (k : Int) (L : Hp), 0 ≤ k → k ≤ 1000000000 → Str (H ++ strO zs k :: L) H.length zs k := fun k L h1 h2 => ⟨hz, h1, by omega, by simp⟩
  refine acalls Tryz.func10 rfl (by kernel_rfl) (by simp (disch := first | omega | (simp only [go_sem]; first | done | omega)) only [go_sem]) (fun hH => ?_)
  simp (disch := first | omega | (simp only [go_sem]; first | done | omega)) only [go_sem]
  refine aFile_gf H.length zs 0 (st _ _ (by omega) (by omega)) (by omega) (fun b j1 g1 g2 hG => ?_)
  simp (disch := first | omega | (simp only [go_sem]; first | done | omega)) only [go_sem]
  refine range_a H.length zs j1 0 50 (st _ _ (by omega) (by omega)) (by omega) (by omega) (by omega) (fun f f0 f1 => ?_)
  simp (disch := first | omega | (simp only [go_sem]; first | done | omega)) only [go_sem]
  refine range_a H.length zs (j1 + 1) 50 400 (st _ _ (by omega) (by omega)) (by omega) (by omega) (by omega) (fun t t0 t1 => ?_)
  obtain ⟨c, c1, c2, c3, c4, c5, c6, c7, c8⟩ := compact_good hG (by omega)
  have hbl : b.length ≤ 64000 := by have := hG.2.1; omega
  have hany : (idxB c).any (fun y => y.over) = false := by
    rw [List.any_eq_false]
    intro y hy
    unfold idxB at hy
    rw [if_neg (by simpa using c3)] at hy
    obtain ⟨x, hx, rfl⟩ := List.mem_map.1 hy
    simp [c6 x hx]
  have hixl : (idxB c).length ≤ 100000 := by
    unfold idxB
    split
    · simp
    · rw [List.length_map]; exact c5
  simp (disch := first | omega | (simp only [go_sem]; first | done | omega)) only [go_sem]
  refine compact_a b (by omega) ?_
  rw [c1]
  simp (disch := first | omega | (simp only [go_sem]; first | done | omega)) only [go_sem]
  refine compact_a c (by omega) ?_
  rw [c2]
  simp (disch := first | omega | (simp only [go_sem]; first | done | omega)) only [go_sem]
  refine indexB_a c (by omega) ?_
  rw [c3]
  generalize idxB c = X at *
  simp (disch := first | omega | (simp only [go_sem]; first | done | omega)) only [go_sem]
  refine errsK_lit [0, 0, 0] (by first | ((repeat first | exact at0 (by simp) | refine atS ?_); done) | assumption) rfl rfl (by simp) ?_
  rw [show firstE ([0, 0, 0] : List Int) = 0 from rfl]
  simp (disch := first | omega | (simp only [go_sem]; first | done | omega)) only [go_sem]
  refine bytesEq_a c c (by omega) (by omega) ?_
  rw [decide_eq_true rfl]
  simp (disch := first | omega | (simp only [go_sem]; first | done | omega)) only [go_sem]
  refine containsBk_a 73 [] (fun y => y.over) (by kernel_rfl) (by simp) X (fun x K _ h => overC_a x h) (by omega) ?_
  rw [hany]
  have hql : ∀ g : ByteArray, (qryF (par b).1 g f t).length ≤ 1000 := fun g => by have := hG.few g f t; omega
  have hq : ∀ g : ByteArray, isKey g → qRes b g ⟨f, t⟩ = (qryF (par b).1 g f t, 0) ∧ qRes c g ⟨f, t⟩ = (qryF (par b).1 g f t, 0) := fun g hg => by
    have hl := hql g
    have h8 := c8 g f t (by omega) (by omega)
    constructor
    · exact qRes_ok hG.1 hg (by omega) (by omega) (by omega) (by omega)
    · rw [qRes_ok c3 hg (by omega) (by omega) (by omega) (by rw [h8]; omega), h8]
  simp (disch := first | omega | (simp only [go_sem]; first | done | omega)) only [go_sem]
  refine AWp.loop (H.length + 4) [3, 4, 5, 6, 64, 65] [66] (fun (k : Nat) => k ≤ 3) (fun (k : Nat) => [(66, (.c (.int .i64 k)))]) (fun (k : Nat) => H ++ [strO zs (j1 + 1 + 1), .row 45 2 [[.int .i64 f, .int .i64 t]] true, .dead, .row 9 1 [[.str ⟨#[116, 97]⟩], [.str ⟨#[116, 98]⟩], [.str ⟨#[116, 99]⟩]] true]) (fun (k : Nat) => 3 - k) (by kernel_rfl) (fun _ => rfl) (by kernel_rfl) (by first | (simp; done) | omega) (by first | (simp; done) | (simp; omega) | omega) kl ?_ (fun k hk1 _ _ => ?_)
  · exact Next.mk 0 (by omega) wk
  obtain rfl | rfl | rfl | rfl : k = 0 ∨ k = 1 ∨ k = 2 ∨ k = 3 := by omega
  · simp (disch := first | omega | (simp only [go_sem]; first | done | omega)) only [go_sem]
    refine queryTop_a b ⟨#[116, 97]⟩ ⟨f, t⟩ (by omega) (by decide) ?_
    rw [(hq ⟨#[116, 97]⟩ (by decide +kernel)).1]
    simp (disch := first | omega | (simp only [go_sem]; first | done | omega)) only [go_sem]
    refine queryTop_a c ⟨#[116, 97]⟩ ⟨f, t⟩ (by omega) (by decide) ?_
    rw [(hq ⟨#[116, 97]⟩ (by decide +kernel)).2]
    have hl := hql ⟨#[116, 97]⟩
    generalize qryF (par b).1 ⟨#[116, 97]⟩ f t = Q at *
    simp (disch := first | omega | (simp only [go_sem]; first | done | omega)) only [go_sem]
    refine errsK_lit [0, 0] (by first | ((repeat first | exact at0 (by simp) | refine atS ?_); done) | assumption) rfl rfl (by simp) ?_
    rw [show firstE ([0, 0] : List Int) = 0 from rfl]
    simp (disch := first | omega | (simp only [go_sem]; first | done | omega)) only [go_sem]
    refine equalKq_a Q Q (by omega) (by omega) ?_
    rw [decide_eq_true rfl]
    simp (disch := first | omega | (simp only [go_sem]; first | done | omega)) only [go_sem]
    exact Next.mk 1 ⟨by omega, by omega⟩ wk
  · simp (disch := first | omega | (simp only [go_sem]; first | done | omega)) only [go_sem]
    refine queryTop_a b ⟨#[116, 98]⟩ ⟨f, t⟩ (by omega) (by decide) ?_
    rw [(hq ⟨#[116, 98]⟩ (by decide +kernel)).1]
    simp (disch := first | omega | (simp only [go_sem]; first | done | omega)) only [go_sem]
    refine queryTop_a c ⟨#[116, 98]⟩ ⟨f, t⟩ (by omega) (by decide) ?_
    rw [(hq ⟨#[116, 98]⟩ (by decide +kernel)).2]
    have hl := hql ⟨#[116, 98]⟩
    generalize qryF (par b).1 ⟨#[116, 98]⟩ f t = Q at *
    simp (disch := first | omega | (simp only [go_sem]; first | done | omega)) only [go_sem]
    refine errsK_lit [0, 0] (by first | ((repeat first | exact at0 (by simp) | refine atS ?_); done) | assumption) rfl rfl (by simp) ?_
    rw [show firstE ([0, 0] : List Int) = 0 from rfl]
    simp (disch := first | omega | (simp only [go_sem]; first | done | omega)) only [go_sem]
    refine equalKq_a Q Q (by omega) (by omega) ?_
    rw [decide_eq_true rfl]
    simp (disch := first | omega | (simp only [go_sem]; first | done | omega)) only [go_sem]
    exact Next.mk 2 ⟨by omega, by omega⟩ wk
  · simp (disch := first | omega | (simp only [go_sem]; first | done | omega)) only [go_sem]
    refine queryTop_a b ⟨#[116, 99]⟩ ⟨f, t⟩ (by omega) (by decide) ?_
    rw [(hq ⟨#[116, 99]⟩ (by decide +kernel)).1]
    simp (disch := first | omega | (simp only [go_sem]; first | done | omega)) only [go_sem]
    refine queryTop_a c ⟨#[116, 99]⟩ ⟨f, t⟩ (by omega) (by decide) ?_
    rw [(hq ⟨#[116, 99]⟩ (by decide +kernel)).2]
    have hl := hql ⟨#[116, 99]⟩
    generalize qryF (par b).1 ⟨#[116, 99]⟩ f t = Q at *
    simp (disch := first | omega | (simp only [go_sem]; first | done | omega)) only [go_sem]
    refine errsK_lit [0, 0] (by first | ((repeat first | exact at0 (by simp) | refine atS ?_); done) | assumption) rfl rfl (by simp) ?_
    rw [show firstE ([0, 0] : List Int) = 0 from rfl]
    simp (disch := first | omega | (simp only [go_sem]; first | done | omega)) only [go_sem]
    refine equalKq_a Q Q (by omega) (by omega) ?_
    rw [decide_eq_true rfl]
    simp (disch := first | omega | (simp only [go_sem]; first | done | omega)) only [go_sem]
    exact Next.mk 3 ⟨by omega, by omega⟩ wk
  · clear hq hql c1 c2 c8
    simp (disch := first | omega | (simp only [go_sem]; first | done | omega)) only [go_sem]
    refine rightSamplesF_a H.length zs (j1 + 1 + 1) 6 (st _ _ (by omega) (by omega)) (by omega) (by omega) (by omega) (fun a j2 g4 g5 g6 => ?_)
    obtain ⟨hser, hal, _⟩ := g6
    have hal : a.length ≤ 6 := by omega
    have hkA : isKey ⟨#[116, 97]⟩ := by decide +kernel
    have hsz : sizE ⟨#[116, 97]⟩ a = 0 := by unfold sizE; rw [if_pos hkA]; exact hser
    simp (disch := first | omega | (simp only [go_sem]; first | done | omega)) only [go_sem]
    refine size_b ⟨#[116, 97]⟩ a (by decide) (by omega) (fun m hm => ?_)
    have hm := hm.2 hsz
    rw [hsz]
    by_cases h0 : a.length = 0
    · have hm0 : m = 0 := by
        rw [h0] at hm
        exact hm.one (isMin_refl _ _)
      subst hm0
      simp (disch := first | omega | (simp only [go_sem]; first | done | omega)) only [go_sem, h0]
      refine ready_a ?_
      simp (disch := first | omega | (simp only [go_sem]; first | done | omega)) only [go_sem]
      exact Ret.drop hH (Nat.le_refl _) trivial hk
    · have h0' : ¬ (a.length : Int) = 0 := by omega
      have hle := size_one (by omega) (by omega) hm
      have hen : encRes ⟨#[116, 97]⟩ a false = (blockB ⟨#[116, 97]⟩ a false, 0) := by
        unfold encRes
        rw [if_neg (fun h => h hkA), if_neg (by simpa using hser), if_neg h0, if_neg (by omega)]
      have hmb := (isMin_bd (cB_nn ⟨#[116, 97]⟩ a) (fun i hi => cB_le hkA.2.1 (serF_sml hser) (by omega)) (Nat.zero_le _) hm).1
      have hbb := blockB_40 ⟨#[116, 97]⟩ a false hkA.2.1 (by omega) (serF_sml hser)
      simp (disch := first | omega | (simp only [go_sem]; first | done | omega)) only [go_sem, h0']
      refine encodeT_a ⟨#[116, 97]⟩ a false (by decide) (by omega) ?_
      rw [hen]
      generalize blockB ⟨#[116, 97]⟩ a false = y at *
      simp (disch := first | omega | (simp only [go_sem]; first | done | omega)) only [go_sem]
      refine errsK_lit [0, 0] (by first | ((repeat first | exact at0 (by simp) | refine atS ?_); done) | assumption) rfl rfl (by simp) ?_
      rw [show firstE ([0, 0] : List Int) = 0 from rfl]
      simp (disch := first | omega | (simp only [go_sem]; first | done | omega)) only [go_sem, hle]
      refine ready_a ?_
      simp (disch := first | omega | (simp only [go_sem]; first | done | omega)) only [go_sem]
      exact Ret.drop hH (Nat.le_refl _) trivial hk
end Go.Proofs.YtnodfnjmhcjnfaaGreatDoor
