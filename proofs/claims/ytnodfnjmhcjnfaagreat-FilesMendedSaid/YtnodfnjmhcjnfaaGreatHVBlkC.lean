/- Several texts in one: How many samples a file's blocks hold, and that these are right, and what follows. No condition. -/
import Derived.Test.YtnodfnjmhcjnfaaGreatHVQry
import Derived.Test.YtnodfnjmhcjnfaaGreatHVArrE
/- How many samples a file's blocks hold, and that these are right. No program in sight. -/
namespace Go.Proofs.YtnodfnjmhcjnfaaGreat
open Go Go.RowKit
set_option maxRecDepth 100000
set_option linter.all false
theorem smps_adv {l : List UInt8} : ∀ (k p : Nat) (s : Smp) (ss : List Smp) (e : Nat), smps l k p s = some (ss, e) → p + k ≤ e
  | 0, p, s, ss, e, h => by
    simp only [smps, Option.some.injEq, Prod.mk.injEq] at h
    omega
  | k + 1, p, s, ss, e, h => by
    unfold smps at h
    split at h
    · cases h
    · rename_i a p1 h1
      split at h
      · cases h
      · rename_i v p2 h2
        split at h
        · cases h
        · rename_i q p3 h3
          obtain ⟨r, h4, h5⟩ := Option.map_eq_some_iff.1 h
          obtain ⟨r1, r2⟩ := r
          simp only [Prod.mk.injEq] at h5
          obtain ⟨_, rfl⟩ := h5
          have g := smps_adv k p3 _ r1 r2 h4
          have b1 := (unvarint_le h1).1
          have b2 := (unvarint_le h2).1
          have b3 := (unvarint_le h3).1
          omega
theorem decP_adv {l : List UInt8} {p : Nat} {kind : UInt8} {tag : ByteArray} {ss : List Smp} {e : Nat} (h : decP l p = some (kind, tag, ss, e)) : p + ss.length ≤ e := by
  unfold decP at h
  split at h
  · cases h
  · split at h
    · cases h
    · rename_i n x h1
      split at h
      · cases h
      · split at h
        · cases h
        · rename_i m y h2
          split at h
          · cases h
          · split at h
            · cases h
            · rename_i ss' e' h3
              split at h
              · cases h
              · simp only [Option.some.injEq, Prod.mk.injEq] at h
                obtain ⟨_, _, rfl, rfl⟩ := h
                have g := smps_adv _ _ _ _ _ h3
                have g2 := (smps_len _ _ _ _ _ h3).1
                have b1 := (unvarint_le h1).1
                have b2 := (unvarint_le h2).1
                omega
theorem decRes_cnt {l : List UInt8} {p : Nat} (h : (decRes l p).2.2 = 0) : ((decRes l p).2.1.length : Int) ≤ (decRes l p).1.long := by
  unfold decRes at h ⊢
  split at h
  · cases h
  rename_i g0
  rw [if_neg g0]
  split at h
  · cases h
  rename_i g1
  rw [if_neg g1]
  split at h
  · cases h
  rename_i kind tag ss e hd
  have g := decP_adv hd
  split at h
  · cases h
  rename_i g2
  split at h
  · cases h
  rename_i g3
  split at h
  · rename_i g4; exact absurd h g4
  rename_i g4
  rw [if_neg g2, if_neg g3, if_neg g4]
  dsimp only
  omega
def ssL (ps : List Pc) : Nat := (ps.flatMap fun x => x.ss).length
theorem ssL_app (a b : List Pc) : ssL (a ++ b) = ssL a + ssL b := by unfold ssL; rw [List.flatMap_append, List.length_append]
theorem ssL_one (x : Pc) : ssL [x] = x.ss.length := by unfold ssL; simp
theorem par_cnt {l : List UInt8} (hl : l.length ≤ 200000) : ∀ (n p : Nat) (acc : List Pc), l.length - p ≤ n → p ≤ l.length → p ≤ (parG l p acc).2.1 ∧ ssL (parG l p acc).1 ≤ ssL acc + ((parG l p acc).2.1 - p) := by
  intro n
  induction n with
  | zero =>
    intro p acc hn hp
    rw [parG_end acc (by omega)]
    exact ⟨Nat.le_refl _, by dsimp only; omega⟩
  | succ n ih =>
    intro p acc hn hp
    by_cases hlt : p < l.length
    case neg =>
      rw [parG_end acc (by omega)]
      exact ⟨Nat.le_refl _, by dsimp only; omega⟩
    rw [parG_step acc hlt]
    by_cases h0 : (decTop l p).2.2 = 0
    case neg => rw [if_pos h0]; exact ⟨Nat.le_refl _, by dsimp only; omega⟩
    rw [if_neg (by simpa using h0)]
    by_cases h1 : foll acc (decTop l p).1 = false
    case pos => rw [if_pos h1]; exact ⟨Nat.le_refl _, by dsimp only; omega⟩
    rw [if_neg h1]
    have hok := decTop_ok h0
    have hdt := decTop_in hl hp
    have hc := decRes_cnt (l := l) (p := p) (by rw [← hdt]; exact h0)
    rw [← hdt] at hc
    obtain ⟨i1, i2⟩ := ih (p + (decTop l p).1.long.toNat) (acc ++ [⟨(decTop l p).1, (decTop l p).2.1⟩]) (by omega) (by omega)
    rw [ssL_app, ssL_one] at i2
    dsimp only at i2
    omega
theorem par_good {l : List UInt8} (h : (par l).2.2 = 0) : chainP 0 (par l).1 l.length ∧ ssL (par l).1 ≤ 200000 ∧ (par l).1.length ≤ 200000 ∧ ∀ x ∈ (par l).1, serF x.ss = 0 ∧ isKey x.b.tag ∧ 1 ≤ x.ss.length := by
  have hl := par_small h
  have hpl := par_len l
  rw [par_G hl] at h hpl ⊢
  obtain ⟨B, h1, h2, h3, h4⟩ := par_chain hl l.length 0 [] (by omega) (by omega)
  obtain ⟨h5, h6⟩ := par_cnt hl l.length 0 [] (by omega) (by omega)
  rw [List.nil_append] at h1
  rw [h4 h] at h2 h6
  rw [← h1] at h2
  refine ⟨h2, ?_, by omega, fun x hx => ?_⟩
  · have : ssL ([] : List Pc) = 0 := rfl
    omega
  · have := (chainP_all _ _ _ h2).2 x hx
    exact ⟨this.2.2.2.2.1, this.2.2.2.2.2.1, this.2.2.2.2.2.2⟩
theorem par_smOk {l : List UInt8} (h : (par l).2.2 = 0) : ∀ x ∈ (par l).1, ∀ y ∈ x.ss, smOk y := by
  intro x hx y hy
  have h1 := (par_good h).2.2.2 x hx
  have h2 := smp_ok ((serF_ok h1.1).2 y hy)
  exact ⟨by omega, by omega⟩
end Go.Proofs.YtnodfnjmhcjnfaaGreat
/- What the program answers of a file's blocks: Query, Find, Tags. Condition: names are not longer than a machine holds; moments are not huge. -/
namespace Go.Proofs.YtnodfnjmhcjnfaaGreat
open Go Go.RowKit
set_option maxRecDepth 100000
set_option linter.all false
set_option maxHeartbeats 2000000
variable {H : Hp} {K : AV → Hp → Prop}
theorem walkB_a (l : List UInt8) (hl : l.length ≤ 100000000) (hk0 : (par l).2.2 ≠ 0 → K (.tup [.c (.ptr none), (.c (.int .i64 ((par l).2.2)))]) H)
    (hk1 : (par l).2.2 = 0 → K (.tup [.c (.ptr (some (H.length + 1, 0, 0))), (.c (.int .i64 0))]) (H ++ [lastMp (par l).1, wlk 59 l (par l).2.1 (H.length + 2) H.length (par l).1, grO 91 8 ((par l).1.map encPc)])) : ACalls Tryz.prog 31 [.c (.lst 1 (l.map encU))] H K := by
  by_cases h : 200000 < l.length
  · have e : par l = ([], 0, 2) := by unfold par; rw [if_pos h]
    rw [e] at hk0
    have e0 : ((200000 : Int) < l.length) = True := by simp; omega
    refine acalls Tryz.func31 rfl (by kernel_rfl) (by simp (disch := first | omega | (simp only [go_sem]; first | done | omega)) only [go_sem]) (fun hH => ?_)
    simp (disch := first | omega | (simp only [go_sem]; first | done | omega)) only [go_sem, e0]
    exact Ret.same (Nat.le_refl _) (hk0 (by decide))
  · exact walk_a l (by omega) hk0 hk1
def tagF (ps : List Pc) : List ByteArray := cplF (srtS (ps.map fun x => x.b.tag))
theorem tags_a {c j m p : Nat} (l : List UInt8) (acc : List Pc) (hal : acc.length ≤ 1000000) (hc : H[c]? = some (wlk 59 l p j m acc)) (hj : H[j]? = some (grO 91 8 (acc.map encPc)))
    (hk : K (.c (.lst 1 ((tagF acc).map encSs))) H) : ACalls Tryz.prog 32 [.c (.ptr (some (c, 0, 0)))] H K := by
  have hcl := getElem?_lt hc
  have hjl := getElem?_lt hj
  unfold wlk at hc
  refine acalls Tryz.func32 rfl (by kernel_rfl) (by simp (disch := first | omega | (simp only [go_sem]; first | done | omega)) only [go_sem]) (fun hH => ?_)
  simp (disch := first | omega | (simp only [go_sem]; first | done | omega)) only [go_sem, hc]
  refine AWp.loop (H.length) [9, 10] [11, 3] (fun (k : Nat) => k ≤ acc.length) (fun (k : Nat) => [(11, (.c (.int .i64 k))), (3, .c (grV H.length ((acc.take k).map fun x => x.b.tag)))]) (fun (k : Nat) => H ++ [grO 9 1 (((acc.take k).map fun x => x.b.tag).map encSs)]) (fun (k : Nat) => acc.length - k) (by kernel_rfl) (fun _ => rfl) (by kernel_rfl) (by first | (simp; done) | omega) (by first | (simp; done) | (simp; omega) | omega) kl ?_ (fun k q1 _ _ => ?_)
  · refine Next.mk 0 (Nat.zero_le _) ?_
    exact WkL.pad (by omega)
  by_cases hlt : k < acc.length
  · obtain ⟨x, hx⟩ : ∃ x, x = acc[k] := ⟨_, rfl⟩
    have hnx : (acc.take (k + 1)).map (fun x => x.b.tag) = (acc.take k).map (fun x => x.b.tag) ++ [x.b.tag] := by rw [List.take_succ_eq_append_getElem hlt, ← hx, List.map_append]; rfl
    have hln : ((acc.take k).map (fun x => x.b.tag)).length ≤ k := by simp; omega
    have hne : acc ≠ [] := by rintro rfl; simp at hlt
    have hj2 := hj
    rw [grO_pos _ _ (by simpa using hne)] at hj2
    generalize (acc.take k).map (fun x => x.b.tag) = ns at *
    rw [grV_pos j hne]
    simp (disch := first | omega | (simp only [go_sem]; first | done | omega)) only [go_sem, hlt, ← hx, hj2]
    refine appS ns x.b.tag _ hnx (by first | ((repeat first | exact at0 (by simp) | refine atS ?_); done) | assumption) (by first | ((repeat first | exact at0 (by simp) | refine atS ?_); done) | assumption) (by omega) ?_
    simp (disch := first | omega | (simp only [go_sem]; first | done | omega)) only [go_sem]
    refine Next.mk (k + 1) ⟨by omega, by omega⟩ ?_
    exact ow
  · have hka : k = acc.length := by omega
    subst hka
    rw [List.take_length]
    unfold tagF at hk
    have hsl := srtS_len (acc.map fun x => x.b.tag)
    have hml : (acc.map fun x => x.b.tag).length = acc.length := List.length_map ..
    generalize acc.map (fun x => x.b.tag) = ns at *
    simp (disch := first | omega | (simp only [go_sem]; first | done | omega)) only [go_sem]
    refine sortVS_a ns (by first | ((repeat first | exact at0 (by simp) | refine atS ?_); done) | assumption) (by omega) ?_
    simp (disch := first | omega | (simp only [go_sem]; first | done | omega)) only [go_sem]
    rw [grV_lenQ _ ns (srtS ns) hsl.symm]
    refine compactVS_a (srtS ns) (by first | ((repeat first | exact at0 (by simp) | refine atS ?_); done) | assumption) (by omega) ?_
    simp (disch := first | omega | (simp only [go_sem]; first | done | omega)) only [go_sem]
    exact Ret.drop hH (Nat.le_refl _) (by simp [AV.ok, AV.ok1, AC.ok]) hk
end Go.Proofs.YtnodfnjmhcjnfaaGreat
