/- Texts of samples that are drawn. -/
import Derived.Test.YtnodfnjmhcjnfaaGreatDoorHVTxtK
import Derived.Test.YtnodfnjmhcjnfaaGreatDoorHVDraw
namespace Go.Proofs.YtnodfnjmhcjnfaaGreatDoor
open Go Go.RowKit
set_option maxRecDepth 100000
set_option linter.all false
set_option maxHeartbeats 2000000
variable {H : Hp} {K : AV → Hp → Prop}
theorem rightSamplesT_a (s : Nat) (zs : List Int) (j most : Int) (hs : Str H s zs j) (hj : j ≤ 1090000000000) (hm0 : 0 ≤ most) (hm1 : most ≤ 100)
    (hk : ∀ (l : List Smp) (j' : Int), j ≤ j' → j' ≤ j + 2 + 3 * most → drawnS most l → K (.c (.lst 3 (l.map encS))) (H.set s (strO zs j'))) :
    ACalls Tryz.prog 54 [.c (.ptr (some (s, 0, 0))), (.c (.int .i64 most))] H K := by
  refine ACalls.postR (rightSamples_o s zs j most hs hj hm0 hm1 (K := fun v G => ∃ (l : List Smp) (j' : Int), j ≤ j' ∧ j' ≤ j + 2 + 3 * most ∧ drawnS most l ∧ v = .c (grV H.length l) ∧ G = H.set s (strO zs j') ++ [grO 38 3 (l.map encS)]) (fun l j' h1 h2 h3 => ⟨l, j', h1, h2, h3, rfl, rfl⟩)) ?_
  rintro hH v G ⟨l, j', h1, h2, h3, rfl, rfl⟩
  exact Ret.frzGr 0 (HOk.str hH) (by simp) rfl (pureL_map _ (fun x => by simp [go_sem, AC.pure])) (by simp [map_grV]) (hk l j' h1 h2 h3)
def wOdd : ByteArray := ⟨#[32, 10, 48, 45, 57, 97, 100, 103]⟩
theorem wOdd_bd : ∀ i, i < 8 → 0 ≤ byteAt wOdd i ∧ byteAt wOdd i < 128 := by decide
theorem changed_a (s : Nat) (zs : List Int) (j : Int) (t : ByteArray) (hs : Str H s zs j) (hj : j ≤ 1099000000000) (ht : t.size ≤ 100000)
    (hk : ∀ (t' : ByteArray) (j' : Int), j ≤ j' → j' ≤ j + 3 → t'.size ≤ t.size + 8 → K (.c (.str t')) (H.set s (strO zs j'))) : ACalls Tryz.prog 79 [.c (.ptr (some (s, 0, 0))), (.c (.str t)), (.c (.str wOdd))] H K := by
  have hlt := hs.lt
  have hpos := hs.pos
  have hne : H.length ≠ s := by omega
  have hw : wOdd.size = 8 := rfl
  have hw0 : ¬ wOdd = ⟨#[]⟩ := fun h => by have := congrArg ByteArray.size h; cases this
  by_cases h0 : t = ⟨#[]⟩
  · subst h0
    refine acalls Tryz.func79 rfl (by kernel_rfl) (by simp (disch := first | omega | (simp only [go_sem]; first | done | omega)) only [go_sem]) (fun hH => ?_)
    simp (disch := first | omega | (simp only [go_sem]; first | done | omega)) only [go_sem, hw0]
    have := hk wOdd j (Int.le_refl _) (by omega) (by rw [hw]; omega)
    rw [set_same hs.2.2.2] at this
    exact Ret.same (Nat.le_refl _) this
  have hts : 0 < t.size := by have := mt size_zero.2 h0; omega
  refine acalls Tryz.func79 rfl (by kernel_rfl) (by simp (disch := first | omega | (simp only [go_sem]; first | done | omega)) only [go_sem]) (fun hH => ?_)
  simp (disch := first | omega | (simp only [go_sem]; first | done | omega)) only [go_sem, h0, hw0]
  refine next_a s zs j t.size (by first | exact hs | exact hs.app _ | exact hs.set (by omega) (by omega) | exact (hs.set (by omega) (by omega)).app _) (by omega) (by omega) (fun r h1 h2 => ?_)
  simp (disch := first | omega | (simp only [go_sem]; first | done | omega)) only [go_sem, hw]
  refine next_a s zs (j + 1) 8 (by first | exact hs | exact hs.app _ | exact hs.set (by omega) (by omega) | exact (hs.set (by omega) (by omega)).app _) (by omega) (by omega) (fun q h3 h4 => ?_)
  have hqb := wOdd_bd q.toNat (by omega)
  have hqw : q < (8 : Int) := h4
  obtain ⟨b, hb⟩ : ∃ b : Int, b = byteAt wOdd q.toNat := ⟨_, rfl⟩
  rw [← hb] at hqb
  have hwb : IntKind.i32.wrap b = b := by rw [IntKind.wrap_i32]; omega
  simp (disch := first | omega | (simp only [go_sem]; first | done | omega)) only [go_sem, hw, ← hb]
  refine next_a s zs (j + 1 + 1) 3 (by first | exact hs | exact hs.app _ | exact hs.set (by omega) (by omega) | exact (hs.set (by omega) (by omega)).app _) (by omega) (by omega) (fun d h5 h6 => ?_)
  have e1 : ((r : Int) + 1).toNat = r.toNat + 1 := by omega
  have hsz1 : (t.extract 0 r.toNat).size = r.toNat := by rw [ByteArray.size_extract]; omega
  have hsz2 : (t.extract r.toNat t.size).size = t.size - r.toNat := by rw [ByteArray.size_extract]; omega
  have hsz3 : (t.extract (r.toNat + 1) t.size).size = t.size - (r.toNat + 1) := by rw [ByteArray.size_extract]; omega
  have hone : (#[UInt8.ofNat b.toNat] : Array UInt8).size = 1 := rfl
  have hone2 : (⟨#[UInt8.ofNat b.toNat]⟩ : ByteArray).size = 1 := rfl
  have hfin : ∀ t' : ByteArray, t'.size ≤ t.size + 1 → Ret H.length (.c (.str t')) (H.set s (strO zs (j + 1 + 1 + 1))) K := fun t' h => Ret.same (by simp) (hk t' _ (by omega) (by omega) (by omega))
  have hd : d = 0 ∨ d = 1 ∨ d = 2 := by omega
  rcases hd with rfl | rfl | rfl
  · simp (disch := first | omega | (simp only [go_sem]; first | done | omega)) only [go_sem]
    refine w_draw (by kernel_rfl) (by decide +kernel) ?_
    simp (disch := first | omega | (simp only [go_sem]; first | done | omega)) only [go_sem, hwb, e1, hsz1, hsz2, hsz3, ByteArray.size_append, hone]
    refine hfin _ ?_
    simp only [ByteArray.size_append, hone2, hsz1, hsz2, hsz3]
    omega
  · simp (disch := first | omega | (simp only [go_sem]; first | done | omega)) only [go_sem]
    refine w_draw (by kernel_rfl) (by decide +kernel) ?_
    simp (disch := first | omega | (simp only [go_sem]; first | done | omega)) only [go_sem, hwb, e1, hsz1, hsz2, hsz3, ByteArray.size_append, hone]
    refine hfin _ ?_
    simp only [ByteArray.size_append, hone2, hsz1, hsz2, hsz3]
    omega
  · simp (disch := first | omega | (simp only [go_sem]; first | done | omega)) only [go_sem]
    refine w_draw (by kernel_rfl) (by decide +kernel) ?_
    simp (disch := first | omega | (simp only [go_sem]; first | done | omega)) only [go_sem, e1, hsz1, hsz2, hsz3, ByteArray.size_append]
    refine hfin _ ?_
    simp only [ByteArray.size_append, hsz1, hsz3]
    omega
theorem sampleTextD_a (s : Nat) (zs : List Int) (j : Int) (hs : Str H s zs j) (hj : j ≤ 1000000000)
    (hk : ∀ (t : List UInt8) (j' : Int), j ≤ j' → j' ≤ j + 50 → t.length ≤ 1000 → K (.c (.str (tB t))) (H.set s (strO zs j'))) : ACalls Tryz.prog 12 [.c (.ptr (some (s, 0, 0)))] H K := by
  have hlt := hs.lt
  have hpos := hs.pos
  have hne : H.length ≠ s := by omega
  refine acalls Tryz.func12 rfl (by kernel_rfl) (by simp (disch := first | omega | (simp only [go_sem]; first | done | omega)) only [go_sem]) (fun hH => ?_)
  simp (disch := first | omega | (simp only [go_sem]; first | done | omega)) only [go_sem]
  refine rightSamplesT_a s zs j 4 (by first | exact hs | exact hs.app _ | exact hs.set (by omega) (by omega) | exact (hs.set (by omega) (by omega)).app _) (by omega) (by omega) (by omega) (fun l j1 h1 h2 h3 => ?_)
  obtain ⟨h4, h5, h6⟩ := h3
  obtain ⟨s1, s2⟩ := serF_ok' h4
  have hlen : (textT l).length ≤ 200 := by
    have key : ∀ m : List Smp, (∀ x ∈ m, smpErr x = 0) → (textT m).length ≤ 44 * m.length := by
      intro m
      induction m with
      | nil => intro _; simp [textT]
      | cons x r ih =>
        intro hm
        have h7 := smp_ok' (hm x (by simp))
        have h8 := lineT_len (x := x) (by omega) (by omega)
        have h9 := ih (fun y hy => hm y (List.mem_cons_of_mem _ hy))
        unfold textT at h9 ⊢
        rw [List.flatMap_cons, List.length_append, List.length_append, List.length_singleton, List.length_cons]
        omega
    have := key l s2
    omega
  simp (disch := first | omega | (simp only [go_sem]; first | done | omega)) only [go_sem]
  refine sampleLines_a l s1 s2 ?_
  simp (disch := first | omega | (simp only [go_sem]; first | done | omega)) only [go_sem]
  refine pick_lit s zs j1 [0, 0, 1, 2] (by first | ((repeat first | exact at0 (by simp) | refine atS ?_); done) | assumption) rfl rfl (by first | exact hs | exact hs.app _ | exact hs.set (by omega) (by omega) | exact (hs.set (by omega) (by omega)).app _) (by omega) (by simp) (by simp) (fun n hn => ?_)
  simp only [List.mem_cons, List.not_mem_nil, or_false] at hn
  have hnb : 0 ≤ n ∧ n ≤ 2 := by omega
  simp (disch := first | omega | (simp only [go_sem]; first | done | omega)) only [go_sem]
  have hok : ∀ j', HOk (H.set s (strO zs j')) := fun j' => HOk.str hH
  refine AWp.loop (H.length) [0, 9] [3, 10] (fun (q : Nat × ByteArray × Int) => (q.1 : Int) ≤ n ∧ q.2.1.size ≤ 200 + 8 * q.1 ∧ j ≤ q.2.2 ∧ q.2.2 ≤ j + 15 + 3 * q.1) (fun (q : Nat × ByteArray × Int) => [(3, .c (.str q.2.1)), (10, (.c (.int .i64 (q.1))))]) (fun (q : Nat × ByteArray × Int) => H.set s (strO zs q.2.2)) (fun (q : Nat × ByteArray × Int) => n.toNat - q.1) (by kernel_rfl) (fun _ => rfl) (by kernel_rfl) (by first | (simp; done) | omega) (by first | (simp; done) | (simp; omega) | omega) kl ?_ (fun q hq _ _ => ?_)
  · refine Next.mk (0, tB (textT l), j1 + 1) ⟨by dsimp only; omega, by dsimp only; rw [tB_size]; omega, by dsimp only; omega, by dsimp only; omega⟩ ?_
    dsimp only
    simp (disch := first | omega | (simp only [go_sem]; first | done | omega)) only [go_sem]
    exact WkL.rest (hok _) (by simp) rfl (by intro x hx; simp only [List.mem_cons, List.not_mem_nil, or_false] at hx; rcases hx with rfl | rfl <;> simp [AV.ok, AV.ok1, AC.ok])
  obtain ⟨k, t, j2⟩ := q
  obtain ⟨q1, q2, q3, q4⟩ := hq
  dsimp only at q1 q2 q3 q4 ⊢
  by_cases hlt2 : (k : Int) < n
  · simp (disch := first | omega | (simp only [go_sem]; first | done | omega)) only [go_sem, hlt2]
    refine changed_a s zs j2 t ⟨hs.1, by omega, by omega, List.getElem?_set_self hlt⟩ (by omega) (by omega) (fun t' j3 h7 h8 h9 => ?_)
    simp (disch := first | omega | (simp only [go_sem]; first | done | omega)) only [go_sem]
    refine Next.mk (k + 1, t', j3) ⟨⟨by dsimp only; omega, by dsimp only; omega, by dsimp only; omega, by dsimp only; omega⟩, by dsimp only; omega⟩ ?_
    dsimp only
    exact wk
  · simp (disch := first | omega | (simp only [go_sem]; first | done | omega)) only [go_sem, hlt2]
    have := hk (tL t) j2 (by omega) (by omega) (by rw [tL_len]; omega)
    rw [tB_tL] at this
    exact Ret.same (by simp) this
end Go.Proofs.YtnodfnjmhcjnfaaGreatDoor
