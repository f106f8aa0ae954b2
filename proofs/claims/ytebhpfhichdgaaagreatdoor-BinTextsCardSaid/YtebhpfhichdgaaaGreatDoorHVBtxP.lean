/- retain.Text. Condition: the bins are right, or not. -/
import Derived.Test.YtebhpfhichdgaaaGreatDoorHVBtxT
import Derived.Test.YtebhpfhichdgaaaGreatDoorHVTxtC
import Derived.Test.YtebhpfhichdgaaaGreatDoorHVFrac
import Derived.Test.YtebhpfhichdgaaaGreatDoorHVGB
import Derived.Test.YtebhpfhichdgaaaGreatDoorHVGA
namespace Go.Proofs.YtebhpfhichdgaaaGreatDoor
open Go Go.RowKit
set_option maxRecDepth 100000
set_option linter.all false
set_option maxHeartbeats 4000000
variable {H : Hp} {K : AV → Hp → Prop}
theorem wbyte_a {i j : Nat} (hij : i ≠ j) (l : List UInt8) (c : UInt8) (l2 : List UInt8) (e : l2 = l ++ [c]) (h2 : l.length ≤ 1000000000) (hi : H[i]? = some (bldO true i j l)) (hj : H[j]? = some (grO 5 1 (l.map encU)))
    (hk : K (.c .nili) ((H.set i (.row 112 2 [[.ptr (some (i, 0, 0)), grV (H.length + 1) l2]] true)).set j .dead ++ [.row 5 1 [[.int .u8 c.toNat]] true, grO 5 1 (l2.map encU)])) : ACalls Tryz.prog 77 [.c (.ptr (some (i, 0, 0))), .c (.int .u8 c.toNat)] H K := by
  have hil := getElem?_lt hi
  have hjl := getElem?_lt hj
  refine acalls Tryz.func77 rfl (by kernel_rfl) (by simp (disch := first | omega | (simp only [go_sem]; first | done | omega)) only [go_sem]) (fun hH => ?_)
  simp (disch := first | omega | (simp only [go_sem]; first | done | omega)) only [go_sem]
  refine copyUsed_a hi ?_
  unfold bldO at hi
  have hii : H[i]'hil = .row 112 2 [[.ptr (some (i, 0, 0)), grV j l]] true := by
    have := hi
    rw [List.getElem?_eq_getElem hil] at this
    simpa using this
  simp (disch := first | omega | (simp only [go_sem]; first | done | omega)) only [go_sem, hi]
  refine appUr l [c] (by rw [List.getElem?_append_left hjl]; exact hj) (by rw [List.getElem?_append_right (Nat.le_refl _), Nat.sub_self]; rfl) (by simp) (by simp; omega) ?_
  rw [← e]
  simp (disch := first | omega | (simp only [go_sem]; first | done | omega)) only [go_sem, hii]
  rw [List.set_comm _ _ (by omega : j ≠ i)]
  exact Ret.same (by simp) hk
theorem bnF_ok {l : List Bin} {step : Int} (h : bnF l step = 0) : l.length ≤ 5000 ∧ ∀ x ∈ l, x.ok6 := by
  unfold bnF at h
  split at h
  · omega
  · split at h
    · omega
    · refine ⟨by omega, fun x hx n hn => ?_⟩
      obtain ⟨j, q, h3⟩ := errGo_all _ l 0 _ h x hx
      unfold bnGo at h3
      split at h3
      · omega
      · rename_i h4
        have h4 : bnErr x step = 0 := by omega
        unfold bnErr at h4
        split at h4
        · omega
        · split at h4
          · omega
          · split at h4
            · omega
            · split at h4
              · omega
              · split at h4
                · omega
                · rename_i c1 c2 c3 c4 c5
                  have m1 := mul_bd (n := x.n) (v := x.lo) (by omega) (by omega) (by omega) (by omega)
                  have m2 := mul_bd (n := x.n) (v := x.hi) (by omega) (by omega) (by omega) (by omega)
                  simp only [sixB, List.mem_cons, List.not_mem_nil, or_false] at hn
                  rcases hn with rfl | rfl | rfl | rfl | rfl | rfl <;> omega
def textBR (l : List Bin) (step : Int) : List UInt8 × Int := if bnF l step ≠ 0 then ([], bnF l step) else if 200000 < (textBn l).length then ([], 2) else (textBn l, 0)
theorem textB_a (l : List Bin) (step : Int) (hl : l.length ≤ 1099511627776) (hk : K (.tup [.c (.str (tB (textBR l step).1)), (.c (.int .i64 ((textBR l step).2)))]) H) : ACalls Tryz.prog 13 [.c (.lst 6 (l.map encN)), (.c (.int .i64 step))] H K := by
  unfold textBR at hk
  by_cases h0 : bnF l step = 0
  case neg =>
    rw [if_pos h0] at hk
    refine acalls Tryz.func13 rfl (by kernel_rfl) (by simp (disch := first | omega | (simp only [go_sem]; first | done | omega)) only [go_sem]) (fun hH => ?_)
    simp (disch := first | omega | (simp only [go_sem]; first | done | omega)) only [go_sem]
    refine checkBins_a l step hl ?_
    simp (disch := first | omega | (simp only [go_sem]; first | done | omega)) only [go_sem, h0]
    exact Ret.same (Nat.le_refl _) hk
  rw [if_neg (by simp [h0])] at hk
  obtain ⟨s1, s2⟩ := bnF_ok h0
  refine acalls Tryz.func13 rfl (by kernel_rfl) (by simp (disch := first | omega | (simp only [go_sem]; first | done | omega)) only [go_sem]) (fun hH => ?_)
  simp (disch := first | omega | (simp only [go_sem]; first | done | omega)) only [go_sem]
  refine checkBins_a l step hl ?_
  simp (disch := first | omega | (simp only [go_sem]; first | done | omega)) only [go_sem, h0]
  refine AWp.loop (H.length + 1) [7, 18, 19] [20] (fun (k : Nat) => k ≤ l.length) (fun (k : Nat) => [(20, (.c (.int .i64 k)))]) (fun (k : Nat) => H ++ [bldO (decide (0 < k)) H.length (H.length + 1) (textBn (l.take k)), grO 5 1 ((textBn (l.take k)).map encU)]) (fun (k : Nat) => l.length - k) (by kernel_rfl) (fun _ => rfl) (by kernel_rfl) (by first | (simp; done) | omega) (by first | (simp; done) | (simp; omega) | omega) kl ?_ (fun k q1 _ _ => ?_)
  · refine Next.mk 0 (Nat.zero_le _) ?_
    simp (disch := first | omega | (simp only [go_sem]; first | done | omega)) only [go_sem]
    exact WkL.padP [_] (by simp)
  by_cases hlt : k < l.length
  · have hnx := textBn_next hlt
    have hb := s2 l[k] (List.getElem_mem hlt)
    have hTl := textBn_len (l.take k) (fun x hx => s2 x (List.mem_of_mem_take hx))
    rw [List.length_take] at hTl
    obtain ⟨x, hx⟩ : ∃ x, x = l[k] := ⟨_, rfl⟩
    rw [← hx] at hnx hb
    have g := fun n hn => itoa_len (hb n hn)
    have b1 := hb x.a (by simp [sixB])
    have b2 := hb x.s (by simp [sixB])
    have b3 := hb x.n (by simp [sixB])
    have b4 := hb x.m (by simp [sixB])
    have b5 := hb x.lo (by simp [sixB])
    have b6 := hb x.hi (by simp [sixB])
    have g1 := itoa_len b1
    have g2 := itoa_len b2
    have g3 := itoa_len b3
    have g4 := itoa_len b4
    have g5 := itoa_len b5
    have g6 := itoa_len b6
    have hall : ∀ T : List UInt8, T ++ (lineBn x ++ [10]) = (((((((((((T ++ Lib.itoa x.a) ++ [32]) ++ Lib.itoa x.s) ++ [32]) ++ Lib.itoa x.n) ++ [32]) ++ Lib.itoa x.m) ++ [32]) ++ Lib.itoa x.lo) ++ [32]) ++ Lib.itoa x.hi) ++ [10] := fun T => by
      simp [lineBn, joinL, sixB]
    rw [hall] at hnx
    clear hall
    generalize textBn (l.take k) = T at *
    simp (disch := first | omega | (simp only [go_sem]; first | done | omega)) only [go_sem, hlt, ← hx]
    refine AWp.rounds 6 (by kernel_rfl) ?_
    simp (disch := first | omega | (simp only [go_sem]; first | done | omega)) only [go_sem]
    obtain ⟨U1, hU1⟩ : ∃ U1, U1 = T ++ Lib.itoa x.a := ⟨_, rfl⟩
    refine itoa_a x.a (by omega) (by omega) ?_
    rw [show (⟨(Lib.itoa x.a).toArray⟩ : ByteArray) = tB (Lib.itoa x.a) from rfl]
    simp (disch := first | omega | (simp only [go_sem]; first | done | omega)) only [go_sem]
    refine write_a (i := H.length) (j := H.length + 1) (p := decide (0 < k)) (by omega) T (tB (Lib.itoa x.a)) (by rw [tB_size]; exact itoa_pos _) (by rw [tB_size]; omega) (by omega) (at0 (by simp)) (atG 1 (by simp) rfl) ?_
    rw [show T ++ (tB (Lib.itoa x.a)).data.toList = U1 by rw [hU1]; rfl]
    have lU1 : U1.length ≤ T.length + 16 := by rw [hU1, List.length_append]; omega
    simp (disch := first | omega | (simp only [go_sem]; first | done | omega)) only [go_sem]
    obtain ⟨U2, hU2⟩ : ∃ U2, U2 = U1 ++ [32] := ⟨_, rfl⟩
    refine wbyte_a (i := H.length) (j := H.length + 4) (by omega) U1 32 U2 hU2 (by omega) (at0 (by simp)) (atG 4 (by simp) rfl) ?_
    have lU2 : U2.length ≤ U1.length + 1 := by rw [hU2, List.length_append]; simp
    simp (disch := first | omega | (simp only [go_sem]; first | done | omega)) only [go_sem]
    obtain ⟨U3, hU3⟩ : ∃ U3, U3 = U2 ++ Lib.itoa x.s := ⟨_, rfl⟩
    refine itoa_a x.s (by omega) (by omega) ?_
    rw [show (⟨(Lib.itoa x.s).toArray⟩ : ByteArray) = tB (Lib.itoa x.s) from rfl]
    simp (disch := first | omega | (simp only [go_sem]; first | done | omega)) only [go_sem]
    refine write_a (i := H.length) (j := H.length + 6) (p := true) (by omega) U2 (tB (Lib.itoa x.s)) (by rw [tB_size]; exact itoa_pos _) (by rw [tB_size]; omega) (by omega) (at0 (by simp)) (atG 6 (by simp) rfl) ?_
    rw [show U2 ++ (tB (Lib.itoa x.s)).data.toList = U3 by rw [hU3]; rfl]
    have lU3 : U3.length ≤ U2.length + 16 := by rw [hU3, List.length_append]; omega
    simp (disch := first | omega | (simp only [go_sem]; first | done | omega)) only [go_sem]
    obtain ⟨U4, hU4⟩ : ∃ U4, U4 = U3 ++ [32] := ⟨_, rfl⟩
    refine wbyte_a (i := H.length) (j := H.length + 7) (by omega) U3 32 U4 hU4 (by omega) (at0 (by simp)) (atG 7 (by simp) rfl) ?_
    have lU4 : U4.length ≤ U3.length + 1 := by rw [hU4, List.length_append]; simp
    simp (disch := first | omega | (simp only [go_sem]; first | done | omega)) only [go_sem]
    obtain ⟨U5, hU5⟩ : ∃ U5, U5 = U4 ++ Lib.itoa x.n := ⟨_, rfl⟩
    refine itoa_a x.n (by omega) (by omega) ?_
    rw [show (⟨(Lib.itoa x.n).toArray⟩ : ByteArray) = tB (Lib.itoa x.n) from rfl]
    simp (disch := first | omega | (simp only [go_sem]; first | done | omega)) only [go_sem]
    refine write_a (i := H.length) (j := H.length + 9) (p := true) (by omega) U4 (tB (Lib.itoa x.n)) (by rw [tB_size]; exact itoa_pos _) (by rw [tB_size]; omega) (by omega) (at0 (by simp)) (atG 9 (by simp) rfl) ?_
    rw [show U4 ++ (tB (Lib.itoa x.n)).data.toList = U5 by rw [hU5]; rfl]
    have lU5 : U5.length ≤ U4.length + 16 := by rw [hU5, List.length_append]; omega
    simp (disch := first | omega | (simp only [go_sem]; first | done | omega)) only [go_sem]
    obtain ⟨U6, hU6⟩ : ∃ U6, U6 = U5 ++ [32] := ⟨_, rfl⟩
    refine wbyte_a (i := H.length) (j := H.length + 10) (by omega) U5 32 U6 hU6 (by omega) (at0 (by simp)) (atG 10 (by simp) rfl) ?_
    have lU6 : U6.length ≤ U5.length + 1 := by rw [hU6, List.length_append]; simp
    simp (disch := first | omega | (simp only [go_sem]; first | done | omega)) only [go_sem]
    obtain ⟨U7, hU7⟩ : ∃ U7, U7 = U6 ++ Lib.itoa x.m := ⟨_, rfl⟩
    refine itoa_a x.m (by omega) (by omega) ?_
    rw [show (⟨(Lib.itoa x.m).toArray⟩ : ByteArray) = tB (Lib.itoa x.m) from rfl]
    simp (disch := first | omega | (simp only [go_sem]; first | done | omega)) only [go_sem]
    refine write_a (i := H.length) (j := H.length + 12) (p := true) (by omega) U6 (tB (Lib.itoa x.m)) (by rw [tB_size]; exact itoa_pos _) (by rw [tB_size]; omega) (by omega) (at0 (by simp)) (atG 12 (by simp) rfl) ?_
    rw [show U6 ++ (tB (Lib.itoa x.m)).data.toList = U7 by rw [hU7]; rfl]
    have lU7 : U7.length ≤ U6.length + 16 := by rw [hU7, List.length_append]; omega
    simp (disch := first | omega | (simp only [go_sem]; first | done | omega)) only [go_sem]
    obtain ⟨U8, hU8⟩ : ∃ U8, U8 = U7 ++ [32] := ⟨_, rfl⟩
    refine wbyte_a (i := H.length) (j := H.length + 13) (by omega) U7 32 U8 hU8 (by omega) (at0 (by simp)) (atG 13 (by simp) rfl) ?_
    have lU8 : U8.length ≤ U7.length + 1 := by rw [hU8, List.length_append]; simp
    simp (disch := first | omega | (simp only [go_sem]; first | done | omega)) only [go_sem]
    obtain ⟨U9, hU9⟩ : ∃ U9, U9 = U8 ++ Lib.itoa x.lo := ⟨_, rfl⟩
    refine itoa_a x.lo (by omega) (by omega) ?_
    rw [show (⟨(Lib.itoa x.lo).toArray⟩ : ByteArray) = tB (Lib.itoa x.lo) from rfl]
    simp (disch := first | omega | (simp only [go_sem]; first | done | omega)) only [go_sem]
    refine write_a (i := H.length) (j := H.length + 15) (p := true) (by omega) U8 (tB (Lib.itoa x.lo)) (by rw [tB_size]; exact itoa_pos _) (by rw [tB_size]; omega) (by omega) (at0 (by simp)) (atG 15 (by simp) rfl) ?_
    rw [show U8 ++ (tB (Lib.itoa x.lo)).data.toList = U9 by rw [hU9]; rfl]
    have lU9 : U9.length ≤ U8.length + 16 := by rw [hU9, List.length_append]; omega
    simp (disch := first | omega | (simp only [go_sem]; first | done | omega)) only [go_sem]
    obtain ⟨U10, hU10⟩ : ∃ U10, U10 = U9 ++ [32] := ⟨_, rfl⟩
    refine wbyte_a (i := H.length) (j := H.length + 16) (by omega) U9 32 U10 hU10 (by omega) (at0 (by simp)) (atG 16 (by simp) rfl) ?_
    have lU10 : U10.length ≤ U9.length + 1 := by rw [hU10, List.length_append]; simp
    simp (disch := first | omega | (simp only [go_sem]; first | done | omega)) only [go_sem]
    obtain ⟨U11, hU11⟩ : ∃ U11, U11 = U10 ++ Lib.itoa x.hi := ⟨_, rfl⟩
    refine itoa_a x.hi (by omega) (by omega) ?_
    rw [show (⟨(Lib.itoa x.hi).toArray⟩ : ByteArray) = tB (Lib.itoa x.hi) from rfl]
    simp (disch := first | omega | (simp only [go_sem]; first | done | omega)) only [go_sem]
    refine write_a (i := H.length) (j := H.length + 18) (p := true) (by omega) U10 (tB (Lib.itoa x.hi)) (by rw [tB_size]; exact itoa_pos _) (by rw [tB_size]; omega) (by omega) (at0 (by simp)) (atG 18 (by simp) rfl) ?_
    rw [show U10 ++ (tB (Lib.itoa x.hi)).data.toList = U11 by rw [hU11]; rfl]
    have lU11 : U11.length ≤ U10.length + 16 := by rw [hU11, List.length_append]; omega
    simp (disch := first | omega | (simp only [go_sem]; first | done | omega)) only [go_sem]
    obtain ⟨U12, hU12⟩ : ∃ U12, U12 = U11 ++ [10] := ⟨_, rfl⟩
    refine wbyte_a (i := H.length) (j := H.length + 19) (by omega) U11 10 U12 hU12 (by omega) (at0 (by simp)) (atG 19 (by simp) rfl) ?_
    have lU12 : U12.length ≤ U11.length + 1 := by rw [hU12, List.length_append]; simp
    simp (disch := first | omega | (simp only [go_sem]; first | done | omega)) only [go_sem]
    have hfin : U12 = textBn (l.take (k + 1)) := by rw [hnx, hU12, hU11, hU10, hU9, hU8, hU7, hU6, hU5, hU4, hU3, hU2, hU1]
    refine Next.mk (k + 1) ⟨by omega, by omega⟩ ?_
    rw [← hfin, show decide (0 < k + 1) = true by simp]
    simp (disch := first | omega | (simp only [go_sem]; first | done | omega)) only [go_sem]
    rw [show ((k : Int) + 1) = ((k + 1 : Nat) : Int) by omega]
    exact pickBld (q := 21) hH (Nat.le_refl _) rfl rfl (by omega) (by intro v hv; rw [List.mem_singleton] at hv; exact ⟨_, hv⟩)
  · have hkl : k = l.length := by omega
    subst hkl
    have hTl := textBn_len l s2
    rw [List.take_length]
    simp (disch := first | omega | (simp only [go_sem]; first | done | omega)) only [go_sem]
    generalize textBn l = T at *
    refine bldLen_a (i := H.length) (j := H.length + 1) T (by omega) (by first | ((repeat first | exact at0 (by simp) | refine atS ?_); done) | assumption) (by first | ((repeat first | exact at0 (by simp) | refine atS ?_); done) | assumption) ?_
    by_cases hbig : 200000 < T.length
    · rw [if_pos hbig] at hk
      simp (disch := first | omega | (simp only [go_sem]; first | done | omega)) only [go_sem, hbig]
      exact Ret.drop hH (Nat.le_refl _) (by simp [AV.ok, AV.ok1, AC.ok]) hk
    · rw [if_neg hbig] at hk
      simp (disch := first | omega | (simp only [go_sem]; first | done | omega)) only [go_sem, hbig]
      refine str_a (i := H.length) (m := H.length + 1) (by omega) T (by first | ((repeat first | exact at0 (by simp) | refine atS ?_); done) | assumption) (by first | ((repeat first | exact at0 (by simp) | refine atS ?_); done) | assumption) ?_
      simp (disch := first | omega | (simp only [go_sem]; first | done | omega)) only [go_sem]
      exact Ret.drop hH (Nat.le_refl _) (by simp [AV.ok, AV.ok1, AC.ok]) hk
end Go.Proofs.YtebhpfhichdgaaaGreatDoor
