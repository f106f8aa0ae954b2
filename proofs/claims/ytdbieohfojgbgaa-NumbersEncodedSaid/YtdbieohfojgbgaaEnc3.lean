/- What the checksums and the comparison of bytes return. Conditions: sizes that no memory reaches. -/
import Derived.Test.YtdbieohfojgbgaaEnc2
namespace Go.Proofs.Ytdbieohfojgbgaa
open Go Go.RowKit
set_option maxHeartbeats 400000

theorem csum_step {l : List UInt8} {k cc : Nat} (hk : k < l.length) (hcc : l[k].toNat = cc) : ((csum (l.take (k + 1)) : Nat) : Int) = ((csum (l.take k) : Nat) * 31 + (cc : Int) + 1) % 65521 := by
  rw [take_snoc l k hk, csum_snoc, hcc]; omega
theorem checksum_any (A : Option Addr) (l : List UInt8) (c0 : Nat) (w : World) (hr : Rd w elB A l) (hl : l.length ≤ 1099511627776) :
    Calls Try.prog 14 #[.slice A l.length c0] w fun e w' => e = .returned (.int .i64 (csum l : Nat)) ∧ w = w' := by
  go_enter Try.func14, Try.ntmps14
  go_wp2_with fail
  go_loop [3, 8] (fun c i => ∃ k : Nat, k ≤ l.length ∧ i = .int .i64 (k : Int) ∧ c = .int .i64 ((csum (l.take k) : Nat) : Int)) (fun _ i => l.length - (intOf i).toNat)
  case atStart => exact ⟨0, by omega, rfl, rfl⟩
  case round =>
    obtain ⟨k, hk, rfl, rfl⟩ := hrel
    have hcs := csum_lt (l.take k)
    by_cases hlt : k < l.length
    · obtain ⟨ad, rfl, hc⟩ := rdB_at hr k hlt
      generalize hcc : (l[k]).toNat = cc at hc
      have hs := hid (csum_step hlt hcc)
      have hcc256 : cc < 256 := by rw [← hcc]; exact UInt8.toNat_lt _
      clear hcc
      generalize csum (l.take k) = C at hs hcs
      go_wp2_with fail
      exact ⟨⟨k + 1, by omega, by go_num, by rw [hs.out]⟩, by simp [intOf]; omega⟩
    · have e : k = l.length := by omega
      have he : Hid (csum (l.take k) = csum l) := by rw [Hid, e, List.take_length]
      clear e
      go_wp2_with fail
      go_ret
      exact ⟨by rw [← he.out]; rfl, rfl⟩
theorem checksumOf_any (A : Option Addr) (l : List UInt8) (c0 : Nat) (w : World) (hr : Rd w elB A l) (hl : l.length ≤ 1099511627776) :
    Calls Try.prog 15 #[.slice A l.length c0] w fun e w' => e = .returned (.int .i64 (csum l : Nat)) ∧ w = w' := by
  go_enter Try.func15, Try.ntmps15
  go_wp2_with fail
  go_loop [3, 8] (fun c i => ∃ k : Nat, k ≤ l.length ∧ i = .int .i64 (k : Int) ∧ c = .int .i64 ((csum (l.take k) : Nat) : Int)) (fun _ i => l.length - (intOf i).toNat)
  case atStart => exact ⟨0, by omega, rfl, rfl⟩
  case round =>
    obtain ⟨k, hk, rfl, rfl⟩ := hrel
    have hcs := csum_lt (l.take k)
    by_cases hlt : k < l.length
    · obtain ⟨ad, rfl, hc⟩ := rdB_at hr k hlt
      generalize hcc : (l[k]).toNat = cc at hc
      have hs := hid (csum_step hlt hcc)
      have hcc256 : cc < 256 := by rw [← hcc]; exact UInt8.toNat_lt _
      clear hcc
      generalize csum (l.take k) = C at hs hcs
      go_wp2_with fail
      exact ⟨⟨k + 1, by omega, by go_num, by rw [hs.out]⟩, by simp [intOf]; omega⟩
    · have e : k = l.length := by omega
      have he : Hid (csum (l.take k) = csum l) := by rw [Hid, e, List.take_length]
      clear e
      go_wp2_with fail
      go_ret
      exact ⟨by rw [← he.out]; rfl, rfl⟩
/-- bytes as a string -/
def strB (l : List UInt8) : ByteArray := ⟨l.toArray⟩
theorem run_strB {w : World} {A : Option Addr} {l : List UInt8} (h : Rd w elB A l) (c : Nat) (W : World) (hW : W = w) :
    (convert 27 9 (.slice A l.length c)).run Try.prog W = .ok (.string (strB l)) W := by
  subst hW
  cases A with
  | none =>
    have : l = [] := by
      rcases l with _ | ⟨x, t⟩
      · rfl
      · obtain ⟨ad, h0, _⟩ := h.2 (by simp); cases h0
    subst this
    exact run_convert_bytes_nil W 27 5 Try.underlying27 Try.underlying5 _ c _ Try.underlying9
  | some a =>
    obtain ⟨hs, _⟩ := h.1 a rfl
    obtain ⟨b, off, sp⟩ := a
    simp only at hs
    subst hs
    have hcell : ∀ i, i < l.length → W.cell? ⟨b, off + i, none⟩ = some (.int .u8 ((l.map fun x => (x.toNat : Int)).getD i 0)) := by
      intro i hi
      obtain ⟨ad, h1, h2⟩ := rdB_at h i hi
      injection h1 with h1
      subst h1
      rw [add_mk] at h2
      rw [h2]
      simp [List.getD, List.getElem?_eq_getElem hi]
    have := run_convert_bytes_arg W 27 5 Try.underlying27 Try.underlying5 b off l.length c _ (by simp) hcell _ Try.underlying9
    rw [this]
    have e : strOfNums (l.map fun x => (x.toNat : Int)) = strB l := by
      have hm : (l.map fun x => (x.toNat : Int)).map (fun n => UInt8.ofNat n.toNat) = l := by
        rw [List.map_map]
        exact (List.map_congr_left (fun x _ => by simp)).trans (List.map_id l)
      unfold strOfNums strB
      rw [hm]
    rw [e]
theorem bytesEqual_any (A B : Option Addr) (l m : List UInt8) (c d : Nat) (w : World) (hl : Rd w elB A l) (hm : Rd w elB B m) :
    Calls Try.prog 13 #[.slice A l.length c, .slice B m.length d] w fun e w' => e = .returned (.bool (decide (l = m))) ∧ w = w' := by
  have h1 := run_strB hl c w rfl
  have h2 := run_strB hm d w rfl
  go_enter Try.func13, Try.ntmps13
  go_wp2_with fail
  go_ret
  refine ⟨?_, rfl⟩
  show Ending.returned (Value.bool ((strB l).toList == (strB m).toList)) = _
  rw [show (strB l).toList = l from ByteArray.toList_mk l, show (strB m).toList = m from ByteArray.toList_mk m]
  rw [show (l == m) = decide (l = m) from by rw [Bool.eq_iff_iff]; simp]
theorem bytesEqual_same (A B : Option Addr) (l m : List UInt8) (c d : Nat) (w : World) (hl : Rd w elB A l) (hm : Rd w elB B m) (n : Nat) (h : l = m) (hn : n = m.length) :
    Calls Try.prog 13 #[.slice A l.length c, .slice B n d] w fun e w' => e = .returned (.bool true) ∧ w = w' := by
  subst h; subst hn
  exact (bytesEqual_any A B l l c d w hl hm).mono fun e w' h => ⟨by simpa using h.1, h.2⟩
theorem vb64 : vb 128 = [128, 1] := by rw [vb_ge (by omega), vb_lt (by omega)]; rfl
theorem archived_any (w : World) : Calls Try.prog 16 #[] w fun e w' => e = .returned (.bool true) ∧ w.grownBy w' none := by
  go_enter Try.func16, Try.ntmps16
  go_wp2_with fail
  refine (varint_ok 64 _ (by omega)).mono ?_
  rintro e w1 ⟨A, c, rfl, ho, hg⟩
  have hz : zig 64 = 128 := rfl
  rw [hz, vb64] at ho ⊢
  go_wp2_with fail
  refine (bytesEqual_same A _ [128, 1] [128, 1] c _ _ (ho.rd.kept0 (gb_alloc _ _ _)) (rdB_lit _ _ _ rfl) 2 rfl rfl).mono ?_
  rintro e w2 ⟨rfl, rfl⟩
  go_wp2_with fail
  go_ret
  exact ⟨rfl, gb_trans hg (gb_alloc _ _ _)⟩
end Go.Proofs.Ytdbieohfojgbgaa
