/- Words of a line: base.Words, sample.word, sample.ReadWords. -/
import Derived.Test.YtebhpfhichdgaaaGreatDoorHVTxtP
import Derived.Test.YtebhpfhichdgaaaGreatDoorHVGB
import Derived.Test.YtebhpfhichdgaaaGreatDoorHVGA
import Derived.Test.YtebhpfhichdgaaaGreatDoorHCoreDrawS
namespace Go.Proofs.YtebhpfhichdgaaaGreatDoor
open Go Go.RowKit
set_option maxRecDepth 100000
set_option linter.all false
set_option maxHeartbeats 2000000
variable {H : Hp} {K : AV → Hp → Prop}
theorem appIx {i q ty : Nat} {own : Bool} {J : AV → Hp → Prop} (l : List Int) (x : Int) (l2 : List Int) (e : l2 = l ++ [x]) (hi : H[i]? = some (grO 3 1 (l.map encI))) (hj : H[q]? = some (.row ty 1 [encI x] own)) (hb : l.length ≤ 1000000000)
    (h : J (.c (grV H.length l2)) (H.set i .dead ++ [grO 3 1 (l2.map encI)])) : aBuiltin Tryz.prog .append #[22, 22] [.c (grV i l), .c (.sl (some (q, 0)) 1)] H J := by
  subst e
  exact app_grR (enc := encI) (e := 3) (sz := 1) (bs := 8) (z := [.int .i64 0]) l [x] (by kernel_rfl) (by kernel_rfl) (by kernel_rfl) (by kernel_rfl) hi (by rw [hj]; rfl) (by simp) rfl (by decide) (by simp; omega) (by simp; omega) h
theorem tB_noS {l : List UInt8} : tB l = ⟨#[]⟩ ↔ l = [] := tB_nil
theorem getElem_tx {ws : List (List UInt8)} {k : Nat} (h : k < ws.length) (h2 : k < (ws.map encTx).length) : (ws.map encTx)[k] = [.str (tB ws[k])] := by rw [List.getElem_map]; rfl
theorem wordsP_a (l : List UInt8) (n : Nat) (hl : l.length ≤ 1000000) (hk : K (.tup [.c (if (splitL 32 l).length = n ∧ [] ∉ splitL 32 l then .lst 1 ((splitL 32 l).map encTx) else .sl none 0), (.c (.bool (decide ((splitL 32 l).length = n ∧ [] ∉ splitL 32 l))))]) H) : ACalls Tryz.prog 87 [(.c (.str (tB l))), (.c (.int .i64 n))] H K := by
  have hlen : (splitL 32 l).length ≤ l.length + 1 := by
    rw [splitL_len]
    have := List.length_filter_le (fun x => decide (x = 32)) l
    omega
  refine acalls Tryz.func87 rfl (by kernel_rfl) (by simp (disch := first | omega | (simp only [go_sem]; first | done | omega)) only [go_sem]) (fun hH => ?_)
  simp (disch := first | omega | (simp only [go_sem]; first | done | omega)) only [go_sem]
  refine splitS_a l 32 hl ?_
  generalize splitL 32 l = ws at *
  have hml : (ws.map encTx).length = ws.length := List.length_map ..
  by_cases h0 : ws.length = n
  · have h0' : (ws.length : Int) = (n : Int) := by omega
    simp (disch := first | omega | (simp only [go_sem]; first | done | omega)) only [go_sem, hml, h0']
    refine AWp.loop (H.length) [6, 15, 16] [17] (fun (k : Nat) => k ≤ ws.length ∧ [] ∉ ws.take k) (fun (k : Nat) => [(17, (.c (.int .i64 k)))]) (fun (k : Nat) => H) (fun (k : Nat) => ws.length - k) (by kernel_rfl) (fun _ => rfl) (by kernel_rfl) (by first | (simp; done) | omega) (by first | (simp; done) | (simp; omega) | omega) kl ?_ (fun k hk1 _ _ => ?_)
    · exact Next.mk 0 ⟨by omega, by simp⟩ wk
    obtain ⟨hk1, hk2⟩ := hk1
    by_cases hlt : k < ws.length
    · have hlt' : (k : Int) < (n : Int) := by omega
      by_cases he : ws[k] = []
      · rw [if_neg (fun h => h.2 (by rw [← he]; exact List.getElem_mem hlt)), decide_eq_false (fun h => h.2 (by rw [← he]; exact List.getElem_mem hlt))] at hk
        simp (disch := first | omega | (simp only [go_sem]; first | done | omega)) only [go_sem, hml, hlt', getElem_tx hlt, tB_noS, he]
        exact Ret.same (Nat.le_refl _) hk
      · simp (disch := first | omega | (simp only [go_sem]; first | done | omega)) only [go_sem, hml, hlt', getElem_tx hlt, tB_noS, he]
        refine Next.mk (k + 1) ⟨⟨by omega, ?_⟩, by omega⟩ wk
        rw [List.take_succ_eq_append_getElem hlt]
        intro h
        rcases List.mem_append.1 h with h | h
        · exact hk2 h
        · exact he (List.mem_singleton.1 h).symm
    · have hlt' : ¬ (k : Int) < (n : Int) := by omega
      rw [List.take_of_length_le (by omega)] at hk2
      rw [if_pos ⟨h0, hk2⟩, decide_eq_true ⟨h0, hk2⟩] at hk
      simp (disch := first | omega | (simp only [go_sem]; first | done | omega)) only [go_sem, hml, hlt']
      exact Ret.same (Nat.le_refl _) hk
  · have h0' : ¬ (ws.length : Int) = (n : Int) := by omega
    rw [if_neg (fun h => h0 h.1), decide_eq_false (fun h => h0 h.1)] at hk
    simp (disch := first | omega | (simp only [go_sem]; first | done | omega)) only [go_sem, hml, h0']
    exact Ret.same (Nat.le_refl _) hk
theorem itoa_len {n : Int} (h : -1000000000000000 < n ∧ n < 1000000000000000) : (Lib.itoa n).length ≤ 16 := by
  have := dec_len 14 n.natAbs (by simp; omega)
  unfold Lib.itoa
  split
  · rw [List.length_cons]; omega
  · first | omega | (rw [show n.toNat = n.natAbs by omega]; omega)
end Go.Proofs.YtebhpfhichdgaaaGreatDoor
