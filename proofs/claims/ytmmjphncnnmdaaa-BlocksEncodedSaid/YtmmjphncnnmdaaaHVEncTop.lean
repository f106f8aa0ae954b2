/- Encode, and the reference's. Condition: the tag and the list are not huge. -/
import Derived.Test.YtmmjphncnnmdaaaHVEncoded
import Derived.Test.YtmmjphncnnmdaaaHVGC
namespace Go.Proofs.Ytmmjphncnnmdaaa
open Go Go.RowKit
set_option maxRecDepth 100000
set_option linter.all false
set_option maxHeartbeats 1000000
variable {H : Hp} {K : AV → Hp → Prop}
def encRes (tag : ByteArray) (l : List Smp) (o : Bool) : List UInt8 × Int := if ¬ isKey tag then ([], 5) else if serF l ≠ 0 then ([], serF l) else if l.length = 0 then ([], 8) else if 100 < l.length then ([], 12) else (blockB tag l o, 0)
theorem serF_sml {l : List Smp} (h : serF l = 0) : ∀ x ∈ l, smlS x := by
  have key : ∀ (l : List Smp) (k : Nat) (p : Smp), errGo serErr k p l = 0 → ∀ x ∈ l, smpErr x = 0 := by
    intro l
    induction l with
    | nil => simp
    | cons y t ih =>
      intro k p h x hx
      unfold errGo at h
      split at h
      · rename_i h0
        rcases List.mem_cons.1 hx with rfl | hx
        · unfold serErr at h0
          split at h0
          · omega
          · rename_i h2; simpa using h2
        · exact ih (k + 1) y h x hx
      · rename_i h0; exact absurd h h0
  unfold serF at h
  split at h
  · cases h
  · intro x hx
    have h1 := key l 0 _ h x hx
    unfold smlS
    grind [smpErr]
theorem encodeT_a (tag : ByteArray) (l : List Smp) (o : Bool) (ht : tag.size ≤ 1000) (hl : l.length ≤ 1000000) (hk : K (.tup [.c (.lst 1 ((encRes tag l o).1.map encU)), (.c (.int .i64 ((encRes tag l o).2)))]) H) : ACalls Try.prog 9 [(.c (.str tag)), .c (.lst 3 (l.map encS)), (.c (.bool o))] H K := by
  unfold encRes at hk
  refine acalls Try.func9 rfl (by kernel_rfl) (by simp (disch := first | omega | (simp only [go_sem]; first | done | omega)) only [go_sem]) (fun hH => ?_)
  simp (disch := first | omega | (simp only [go_sem]; first | done | omega)) only [go_sem]
  refine key_a tag (by omega) ?_
  by_cases h1 : isKey tag
  · rw [if_neg (by simpa using h1)] at hk
    rw [decide_eq_true h1]
    simp (disch := first | omega | (simp only [go_sem]; first | done | omega)) only [go_sem]
    refine checkSeries_a l (by omega) ?_
    simp (disch := first | omega | (simp only [go_sem]; first | done | omega)) only [go_sem]
    by_cases h2 : serF l = 0
    · rw [if_neg (by simpa using h2)] at hk
      by_cases h3 : l.length = 0
      · rw [if_pos h3] at hk
        have e3 : (l.length : Int) = 0 := by omega
        simp (disch := first | omega | (simp only [go_sem]; first | done | omega)) only [go_sem, h2, e3]
        exact Ret.nilS (Nat.le_refl _) rfl hk
      · rw [if_neg h3] at hk
        have e3 : ¬ (l.length : Int) = 0 := by omega
        by_cases h4 : 100 < l.length
        · rw [if_pos h4] at hk
          have e4 : (100 : Int) < l.length := by omega
          simp (disch := first | omega | (simp only [go_sem]; first | done | omega)) only [go_sem, h2, e3, e4]
          exact Ret.nilS (Nat.le_refl _) rfl hk
        · rw [if_neg h4] at hk
          have e4 : ¬ (100 : Int) < l.length := by omega
          simp (disch := first | omega | (simp only [go_sem]; first | done | omega)) only [go_sem, h2, e3, e4]
          refine encode_a tag l o (by have := h1.1; omega) ht (by omega) (serF_sml h2) ?_
          simp (disch := first | omega | (simp only [go_sem]; first | done | omega)) only [go_sem]
          exact Ret.same (Nat.le_refl _) hk
    · rw [if_pos (by simpa using h2)] at hk
      simp (disch := first | omega | (simp only [go_sem]; first | done | omega)) only [go_sem, h2]
      exact Ret.nilS (Nat.le_refl _) rfl hk
  · rw [if_pos h1] at hk
    rw [decide_eq_false h1]
    simp (disch := first | omega | (simp only [go_sem]; first | done | omega)) only [go_sem]
    exact Ret.nilS (Nat.le_refl _) rfl hk
theorem encodeOf_a (tag : ByteArray) (l : List Smp) (o : Bool) (ht : tag.size ≤ 1000) (hl : l.length ≤ 1000000) (hk : K (.tup [.c (.lst 1 ((encRes tag l o).1.map encU)), (.c (.int .i64 ((encRes tag l o).2)))]) H) : ACalls Try.prog 10 [(.c (.str tag)), .c (.lst 3 (l.map encS)), (.c (.bool o))] H K := by
  unfold encRes at hk
  refine acalls Try.func10 rfl (by kernel_rfl) (by simp (disch := first | omega | (simp only [go_sem]; first | done | omega)) only [go_sem]) (fun hH => ?_)
  simp (disch := first | omega | (simp only [go_sem]; first | done | omega)) only [go_sem]
  refine keyR_a tag (by omega) ?_
  by_cases h1 : isKey tag
  · rw [if_neg (by simpa using h1)] at hk
    rw [decide_eq_true h1]
    simp (disch := first | omega | (simp only [go_sem]; first | done | omega)) only [go_sem]
    refine seriesFault_a l (by omega) ?_
    simp (disch := first | omega | (simp only [go_sem]; first | done | omega)) only [go_sem]
    by_cases h2 : serF l = 0
    · rw [if_neg (by simpa using h2)] at hk
      by_cases h3 : l.length = 0
      · rw [if_pos h3] at hk
        have e3 : (l.length : Int) = 0 := by omega
        simp (disch := first | omega | (simp only [go_sem]; first | done | omega)) only [go_sem, h2, e3]
        exact Ret.nilS (Nat.le_refl _) rfl hk
      · rw [if_neg h3] at hk
        have e3 : ¬ (l.length : Int) = 0 := by omega
        by_cases h4 : 100 < l.length
        · rw [if_pos h4] at hk
          have e4 : (100 : Int) < l.length := by omega
          simp (disch := first | omega | (simp only [go_sem]; first | done | omega)) only [go_sem, h2, e3, e4]
          exact Ret.nilS (Nat.le_refl _) rfl hk
        · rw [if_neg h4] at hk
          have e4 : ¬ (100 : Int) < l.length := by omega
          simp (disch := first | omega | (simp only [go_sem]; first | done | omega)) only [go_sem, h2, e3, e4]
          refine encoded_a tag l o (by have := h1.1; omega) ht (by omega) (serF_sml h2) ?_
          simp (disch := first | omega | (simp only [go_sem]; first | done | omega)) only [go_sem]
          exact Ret.same (Nat.le_refl _) hk
    · rw [if_pos (by simpa using h2)] at hk
      simp (disch := first | omega | (simp only [go_sem]; first | done | omega)) only [go_sem, h2]
      exact Ret.nilS (Nat.le_refl _) rfl hk
  · rw [if_pos h1] at hk
    rw [decide_eq_false h1]
    simp (disch := first | omega | (simp only [go_sem]; first | done | omega)) only [go_sem]
    exact Ret.nilS (Nat.le_refl _) rfl hk
end Go.Proofs.Ytmmjphncnnmdaaa
