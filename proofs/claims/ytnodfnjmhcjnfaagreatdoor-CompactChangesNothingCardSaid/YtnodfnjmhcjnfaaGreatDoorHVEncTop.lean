/- Several texts in one: Encode, and the reference's, and what follows. No condition. -/
import Derived.Test.YtnodfnjmhcjnfaaGreatDoorHVEncoded
import Derived.Test.YtnodfnjmhcjnfaaGreatDoorHVGA
import Derived.Test.YtnodfnjmhcjnfaaGreatDoorHVBytes3
import Derived.Test.YtnodfnjmhcjnfaaGreatDoorHVStr
/- Encode, and the reference's. Condition: the tag and the list are not huge. -/
namespace Go.Proofs.YtnodfnjmhcjnfaaGreatDoor
open Go Go.RowKit
set_option maxRecDepth 100000
set_option linter.all false
set_option maxHeartbeats 1000000
variable {H : Hp} {K : AV → Hp → Prop}
def encRes (tag : ByteArray) (l : List Smp) (o : Bool) : List UInt8 × Int := if ¬ isKey tag then ([], 5) else if serF l ≠ 0 then ([], serF l) else if l.length = 0 then ([], 8) else if 100 < l.length then ([], 12) else (blockB tag l o, 0)
theorem serF_sml {l : List Smp} (h : serF l = 0) : ∀ x ∈ l, smlS x := by
  have key : ∀ (l : List Smp) (k : Nat) (p : Smp), errGo serErr k p l = 0 → ∀ x ∈ l, smpErr x = 0 := by
    intro l
    induction l with
    | nil => simp
    | cons y t ih =>
      intro k p h x hx
      unfold errGo at h
      split at h
      · rename_i h0
        rcases List.mem_cons.1 hx with rfl | hx
        · unfold serErr at h0
          split at h0
          · omega
          · rename_i h2; simpa using h2
        · exact ih (k + 1) y h x hx
      · rename_i h0; exact absurd h h0
  unfold serF at h
  split at h
  · cases h
  · intro x hx
    have h1 := key l 0 _ h x hx
    unfold smlS
    grind [smpErr]
theorem encodeT_a (tag : ByteArray) (l : List Smp) (o : Bool) (ht : tag.size ≤ 1000) (hl : l.length ≤ 1000000) (hk : K (.tup [.c (.lst 1 ((encRes tag l o).1.map encU)), (.c (.int .i64 ((encRes tag l o).2)))]) H) : ACalls Tryz.prog 75 [(.c (.str tag)), .c (.lst 3 (l.map encS)), (.c (.bool o))] H K := by
  unfold encRes at hk
  refine acalls Tryz.func75 rfl (by kernel_rfl) (by simp (disch := first | omega | (simp only [go_sem]; first | done | omega)) only [go_sem]) (fun hH => ?_)
  simp (disch := first | omega | (simp only [go_sem]; first | done | omega)) only [go_sem]
  refine key_a tag (by omega) ?_
  by_cases h1 : isKey tag
  · rw [if_neg (by simpa using h1)] at hk
    rw [decide_eq_true h1]
    simp (disch := first | omega | (simp only [go_sem]; first | done | omega)) only [go_sem]
    refine checkSeries_a l (by omega) ?_
    simp (disch := first | omega | (simp only [go_sem]; first | done | omega)) only [go_sem]
    by_cases h2 : serF l = 0
    · rw [if_neg (by simpa using h2)] at hk
      by_cases h3 : l.length = 0
      · rw [if_pos h3] at hk
        have e3 : (l.length : Int) = 0 := by omega
        simp (disch := first | omega | (simp only [go_sem]; first | done | omega)) only [go_sem, h2, e3]
        exact Ret.nilS (Nat.le_refl _) rfl hk
      · rw [if_neg h3] at hk
        have e3 : ¬ (l.length : Int) = 0 := by omega
        by_cases h4 : 100 < l.length
        · rw [if_pos h4] at hk
          have e4 : (100 : Int) < l.length := by omega
          simp (disch := first | omega | (simp only [go_sem]; first | done | omega)) only [go_sem, h2, e3, e4]
          exact Ret.nilS (Nat.le_refl _) rfl hk
        · rw [if_neg h4] at hk
          have e4 : ¬ (100 : Int) < l.length := by omega
          simp (disch := first | omega | (simp only [go_sem]; first | done | omega)) only [go_sem, h2, e3, e4]
          refine encode_a tag l o (by have := h1.1; omega) ht (by omega) (serF_sml h2) ?_
          simp (disch := first | omega | (simp only [go_sem]; first | done | omega)) only [go_sem]
          exact Ret.same (Nat.le_refl _) hk
    · rw [if_pos (by simpa using h2)] at hk
      simp (disch := first | omega | (simp only [go_sem]; first | done | omega)) only [go_sem, h2]
      exact Ret.nilS (Nat.le_refl _) rfl hk
  · rw [if_pos h1] at hk
    rw [decide_eq_false h1]
    simp (disch := first | omega | (simp only [go_sem]; first | done | omega)) only [go_sem]
    exact Ret.nilS (Nat.le_refl _) rfl hk
end Go.Proofs.YtnodfnjmhcjnfaaGreatDoor
/- bytes.Equal. No condition. -/
namespace Go.Proofs.YtnodfnjmhcjnfaaGreatDoor
open Go Go.RowKit
set_option maxRecDepth 100000
set_option linter.all false
set_option maxHeartbeats 1000000
variable {H : Hp} {K : AV → Hp → Prop}
theorem unbyte_map : ∀ l : List UInt8, unbyte (l.map encU) = some l
  | [] => rfl
  | b :: l => by
    have hb := UInt8.toNat_lt b
    simp only [List.map_cons, encU, unbyte]
    rw [if_pos (by omega), unbyte_map l]
    simp
@[go_sem] theorem unbyte_go (l : List UInt8) : unbyte (l.map encU) = some l := unbyte_map l
theorem bytesEq_a (l m : List UInt8) (hl : l.length ≤ 100000000) (hm : m.length ≤ 100000000) (hk : K (.c (.bool (decide (l = m)))) H) : ACalls Tryz.prog 71 [.c (.lst 1 (l.map encU)), .c (.lst 1 (m.map encU))] H K := by
  refine acalls Tryz.func71 rfl (by kernel_rfl) (by simp (disch := first | omega | (simp only [go_sem]; first | done | omega)) only [go_sem]) (fun hH => ?_)
  simp (disch := first | omega | (simp only [go_sem]; first | done | omega)) only [go_sem]
  refine Ret.sameE (Nat.le_refl _) hk ?_
  have e : ((⟨l.toArray⟩ : ByteArray) = ⟨m.toArray⟩) = (l = m) := by
    simp only [ByteArray.mk.injEq, eq_iff_iff]
    exact ⟨fun h => by simpa using congrArg Array.toList h, fun h => by rw [h]⟩
  simp only [e]
end Go.Proofs.YtnodfnjmhcjnfaaGreatDoor
/- The bytes of a block, read: the program's reader. Condition: the bytes fit. -/
namespace Go.Proofs.YtnodfnjmhcjnfaaGreatDoor
open Go Go.RowKit
set_option maxRecDepth 100000
set_option linter.all false
set_option maxHeartbeats 1000000
variable {H : Hp} {K : AV → Hp → Prop}
theorem cutU (l : List UInt8) (p n : Nat) : ((l.map encU).drop p).take n = ((l.drop p).take n).map encU := by rw [List.map_take, List.map_drop]
def rdc (ty : Nat) (l : List UInt8) (p : Int) (bad : Bool) : AObj := .row ty 3 [[.lst 1 (l.map encU), .int .i64 p, .bool bad]] true
attribute [go_sem] rdc
theorem numberG_a {c : Nat} (l : List UInt8) (p : Nat) (hc : H[c]? = some (rdc 350 l p false)) (hp : p ≤ l.length) (hl : l.length ≤ 1099511627776)
    (hk1 : ∀ n x, uvR l p = some (n, x) → K (.c (.int .i64 n)) (H.set c (rdc 350 l x false))) (hk0 : uvR l p = none → ∀ n x : Int, K (.c (.int .i64 n)) (H.set c (rdc 350 l x true))) : ACalls Tryz.prog 332 [.c (.ptr (some (c, 0, 0)))] H K := by
  have lc := getElem?_lt hc
  refine acalls Tryz.func332 rfl (by kernel_rfl) (by simp (disch := first | omega | (simp only [go_sem]; first | done | omega)) only [go_sem]) (fun hH => ?_)
  simp (disch := first | omega | (simp only [go_sem]; first | done | omega)) only [go_sem, hc]
  refine w_draw (by kernel_rfl) (by decide +kernel) ?_
  simp (disch := first | omega | (simp only [go_sem]; first | done | omega)) only [go_sem, hc]
  refine unvarint_a l p hp hl (fun n x h => ?_) (fun h n x => ?_)
  · have hk := hk1 n x h
    simp (disch := first | omega | (simp only [go_sem]; first | done | omega)) only [go_sem, hc]
    exact Ret.same (by simp) hk
  · have hk := hk0 h n x
    simp (disch := first | omega | (simp only [go_sem]; first | done | omega)) only [go_sem, hc]
    exact Ret.same (by simp) hk
theorem numberB_a {c : Nat} (l : List UInt8) (p : Int) (hc : H[c]? = some (rdc 350 l p true)) (hk : K (.c (.int .i64 0)) H) : ACalls Tryz.prog 332 [.c (.ptr (some (c, 0, 0)))] H K := by
  refine acalls Tryz.func332 rfl (by kernel_rfl) (by simp (disch := first | omega | (simp only [go_sem]; first | done | omega)) only [go_sem]) (fun hH => ?_)
  simp (disch := first | omega | (simp only [go_sem]; first | done | omega)) only [go_sem, hc]
  exact Ret.same (Nat.le_refl _) hk
theorem bytesB_a {c : Nat} (l : List UInt8) (p n : Int) (hc : H[c]? = some (rdc 350 l p true)) (hk : K (.c (.lst 1 [])) H) : ACalls Tryz.prog 287 [.c (.ptr (some (c, 0, 0))), (.c (.int .i64 n))] H K := by
  refine acalls Tryz.func287 rfl (by kernel_rfl) (by simp (disch := first | omega | (simp only [go_sem]; first | done | omega)) only [go_sem]) (fun hH => ?_)
  simp (disch := first | omega | (simp only [go_sem]; first | done | omega)) only [go_sem]
  refine w_draw (by kernel_rfl) (by decide +kernel) ?_
  simp (disch := first | omega | (simp only [go_sem]; first | done | omega)) only [go_sem, hc]
  have e := set_same hc
  simp only [rdc] at e
  rw [e]
  refine Ret.nil [1] (Nat.le_refl _) ?_
  exact Ret.same (Nat.le_refl _) hk
theorem bytesG_a {c : Nat} (l : List UInt8) (p n : Nat) (hc : H[c]? = some (rdc 350 l p false)) (hp : p ≤ l.length) (hl : l.length ≤ 1099511627776) (hn : n ≤ 1000000)
    (hk1 : p + n ≤ l.length → K (.c (.lst 1 (((l.drop p).take n).map encU))) (H.set c (rdc 350 l (p + n : Nat) false))) (hk0 : ¬ p + n ≤ l.length → K (.c (.lst 1 [])) (H.set c (rdc 350 l p true))) : ACalls Tryz.prog 287 [.c (.ptr (some (c, 0, 0))), (.c (.int .i64 n))] H K := by
  have lc := getElem?_lt hc
  refine acalls Tryz.func287 rfl (by kernel_rfl) (by simp (disch := first | omega | (simp only [go_sem]; first | done | omega)) only [go_sem]) (fun hH => ?_)
  simp (disch := first | omega | (simp only [go_sem]; first | done | omega)) only [go_sem]
  refine w_draw (by kernel_rfl) (by decide +kernel) ?_
  by_cases h : p + n ≤ l.length
  · have hk := hk1 h
    have e1 : ¬ (l.length : Int) - p < n := by omega
    simp (disch := first | omega | (simp only [go_sem]; first | done | omega)) only [go_sem, hc, e1]
    refine w_draw (by kernel_rfl) (by decide +kernel) ?_
    simp (disch := first | omega | (simp only [go_sem]; first | done | omega)) only [go_sem, hc, e1]
    rw [show ((p : Int) + (n : Int)).toNat - p = n by omega, cutU]
    rw [show ((p + n : Nat) : Int) = (p : Int) + n by omega] at hk
    exact Ret.same (by simp) hk
  · have hk := hk0 h
    have e1 : (l.length : Int) - p < n := by omega
    simp (disch := first | omega | (simp only [go_sem]; first | done | omega)) only [go_sem, hc, e1]
    refine Ret.nil [1] (by simp) ?_
    exact Ret.same (by simp) hk
theorem withinB_a {c : Nat} (l : List UInt8) (p lo hi : Int) (hlo : 0 < lo) (hc : H[c]? = some (rdc 350 l p true)) (hk : K (.c (.int .i64 0)) H) : ACalls Tryz.prog 288 [.c (.ptr (some (c, 0, 0))), (.c (.int .i64 lo)), (.c (.int .i64 hi))] H K := by
  refine acalls Tryz.func288 rfl (by kernel_rfl) (by simp (disch := first | omega | (simp only [go_sem]; first | done | omega)) only [go_sem]) (fun hH => ?_)
  simp (disch := first | omega | (simp only [go_sem]; first | done | omega)) only [go_sem]
  refine numberB_a l p hc ?_
  simp (disch := first | omega | (simp only [go_sem]; first | done | omega)) only [go_sem, hc]
  refine out_a _ _ _ _ _ ?_
  have e : decide ((0 : Int) < lo ∨ hi < 0) = true := by simp; omega
  simp (disch := first | omega | (simp only [go_sem]; first | done | omega)) only [go_sem, hc, e]
  have e := set_same hc
  simp only [rdc] at e
  rw [e]
  exact Ret.same (Nat.le_refl _) hk
theorem withinG_a {c : Nat} (l : List UInt8) (p : Nat) (lo hi : Int) (hc : H[c]? = some (rdc 350 l p false)) (hp : p ≤ l.length) (hl : l.length ≤ 1099511627776)
    (hk1 : ∀ n x, uvR l p = some (n, x) → lo ≤ n → n ≤ hi → K (.c (.int .i64 n)) (H.set c (rdc 350 l x false))) (hk0 : (∀ n x, uvR l p = some (n, x) → ¬ (lo ≤ n ∧ n ≤ hi)) → ∀ x n : Int, (n = 0 ∨ (lo ≤ n ∧ n ≤ hi)) → K (.c (.int .i64 n)) (H.set c (rdc 350 l x true))) : ACalls Tryz.prog 288 [.c (.ptr (some (c, 0, 0))), (.c (.int .i64 lo)), (.c (.int .i64 hi))] H K := by
  have lc := getElem?_lt hc
  refine acalls Tryz.func288 rfl (by kernel_rfl) (by simp (disch := first | omega | (simp only [go_sem]; first | done | omega)) only [go_sem]) (fun hH => ?_)
  simp (disch := first | omega | (simp only [go_sem]; first | done | omega)) only [go_sem]
  refine numberG_a l p hc hp hl (fun n x h => ?_) (fun h n x => ?_)
  · simp (disch := first | omega | (simp only [go_sem]; first | done | omega)) only [go_sem]
    refine out_a _ _ _ _ _ ?_
    by_cases hr : lo ≤ n ∧ n ≤ hi
    · have e : decide (n < lo ∨ hi < n) = false := by simp; omega
      simp (disch := first | omega | (simp only [go_sem]; first | done | omega)) only [go_sem, e]
      exact Ret.same (by simp) (hk1 n x h hr.1 hr.2)
    · have e : decide (n < lo ∨ hi < n) = true := by simp; omega
      have hcc : (H.set c (rdc 350 l x false))[c]? = some (rdc 350 l x false) := List.getElem?_set_self lc
      simp only [rdc] at hcc
      simp (disch := first | omega | (simp only [go_sem]; first | done | omega)) only [go_sem, e, hcc]
      refine Ret.same (by simp) ?_
      have := hk0 (fun n' x' h' => by rw [h] at h'; injection h' with h'; injection h' with h1 h2; subst h1; exact hr) x 0 (.inl rfl)
      simpa [rdc] using this
  · simp (disch := first | omega | (simp only [go_sem]; first | done | omega)) only [go_sem]
    refine out_a _ _ _ _ _ ?_
    have hcc : (H.set c (rdc 350 l x true))[c]? = some (rdc 350 l x true) := List.getElem?_set_self lc
    simp only [rdc] at hcc
    have hno : ∀ n x, uvR l p = some (n, x) → ¬ (lo ≤ n ∧ n ≤ hi) := fun n' x' h' => by rw [h] at h'; cases h'
    by_cases hr : lo ≤ n ∧ n ≤ hi
    · have e : decide (n < lo ∨ hi < n) = false := by simp; omega
      simp (disch := first | omega | (simp only [go_sem]; first | done | omega)) only [go_sem, e]
      exact Ret.same (by simp) (hk0 hno x n (.inr hr))
    · have e : decide (n < lo ∨ hi < n) = true := by simp; omega
      simp (disch := first | omega | (simp only [go_sem]; first | done | omega)) only [go_sem, e, hcc]
      refine Ret.same (by simp) ?_
      have := hk0 hno x 0 (.inl rfl)
      simpa [rdc] using this
end Go.Proofs.YtnodfnjmhcjnfaaGreatDoor
