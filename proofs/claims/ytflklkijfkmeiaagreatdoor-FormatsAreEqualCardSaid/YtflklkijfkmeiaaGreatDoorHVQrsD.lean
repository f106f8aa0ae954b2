/- The document's parser: comparisons. Condition: the text is not long. -/
import Derived.Test.YtflklkijfkmeiaaGreatDoorHVQrsC
namespace Go.Proofs.YtflklkijfkmeiaaGreatDoor
open Go Go.RowKit
set_option maxRecDepth 100000
set_option linter.all false
set_option maxHeartbeats 2000000
variable {H : Hp} {K : AV → Hp → Prop}
def noSide : Hp → Prop := fun _ => True
def cellP (i : Nat) : AObj := .row 187 1 [[.ptr (some (i, 0, 0))]] true
def sideC (c i : Nat) : Hp → Prop := fun H => H[c]? = some (cellP i)
theorem prodQ1_a {l : List UInt8} (hl : l.length ≤ 1000) {i c n : Nat} (hci : c ≠ i) {d : Int} {fc : Int → List Tok → Int → PR Ex} (hf : RdQ l 214 [.c (.ptr (some (i, 0, 0)))] i noSide n d (fc d)) (hg : RdG l (fc d)) : RdQ l 213 [.c (.ptr (some (c, 0, 0)))] i (sideC c i) n d (prodG fc d) := by
  intro H K T dp hi hs hT hn hk1 hk2
  have hil := getElem?_lt hi
  have hcl := getElem?_lt hs
  have hset0 : ∀ (X : AObj) (G : Hp), (H ++ G).set i X = H.set i X ++ G := fun X G => by rw [List.set_append_left _ _ hil]
  have hs' : H[c]? = some (.row 187 1 [[.ptr (some (i, 0, 0))]] true) := hs
  refine acalls Tryz.func213 rfl (by kernel_rfl) (by simp (disch := first | omega | (simp only [go_sem]; first | done | omega)) only [go_sem]) (fun hH => ?_)
  simp (disch := first | omega | (simp only [go_sem]; first | done | omega)) only [go_sem, hs']
  refine row_a hl (fs := [(i, 0, 0)]) (cs := []) (side := noSide) (by kernel_rfl) hf hg [42, 47] (by decide) T dp (by rw [List.getElem?_append_left hil]; exact hi) (fun _ _ => trivial) (fun _ => trivial) hT hn (by simp; omega) (by simp) (fun x T' dp' h => ?_) (fun e T' d' dp' cs h hcs => ?_)
  · have hk := hk1 x T' dp' h
    have h5 := (encT_ok x).1
    have h6 : (encT x).take 5 = encT x := List.take_of_length_le (by omega)
    rw [hset0]
    simp (disch := first | omega | (simp only [go_sem]; first | done | omega)) only [go_sem, h5, h6]
    exact Ret.drop (HOk.psQ hH) (by simp) ((encT_ok x).ok _) hk
  · have hk := hk2 e T' d' dp' cs h hcs
    have h5 := hcs.1
    have h6 : cs.take 5 = cs := List.take_of_length_le (by omega)
    rw [hset0]
    simp (disch := first | omega | (simp only [go_sem]; first | done | omega)) only [go_sem, h5, h6]
    exact Ret.drop (HOk.psQ hH) (by simp) (hcs.ok _) hk
theorem prodQ2_a {l : List UInt8} (hl : l.length ≤ 1000) {i c n : Nat} (hci : c ≠ i) {d : Int} {fc : Int → List Tok → Int → PR Ex} (hf : RdQ l 214 [.c (.ptr (some (i, 0, 0)))] i noSide n d (fc d)) (hg : RdG l (fc d)) : RdQ l 216 [.c (.ptr (some (c, 0, 0)))] i (sideC c i) n d (prodG fc d) := by
  intro H K T dp hi hs hT hn hk1 hk2
  have hil := getElem?_lt hi
  have hcl := getElem?_lt hs
  have hset0 : ∀ (X : AObj) (G : Hp), (H ++ G).set i X = H.set i X ++ G := fun X G => by rw [List.set_append_left _ _ hil]
  have hs' : H[c]? = some (.row 187 1 [[.ptr (some (i, 0, 0))]] true) := hs
  refine acalls Tryz.func216 rfl (by kernel_rfl) (by simp (disch := first | omega | (simp only [go_sem]; first | done | omega)) only [go_sem]) (fun hH => ?_)
  simp (disch := first | omega | (simp only [go_sem]; first | done | omega)) only [go_sem, hs']
  refine row_a hl (fs := [(i, 0, 0)]) (cs := []) (side := noSide) (by kernel_rfl) hf hg [42, 47] (by decide) T dp (by rw [List.getElem?_append_left hil]; exact hi) (fun _ _ => trivial) (fun _ => trivial) hT hn (by simp; omega) (by simp) (fun x T' dp' h => ?_) (fun e T' d' dp' cs h hcs => ?_)
  · have hk := hk1 x T' dp' h
    have h5 := (encT_ok x).1
    have h6 : (encT x).take 5 = encT x := List.take_of_length_le (by omega)
    rw [hset0]
    simp (disch := first | omega | (simp only [go_sem]; first | done | omega)) only [go_sem, h5, h6]
    exact Ret.drop (HOk.psQ hH) (by simp) ((encT_ok x).ok _) hk
  · have hk := hk2 e T' d' dp' cs h hcs
    have h5 := hcs.1
    have h6 : cs.take 5 = cs := List.take_of_length_le (by omega)
    rw [hset0]
    simp (disch := first | omega | (simp only [go_sem]; first | done | omega)) only [go_sem, h5, h6]
    exact Ret.drop (HOk.psQ hH) (by simp) (hcs.ok _) hk
theorem Ret.tree {A G : Hp} {n m k j ty : Nat} {els : List (List AC)} {own : Bool} {u : Int} {s : ByteArray} {v w : Int} (hA : HOk A) (hn : n = A.length) (hj : G[j]? = some (.row ty 5 els own)) (hp : pureL els = true) (hm : m = els.length) (hk2 : k = A.length + j) (hk : K (.agg [.int .u8 u, .str s, .int .i64 v, .lst 5 els, .int .i64 w]) A) : Ret n (.agg [.int .u8 u, .str s, .int .i64 v, .sl (some (k, 0)) m, .int .i64 w]) (A ++ G) K := by
  subst hn hm hk2
  refine Ret.node1 (v' := .agg [.int .u8 u, .str s, .int .i64 v, .lst 5 els, .int .i64 w]) (els := els) j hA (Nat.le_refl _) hj hp ?_ ?_ hk
  · simp [AV.frzX, AV.frzX1, AC.frzX]
  · intro x hx
    simp only [List.mem_cons, List.not_mem_nil, or_false] at hx
    rcases hx with rfl | rfl | rfl | rfl | rfl <;> simp [AC.ok]
theorem pureT2 {x y : List AC} (hx : okT x) (hy : okT y) : pureL [x, y] = true := by
  unfold pureL
  simp only [List.all_cons, List.all_nil, Bool.and_true, Bool.and_eq_true]
  exact ⟨hx.2, hy.2⟩
theorem pureT1 {x : List AC} (hx : okT x) : pureL [x] = true := by
  unfold pureL
  simp only [List.all_cons, List.all_nil, Bool.and_true]
  exact hx.2
theorem compareQ_a {l : List UInt8} (hl : l.length ≤ 1000) {i n : Nat} {d : Int} {fc : Int → List Tok → Int → PR Ex} (hf : RdQ l 214 [.c (.ptr (some (i, 0, 0)))] i noSide n d (fc d)) (hg : RdG l (fc d)) : RdQ l 142 [.c (.ptr (some (i, 0, 0)))] i noSide n d (compG fc d) := by
  intro H K T dp hi hs hT hn hk1 hk2
  have hil := getElem?_lt hi
  have hset0 : ∀ (X : AObj) (G : Hp), (H ++ G).set i X = H.set i X ++ G := fun X G => by rw [List.set_append_left _ _ hil]
  have hat0 : ∀ G : Hp, (H ++ G)[i]? = some (psQ T d dp (-1)) := fun G => by rw [List.getElem?_append_left hil]; exact hi
  have hset : ∀ (X Y : AObj) (G : Hp), (H.set i X ++ G).set i Y = H.set i Y ++ G := fun X Y G => by rw [List.set_append_left _ _ (by simpa using hil), List.set_set]
  have hat : ∀ (X : AObj) (G : Hp), (H.set i X ++ G)[i]? = some X := fun X G => by rw [List.getElem?_append_left (by simpa using hil), List.getElem?_set_self hil]
  have hsd : ∀ (X : AObj) (G : Hp), sideC H.length i (H.set i X ++ (cellP i :: G)) := fun X G => by
    unfold sideC
    rw [List.getElem?_append_right (by simp)]
    simp
  have hsd0 : ∀ G : Hp, sideC H.length i (H ++ (cellP i :: G)) := fun G => by
    unfold sideC
    rw [List.getElem?_append_right (by simp)]
    simp
  refine acalls Tryz.func142 rfl (by kernel_rfl) (by simp (disch := first | omega | (simp only [go_sem]; first | done | omega)) only [go_sem]) (fun hH => ?_)
  simp (disch := first | omega | (simp only [go_sem]; first | done | omega)) only [go_sem]
  refine row_a hl (fs := []) (cs := [(H.length, 0, 0)]) (side := sideC H.length i) (by kernel_rfl) (prodQ1_a hl (by omega) hf hg) (prod_good d hg) [43, 45] (by decide) T dp (hat0 _) (fun X G => by rw [hset0, List.append_assoc]; exact hsd X _) (fun G => by rw [List.append_assoc]; exact hsd0 _) hT hn (by simp) (by simp) (fun x T1 dp1 h1 => ?_) (fun e T' d' dp' cs h1 hcs => ?_)
  · obtain ⟨g1, g2, g3⟩ := sum_good d hg _ _ _ _ _ hT h1
    have hj : compG fc d T dp = rowF [60, 61] (sumG fc d) d 1 x T1 dp1 := by unfold compG joinF; rw [show sumG fc d T dp = .ok (x, T1, dp1) from h1]; rfl
    rw [hj] at hk1 hk2
    obtain ⟨t, T2, rfl, htk, _⟩ := g2.head
    unfold rowF at hk1 hk2
    dsimp only at hk1 hk2
    have h5 := (encT_ok x).1
    have h6 : (encT x).take 5 = encT x := List.take_of_length_le (by omega)
    have hqk := qK_k htk
    have hq2 := hqk.2.2.2 [60, 61] (by decide)
    rw [hset0]
    rw [show ∀ G : Hp, H.set i (psQ (t :: T2) d dp1 (-1)) ++ G = H.set i (.row 191 4 [[.lst 3 ((t :: T2).map encQ), .int .i64 d, .int .i64 (-1), .int .i64 dp1]] true) ++ G from fun G => rfl]
    simp (disch := first | omega | (simp only [go_sem]; first | done | omega)) only [go_sem, h5, h6]
    refine nextQ_a (t := t) (T := T2) (d := d) (dp := dp1) (bad := -1) (hat _ _) ?_
    cases hsg : sgT t [60, 61] with
    | none =>
      rw [hsg] at hk1 hq2
      have hk := hk1 _ _ _ rfl
      have hno : ¬ qK t = 60 ∧ ¬ qK t = 61 := by
        have : qB t ∉ ([60, 61] : List UInt8) := by simpa using hq2
        simp only [List.mem_cons, List.not_mem_nil, or_false, not_or] at this
        unfold qK
        refine ⟨fun h => this.1 ?_, fun h => this.2 ?_⟩
        · apply UInt8.toNat_inj.1
          have : (60 : UInt8).toNat = 60 := rfl
          omega
        · apply UInt8.toNat_inj.1
          have : (61 : UInt8).toNat = 61 := rfl
          omega
      simp (disch := first | omega | (simp only [go_sem]; first | done | omega)) only [go_sem, hno.1]
      refine nextQ_a (t := t) (T := T2) (d := d) (dp := dp1) (bad := -1) (hat _ _) ?_
      simp (disch := first | omega | (simp only [go_sem]; first | done | omega)) only [go_sem, hno.2, h5, h6]
      exact Ret.drop (HOk.psQ (T := t :: T2) (d := d) (dp := dp1) (bad := -1) hH) (by simp) ((encT_ok x).ok _) hk
    | some c =>
      rw [hsg] at hk1 hk2
      dsimp only at hk1 hk2
      obtain ⟨s1, s2, s3⟩ := sgT_some hsg
      have hT2 : Tl l T2 := (g2.next (by omega)).1
      have hqc : qK t = c.toNat := by unfold qK qB; rw [s1, s2]; rfl
      have h36 : ¬ qK t = 36 := fun h => by have := hqk.1.1 h; omega
      rw [List.length_cons] at g3
      simp only [List.mem_cons, List.not_mem_nil, or_false] at s3
      rcases s3 with rfl | rfl
      case' inl =>
        have hq : qK t = 60 := hqc
        have hq0 : True := trivial
        simp (disch := first | omega | (simp only [go_sem]; first | done | omega)) only [go_sem, hq]
        refine takeQ_a (t := t) (T := T2) (d := d) (dp := dp1) (tl_ne g2 (by omega)) h36 (by rw [← hq]; exact hat _ _) ?_
      case' inr =>
        have hq : qK t = 61 := hqc
        have hq0 : ¬ (61 : Int) = 60 := by decide
        simp (disch := first | omega | (simp only [go_sem]; first | done | omega)) only [go_sem, hq]
        refine nextQ_a (t := t) (T := T2) (d := d) (dp := dp1) (bad := -1) (by rw [← hq]; exact hat _ _) ?_
        simp (disch := first | omega | (simp only [go_sem]; first | done | omega)) only [go_sem, hq]
        refine takeQ_a (t := t) (T := T2) (d := d) (dp := dp1) (tl_ne g2 (by omega)) h36 (by rw [← hq]; exact hat _ _) ?_
      all_goals
        rw [hset]
        simp (disch := first | omega | (simp only [go_sem]; first | done | omega)) only [go_sem, hq]
        refine row_a hl (fs := []) (cs := [(H.length, 0, 0)]) (side := sideC H.length i) (by kernel_rfl) (prodQ2_a hl (by omega) hf hg) (prod_good d hg) [43, 45] (by decide) T2 (deepF d dp1 t) (hat _ _) (fun X G => by rw [hset, List.append_assoc]; exact hsd X _) (fun G => by rw [List.append_assoc]; exact hsd _ _) hT2 (by omega) (by simp) (by simp) (fun y T3 dp3 hy => ?_) (fun e T' d' dp' cs hy hcs => ?_)
        · have hy' : sumG fc d T2 (deepF d dp1 t) = .ok (y, T3, dp3) := hy
          rw [hy'] at hk1
          have hk := hk1 _ _ _ rfl
          have h7 := (encT_ok y).1
          have h8 : (encT y).take 5 = encT y := List.take_of_length_le (by omega)
          have hlit := lit2 h5 h7
          rw [hset]
          simp (disch := first | omega | (simp only [go_sem]; first | done | omega)) only [go_sem, h5, h6, h7, h8, hlit, hq]
          exact Ret.tree (els := [encT x, encT y]) (j := 4) (HOk.psQ hH) (by simp) rfl (pureT2 (encT_ok x) (encT_ok y)) rfl (by simp) hk
        · have hy' : sumG fc d T2 (deepF d dp1 t) = .error e := hy
          rw [hy'] at hk2
          have h7 := hcs.1
          have h8 : cs.take 5 = cs := List.take_of_length_le (by omega)
          have hlit := lit2 h5 h7
          have hk := hk2 e T' d' dp' [.int .u8 (qK t), .str ⟨#[]⟩, .int .i64 0, .lst 5 [encT x, cs], .int .i64 0] rfl ⟨rfl, rfl⟩
          rw [hq] at hk
          rw [hset]
          simp (disch := first | omega | (simp only [go_sem]; first | done | omega)) only [go_sem, h5, h6, h7, h8, hlit, hq]
          exact Ret.tree (els := [encT x, cs]) (j := 4) (HOk.psQ hH) (by simp) rfl (pureT2 (encT_ok x) hcs) rfl (by simp) hk
  · have hj : compG fc d T dp = .error e := by unfold compG joinF; rw [show sumG fc d T dp = .error e from h1]
    have hk := hk2 e T' d' dp' cs hj hcs
    have h5 := hcs.1
    have h6 : cs.take 5 = cs := List.take_of_length_le (by omega)
    rw [hset0]
    unfold psQ at hk ⊢
    simp (disch := first | omega | (simp only [go_sem]; first | done | omega)) only [go_sem, h5, h6]
    exact Ret.drop (HOk.psQ hH) (by simp) (hcs.ok _) hk
end Go.Proofs.YtflklkijfkmeiaaGreatDoor
