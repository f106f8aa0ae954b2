/- What Purge and the document's answer ask of a sample or of a bin. Condition: few holds, numbers as those of levels. -/
import Derived.Test.YtkmkkjlfnobciaaGreatVDelN
import Derived.Test.YtkmkkjlfnobciaaGreatVLevelsP
namespace Go.Proofs.YtkmkkjlfnobciaaGreat
open Go Go.RowKit
set_option maxRecDepth 100000
set_option linter.all false
set_option maxHeartbeats 1000000
variable {H : Hp} {K : AV → Hp → Prop}
theorem purge1_a {i ty : Nat} {o : Bool} (x : Smp) (t : Int) (hi : H[i]? = some (.row ty 1 [[.int .i64 t]] o)) (hk : K (.c (.bool (decide (t < x.t)))) H) : ACalls Tryz.prog 64 [.agg (encS x), .c (.ptr (some (i, 0, 0)))] H K := by
  have hi1 := getElem?_lt hi
  refine acalls Tryz.func64 rfl (by kernel_rfl) (by simp (disch := first | omega | (simp only [go_sem]; first | done | omega)) only [go_sem]) (fun hH => ?_)
  simp (disch := first | omega | (simp only [go_sem]; first | done | omega)) only [go_sem, hi]
  exact Ret.drop hH (Nat.le_refl _) trivial hk
theorem purged1_a {i ty : Nat} {o : Bool} (x : Smp) (t : Int) (hi : H[i]? = some (.row ty 1 [[.int .i64 t]] o)) (hk : K (.c (.bool (decide (t < x.t)))) H) : ACalls Tryz.prog 76 [.agg (encS x), .c (.ptr (some (i, 0, 0)))] H K := by
  have hi1 := getElem?_lt hi
  refine acalls Tryz.func76 rfl (by kernel_rfl) (by simp (disch := first | omega | (simp only [go_sem]; first | done | omega)) only [go_sem]) (fun hH => ?_)
  simp (disch := first | omega | (simp only [go_sem]; first | done | omega)) only [go_sem, hi]
  exact Ret.drop hH (Nat.le_refl _) trivial hk
theorem purge2_a {i j k ty ty2 ty3 : Nat} {o o2 o3 : Bool} (x : Level) (h : List Hold) (t : Int) (b : Bin) (hi : H[i]? = some (.row ty 2 [encL x] o)) (hj : H[j]? = some (.row ty2 1 [[.lst 6 (h.map encH)]] o2)) (hq : H[k]? = some (.row ty3 1 [[.int .i64 t]] o3)) (hx : x.ok) (hlen : h.length ≤ 12) (hn : ∀ y ∈ h, y.near) (hm : 0 ≤ b.a) (hm2 : b.a ≤ 400000000000) (hk : K (.c (.bool (!keepB x h b.a t))) H) : ACalls Tryz.prog 67 [.agg (encN b), .c (.ptr (some (i, 0, 0))), .c (.ptr (some (j, 0, 0))), .c (.ptr (some (k, 0, 0)))] H K := by
  have hi1 := getElem?_lt hi
  have hj1 := getElem?_lt hj
  have hk1 := getElem?_lt hq
  refine acalls Tryz.func67 rfl (by kernel_rfl) (by simp (disch := first | omega | (simp only [go_sem]; first | done | omega)) only [go_sem]) (fun hH => ?_)
  simp (disch := first | omega | (simp only [go_sem]; first | done | omega)) only [go_sem, hi, hj, hq]
  refine keeps_a x h b.a t hx hlen hn hm hm2 ?_
  simp (disch := first | omega | (simp only [go_sem]; first | done | omega)) only [go_sem]
  exact Ret.drop hH (Nat.le_refl _) trivial hk
theorem purge3_a {i j k ty ty2 ty3 : Nat} {o o2 o3 : Bool} (x : Level) (l : List (List AC)) (h : List Hold) (t : Int) (b : Smp) (hi : H[i]? = some (.row ty 1 [[.lst 2 (encL x :: l)]] o)) (hj : H[j]? = some (.row ty2 1 [[.lst 6 (h.map encH)]] o2)) (hq : H[k]? = some (.row ty3 1 [[.int .i64 t]] o3)) (hx : x.ok) (hlen : h.length ≤ 12) (hn : ∀ y ∈ h, y.near) (hm : 0 ≤ b.t) (hm2 : b.t ≤ 400000000000) (hk : K (.c (.bool (!keepB x h b.t t))) H) : ACalls Tryz.prog 68 [.agg (encS b), .c (.ptr (some (i, 0, 0))), .c (.ptr (some (j, 0, 0))), .c (.ptr (some (k, 0, 0)))] H K := by
  have hi1 := getElem?_lt hi
  have hj1 := getElem?_lt hj
  have hk1 := getElem?_lt hq
  refine acalls Tryz.func68 rfl (by kernel_rfl) (by simp (disch := first | omega | (simp only [go_sem]; first | done | omega)) only [go_sem]) (fun hH => ?_)
  simp (disch := first | omega | (simp only [go_sem]; first | done | omega)) only [go_sem, hi, hj, hq]
  refine w_draw (by kernel_rfl) (by decide +kernel) ?_
  simp (disch := first | omega | (simp only [go_sem]; first | done | omega)) only [go_sem, hi, hj, hq]
  refine keeps_a x h b.t t hx hlen hn hm hm2 ?_
  simp (disch := first | omega | (simp only [go_sem]; first | done | omega)) only [go_sem]
  exact Ret.drop hH (Nat.le_refl _) trivial hk
theorem purged3_a {i j q k ty ty2 ty3 ty4 : Nat} {o o2 o3 o4 : Bool} (x : Level) (h : List Hold) (tag : ByteArray) (t : Int) (b : Bin) (hi : H[i]? = some (.row ty 2 [encL x] o)) (hj : H[j]? = some (.row ty2 1 [[.lst 6 (h.map encH)]] o2)) (hg : H[q]? = some (.row ty4 1 [[.str tag]] o4)) (hq : H[k]? = some (.row ty3 1 [[.int .i64 t]] o3)) (hx : x.ok) (hlen : h.length ≤ 12) (hn : ∀ y ∈ h, y.near) (hm : 0 ≤ b.a) (hm2 : b.a ≤ 400000000000) (hk : K (.c (.bool (!keepRB x h tag b.a t))) H) : ACalls Tryz.prog 79 [.agg (encN b), .c (.ptr (some (i, 0, 0))), .c (.ptr (some (j, 0, 0))), .c (.ptr (some (q, 0, 0))), .c (.ptr (some (k, 0, 0)))] H K := by
  have hi1 := getElem?_lt hi
  have hj1 := getElem?_lt hj
  have hg1 := getElem?_lt hg
  have hk1 := getElem?_lt hq
  refine acalls Tryz.func79 rfl (by kernel_rfl) (by simp (disch := first | omega | (simp only [go_sem]; first | done | omega)) only [go_sem]) (fun hH => ?_)
  simp (disch := first | omega | (simp only [go_sem]; first | done | omega)) only [go_sem, hi, hj, hg, hq]
  refine keepsR_a x h tag b.a t hx hlen hn hm hm2 ?_
  simp (disch := first | omega | (simp only [go_sem]; first | done | omega)) only [go_sem]
  exact Ret.drop hH (Nat.le_refl _) trivial hk
theorem purged2_a {i j q k ty ty2 ty3 ty4 : Nat} {o o2 o3 o4 : Bool} (x : Level) (l : List (List AC)) (h : List Hold) (tag : ByteArray) (t : Int) (b : Smp) (hi : H[i]? = some (.row ty 1 [[.lst 2 (encL x :: l)]] o)) (hj : H[j]? = some (.row ty2 1 [[.lst 6 (h.map encH)]] o2)) (hg : H[q]? = some (.row ty4 1 [[.str tag]] o4)) (hq : H[k]? = some (.row ty3 1 [[.int .i64 t]] o3)) (hx : x.ok) (hlen : h.length ≤ 12) (hn : ∀ y ∈ h, y.near) (hm : 0 ≤ b.t) (hm2 : b.t ≤ 400000000000) (hk : K (.c (.bool (!keepRB x h tag b.t t))) H) : ACalls Tryz.prog 77 [.agg (encS b), .c (.ptr (some (i, 0, 0))), .c (.ptr (some (j, 0, 0))), .c (.ptr (some (q, 0, 0))), .c (.ptr (some (k, 0, 0)))] H K := by
  have hi1 := getElem?_lt hi
  have hj1 := getElem?_lt hj
  have hg1 := getElem?_lt hg
  have hk1 := getElem?_lt hq
  refine acalls Tryz.func77 rfl (by kernel_rfl) (by simp (disch := first | omega | (simp only [go_sem]; first | done | omega)) only [go_sem]) (fun hH => ?_)
  simp (disch := first | omega | (simp only [go_sem]; first | done | omega)) only [go_sem, hi, hj, hg, hq]
  refine w_draw (by kernel_rfl) (by decide +kernel) ?_
  simp (disch := first | omega | (simp only [go_sem]; first | done | omega)) only [go_sem, hi, hj, hg, hq]
  refine keepsR_a x h tag b.t t hx hlen hn hm hm2 ?_
  simp (disch := first | omega | (simp only [go_sem]; first | done | omega)) only [go_sem]
  exact Ret.drop hH (Nat.le_refl _) trivial hk
end Go.Proofs.YtkmkkjlfnobciaaGreat
