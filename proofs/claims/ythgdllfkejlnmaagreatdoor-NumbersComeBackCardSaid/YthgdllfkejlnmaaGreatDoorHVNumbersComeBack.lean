/- Varint and Unvarint, and NumbersComeBack: what the law's function answers for all numbers it is given. No condition. -/
import Derived.Test.YthgdllfkejlnmaaGreatDoorHVRawB
import Derived.Test.YthgdllfkejlnmaaGreatDoorHVNumM
import Derived.Test.YthgdllfkejlnmaaGreatDoorHVReady
import Derived.Test.YthgdllfkejlnmaaGreatDoorHVErrsK
import Derived.Test.YthgdllfkejlnmaaGreatDoorHVBytesEq
namespace Go.Proofs.YthgdllfkejlnmaaGreatDoor
open Go Go.RowKit
set_option maxRecDepth 100000
set_option linter.all false
set_option maxHeartbeats 2000000
variable {H : Hp} {K : AV → Hp → Prop}
theorem varintT_a (n : Int) (ok : okN n) (hk : K (.tup [.c (.lst 1 ((vb (zig n)).map encU)), (.c (.int .i64 0))]) H) : ACalls Tryz.prog 9 [(.c (.int .i64 n))] H K := by
  unfold okN at ok
  refine acalls Tryz.func9 rfl (by kernel_rfl) (by simp (disch := first | omega | (simp only [go_sem]; first | done | omega)) only [go_sem]) (fun hH => ?_)
  simp (disch := first | omega | (simp only [go_sem]; first | done | omega)) only [go_sem]
  refine out_a _ _ _ _ _ ?_
  have e : (n < -1000000000000 ∨ 1000000000000 < n) = False := by simp; omega
  simp (disch := first | omega | (simp only [go_sem]; first | done | omega)) only [go_sem, e]
  refine varint_a n (by omega) (by omega) ?_
  simp (disch := first | omega | (simp only [go_sem]; first | done | omega)) only [go_sem]
  exact Ret.same (Nat.le_refl _) hk
theorem unvarintT_a (l : List UInt8) (p : Nat) (hp : p ≤ l.length) (hl : l.length ≤ 1099511627776) (hk1 : ∀ n x, uvR l p = some (n, x) → K (.tup [(.c (.int .i64 n)), (.c (.int .i64 x)), (.c (.int .i64 0))]) H) (hk0 : uvR l p = none → K (.tup [(.c (.int .i64 0)), (.c (.int .i64 0)), (.c (.int .i64 9))]) H) : ACalls Tryz.prog 11 [.c (.lst 1 (l.map encU)), (.c (.int .i64 p))] H K := by
  refine acalls Tryz.func11 rfl (by kernel_rfl) (by simp (disch := first | omega | (simp only [go_sem]; first | done | omega)) only [go_sem]) (fun hH => ?_)
  simp (disch := first | omega | (simp only [go_sem]; first | done | omega)) only [go_sem]
  refine out_a _ _ _ _ _ ?_
  have e : ((p : Int) < 0 ∨ (l.length : Int) < p) = False := by simp; omega
  simp (disch := first | omega | (simp only [go_sem]; first | done | omega)) only [go_sem, e]
  refine unvarint_a l p hp hl (fun n x h => ?_) (fun h n x => ?_)
  · simp (disch := first | omega | (simp only [go_sem]; first | done | omega)) only [go_sem]
    exact Ret.same (Nat.le_refl _) (hk1 n x h)
  · simp (disch := first | omega | (simp only [go_sem]; first | done | omega)) only [go_sem]
    exact Ret.same (Nat.le_refl _) (hk0 h)
def unvRes (l : List UInt8) (p : Nat) : Int × Int × Int := match uvR l p with
  | some r => (r.1, r.2, 0)
  | none => (0, 0, 9)
theorem unvarintR_a (l : List UInt8) (p : Nat) (hp : p ≤ l.length) (hl : l.length ≤ 1099511627776) (hk : K (.tup [(.c (.int .i64 ((unvRes l p).1))), (.c (.int .i64 ((unvRes l p).2.1))), (.c (.int .i64 ((unvRes l p).2.2)))]) H) : ACalls Tryz.prog 11 [.c (.lst 1 (l.map encU)), (.c (.int .i64 p))] H K := by
  unfold unvRes at hk
  refine unvarintT_a l p hp hl (fun n x h => ?_) (fun h => ?_)
  · rw [h] at hk; exact hk
  · rw [h] at hk; exact hk
theorem unvarint_lend {i : Nat} (l : List UInt8) (p : Nat) (hi : H[i]? = some (grO 5 1 (l.map encU))) (hp : p ≤ l.length) (hl : l.length ≤ 1099511627776) (hk : K (.tup [(.c (.int .i64 ((unvRes l p).1))), (.c (.int .i64 ((unvRes l p).2.1))), (.c (.int .i64 ((unvRes l p).2.2)))]) H) : ACalls Tryz.prog 11 [.c (grV i l), (.c (.int .i64 p))] H K := by
  rw [← map_grV encU i l]
  exact ACalls.lendGr (.tup [(.c (.int .i64 ((unvRes l p).1))), (.c (.int .i64 ((unvRes l p).2.1))), (.c (.int .i64 ((unvRes l p).2.2)))]) hi (pureL_U l) rfl rfl rfl (by simp [AV.ok1, AC.ok]) (fun G J hJ => unvarintR_a l p hp hl hJ) hk
theorem rawBytes_f (s : Nat) (zs : List Int) (j : Int) (hs : Str H s zs j) (hj : j ≤ 1000000000)
    (hk : ∀ (f : List UInt8) (j' : Int), j ≤ j' → j' ≤ j + 50 → f.length ≤ 100 → K (.c (.lst 1 (f.map encU))) (H.set s (strO zs j'))) :
    ACalls Tryz.prog 10 [.c (.ptr (some (s, 0, 0)))] H K := by
  refine ACalls.postR (rawBytes_o s zs j hs hj (K := fun v G => ∃ (l : List UInt8) (j' : Int), j ≤ j' ∧ j' ≤ j + 50 ∧ l.length ≤ 100 ∧ v = .c (grV H.length l) ∧ G = H.set s (strO zs j') ++ [grO 5 1 (l.map encU)]) (fun l j' h1 h2 h3 => ⟨l, j', h1, h2, h3, rfl, rfl⟩)) ?_
  rintro hH v G ⟨l, j', h1, h2, h3, rfl, rfl⟩
  exact Ret.frzGr 0 (HOk.str hH) (by simp) rfl (pureL_U _) (by simp [map_grV]) (hk l j' h1 h2 h3)
theorem numbersComeBack_a (zs : List Int) (hz : zs.length ≤ 9223372036854775807) (hk : K (.c (.bool true)) H) : ACalls Tryz.prog 3 [.c (.lst 1 (zs.map encI))] H K := by
  have st : ∀ (k : Int) (L : Hp), 0 ≤ k → k ≤ 1000000000 → Str (H ++ strO zs k :: L) H.length zs k := fun k L h1 h2 => ⟨hz, h1, by omega, by simp⟩
  refine acalls Tryz.func3 rfl (by kernel_rfl) (by simp (disch := first | omega | (simp only [go_sem]; first | done | omega)) only [go_sem]) (fun hH => ?_)
  simp (disch := first | omega | (simp only [go_sem]; first | done | omega)) only [go_sem]
  refine range_a H.length zs 0 (-300) 300 (st _ _ (by omega) (by omega)) (by omega) (by omega) (by omega) (fun r1 r2 r3 => ?_)
  simp (disch := first | omega | (simp only [go_sem]; first | done | omega)) only [go_sem]
  refine range_a H.length zs (0 + 1) (-1000000) 1000000 (st _ _ (by omega) (by omega)) (by omega) (by omega) (by omega) (fun r4 r5 r6 => ?_)
  simp (disch := first | omega | (simp only [go_sem]; first | done | omega)) only [go_sem]
  refine pick_lit H.length zs (0 + 1 + 1) [r1, r4, 1000000000000, -1000000000000] (by first | exact at0 (by simp) | exact at1 (by simp) | exact at2 (by simp) | exact at3 (by simp) | exact at4 (by simp) | exact at5 (by simp) | exact atG 6 (by simp) rfl | exact atG 7 (by simp) rfl | exact atG 8 (by simp) rfl | exact atG 9 (by simp) rfl | exact atG 10 (by simp) rfl | assumption) rfl rfl (st _ _ (by omega) (by omega)) (by omega) (by simp) (by simp) (fun n hn => ?_)
  have ok : okN n := by
    simp only [List.mem_cons, List.not_mem_nil, or_false] at hn
    unfold okN
    omega
  clear hn
  simp (disch := first | omega | (simp only [go_sem]; first | done | omega)) only [go_sem]
  refine varintT_a n ok ?_
  have h6 := vb6 ok
  have hne := vb_ne (zig n)
  simp (disch := first | omega | (simp only [go_sem]; first | done | omega)) only [go_sem]
  refine rawBytes_o H.length zs (0 + 1 + 1 + 1) (st _ _ (by omega) (by omega)) (by omega) (fun head j1 g1 g2 g3 => ?_)
  simp (disch := first | omega | (simp only [go_sem]; first | done | omega)) only [go_sem]
  refine appU head (vb (zig n)) (by first | exact at0 (by simp) | exact at1 (by simp) | exact at2 (by simp) | exact at3 (by simp) | exact at4 (by simp) | exact at5 (by simp) | exact atG 6 (by simp) rfl | exact atG 7 (by simp) rfl | exact atG 8 (by simp) rfl | exact atG 9 (by simp) rfl | exact atG 10 (by simp) rfl | assumption) hne (by omega) ?_
  have hu : unvRes (head ++ vb (zig n)) head.length = (n, ((head.length + (vb (zig n)).length : Nat) : Int), 0) := by
    have h := uvR_vb head [] ok
    rw [List.append_nil] at h
    unfold unvRes
    rw [h]
  have hb : (head ++ vb (zig n)).length ≤ 1000 := by rw [List.length_append]; omega
  have hb2 : head.length ≤ (head ++ vb (zig n)).length := by rw [List.length_append]; omega
  generalize head ++ vb (zig n) = hv at *
  simp (disch := first | omega | (simp only [go_sem]; first | done | omega)) only [go_sem]
  refine unvarint_lend hv head.length (by first | exact at0 (by simp) | exact at1 (by simp) | exact at2 (by simp) | exact at3 (by simp) | exact at4 (by simp) | exact at5 (by simp) | exact atG 6 (by simp) rfl | exact atG 7 (by simp) rfl | exact atG 8 (by simp) rfl | exact atG 9 (by simp) rfl | exact atG 10 (by simp) rfl | assumption) hb2 (by omega) ?_
  rw [hu]
  clear hu
  generalize vb (zig n) = v at *
  have e1 : ((head.length + v.length : Nat) : Int) = (head.length : Int) + (v.length : Int) := by omega
  simp (disch := first | omega | (simp only [go_sem]; first | done | omega)) only [go_sem]
  refine errsK_lit [0, 0] (by first | exact at0 (by simp) | exact at1 (by simp) | exact at2 (by simp) | exact at3 (by simp) | exact at4 (by simp) | exact at5 (by simp) | exact atG 6 (by simp) rfl | exact atG 7 (by simp) rfl | exact atG 8 (by simp) rfl | exact atG 9 (by simp) rfl | exact atG 10 (by simp) rfl | assumption) rfl rfl (by simp) ?_
  rw [show firstE ([0, 0] : List Int) = 0 from rfl]
  simp (disch := first | omega | (simp only [go_sem]; first | done | omega)) only [go_sem, e1]
  refine rawBytes_f H.length zs j1 (st _ _ (by omega) (by omega)) (by omega) (fun raw j2 g4 g5 g6 => ?_)
  simp (disch := first | omega | (simp only [go_sem]; first | done | omega)) only [go_sem]
  refine unvarintR_a raw 0 (by omega) (by omega) ?_
  unfold unvRes
  cases hr : uvR raw 0 with
  | none =>
    simp (disch := first | omega | (simp only [go_sem]; first | done | omega)) only [go_sem]
    refine ready_a ?_
    simp (disch := first | omega | (simp only [go_sem]; first | done | omega)) only [go_sem]
    exact Ret.drop hH (Nat.le_refl _) trivial hk
  | some r =>
    obtain ⟨m, x⟩ := r
    have hx := unvarint_le hr
    have hv2 : vb (zig m) = raw.take x := by
      unfold uvR at hr
      rw [List.drop_zero] at hr
      obtain ⟨q, h1, h2⟩ := Option.map_eq_some_iff.1 hr
      simp only [Nat.zero_add] at h2
      obtain ⟨q1, q2⟩ := q
      injection h2 with h3 h4
      subst h3; subst h4
      exact vb_unv h1
    simp (disch := first | omega | (simp only [go_sem]; first | done | omega)) only [go_sem]
    refine varintT_a m hx.2.2 ?_
    rw [hv2]
    simp (disch := first | omega | (simp only [go_sem]; first | done | omega)) only [go_sem]
    have hxl := hx.2.1 (by omega)
    rw [show (min (x : Int) (raw.length : Int)).toNat - 0 = x by omega, ← List.map_take]
    refine bytesEq_a _ _ (by simp; omega) (by simp; omega) ?_
    rw [decide_eq_true rfl]
    simp (disch := first | omega | (simp only [go_sem]; first | done | omega)) only [go_sem]
    refine ready_a ?_
    simp (disch := first | omega | (simp only [go_sem]; first | done | omega)) only [go_sem]
    exact Ret.drop hH (Nat.le_refl _) trivial hk
end Go.Proofs.YthgdllfkejlnmaaGreatDoor
