/- Factors that are drawn. No condition. -/
import Derived.Test.YtbgoaanalfdenaaVDraw
import Derived.Test.YtbgoaanalfdenaaVFrac
namespace Go.Proofs.Ytbgoaanalfdenaa
open Go Go.RowKit
set_option maxRecDepth 100000
set_option linter.all false
set_option maxHeartbeats 1000000
variable {H : Hp} {K : AV → Hp → Prop}
def encP (p : Int × Int) : List AC := [.int .i64 p.1, .int .i64 p.2]
theorem litAt (L : List (Int × Int)) (q : Nat) (h : q < L.length) : ∃ n d, (n, d) ∈ L ∧ (L.map encP)[q]? = some [.int .i64 n, .int .i64 d] :=
  ⟨L[q].1, L[q].2, List.getElem_mem h, by rw [List.getElem?_map, List.getElem?_eq_getElem h]; rfl⟩
theorem factor_a (s : Nat) (zs : List Int) (j : Int) (hs : Str H s zs j) (hj : j ≤ 1000000000)
    (hk : ∀ (n d j' : Int), j ≤ j' → j' ≤ j + 3 → -9223372036854775808 ≤ n → n ≤ 9223372036854775807 → d ≤ 9223372036854775807 → K (.agg [.int .i64 n, .int .i64 d]) (H.set s (strO zs j'))) :
    ACalls Try.prog 7 [.c (.ptr (some (s, 0, 0)))] H K := by
  have hlt := hs.lt
  have hpos := hs.pos
  have hne : H.length ≠ s := by omega
  refine acalls Try.func7 rfl (by kernel_rfl) (by simp (disch := first | omega | (simp only [go_sem]; first | done | omega)) only [go_sem]) (fun hH => ?_)
  simp (disch := first | omega | (simp only [go_sem]; first | done | omega)) only [go_sem]
  refine next_a s zs j 7 (by first | exact hs | exact hs.app _ | exact hs.set (by omega) (by omega) | exact (hs.set (by omega) (by omega)).app _) (by omega) (by omega) (fun r h0 h1 => ?_)
  obtain ⟨n, d, hm, hat⟩ := litAt [(1, 2), (3, 1), (-1, 3), (0, 1), (1000000, 1), (1, 1000000), (5, 2)] r.toNat (by simp; omega)
  simp only [encP, List.map_cons, List.map_nil] at hat
  have hb : -9223372036854775808 ≤ n ∧ n ≤ 9223372036854775807 ∧ d ≤ 9223372036854775807 := by
    simp only [List.mem_cons, Prod.mk.injEq, List.not_mem_nil, or_false] at hm
    omega
  clear hm
  simp (disch := first | omega | (simp only [go_sem]; first | done | omega)) only [go_sem, hat]
  refine flip_a s zs (j + 1) 12 (by first | exact hs | exact hs.app _ | exact hs.set (by omega) (by omega) | exact (hs.set (by omega) (by omega)).app _) (by omega) (by omega) (fun b => ?_)
  simp (disch := first | omega | (simp only [go_sem]; first | done | omega)) only [go_sem]
  refine acond_b (fun c => ?_) (fun c => ?_)
  · simp (disch := first | omega | (simp only [go_sem]; first | done | omega)) only [go_sem]
    refine next_a s zs (j + 1 + 1) 8 (by first | exact hs | exact hs.app _ | exact hs.set (by omega) (by omega) | exact (hs.set (by omega) (by omega)).app _) (by omega) (by omega) (fun r2 h2 h3 => ?_)
    obtain ⟨n2, d2, hm2, hat2⟩ := litAt [(2, 4), (1, 0), (1, -1), (1000001, 1), (1, 1000001), (-9223372036854775808, 1), (1, 4611686018427387904), (0, 2)] r2.toNat (by simp; omega)
    simp only [encP, List.map_cons, List.map_nil] at hat2
    have hb2 : -9223372036854775808 ≤ n2 ∧ n2 ≤ 9223372036854775807 ∧ d2 ≤ 9223372036854775807 := by
      simp only [List.mem_cons, Prod.mk.injEq, List.not_mem_nil, or_false] at hm2
      omega
    clear hm2
    simp (disch := first | omega | (simp only [go_sem]; first | done | omega)) only [go_sem, hat2]
    exact Ret.drop (HOk.str hH) (by simp) (by simp [AV.ok, AV.ok1, AC.ok]) (hk n2 d2 (j + 1 + 1 + 1) (by omega) (by omega) hb2.1 hb2.2.1 hb2.2.2)
  · simp (disch := first | omega | (simp only [go_sem]; first | done | omega)) only [go_sem]
    exact Ret.drop (HOk.str hH) (by simp) (by simp [AV.ok, AV.ok1, AC.ok]) (hk n d (j + 1 + 1) (by omega) (by omega) hb.1 hb.2.1 hb.2.2)
end Go.Proofs.Ytbgoaanalfdenaa
