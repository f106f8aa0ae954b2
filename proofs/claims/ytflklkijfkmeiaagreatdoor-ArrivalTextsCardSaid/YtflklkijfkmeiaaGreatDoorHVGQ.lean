/- Several texts in one: Texts of arrivals written: logref2, and what follows. No condition. -/
import Derived.Test.YtflklkijfkmeiaaGreatDoorHVTxaM
import Derived.Test.YtflklkijfkmeiaaGreatDoorHVTxtQ
import Derived.Test.YtflklkijfkmeiaaGreatDoorHVArrK
import Derived.Test.YtflklkijfkmeiaaGreatDoorHVDupM
import Derived.Test.YtflklkijfkmeiaaGreatDoorHVChg
import Derived.Test.YtflklkijfkmeiaaGreatDoorHVTxtC
/- Texts of arrivals written: logref2.ArrivalLines, buffer.Text. Condition: the arrivals are right. -/
namespace Go.Proofs.YtflklkijfkmeiaaGreatDoor
open Go Go.RowKit
set_option maxRecDepth 100000
set_option linter.all false
set_option maxHeartbeats 4000000
variable {H : Hp} {K : AV → Hp → Prop}
theorem aIf_stA {a b : ByteArray} {x y z : List UInt8} {J : AV → Hp → Prop} (hx : a = tB x) (hy : b = tB y) (hz : z = x ++ y) (hl : x.length + y.length ≤ 1000000) (h : J (.c (.str (tB z))) H) : aIf (a.size + b.size ≤ 9223372036854775807) (.c (.str (a ++ b))) H J := by
  subst hx hy hz
  refine ⟨?_, by rw [app_tB]; exact h⟩
  rw [tB_size, tB_size]
  omega
structure ArT (x : Arr) : Prop where
  nd : x.nd.size ≤ 1000
  tag : x.p.tag.size ≤ 1000
  t : -1000000000000000 < x.t ∧ x.t < 1000000000000000
  n : -1000000000000000 < x.p.n ∧ x.p.n < 1000000000000000
  st : -1000000000000000 < x.p.s.t ∧ x.p.s.t < 1000000000000000
  sv : -1000000000000000 < x.p.s.v ∧ x.p.s.v < 1000000000000000
  sq : 0 ≤ x.p.s.q ∧ x.p.s.q ≤ 2
theorem arT_of {l : List Arr} (h : arF l = 0) : ∀ x ∈ l, ArT x := by
  intro x hx
  have h1 := arF_all h x hx
  obtain ⟨h2, h3⟩ := arrErr_bd h1
  unfold arrErr at h1
  split at h1
  · omega
  · rename_i c1
    split at h1
    · omega
    · split at h1
      · omega
      · rename_i c2 c3
        have k1 := Decidable.not_not.1 c1
        have k2 := Decidable.not_not.1 c3
        obtain ⟨m1, m2, m3, _⟩ := smp_ok' h1
        exact ⟨by have := k1.2.1; omega, by have := k2.2.1; omega, by omega, by omega, by omega, by omega, m2⟩
theorem arL_eq (x : Arr) : arL x ++ [10] = tL x.nd ++ [32] ++ (Lib.itoa x.t ++ 32 :: Lib.itoa x.p.n) ++ [32] ++ tL x.p.tag ++ [32] ++ lineT x.p.s ++ [10] := by
  simp [arL]
theorem arL_len {x : Arr} (h : ArT x) : (arL x ++ [10]).length ≤ 2100 := by
  have h1 := itoa_len h.t
  have h2 := itoa_len h.n
  have h3 := lineT_len h.st h.sv
  have h4 := h.nd
  have h5 := h.tag
  rw [arL_eq]
  simp only [List.length_append, List.length_cons, List.length_nil, tL_len]
  omega
theorem textA_len : ∀ (l : List Arr), (∀ x ∈ l, ArT x) → (textA l).length ≤ 2100 * l.length
  | [], _ => by simp [textA]
  | x :: t, h => by
    have h1 := textA_len t (fun y hy => h y (List.mem_cons_of_mem _ hy))
    have h2 := arL_len (h x (by simp))
    unfold textA at h1 ⊢
    rw [List.flatMap_cons, List.length_append, List.length_cons]
    omega
theorem arrivalLines_a (l : List Arr) (hl : l.length ≤ 400) (hb : ∀ x ∈ l, ArT x) (hk : K (.c (.str (tB (textA l)))) H) : ACalls Tryz.prog 29 [.c (.lst 7 (l.map encAr))] H K := by
  refine acalls Tryz.func29 rfl (by kernel_rfl) (by simp (disch := first | omega | (simp only [go_sem]; first | done | omega)) only [go_sem]) (fun hH => ?_)
  simp (disch := first | omega | (simp only [go_sem]; first | done | omega)) only [go_sem]
  refine AWp.loop (H.length) [6, 7] [8, 3] (fun (k : Nat) => k ≤ l.length) (fun (k : Nat) => [(8, (.c (.int .i64 k))), (3, (.c (.str (tB (textA (l.take k))))))]) (fun (k : Nat) => H) (fun (k : Nat) => l.length - k) (by kernel_rfl) (fun _ => rfl) (by kernel_rfl) (by first | (simp; done) | omega) (by first | (simp; done) | (simp; omega) | omega) kl ?_ (fun k q _ _ => ?_)
  · exact Next.mk 0 (Nat.zero_le _) wk
  by_cases hlt : k < l.length
  · have hnx := textA_next hlt
    have hxb := hb l[k] (List.getElem_mem hlt)
    have hTl := textA_len (l.take k) (fun x hx => hb x (List.mem_of_mem_take hx))
    rw [List.length_take] at hTl
    obtain ⟨x, hx⟩ : ∃ x, x = l[k] := ⟨_, rfl⟩
    rw [← hx] at hnx hxb
    rw [arL_eq] at hnx
    have h1 := itoa_len hxb.t
    have h2 := itoa_len hxb.n
    have h3 := lineT_len hxb.st hxb.sv
    have h4 := hxb.nd
    have h5 := hxb.tag
    have h6 := tL_len x.nd
    have h7 := tL_len x.p.tag
    generalize textA (l.take k) = T at *
    simp (disch := first | omega | (simp only [go_sem]; first | done | omega)) only [go_sem, hlt, ← hx]
    refine w_tree (.one 0 (.one 1 (.one 4 (.one 5 (.one 6 (.one 7 (.one 8 (.one 13 (.one 14 (.one 18 (.one 19 (.four 2 (.one 3 (.three 9 (.three 10 (.one 11 (.one 12 (.one 20 (.two 15 (.one 16 (.one 17 (.one 21 (.one 22 (.one 23 (.one 24 (.one 25 .done))))))) 21 (.one 15 (.one 16 (.one 17 (.one 22 (.one 23 (.one 24 (.one 25 .done))))))))))) 15 (.two 10 (.one 11 (.one 12 (.one 16 (.one 17 (.one 20 (.one 21 (.one 22 (.one 23 (.one 24 (.one 25 .done)))))))))) 20 (.one 10 (.one 11 (.one 12 (.one 16 (.one 17 (.one 21 (.one 22 (.one 23 (.one 24 (.one 25 .done))))))))))) 20 (.two 10 (.one 11 (.one 12 (.two 15 (.one 16 (.one 17 (.one 21 (.one 22 (.one 23 (.one 24 (.one 25 .done))))))) 21 (.one 15 (.one 16 (.one 17 (.one 22 (.one 23 (.one 24 (.one 25 .done)))))))))) 15 (.one 10 (.one 11 (.one 12 (.one 16 (.one 17 (.one 21 (.one 22 (.one 23 (.one 24 (.one 25 .done)))))))))))) 15 (.two 9 (.two 10 (.one 11 (.one 12 (.one 16 (.one 17 (.one 20 (.one 21 (.one 22 (.one 23 (.one 24 (.one 25 .done)))))))))) 20 (.one 10 (.one 11 (.one 12 (.one 16 (.one 17 (.one 21 (.one 22 (.one 23 (.one 24 (.one 25 .done))))))))))) 20 (.one 9 (.one 10 (.one 11 (.one 12 (.one 16 (.one 17 (.one 21 (.one 22 (.one 23 (.one 24 (.one 25 .done)))))))))))) 20 (.two 9 (.two 10 (.one 11 (.one 12 (.two 15 (.one 16 (.one 17 (.one 21 (.one 22 (.one 23 (.one 24 (.one 25 .done))))))) 21 (.one 15 (.one 16 (.one 17 (.one 22 (.one 23 (.one 24 (.one 25 .done)))))))))) 15 (.one 10 (.one 11 (.one 12 (.one 16 (.one 17 (.one 21 (.one 22 (.one 23 (.one 24 (.one 25 .done))))))))))) 15 (.one 9 (.one 10 (.one 11 (.one 12 (.one 16 (.one 17 (.one 21 (.one 22 (.one 23 (.one 24 (.one 25 .done)))))))))))))) 9 (.four 2 (.one 3 (.three 10 (.one 11 (.one 12 (.one 20 (.two 15 (.one 16 (.one 17 (.one 21 (.one 22 (.one 23 (.one 24 (.one 25 .done))))))) 21 (.one 15 (.one 16 (.one 17 (.one 22 (.one 23 (.one 24 (.one 25 .done))))))))))) 15 (.two 10 (.one 11 (.one 12 (.one 16 (.one 17 (.one 20 (.one 21 (.one 22 (.one 23 (.one 24 (.one 25 .done)))))))))) 20 (.one 10 (.one 11 (.one 12 (.one 16 (.one 17 (.one 21 (.one 22 (.one 23 (.one 24 (.one 25 .done))))))))))) 20 (.two 10 (.one 11 (.one 12 (.two 15 (.one 16 (.one 17 (.one 21 (.one 22 (.one 23 (.one 24 (.one 25 .done))))))) 21 (.one 15 (.one 16 (.one 17 (.one 22 (.one 23 (.one 24 (.one 25 .done)))))))))) 15 (.one 10 (.one 11 (.one 12 (.one 16 (.one 17 (.one 21 (.one 22 (.one 23 (.one 24 (.one 25 .done))))))))))))) 10 (.one 20 (.three 2 (.one 3 (.one 11 (.one 12 (.two 15 (.one 16 (.one 17 (.one 21 (.one 22 (.one 23 (.one 24 (.one 25 .done))))))) 21 (.one 15 (.one 16 (.one 17 (.one 22 (.one 23 (.one 24 (.one 25 .done))))))))))) 15 (.two 2 (.one 3 (.one 11 (.one 12 (.one 16 (.one 17 (.one 21 (.one 22 (.one 23 (.one 24 (.one 25 .done)))))))))) 21 (.one 2 (.one 3 (.one 11 (.one 12 (.one 16 (.one 17 (.one 22 (.one 23 (.one 24 (.one 25 .done))))))))))) 21 (.one 2 (.one 3 (.one 11 (.one 12 (.one 15 (.one 16 (.one 17 (.one 22 (.one 23 (.one 24 (.one 25 .done))))))))))))) 15 (.three 2 (.one 3 (.two 10 (.one 11 (.one 12 (.one 16 (.one 17 (.one 20 (.one 21 (.one 22 (.one 23 (.one 24 (.one 25 .done)))))))))) 20 (.one 10 (.one 11 (.one 12 (.one 16 (.one 17 (.one 21 (.one 22 (.one 23 (.one 24 (.one 25 .done)))))))))))) 10 (.one 20 (.two 2 (.one 3 (.one 11 (.one 12 (.one 16 (.one 17 (.one 21 (.one 22 (.one 23 (.one 24 (.one 25 .done)))))))))) 21 (.one 2 (.one 3 (.one 11 (.one 12 (.one 16 (.one 17 (.one 22 (.one 23 (.one 24 (.one 25 .done)))))))))))) 20 (.two 2 (.one 3 (.one 10 (.one 11 (.one 12 (.one 16 (.one 17 (.one 21 (.one 22 (.one 23 (.one 24 (.one 25 .done))))))))))) 10 (.two 2 (.one 3 (.one 11 (.one 12 (.one 16 (.one 17 (.one 21 (.one 22 (.one 23 (.one 24 (.one 25 .done)))))))))) 21 (.one 2 (.one 3 (.one 11 (.one 12 (.one 16 (.one 17 (.one 22 (.one 23 (.one 24 (.one 25 .done))))))))))))) 20 (.three 2 (.one 3 (.two 10 (.one 11 (.one 12 (.two 15 (.one 16 (.one 17 (.one 21 (.one 22 (.one 23 (.one 24 (.one 25 .done))))))) 21 (.one 15 (.one 16 (.one 17 (.one 22 (.one 23 (.one 24 (.one 25 .done)))))))))) 15 (.one 10 (.one 11 (.one 12 (.one 16 (.one 17 (.one 21 (.one 22 (.one 23 (.one 24 (.one 25 .done)))))))))))) 10 (.three 2 (.one 3 (.one 11 (.one 12 (.two 15 (.one 16 (.one 17 (.one 21 (.one 22 (.one 23 (.one 24 (.one 25 .done))))))) 21 (.one 15 (.one 16 (.one 17 (.one 22 (.one 23 (.one 24 (.one 25 .done))))))))))) 15 (.two 2 (.one 3 (.one 11 (.one 12 (.one 16 (.one 17 (.one 21 (.one 22 (.one 23 (.one 24 (.one 25 .done)))))))))) 21 (.one 2 (.one 3 (.one 11 (.one 12 (.one 16 (.one 17 (.one 22 (.one 23 (.one 24 (.one 25 .done))))))))))) 21 (.one 2 (.one 3 (.one 11 (.one 12 (.one 15 (.one 16 (.one 17 (.one 22 (.one 23 (.one 24 (.one 25 .done)))))))))))) 15 (.two 2 (.one 3 (.one 10 (.one 11 (.one 12 (.one 16 (.one 17 (.one 21 (.one 22 (.one 23 (.one 24 (.one 25 .done))))))))))) 10 (.two 2 (.one 3 (.one 11 (.one 12 (.one 16 (.one 17 (.one 21 (.one 22 (.one 23 (.one 24 (.one 25 .done)))))))))) 21 (.one 2 (.one 3 (.one 11 (.one 12 (.one 16 (.one 17 (.one 22 (.one 23 (.one 24 (.one 25 .done)))))))))))))) 15 (.three 2 (.one 3 (.two 9 (.two 10 (.one 11 (.one 12 (.one 16 (.one 17 (.one 20 (.one 21 (.one 22 (.one 23 (.one 24 (.one 25 .done)))))))))) 20 (.one 10 (.one 11 (.one 12 (.one 16 (.one 17 (.one 21 (.one 22 (.one 23 (.one 24 (.one 25 .done))))))))))) 20 (.one 9 (.one 10 (.one 11 (.one 12 (.one 16 (.one 17 (.one 21 (.one 22 (.one 23 (.one 24 (.one 25 .done))))))))))))) 9 (.three 2 (.one 3 (.two 10 (.one 11 (.one 12 (.one 16 (.one 17 (.one 20 (.one 21 (.one 22 (.one 23 (.one 24 (.one 25 .done)))))))))) 20 (.one 10 (.one 11 (.one 12 (.one 16 (.one 17 (.one 21 (.one 22 (.one 23 (.one 24 (.one 25 .done)))))))))))) 10 (.one 20 (.two 2 (.one 3 (.one 11 (.one 12 (.one 16 (.one 17 (.one 21 (.one 22 (.one 23 (.one 24 (.one 25 .done)))))))))) 21 (.one 2 (.one 3 (.one 11 (.one 12 (.one 16 (.one 17 (.one 22 (.one 23 (.one 24 (.one 25 .done)))))))))))) 20 (.two 2 (.one 3 (.one 10 (.one 11 (.one 12 (.one 16 (.one 17 (.one 21 (.one 22 (.one 23 (.one 24 (.one 25 .done))))))))))) 10 (.two 2 (.one 3 (.one 11 (.one 12 (.one 16 (.one 17 (.one 21 (.one 22 (.one 23 (.one 24 (.one 25 .done)))))))))) 21 (.one 2 (.one 3 (.one 11 (.one 12 (.one 16 (.one 17 (.one 22 (.one 23 (.one 24 (.one 25 .done))))))))))))) 20 (.two 2 (.one 3 (.one 9 (.one 10 (.one 11 (.one 12 (.one 16 (.one 17 (.one 21 (.one 22 (.one 23 (.one 24 (.one 25 .done)))))))))))) 9 (.two 2 (.one 3 (.one 10 (.one 11 (.one 12 (.one 16 (.one 17 (.one 21 (.one 22 (.one 23 (.one 24 (.one 25 .done))))))))))) 10 (.two 2 (.one 3 (.one 11 (.one 12 (.one 16 (.one 17 (.one 21 (.one 22 (.one 23 (.one 24 (.one 25 .done)))))))))) 21 (.one 2 (.one 3 (.one 11 (.one 12 (.one 16 (.one 17 (.one 22 (.one 23 (.one 24 (.one 25 .done)))))))))))))) 20 (.three 2 (.one 3 (.two 9 (.two 10 (.one 11 (.one 12 (.two 15 (.one 16 (.one 17 (.one 21 (.one 22 (.one 23 (.one 24 (.one 25 .done))))))) 21 (.one 15 (.one 16 (.one 17 (.one 22 (.one 23 (.one 24 (.one 25 .done)))))))))) 15 (.one 10 (.one 11 (.one 12 (.one 16 (.one 17 (.one 21 (.one 22 (.one 23 (.one 24 (.one 25 .done))))))))))) 15 (.one 9 (.one 10 (.one 11 (.one 12 (.one 16 (.one 17 (.one 21 (.one 22 (.one 23 (.one 24 (.one 25 .done))))))))))))) 9 (.three 2 (.one 3 (.two 10 (.one 11 (.one 12 (.two 15 (.one 16 (.one 17 (.one 21 (.one 22 (.one 23 (.one 24 (.one 25 .done))))))) 21 (.one 15 (.one 16 (.one 17 (.one 22 (.one 23 (.one 24 (.one 25 .done)))))))))) 15 (.one 10 (.one 11 (.one 12 (.one 16 (.one 17 (.one 21 (.one 22 (.one 23 (.one 24 (.one 25 .done)))))))))))) 10 (.three 2 (.one 3 (.one 11 (.one 12 (.two 15 (.one 16 (.one 17 (.one 21 (.one 22 (.one 23 (.one 24 (.one 25 .done))))))) 21 (.one 15 (.one 16 (.one 17 (.one 22 (.one 23 (.one 24 (.one 25 .done))))))))))) 15 (.two 2 (.one 3 (.one 11 (.one 12 (.one 16 (.one 17 (.one 21 (.one 22 (.one 23 (.one 24 (.one 25 .done)))))))))) 21 (.one 2 (.one 3 (.one 11 (.one 12 (.one 16 (.one 17 (.one 22 (.one 23 (.one 24 (.one 25 .done))))))))))) 21 (.one 2 (.one 3 (.one 11 (.one 12 (.one 15 (.one 16 (.one 17 (.one 22 (.one 23 (.one 24 (.one 25 .done)))))))))))) 15 (.two 2 (.one 3 (.one 10 (.one 11 (.one 12 (.one 16 (.one 17 (.one 21 (.one 22 (.one 23 (.one 24 (.one 25 .done))))))))))) 10 (.two 2 (.one 3 (.one 11 (.one 12 (.one 16 (.one 17 (.one 21 (.one 22 (.one 23 (.one 24 (.one 25 .done)))))))))) 21 (.one 2 (.one 3 (.one 11 (.one 12 (.one 16 (.one 17 (.one 22 (.one 23 (.one 24 (.one 25 .done))))))))))))) 15 (.two 2 (.one 3 (.one 9 (.one 10 (.one 11 (.one 12 (.one 16 (.one 17 (.one 21 (.one 22 (.one 23 (.one 24 (.one 25 .done)))))))))))) 9 (.two 2 (.one 3 (.one 10 (.one 11 (.one 12 (.one 16 (.one 17 (.one 21 (.one 22 (.one 23 (.one 24 (.one 25 .done))))))))))) 10 (.two 2 (.one 3 (.one 11 (.one 12 (.one 16 (.one 17 (.one 21 (.one 22 (.one 23 (.one 24 (.one 25 .done)))))))))) 21 (.one 2 (.one 3 (.one 11 (.one 12 (.one 16 (.one 17 (.one 22 (.one 23 (.one 24 (.one 25 .done)))))))))))))))))))))))))) (by kernel_rfl) (by decide +kernel) ?_
    simp (disch := first | omega | (simp only [go_sem]; first | done | omega)) only [go_sem]
    repeat' first | (refine aIf_stA (x := tL x.nd) rfl rfl rfl (by simp only [List.length_append, List.length_cons, List.length_nil]; omega) ?_; simp (disch := first | omega | (simp only [go_sem]; first | done | omega)) only [go_sem]) | (refine aIf_stA rfl (y := tL x.p.tag) rfl rfl (by simp only [List.length_append, List.length_cons, List.length_nil]; omega) ?_; simp (disch := first | omega | (simp only [go_sem]; first | done | omega)) only [go_sem]) | (refine aIf_stA rfl rfl rfl (by simp only [List.length_append, List.length_cons, List.length_nil]; omega) ?_; simp (disch := first | omega | (simp only [go_sem]; first | done | omega)) only [go_sem]) | (refine numbers2_lit x.t x.p.n hxb.t hxb.n (by first | ((repeat first | exact at0 (by simp) | refine atS ?_); done) | assumption) rfl rfl ?_; simp (disch := first | omega | (simp only [go_sem]; first | done | omega)) only [go_sem]) | (refine sampleText_a x.p.s hxb.st hxb.sv hxb.sq ?_; simp (disch := first | omega | (simp only [go_sem]; first | done | omega)) only [go_sem]) | (refine Next.mk (k + 1) ⟨by omega, by omega⟩ ?_; rw [hnx]; simp (disch := first | omega | (simp only [go_sem]; first | done | omega)) only [go_sem]; rw [show ((k : Int) + 1) = ((k + 1 : Nat) : Int) by omega]; exact WkL.drop hH (Nat.le_refl _) (by intro v hv; simp only [List.mem_cons, List.not_mem_nil, or_false] at hv; rcases hv with rfl | rfl <;> simp [AV.ok, AV.ok1, AC.ok])) | apply And.intro
  · have hkl : k = l.length := by omega
    subst hkl
    rw [List.take_length]
    simp (disch := first | omega | (simp only [go_sem]; first | done | omega)) only [go_sem]
    exact Ret.same (Nat.le_refl _) hk
end Go.Proofs.YtflklkijfkmeiaaGreatDoor
/- Texts of arrivals that are drawn. No condition. -/
namespace Go.Proofs.YtflklkijfkmeiaaGreatDoor
open Go Go.RowKit
set_option maxRecDepth 100000
set_option linter.all false
set_option maxHeartbeats 4000000
variable {H : Hp} {K : AV → Hp → Prop}
def wArr : ByteArray := ⟨#[32, 10, 48, 45, 57, 110, 116, 103]⟩
theorem wArr_bd : ∀ i, i < 8 → 0 ≤ byteAt wArr i ∧ byteAt wArr i < 128 := by decide
theorem arrivalText_a (s : Nat) (zs : List Int) (j : Int) (hs : Str H s zs j) (hj : j ≤ 900000000 - 10)
    (hk : ∀ (t : List UInt8) (j' : Int), j ≤ j' → j' ≤ j + 2000 → t.length ≤ 30000 → K (.c (.str (tB t))) (H.set s (strO zs j'))) : ACalls Tryz.prog 26 [.c (.ptr (some (s, 0, 0)))] H K := by
  have hlt := hs.lt
  have hpos := hs.pos
  have hne : H.length ≠ s := by omega
  refine acalls Tryz.func26 rfl (by kernel_rfl) (by simp (disch := first | omega | (simp only [go_sem]; first | done | omega)) only [go_sem]) (fun hH => ?_)
  simp (disch := first | omega | (simp only [go_sem]; first | done | omega)) only [go_sem]
  refine range_a s zs j 0 3 (by first | exact hs | exact hs.app _ | exact hs.set (by omega) (by omega) | exact (hs.set (by omega) (by omega)).app _) (by omega) (by omega) (by omega) (fun m hm0 hm1 => ?_)
  simp (disch := first | omega | (simp only [go_sem]; first | done | omega)) only [go_sem]
  refine rightArrivals_a s zs (j + 1) m (by first | exact hs | exact hs.app _ | exact hs.set (by omega) (by omega) | exact (hs.set (by omega) (by omega)).app _) (by omega) (by omega) (by omega) (fun l j1 h1 h2 h3 h4 h5 => ?_)
  have hT := arT_of h5
  have hTl := textA_len l hT
  simp (disch := first | omega | (simp only [go_sem]; first | done | omega)) only [go_sem]
  refine arrivalLines_a l (by omega) hT ?_
  generalize textA l = T at *
  have hTz := tB_size T
  simp (disch := first | omega | (simp only [go_sem]; first | done | omega)) only [go_sem]
  refine pick_lit s zs j1 [0, 0, 1, 2] (by first | ((repeat first | exact at0 (by simp) | refine atS ?_); done) | assumption) rfl rfl (by first | exact hs | exact hs.app _ | exact hs.set (by omega) (by omega) | exact (hs.set (by omega) (by omega)).app _) (by omega) (by simp) (by simp) (fun n hn => ?_)
  simp only [List.mem_cons, List.not_mem_nil, or_false] at hn
  have hnb : 0 ≤ n ∧ n ≤ 2 := by omega
  simp (disch := first | omega | (simp only [go_sem]; first | done | omega)) only [go_sem]
  have hokS : ∀ j', HOk (H.set s (strO zs j')) := fun j' => HOk.str hH
  refine AWp.loop (H.length) [0, 11] [3, 12] (fun (r : Nat × ByteArray × Int) => (r.1 : Int) ≤ n ∧ r.2.1.size ≤ 22000 + 8 * r.1 ∧ j ≤ r.2.2 ∧ r.2.2 ≤ j + 1700 + 3 * r.1) (fun (r : Nat × ByteArray × Int) => [(3, .c (.str r.2.1)), (12, (.c (.int .i64 (r.1))))]) (fun (r : Nat × ByteArray × Int) => H.set s (strO zs r.2.2)) (fun (r : Nat × ByteArray × Int) => n.toNat - r.1) (by kernel_rfl) (fun _ => rfl) (by kernel_rfl) (by first | (simp; done) | omega) (by first | (simp; done) | (simp; omega) | omega) kl ?_ (fun r hr _ _ => ?_)
  · refine Next.mk (0, tB T, j1 + 1) ⟨by dsimp only; omega, by dsimp only; omega, by dsimp only; omega, by dsimp only; omega⟩ ?_
    dsimp only
    simp (disch := first | omega | (simp only [go_sem]; first | done | omega)) only [go_sem]
    exact WkL.rest (hokS _) (by simp) rfl (by intro x hx; simp only [List.mem_cons, List.not_mem_nil, or_false] at hx; rcases hx with rfl | rfl <;> simp [AV.ok, AV.ok1, AC.ok])
  obtain ⟨k, t, j2⟩ := r
  obtain ⟨q1, q2, q3, q4⟩ := hr
  dsimp only at q1 q2 q3 q4 ⊢
  by_cases hlt2 : (k : Int) < n
  · simp (disch := first | omega | (simp only [go_sem]; first | done | omega)) only [go_sem, hlt2]
    refine changedG_a wArr 8 rfl (by omega) wArr_bd s zs j2 t ⟨hs.1, by omega, by omega, List.getElem?_set_self hlt⟩ (by omega) (by omega) (fun t' j3 h7 h8 h9 => ?_)
    simp (disch := first | omega | (simp only [go_sem]; first | done | omega)) only [go_sem]
    refine Next.mk (k + 1, t', j3) ⟨⟨by dsimp only; omega, by dsimp only; omega, by dsimp only; omega, by dsimp only; omega⟩, by dsimp only; omega⟩ ?_
    dsimp only
    exact wk
  · simp (disch := first | omega | (simp only [go_sem]; first | done | omega)) only [go_sem, hlt2]
    have := hk (tL t) j2 (by omega) (by omega) (by rw [tL_len]; omega)
    rw [tB_tL] at this
    exact Ret.same (by simp) this
end Go.Proofs.YtflklkijfkmeiaaGreatDoor
/- Texts of arrivals written: buffer.Text. Condition: the arrivals are right, or not. -/
namespace Go.Proofs.YtflklkijfkmeiaaGreatDoor
open Go Go.RowKit
set_option maxRecDepth 100000
set_option linter.all false
set_option maxHeartbeats 4000000
variable {H : Hp} {K : AV → Hp → Prop}
theorem arL_eqP (x : Arr) : arL x ++ [10] = (tL x.nd ++ 32 :: (Lib.itoa x.t ++ 32 :: (Lib.itoa x.p.n ++ 32 :: (tL x.p.tag ++ 32 :: (lineT x.p.s ++ [10]))))) := by
  simp [arL]
def domAx (f : FuncId) : Bool := Nat.beq f 89 || Nat.beq f 90
def spAx (f : FuncId) (args : List AV) : Option AV := match args with
  | [.c (.int .i64 x)] => if Nat.beq f 89 = true ∧ -1000000000000000 < x ∧ x < 1000000000000000 then some (.c (.str (tB (Lib.itoa x)))) else none
  | [.agg [.int .i64 t, .int .i64 v, .int .i64 q]] => if Nat.beq f 90 = true ∧ (-1000000000000000 < t ∧ t < 1000000000000000) ∧ (-1000000000000000 < v ∧ v < 1000000000000000) then some (.c (.str (tB (lineT ⟨t, v, q⟩)))) else none
  | _ => none
@[go_sem] theorem domAx_i : domAx 89 = true := (rfl)
@[go_sem] theorem domAx_l : domAx 90 = true := (rfl)
@[go_sem] theorem domAx_w : domAx 88 = false := (rfl)
theorem spAx_i {x : Int} (h : -1000000000000000 < x ∧ x < 1000000000000000) : spAx 89 [(.c (.int .i64 x))] = some (.c (.str (tB (Lib.itoa x)))) := if_pos ⟨rfl, h⟩
theorem spAx_l {s : Smp} (ht : -1000000000000000 < s.t ∧ s.t < 1000000000000000) (hv : -1000000000000000 < s.v ∧ s.v < 1000000000000000) : spAx 90 [.agg [.int .i64 s.t, .int .i64 s.v, .int .i64 s.q]] = some (.c (.str (tB (lineT s)))) := if_pos ⟨rfl, ht, hv⟩
theorem specAx_ok : SpecOk Tryz.prog domAx spAx := by
  intro f args v H K hd hs hk
  unfold spAx at hs
  split at hs
  · rename_i x
    split at hs
    · rename_i hb
      have hf := Nat.eq_of_beq_eq_true hb.1
      subst hf
      injection hs with hs
      subst hs
      exact ⟨by kernel_rfl, rfl, itoa_a x (by omega) (by omega) hk⟩
    · cases hs
  · rename_i t v q
    split at hs
    · rename_i hb
      have hf := Nat.eq_of_beq_eq_true hb.1
      subst hf
      injection hs with hs
      subst hs
      exact ⟨by kernel_rfl, rfl, lineP_a ⟨t, v, q⟩ hb.2.1 hb.2.2 hk⟩
    · cases hs
  · cases hs
def textAR (l : List Arr) : List UInt8 × Int := if arF l ≠ 0 then ([], arF l) else if 200000 < (textA l).length then ([], 2) else (textA l, 0)
theorem textArr_a (l : List Arr) (hsz : ∀ x ∈ l, x.nd.size ≤ 1099511627776 ∧ x.p.tag.size ≤ 1099511627776) (hl : l.length ≤ 400) (hk : K (.tup [.c (.str (tB (textAR l).1)), (.c (.int .i64 ((textAR l).2)))]) H) : ACalls Tryz.prog 27 [.c (.lst 7 (l.map encAr))] H K := by
  unfold textAR at hk
  by_cases h0 : arF l = 0
  case neg =>
    rw [if_pos h0] at hk
    refine acalls Tryz.func27 rfl (by kernel_rfl) (by simp (disch := first | omega | (simp only [go_sem]; first | done | omega)) only [go_sem]) (fun hH => ?_)
    simp (disch := first | omega | (simp only [go_sem]; first | done | omega)) only [go_sem]
    refine checkArrivals_a l hsz (by omega) ?_
    simp (disch := first | omega | (simp only [go_sem]; first | done | omega)) only [go_sem, h0]
    exact Ret.same (Nat.le_refl _) hk
  rw [if_neg (by simp [h0])] at hk
  have s2 := arT_of h0
  refine acalls Tryz.func27 rfl (by kernel_rfl) (by simp (disch := first | omega | (simp only [go_sem]; first | done | omega)) only [go_sem]) (fun hH => ?_)
  simp (disch := first | omega | (simp only [go_sem]; first | done | omega)) only [go_sem]
  refine checkArrivals_a l hsz (by omega) ?_
  simp (disch := first | omega | (simp only [go_sem]; first | done | omega)) only [go_sem, h0]
  refine AWp.loop (H.length + 1) [5, 13, 14] [15] (fun (k : Nat) => k ≤ l.length) (fun (k : Nat) => [(15, (.c (.int .i64 k)))]) (fun (k : Nat) => H ++ [bldO (decide (0 < k)) H.length (H.length + 1) (textA (l.take k)), grO 5 1 ((textA (l.take k)).map encU)]) (fun (k : Nat) => l.length - k) (by kernel_rfl) (fun _ => rfl) (by kernel_rfl) (by first | (simp; done) | omega) (by first | (simp; done) | (simp; omega) | omega) kl ?_ (fun k q1 _ _ => ?_)
  · refine Next.mk 0 (Nat.zero_le _) ?_
    simp (disch := first | omega | (simp only [go_sem]; first | done | omega)) only [go_sem]
    exact WkL.padP [_] (by simp)
  by_cases hlt : k < l.length
  · have hnx := textA_next hlt
    have hxb := s2 l[k] (List.getElem_mem hlt)
    have hTl := textA_len (l.take k) (fun x hx => s2 x (List.mem_of_mem_take hx))
    rw [List.length_take] at hTl
    obtain ⟨x, hx⟩ : ∃ x, x = l[k] := ⟨_, rfl⟩
    rw [← hx] at hnx hxb
    rw [arL_eqP] at hnx
    have h1 := itoa_len hxb.t
    have h2 := itoa_len hxb.n
    have h3 := lineT_len hxb.st hxb.sv
    have h4 := hxb.nd
    have h5 := hxb.tag
    have h6 := tL_len x.nd
    have h7 := tL_len x.p.tag
    have b1 := hxb.t
    have b2 := hxb.n
    generalize textA (l.take k) = T at *
    have hz0 : 0 < (tB (tL x.nd ++ 32 :: (Lib.itoa x.t ++ 32 :: (Lib.itoa x.p.n ++ 32 :: (tL x.p.tag ++ 32 :: (lineT x.p.s ++ [10])))))).size := by
      rw [tB_size]
      simp only [List.length_append, List.length_cons, List.length_nil]
      omega
    have hz1 : (tB (tL x.nd ++ 32 :: (Lib.itoa x.t ++ 32 :: (Lib.itoa x.p.n ++ 32 :: (tL x.p.tag ++ 32 :: (lineT x.p.s ++ [10])))))).size ≤ 1000000 := by
      rw [tB_size]
      simp only [List.length_append, List.length_cons, List.length_nil]
      omega
    obtain ⟨T2, hT3⟩ : ∃ T2, T2 = textA (l.take (k + 1)) := ⟨_, rfl⟩
    have hT2 : T ++ (tB (tL x.nd ++ 32 :: (Lib.itoa x.t ++ 32 :: (Lib.itoa x.p.n ++ 32 :: (tL x.p.tag ++ 32 :: (lineT x.p.s ++ [10])))))).data.toList = T2 := by rw [hT3, hnx]; rfl
    simp (disch := first | omega | (simp only [go_sem]; first | done | omega)) only [go_sem, hlt, ← hx]
    have hi1 := spAx_i hxb.t
    have hi2 := spAx_i hxb.n
    have hi3 := spAx_l hxb.st hxb.sv
    refine w_drawS specAx_ok (by kernel_rfl) (by decide +kernel) ?_
    simp (disch := first | omega | (simp only [go_sem]; first | done | omega)) only [go_sem, hi1, hi2, hi3]
    repeat' first | (refine aIf_stA (x := tL x.nd) rfl rfl rfl (by simp only [List.length_append, List.length_cons, List.length_nil]; omega) ?_; simp (disch := first | omega | (simp only [go_sem]; first | done | omega)) only [go_sem, hi1, hi2, hi3]) | (refine aIf_stA rfl (y := tL x.p.tag) rfl rfl (by simp only [List.length_append, List.length_cons, List.length_nil]; omega) ?_; simp (disch := first | omega | (simp only [go_sem]; first | done | omega)) only [go_sem, hi1, hi2, hi3]) | (refine aIf_stA rfl rfl rfl (by simp only [List.length_append, List.length_cons, List.length_nil]; omega) ?_; simp (disch := first | omega | (simp only [go_sem]; first | done | omega)) only [go_sem, hi1, hi2, hi3])
    refine write_a (i := H.length) (j := H.length + 1) (by omega) T (tB (tL x.nd ++ 32 :: (Lib.itoa x.t ++ 32 :: (Lib.itoa x.p.n ++ 32 :: (tL x.p.tag ++ 32 :: (lineT x.p.s ++ [10])))))) hz0 hz1 (by omega) (by first | ((repeat first | exact at0 (by simp) | refine atS ?_); done) | assumption) (by first | ((repeat first | exact at0 (by simp) | refine atS ?_); done) | assumption) ?_
    rw [hT2]
    simp (disch := first | omega | (simp only [go_sem]; first | done | omega)) only [go_sem]
    refine Next.mk (k + 1) ⟨by omega, by omega⟩ ?_
    rw [← hT3, show decide (0 < k + 1) = true by simp]
    simp (disch := first | omega | (simp only [go_sem]; first | done | omega)) only [go_sem]
    rw [show ((k : Int) + 1) = ((k + 1 : Nat) : Int) by omega]
    exact pickBld (q := 3) hH (Nat.le_refl _) rfl rfl (by omega) (by intro v hv; rw [List.mem_singleton] at hv; exact ⟨_, hv⟩)
  · have hkl : k = l.length := by omega
    subst hkl
    have hTl := textA_len l s2
    rw [List.take_length]
    simp (disch := first | omega | (simp only [go_sem]; first | done | omega)) only [go_sem]
    generalize textA l = T at *
    refine bldLen_a (i := H.length) (j := H.length + 1) T (by omega) (by first | ((repeat first | exact at0 (by simp) | refine atS ?_); done) | assumption) (by first | ((repeat first | exact at0 (by simp) | refine atS ?_); done) | assumption) ?_
    by_cases hbig : 200000 < T.length
    · rw [if_pos hbig] at hk
      simp (disch := first | omega | (simp only [go_sem]; first | done | omega)) only [go_sem, hbig]
      exact Ret.drop hH (Nat.le_refl _) (by simp [AV.ok, AV.ok1, AC.ok]) hk
    · rw [if_neg hbig] at hk
      simp (disch := first | omega | (simp only [go_sem]; first | done | omega)) only [go_sem, hbig]
      refine str_a (i := H.length) (m := H.length + 1) (by omega) T (by first | ((repeat first | exact at0 (by simp) | refine atS ?_); done) | assumption) (by first | ((repeat first | exact at0 (by simp) | refine atS ?_); done) | assumption) ?_
      simp (disch := first | omega | (simp only [go_sem]; first | done | omega)) only [go_sem]
      exact Ret.drop hH (Nat.le_refl _) (by simp [AV.ok, AV.ok1, AC.ok]) hk
end Go.Proofs.YtflklkijfkmeiaaGreatDoor
