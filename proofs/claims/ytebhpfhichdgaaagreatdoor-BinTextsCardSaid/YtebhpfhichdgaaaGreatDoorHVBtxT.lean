/- Texts of bins: logref2.BinLines. Condition: the numbers are no longer than fifteen digits. -/
import Derived.Test.YtebhpfhichdgaaaGreatDoorHVBtxM
import Derived.Test.YtebhpfhichdgaaaGreatDoorHVTxtQ
namespace Go.Proofs.YtebhpfhichdgaaaGreatDoor
open Go Go.RowKit
set_option maxRecDepth 100000
set_option linter.all false
set_option maxHeartbeats 4000000
variable {H : Hp} {K : AV → Hp → Prop}
def sixB (x : Bin) : List Int := [x.a, x.s, x.n, x.m, x.lo, x.hi]
def Bin.ok6 (x : Bin) : Prop := ∀ n ∈ sixB x, -1000000000000000 < n ∧ n < 1000000000000000
def lineBn (x : Bin) : List UInt8 := joinL [32] ((sixB x).map Lib.itoa)
def textBn (l : List Bin) : List UInt8 := l.flatMap fun x => lineBn x ++ [10]
theorem textBn_next {l : List Bin} {k : Nat} (h : k < l.length) : textBn (l.take (k + 1)) = textBn (l.take k) ++ (lineBn l[k] ++ [10]) := by
  unfold textBn
  rw [List.take_succ_eq_append_getElem h, List.flatMap_append]
  simp
theorem lineBn_len {x : Bin} (h : x.ok6) : (lineBn x).length ≤ 120 := by
  have g := fun n hn => itoa_len (h n hn)
  have g1 := g x.a (by simp [sixB])
  have g2 := g x.s (by simp [sixB])
  have g3 := g x.n (by simp [sixB])
  have g4 := g x.m (by simp [sixB])
  have g5 := g x.lo (by simp [sixB])
  have g6 := g x.hi (by simp [sixB])
  simp only [lineBn, sixB, joinL, List.map_cons, List.map_nil, List.flatMap_cons, List.flatMap_nil, List.length_append, List.length_cons, List.length_nil]
  omega
theorem textBn_len : ∀ (l : List Bin), (∀ x ∈ l, x.ok6) → (textBn l).length ≤ 121 * l.length
  | [], _ => by simp [textBn]
  | x :: t, h => by
    have h1 := textBn_len t (fun y hy => h y (List.mem_cons_of_mem _ hy))
    have h2 := lineBn_len (h x (by simp))
    unfold textBn at h1 ⊢
    rw [List.flatMap_cons, List.length_append, List.length_append, List.length_cons, List.length_cons, List.length_nil]
    omega
theorem aIf_stB {a b : ByteArray} {x y z : List UInt8} {J : AV → Hp → Prop} (hx : a = tB x) (hy : b = tB y) (hz : z = x ++ y) (hl : x.length + y.length ≤ 1000000) (h : J (.c (.str (tB z))) H) : aIf (a.size + b.size ≤ 9223372036854775807) (.c (.str (a ++ b))) H J := by
  subst hx hy hz
  refine ⟨?_, by rw [app_tB]; exact h⟩
  rw [tB_size, tB_size]
  omega
theorem numbers6_lit (x : Bin) (hb : x.ok6) {i ty n : Nat} {els : List (List AC)} {own : Bool} (hi : H[i]? = some (.row ty 1 els own)) (he : els = (sixB x).map encI) (hn : n = 6) (hk : K (.c (.str (tB (lineBn x)))) (H.set i .dead)) : ACalls Tryz.prog 83 [.c (.sl (some (i, 0)) n)] H K := by
  subst he hn
  exact ACalls.lit hi (by simp [pureL, AC.pure, sixB, encI]) (args' := [.c (.lst 1 ((sixB x).map encI))]) (by simp [AV.frz1, AC.frz, sixB, encI]) (numbersR_a x.a [x.s, x.n, x.m, x.lo, x.hi] (by simp) hb hk)
theorem binLines_a (l : List Bin) (hl : l.length ≤ 5000) (hb : ∀ x ∈ l, x.ok6) (hk : K (.c (.str (tB (textBn l)))) H) : ACalls Tryz.prog 15 [.c (.lst 6 (l.map encN))] H K := by
  refine acalls Tryz.func15 rfl (by kernel_rfl) (by simp (disch := first | omega | (simp only [go_sem]; first | done | omega)) only [go_sem]) (fun hH => ?_)
  simp (disch := first | omega | (simp only [go_sem]; first | done | omega)) only [go_sem]
  refine AWp.loop (H.length) [6, 7] [8, 3] (fun (k : Nat) => k ≤ l.length) (fun (k : Nat) => [(8, (.c (.int .i64 k))), (3, (.c (.str (tB (textBn (l.take k))))))]) (fun (k : Nat) => H) (fun (k : Nat) => l.length - k) (by kernel_rfl) (fun _ => rfl) (by kernel_rfl) (by first | (simp; done) | omega) (by first | (simp; done) | (simp; omega) | omega) kl ?_ (fun k q _ _ => ?_)
  · exact Next.mk 0 (Nat.zero_le _) wk
  by_cases hlt : k < l.length
  · have hnx := textBn_next hlt
    have hxb := hb l[k] (List.getElem_mem hlt)
    have hll := lineBn_len hxb
    have hTl := textBn_len (l.take k) (fun x hx => hb x (List.mem_of_mem_take hx))
    rw [List.length_take] at hTl
    obtain ⟨x, hx⟩ : ∃ x, x = l[k] := ⟨_, rfl⟩
    rw [← hx] at hnx hxb hll
    generalize textBn (l.take k) = T at *
    simp (disch := first | omega | (simp only [go_sem]; first | done | omega)) only [go_sem, hlt, ← hx]
    refine numbers6_lit x hxb (by first | ((repeat first | exact at0 (by simp) | refine atS ?_); done) | assumption) (by simp [sixB, encI]) rfl ?_
    simp (disch := first | omega | (simp only [go_sem]; first | done | omega)) only [go_sem]
    refine aIf_stB rfl (y := [10]) rfl rfl (by simp; omega) ?_
    simp (disch := first | omega | (simp only [go_sem]; first | done | omega)) only [go_sem]
    refine aIf_stB rfl rfl rfl (by simp; omega) ?_
    simp (disch := first | omega | (simp only [go_sem]; first | done | omega)) only [go_sem]
    refine Next.mk (k + 1) ⟨by omega, by omega⟩ ?_
    rw [hnx]
    simp (disch := first | omega | (simp only [go_sem]; first | done | omega)) only [go_sem]
    rw [show ((k : Int) + 1) = ((k + 1 : Nat) : Int) by omega]
    exact WkL.drop hH (Nat.le_refl _) (by intro v hv; simp only [List.mem_cons, List.not_mem_nil, or_false] at hv; rcases hv with rfl | rfl <;> simp [AV.ok, AV.ok1, AC.ok])
  · have hkl : k = l.length := by omega
    subst hkl
    rw [List.take_length]
    simp (disch := first | omega | (simp only [go_sem]; first | done | omega)) only [go_sem]
    exact Ret.same (Nat.le_refl _) hk
end Go.Proofs.YtebhpfhichdgaaaGreatDoor
