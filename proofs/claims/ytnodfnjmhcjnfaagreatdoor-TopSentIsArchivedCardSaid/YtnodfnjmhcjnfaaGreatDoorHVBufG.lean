/- Several texts in one: Package buffer's functions, and what follows. No condition. -/
import Derived.Test.YtnodfnjmhcjnfaaGreatDoorHVNodeF
import Derived.Test.YtnodfnjmhcjnfaaGreatDoorHVSortI
import Derived.Test.YtnodfnjmhcjnfaaGreatDoorHVGA
/- Package buffer's functions. Condition: the list is not huge. -/
namespace Go.Proofs.YtnodfnjmhcjnfaaGreatDoor
open Go Go.RowKit
set_option maxRecDepth 100000
set_option linter.all false
set_option maxHeartbeats 2000000
variable {H : Hp} {K : AV → Hp → Prop}
theorem bfE_ok {c p : Int} {l : List Stp} (h : bfE c p l = 0) : stpF l = 0 ∧ 2 ≤ c ∧ c ≤ 1000 ∧ 1 ≤ p ∧ p ≤ 3 := by
  unfold bfE at h
  split at h
  · cases h
  · split at h
    · cases h
    · exact ⟨h, by omega⟩
theorem cnt_ok {l : List Stp} (h : stpF l = 0) : l.length ≤ 2000 ∧ ∀ x ∈ l, x.kind = 2 → x.count ≤ 1000000 := by
  obtain ⟨h1, h2⟩ := stpF_all h
  refine ⟨h1, fun x hx hk => ?_⟩
  have := stp_count (h2 x hx) hk
  omega
theorem ACalls.hok {P : Program} {f : FuncId} {args : List AV} {H : Hp} {K : AV → Hp → Prop} (h : ACalls P f args H (fun v G => HOk G → K v G)) : ACalls P f args H K :=
  fun B w0 ι w vs hs hr ho => (h B w0 ι w vs hs hr ho).mono fun _ _ ⟨ι', v, av, H', h1, h2, h3, h4, h5, h6, h7⟩ => ⟨ι', v, av, H', h1, h2, h3, h4, h5, h6, h7 h4.scope⟩
theorem new_at {H L : Hp} {i : Nat} {o : AObj} (h : (H ++ L)[i]? = some o) (hne : ∀ (q : Nat) (ob : AObj), H[q]? = some ob → q ≠ i) : ∃ j, i = H.length + j ∧ L[j]? = some o := by
  rcases Nat.lt_or_ge i H.length with hi | hi
  · exact absurd rfl (hne i _ (List.getElem?_eq_getElem hi))
  · rw [List.getElem?_append_right hi] at h
    exact ⟨i - H.length, by omega, h⟩
theorem sent_a (c p : Int) (l : List Stp) (hlen : l.length ≤ 1099511627776) (ht : ∀ x ∈ l, x.tag.size ≤ 1099511627776)
    (hk : K (.tup [.c (.lst 5 ((if bfE c p l = 0 then (playF c p l).out else []).map encPk)), (.c (.int .i64 (bfE c p l)))]) H) : ACalls Tryz.prog 56 [(.c (.int .i64 c)), (.c (.int .i64 p)), .c (.lst 7 (l.map encStp))] H K := by
  by_cases hE : bfE c p l = 0
  · obtain ⟨e1, e2⟩ := bfE_ok hE
    obtain ⟨e3, e4⟩ := cnt_ok e1
    rw [if_pos hE, hE] at hk
    refine acalls Tryz.func56 rfl (by kernel_rfl) (by simp (disch := first | omega | (simp only [go_sem]; first | done | omega)) only [go_sem]) (fun hH => ?_)
    simp (disch := first | omega | (simp only [go_sem]; first | done | omega)) only [go_sem]
    refine bfFault_a c p l hlen ht ?_
    rw [hE]
    simp (disch := first | omega | (simp only [go_sem]; first | done | omega)) only [go_sem]
    refine nplay_a c p l e3 e4 (fun L s hN => ?_)
    have hc := hN.hc
    have hcl := getElem?_lt hc
    obtain ⟨j, hj1, hj2⟩ := new_at hN.ho (fun q ob hq he => (hN.pre q ob hq).2 (by subst he; simp))
    unfold nodeO at hc
    simp (disch := first | omega | (simp only [go_sem]; first | done | omega)) only [go_sem, hc, hcl]
    exact Ret.frzGrT j hH (Nat.le_refl _) hj2 (pureL_map _ (fun x => by simp [go_sem, AC.pure])) rfl (by rw [map_grV, ← hj1]) hk
  · rw [if_neg hE] at hk
    refine acalls Tryz.func56 rfl (by kernel_rfl) (by simp (disch := first | omega | (simp only [go_sem]; first | done | omega)) only [go_sem]) (fun hH => ?_)
    simp (disch := first | omega | (simp only [go_sem]; first | done | omega)) only [go_sem]
    refine bfFault_a c p l hlen ht ?_
    simp (disch := first | omega | (simp only [go_sem]; first | done | omega)) only [go_sem, hE]
    exact Ret.nilS (Nat.le_refl _) rfl hk
end Go.Proofs.YtnodfnjmhcjnfaaGreatDoor
/- Arrivals: their faults by themselves, and their order, in the program and in the document's answer. No condition. -/
namespace Go.Proofs.YtnodfnjmhcjnfaaGreatDoor
open Go Go.RowKit
set_option maxRecDepth 100000
set_option linter.all false
set_option maxHeartbeats 1000000
variable {H : Hp} {K : AV → Hp → Prop}
structure Arr where
  nd : ByteArray
  t : Int
  p : Pk
def encAr (x : Arr) : List AC := [.str x.nd, .int .i64 x.t, .int .i64 x.p.n, .str x.p.tag, .int .i64 x.p.s.t, .int .i64 x.p.s.v, .int .i64 x.p.s.q]
attribute [go_sem] encAr
def cmpS (a b : ByteArray) : Int := Lib.compareBytes a.data.toList b.data.toList
theorem cmpStrX (f : FuncId) (hf : externs Tryz.prog f Extern.BytealgCompare.compare) (a b : ByteArray) (hk : K (.c (.int .i64 (cmpS a b))) H) : AExt Tryz.prog f [(.c (.str a)), (.c (.str b))] H K := by
  refine ⟨_, hf, fun B w0 ι w vs hs hr ho => ?_⟩
  obtain ⟨l⟩ := vs
  match l, hr with
  | [u, v], hr =>
    have h1 : u = .string a := hr.1
    have h2 : v = .string b := hr.2.1
    subst h1; subst h2
    exact ⟨_, w, Lib.run_compareString a b w, ι, _, (.c (.int .i64 (cmpS a b))), H, rfl, Agree.refl _ _, Nat.le_refl _, hs, rfl, trivial, hk⟩
theorem ext_cmpStr : externs Tryz.prog 325 Extern.BytealgCompare.compare := ⟨_, rfl, by kernel_rfl, by kernel_rfl, by kernel_rfl, by kernel_rfl⟩
theorem cmpStr_a (a b : ByteArray) (hk : K (.c (.int .i64 (cmpS a b))) H) : ACalls Tryz.prog 197 [(.c (.str a)), (.c (.str b))] H K := by
  have key : ∀ (K : AV → Hp → Prop), K (.c (.int .i64 (cmpS a b))) H → ACalls Tryz.prog 269 [(.c (.str a)), (.c (.str b))] H K := by
    intro K hk
    refine acalls Tryz.func269 rfl (by kernel_rfl) (by simp (disch := first | omega | (simp only [go_sem]; first | done | omega)) only [go_sem]) (fun hH => ?_)
    simp (disch := first | omega | (simp only [go_sem]; first | done | omega)) only [go_sem]
    refine cmpStrX _ ext_cmpStr a b ?_
    simp (disch := first | omega | (simp only [go_sem]; first | done | omega)) only [go_sem]
    exact Ret.same (Nat.le_refl _) hk
  refine acalls Tryz.func197 rfl (by kernel_rfl) (by simp (disch := first | omega | (simp only [go_sem]; first | done | omega)) only [go_sem]) (fun hH => ?_)
  simp (disch := first | omega | (simp only [go_sem]; first | done | omega)) only [go_sem]
  refine key _ ?_
  simp (disch := first | omega | (simp only [go_sem]; first | done | omega)) only [go_sem]
  exact Ret.same (Nat.le_refl _) hk
theorem cmpB_eq : ∀ a b : List UInt8, Lib.compareBytes a b = 0 ↔ a = b
  | [], [] => by simp [Lib.compareBytes]
  | [], _ :: _ => by simp [Lib.compareBytes]
  | _ :: _, [] => by simp [Lib.compareBytes]
  | a :: xs, b :: ys => by
    unfold Lib.compareBytes
    by_cases h1 : a < b
    · rw [if_pos h1]
      constructor
      · intro h; cases h
      · intro h; injection h with h2 _; subst h2; exact absurd h1 (UInt8.lt_irrefl _)
    · rw [if_neg h1]
      by_cases h2 : b < a
      · rw [if_pos h2]
        constructor
        · intro h; cases h
        · intro h; injection h with h3 _; subst h3; exact absurd h2 (UInt8.lt_irrefl _)
      · rw [if_neg h2, cmpB_eq xs ys]
        have : a = b := UInt8.le_antisymm (UInt8.not_lt.1 h2) (UInt8.not_lt.1 h1)
        subst this
        simp
theorem cmpS_eq (a b : ByteArray) : cmpS a b = 0 ↔ a = b := by
  unfold cmpS
  rw [cmpB_eq]
  exact ⟨data_inj, fun h => by rw [h]⟩
def sgn (a b : Int) : Int := if a < b then -1 else if b < a then 1 else 0
def arrC (a b : Arr) : Int := if a.t ≠ b.t then sgn a.t b.t else if a.nd ≠ b.nd then cmpS a.nd b.nd else sgn a.p.n b.p.n
def arrErr (x : Arr) : Int := if ¬ isKey x.nd then 5 else if x.t < 0 ∨ 345686399999 < x.t ∨ x.p.n < 1 ∨ 1000000 < x.p.n then 1 else if ¬ isKey x.p.tag then 5 else smpErr x.p.s
theorem arrivalFault_a (x : Arr) (h1 : x.nd.size ≤ 1099511627776) (h2 : x.p.tag.size ≤ 1099511627776) (hk : K (.c (.int .i64 (arrErr x))) H) : ACalls Tryz.prog 228 [.agg (encAr x)] H K := by
  refine acalls Tryz.func228 rfl (by kernel_rfl) (by simp (disch := first | omega | (simp only [go_sem]; first | done | omega)) only [go_sem]) (fun hH => ?_)
  simp (disch := first | omega | (simp only [go_sem]; first | done | omega)) only [go_sem]
  repeat' (first | ((first | refine acond_d ?_ ?_ | refine acond_b ?_ ?_ | refine ag_d ?_ ?_ | refine ag_n ?_ ?_ | refine ag_bt ?_ ?_ | refine ag_bf ?_ ?_) <;> intro c <;> try simp (disch := first | omega | (simp only [go_sem]; first | done | omega)) only [go_sem, c]) | ((first | refine w_draw (by kernel_rfl) (by decide +kernel) ?_ | refine key_a _ h1 ?_ | refine key_a _ h2 ?_ | refine checkSample_a x.p.s ?_ | refine out_a _ _ _ _ _ ?_ | refine moment_a _ _ _ ?_) <;> try simp (disch := first | omega | (simp only [go_sem]; first | done | omega)) only [go_sem]))
  all_goals (first | refine Ret.sameE (Nat.le_refl _) (by assumption) ?_ | refine Ret.dropE (by assumption) (Nat.le_refl _) (by assumption) (by simp [AV.ok, AV.ok1, AC.ok]) ?_) <;> grind [arrErr]
end Go.Proofs.YtnodfnjmhcjnfaaGreatDoor
