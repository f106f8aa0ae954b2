/- Several texts in one: strconv, and what follows. No condition. -/
import Derived.Shelf.Strconv.AtoiAll
import Derived.Test.YtflklkijfkmeiaaGreatDoorHVTxtA
import Derived.Test.YtflklkijfkmeiaaGreatDoorHVGA
/- strconv.Atoi at any string. Condition: the variables ErrSyntax and ErrRange are known to hold interfaces. -/
namespace Go.Proofs.YtflklkijfkmeiaaGreatDoor
open Go Go.RowKit Go.Shelf
set_option maxRecDepth 100000
set_option linter.all false
set_option maxHeartbeats 4000000
variable {H : Hp} {K : AV → Hp → Prop}
theorem atoiLayC : LaysC.n172 Tryz.prog atoiRen := { atoiLay with
  t80 := by kernel_rfl
  a80 := fun w => by kernel_rfl
  z80 := fun w => by kernel_rfl
  v80 := fun w => by kernel_rfl
  i0 := by kernel_rfl
  i2 := by kernel_rfl
  i3 := by kernel_rfl
  i4 := by kernel_rfl
  i5 := by kernel_rfl
  i9 := by kernel_rfl
  i20 := by kernel_rfl
  i21 := by kernel_rfl
  i37 := by kernel_rfl
  i46 := by kernel_rfl
  i51 := by kernel_rfl
  i53 := by kernel_rfl
  i75 := by kernel_rfl
  i76 := by kernel_rfl
  i80 := by kernel_rfl
  i85 := by kernel_rfl
  i127 := by kernel_rfl
  i143 := by kernel_rfl
  i145 := by kernel_rfl
  i167 := by kernel_rfl
  i168 := by kernel_rfl
  i171 := by kernel_rfl
  i173 := by kernel_rfl
  i175 := by kernel_rfl
  i210 := by kernel_rfl
  i212 := by kernel_rfl
  i232 := by kernel_rfl
  i233 := by kernel_rfl
  m15 := by kernel_rfl
  m16 := by kernel_rfl
  m17 := by kernel_rfl
  m18 := by kernel_rfl
  m19 := by kernel_rfl
  c0 := by kernel_rfl
  c2 := by kernel_rfl
  c3 := by kernel_rfl
  c4 := by kernel_rfl
  c5 := by kernel_rfl
  c9 := by kernel_rfl
  c20 := by kernel_rfl
  c21 := by kernel_rfl
  c37 := by kernel_rfl
  c46 := by kernel_rfl
  c51 := by kernel_rfl
  c53 := by kernel_rfl
  c75 := by kernel_rfl
  c76 := by kernel_rfl
  c80 := by kernel_rfl
  c85 := by kernel_rfl
  c127 := by kernel_rfl
  c143 := by kernel_rfl
  c145 := by kernel_rfl
  c167 := by kernel_rfl
  c168 := by kernel_rfl
  c171 := by kernel_rfl
  c173 := by kernel_rfl
  c175 := by kernel_rfl
  c210 := by kernel_rfl
  c212 := by kernel_rfl
  c213 := by kernel_rfl
  c232 := by kernel_rfl
  c233 := by kernel_rfl }
theorem ifcCell {w : World} {g : Nat} (h : ifcAt w g) : ∃ ev, w.cell? ⟨g, 0, none⟩ = some ev ∧ (ev = .nilIface ∨ ∃ t u, ev = .iface t u) := by
  obtain ⟨cs, ty, fr, ev, h1, h2, h3⟩ := h
  exact ⟨ev, by simp [World.cell?, h1, h2], h3⟩
theorem atoiAny_a (s : ByteArray) (hs : s.size ≤ 281474976710656) (hk1 : ∀ v, Lib.atoiAll s.data.toList = .ok v → K (.tup [(.c (.int .i64 v)), .c .nili]) H) (hk2 : (∀ v, Lib.atoiAll s.data.toList ≠ .ok v) → ∀ v : Int, K (.tup [(.c (.int .i64 v)), .c .ifc]) H) : ACalls Tryz.prog 231 [(.c (.str s))] H K := by
  intro B w0 ι w vs hs' hr ho
  obtain ⟨l⟩ := vs
  match l, hr with
  | [v], hr =>
    have hv : v = .string s := hr.1
    subst hv
    have kn : Kn B w := hs'.known.to (fun _ h => h) hs'.below.block
    obtain ⟨e1, c1, d1⟩ := ifcCell (kn.ifc 2 (by unfold knownI; simp)).2
    obtain ⟨e2, c2, d2⟩ := ifcCell (kn.ifc 3 (by unfold knownI; simp)).2
    have hgr : ∀ w', Below w.heap.size w w' → Sim B w0 ι H w' := fun w' h3 => hs'.grown ⟨h3.os, h3.tape, h3.output, h3.size, fun q hq _ => h3.block q hq⟩
    rcases h : Lib.atoiAll s.data.toList with v | _ | _
    ·
      have hk := hk1 v h
      refine Calls.mono (Any.strconv_Atoi_ok atoiLayC s (by omega) v h w) ?_
      rintro e w' ⟨rfl, hw⟩
      have hs1 : Sim B w0 ι H w' := by
        rcases hw with rfl | ⟨t, rfl⟩
        · exact hs'
        · exact hgr _ (Lib.bytesWorld_below _ _ _)
      exact ⟨ι, _, .tup [(.c (.int .i64 v)), .c .nili], _, rfl, Agree.refl _ _, Nat.le_refl _, hs1, ⟨[.int .i64 v, .nilIface], rfl, rfl, rfl, trivial⟩, by simp [AV.ok, AV.ok1, AC.ok], hk⟩
    ·
      refine Calls.mono (Any.strconv_Atoi_syntax atoiLayC s hs h e1 w c1 d1) ?_
      rintro e w' ⟨N, rfl, h1, h2, h3⟩
      exact ⟨ι, _, .tup [(.c (.int .i64 0)), .c .ifc], _, rfl, Agree.refl _ _, Nat.le_refl _, hgr _ h3, ⟨[.int .i64 0, .iface _ _], rfl, rfl, ⟨_, _, rfl⟩, trivial⟩, by simp [AV.ok, AV.ok1, AC.ok], hk2 (fun v e => by rw [h] at e; cases e) 0⟩
    ·
      refine Calls.mono (Any.strconv_Atoi_range atoiLayC s hs h e2 w c2 d2) ?_
      rintro e w' ⟨N, rfl, h1, h2, h3⟩
      exact ⟨ι, _, .tup [(.c (.int .i64 (Lib.atoiSat s.data.toList))), .c .ifc], _, rfl, Agree.refl _ _, Nat.le_refl _, hgr _ h3, ⟨[.int .i64 _, .iface _ _], rfl, rfl, ⟨_, _, rfl⟩, trivial⟩, by simp [AV.ok, AV.ok1, AC.ok], hk2 (fun v e => by rw [h] at e; cases e) _⟩
end Go.Proofs.YtflklkijfkmeiaaGreatDoor
/- Samples and series: their faults, in the program and in the document's answer. Condition: the list is not huge. -/
namespace Go.Proofs.YtflklkijfkmeiaaGreatDoor
open Go Go.RowKit
set_option maxRecDepth 100000
set_option linter.all false
set_option maxHeartbeats 1000000
variable {H : Hp} {K : AV → Hp → Prop}
structure Smp where
  t : Int
  v : Int
  q : Int
deriving DecidableEq
def encS (x : Smp) : List AC := [.int .i64 x.t, .int .i64 x.v, .int .i64 x.q]
attribute [go_sem, simp] encS
def smpErr (x : Smp) : Int := if x.t < 0 ∨ 345686399999 < x.t then 1 else if x.q < 0 ∨ 2 < x.q then 4 else if x.v < -1000000 ∨ 1000000 < x.v then 1 else if x.q = 2 ∧ x.v ≠ 0 then 3 else 0
theorem checkSample_a (x : Smp) (hk : K (.c (.int .i64 (smpErr x))) H) : ACalls Tryz.prog 197 [.agg (encS x)] H K := by
  refine acalls Tryz.func197 rfl (by kernel_rfl) (by simp (disch := first | omega | (simp only [go_sem]; first | done | omega)) only [go_sem]) (fun hH => ?_)
  simp (disch := first | omega | (simp only [go_sem]; first | done | omega)) only [go_sem]
  repeat' (first | ((first | refine acond_d ?_ ?_ | refine acond_b ?_ ?_ | refine ag_d ?_ ?_ | refine ag_n ?_ ?_ | refine ag_bt ?_ ?_ | refine ag_bf ?_ ?_) <;> intro c <;> try simp (disch := first | omega | (simp only [go_sem]; first | done | omega)) only [go_sem, c]) | ((first | refine w_draw (by kernel_rfl) (by decide +kernel) ?_ | refine moment_a _ _ _ ?_ | refine out_a _ _ _ _ _ ?_) <;> try simp (disch := first | omega | (simp only [go_sem]; first | done | omega)) only [go_sem]))
  all_goals (first | refine Ret.sameE (Nat.le_refl _) (by assumption) ?_ | refine Ret.dropE (by assumption) (Nat.le_refl _) (by assumption) (by simp [AV.ok, AV.ok1, AC.ok]) ?_) <;> grind [smpErr]
def serErr (i : Nat) (p x : Smp) : Int := if smpErr x ≠ 0 then smpErr x else if 0 < i ∧ x.t ≤ p.t then 7 else 0
def serF (l : List Smp) : Int := if 5000 < l.length then 2 else errGo serErr 0 ⟨0, 0, 0⟩ l
theorem checkSeries_a (l : List Smp) (hlen : l.length ≤ 1099511627776) (hk : K (.c (.int .i64 (serF l))) H) : ACalls Tryz.prog 122 [.c (.lst 3 (l.map encS))] H K := by
  by_cases h6 : 5000 < l.length
  · refine acalls Tryz.func122 rfl (by kernel_rfl) (by simp (disch := first | omega | (simp only [go_sem]; first | done | omega)) only [go_sem]) (fun hH => ?_)
    simp (disch := first | omega | (simp only [go_sem]; first | done | omega)) only [go_sem]
    (first | refine Ret.sameE (Nat.le_refl _) (by assumption) ?_ | refine Ret.dropE (by assumption) (Nat.le_refl _) (by assumption) (by simp [AV.ok, AV.ok1, AC.ok]) ?_) <;> simp [serF, h6]
  have hF : serF l = errGo serErr 0 ⟨0, 0, 0⟩ l := by simp [serF, h6]
  refine acalls Tryz.func122 rfl (by kernel_rfl) (by simp (disch := first | omega | (simp only [go_sem]; first | done | omega)) only [go_sem]) (fun hH => ?_)
  simp (disch := first | omega | (simp only [go_sem]; first | done | omega)) only [go_sem]
  refine AWp.loop (H.length) [0, 9, 10] [11] (fun (k : Nat) => k ≤ l.length ∧ errGo serErr k (prv ⟨0, 0, 0⟩ l k) (l.drop k) = errGo serErr 0 ⟨0, 0, 0⟩ l) (fun (k : Nat) => [(11, (.c (.int .i64 k)))]) (fun (k : Nat) => H) (fun (k : Nat) => l.length - k) (by kernel_rfl) (fun _ => rfl) (by kernel_rfl) (by first | (simp; done) | omega) (by first | (simp; done) | (simp; omega) | omega) kl ?_ (fun k hk1 _ _ => ?_)
  · exact Next.mk 0 ⟨by omega, rfl⟩ wk
  obtain ⟨hk1, hk2⟩ := hk1
  by_cases hlt : k < l.length
  · have hs := errGo_step serErr ⟨0, 0, 0⟩ l k hlt
    have hp : ∀ h : 0 < k, prv ⟨0, 0, 0⟩ l k = l[((k : Int) - 1).toNat]'(by omega) := fun h => by rw [prv_pos _ _ _ hk1 h]; congr 1; omega
    have hv : serErr k (prv ⟨0, 0, 0⟩ l k) l[k] ≠ 0 → serErr k (prv ⟨0, 0, 0⟩ l k) l[k] = serF l := fun h => by rw [hF, ← hk2, hs, if_neg h]
    have hn : serErr k (prv ⟨0, 0, 0⟩ l k) l[k] = 0 → errGo serErr (k + 1) (prv ⟨0, 0, 0⟩ l (k + 1)) (l.drop (k + 1)) = errGo serErr 0 ⟨0, 0, 0⟩ l := fun h => by rw [← hk2, hs, if_pos h]
    clear hs hF
    simp (disch := first | omega | (simp only [go_sem]; first | done | omega)) only [go_sem, hlt]
    repeat' (first | ((first | refine acond_d ?_ ?_ | refine acond_b ?_ ?_ | refine ag_d ?_ ?_ | refine ag_n ?_ ?_ | refine ag_bt ?_ ?_ | refine ag_bf ?_ ?_) <;> intro c <;> try simp (disch := first | omega | (simp only [go_sem]; first | done | omega)) only [go_sem, c]) | ((first | refine w_draw (by kernel_rfl) (by decide +kernel) ?_ | refine checkSample_a _ ?_) <;> try simp (disch := first | omega | (simp only [go_sem]; first | done | omega)) only [go_sem]))
    all_goals first
      | (refine Next.mk (k + 1) (by grind [serErr]) ?_; exact wk)
      | (first | refine Ret.sameE (Nat.le_refl _) (by assumption) ?_ | refine Ret.dropE (by assumption) (Nat.le_refl _) (by assumption) (by simp [AV.ok, AV.ok1, AC.ok]) ?_) <;> grind [serErr]
  · simp (disch := first | omega | (simp only [go_sem]; first | done | omega)) only [go_sem, hlt]
    have := errGo_end serErr (prv ⟨0, 0, 0⟩ l k) l k (by omega)
    (first | refine Ret.sameE (Nat.le_refl _) (by assumption) ?_ | refine Ret.dropE (by assumption) (Nat.le_refl _) (by assumption) (by simp [AV.ok, AV.ok1, AC.ok]) ?_) <;> (first | rfl | (simp only [AV.c.injEq, AC.bool.injEq]; rw [Bool.eq_iff_iff]; simp only [Bool.not_eq_true', decide_eq_true_eq, decide_eq_false_iff_not, Bool.and_eq_true, Bool.or_eq_true]; omega) | grind | (simp [*]; done) | (simp [*]; omega))
end Go.Proofs.YtflklkijfkmeiaaGreatDoor
/- Numbers as bytes: plain definitions and lemmas, no program in sight. -/
namespace Go.Proofs.YtflklkijfkmeiaaGreatDoor
open Go Go.RowKit
def vb (z : Nat) : List UInt8 := if z < 128 then [UInt8.ofNat z] else UInt8.ofNat (z % 128 + 128) :: vb (z / 128)
termination_by z
decreasing_by omega
def most : Int := 1000000000000
end Go.Proofs.YtflklkijfkmeiaaGreatDoor
/- Bytes: numbers as bytes, and checksums. Condition: no bytes but such as fit. -/
namespace Go.Proofs.YtflklkijfkmeiaaGreatDoor
open Go Go.RowKit
set_option maxRecDepth 100000
set_option linter.all false
set_option maxHeartbeats 1000000
variable {H : Hp} {K : AV → Hp → Prop}
def encU (b : UInt8) : List AC := [.int .u8 (b.toNat : Int)]
attribute [go_sem] encU
theorem pureL_U (l : List UInt8) : pureL (l.map encU) = true := pureL_map _ (fun x => by simp [go_sem, AC.pure])
theorem appUs {i : Nat} {J : AV → Hp → Prop} (l : List UInt8) (s : ByteArray) (hi : H[i]? = some (grO 5 1 (l.map encU))) (hm : 0 < s.size) (hb : l.length + s.size ≤ 100000000000)
    (h : J (.c (grV H.length (l ++ s.data.toList))) (H.set i .dead ++ [grO 5 1 ((l ++ s.data.toList).map encU)])) : aBuiltin Tryz.prog .append #[130, 9] [.c (grV i l), .c (.str s)] H J :=
  app_grS (enc := encU) (e := 5) l s rfl (by kernel_rfl) (by kernel_rfl) (by kernel_rfl) (by kernel_rfl) (by kernel_rfl) hi hm (by omega) h
end Go.Proofs.YtflklkijfkmeiaaGreatDoor
/- Samples and bins deleted in place. No condition. -/
namespace Go.Proofs.YtflklkijfkmeiaaGreatDoor
open Go Go.RowKit
set_option maxRecDepth 100000
set_option linter.all false
set_option maxHeartbeats 1000000
variable {H : Hp} {K : AV → Hp → Prop}
theorem Ret.frzDead {ty sz n m i : Nat} {els : List (List AC)} {own : Bool} (hi : H[i]? = some (.row ty sz els own)) (hp : pureL els = true) (hm : m ≤ els.length) (hn : n ≤ H.length) (hk : K (.c (.lst sz (els.take m))) (H.set i .dead)) : Ret n (.c (.sl (some (i, 0)) m)) H K := by
  intro hH hv
  have hlt := getElem?_lt hi
  have h1 := WkL.frz (m := n) (vs := [.c (.sl (some (i, 0)) m)]) hi hp hn
  have e1 : [AV.c (AC.sl (some (i, 0)) m)].map (AV.frz i sz els) = [.c (.lst sz (els.take m))] := by simp [AV.frz, AV.frz1, AC.frz, hm]
  rw [e1] at h1
  have hok : HOk (H.set i .dead) := HOk.set hH trivial
  have h2 : WkL n [.c (.lst sz (els.take m))] (H.set i (.row ty sz els false)) [.c (.lst sz (els.take m))] (H.set i .dead) := by
    refine WkL.renL id (fun _ _ => rfl) (by simpa using hn) (fun j o hj hl => ?_) (fun j k _ _ _ _ _ _ e => e) (by simp [AV.ren, AV.ren1, AC.ren]) (by simp [AV.ok, AV.ok1, AC.ok]) hok
    by_cases e : i = j
    · subst e; rw [List.getElem?_set_self hlt] at hj; injection hj with hj; subst hj; cases hl
    · rw [List.getElem?_set_ne e] at hj
      show (H.set i (.row ty sz els false))[j]? = _
      rw [List.getElem?_set_ne e, hj, AObj.ren_id (σ := id) (n := H.length) (fun _ _ => rfl) (hH j o hj)]
  exact ⟨_, _, h1.trans h2, hk⟩
end Go.Proofs.YtflklkijfkmeiaaGreatDoor
/- Fractions in lowest terms. Condition: numbers as they are in memory. -/
namespace Go.Proofs.YtflklkijfkmeiaaGreatDoor
open Go Go.RowKit
set_option maxRecDepth 100000
set_option linter.all false
set_option maxHeartbeats 1000000
variable {H : Hp} {K : AV → Hp → Prop}
end Go.Proofs.YtflklkijfkmeiaaGreatDoor
