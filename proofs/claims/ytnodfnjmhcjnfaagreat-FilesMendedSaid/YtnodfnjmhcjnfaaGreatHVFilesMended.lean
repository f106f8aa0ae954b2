/- FilesMended: what the law's function answers for all numbers it is given. No condition. -/
import Derived.Test.YtnodfnjmhcjnfaaGreatHVEqB
import Derived.Test.YtnodfnjmhcjnfaaGreatHVRecR
import Derived.Test.YtnodfnjmhcjnfaaGreatHVSizP
import Derived.Test.YtnodfnjmhcjnfaaGreatHVSizR
import Derived.Test.YtnodfnjmhcjnfaaGreatHVBentO
import Derived.Test.YtnodfnjmhcjnfaaGreatHVFileE
import Derived.Test.YtnodfnjmhcjnfaaGreatHVArch
namespace Go.Proofs.YtnodfnjmhcjnfaaGreat
open Go Go.RowKit
set_option maxRecDepth 100000
set_option linter.all false
set_option maxHeartbeats 2000000
variable {H : Hp} {K : AV → Hp → Prop}
def SzOk (tag : ByteArray) (l : List Smp) (m : Int) : Prop := (sizE tag l ≠ 0 → m = 0) ∧ (sizE tag l = 0 → IsMin (cB tag l) 0 l.length m)
theorem SzOk.one {tag : ByteArray} {l : List Smp} {m m' : Int} (h : SzOk tag l m) (h' : SzOk tag l m') : m = m' := by
  by_cases e : sizE tag l = 0
  · exact (h.2 e).one (h'.2 e)
  · rw [h.1 e, h'.1 e]
theorem size_b (tag : ByteArray) (l : List Smp) (ht : tag.size ≤ 1099511627776) (hl : l.length ≤ 1099511627776) (hk : ∀ m, SzOk tag l m → K (.tup [(.c (.int .i64 m)), (.c (.int .i64 (sizE tag l)))]) H) : ACalls Tryz.prog 13 [(.c (.str tag)), .c (.lst 3 (l.map encS))] H K :=
  size_a tag l ht hl (fun h => hk 0 ⟨fun _ => rfl, fun e => absurd e h⟩) (fun h m hm => by have := hk m ⟨fun e => absurd h e, fun _ => hm⟩; rwa [h] at this)
theorem sizeOf_b (tag : ByteArray) (l : List Smp) (ht : tag.size ≤ 1099511627776) (hl : l.length ≤ 1099511627776) (hk : ∀ m, SzOk tag l m → K (.tup [(.c (.int .i64 m)), (.c (.int .i64 (sizE tag l)))]) H) : ACalls Tryz.prog 17 [(.c (.str tag)), .c (.lst 3 (l.map encS))] H K :=
  sizeOf_a tag l ht hl (fun h => hk 0 ⟨fun _ => rfl, fun e => absurd e h⟩) (fun h m hm => by have := hk m ⟨fun e => absurd h e, fun _ => hm⟩; rwa [h] at this)
def bV (i : Nat) (o : Bool) (n : Nat) : AC := if o then .sl (some (i, 0)) n else .sl none 0
def bO (o : Bool) (us : List UInt8) : AObj := if o then .row 5 1 (us.map encU) true else .dead
theorem wkU {o : AObj} {G : Hp} {ty : Nat} (i n : Nat) (us : List UInt8) (hi : G[i]? = some (.row ty 1 (us.map encU) true)) (hn : n ≤ us.length) (hA : HOk (H ++ [o])) : WkL (H.length + 1) [.c (.sl (some (H.length + 1 + i, 0)) n)] (H ++ o :: G) [.c (.lst 1 ((us.take n).map encU))] (H ++ [o]) := by
  have e0 : H ++ o :: G = (H ++ [o]) ++ G := by simp
  have hi2 : (H ++ o :: G)[H.length + 1 + i]? = some (.row ty 1 (us.map encU) true) := by
    rw [e0, List.getElem?_append_right (by simp)]
    simpa using hi
  refine WkL.trans (WkL.frz (i := H.length + 1 + i) (ty := ty) (sz := 1) (els := us.map encU) (own := true) hi2 (pureL_U _) (by simp)) ?_
  have e1 : [AV.c (AC.sl (some (H.length + 1 + i, 0)) n)].map (AV.frz (H.length + 1 + i) 1 (us.map encU)) = [.c (.lst 1 ((us.take n).map encU))] := by
    simp [AV.frz, AV.frz1, AC.frz, List.map_take, hn]
  have e2 : (H ++ o :: G).set (H.length + 1 + i) (.row ty 1 (us.map encU) false) = (H ++ [o]) ++ G.set i (.row ty 1 (us.map encU) false) := by
    rw [e0, List.set_append_right _ _ (by simp)]
    simp
  rw [e1, e2]
  exact WkL.drop hA (by simp) (by simp [AV.ok, AV.ok1, AC.ok])
theorem appUp {i n : Nat} {J : AV → Hp → Prop} (us m : List UInt8) (hi : H[i]? = some (.row 5 1 (us.map encU) true)) (hn : n ≤ us.length) (hm : m ≠ []) (hb : n + m.length ≤ 100000000000)
    (h : J (.c (.sl (some (H.length, 0)) (n + m.length))) (H.set i .dead ++ [.row 5 1 ((us.take n ++ m).map encU) true])) : aBuiltin Tryz.prog .append #[26, 26] [.c (.sl (some (i, 0)) n), .c (.lst 1 (m.map encU))] H J := by
  refine app_lst ?_
  cases m with
  | nil => exact absurd rfl hm
  | cons x xs =>
    rw [List.map_append, List.map_take] at h
    simp (disch := first | omega | (simp only [go_sem]; first | done | omega)) only [go_sem, hi]
    simp only [List.length_cons, List.map_cons] at h hb
    exact ⟨⟨hn, by omega, by omega⟩, h⟩
theorem hokS (hH : HOk H) (zs : List Int) (k : Int) : HOk (H ++ [strO zs k]) := HOk.app hH (okN_pure (by simp [pureL, AC.pure]) (by simp) _)
theorem filesMended_a (zs : List Int) (hz : zs.length ≤ 9223372036854775807) (hk : K (.c (.bool true)) H) : ACalls Tryz.prog 3 [.c (.lst 1 (zs.map encI))] H K := by
  have st : ∀ (k : Int) (L : Hp), 0 ≤ k → k ≤ 1000000000 → Str (H ++ strO zs k :: L) H.length zs k := fun k L h1 h2 => ⟨hz, h1, by omega, by simp⟩
  refine acallsS Tryz.func3 rfl (by simp (disch := first | omega | (simp only [go_sem]; first | done | omega)) only [go_sem]) (fun hH => ?_)
  (refine SWp.go (by kernel_rfl) ?_; simp (disch := first | omega | (simp only [go_sem]; first | done | omega)) only [go_sem])
  (refine SWp.go (by kernel_rfl) ?_; simp (disch := first | omega | (simp only [go_sem]; first | done | omega)) only [go_sem])
  refine SWp.cut (H.length + 1) [3] [4, 5, 6] (fun (u : (List UInt8 × Nat × Bool) × ByteArray × List Smp × Int) => u.1.2.1 ≤ u.1.1.length ∧ u.1.2.1 ≤ 200002 ∧ u.2.1.size ≤ 1000 ∧ u.2.2.1.length ≤ 205 ∧ 0 ≤ u.2.2.2 ∧ u.2.2.2 ≤ 10000) (fun (u : (List UInt8 × Nat × Bool) × ByteArray × List Smp × Int) => [(4, .c (bV (H.length + 1) u.1.2.2 u.1.2.1)), (5, (.c (.str (u.2.1)))), (6, .c (.lst 3 (u.2.2.1.map encS)))]) (fun (u : (List UInt8 × Nat × Bool) × ByteArray × List Smp × Int) => H ++ [strO zs u.2.2.2, bO u.1.2.2 u.1.1]) (fun _ => rfl) (by kernel_rfl) (by first | (simp; done) | omega) (by first | (simp; done) | (simp; omega) | omega) kl ?_ (fun u hu _ _ => ?_)
  · refine SWp.of (by kernel_rfl) ?_
    simp (disch := first | omega | (simp only [go_sem]; first | done | omega)) only [go_sem]
    refine aFile_f H.length zs 0 (st _ _ (by omega) (by omega)) (by omega) (fun f j1 g1 g2 g3 _ => ?_)
    simp (disch := first | omega | (simp only [go_sem]; first | done | omega)) only [go_sem]
    refine bent_o H.length zs j1 f (st _ _ (by omega) (by omega)) (by omega) (by omega) (fun j2 g4 g5 => ?_) (fun us n j2 g4 g5 g6 g7 => ?_)
    · simp (disch := first | omega | (simp only [go_sem]; first | done | omega)) only [go_sem]
      refine some_lit H.length zs j2 [⟨#[116, 97]⟩, ⟨#[97, 45, 108, 111, 110, 103, 45, 116, 97, 103]⟩, ⟨#[65]⟩] (by first | ((repeat first | exact at0 (by simp) | refine atS ?_); done) | assumption) rfl rfl (st _ _ (by omega) (by omega)) (by omega) (by simp) (by simp) (fun tag htag => ?_)
      have ht : tag.size ≤ 1000 := by
        simp only [List.mem_cons, List.not_mem_nil, or_false] at htag
        rcases htag with rfl | rfl | rfl <;> decide
      clear htag
      simp (disch := first | omega | (simp only [go_sem]; first | done | omega)) only [go_sem]
      refine samples_a H.length zs (j2 + 1) 8 (st _ _ (by omega) (by omega)) (by omega) (by omega) (by omega) (fun a0 j3 g7 g8 g9 => ?_)
      simp (disch := first | omega | (simp only [go_sem]; first | done | omega)) only [go_sem]
      refine Next.mk (([], 0, false), tag, a0, j3) ⟨Nat.le_refl _, by dsimp only; omega, ht, by dsimp only; omega, by dsimp only; omega, by dsimp only; omega⟩ ?_
      exact wk
    · simp (disch := first | omega | (simp only [go_sem]; first | done | omega)) only [go_sem]
      refine some_lit H.length zs j2 [⟨#[116, 97]⟩, ⟨#[97, 45, 108, 111, 110, 103, 45, 116, 97, 103]⟩, ⟨#[65]⟩] (by first | ((repeat first | exact at0 (by simp) | refine atS ?_); done) | assumption) rfl rfl (st _ _ (by omega) (by omega)) (by omega) (by simp) (by simp) (fun tag htag => ?_)
      have ht : tag.size ≤ 1000 := by
        simp only [List.mem_cons, List.not_mem_nil, or_false] at htag
        rcases htag with rfl | rfl | rfl <;> decide
      clear htag
      simp (disch := first | omega | (simp only [go_sem]; first | done | omega)) only [go_sem]
      refine samples_a H.length zs (j2 + 1) 8 (st _ _ (by omega) (by omega)) (by omega) (by omega) (by omega) (fun a0 j3 g7 g8 g9 => ?_)
      simp (disch := first | omega | (simp only [go_sem]; first | done | omega)) only [go_sem]
      refine Next.mk ((us, n, true), tag, a0, j3) ⟨g6, by dsimp only; omega, ht, by dsimp only; omega, by dsimp only; omega, by dsimp only; omega⟩ ?_
      simp (disch := first | omega | (simp only [go_sem]; first | done | omega)) only [go_sem]
      unfold bV bO
      rw [if_pos rfl, if_pos rfl]
      refine WkL.pickAt [strO zs j3] [0] (L := [.row 5 1 (us.map encU) true]) hH ?_ (by simp) rfl (by simp) ?_ ?_ ?_
      · intro o ho
        simp only [List.mem_singleton] at ho
        subst ho
        exact okN_pure (by simp [pureL, AC.pure]) (by simp) _
      · simp only [List.all_cons, List.all_nil, Bool.and_true]
        exact pureL_U _
      · simp [AV.ren, AV.ren1, AC.ren, pickS]
      · simp only [List.forall_mem_cons, List.not_mem_nil, false_implies, implies_true, and_true]
        simp [AV.ok, AV.ok1, AC.ok]
  obtain ⟨⟨us, n, own⟩, tag, a0, j3⟩ := u
  obtain ⟨u1, u2, ht, u4, u5, u6⟩ := hu
  dsimp only at u1 u2 ht u4 u5 u6 ⊢
  refine SWp.cut (H.length + 1) [3, 5, 6] [4] (fun (u : List UInt8 × Int) => u.1.length ≤ 500000 ∧ 0 ≤ u.2 ∧ u.2 ≤ 50000) (fun (u : List UInt8 × Int) => [(4, .c (.lst 1 (u.1.map encU)))]) (fun (u : List UInt8 × Int) => H ++ [strO zs u.2]) (fun _ => rfl) (by kernel_rfl) (by first | (simp; done) | omega) (by first | (simp; done) | (simp; omega) | omega) kl ?_ (fun u hu _ _ => ?_)
  · refine SWp.of (by kernel_rfl) ?_
    simp (disch := first | omega | (simp only [go_sem]; first | done | omega)) only [go_sem]
    refine flip_a H.length zs j3 3 (st _ _ (by omega) (by omega)) (by omega) (by omega) (fun bb => ?_)
    simp (disch := first | omega | (simp only [go_sem]; first | done | omega)) only [go_sem]
    refine acond_b (fun c => ?_) (fun c => ?_)
    · simp (disch := first | omega | (simp only [go_sem]; first | done | omega)) only [go_sem]
      refine aFile_f H.length zs (j3 + 1) (st _ _ (by omega) (by omega)) (by omega) (fun m j4 g1 g2 g3 _ => ?_)
      cases own with
      | false =>
        rw [show bV (H.length + 1) false n = .sl none 0 from rfl, show bO false us = .dead from rfl]
        cases m with
        | nil =>
          simp (disch := first | omega | (simp only [go_sem]; first | done | omega)) only [go_sem]
          refine app_lst ?_
          simp (disch := first | omega | (simp only [go_sem]; first | done | omega)) only [go_sem]
          refine Next.mk ([], j4) ⟨by simp, by dsimp only; omega, by dsimp only; omega⟩ ?_
          simp (disch := first | omega | (simp only [go_sem]; first | done | omega)) only [go_sem]
          refine WkL.trans (WkL.nilA (vs' := [.c (.lst 1 [])]) ⟨.inr ⟨1, none, rfl, rfl⟩, trivial⟩ (by simp)) ?_
          exact wk
        | cons x xs =>
          have g3' : xs.length + 1 ≤ 200000 := by simpa using g3
          simp (disch := first | omega | (simp only [go_sem]; first | done | omega)) only [go_sem]
          refine appU (i := H.length + 1) [] (x :: xs) (by first | exact at1 (by simp) | exact at1 (by omega)) (by simp) (by simp; omega) ?_
          simp (disch := first | omega | (simp only [go_sem]; first | done | omega)) only [go_sem]
          refine Next.mk (x :: xs, j4) ⟨by dsimp only; omega, by dsimp only; omega, by dsimp only; omega⟩ ?_
          simp (disch := first | omega | (simp only [go_sem]; first | done | omega)) only [go_sem]
          have hw := wkU (H := H) (o := strO zs j4) (G := [.dead, .row 5 1 ((x :: xs).map encU) true]) 1 (x :: xs).length (x :: xs) rfl (Nat.le_refl _) (hokS hH _ _)
          rw [List.take_length] at hw
          exact hw
      | true =>
        rw [show bV (H.length + 1) true n = .sl (some (H.length + 1, 0)) n from rfl, show bO true us = .row 5 1 (us.map encU) true from rfl]
        cases m with
        | nil =>
          simp (disch := first | omega | (simp only [go_sem]; first | done | omega)) only [go_sem]
          refine app_lst ?_
          simp (disch := first | omega | (simp only [go_sem]; first | done | omega)) only [go_sem]
          refine Next.mk (us.take n, j4) ⟨by rw [List.length_take]; omega, by dsimp only; omega, by dsimp only; omega⟩ ?_
          simp (disch := first | omega | (simp only [go_sem]; first | done | omega)) only [go_sem]
          exact wkU 0 n us rfl u1 (hokS hH _ _)
        | cons x xs =>
          have g3' : xs.length + 1 ≤ 200000 := by simpa using g3
          simp (disch := first | omega | (simp only [go_sem]; first | done | omega)) only [go_sem]
          refine appUp us (x :: xs) (by first | exact at1 (by simp) | exact at1 (by omega)) u1 (by simp) (by simp; omega) ?_
          simp (disch := first | omega | (simp only [go_sem]; first | done | omega)) only [go_sem]
          refine Next.mk (us.take n ++ (x :: xs), j4) ⟨by rw [List.length_append, List.length_take]; omega, by dsimp only; omega, by dsimp only; omega⟩ ?_
          simp (disch := first | omega | (simp only [go_sem]; first | done | omega)) only [go_sem]
          have hln : (us.take n ++ (x :: xs)).length = n + (xs.length + 1) := by rw [List.length_append, List.length_take]; simp; omega
          have hw := wkU (H := H) (o := strO zs j4) (G := [.dead, .row 5 1 ((us.take n ++ (x :: xs)).map encU) true]) 1 (us.take n ++ (x :: xs)).length (us.take n ++ (x :: xs)) rfl (Nat.le_refl _) (hokS hH _ _)
          rw [List.take_length, hln] at hw
          exact hw
    · cases own with
      | false =>
        rw [show bV (H.length + 1) false n = .sl none 0 from rfl, show bO false us = .dead from rfl]
        simp (disch := first | omega | (simp only [go_sem]; first | done | omega)) only [go_sem]
        refine Next.mk ([], j3 + 1) ⟨by simp, by dsimp only; omega, by dsimp only; omega⟩ ?_
        simp (disch := first | omega | (simp only [go_sem]; first | done | omega)) only [go_sem]
        refine WkL.trans (WkL.nilA (vs' := [.c (.lst 1 [])]) ⟨.inr ⟨1, none, rfl, rfl⟩, trivial⟩ (by simp)) ?_
        exact wk
      | true =>
        rw [show bV (H.length + 1) true n = .sl (some (H.length + 1, 0)) n from rfl, show bO true us = .row 5 1 (us.map encU) true from rfl]
        simp (disch := first | omega | (simp only [go_sem]; first | done | omega)) only [go_sem]
        refine Next.mk (us.take n, j3 + 1) ⟨by rw [List.length_take]; omega, by dsimp only; omega, by dsimp only; omega⟩ ?_
        simp (disch := first | omega | (simp only [go_sem]; first | done | omega)) only [go_sem]
        exact wkU 0 n us rfl u1 (hokS hH _ _)
  obtain ⟨b, j4⟩ := u
  obtain ⟨v1, v2, v3⟩ := hu
  dsimp only at v1 v2 v3 ⊢
  clear u1 u2 u5 u6
  refine SWp.cut (H.length + 1) [3, 4, 5] [6] (fun (s : List Smp × Int) => s.1.length ≤ 205) (fun (s : List Smp × Int) => [(6, .c (.lst 3 (s.1.map encS)))]) (fun (s : List Smp × Int) => H ++ [strO zs s.2]) (fun _ => rfl) (by kernel_rfl) (by first | (simp; done) | omega) (by first | (simp; done) | (simp; omega) | omega) kl ?_ (fun s hs _ _ => ?_)
  · refine SWp.of (by kernel_rfl) ?_
    simp (disch := first | omega | (simp only [go_sem]; first | done | omega)) only [go_sem]
    refine flip_a H.length zs j4 30 (st _ _ (by omega) (by omega)) (by omega) (by omega) (fun bb => ?_)
    simp (disch := first | omega | (simp only [go_sem]; first | done | omega)) only [go_sem]
    refine acond_b (fun c => ?_) (fun c => ?_)
    · simp (disch := first | omega | (simp only [go_sem]; first | done | omega)) only [go_sem]
      refine manySamples_a H.length zs (j4 + 1) (st _ _ (by omega) (by omega)) (by omega) (fun a2 j5 g4 g5 g6 => ?_)
      simp (disch := first | omega | (simp only [go_sem]; first | done | omega)) only [go_sem]
      refine Next.mk (a2, j5) g6 ?_
      exact wk
    · simp (disch := first | omega | (simp only [go_sem]; first | done | omega)) only [go_sem]
      refine Next.mk (a0, j4 + 1) u4 ?_
      exact wk
  obtain ⟨a, j⟩ := s
  dsimp only at hs ⊢
  clear u4 v2 v3
  have hR1 : (recR b).1.length ≤ 1000000 := by
    unfold recR
    split
    · simp
    · dsimp only; rw [List.length_take]; omega
  have hS1 : (salR b).1.length ≤ 1000000 := by
    unfold salR
    split
    · simp
    · dsimp only
      have := sal_le b
      omega
  have hC1 : (cpcR b).1.length ≤ 1000000 := by
    unfold cpcR
    split
    · simp
    · split
      · simp
      · split
        · simp
        · dsimp only; omega
  (refine SWp.go (by kernel_rfl) ?_; simp (disch := first | omega | (simp only [go_sem]; first | done | omega)) only [go_sem])
  refine recoverB_a b (by omega) ?_
  simp (disch := first | omega | (simp only [go_sem]; first | done | omega)) only [go_sem]
  (refine SWp.go (by kernel_rfl) ?_; simp (disch := first | omega | (simp only [go_sem]; first | done | omega)) only [go_sem])
  refine salvageB_a b (by omega) ?_
  simp (disch := first | omega | (simp only [go_sem]; first | done | omega)) only [go_sem]
  (refine SWp.go (by kernel_rfl) ?_; simp (disch := first | omega | (simp only [go_sem]; first | done | omega)) only [go_sem])
  refine compact_a b (by omega) ?_
  simp (disch := first | omega | (simp only [go_sem]; first | done | omega)) only [go_sem]
  (refine SWp.go (by kernel_rfl) ?_; simp (disch := first | omega | (simp only [go_sem]; first | done | omega)) only [go_sem])
  refine size_b tag a (by omega) (by omega) (fun m hm => ?_)
  simp (disch := first | omega | (simp only [go_sem]; first | done | omega)) only [go_sem]
  (refine SWp.go (by kernel_rfl) ?_; simp (disch := first | omega | (simp only [go_sem]; first | done | omega)) only [go_sem])
  refine recoverOf_a b (by omega) ?_
  simp (disch := first | omega | (simp only [go_sem]; first | done | omega)) only [go_sem]
  (refine SWp.go (by kernel_rfl) ?_; simp (disch := first | omega | (simp only [go_sem]; first | done | omega)) only [go_sem])
  refine salvageOf_a b (by omega) ?_
  simp (disch := first | omega | (simp only [go_sem]; first | done | omega)) only [go_sem]
  (refine SWp.go (by kernel_rfl) ?_; simp (disch := first | omega | (simp only [go_sem]; first | done | omega)) only [go_sem])
  refine compactOf_a b (by omega) ?_
  simp (disch := first | omega | (simp only [go_sem]; first | done | omega)) only [go_sem]
  (refine SWp.go (by kernel_rfl) ?_; simp (disch := first | omega | (simp only [go_sem]; first | done | omega)) only [go_sem])
  refine sizeOf_b tag a (by omega) (by omega) (fun m' hm' => ?_)
  obtain rfl := hm.one hm'
  clear hm hm'
  generalize recR b = R at *
  generalize salR b = S at *
  generalize cpcR b = C at *
  generalize sizE tag a = e at *
  simp (disch := first | omega | (simp only [go_sem]; first | done | omega)) only [go_sem]
  refine SWp.of (by kernel_rfl) ?_
  simp (disch := first | omega | (simp only [go_sem]; first | done | omega)) only [go_sem]
  refine bytesEq_a R.1 R.1 (by omega) (by omega) ?_
  rw [decide_eq_true (rfl : R.1 = R.1)]
  simp (disch := first | omega | (simp only [go_sem]; first | done | omega)) only [go_sem]
  refine bytesEq_a S.1 S.1 (by omega) (by omega) ?_
  rw [decide_eq_true (rfl : S.1 = S.1)]
  simp (disch := first | omega | (simp only [go_sem]; first | done | omega)) only [go_sem]
  refine bytesEq_a C.1 C.1 (by omega) (by omega) ?_
  rw [decide_eq_true (rfl : C.1 = C.1)]
  simp (disch := first | omega | (simp only [go_sem]; first | done | omega)) only [go_sem]
  refine archived_a ?_
  simp (disch := first | omega | (simp only [go_sem]; first | done | omega)) only [go_sem]
  exact Ret.drop hH (Nat.le_refl _) trivial hk
end Go.Proofs.YtnodfnjmhcjnfaaGreat
