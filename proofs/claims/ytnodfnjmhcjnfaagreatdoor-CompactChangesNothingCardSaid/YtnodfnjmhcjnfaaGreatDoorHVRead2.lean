/- The samples of a block, read: the program's reader. Condition: the bytes fit. -/
import Derived.Test.YtnodfnjmhcjnfaaGreatDoorHVEncTop
namespace Go.Proofs.YtnodfnjmhcjnfaaGreatDoor
open Go Go.RowKit
set_option maxRecDepth 100000
set_option linter.all false
set_option maxHeartbeats 1000000
variable {H : Hp} {K : AV → Hp → Prop}
def smps (l : List UInt8) : Nat → Nat → Smp → Option (List Smp × Nat)
  | 0, p, _ => some ([], p)
  | k + 1, p, s => match uvR l p with
    | none => none
    | some (a, p1) => match uvR l p1 with
      | none => none
      | some (v, p2) => match uvR l p2 with
        | none => none
        | some (q, p3) => (smps l k p3 ⟨s.t + a, s.v + v, q⟩).map fun r => (⟨s.t + a, s.v + v, q⟩ :: r.1, r.2)
theorem okN_rdc (ty : Nat) (l : List UInt8) (p : Int) (b : Bool) (n : Nat) : (rdc ty l p b).okN n := by
  intro e he
  simp only [List.mem_singleton] at he
  subst he
  refine ⟨rfl, ?_⟩
  intro x hx
  simp only [List.mem_cons, List.not_mem_nil, or_false] at hx
  rcases hx with rfl | rfl | rfl <;> trivial
theorem samplesB_a {c : Nat} (l : List UInt8) (p many : Int) (hc : H[c]? = some (rdc 350 l p true)) (hk : K (.c (.lst 3 [])) H) : ACalls Tryz.prog 289 [.c (.ptr (some (c, 0, 0))), (.c (.int .i64 many))] H K := by
  have lc := getElem?_lt hc
  have ap : ∀ G : Hp, (H ++ G)[c]? = some (rdc 350 l p true) := fun G => by rw [List.getElem?_append_left lc]; exact hc
  refine acalls Tryz.func289 rfl (by kernel_rfl) (by simp (disch := first | omega | (simp only [go_sem]; first | done | omega)) only [go_sem]) (fun hH => ?_)
  simp (disch := first | omega | (simp only [go_sem]; first | done | omega)) only [go_sem]
  refine AWp.rounds 1 (by kernel_rfl) ?_
  by_cases h : 0 < many
  · simp (disch := first | omega | (simp only [go_sem]; first | done | omega)) only [go_sem, h]
    refine numberB_a l p (ap _) ?_
    simp (disch := first | omega | (simp only [go_sem]; first | done | omega)) only [go_sem]
    refine numberB_a l p (ap _) ?_
    simp (disch := first | omega | (simp only [go_sem]; first | done | omega)) only [go_sem]
    refine numberB_a l p (ap _) ?_
    have ap2 := ap [.row 38 3 [[.int .i64 0, .int .i64 0, .int .i64 0]] true, .row 38 3 [[.int .i64 0, .int .i64 0, .int .i64 0]] true]
    simp only [rdc] at ap2
    simp (disch := first | omega | (simp only [go_sem]; first | done | omega)) only [go_sem, hc, ap2]
    exact Ret.nil [3] (by simp) (Ret.drop hH (Nat.le_refl _) (by simp [AV.nilz, AC.nilz, AV.ok, AV.ok1, AC.ok]) hk)
  · simp (disch := first | omega | (simp only [go_sem]; first | done | omega)) only [go_sem, h]
    exact Ret.nil [3] (by simp) (Ret.drop hH (Nat.le_refl _) (by simp [AV.nilz, AC.nilz, AV.ok, AV.ok1, AC.ok]) hk)
theorem uvR_len {l : List UInt8} {p x : Nat} {n : Int} (h : uvR l p = some (n, x)) (hp : p ≤ l.length) : x ≤ l.length := (unvarint_le h).2.1 hp
theorem samplesG_a {c : Nat} (l : List UInt8) (p0 many : Nat) (hc : H[c]? = some (rdc 350 l p0 false)) (hp : p0 ≤ l.length) (hl : l.length ≤ 1099511627776) (hm : many ≤ 100)
    (hk1 : ∀ ss x, smps l many p0 ⟨0, 0, 0⟩ = some (ss, x) → K (.c (.lst 3 (ss.map encS))) (H.set c (rdc 350 l x false))) (hk0 : smps l many p0 ⟨0, 0, 0⟩ = none → ∀ x : Int, K (.c (.lst 3 [])) (H.set c (rdc 350 l x true))) : ACalls Tryz.prog 289 [.c (.ptr (some (c, 0, 0))), (.c (.int .i64 many))] H K := by
  have lc := getElem?_lt hc
  have ap : ∀ (o : AObj) (G : Hp), (H.set c o ++ G)[c]? = some o := fun o G => by rw [List.getElem?_append_left (by simpa using lc)]; exact List.getElem?_set_self lc
  refine acalls Tryz.func289 rfl (by kernel_rfl) (by simp (disch := first | omega | (simp only [go_sem]; first | done | omega)) only [go_sem]) (fun hH => ?_)
  simp (disch := first | omega | (simp only [go_sem]; first | done | omega)) only [go_sem]
  refine AWp.loop (H.length + 1) [0, 6, 12] [5, 13] (fun (s : Nat × Nat × Smp × List Smp) => s.1 ≤ many ∧ s.2.1 ≤ l.length ∧ (-1000000000000 * (s.1 : Int) ≤ s.2.2.1.t ∧ s.2.2.1.t ≤ 1000000000000 * (s.1 : Int)) ∧ (-1000000000000 * (s.1 : Int) ≤ s.2.2.1.v ∧ s.2.2.1.v ≤ 1000000000000 * (s.1 : Int)) ∧ s.2.2.2.length = s.1 ∧ smps l many p0 ⟨0, 0, 0⟩ = (smps l (many - s.1) s.2.1 s.2.2.1).map fun r => (s.2.2.2 ++ r.1, r.2)) (fun (s : Nat × Nat × Smp × List Smp) => [(5, .c (grV (H.length + 1) s.2.2.2)), (13, (.c (.int .i64 (s.1))))]) (fun (s : Nat × Nat × Smp × List Smp) => H.set c (rdc 350 l s.2.1 false) ++ [.row 38 3 [encS s.2.2.1] true, grO 38 3 (s.2.2.2.map encS)]) (fun (s : Nat × Nat × Smp × List Smp) => many - s.1) (by kernel_rfl) (fun _ => rfl) (by kernel_rfl) (by first | (simp; done) | omega) (by first | (simp; done) | (simp; omega) | omega) kl ?_ (fun s hs _ _ => ?_)
  · refine Next.mk (0, p0, ⟨0, 0, 0⟩, []) ⟨by simp, hp, by simp, by simp, rfl, by simp⟩ ?_
    (try dsimp only)
    rw [set_same hc]
    simp (disch := first | omega | (simp only [go_sem]; first | done | omega)) only [go_sem]
    exact WkL.padP [_] (by simp)
  obtain ⟨k, p, P, acc⟩ := s
  obtain ⟨hk, hp1, ⟨t1, t2⟩, ⟨v1, v2⟩, hacc, hsm⟩ := hs
  dsimp only at hk hp1 t1 t2 v1 v2 hacc hsm
  by_cases hlt : k < many
  · have e0 : (k : Int) < many := by omega
    obtain ⟨j, hj⟩ : ∃ j, many - k = j + 1 := ⟨many - k - 1, by omega⟩
    rw [hj] at hsm
    have hjn : many - (k + 1) = j := by omega
    simp (disch := first | omega | (simp only [go_sem]; first | done | omega)) only [go_sem, e0]
    refine numberG_a l p (ap _ _) hp1 hl (fun a x1 h1 => ?_) (fun h1 a x1 => ?_)
    · have hx1 := uvR_len h1 hp1
      have o1 := (unvarint_le h1).2.2
      simp (disch := first | omega | (simp only [go_sem]; first | done | omega)) only [go_sem]
      refine numberG_a l x1 (ap _ _) hx1 hl (fun v x2 h2 => ?_) (fun h2 v x2 => ?_)
      · have hx2 := uvR_len h2 hx1
        have o2 := (unvarint_le h2).2.2
        simp (disch := first | omega | (simp only [go_sem]; first | done | omega)) only [go_sem]
        refine numberG_a l x2 (ap _ _) hx2 hl (fun q x3 h3 => ?_) (fun h3 q x3 => ?_)
        · have hx3 := uvR_len h3 hx2
          have o3 := (unvarint_le h3).2.2
          obtain ⟨o1, o1'⟩ := o1
          obtain ⟨o2, o2'⟩ := o2
          have hstep : smps l many p0 ⟨0, 0, 0⟩ = (smps l j x3 ⟨P.t + a, P.v + v, q⟩).map fun r => ((acc ++ [(⟨P.t + a, P.v + v, q⟩ : Smp)]) ++ r.1, r.2) := by
            rw [hsm]
            simp only [smps, h1, h2, h3, Option.map_map]
            congr 1
            funext r
            simp
          have ap2 := ap (rdc 350 l x3 false)
          simp only [rdc] at ap2
          simp (disch := first | omega | (simp only [go_sem]; first | done | omega)) only [go_sem, ap2]
          refine app_gr (enc := encS) (e := 38) (sz := 3) (bs := 24) (z := [.int .i64 0, .int .i64 0, .int .i64 0]) acc ⟨P.t + a, P.v + v, q⟩ (by kernel_rfl) (by kernel_rfl) (by kernel_rfl) (by kernel_rfl) (by rw [List.getElem?_append_right (by simp)]; simp) (by rw [List.getElem?_append_right (by simp)]; simp [srcO, encS]) rfl (by decide) (by omega) (by omega) (by rfl) ?_
          have hokA : HOk (H.set c (.row 350 3 [[.lst 1 (l.map encU), .int .i64 x3, .bool false]] true)) := HOk.set hH (okN_rdc _ l x3 false _)
          have hAl : (H.set c (.row 350 3 [[.lst 1 (l.map encU), .int .i64 x3, .bool false]] true)).length = H.length := by simp
          simp (disch := first | omega | (simp only [go_sem]; first | done | omega)) only [go_sem]
          refine Next.mk (k + 1, x3, ⟨P.t + a, P.v + v, q⟩, acc ++ [⟨P.t + a, P.v + v, q⟩]) ⟨⟨by dsimp only; omega, hx3, ⟨by dsimp only; omega, by dsimp only; omega⟩, ⟨by dsimp only; omega, by dsimp only; omega⟩, by simp [hacc], by dsimp only; rw [hjn]; exact hstep⟩, by dsimp only; omega⟩ ?_
          (try dsimp only)
          generalize H.set c (.row 350 3 [[.lst 1 (l.map encU), .int .i64 x3, .bool false]] true) = A at *
          simp (disch := first | omega | (simp only [go_sem]; first | done | omega)) only [go_sem]
          rw [← hAl]
          ((try simp (disch := first | omega | (simp only [go_sem]; first | done | omega)) only [go_sem]); (refine WkL.pickAt [_] [3] ?_ ?_ ?_ rfl ?_ ?_ ?_ ?_) <;> first | (simp only [List.map_cons, List.map_nil, av_ren_gr]; (try simp only [AV.ren, AV.ren1, AC.ren, renP]); (try simp only [pickS_add, pickS_zero]); rfl) | (simp only [List.all_cons, List.all_nil, Bool.and_true, Bool.and_eq_true]; (repeat' apply And.intro) <;> first | exact pureO_gr (pureL_map _ (fun x => by simp [go_sem, AC.pure])) | (simp [AObj.pureO, pureL, go_sem, AC.pure]; done)) | assumption | exact HOk.str (by assumption) | (simp; done) | (simp; omega) | (simp [pureO_gr, AObj.pureO, pureL, go_sem, AC.pure]; done) | (simp only [List.all_cons, List.all_nil, Bool.and_true]; exact pureO_gr (pureL_map _ (fun x => by simp [go_sem, AC.pure]))) | ((try simp only [List.map_cons, List.map_nil, av_ren_gr]); simp [AV.ren, AV.ren1, AC.ren, renP, pickS]; first | done | omega) | (simp only [List.forall_mem_cons, List.not_mem_nil, false_implies, implies_true, and_true]; (repeat' apply And.intro) <;> first | trivial | exact grV_ok (by simp) _ | exact okN_grO (fun x => by simp [go_sem, AC.pure]) | exact okN_map (fun x => by simp [go_sem, AC.pure]) | (simp [AV.ok, AV.ok1, AC.ok]; done) | (simp [AV.ok, AV.ok1, AC.ok]; omega) | (simp [AObj.okN, AC.ok]; done)) | (simp [AObj.okN]; done))
        · have hk := hk0 (by rw [hsm]; simp only [smps, h1, h2, h3]; rfl)
          have ap2 := ap (rdc 350 l x3 true)
          simp only [rdc] at ap2
          have hk := hk x3
          simp (disch := first | omega | (simp only [go_sem]; first | done | omega)) only [go_sem, ap2]
          exact Ret.nil [3] (by simp) (Ret.drop (HOk.set hH (okN_rdc _ l x3 true _)) (by simp) (by simp [AV.nilz, AC.nilz, AV.ok, AV.ok1, AC.ok]) hk)
      · have hk := hk0 (by rw [hsm]; simp only [smps, h1, h2]; rfl)
        have ap2 := ap (rdc 350 l x2 true)
        have hk := hk x2
        simp (disch := first | omega | (simp only [go_sem]; first | done | omega)) only [go_sem]
        refine numberB_a l x2 (ap2 _) ?_
        simp only [rdc] at ap2
        simp (disch := first | omega | (simp only [go_sem]; first | done | omega)) only [go_sem, ap2]
        exact Ret.nil [3] (by simp) (Ret.drop (HOk.set hH (okN_rdc _ l x2 true _)) (by simp) (by simp [AV.nilz, AC.nilz, AV.ok, AV.ok1, AC.ok]) hk)
    · have hk := hk0 (by rw [hsm]; simp only [smps, h1]; rfl)
      have ap2 := ap (rdc 350 l x1 true)
      have hk := hk x1
      simp (disch := first | omega | (simp only [go_sem]; first | done | omega)) only [go_sem]
      refine numberB_a l x1 (ap2 _) ?_
      simp (disch := first | omega | (simp only [go_sem]; first | done | omega)) only [go_sem]
      refine numberB_a l x1 (ap2 _) ?_
      simp only [rdc] at ap2
      simp (disch := first | omega | (simp only [go_sem]; first | done | omega)) only [go_sem, ap2]
      exact Ret.nil [3] (by simp) (Ret.drop (HOk.set hH (okN_rdc _ l x1 true _)) (by simp) (by simp [AV.nilz, AC.nilz, AV.ok, AV.ok1, AC.ok]) hk)
  · have e0 : ¬ (k : Int) < many := by omega
    have hz : many - k = 0 := by omega
    rw [hz] at hsm
    have hk := hk1 acc p (by rw [hsm]; simp [smps])
    simp (disch := first | omega | (simp only [go_sem]; first | done | omega)) only [go_sem, e0]
    refine Ret.frzGr 1 (HOk.set hH (okN_rdc _ l p false _)) (by simp) rfl ?_ ?_ hk
    · exact pureL_map _ (fun x => by simp [go_sem, AC.pure])
    · simp [map_grV]
end Go.Proofs.YtnodfnjmhcjnfaaGreatDoor
