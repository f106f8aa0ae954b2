/- A compacted file answers each query as before. No program in sight. -/
import Derived.Test.YtnodfnjmhcjnfaaGreatDoorHVKeepM
namespace Go.Proofs.YtnodfnjmhcjnfaaGreatDoor
open Go Go.RowKit
set_option maxRecDepth 100000
set_option linter.all false
set_option maxHeartbeats 2000000
theorem tagF_lt (ps : List Pc) : (tagF ps).Pairwise (fun a b => leBy a b ∧ a ≠ b) := cplF_lt leBy_anti (srtS_sorted _)
theorem tagF_nd (ps : List Pc) : (tagF ps).Nodup := (tagF_lt ps).imp fun h => h.2
theorem tagF_iff {ps : List Pc} {t : ByteArray} : t ∈ tagF ps ↔ t ∈ ps.map fun x => x.b.tag := by
  unfold tagF
  rw [cplF_mem, srtS_mem]
theorem tags_one {A B : List ByteArray} (hA : A.Pairwise (fun a b => leBy a b ∧ a ≠ b)) (hB : B.Pairwise (fun a b => leBy a b ∧ a ≠ b)) (h : ∀ x, x ∈ A ↔ x ∈ B) : A = B := by
  refine List.Perm.eq_of_pairwise (le := fun a b => leBy a b ∧ a ≠ b) (fun a b _ _ h1 h2 => leBy_anti a b h1.1 h2.1) hA hB ?_
  exact (List.perm_ext_iff_of_nodup (hA.imp fun h => h.2) (hB.imp fun h => h.2)).2 h
def QOk (Q : ByteArray → List Smp) (ts : List ByteArray) : Prop := ∀ t ∈ ts, isKey t ∧ serF (Q t) = 0 ∧ 1 ≤ (Q t).length
def blkT (Q : ByteArray → List Smp) (t : ByteArray) : List UInt8 := chB t (Q t) false (List.range (nch (Q t)))
def outT (Q : ByteArray → List Smp) (ts : List ByteArray) : List UInt8 := ts.flatMap (blkT Q)
def cpP (Q : ByteArray → List Smp) : Nat → List ByteArray → List Pc
  | _, [] => []
  | p, t :: ts => pcs t (Q t) false p (List.range (nch (Q t))) ++ cpP Q (p + (blkT Q t).length) ts
theorem pcs_over (tag : ByteArray) (l : List Smp) (o : Bool) : ∀ (ks : List Nat) (p : Nat), ∀ x ∈ pcs tag l o p ks, x.b.over = o
  | [], _, x, h => by cases h
  | k :: ks, p, x, h => by
    simp only [pcs, List.mem_cons] at h
    rcases h with rfl | h
    · rfl
    · exact pcs_over tag l o ks _ x h
theorem cpP_over (Q : ByteArray → List Smp) : ∀ (ts : List ByteArray) (p : Nat), ∀ x ∈ cpP Q p ts, x.b.over = false
  | [], _, x, h => by cases h
  | t :: ts, p, x, h => by
    rcases List.mem_append.1 h with h | h
    · exact pcs_over _ _ _ _ _ x h
    · exact cpP_over Q ts _ x h
theorem cpP_tag (Q : ByteArray → List Smp) : ∀ (ts : List ByteArray) (p : Nat), ∀ x ∈ cpP Q p ts, x.b.tag ∈ ts
  | [], _, x, h => by cases h
  | t :: ts, p, x, h => by
    rcases List.mem_append.1 h with h | h
    · rw [pcs_tag _ _ _ _ _ x h]; exact List.mem_cons_self
    · exact List.mem_cons_of_mem _ (cpP_tag Q ts _ x h)
theorem cpP_has (Q : ByteArray → List Smp) : ∀ (ts : List ByteArray) (p : Nat), (∀ t ∈ ts, 1 ≤ (Q t).length) → ∀ t ∈ ts, ∃ x ∈ cpP Q p ts, x.b.tag = t
  | [], _, _, t, h => by cases h
  | t :: ts, p, hq, u, h => by
    rcases List.mem_cons.1 h with rfl | h
    · have h1 := hq u (by simp)
      obtain ⟨n, hn⟩ : ∃ n, nch (Q u) = n + 1 := ⟨nch (Q u) - 1, by unfold nch; omega⟩
      refine ⟨⟨blkOf p u (parts 100 (Q u) 0) false, parts 100 (Q u) 0⟩, ?_, rfl⟩
      unfold cpP
      rw [hn, List.range_succ_eq_map]
      simp [pcs]
    · obtain ⟨x, hx, e⟩ := cpP_has Q ts (p + (blkT Q t).length) (fun v hv => hq v (by simp [hv])) u h
      exact ⟨x, List.mem_append_right _ hx, e⟩
theorem cpP_tags {Q : ByteArray → List Smp} {ts : List ByteArray} (hs : ts.Pairwise (fun a b => leBy a b ∧ a ≠ b)) (hq : ∀ t ∈ ts, 1 ≤ (Q t).length) (p : Nat) : tagF (cpP Q p ts) = ts := by
  refine tags_one (tagF_lt _) hs (fun t => ?_)
  rw [tagF_iff]
  constructor
  · intro h
    obtain ⟨x, hx, rfl⟩ := List.mem_map.1 h
    exact cpP_tag Q ts p x hx
  · intro h
    obtain ⟨x, hx, e⟩ := cpP_has Q ts p hq t h
    exact List.mem_map.2 ⟨x, hx, e⟩
theorem lastO_no {ps : List Pc} {t : ByteArray} (h : ∀ x ∈ ps, x.b.tag ≠ t) : lastO ps t = -1 := by
  unfold lastO
  have : ∀ (ps : List Pc) (a : Int), (∀ x ∈ ps, x.b.tag ≠ t) → ps.foldl (fun a x => if x.b.tag = t ∧ x.b.over = false then x.b.last else a) a = a := by
    intro ps
    induction ps with
    | nil => intro a _; rfl
    | cons x r ih =>
      intro a h
      rw [List.foldl_cons, if_neg (fun e => h x (by simp) e.1)]
      exact ih a (fun y hy => h y (by simp [hy]))
  exact this ps (-1) h
theorem ser_mom {l : List Smp} (h : serF l = 0) : ∀ y ∈ l, (0 : Int) ≤ y.t ∧ y.t < 345686400000 := fun y hy => by
  have := ((serP_iff l).1 h).2.1 y hy
  unfold smpErr at this
  split at this <;> omega
theorem parG_out {Q : ByteArray → List Smp} : ∀ (ts : List ByteArray) (pre : List UInt8) (acc : List Pc), ts.Nodup → QOk Q ts → (∀ t ∈ ts, ∀ x ∈ acc, x.b.tag ≠ t) → (pre ++ outT Q ts).length ≤ 200000 →
    parG (pre ++ outT Q ts) pre.length acc = (acc ++ cpP Q pre.length ts, (pre ++ outT Q ts).length, 0)
  | [], pre, acc, _, _, _, _ => by simp [outT, cpP, parG_end]
  | t :: ts, pre, acc, hn, hq, ha, hl => by
    have hn2 := List.nodup_cons.1 hn
    obtain ⟨q1, q2, q3⟩ := hq t (by simp)
    have e : outT Q (t :: ts) = blkT Q t ++ outT Q ts := by simp [outT]
    rw [e] at hl ⊢
    have h1 := parG_chunks t (Q t) false q1 q2 (outT Q ts) (nch (Q t)) 0 pre acc (nch_last _) (fun _ x hx => by
      rw [lastO_no (ha t (by simp))]
      have := ser_mom q2 x (List.mem_of_mem_drop hx)
      omega) (by rw [← List.range_eq_range']; exact hl)
    rw [← List.range_eq_range'] at h1
    rw [show chB t (Q t) false (List.range (nch (Q t))) = blkT Q t from rfl] at h1
    rw [h1]
    have h2 := parG_out ts (pre ++ blkT Q t) (acc ++ pcs t (Q t) false pre.length (List.range (nch (Q t)))) hn2.2 (fun u hu => hq u (by simp [hu])) (fun u hu x hx => by
      rcases List.mem_append.1 hx with hx | hx
      · exact ha u (by simp [hu]) x hx
      · rw [pcs_tag _ _ _ _ _ x hx]
        rintro rfl
        exact hn2.1 hu) (by rw [List.append_assoc]; exact hl)
    have e2 : (pre ++ blkT Q t).length = pre.length + (blkT Q t).length := List.length_append
    rw [List.append_assoc, e2] at h2
    rw [h2, cpP, List.append_assoc]
theorem par_out {Q : ByteArray → List Smp} {ts : List ByteArray} (hn : ts.Nodup) (hq : QOk Q ts) (hl : (outT Q ts).length ≤ 200000) : par (outT Q ts) = (cpP Q 0 ts, (outT Q ts).length, 0) := by
  have := parG_out ts [] [] hn hq (fun t _ x hx => by cases hx) (by simpa using hl)
  rw [par_G hl]
  simpa using this
open Classical in
theorem cpP_flat {Q : ByteArray → List Smp} {t : ByteArray} {a b : Int} : ∀ (ts : List ByteArray) (p : Nat), ts.Nodup → (cpP Q p ts).flatMap (flatQ t a b) = if t ∈ ts then (Q t).filter (fun y => decide (a ≤ y.t ∧ y.t < b)) else []
  | [], _, _ => by rw [if_neg (by simp)]; rfl
  | u :: ts, p, hn => by
    have hn2 := List.nodup_cons.1 hn
    rw [cpP, List.flatMap_append, cpP_flat ts _ hn2.2]
    by_cases h : u = t
    · subst h
      rw [if_neg hn2.1, if_pos (by simp), List.append_nil]
      have : ∀ (ps : List Pc), (∀ x ∈ ps, x.b.tag = u) → ps.flatMap (flatQ u a b) = (ps.flatMap (fun x => x.ss)).filter (fun y => decide (a ≤ y.t ∧ y.t < b)) := by
        intro ps
        induction ps with
        | nil => intro _; rfl
        | cons x r ih =>
          intro hx
          rw [List.flatMap_cons, List.flatMap_cons, List.filter_append, ih (fun y hy => hx y (by simp [hy]))]
          congr 1
          unfold flatQ
          rw [if_pos (hx x (by simp))]
      rw [this _ (fun x hx => pcs_tag _ _ _ _ _ x hx), pcs_flat, nch_flat]
    · rw [flat_other (fun x hx => pcs_tag _ _ _ _ _ x hx) h, List.nil_append]
      by_cases h2 : t ∈ ts
      · rw [if_pos h2, if_pos (by simp [h2])]
      · rw [if_neg h2, if_neg (by simp [h2, Ne.symm h])]
/-! ### queries of all samples -/
theorem serM_ris {X : List Smp} : risS (serM (pfS X)) := by
  have h : ((serM (pfS X)).map (·.t)).Pairwise (fun a b => a < b) := by rw [serM_t]; exact srtI_lt (pfS_nd X)
  exact List.pairwise_map.1 h
theorem ris_nd {l : List Smp} (h : risS l) : (l.map (·.t)).Nodup := List.pairwise_map.2 (h.imp fun h e => by omega)
theorem ser_idem {X : List Smp} (h : risS X) : serM (pfS X) = X := by
  refine (sorted_ser (List.Perm.refl X) (h.imp fun h => by omega) (ris_nd h) (pfS_nd X) (fun t => ?_)).symm
  rw [pfS_fnd, fnd_rev (ris_nd h)]
theorem fnd_filtN {l : List Smp} {p : Int → Bool} (t : Int) (hp : p t = false) : fnd t (l.filter fun y => p y.t) = none := by
  refine fnd_none (fun h => ?_)
  obtain ⟨y, hy, e⟩ := List.mem_map.1 h
  have := (List.mem_filter.1 hy).2
  rw [e, hp] at this
  cases this
theorem flatQ_in {t : ByteArray} {a b : Int} (h1 : 0 ≤ a) (h2 : b ≤ 345686400000) (x : Pc) : flatQ t a b x = (flatQ t 0 345686400000 x).filter (fun y => decide (a ≤ y.t ∧ y.t < b)) := by
  unfold flatQ
  split
  · rw [List.filter_filter]
    congr 1
    funext y
    rw [Bool.eq_iff_iff]
    simp
    omega
  · rfl
theorem qry_in (ps : List Pc) (t : ByteArray) {a b : Int} (h1 : 0 ≤ a) (h2 : b ≤ 345686400000) : qryF ps t a b = (allQ ps t).filter (fun y => decide (a ≤ y.t ∧ y.t < b)) := by
  have e : ps.flatMap (flatQ t a b) = (ps.flatMap (flatQ t 0 345686400000)).filter (fun y => decide (a ≤ y.t ∧ y.t < b)) := by
    induction ps with
    | nil => rfl
    | cons x r ih => rw [List.flatMap_cons, List.flatMap_cons, List.filter_append, ih, flatQ_in h1 h2]
  unfold allQ qryF
  rw [e]
  generalize ps.flatMap (flatQ t 0 345686400000) = X
  have hr : risS ((serM (pfS X)).filter (fun y => decide (a ≤ y.t ∧ y.t < b))) := serM_ris.sublist List.filter_sublist
  refine (sorted_ser (List.Perm.refl _) (hr.imp fun h => by omega) (ris_nd hr) (pfS_nd _) (fun u => ?_)).symm
  by_cases hu : a ≤ u ∧ u < b
  · rw [fnd_filt (p := fun z => decide (a ≤ z ∧ z < b)) u (by simpa using hu), fnd_ser (pfS_nd X), pfS_fnd, pfS_fnd, ← List.filter_reverse, fnd_filt (p := fun z => decide (a ≤ z ∧ z < b)) u (by simpa using hu)]
  · rw [fnd_filtN (p := fun z => decide (a ≤ z ∧ z < b)) u (by simpa using hu), pfS_fnd, ← List.filter_reverse, fnd_filtN (p := fun z => decide (a ≤ z ∧ z < b)) u (by simpa using hu)]
theorem allQ_no {ps : List Pc} {t : ByteArray} (h : t ∉ tagF ps) : allQ ps t = [] := by
  have e : ps.flatMap (flatQ t 0 345686400000) = [] := by
    refine List.flatMap_eq_nil_iff.2 (fun x hx => ?_)
    unfold flatQ
    rw [if_neg (fun e => h (tagF_iff.2 (List.mem_map.2 ⟨x, hx, e⟩)))]
  unfold allQ qryF
  rw [e]
  exact ser_idem (X := []) List.Pairwise.nil
theorem allQ_few (ps : List Pc) (t : ByteArray) : (allQ ps t).length ≤ (ps.flatMap (flatQ t 0 345686400000)).length := by
  unfold allQ qryF
  rw [serM_len]
  have h1 := puts_len (ps.flatMap (flatQ t 0 345686400000)) []
  simpa [pfS] using h1
theorem all_few : ∀ (ps : List Pc) (ts : List ByteArray), ts.Nodup → (ts.flatMap fun t => ps.flatMap (flatQ t 0 345686400000)).length ≤ ssL ps := by
  have one : ∀ (x : Pc) (ts : List ByteArray), ts.Nodup → (ts.map fun t => (flatQ t 0 345686400000 x).length).sum ≤ x.ss.length := by
    intro x ts
    induction ts with
    | nil => intro _; simp
    | cons t r ih =>
      intro hn
      have hn2 := List.nodup_cons.1 hn
      rw [List.map_cons, List.sum_cons]
      by_cases h : x.b.tag = t
      · have h0 : (r.map fun t => (flatQ t 0 345686400000 x).length).sum = 0 := by
          have key : ∀ r : List ByteArray, t ∉ r → (r.map fun t => (flatQ t 0 345686400000 x).length).sum = 0 := by
            intro r
            induction r with
            | nil => intro _; rfl
            | cons u r ih =>
              intro hu
              rw [List.map_cons, List.sum_cons, ih (fun h => hu (List.mem_cons_of_mem _ h))]
              unfold flatQ
              rw [if_neg (fun e => hu (by rw [← h, e]; exact List.mem_cons_self))]
              rfl
          exact key r hn2.1
        have := (flatQ_sub (tag := t) (a := 0) (b := 345686400000) (x := x)).length_le
        omega
      · have h0 : (flatQ t 0 345686400000 x).length = 0 := by unfold flatQ; rw [if_neg h]; rfl
        have := ih hn2.2
        omega
  intro ps
  induction ps with
  | nil =>
    intro ts _
    have e : (ts.flatMap fun t => ([] : List Pc).flatMap (flatQ t 0 345686400000)) = [] := List.flatMap_eq_nil_iff.2 (fun _ _ => rfl)
    rw [e]
    exact Nat.zero_le _
  | cons x r ih =>
    intro ts hn
    have h1 := ih ts hn
    have h2 := one x ts hn
    have e : (ts.flatMap fun t => (x :: r).flatMap (flatQ t 0 345686400000)).length = (ts.map fun t => (flatQ t 0 345686400000 x).length).sum + (ts.flatMap fun t => r.flatMap (flatQ t 0 345686400000)).length := by
      clear h1 h2 hn ih
      induction ts with
      | nil => rfl
      | cons t s ih =>
        simp only [List.flatMap_cons, List.length_append, List.map_cons, List.sum_cons] at ih ⊢
        omega
    rw [e]
    unfold ssL at h1 ⊢
    rw [List.flatMap_cons, List.length_append]
    omega
theorem allQ_pos {ps : List Pc} (hg : ∀ x ∈ ps, serF x.ss = 0 ∧ isKey x.b.tag ∧ 1 ≤ x.ss.length) {t : ByteArray} (h : t ∈ tagF ps) : 1 ≤ (allQ ps t).length := by
  obtain ⟨x, hx, rfl⟩ := List.mem_map.1 (tagF_iff.1 h)
  obtain ⟨g1, g2, g3⟩ := hg x hx
  obtain ⟨y, hy⟩ : ∃ y, y ∈ x.ss := by
    cases hs : x.ss with
    | nil => rw [hs] at g3; simp at g3
    | cons y _ => exact ⟨y, by simp⟩
  have hm : y ∈ ps.flatMap (flatQ x.b.tag 0 345686400000) := by
    refine List.mem_flatMap.2 ⟨x, hx, ?_⟩
    unfold flatQ
    rw [if_pos rfl]
    exact List.mem_filter.2 ⟨hy, decide_eq_true (ser_mom g1 y hy)⟩
  cases hf : fnd y.t (allQ ps x.b.tag) with
  | some z => exact List.length_pos_of_mem (fnd_some hf).1
  | none =>
    exfalso
    unfold allQ qryF at hf
    rw [fnd_ser (pfS_nd _), pfS_fnd] at hf
    unfold fnd at hf
    have := List.find?_eq_none.1 hf y (List.mem_reverse.2 hm)
    simp at this
theorem allQ_ser {ps : List Pc} (hg : ∀ x ∈ ps, serF x.ss = 0 ∧ isKey x.b.tag ∧ 1 ≤ x.ss.length) {t : ByteArray} (h5 : (allQ ps t).length ≤ 5000) : serF (allQ ps t) = 0 := by
  refine (serP_iff _).2 ⟨h5, fun y hy => ?_, serM_ris⟩
  obtain ⟨x, hx, hq⟩ := qryF_mem hy
  exact ((serP_iff _).1 (hg x hx).1).2.1 y (flatQ_sub.subset hq)
theorem cpcF_all {ps : List Pc} : ∀ (ts : List ByteArray) (out : List UInt8), (∀ t ∈ ts, (allQ ps t).length ≤ 5000) → cpcF ps ts out = some (out ++ outT (allQ ps) ts)
  | [], out, _ => by simp [cpcF, outT]
  | t :: ts, out, h => by
    have := h t (by simp)
    rw [cpcF, if_neg (by omega), cpcF_all ts _ (fun u hu => h u (by simp [hu]))]
    simp [outT, blkT]
theorem blkT_len {Q : ByteArray → List Smp} {t : ByteArray} (hk : isKey t) (hs : serF (Q t) = 0) : (blkT Q t).length ≤ 80 * (Q t).length := by
  have hm := serF_sml hs
  have key : ∀ ks : List Nat, (∀ k ∈ ks, k * 100 < (Q t).length) → (chB t (Q t) false ks).length ≤ 80 * (ks.flatMap (parts 100 (Q t))).length := by
    intro ks
    induction ks with
    | nil => intro _; simp [chB]
    | cons k ks ih =>
      intro h
      have h1 := ih (fun k hk => h k (by simp [hk]))
      obtain ⟨p1, p2⟩ := parts_pos (h k (by simp))
      have h2 := headB_40 t (parts 100 (Q t) k).length false hk.2.1 (by omega)
      have h3 := smpsB_len (parts 100 (Q t) k) ⟨0, 0, 0⟩ (by simp [smlS]) (fun s hs => hm s ((parts_sub _ _).mem hs))
      simp only [chB, List.flatMap_cons, List.length_append, blockB, bodyB, List.length_cons, List.length_nil] at h1 ⊢
      omega
  have := key (List.range (nch (Q t))) (fun k hk => by
    have := List.mem_range.1 hk
    unfold nch at this
    omega)
  rw [nch_flat] at this
  exact this
theorem outT_len {Q : ByteArray → List Smp} : ∀ (ts : List ByteArray), QOk Q ts → (outT Q ts).length ≤ 80 * (ts.flatMap Q).length
  | [], _ => by simp [outT]
  | t :: ts, h => by
    have h1 := outT_len ts (fun u hu => h u (by simp [hu]))
    have h2 := h t (by simp)
    have h3 := blkT_len h2.1 h2.2.1
    simp only [outT, List.flatMap_cons, List.length_append] at h1 ⊢
    omega
theorem flatT_le {f g : ByteArray → List Smp} (h : ∀ t, (f t).length ≤ (g t).length) : ∀ ts : List ByteArray, (ts.flatMap f).length ≤ (ts.flatMap g).length
  | [] => by simp
  | t :: ts => by
    have := flatT_le h ts
    have := h t
    simp only [List.flatMap_cons, List.length_append]
    omega
theorem compact_good {k : Nat} {f : List UInt8} (h : FGood k f) (hk : k ≤ 6) : ∃ c, cpcR f = (c, 0) ∧ cpcR c = (c, 0) ∧ (par c).2.2 = 0 ∧ c.length ≤ 100000 ∧ (par c).1.length ≤ 100000 ∧ (∀ x ∈ (par c).1, x.b.over = false) ∧ (∀ t, (allQ (par c).1 t).length ≤ 2000) ∧
    ∀ t a b, 0 ≤ a → b ≤ 345686400000 → qryF (par c).1 t a b = qryF (par f).1 t a b := by
  obtain ⟨h1, h2, h3⟩ := h
  obtain ⟨g1, g2, g3, hg⟩ := par_good h1
  generalize hps : (par f).1 = ps at *
  have hQ5 : ∀ t, (allQ ps t).length ≤ 205 * k := fun t => by
    have e1 := allQ_few ps t
    have e2 := flatm_len (flatQ t 0 345686400000) (fun x : Pc => x.ss) (fun x => flatQ_sub) ps
    unfold ssL at h3
    omega
  have hnd := tagF_nd ps
  have hq : QOk (allQ ps) (tagF ps) := fun t ht => by
    obtain ⟨x, hx, e⟩ := tagF_mem ht
    exact ⟨e ▸ (hg x hx).2.1, allQ_ser hg (by have := hQ5 t; omega), allQ_pos hg ht⟩
  have hl : (outT (allQ ps) (tagF ps)).length ≤ 100000 := by
    have e1 := outT_len (tagF ps) hq
    have e2 := flatT_le (allQ_few ps) (tagF ps)
    have e3 := all_few ps (tagF ps) hnd
    omega
  have hp := par_out hnd hq (by omega)
  have hall : ∀ t, allQ (cpP (allQ ps) 0 (tagF ps)) t = allQ ps t := by
    intro t
    by_cases ht : t ∈ tagF ps
    · have : allQ (cpP (allQ ps) 0 (tagF ps)) t = serM (pfS ((cpP (allQ ps) 0 (tagF ps)).flatMap (flatQ t 0 345686400000))) := rfl
      rw [this, cpP_flat _ _ hnd, if_pos ht, List.filter_eq_self.2 (fun y hy => decide_eq_true (ser_mom (hq t ht).2.1 y hy))]
      exact ser_idem serM_ris
    · rw [allQ_no ht]
      refine allQ_no (fun h => ?_)
      obtain ⟨x, hx, e⟩ := List.mem_map.1 (tagF_iff.1 h)
      exact ht (e ▸ cpP_tag _ _ _ x hx)
  have htg : tagF (cpP (allQ ps) 0 (tagF ps)) = tagF ps := cpP_tags (tagF_lt ps) (fun t ht => (hq t ht).2.2) 0
  refine ⟨outT (allQ ps) (tagF ps), ?_, ?_, by rw [hp], hl, ?_, ?_, ?_, ?_⟩
  · unfold cpcR
    rw [if_neg (by simpa using h1), hps, cpcF_all _ _ (fun t _ => by have := hQ5 t; omega)]
    dsimp only
    rw [List.nil_append, if_neg (by omega)]
  · unfold cpcR
    rw [hp]
    dsimp only
    rw [if_neg (by simp), htg, cpcF_all _ _ (fun t _ => by rw [hall]; have := hQ5 t; omega)]
    dsimp only
    rw [List.nil_append, show outT (allQ (cpP (allQ ps) 0 (tagF ps))) (tagF ps) = outT (allQ ps) (tagF ps) by rw [show allQ (cpP (allQ ps) 0 (tagF ps)) = allQ ps from funext hall], if_neg (by omega)]
  · have := par_len (outT (allQ ps) (tagF ps))
    omega
  · rw [hp]
    exact cpP_over _ _ _
  · intro t
    rw [hp]
    dsimp only
    rw [hall]
    have := hQ5 t
    omega
  · intro t a b ha hb
    rw [hp]
    dsimp only
    rw [qry_in _ _ ha hb, qry_in _ _ ha hb, hall]
end Go.Proofs.YtnodfnjmhcjnfaaGreatDoor
