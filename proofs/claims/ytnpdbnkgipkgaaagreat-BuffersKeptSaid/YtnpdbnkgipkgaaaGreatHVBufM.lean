/- What a buffer does: no program in sight. No condition. -/
import Derived.Test.YtnpdbnkgipkgaaaGreatHVGB
namespace Go.Proofs.YtnpdbnkgipkgaaaGreat
open Go Go.RowKit
set_option maxRecDepth 100000
set_option linter.all false
structure Pk where
  n : Int
  tag : ByteArray
  s : Smp
structure Hd where
  p : Pk
  sent : Bool
structure Nd where
  last : Int
  l : List Hd
  ever : List Int
  acked : Int
  out : List Pk
  drp : List Int
  ref : List Int
  why : List Int
  most : Int
structure Stp where
  kind : Int
  count : Int
  seq : Int
  tag : ByteArray
  s : Smp
def nd0 : Nd := ⟨0, [], [], 0, [], [], [], [], 0⟩
/-- every second one is dropped, from a place on -/
def thinG : Nat → Nat → List Hd → List Int → List Hd × List Int
  | 0, _, l, d => (l, d)
  | f + 1, i, l, d => if h : i < l.length then thinG f (i + 1) (l.eraseIdx i) (d ++ [l[i].p.n]) else (l, d)
/-- what a full buffer does with what it has, by its policy -/
def roomF (p : Int) (l : List Hd) (d : List Int) : List Hd × List Int :=
  if p = 1 then (l.eraseIdx 0, d ++ (l.take 1).map (fun x => x.p.n)) else if p = 3 then thinG l.length 1 l d else (l, d)
def putF (c p : Int) (x : Stp) (nd : Nd) : Nd :=
  if 0 < c ∧ (nd.l.length : Int) = c then
    (if p = 2 then { nd with last := nd.last + 1, drp := nd.drp ++ [nd.last + 1] }
    else { nd with last := nd.last + 1, l := (roomF p nd.l nd.drp).1 ++ [⟨⟨nd.last + 1, x.tag, x.s⟩, false⟩], drp := (roomF p nd.l nd.drp).2, most := max nd.most ((roomF p nd.l nd.drp).1.length + 1) })
  else { nd with last := nd.last + 1, l := nd.l ++ [⟨⟨nd.last + 1, x.tag, x.s⟩, false⟩], most := max nd.most (nd.l.length + 1) }
def addE (l : List Int) (n : Int) : List Int := if n ∈ l then l else l ++ [n]
def sendG : Int → List Hd → List Hd × List Pk
  | _, [] => ([], [])
  | c, x :: t => if 0 < c ∧ x.sent = false then (⟨x.p, true⟩ :: (sendG (c - 1) t).1, x.p :: (sendG (c - 1) t).2) else (x :: (sendG c t).1, (sendG c t).2)
def sendF (c : Int) (nd : Nd) : Nd := { nd with l := (sendG c nd.l).1, out := nd.out ++ (sendG c nd.l).2, ever := ((sendG c nd.l).2.map (fun q => q.n)).foldl addE nd.ever }
def ackE (seq : Int) (nd : Nd) : Int := if seq ≠ 0 ∧ ¬ seq ∈ nd.ever then 8 else if seq < nd.acked then 7 else 0
def ackF (k : Nat) (seq : Int) (nd : Nd) : Nd :=
  if ackE seq nd ≠ 0 then { nd with ref := nd.ref ++ [(k : Int)], why := nd.why ++ [ackE seq nd] }
  else { nd with acked := seq, l := nd.l.filter (fun x => decide (seq < x.p.n)) }
def resetF (nd : Nd) : Nd := { nd with l := nd.l.map (fun x => ⟨x.p, false⟩) }
def stepF (c p : Int) (k : Nat) (x : Stp) (nd : Nd) : Nd :=
  if x.kind = 1 then putF c p x nd else if x.kind = 2 then sendF x.count nd else if x.kind = 3 then ackF k x.seq nd else if x.kind = 4 then resetF nd else nd
def playF (c p : Int) (l : List Stp) : Nd := l.zipIdx.foldl (fun nd x => stepF c p x.2 x.1 nd) nd0
theorem play_next (c p : Int) {l : List Stp} {k : Nat} (h : k < l.length) : playF c p (l.take (k + 1)) = stepF c p k l[k] (playF c p (l.take k)) := by
  unfold playF
  rw [List.take_succ_eq_append_getElem h, List.zipIdx_append, List.foldl_append]
  simp [List.length_take, Nat.min_eq_left (Nat.le_of_lt h)]
theorem play_nil (c p : Int) (l : List Stp) : playF c p (l.take 0) = nd0 := rfl
/-! ### what stays -/
def sq (l : List Hd) : List Int := l.map (fun x => x.p.n)
theorem thin_perm : ∀ (f i : Nat) (l : List Hd) (d : List Int), ∃ e, (thinG f i l d).2 = d ++ e ∧ (thinG f i l d).1.Sublist l ∧ (sq (thinG f i l d).1 ++ e).Perm (sq l)
  | 0, _, l, d => ⟨[], by simp [thinG], List.Sublist.refl _, by simp [thinG]⟩
  | f + 1, i, l, d => by
    unfold thinG
    split
    · rename_i h
      obtain ⟨e, h1, h2, h3⟩ := thin_perm f (i + 1) (l.eraseIdx i) (d ++ [l[i].p.n])
      refine ⟨l[i].p.n :: e, by rw [h1]; simp, h2.trans (List.eraseIdx_sublist _ _), ?_⟩
      have h4 : (l[i] :: l.eraseIdx i).Perm l := by
        rw [List.eraseIdx_eq_take_drop_succ]
        have e : l = l.take i ++ l[i] :: l.drop (i + 1) := by rw [List.getElem_cons_drop, List.take_append_drop]
        have h5 := List.perm_middle (l₁ := l.take i) (l₂ := l.drop (i + 1)) (a := l[i])
        rw [← e] at h5
        exact h5.symm
      have h5 : (l[i].p.n :: sq (l.eraseIdx i)).Perm (sq l) := by
        have := h4.map (fun x : Hd => x.p.n)
        simpa [sq] using this
      exact (List.perm_middle).trans ((h3.cons _).trans h5)
    · exact ⟨[], by simp, List.Sublist.refl _, by simp⟩
theorem thin_less (f i : Nat) (l : List Hd) (d : List Int) (h : i < l.length) : (thinG (f + 1) i l d).1.length + 1 ≤ l.length := by
  unfold thinG
  rw [dif_pos h]
  obtain ⟨e, h1, h2, h3⟩ := thin_perm f (i + 1) (l.eraseIdx i) (d ++ [l[i].p.n])
  have := h2.length_le
  rw [List.length_eraseIdx_of_lt h] at this
  omega
theorem room_ok {p : Int} {l : List Hd} (d : List Int) (hl : 2 ≤ l.length) (hp : p = 1 ∨ p = 3) : (roomF p l d).1.Sublist l ∧ (roomF p l d).1.length + 1 ≤ l.length ∧ ∃ e, (roomF p l d).2 = d ++ e ∧ (sq (roomF p l d).1 ++ e).Perm (sq l) := by
  unfold roomF
  rcases hp with rfl | rfl
  · rw [if_pos rfl]
    obtain ⟨x, t, rfl⟩ : ∃ x t, l = x :: t := by cases l with | nil => simp at hl | cons x t => exact ⟨x, t, rfl⟩
    refine ⟨by simp, by simp, [x.p.n], by simp, ?_⟩
    simp only [List.eraseIdx_cons_zero, sq, List.map_cons]
    exact List.perm_append_comm.trans (List.Perm.refl _)
  · rw [if_neg (by decide), if_pos rfl]
    obtain ⟨e, h1, h2, h3⟩ := thin_perm l.length 1 l d
    obtain ⟨m, hm⟩ : ∃ m, l.length = m + 1 := ⟨l.length - 1, by omega⟩
    refine ⟨h2, ?_, e, h1, h3⟩
    have := thin_less m 1 l d (by omega)
    rwa [← hm] at this
structure NdOk (c : Int) (nd : Nd) : Prop where
  pos : 0 ≤ nd.last
  inc : (sq nd.l).Pairwise (· < ·)
  rng : ∀ x ∈ sq nd.l, 1 ≤ x ∧ x ≤ nd.last
  drng : ∀ d ∈ nd.drp, 1 ≤ d ∧ d ≤ nd.last
  dis : ∀ x ∈ sq nd.l, x ∉ nd.drp
  ndp : nd.drp.Nodup
  cap : (nd.l.length : Int) ≤ c
theorem sq_send : ∀ (c : Int) (l : List Hd), sq (sendG c l).1 = sq l
  | _, [] => rfl
  | c, x :: t => by
    unfold sendG
    split
    · simp only [sq, List.map_cons]; exact congrArg _ (sq_send (c - 1) t)
    · simp only [sq, List.map_cons]; exact congrArg _ (sq_send c t)
theorem sq_len (l : List Hd) : (sq l).length = l.length := by simp [sq]
theorem step_ok {c p : Int} (hc : 2 ≤ c) (hp : 1 ≤ p ∧ p ≤ 3) (k : Nat) (x : Stp) {nd : Nd} (h : NdOk c nd) : NdOk c (stepF c p k x nd) := by
  obtain ⟨h0, h1, h2, h3, h4, h5, h6⟩ := h
  unfold stepF
  split
  · -- put
    unfold putF
    split
    · rename_i hfull
      split
      · refine ⟨by dsimp only; omega, h1, fun x hx => ?_, fun d hd => ?_, fun x hx hd => ?_, ?_, h6⟩
        · have := h2 x hx; dsimp only; omega
        · dsimp only
          rcases List.mem_append.1 hd with hd | hd
          · have := h3 d hd; omega
          · simp at hd; omega
        · rcases List.mem_append.1 hd with hd | hd
          · exact h4 x hx hd
          · simp at hd; have := h2 x hx; omega
        · refine List.nodup_append.2 ⟨h5, by simp, fun d hd e he => ?_⟩
          simp only [List.mem_singleton] at he
          have := h3 d hd
          omega
      · rename_i hp2
        obtain ⟨r1, r2, e, r3, r4⟩ := room_ok nd.drp (l := nd.l) (p := p) (by omega) (by omega)
        have hs : (sq (roomF p nd.l nd.drp).1).Sublist (sq nd.l) := r1.map _
        have he : ∀ z ∈ e, z ∈ sq nd.l := fun z hz => r4.subset (List.mem_append_right _ hz)
        have hnd : (sq nd.l).Nodup := h1.imp (fun {a b} (hab : a < b) => by omega)
        have hnd2 := List.nodup_append.1 (r4.nodup_iff.2 hnd)
        generalize roomF p nd.l nd.drp = r at *
        have hsq : ∀ y : Hd, sq (r.1 ++ [y]) = sq r.1 ++ [y.p.n] := fun y => by simp [sq]
        constructor
        · dsimp only; omega
        · dsimp only
          rw [hsq]
          refine List.pairwise_append.2 ⟨h1.sublist hs, by simp, fun a ha b hb => ?_⟩
          simp only [List.mem_singleton] at hb
          have := h2 a (hs.subset ha)
          omega
        · intro x hx
          dsimp only at hx ⊢
          rw [hsq] at hx
          rcases List.mem_append.1 hx with hx | hx
          · have := h2 x (hs.subset hx); omega
          · simp at hx; omega
        · intro d hd
          dsimp only at hd ⊢
          rw [r3] at hd
          rcases List.mem_append.1 hd with hd | hd
          · have := h3 d hd; omega
          · have := h2 d (he d hd); omega
        · intro x hx hd
          dsimp only at hx hd
          rw [hsq] at hx
          rw [r3] at hd
          rcases List.mem_append.1 hx with hx | hx
          · rcases List.mem_append.1 hd with hd | hd
            · exact h4 x (hs.subset hx) hd
            · exact hnd2.2.2 x hx x hd rfl
          · simp at hx
            rcases List.mem_append.1 hd with hd | hd
            · have := h3 x hd; omega
            · have := h2 x (he x hd); omega
        · dsimp only
          rw [r3]
          refine List.nodup_append.2 ⟨h5, hnd2.2.1, fun d hd z hz hdz => ?_⟩
          subst hdz
          exact h4 d (he d hz) hd
        · dsimp only
          rw [List.length_append]
          simp only [List.length_singleton]
          omega
    · rename_i hnf
      have hsq : ∀ y : Hd, sq (nd.l ++ [y]) = sq nd.l ++ [y.p.n] := fun y => by simp [sq]
      constructor
      · dsimp only; omega
      · dsimp only
        rw [hsq]
        refine List.pairwise_append.2 ⟨h1, by simp, fun a ha b hb => ?_⟩
        simp only [List.mem_singleton] at hb
        have := h2 a ha
        omega
      · intro x hx
        dsimp only at hx ⊢
        rw [hsq] at hx
        rcases List.mem_append.1 hx with hx | hx
        · have := h2 x hx; omega
        · simp at hx; omega
      · intro d hd
        have := h3 d hd
        dsimp only; omega
      · intro x hx hd
        dsimp only at hx hd
        rw [hsq] at hx
        rcases List.mem_append.1 hx with hx | hx
        · exact h4 x hx hd
        · simp at hx; have := h3 x hd; omega
      · exact h5
      · dsimp only
        rw [List.length_append]
        simp only [List.length_singleton]
        omega
  split
  · unfold sendF
    refine ⟨h0, ?_, ?_, h3, ?_, h5, ?_⟩
    · dsimp only; rw [sq_send]; exact h1
    · intro x hx; dsimp only at hx; rw [sq_send] at hx; exact h2 x hx
    · intro x hx; dsimp only at hx; rw [sq_send] at hx; exact h4 x hx
    · dsimp only; rw [← sq_len, sq_send, sq_len]; exact h6
  split
  · unfold ackF
    split
    · exact ⟨h0, h1, h2, h3, h4, h5, h6⟩
    · have hs : (sq (nd.l.filter (fun y => decide (x.seq < y.p.n)))).Sublist (sq nd.l) := (List.filter_sublist).map _
      refine ⟨h0, h1.sublist hs, fun z hz => h2 z (hs.subset hz), h3, fun z hz => h4 z (hs.subset hz), h5, ?_⟩
      have := List.length_filter_le (fun y : Hd => decide (x.seq < y.p.n)) nd.l
      dsimp only; omega
  split
  · unfold resetF
    have e : sq (nd.l.map (fun x => (⟨x.p, false⟩ : Hd))) = sq nd.l := by simp [sq, Function.comp_def]
    exact ⟨h0, by dsimp only; rw [e]; exact h1, by dsimp only; rw [e]; exact h2, h3, by dsimp only; rw [e]; exact h4, h5, by simpa using h6⟩
  · exact ⟨h0, h1, h2, h3, h4, h5, h6⟩
theorem play_ok {c p : Int} (hc : 2 ≤ c) (hp : 1 ≤ p ∧ p ≤ 3) (l : List Stp) : NdOk c (playF c p l) := by
  have key : ∀ k, k ≤ l.length → NdOk c (playF c p (l.take k)) := by
    intro k
    induction k with
    | zero => intro _; exact ⟨by simp [playF, nd0], by simp [playF, nd0, sq], by simp [playF, nd0, sq], by simp [playF, nd0], by simp [playF, nd0, sq], by simp [playF, nd0], by simp [playF, nd0]; omega⟩
    | succ k ih => intro hk; rw [play_next c p (by omega)]; exact step_ok hc hp _ _ (ih (by omega))
  have := key l.length (Nat.le_refl _)
  rwa [List.take_length] at this
/-! ### rows -/
def rowAdd (rs : List (Int × Int)) (n : Int) : List (Int × Int) :=
  if (rs.getLast?).map (·.2) = some n then rs.dropLast ++ [((rs.getLastD (0, 0)).1, n + 1)] else rs ++ [(n, n + 1)]
def rowsF (l : List Int) : List (Int × Int) := l.foldl rowAdd []
structure RowsOk (ds : List Int) (rs : List (Int × Int)) : Prop where
  ok : ∀ r ∈ rs, r.1 < r.2
  apart : rs.Pairwise (fun a b => a.2 < b.1)
  mem : ∀ r ∈ rs, ∀ x, r.1 ≤ x → x < r.2 → x ∈ ds
  last : ∀ r ∈ rs, ∃ d ∈ ds, r.2 ≤ d + 1
theorem rows_step {ds : List Int} {rs : List (Int × Int)} {n : Int} (h : RowsOk ds rs) (hn : ∀ d ∈ ds, d < n) : RowsOk (ds ++ [n]) (rowAdd rs n) := by
  obtain ⟨h1, h2, h3, h4⟩ := h
  have hle : ∀ r ∈ rs, r.2 ≤ n := fun r hr => by obtain ⟨d, hd, h⟩ := h4 r hr; have := hn d hd; omega
  unfold rowAdd
  split
  · rename_i he
    rcases List.eq_nil_or_concat rs with rfl | ⟨q, a, rfl⟩
    · simp at he
    · simp only [List.concat_eq_append, List.getLast?_append, List.getLast?_singleton, Option.or_some, Option.map_some, Option.some.injEq, List.dropLast_concat, List.getLastD_concat] at *
      simp at he
      have ha := h1 a (by simp)
      have h2' := List.pairwise_append.1 h2
      refine ⟨fun r hr => ?_, List.pairwise_append.2 ⟨h2'.1, by simp, fun r hr z hz => ?_⟩, fun r hr x hx1 hx2 => ?_, fun r hr => ?_⟩
      · rcases List.mem_append.1 hr with hr | hr
        · exact h1 r (List.mem_append_left _ hr)
        · simp at hr; subst hr; dsimp only; omega
      · simp at hz; subst hz
        exact h2'.2.2 r hr a (by simp)
      · rcases List.mem_append.1 hr with hr | hr
        · exact List.mem_append_left _ (h3 r (List.mem_append_left _ hr) x hx1 hx2)
        · simp at hr; subst hr
          dsimp only at hx1 hx2
          by_cases e : x = n
          · simp [e]
          · exact List.mem_append_left _ (h3 a (by simp) x hx1 (by omega))
      · rcases List.mem_append.1 hr with hr | hr
        · obtain ⟨d, hd, h⟩ := h4 r (List.mem_append_left _ hr); exact ⟨d, by simp [hd], h⟩
        · simp at hr; subst hr; exact ⟨n, by simp, Int.le_refl _⟩
  · rename_i he
    have hlt : ∀ r ∈ rs, r.2 < n := by
      intro r hr
      have h5 := hle r hr
      apply Classical.byContradiction
      intro h6
      have h7 : r.2 = n := by omega
      rcases List.eq_nil_or_concat rs with rfl | ⟨q, a, rfl⟩
      · cases hr
      · rw [List.concat_eq_append] at *
        have h2' := List.pairwise_append.1 h2
        rcases List.mem_append.1 hr with hr | hr
        · have := h2'.2.2 r hr a (by simp)
          have := h1 a (by simp)
          have := hle a (by simp)
          omega
        · simp at hr; subst hr
          exact he (by simp [h7])
    refine ⟨fun r hr => ?_, List.pairwise_append.2 ⟨h2, by simp, fun r hr z hz => ?_⟩, fun r hr x hx1 hx2 => ?_, fun r hr => ?_⟩
    · rcases List.mem_append.1 hr with hr | hr
      · exact h1 r hr
      · simp at hr; subst hr; dsimp only; omega
    · simp at hz; subst hz
      exact hlt r hr
    · rcases List.mem_append.1 hr with hr | hr
      · exact List.mem_append_left _ (h3 r hr x hx1 hx2)
      · simp at hr; subst hr
        dsimp only at hx1 hx2
        have : x = n := by omega
        simp [this]
    · rcases List.mem_append.1 hr with hr | hr
      · obtain ⟨d, hd, h⟩ := h4 r hr; exact ⟨d, by simp [hd], h⟩
      · simp at hr; subst hr; exact ⟨n, by simp, Int.le_refl _⟩
theorem rows_ok {l : List Int} (h : l.Pairwise (· < ·)) : RowsOk l (rowsF l) := by
  have key : ∀ (t ds : List Int) (rs : List (Int × Int)), (ds ++ t).Pairwise (· < ·) → RowsOk ds rs → RowsOk (ds ++ t) (t.foldl rowAdd rs) := by
    intro t
    induction t with
    | nil => intro ds rs _ h; simpa using h
    | cons n t ih =>
      intro ds rs hp h
      rw [List.foldl_cons]
      have := ih (ds ++ [n]) (rowAdd rs n) (by simpa using hp) (rows_step h (fun d hd => (List.pairwise_append.1 hp).2.2 d hd n (by simp)))
      simpa using this
  have := key l [] [] (by simpa using h) ⟨by simp, by simp, by simp, by simp⟩
  simpa [rowsF] using this
end Go.Proofs.YtnpdbnkgipkgaaaGreat
