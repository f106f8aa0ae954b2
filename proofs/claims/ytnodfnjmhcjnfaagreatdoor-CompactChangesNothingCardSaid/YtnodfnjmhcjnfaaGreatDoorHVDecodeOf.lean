/- A block, decoded: the reference. Condition: the bytes fit. -/
import Derived.Test.YtnodfnjmhcjnfaaGreatDoorHVDecTop
namespace Go.Proofs.YtnodfnjmhcjnfaaGreatDoor
open Go Go.RowKit
set_option maxRecDepth 100000
set_option linter.all false
set_option maxHeartbeats 4000000
variable {H : Hp} {K : AV → Hp → Prop}
def decP3 (l : List UInt8) (p : Nat) (tag : ByteArray) (m y : Nat) : Option (UInt8 × ByteArray × List Smp × Nat) := match smps l m y ⟨0, 0, 0⟩ with
  | none => none
  | some (ss, e) => if ¬ e + 2 ≤ l.length then none else some (l.getD (p + 1) 0, tag, ss, e)
def decP2 (l : List UInt8) (p : Nat) (tag : ByteArray) (z : Nat) : Option (UInt8 × ByteArray × List Smp × Nat) := match uvR l z with
  | none => none
  | some (m, y) => if ¬ (1 ≤ m ∧ m ≤ 100) then none else decP3 l p tag m.toNat y
theorem decP_eq (l : List UInt8) (p : Nat) : decP l p = if ¬ (p + 2 ≤ l.length ∧ (l.getD (p + 1) 0).toNat ≤ 1) then none else match uvR l (p + 2) with
  | none => none
  | some (n, x) => if ¬ (1 ≤ n ∧ n ≤ 40 ∧ x + n.toNat ≤ l.length) then none else decP2 l p (strU ((l.drop x).take n.toNat)) (x + n.toNat) := rfl
theorem numF_le {l : List UInt8} {lo hi : Int} {s : Nat × Bool} (hp : s.1 ≤ l.length) : (numF l lo hi s).2.1 ≤ l.length := by
  unfold numF
  split
  · exact hp
  · split
    · rename_i n x h
      split
      · exact uvR_len h hp
      · exact hp
    · exact hp
theorem numF_bd {l : List UInt8} {lo hi : Int} {s : Nat × Bool} (h : lo ≤ hi) : lo ≤ (numF l lo hi s).1 ∧ (numF l lo hi s).1 ≤ hi := by
  unfold numF
  split
  · exact ⟨Int.le_refl _, h⟩
  · split
    · split
      · rename_i h; exact h
      · exact ⟨Int.le_refl _, h⟩
    · exact ⟨Int.le_refl _, h⟩
abbrev nF (l : List UInt8) (s : Nat × Bool) : Int × Nat × Bool := numF l (-1000000000000) 1000000000000 s
theorem nF_bad (l : List UInt8) (s : Nat × Bool) (h : s.2 = true) : (nF l s).2.2 = true := by unfold nF numF; rw [if_pos h]
theorem nF_good (l : List UInt8) (s : Nat × Bool) (h : s.2 = false) : (∃ n x, uvR l s.1 = some (n, x) ∧ nF l s = (n, x, false)) ∨ (uvR l s.1 = none ∧ (nF l s).2.2 = true) := by
  unfold nF numF
  rw [if_neg (by simp [h])]
  cases hu : uvR l s.1 with
  | none => exact .inr ⟨rfl, rfl⟩
  | some q =>
    obtain ⟨n, x⟩ := q
    have := (unvarint_le hu).2.2
    exact .inl ⟨n, x, rfl, by dsimp only; rw [if_pos ⟨this.1, this.2⟩]⟩
theorem numR_a {c : Nat} (l : List UInt8) (p : Nat) (b : Bool) (lo hi n : Int) (x : Nat) (b' : Bool) (he : numF l lo hi (p, b) = (n, x, b')) (hp : p ≤ l.length) (hl : l.length ≤ 1099511627776) (hc : H[c]? = some (rdc 384 l p b))
    (hk : K (.c (.int .i64 n)) (H.set c (rdc 384 l x b'))) : ACalls Tryz.prog 337 [.c (.ptr (some (c, 0, 0))), (.c (.int .i64 lo)), (.c (.int .i64 hi))] H K :=
  numberR_a l (p, b) lo hi hc hp hl (by rw [he]; exact hk)
theorem numF_le' {l : List UInt8} {lo hi n : Int} {p x : Nat} {b b' : Bool} (he : numF l lo hi (p, b) = (n, x, b')) (hp : p ≤ l.length) : x ≤ l.length := by
  have := numF_le (lo := lo) (hi := hi) (s := (p, b)) hp
  rw [he] at this
  exact this
theorem numF_bd' {l : List UInt8} {lo hi n : Int} {p x : Nat} {b b' : Bool} (he : numF l lo hi (p, b) = (n, x, b')) (h : lo ≤ hi) : lo ≤ n ∧ n ≤ hi := by
  have := numF_bd (l := l) (s := (p, b)) h
  rw [he] at this
  exact this
theorem SWp.then {P : Program} {n N : Nat} {L : List Tmp} {x y : Code} {Q : AExit → Fr → Hp → Prop} {F : Fr} (h : SWp P n N L x (QS P n N L y Q) F H) : SWp P n N L (.seq x y) Q F H := SWp.seq h
def fin3 (l : List UInt8) (p : Nat) (tag : ByteArray) (o : Option (List Smp × Nat)) : Option (UInt8 × ByteArray × List Smp × Nat) := match o with
  | none => none
  | some (ss, e) => if ¬ e + 2 ≤ l.length then none else some (l.getD (p + 1) 0, tag, ss, e)
theorem decP3_fin (l : List UInt8) (p : Nat) (tag : ByteArray) (m y : Nat) : decP3 l p tag m y = fin3 l p tag (smps l m y ⟨0, 0, 0⟩) := by
  unfold decP3 fin3
  cases smps l m y ⟨0, 0, 0⟩ <;> rfl
theorem bytF_bad (l : List UInt8) (n : Int) (x : Nat) : bytF l n (x, true) = ([], x, true) := by unfold bytF; rw [if_pos (.inl rfl)]
theorem bytF_short {l : List UInt8} {n : Int} {x : Nat} (b : Bool) (h : (l.length : Int) - x < n) : bytF l n (x, b) = ([], x, true) := by unfold bytF; rw [if_pos (.inr h)]
theorem bytF_good {l : List UInt8} {n : Int} {x : Nat} (h : ¬ (l.length : Int) - x < n) : bytF l n (x, false) = ((l.drop x).take n.toNat, x + n.toNat, false) := by unfold bytF; rw [if_neg (by simpa using h)]
theorem numF_ge' {l : List UInt8} {lo hi n : Int} {p x : Nat} {b b' : Bool} (he : numF l lo hi (p, b) = (n, x, b')) : p ≤ x := by
  unfold numF at he
  split at he
  · simp only [Prod.mk.injEq] at he; omega
  · split at he
    · rename_i n' x' h
      have := (unvarint_le h).1
      split at he <;> simp only [Prod.mk.injEq] at he <;> omega
    · simp only [Prod.mk.injEq] at he; omega
theorem bytF_ge (l : List UInt8) (n : Int) (x : Nat) (b : Bool) : x ≤ (bytF l n (x, b)).2.1 := by
  unfold bytF
  split <;> simp
theorem numF_cases {l : List UInt8} {lo hi n : Int} {p x : Nat} {b : Bool} (he : numF l lo hi (p, false) = (n, x, b)) : (b = false ∧ uvR l p = some (n, x) ∧ lo ≤ n ∧ n ≤ hi) ∨ (b = true ∧ ∀ n' x', uvR l p = some (n', x') → ¬ (lo ≤ n' ∧ n' ≤ hi)) := by
  unfold numF at he
  rw [if_neg (by simp)] at he
  split at he
  · rename_i n' x' h
    split at he
    · rename_i h2
      simp only [Prod.mk.injEq] at he
      obtain ⟨rfl, rfl, rfl⟩ := he
      exact .inl ⟨rfl, h, h2.1, h2.2⟩
    · rename_i h2
      simp only [Prod.mk.injEq] at he
      refine .inr ⟨he.2.2.symm, fun n'' x'' h3 => ?_⟩
      rw [h] at h3
      simp only [Option.some.injEq, Prod.mk.injEq] at h3
      obtain ⟨rfl, rfl⟩ := h3
      exact h2
  · rename_i h
    simp only [Prod.mk.injEq] at he
    exact .inr ⟨he.2.2.symm, fun n'' x'' h3 => by rw [h] at h3; cases h3⟩
theorem numF_true {l : List UInt8} {lo hi n : Int} {p x : Nat} {b : Bool} (he : numF l lo hi (p, true) = (n, x, b)) : b = true := by
  unfold numF at he
  rw [if_pos rfl] at he
  simp only [Prod.mk.injEq] at he
  exact he.2.2.symm
theorem tag_ok {l : List UInt8} {p x : Nat} {n : Int} {b : Bool} (he : numF l 1 40 (p + 2, false) = (n, x, b)) (hp : p + 2 ≤ l.length) (hdq : decP l p = match uvR l (p + 2) with
  | none => none
  | some (n, x) => if ¬ (1 ≤ n ∧ n ≤ 40 ∧ x + n.toNat ≤ l.length) then none else decP2 l p (strU ((l.drop x).take n.toNat)) (x + n.toNat)) :
    (strU (bytF l n (x, b)).1).size ≤ 40 ∧ (bytF l n (x, b)).2.1 ≤ l.length ∧ (((bytF l n (x, b)).2.2 = true ∧ decP l p = none) ∨ ((bytF l n (x, b)).2.2 = false ∧ decP l p = decP2 l p (strU (bytF l n (x, b)).1) (bytF l n (x, b)).2.1)) := by
  have nx := numF_le' he hp
  rcases numF_cases he with ⟨rfl, h1, h2, h3⟩ | ⟨rfl, h1⟩
  · rw [h1] at hdq
    dsimp only at hdq
    by_cases h4 : (l.length : Int) - x < n
    · rw [bytF_short _ h4]
      refine ⟨by show (#[] : Array UInt8).size ≤ 40; simp, nx, .inl ⟨rfl, ?_⟩⟩
      rw [hdq, if_pos (fun h => by omega)]
    · rw [bytF_good h4]
      refine ⟨?_, by dsimp only; omega, .inr ⟨rfl, ?_⟩⟩
      · show ((l.drop x).take n.toNat).toArray.size ≤ 40
        simp; omega
      · rw [hdq, if_neg (by simp; omega)]
  · rw [bytF_bad]
    refine ⟨by show (#[] : Array UInt8).size ≤ 40; simp, nx, .inl ⟨rfl, ?_⟩⟩
    rw [hdq]
    cases hu : uvR l (p + 2) with
    | none => rfl
    | some q => obtain ⟨n', x'⟩ := q; dsimp only; rw [if_pos (fun h => h1 n' x' hu ⟨h.1, h.2.1⟩)]
theorem many_ok {l : List UInt8} {p p1 y : Nat} {m : Int} {b1 b : Bool} {tag : ByteArray} (he : numF l 1 100 (p1, b1) = (m, y, b)) (h : (b1 = true ∧ decP l p = none) ∨ (b1 = false ∧ decP l p = decP2 l p tag p1)) :
    (b = true ∧ decP l p = none) ∨ (b = false ∧ decP l p = fin3 l p tag (smps l m.toNat y ⟨0, 0, 0⟩)) := by
  rcases h with ⟨rfl, h⟩ | ⟨rfl, h⟩
  · exact .inl ⟨numF_true he, h⟩
  · rcases numF_cases he with ⟨rfl, h1, h2, h3⟩ | ⟨rfl, h1⟩
    · refine .inr ⟨rfl, ?_⟩
      rw [h]
      unfold decP2
      rw [h1]
      dsimp only
      rw [if_neg (by simp; omega), decP3_fin]
    · refine .inl ⟨rfl, ?_⟩
      rw [h]
      unfold decP2
      cases hu : uvR l p1 with
      | none => rfl
      | some q => obtain ⟨n', x'⟩ := q; dsimp only; rw [if_pos (fun h => h1 n' x' hu ⟨h.1, h.2⟩)]
theorem dsmp_ok {l : List UInt8} {p0 j p x1 x2 x3 : Nat} {n1 n2 n3 : Int} {b b1 b2 b3 : Bool} {tag : ByteArray} {P : Smp} {acc : List Smp} (he1 : nF l (p, b) = (n1, x1, b1)) (he2 : nF l (x1, b1) = (n2, x2, b2)) (he3 : nF l (x2, b2) = (n3, x3, b3))
    (h : (b = true ∧ decP l p0 = none) ∨ (b = false ∧ decP l p0 = fin3 l p0 tag ((smps l (j + 1) p P).map fun r => (acc ++ r.1, r.2)))) :
    (b3 = true ∧ decP l p0 = none) ∨ (b3 = false ∧ decP l p0 = fin3 l p0 tag ((smps l j x3 ⟨P.t + n1, P.v + n2, n3⟩).map fun r => ((acc ++ [(⟨P.t + n1, P.v + n2, n3⟩ : Smp)]) ++ r.1, r.2))) := by
  have bad : ∀ {s : Nat × Bool} {n : Int} {x : Nat} {b' : Bool}, nF l s = (n, x, b') → s.2 = true → b' = true := by
    intro s n x b' h1 h2
    have := nF_bad l s h2
    rw [h1] at this
    exact this
  have good : ∀ {q : Nat} {n : Int} {x : Nat} {b' : Bool}, nF l (q, false) = (n, x, b') → (b' = false ∧ uvR l q = some (n, x)) ∨ (b' = true ∧ uvR l q = none) := by
    intro q n x b' h1
    rcases nF_good l (q, false) rfl with ⟨n', x', h2, h3⟩ | ⟨h2, h3⟩
    · rw [h1] at h3
      simp only [Prod.mk.injEq] at h3
      obtain ⟨rfl, rfl, rfl⟩ := h3
      exact .inl ⟨rfl, h2⟩
    · rw [h1] at h3
      exact .inr ⟨h3, h2⟩
  rcases h with ⟨rfl, h⟩ | ⟨rfl, h⟩
  · have := bad he1 rfl
    subst this
    have := bad he2 rfl
    subst this
    exact .inl ⟨bad he3 rfl, h⟩
  · rw [smps] at h
    rcases good he1 with ⟨rfl, h1⟩ | ⟨rfl, h1⟩
    · rw [h1] at h
      rcases good he2 with ⟨rfl, h2⟩ | ⟨rfl, h2⟩
      · dsimp only at h
        rw [h2] at h
        rcases good he3 with ⟨rfl, h3⟩ | ⟨rfl, h3⟩
        · dsimp only at h
          rw [h3] at h
          refine .inr ⟨rfl, ?_⟩
          rw [h]
          simp only [Option.map_map]
          congr 2
          funext r
          simp
        · dsimp only at h
          rw [h3] at h
          exact .inl ⟨rfl, h⟩
      · dsimp only at h
        rw [h2] at h
        exact .inl ⟨bad he3 rfl, h⟩
    · rw [h1] at h
      have := bad he2 rfl
      subst this
      exact .inl ⟨bad he3 rfl, h⟩
theorem decodeOf_a (l : List UInt8) (p : Int) (hl : l.length ≤ 100000000) (hk : K (.tup [.agg (encBk (decTop l p).1), .c (.lst 3 ((decTop l p).2.1.map encS)), (.c (.int .i64 ((decTop l p).2.2)))]) H) : ACalls Tryz.prog 295 [.c (.lst 1 (l.map encU)), (.c (.int .i64 p))] H K := by
  unfold decTop at hk
  by_cases h0 : 200000 < l.length
  · rw [if_pos h0] at hk
    have e0 : ((200000 : Int) < l.length) = True := by simp; omega
    refine acalls Tryz.func295 rfl (by kernel_rfl) (by simp (disch := first | omega | (simp only [go_sem]; first | done | omega)) only [go_sem]) (fun hH => ?_)
    simp (disch := first | omega | (simp only [go_sem]; first | done | omega)) only [go_sem, e0]
    exact Ret.bad hH (Nat.le_refl _) (encBk_ok blk0 _) hk
  rw [if_neg h0] at hk
  have e0 : ((200000 : Int) < l.length) = False := by simp; omega
  by_cases h1 : p < 0 ∨ l.length < p
  · rw [if_pos h1] at hk
    have e1 : decide (0 ≤ p ∧ p ≤ (l.length : Int)) = false := by simp; omega
    refine acalls Tryz.func295 rfl (by kernel_rfl) (by simp (disch := first | omega | (simp only [go_sem]; first | done | omega)) only [go_sem]) (fun hH => ?_)
    simp (disch := first | omega | (simp only [go_sem]; first | done | omega)) only [go_sem, e0]
    refine in_a _ _ _ _ _ ?_
    simp (disch := first | omega | (simp only [go_sem]; first | done | omega)) only [go_sem, e1]
    exact Ret.bad hH (Nat.le_refl _) (encBk_ok blk0 _) hk
  rw [if_neg h1] at hk
  obtain ⟨p, rfl⟩ := Int.eq_ofNat_of_zero_le (show 0 ≤ p by omega)
  have e1 : decide (0 ≤ (p : Int) ∧ (p : Int) ≤ (l.length : Int)) = true := by simp; omega
  simp only [Int.toNat_natCast] at hk
  have hb0 : ∀ x ∈ encBk blk0, x.ok H.length := by simp [encBk, blk0, AC.ok]
  unfold decRes at hk
  have hp : p ≤ l.length := by omega
  by_cases h0 : p = l.length
  · rw [if_pos h0] at hk
    have e2 : ((p : Int) = l.length) = True := by simp [h0]
    refine acalls Tryz.func295 rfl (by kernel_rfl) (by simp (disch := first | omega | (simp only [go_sem]; first | done | omega)) only [go_sem]) (fun hH => ?_)
    simp (disch := first | omega | (simp only [go_sem]; first | done | omega)) only [go_sem, e0]
    refine in_a _ _ _ _ _ ?_
    simp (disch := first | omega | (simp only [go_sem]; first | done | omega)) only [go_sem, e1, e2]
    exact Ret.bad hH (Nat.le_refl _) hb0 hk
  rw [if_neg h0] at hk
  have e2 : ((p : Int) = l.length) = False := by simp; omega
  have hlt : p < l.length := by omega
  rw [getD_at hlt] at hk
  have hcc256 : (l[p]).toNat < 256 := UInt8.toNat_lt _
  by_cases h1 : (l[p]).toNat = 167
  case neg =>
    rw [if_pos h1] at hk
    have e3 : ((((l[p]).toNat : Nat) : Int) = 167) = False := by simp; omega
    refine acalls Tryz.func295 rfl (by kernel_rfl) (by simp (disch := first | omega | (simp only [go_sem]; first | done | omega)) only [go_sem]) (fun hH => ?_)
    simp (disch := first | omega | (simp only [go_sem]; first | done | omega)) only [go_sem, e0]
    refine in_a _ _ _ _ _ ?_
    simp (disch := first | omega | (simp only [go_sem]; first | done | omega)) only [go_sem, e1, e2, e3]
    exact Ret.bad hH (Nat.le_refl _) hb0 hk
  rw [if_neg (by simpa using h1)] at hk
  have e3 : ((((l[p]).toNat : Nat) : Int) = 167) = True := by simp; omega
  refine acallsS Tryz.func295 rfl (by simp (disch := first | omega | (simp only [go_sem]; first | done | omega)) only [go_sem]) (fun hH => ?_)
  (refine SWp.go (by kernel_rfl) ?_; simp (disch := first | omega | (simp only [go_sem]; first | done | omega)) only [go_sem])
  (refine SWp.go (by kernel_rfl) ?_; simp (disch := first | omega | (simp only [go_sem]; first | done | omega)) only [go_sem])
  refine in_a _ _ _ _ _ ?_
  simp (disch := first | omega | (simp only [go_sem]; first | done | omega)) only [go_sem, e0, e1, e2, e3]
  (refine SWp.go (by kernel_rfl) ?_; simp (disch := first | omega | (simp only [go_sem]; first | done | omega)) only [go_sem])
  (refine SWp.go (by kernel_rfl) ?_; simp (disch := first | omega | (simp only [go_sem]; first | done | omega)) only [go_sem])
  refine bytesR_a l (p + 1, false) 1 (by omega) (by omega) (by first | ((repeat first | exact at0 (by simp) | refine atS ?_); done) | assumption) (by dsimp only; omega) (by omega) ?_
  have hdq := decP_eq l p
  by_cases h2 : p + 2 ≤ l.length
  case neg =>
    have hd : decP l p = none := by rw [hdq, if_pos (fun h => h2 h.1)]
    rw [hd] at hk
    have eb : bytF l 1 (p + 1, false) = ([], p + 1, true) := by unfold bytF; rw [if_pos (.inr (by dsimp only; omega))]
    rw [eb]
    dsimp only [List.map_nil]
    simp (disch := first | omega | (simp only [go_sem]; first | done | omega)) only [go_sem]
    refine SWp.of (by kernel_rfl) ?_
    simp (disch := first | omega | (simp only [go_sem]; first | done | omega)) only [go_sem]
    exact Ret.bad hH (Nat.le_refl _) hb0 hk
  have hlt1 : p + 1 < l.length := by omega
  have eb : bytF l 1 (p + 1, false) = ([l[p + 1]], p + 2, false) := by
    unfold bytF
    rw [if_neg (by simp; omega)]
    show ((l.drop (p + 1)).take 1, p + 1 + 1, false) = _
    rw [take_one hlt1]
  rw [eb]
  dsimp only
  have hcb : (l[p + 1]).toNat < 256 := UInt8.toNat_lt _
  rw [getD_at hlt1] at hdq
  by_cases h3 : (l[p + 1]).toNat ≤ 1
  case neg =>
    rw [if_pos (fun h => h3 h.2)] at hdq
    rw [hdq] at hk
    have e4 : ((1 : Int) < ((l[p + 1]).toNat : Nat)) = True := by simp; omega
    simp (disch := first | omega | (simp only [go_sem]; first | done | omega)) only [go_sem]
    refine SWp.of (by kernel_rfl) ?_
    simp (disch := first | omega | (simp only [go_sem]; first | done | omega)) only [go_sem, e4]
    exact Ret.bad hH (Nat.le_refl _) hb0 hk
  rw [if_neg (by simp; omega)] at hdq
  have e4 : ((1 : Int) < ((l[p + 1]).toNat : Nat)) = False := by simp; omega
  simp (disch := first | omega | (simp only [go_sem]; first | done | omega)) only [go_sem]
  refine SWp.go (by kernel_rfl) ?_
  simp (disch := first | omega | (simp only [go_sem]; first | done | omega)) only [go_sem, e4]
  refine SWp.cut (H.length) [0, 1] [4, 7, 8, 9] (fun (st : ByteArray × Nat × Bool) => st.1.size ≤ 40 ∧ p ≤ st.2.1 ∧ st.2.1 ≤ l.length ∧ ((st.2.2 = true ∧ decP l p = none) ∨ (st.2.2 = false ∧ decP l p = decP2 l p st.1 st.2.1))) (fun (st : ByteArray × Nat × Bool) => [(4, .c (.ptr (some (H.length, 0, 0)))), (7, .c (.ptr (some (H.length + 1, 0, 0)))), (8, .c (.lst 1 [[.int .u8 ((l[p + 1]).toNat : Nat)]])), (9, (.c (.str (st.1))))]) (fun (st : ByteArray × Nat × Bool) => H ++ [.row 106 7 [[.int .i64 0, .int .i64 0, .str ⟨#[]⟩, .int .i64 0, .int .i64 0, .int .i64 0, .bool false]] true, rdc 384 l st.2.1 st.2.2]) (fun _ => rfl) (by kernel_rfl) (by first | (simp; done) | omega) (by first | (simp; done) | (simp; omega) | omega) kl ?_ (fun st hst _ _ => ?_)
  · refine SWp.of (by kernel_rfl) ?_
    simp (disch := first | omega | (simp only [go_sem]; first | done | omega)) only [go_sem]
    obtain ⟨n, x, b, he⟩ : ∃ n x b, numF l 1 40 (p + 2, false) = (n, x, b) := ⟨_, _, _, rfl⟩
    have nb := numF_bd' he (by omega)
    have nx := numF_le' he (by omega)
    refine numR_a l (p + 2) false 1 40 n x b he (by omega) (by omega) (by first | ((repeat first | exact at0 (by simp) | refine atS ?_); done) | assumption) ?_
    simp (disch := first | omega | (simp only [go_sem]; first | done | omega)) only [go_sem]
    refine bytesR_a l (x, b) n (by omega) (by omega) (by first | ((repeat first | exact at0 (by simp) | refine atS ?_); done) | assumption) nx (by omega) ?_
    simp (disch := first | omega | (simp only [go_sem]; first | done | omega)) only [go_sem]
    refine Next.mk (strU (bytF l n (x, b)).1, (bytF l n (x, b)).2) ⟨(tag_ok he h2 hdq).1, by have := numF_ge' he; have := bytF_ge l n x b; dsimp only; omega, (tag_ok he h2 hdq).2⟩ ?_
    simp (disch := first | omega | (simp only [go_sem]; first | done | omega)) only [go_sem]
    exact WkL.refl (by simp)
  obtain ⟨tag, p1, b1⟩ := st
  obtain ⟨i1, i0, i2, i3⟩ := hst
  dsimp only at i1 i0 i2 i3 ⊢
  (refine SWp.go (by kernel_rfl) ?_; simp (disch := first | omega | (simp only [go_sem]; first | done | omega)) only [go_sem])
  obtain ⟨m, y, b2, he⟩ : ∃ m y b2, numF l 1 100 (p1, b1) = (m, y, b2) := ⟨_, _, _, rfl⟩
  have nb := numF_bd' he (by omega)
  have nx := numF_le' he i2
  have ny := numF_ge' he
  refine numR_a l p1 b1 1 100 m y b2 he i2 (by omega) (by first | ((repeat first | exact at0 (by simp) | refine atS ?_); done) | assumption) ?_
  have i4 := many_ok he i3
  obtain ⟨m, rfl⟩ := Int.eq_ofNat_of_zero_le (show 0 ≤ m by omega)
  simp only [Int.toNat_natCast] at i4
  simp (disch := first | omega | (simp only [go_sem]; first | done | omega)) only [go_sem]
  (refine SWp.go (by kernel_rfl) ?_; simp (disch := first | omega | (simp only [go_sem]; first | done | omega)) only [go_sem])
  (refine SWp.go (by kernel_rfl) ?_; simp (disch := first | omega | (simp only [go_sem]; first | done | omega)) only [go_sem])
  refine SWp.cut (H.length) [0, 1, 8, 9, 10] [4, 7, 12, 11] (fun (s : Nat × Bool × Smp × List Smp) => p ≤ s.1 ∧ s.1 ≤ l.length ∧ s.2.2.2.length = m ∧ s.2.2.1 = s.2.2.2.getLastD ⟨0, 0, 0⟩ ∧ ((s.2.1 = true ∧ decP l p = none) ∨ (s.2.1 = false ∧ decP l p = fin3 l p tag (some (s.2.2.2, s.1))))) (fun (s : Nat × Bool × Smp × List Smp) => [(4, .c (.ptr (some (H.length, 0, 0)))), (7, .c (.ptr (some (H.length + 1, 0, 0)))), (12, .c (.ptr (some (H.length + 2, 0, 0)))), (11, .c (grV (H.length + 3) s.2.2.2))]) (fun (s : Nat × Bool × Smp × List Smp) => H ++ [.row 106 7 [[.int .i64 0, .int .i64 0, .str ⟨#[]⟩, .int .i64 0, .int .i64 0, .int .i64 0, .bool false]] true, rdc 384 l s.1 s.2.1, .row 38 3 [encS s.2.2.1] true, grO 38 3 (s.2.2.2.map encS)]) (fun _ => rfl) (by kernel_rfl) (by first | (simp; done) | omega) (by first | (simp; done) | (simp; omega) | omega) kl ?_ (fun s hs _ _ => ?_)
  · (refine SWp.go (by kernel_rfl) ?_; simp (disch := first | omega | (simp only [go_sem]; first | done | omega)) only [go_sem])
    refine SWp.inB ?_
    refine SWp.loop (H.length + 3) [0, 1, 4, 7, 8, 9, 10, 12, 68] [11, 69] (fun (s : Nat × Nat × Bool × Smp × List Smp) => s.1 ≤ m ∧ p ≤ s.2.1 ∧ s.2.1 ≤ l.length ∧ (-1000000000000 * (s.1 : Int) ≤ s.2.2.2.1.t ∧ s.2.2.2.1.t ≤ 1000000000000 * (s.1 : Int)) ∧ (-1000000000000 * (s.1 : Int) ≤ s.2.2.2.1.v ∧ s.2.2.2.1.v ≤ 1000000000000 * (s.1 : Int)) ∧ s.2.2.2.2.length = s.1 ∧ s.2.2.2.1 = s.2.2.2.2.getLastD ⟨0, 0, 0⟩ ∧ ((s.2.2.1 = true ∧ decP l p = none) ∨ (s.2.2.1 = false ∧ decP l p = fin3 l p tag ((smps l (m - s.1) s.2.1 s.2.2.2.1).map fun r => (s.2.2.2.2 ++ r.1, r.2))))) (fun (s : Nat × Nat × Bool × Smp × List Smp) => [(11, .c (grV (H.length + 3) s.2.2.2.2)), (69, (.c (.int .i64 (s.1))))]) (fun (s : Nat × Nat × Bool × Smp × List Smp) => H ++ [.row 106 7 [[.int .i64 0, .int .i64 0, .str ⟨#[]⟩, .int .i64 0, .int .i64 0, .int .i64 0, .bool false]] true, rdc 384 l s.2.1 s.2.2.1, .row 38 3 [encS s.2.2.2.1] true, grO 38 3 (s.2.2.2.2.map encS)]) (fun (s : Nat × Nat × Bool × Smp × List Smp) => m - s.1) (fun _ => rfl) (by kernel_rfl) (by first | (simp; done) | omega) (by first | (simp; done) | (simp; omega) | omega) kl ?_ (fun s hs _ _ => ?_)
    · refine Next.mk (0, y, b2, ⟨0, 0, 0⟩, []) ⟨by simp, by dsimp only; omega, nx, by simp, by simp, rfl, rfl, by simpa using i4⟩ ?_
      (try dsimp only)
      simp (disch := first | omega | (simp only [go_sem]; first | done | omega)) only [go_sem]
      exact WkL.padP [_, _, _] (by simp)
    obtain ⟨k, q, b, P, acc⟩ := s
    obtain ⟨hkm, hpq, hq, ⟨t1, t2⟩, ⟨v1, v2⟩, hacc, hlst, hsm⟩ := hs
    dsimp only at hkm hpq hq t1 t2 v1 v2 hacc hlst hsm ⊢
    by_cases hlt : k < m
    · have e0 : (k : Int) < m := by omega
      obtain ⟨j, hj⟩ : ∃ j, m - k = j + 1 := ⟨m - k - 1, by omega⟩
      rw [hj] at hsm
      have hjn : m - (k + 1) = j := by omega
      obtain ⟨n1, x1, c1, f1⟩ : ∃ n x b', nF l (q, b) = (n, x, b') := ⟨_, _, _, rfl⟩
      obtain ⟨n2, x2, c2, f2⟩ : ∃ n x b', nF l (x1, c1) = (n, x, b') := ⟨_, _, _, rfl⟩
      obtain ⟨n3, x3, c3, f3⟩ : ∃ n x b', nF l (x2, c2) = (n, x, b') := ⟨_, _, _, rfl⟩
      have hnext := dsmp_ok f1 f2 f3 hsm
      have g1 := numF_le' f1 hq
      have g2 := numF_le' f2 g1
      have g3 := numF_le' f3 g2
      have o1 := numF_bd' f1 (by omega)
      have o2 := numF_bd' f2 (by omega)
      have o3 := numF_bd' f3 (by omega)
      refine SWp.go (by kernel_rfl) ?_
      simp (disch := first | omega | (simp only [go_sem]; first | done | omega)) only [go_sem, e0]
      refine SWp.go (by kernel_rfl) ?_
      simp (disch := first | omega | (simp only [go_sem]; first | done | omega)) only [go_sem]
      refine SWp.then (SWp.inB ?_)
      refine SWp.cut (H.length + 4) [0, 1, 4, 7, 8, 9, 10, 11, 12, 68, 69] [13] (fun (_u : Unit) => True) (fun (_u : Unit) => [(13, .c (.ptr (some (H.length + 4, 0, 0))))]) (fun (_u : Unit) => H ++ [.row 106 7 [[.int .i64 0, .int .i64 0, .str ⟨#[]⟩, .int .i64 0, .int .i64 0, .int .i64 0, .bool false]] true, rdc 384 l x3 c3, .row 38 3 [encS P] true, grO 38 3 (acc.map encS), .row 38 3 [encS ⟨P.t + n1, P.v + n2, n3⟩] true]) (fun _ => rfl) (by kernel_rfl) (by first | (simp; done) | omega) (by first | (simp; done) | (simp; omega) | omega) kl ?_ (fun _ _ _ _ => ?_)
      · refine SWp.of (by kernel_rfl) ?_
        simp (disch := first | omega | (simp only [go_sem]; first | done | omega)) only [go_sem]
        repeat' (first | ((first | refine acond_d ?_ ?_ | refine acond_b ?_ ?_ | refine ag_d ?_ ?_ | refine ag_n ?_ ?_ | refine ag_bt ?_ ?_ | refine ag_bf ?_ ?_ | refine agt_d ?_ ?_ | refine agt_n ?_ ?_ | refine agt_bt ?_ ?_ | refine agt_bf ?_ ?_) <;> intro c <;> try simp (disch := first | omega | (simp only [go_sem]; first | done | omega)) only [go_sem, c]) | ((first | refine w_draw (by kernel_rfl) (by decide +kernel) ?_ | refine w_tree (.one 0 (.one 2 (.one 5 (.one 7 (.one 10 (.four 1 (.three 3 (.one 4 (.three 6 (.two 8 (.one 9 (.two 11 (.one 12 (.one 13 (.one 14 .done))) 13 (.one 11 (.one 12 (.one 14 .done))))) 13 (.one 8 (.one 9 (.one 11 (.one 12 (.one 14 .done)))))) 8 (.three 6 (.one 9 (.two 11 (.one 12 (.one 13 (.one 14 .done))) 13 (.one 11 (.one 12 (.one 14 .done))))) 11 (.one 6 (.one 9 (.one 12 (.one 13 (.one 14 .done))))) 13 (.two 6 (.one 9 (.one 11 (.one 12 (.one 14 .done)))) 11 (.one 6 (.one 9 (.one 12 (.one 14 .done)))))) 13 (.two 6 (.one 8 (.one 9 (.one 11 (.one 12 (.one 14 .done))))) 8 (.two 6 (.one 9 (.one 11 (.one 12 (.one 14 .done)))) 11 (.one 6 (.one 9 (.one 12 (.one 14 .done)))))))) 6 (.two 3 (.one 4 (.two 8 (.one 9 (.two 11 (.one 12 (.one 13 (.one 14 .done))) 13 (.one 11 (.one 12 (.one 14 .done))))) 13 (.one 8 (.one 9 (.one 11 (.one 12 (.one 14 .done))))))) 13 (.one 3 (.one 4 (.one 8 (.one 9 (.one 11 (.one 12 (.one 14 .done)))))))) 13 (.two 3 (.one 4 (.two 6 (.one 8 (.one 9 (.one 11 (.one 12 (.one 14 .done))))) 8 (.two 6 (.one 9 (.one 11 (.one 12 (.one 14 .done)))) 11 (.one 6 (.one 9 (.one 12 (.one 14 .done))))))) 6 (.one 3 (.one 4 (.one 8 (.one 9 (.one 11 (.one 12 (.one 14 .done))))))))) 3 (.four 1 (.one 4 (.three 6 (.two 8 (.one 9 (.two 11 (.one 12 (.one 13 (.one 14 .done))) 13 (.one 11 (.one 12 (.one 14 .done))))) 13 (.one 8 (.one 9 (.one 11 (.one 12 (.one 14 .done)))))) 8 (.three 6 (.one 9 (.two 11 (.one 12 (.one 13 (.one 14 .done))) 13 (.one 11 (.one 12 (.one 14 .done))))) 11 (.one 6 (.one 9 (.one 12 (.one 13 (.one 14 .done))))) 13 (.two 6 (.one 9 (.one 11 (.one 12 (.one 14 .done)))) 11 (.one 6 (.one 9 (.one 12 (.one 14 .done)))))) 13 (.two 6 (.one 8 (.one 9 (.one 11 (.one 12 (.one 14 .done))))) 8 (.two 6 (.one 9 (.one 11 (.one 12 (.one 14 .done)))) 11 (.one 6 (.one 9 (.one 12 (.one 14 .done)))))))) 6 (.three 1 (.one 4 (.two 8 (.one 9 (.two 11 (.one 12 (.one 13 (.one 14 .done))) 13 (.one 11 (.one 12 (.one 14 .done))))) 13 (.one 8 (.one 9 (.one 11 (.one 12 (.one 14 .done))))))) 8 (.one 9 (.three 1 (.one 4 (.two 11 (.one 12 (.one 13 (.one 14 .done))) 13 (.one 11 (.one 12 (.one 14 .done))))) 11 (.one 1 (.one 4 (.one 12 (.one 13 (.one 14 .done))))) 13 (.two 1 (.one 4 (.one 11 (.one 12 (.one 14 .done)))) 11 (.one 1 (.one 4 (.one 12 (.one 14 .done))))))) 13 (.two 1 (.one 4 (.one 8 (.one 9 (.one 11 (.one 12 (.one 14 .done)))))) 8 (.one 9 (.two 1 (.one 4 (.one 11 (.one 12 (.one 14 .done)))) 11 (.one 1 (.one 4 (.one 12 (.one 14 .done)))))))) 8 (.four 1 (.one 4 (.three 6 (.one 9 (.two 11 (.one 12 (.one 13 (.one 14 .done))) 13 (.one 11 (.one 12 (.one 14 .done))))) 11 (.one 6 (.one 9 (.one 12 (.one 13 (.one 14 .done))))) 13 (.two 6 (.one 9 (.one 11 (.one 12 (.one 14 .done)))) 11 (.one 6 (.one 9 (.one 12 (.one 14 .done))))))) 6 (.one 9 (.three 1 (.one 4 (.two 11 (.one 12 (.one 13 (.one 14 .done))) 13 (.one 11 (.one 12 (.one 14 .done))))) 11 (.one 1 (.one 4 (.one 12 (.one 13 (.one 14 .done))))) 13 (.two 1 (.one 4 (.one 11 (.one 12 (.one 14 .done)))) 11 (.one 1 (.one 4 (.one 12 (.one 14 .done))))))) 11 (.one 1 (.one 4 (.one 6 (.one 9 (.one 12 (.one 13 (.one 14 .done))))))) 13 (.three 1 (.one 4 (.two 6 (.one 9 (.one 11 (.one 12 (.one 14 .done)))) 11 (.one 6 (.one 9 (.one 12 (.one 14 .done)))))) 6 (.one 9 (.two 1 (.one 4 (.one 11 (.one 12 (.one 14 .done)))) 11 (.one 1 (.one 4 (.one 12 (.one 14 .done)))))) 11 (.one 1 (.one 4 (.one 6 (.one 9 (.one 12 (.one 14 .done)))))))) 13 (.three 1 (.one 4 (.two 6 (.one 8 (.one 9 (.one 11 (.one 12 (.one 14 .done))))) 8 (.two 6 (.one 9 (.one 11 (.one 12 (.one 14 .done)))) 11 (.one 6 (.one 9 (.one 12 (.one 14 .done))))))) 6 (.two 1 (.one 4 (.one 8 (.one 9 (.one 11 (.one 12 (.one 14 .done)))))) 8 (.one 9 (.two 1 (.one 4 (.one 11 (.one 12 (.one 14 .done)))) 11 (.one 1 (.one 4 (.one 12 (.one 14 .done))))))) 8 (.three 1 (.one 4 (.two 6 (.one 9 (.one 11 (.one 12 (.one 14 .done)))) 11 (.one 6 (.one 9 (.one 12 (.one 14 .done)))))) 6 (.one 9 (.two 1 (.one 4 (.one 11 (.one 12 (.one 14 .done)))) 11 (.one 1 (.one 4 (.one 12 (.one 14 .done)))))) 11 (.one 1 (.one 4 (.one 6 (.one 9 (.one 12 (.one 14 .done))))))))) 6 (.three 1 (.two 3 (.one 4 (.two 8 (.one 9 (.two 11 (.one 12 (.one 13 (.one 14 .done))) 13 (.one 11 (.one 12 (.one 14 .done))))) 13 (.one 8 (.one 9 (.one 11 (.one 12 (.one 14 .done))))))) 13 (.one 3 (.one 4 (.one 8 (.one 9 (.one 11 (.one 12 (.one 14 .done)))))))) 3 (.three 1 (.one 4 (.two 8 (.one 9 (.two 11 (.one 12 (.one 13 (.one 14 .done))) 13 (.one 11 (.one 12 (.one 14 .done))))) 13 (.one 8 (.one 9 (.one 11 (.one 12 (.one 14 .done))))))) 8 (.one 9 (.three 1 (.one 4 (.two 11 (.one 12 (.one 13 (.one 14 .done))) 13 (.one 11 (.one 12 (.one 14 .done))))) 11 (.one 1 (.one 4 (.one 12 (.one 13 (.one 14 .done))))) 13 (.two 1 (.one 4 (.one 11 (.one 12 (.one 14 .done)))) 11 (.one 1 (.one 4 (.one 12 (.one 14 .done))))))) 13 (.two 1 (.one 4 (.one 8 (.one 9 (.one 11 (.one 12 (.one 14 .done)))))) 8 (.one 9 (.two 1 (.one 4 (.one 11 (.one 12 (.one 14 .done)))) 11 (.one 1 (.one 4 (.one 12 (.one 14 .done)))))))) 13 (.two 1 (.one 3 (.one 4 (.one 8 (.one 9 (.one 11 (.one 12 (.one 14 .done))))))) 3 (.two 1 (.one 4 (.one 8 (.one 9 (.one 11 (.one 12 (.one 14 .done)))))) 8 (.one 9 (.two 1 (.one 4 (.one 11 (.one 12 (.one 14 .done)))) 11 (.one 1 (.one 4 (.one 12 (.one 14 .done))))))))) 13 (.three 1 (.two 3 (.one 4 (.two 6 (.one 8 (.one 9 (.one 11 (.one 12 (.one 14 .done))))) 8 (.two 6 (.one 9 (.one 11 (.one 12 (.one 14 .done)))) 11 (.one 6 (.one 9 (.one 12 (.one 14 .done))))))) 6 (.one 3 (.one 4 (.one 8 (.one 9 (.one 11 (.one 12 (.one 14 .done)))))))) 3 (.three 1 (.one 4 (.two 6 (.one 8 (.one 9 (.one 11 (.one 12 (.one 14 .done))))) 8 (.two 6 (.one 9 (.one 11 (.one 12 (.one 14 .done)))) 11 (.one 6 (.one 9 (.one 12 (.one 14 .done))))))) 6 (.two 1 (.one 4 (.one 8 (.one 9 (.one 11 (.one 12 (.one 14 .done)))))) 8 (.one 9 (.two 1 (.one 4 (.one 11 (.one 12 (.one 14 .done)))) 11 (.one 1 (.one 4 (.one 12 (.one 14 .done))))))) 8 (.three 1 (.one 4 (.two 6 (.one 9 (.one 11 (.one 12 (.one 14 .done)))) 11 (.one 6 (.one 9 (.one 12 (.one 14 .done)))))) 6 (.one 9 (.two 1 (.one 4 (.one 11 (.one 12 (.one 14 .done)))) 11 (.one 1 (.one 4 (.one 12 (.one 14 .done)))))) 11 (.one 1 (.one 4 (.one 6 (.one 9 (.one 12 (.one 14 .done)))))))) 6 (.two 1 (.one 3 (.one 4 (.one 8 (.one 9 (.one 11 (.one 12 (.one 14 .done))))))) 3 (.two 1 (.one 4 (.one 8 (.one 9 (.one 11 (.one 12 (.one 14 .done)))))) 8 (.one 9 (.two 1 (.one 4 (.one 11 (.one 12 (.one 14 .done)))) 11 (.one 1 (.one 4 (.one 12 (.one 14 .done))))))))))))))) (by kernel_rfl) (by decide +kernel) ?_ | refine numR_a l q b _ _ n1 x1 c1 f1 hq (by omega) (by first | ((repeat first | exact at0 (by simp) | refine atS ?_); done) | assumption) ?_ | refine numR_a l x1 c1 _ _ n2 x2 c2 f2 g1 (by omega) (by first | ((repeat first | exact at0 (by simp) | refine atS ?_); done) | assumption) ?_ | refine numR_a l x2 c2 _ _ n3 x3 c3 f3 g2 (by omega) (by first | ((repeat first | exact at0 (by simp) | refine atS ?_); done) | assumption) ?_) <;> try simp (disch := first | omega | (simp only [go_sem]; first | done | omega)) only [go_sem]) | (refine And.intro ?_ ?_ <;> try simp (disch := first | omega | (simp only [go_sem]; first | done | omega)) only [go_sem]))
        trace_state
        all_goals
          refine Next.mk () trivial ?_
          exact wk
      · refine SWp.of (by kernel_rfl) ?_
        simp (disch := first | omega | (simp only [go_sem]; first | done | omega)) only [go_sem]
        repeat' (first | ((first | refine acond_d ?_ ?_ | refine acond_b ?_ ?_ | refine ag_d ?_ ?_ | refine ag_n ?_ ?_ | refine ag_bt ?_ ?_ | refine ag_bf ?_ ?_ | refine agt_d ?_ ?_ | refine agt_n ?_ ?_ | refine agt_bt ?_ ?_ | refine agt_bf ?_ ?_) <;> intro c <;> try simp (disch := first | omega | (simp only [go_sem]; first | done | omega)) only [go_sem, c]) | ((first | refine w_draw (by kernel_rfl) (by decide +kernel) ?_ | refine app_gr (enc := encS) (e := 38) (sz := 3) (bs := 24) (z := [.int .i64 0, .int .i64 0, .int .i64 0]) acc ⟨P.t + n1, P.v + n2, n3⟩ (by kernel_rfl) (by kernel_rfl) (by kernel_rfl) (by kernel_rfl) (by first | ((repeat first | exact at0 (by simp) | refine atS ?_); done) | assumption) (by simp [srcO, encS]) rfl (by decide) (by omega) (by omega) (by rfl) ?_ | refine w_tree (.one 0 (.one 1 (.two 2 (.two 3 (.one 4 (.one 5 (.one 6 .done))) 4 (.one 3 (.one 5 (.one 6 .done)))) 4 (.one 2 (.one 3 (.one 5 (.one 6 .done))))))) (by kernel_rfl) (by decide +kernel) ?_) <;> try simp (disch := first | omega | (simp only [go_sem]; first | done | omega)) only [go_sem]) | (refine And.intro ?_ ?_ <;> try simp (disch := first | omega | (simp only [go_sem]; first | done | omega)) only [go_sem]))
        all_goals
          refine SWp.of (by kernel_rfl) ?_
          simp (disch := first | omega | (simp only [go_sem]; first | done | omega)) only [go_sem]
          refine Next.mk (k + 1, x3, c3, ⟨P.t + n1, P.v + n2, n3⟩, acc ++ [⟨P.t + n1, P.v + n2, n3⟩]) ⟨⟨by dsimp only; omega, by have := numF_ge' f1; have := numF_ge' f2; have := numF_ge' f3; dsimp only; omega, g3, ⟨by dsimp only; omega, by dsimp only; omega⟩, ⟨by dsimp only; omega, by dsimp only; omega⟩, by simp [hacc], by simp, by dsimp only; rw [hjn]; exact hnext⟩, by dsimp only; omega⟩ ?_
          (try dsimp only)
          ((try simp (disch := first | omega | (simp only [go_sem]; first | done | omega)) only [go_sem]); (refine WkL.pickAt [_, _, _] [3] ?_ ?_ ?_ rfl ?_ ?_ ?_ ?_) <;> first | (simp only [List.map_cons, List.map_nil, av_ren_gr]; (try simp only [AV.ren, AV.ren1, AC.ren, renP]); (try simp only [pickS_add, pickS_zero]); rfl) | (simp only [List.all_cons, List.all_nil, Bool.and_true, Bool.and_eq_true]; (repeat' apply And.intro) <;> first | exact pureO_gr (pureL_map _ (fun x => by simp [go_sem, AC.pure])) | (simp [AObj.pureO, pureL, go_sem, AC.pure]; done)) | assumption | exact HOk.str (by assumption) | (simp; done) | (simp; omega) | (simp [pureO_gr, AObj.pureO, pureL, go_sem, AC.pure]; done) | (simp only [List.all_cons, List.all_nil, Bool.and_true]; exact pureO_gr (pureL_map _ (fun x => by simp [go_sem, AC.pure]))) | ((try simp only [List.map_cons, List.map_nil, av_ren_gr]); simp [AV.ren, AV.ren1, AC.ren, renP, pickS]; first | done | omega) | (simp only [List.forall_mem_cons, List.not_mem_nil, false_implies, implies_true, and_true]; (repeat' apply And.intro) <;> first | trivial | exact grV_ok (by simp) _ | exact okN_grO (fun x => by simp [go_sem, AC.pure]) | exact okN_map (fun x => by simp [go_sem, AC.pure]) | (simp [AV.ok, AV.ok1, AC.ok]; done) | (simp [AV.ok, AV.ok1, AC.ok]; omega) | (simp [AObj.okN, AC.ok]; done)) | (simp [AObj.okN]; done))
    · have e0 : ¬ (k : Int) < m := by omega
      have hz : m - k = 0 := by omega
      rw [hz] at hsm
      refine SWp.go (by kernel_rfl) ?_
      simp (disch := first | omega | (simp only [go_sem]; first | done | omega)) only [go_sem, e0]
      refine SWp.go (by kernel_rfl) ?_
      simp (disch := first | omega | (simp only [go_sem]; first | done | omega)) only [go_sem]
      refine Next.mk (q, b, P, acc) ⟨hpq, hq, by dsimp only; omega, hlst, by simpa [smps] using hsm⟩ ?_
      exact wk
  obtain ⟨q, b, P, acc⟩ := s
  obtain ⟨hpq, hq, hacc, hlst, hsm⟩ := hs
  dsimp only at hpq hq hacc hlst hsm ⊢
  refine SWp.of (by kernel_rfl) ?_
  simp (disch := first | omega | (simp only [go_sem]; first | done | omega)) only [go_sem]
  refine bytesR_a l (q, b) 2 (by omega) (by omega) (by first | ((repeat first | exact at0 (by simp) | refine atS ?_); done) | assumption) hq (by omega) ?_
  rcases hsm with ⟨rfl, hd⟩ | ⟨rfl, hd⟩
  · rw [hd] at hk
    rw [bytF_bad]
    dsimp only [List.map_nil]
    simp (disch := first | omega | (simp only [go_sem]; first | done | omega)) only [go_sem]
    exact Ret.bad hH (Nat.le_refl _) hb0 hk
  by_cases h8 : (l.length : Int) - q < 2
  · have hd : decP l p = none := by rw [hd]; unfold fin3; dsimp only; rw [if_pos (by omega)]
    rw [hd] at hk
    rw [bytF_short _ h8]
    dsimp only [List.map_nil]
    simp (disch := first | omega | (simp only [go_sem]; first | done | omega)) only [go_sem]
    exact Ret.bad hH (Nat.le_refl _) hb0 hk
  rw [bytF_good h8]
  have hd : decP l p = some (l[p + 1], tag, acc, q) := by rw [hd]; unfold fin3; dsimp only; rw [if_neg (by omega), getD_at hlt1]
  rw [hd] at hk
  dsimp only at hk
  rw [getD_at (show q < l.length by omega), getD_at (show q + 1 < l.length by omega)] at hk
  rw [show (2 : Int).toNat = 2 by rfl, take_two (show q + 1 < l.length by omega)]
  have hs1 : (l[q]).toNat < 256 := UInt8.toNat_lt _
  have hs2 : (l[q + 1]).toNat < 256 := UInt8.toNat_lt _
  have hle : ((l.drop p).take (q - p)).length ≤ 1000000000 := by simp; omega
  simp (disch := first | omega | (simp only [go_sem]; first | done | omega)) only [go_sem]
  refine w_drawS specU_ok (by kernel_rfl) (by decide +kernel) ?_
  simp (disch := first | omega | (simp only [go_sem]; first | done | omega)) only [go_sem]
  by_cases h9 : (l[q]).toNat * 256 + (l[q + 1]).toNat = csum ((l.drop p).take (q - p))
  case neg =>
    rw [if_pos h9] at hk
    have e9 : ((((l[q]).toNat : Nat) : Int) * 256 + (((l[q + 1]).toNat : Nat) : Int) = ((csum ((l.drop p).take (q - p)) : Nat) : Int)) = False := by simp only [eq_iff_iff, iff_false]; omega
    simp (disch := first | omega | (simp only [go_sem]; first | done | omega)) only [go_sem, e9]
    exact Ret.bad hH (Nat.le_refl _) hb0 hk
  rw [if_neg (by simpa using h9)] at hk
  have e9 : ((((l[q]).toNat : Nat) : Int) * 256 + (((l[q + 1]).toNat : Nat) : Int) = ((csum ((l.drop p).take (q - p)) : Nat) : Int)) = True := by simp only [eq_iff_iff, iff_true]; omega
  simp (disch := first | omega | (simp only [go_sem]; first | done | omega)) only [go_sem, e9]
  refine keyR_a tag (by omega) ?_
  by_cases h10 : isKey tag
  case neg =>
    rw [if_pos h10] at hk
    rw [decide_eq_false h10]
    simp (disch := first | omega | (simp only [go_sem]; first | done | omega)) only [go_sem]
    exact Ret.bad hH (Nat.le_refl _) hb0 hk
  rw [if_neg (by simpa using h10)] at hk
  rw [decide_eq_true h10]
  simp (disch := first | omega | (simp only [go_sem]; first | done | omega)) only [go_sem]
  rw [← map_grV encS]
  refine ACalls.lendGr (.c (.int .i64 (serF acc))) (by first | ((repeat first | exact at0 (by simp) | refine atS ?_); done) | assumption) (pureL_map _ (fun x => by simp [go_sem, AC.pure])) rfl rfl rfl (by simp) (fun G J hJ => seriesFault_a acc (by omega) hJ) ?_
  simp (disch := first | omega | (simp only [go_sem]; first | done | omega)) only [go_sem]
  by_cases h11 : serF acc = 0
  case neg =>
    rw [if_pos h11] at hk
    simp (disch := first | omega | (simp only [go_sem]; first | done | omega)) only [go_sem, h11]
    exact Ret.bad hH (Nat.le_refl _) hb0 hk
  rw [if_neg (by simpa using h11)] at hk
  have hm0 : 0 < acc.length := by omega
  have eh : acc.headD ⟨0, 0, 0⟩ = acc[0] := by cases acc with | nil => simp at hm0 | cons a t => rfl
  rw [eh, ← hlst] at hk
  have hne : acc ≠ [] := by intro h; rw [h] at hm0; simp at hm0
  rw [map_grV, grV_pos _ hne]
  simp (disch := first | omega | (simp only [go_sem]; first | done | omega)) only [go_sem, h11]
  have hrow : grO 38 3 (acc.map encS) = .row 38 3 (acc.map encS) true := grO_pos _ _ (by simpa using hne)
  rw [hrow]
  refine w_draw (by kernel_rfl) (by decide +kernel) ?_
  simp (disch := first | omega | (simp only [go_sem]; first | done | omega)) only [go_sem]
  rw [hacc] at hk
  refine Ret.frzAt 3 hH (Nat.le_refl _) hk rfl (pureL_map _ (fun x => by simp [go_sem, AC.pure])) ?_ ?_
  · intro v hv
    simp only [List.mem_cons, List.not_mem_nil, or_false] at hv
    rcases hv with rfl | rfl | rfl
    · simp [AV.ok1, encBk, AC.ok]
    · trivial
    · trivial
  · simp [AV.frz, AV.frz1, AC.frz, encBk]
    exact List.take_of_length_le (by simp)
end Go.Proofs.YtnodfnjmhcjnfaaGreatDoor
