/- A block, decoded. Condition: the bytes fit. -/
import Derived.Test.YtnodfnjmhcjnfaaGreatDoorHVRead2
import Derived.Test.YtnodfnjmhcjnfaaGreatDoorHCoreDrawS
namespace Go.Proofs.YtnodfnjmhcjnfaaGreatDoor
open Go Go.RowKit
set_option maxRecDepth 100000
set_option linter.all false
set_option maxHeartbeats 2000000
variable {H : Hp} {K : AV → Hp → Prop}
structure Blk where
  at_ : Int
  long : Int
  tag : ByteArray
  first : Int
  last : Int
  count : Int
  over : Bool
instance : Inhabited Blk := ⟨⟨0, 0, ⟨#[]⟩, 0, 0, 0, false⟩⟩
def blk0 : Blk := ⟨0, 0, ⟨#[]⟩, 0, 0, 0, false⟩
def encBk (b : Blk) : List AC := [.int .i64 b.at_, .int .i64 b.long, .str b.tag, .int .i64 b.first, .int .i64 b.last, .int .i64 b.count, .bool b.over]
def strU (l : List UInt8) : ByteArray := ⟨l.toArray⟩
def decP (l : List UInt8) (p : Nat) : Option (UInt8 × ByteArray × List Smp × Nat) :=
  if ¬ (p + 2 ≤ l.length ∧ (l.getD (p + 1) 0).toNat ≤ 1) then none else
  match uvR l (p + 2) with
  | none => none
  | some (n, x) => if ¬ (1 ≤ n ∧ n ≤ 40 ∧ x + n.toNat ≤ l.length) then none else
    match uvR l (x + n.toNat) with
    | none => none
    | some (m, y) => if ¬ (1 ≤ m ∧ m ≤ 100) then none else
      match smps l m.toNat y ⟨0, 0, 0⟩ with
      | none => none
      | some (ss, e) => if ¬ e + 2 ≤ l.length then none else some (l.getD (p + 1) 0, strU ((l.drop x).take n.toNat), ss, e)
def decRes (l : List UInt8) (p : Nat) : Blk × List Smp × Int :=
  if p = l.length then (blk0, [], 8) else
  if (l.getD p 0).toNat ≠ 167 then (blk0, [], 3) else
  match decP l p with
  | none => (blk0, [], 9)
  | some (kind, tag, ss, e) =>
    if (l.getD e 0).toNat * 256 + (l.getD (e + 1) 0).toNat ≠ csum ((l.drop p).take (e - p)) then (blk0, [], 15) else
    if ¬ isKey tag then (blk0, [], 5) else
    if serF ss ≠ 0 then (blk0, [], serF ss) else
    (⟨p, ((e + 2 : Nat) : Int) - p, tag, (ss.headD ⟨0, 0, 0⟩).t, (ss.getLastD ⟨0, 0, 0⟩).t, ss.length, decide ((kind.toNat : Int) = 1)⟩, ss, 0)
theorem Ret.bad {A G : Hp} {n : Nat} {cs : List AC} {e : Int} (hA : HOk A) (hn : n ≤ A.length) (hc : ∀ x ∈ cs, x.ok A.length) (hk : K (.tup [.agg cs, .c (.lst 3 []), (.c (.int .i64 e))]) A) : Ret n (.tup [.agg cs, .c (.sl none 0), (.c (.int .i64 e))]) (A ++ G) K := by
  refine Ret.nil [0, 3] (by simp; omega) ?_
  show Ret n (.tup [.agg cs, .c (.lst 3 []), (.c (.int .i64 e))]) (A ++ G) K
  refine Ret.drop hA hn ?_ hk
  intro x hx
  simp only [List.mem_cons, List.not_mem_nil, or_false] at hx
  rcases hx with rfl | rfl | rfl
  · exact hc
  · trivial
  · trivial
theorem getD_at {l : List UInt8} {p : Nat} (h : p < l.length) : l.getD p 0 = l[p] := by simp [List.getD, h]
@[go_sem] theorem unbyte_nil : unbyte [] = some [] := (rfl)
@[go_sem] theorem cutU_go (l : List UInt8) (p n : Nat) : ((l.map encU).drop p).take n = ((l.drop p).take n).map encU := cutU l p n
def domU (f : FuncId) : Bool := Nat.beq f 250 || Nat.beq f 338
def spU (_ : FuncId) (args : List AV) : Option AV := match args with
  | [.c (.lst 1 els)] => if els.length ≤ 1000000000 then (unbyte els).map fun l => (.c (.int .i64 ((csum l : Nat)))) else none
  | _ => none
@[go_sem] theorem domU_y : domU 250 = true := (rfl)
@[go_sem] theorem domU_z : domU 338 = true := (rfl)
@[go_sem] theorem spU_go (f : FuncId) (l : List UInt8) (h : l.length ≤ 1000000000) : spU f [.c (.lst 1 (l.map encU))] = some (.c (.int .i64 ((csum l : Nat)))) := by
  simp [spU, h, unbyte_map]
theorem unbyte_inv : ∀ (els : List (List AC)) (l : List UInt8), unbyte els = some l → els = l.map encU
  | [], l, h => by simp only [unbyte, Option.some.injEq] at h; subst h; rfl
  | e :: els, l, h => by
    unfold unbyte at h
    split at h
    · cases ‹e :: els = []›
    · rename_i n els' he
      injection he with h1 h2
      subst h1; subst h2
      split at h
      · rename_i hn
        obtain ⟨l', h3, h4⟩ := Option.map_eq_some_iff.1 h
        subst h4
        rw [unbyte_inv els l' h3]
        simp only [List.map_cons, encU, List.cons.injEq, AC.int.injEq, and_true, true_and]
        rw [UInt8.toNat_ofNat']
        omega
      · cases h
    · cases h
theorem specU_ok : SpecOk Tryz.prog domU spU := by
  intro f args v H K hd hs hk
  unfold spU at hs
  split at hs
  · rename_i els
    split at hs
    · rename_i hl
      obtain ⟨l, h1, h2⟩ := Option.map_eq_some_iff.1 hs
      have h3 := unbyte_inv els l h1
      subst h2; subst h3
      unfold domU at hd
      simp only [Bool.or_eq_true] at hd
      rcases hd with hd | hd <;> (have hf := Nat.eq_of_beq_eq_true hd; subst hf)
      · exact ⟨by kernel_rfl, rfl, checksum_a l (by simp at hl; omega) hk⟩
      · exact ⟨by kernel_rfl, rfl, checksumR_a l (by simp at hl; omega) hk⟩
    · cases hs
  · cases hs
theorem smps_len {l : List UInt8} : ∀ (k p : Nat) (s : Smp) (ss : List Smp) (e : Nat), smps l k p s = some (ss, e) → ss.length = k ∧ p ≤ e ∧ (p ≤ l.length → e ≤ l.length)
  | 0, p, s, ss, e, h => by
    simp only [smps, Option.some.injEq, Prod.mk.injEq] at h
    obtain ⟨rfl, rfl⟩ := h
    exact ⟨rfl, Nat.le_refl _, id⟩
  | k + 1, p, s, ss, e, h => by
    unfold smps at h
    split at h
    · cases h
    · rename_i a p1 h1
      split at h
      · cases h
      · rename_i v p2 h2
        split at h
        · cases h
        · rename_i q p3 h3
          obtain ⟨r, h4, h5⟩ := Option.map_eq_some_iff.1 h
          obtain ⟨r1, r2⟩ := r
          simp only [Prod.mk.injEq] at h5
          obtain ⟨rfl, rfl⟩ := h5
          obtain ⟨g1, g2, g3⟩ := smps_len k p3 _ r1 r2 h4
          have b1 := unvarint_le h1
          have b2 := unvarint_le h2
          have b3 := unvarint_le h3
          exact ⟨by simp [g1], by omega, fun hp => g3 (b3.2.1 (b2.2.1 (b1.2.1 hp)))⟩
theorem take_one {l : List UInt8} {p : Nat} (h : p < l.length) : (l.drop p).take 1 = [l[p]] := by
  rw [List.drop_eq_getElem_cons h]; rfl
theorem take_two {l : List UInt8} {p : Nat} (h : p + 1 < l.length) : (l.drop p).take 2 = [l[p], l[p + 1]] := by
  rw [List.drop_eq_getElem_cons (by omega), List.drop_eq_getElem_cons (i := p + 1) h]; rfl
theorem decode_a (l : List UInt8) (p : Nat) (hp : p ≤ l.length) (hl : l.length ≤ 100000000) (hk : K (.tup [.agg (encBk (decRes l p).1), .c (.lst 3 ((decRes l p).2.1.map encS)), (.c (.int .i64 ((decRes l p).2.2)))]) H) : ACalls Tryz.prog 212 [.c (.lst 1 (l.map encU)), (.c (.int .i64 p))] H K := by
  have hb0 : ∀ x ∈ encBk blk0, x.ok H.length := by simp [encBk, blk0, AC.ok]
  unfold decRes at hk
  by_cases h0 : p = l.length
  · rw [if_pos h0] at hk
    have e0 : ((p : Int) = l.length) = True := by simp [h0]
    refine acalls Tryz.func212 rfl (by kernel_rfl) (by simp (disch := first | omega | (simp only [go_sem]; first | done | omega)) only [go_sem]) (fun hH => ?_)
    simp (disch := first | omega | (simp only [go_sem]; first | done | omega)) only [go_sem, e0]
    exact Ret.bad hH (Nat.le_refl _) hb0 hk
  rw [if_neg h0] at hk
  have e0 : ((p : Int) = l.length) = False := by simp; omega
  have hlt : p < l.length := by omega
  rw [getD_at hlt] at hk
  have hcc256 : (l[p]).toNat < 256 := UInt8.toNat_lt _
  by_cases h1 : (l[p]).toNat = 167
  case neg =>
    rw [if_pos h1] at hk
    have e1 : ((((l[p]).toNat : Nat) : Int) = 167) = False := by simp; omega
    refine acalls Tryz.func212 rfl (by kernel_rfl) (by simp (disch := first | omega | (simp only [go_sem]; first | done | omega)) only [go_sem]) (fun hH => ?_)
    simp (disch := first | omega | (simp only [go_sem]; first | done | omega)) only [go_sem, e0, e1]
    exact Ret.bad hH (Nat.le_refl _) hb0 hk
  rw [if_neg (by simpa using h1)] at hk
  have e1 : ((((l[p]).toNat : Nat) : Int) = 167) = True := by simp; omega
  refine acalls Tryz.func212 rfl (by kernel_rfl) (by simp (disch := first | omega | (simp only [go_sem]; first | done | omega)) only [go_sem]) (fun hH => ?_)
  simp (disch := first | omega | (simp only [go_sem]; first | done | omega)) only [go_sem, e0, e1]
  refine bytesG_a l (p + 1) 1 (by first | ((repeat first | exact at0 (by simp) | refine atS ?_); done) | assumption) (by omega) (by omega) (by omega) (fun h2 => ?_) (fun h2 => ?_)
  · have hlt1 : p + 1 < l.length := by omega
    rw [take_one hlt1]
    have hcb : (l[p + 1]).toNat < 256 := UInt8.toNat_lt _
    have hdP : decP l p = if ¬ ((l[p + 1]).toNat ≤ 1) then none else decP l p := by
      by_cases h3 : (l[p + 1]).toNat ≤ 1
      · rw [if_neg (by simpa using h3)]
      · rw [if_pos h3]; unfold decP; rw [if_pos (by rw [getD_at hlt1]; exact fun h => h3 h.2)]
    by_cases h3 : (l[p + 1]).toNat ≤ 1
    case neg =>
      rw [if_pos h3] at hdP
      rw [hdP] at hk
      have e3 : ((1 : Int) < ((l[p + 1]).toNat : Nat)) = True := by simp; omega
      simp (disch := first | omega | (simp only [go_sem]; first | done | omega)) only [go_sem, e3]
      exact Ret.bad hH (Nat.le_refl _) hb0 hk
    have e3 : ((1 : Int) < ((l[p + 1]).toNat : Nat)) = False := by simp; omega
    clear hdP
    simp (disch := first | omega | (simp only [go_sem]; first | done | omega)) only [go_sem, e3]
    refine withinG_a l (p + 2) 1 40 (by first | ((repeat first | exact at0 (by simp) | refine atS ?_); done) | assumption) (by omega) (by omega) (fun n x h4 r1 r2 => ?_) (fun h4 x n _ => ?_)
    case refine_2 =>
      have hd : decP l p = none := by
        unfold decP
        rw [if_neg (by rw [getD_at hlt1]; simp; omega)]
        cases hu : uvR l (p + 2) with
        | none => rfl
        | some q => obtain ⟨n', x'⟩ := q; dsimp only; rw [if_pos (fun h => h4 n' x' hu ⟨h.1, h.2.1⟩)]
      rw [hd] at hk
      simp (disch := first | omega | (simp only [go_sem]; first | done | omega)) only [go_sem]
      refine bytesB_a l _ _ (by first | ((repeat first | exact at0 (by simp) | refine atS ?_); done) | assumption) ?_
      simp (disch := first | omega | (simp only [go_sem]; first | done | omega)) only [go_sem]
      refine withinB_a l _ 1 100 (by omega) (by first | ((repeat first | exact at0 (by simp) | refine atS ?_); done) | assumption) ?_
      simp (disch := first | omega | (simp only [go_sem]; first | done | omega)) only [go_sem]
      refine samplesB_a l _ _ (by first | ((repeat first | exact at0 (by simp) | refine atS ?_); done) | assumption) ?_
      simp (disch := first | omega | (simp only [go_sem]; first | done | omega)) only [go_sem]
      refine bytesB_a l _ _ (by first | ((repeat first | exact at0 (by simp) | refine atS ?_); done) | assumption) ?_
      simp (disch := first | omega | (simp only [go_sem]; first | done | omega)) only [go_sem]
      exact Ret.bad hH (Nat.le_refl _) hb0 hk
    have hx := uvR_len h4 (by omega)
    obtain ⟨n, rfl⟩ := Int.eq_ofNat_of_zero_le (show 0 ≤ n by omega)
    simp (disch := first | omega | (simp only [go_sem]; first | done | omega)) only [go_sem]
    refine bytesG_a l x n (by first | ((repeat first | exact at0 (by simp) | refine atS ?_); done) | assumption) hx (by omega) (by omega) (fun h5 => ?_) (fun h5 => ?_)
    case refine_2 =>
      have hd : decP l p = none := by
        unfold decP
        rw [if_neg (by rw [getD_at hlt1]; simp; omega), h4]
        dsimp only
        rw [if_pos (fun h => h5 (by simpa using h.2.2))]
      rw [hd] at hk
      simp (disch := first | omega | (simp only [go_sem]; first | done | omega)) only [go_sem]
      refine withinB_a l _ 1 100 (by omega) (by first | ((repeat first | exact at0 (by simp) | refine atS ?_); done) | assumption) ?_
      simp (disch := first | omega | (simp only [go_sem]; first | done | omega)) only [go_sem]
      refine samplesB_a l _ _ (by first | ((repeat first | exact at0 (by simp) | refine atS ?_); done) | assumption) ?_
      simp (disch := first | omega | (simp only [go_sem]; first | done | omega)) only [go_sem]
      refine bytesB_a l _ _ (by first | ((repeat first | exact at0 (by simp) | refine atS ?_); done) | assumption) ?_
      simp (disch := first | omega | (simp only [go_sem]; first | done | omega)) only [go_sem]
      exact Ret.bad hH (Nat.le_refl _) hb0 hk
    simp (disch := first | omega | (simp only [go_sem]; first | done | omega)) only [go_sem]
    refine withinG_a l (x + n) 1 100 (by first | ((repeat first | exact at0 (by simp) | refine atS ?_); done) | assumption) h5 (by omega) (fun m y h6 r3 r4 => ?_) (fun h6 y m _ => ?_)
    case refine_2 =>
      have hd : decP l p = none := by
        unfold decP
        rw [if_neg (by rw [getD_at hlt1]; simp; omega), h4]
        dsimp only
        rw [if_neg (by simp; omega)]
        simp only [Int.toNat_natCast]
        cases hu : uvR l (x + n) with
        | none => rfl
        | some q => obtain ⟨n', x'⟩ := q; dsimp only; rw [if_pos (fun h => h6 n' x' hu ⟨h.1, h.2⟩)]
      rw [hd] at hk
      simp (disch := first | omega | (simp only [go_sem]; first | done | omega)) only [go_sem]
      refine samplesB_a l _ _ (by first | ((repeat first | exact at0 (by simp) | refine atS ?_); done) | assumption) ?_
      simp (disch := first | omega | (simp only [go_sem]; first | done | omega)) only [go_sem]
      refine bytesB_a l _ _ (by first | ((repeat first | exact at0 (by simp) | refine atS ?_); done) | assumption) ?_
      simp (disch := first | omega | (simp only [go_sem]; first | done | omega)) only [go_sem]
      exact Ret.bad hH (Nat.le_refl _) hb0 hk
    have hy := uvR_len h6 h5
    obtain ⟨m, rfl⟩ := Int.eq_ofNat_of_zero_le (show 0 ≤ m by omega)
    simp (disch := first | omega | (simp only [go_sem]; first | done | omega)) only [go_sem]
    refine samplesG_a l y m (by first | ((repeat first | exact at0 (by simp) | refine atS ?_); done) | assumption) hy (by omega) (by omega) (fun ss e h7 => ?_) (fun h7 e => ?_)
    case refine_2 =>
      have hd : decP l p = none := by
        unfold decP
        rw [if_neg (by rw [getD_at hlt1]; simp; omega), h4]
        dsimp only
        rw [if_neg (by simp; omega)]
        simp only [Int.toNat_natCast]
        rw [h6]
        dsimp only
        rw [if_neg (by simp; omega)]
        simp only [Int.toNat_natCast]
        rw [h7]
      rw [hd] at hk
      simp (disch := first | omega | (simp only [go_sem]; first | done | omega)) only [go_sem]
      refine bytesB_a l _ _ (by first | ((repeat first | exact at0 (by simp) | refine atS ?_); done) | assumption) ?_
      simp (disch := first | omega | (simp only [go_sem]; first | done | omega)) only [go_sem]
      exact Ret.bad hH (Nat.le_refl _) hb0 hk
    obtain ⟨g1, g2, g3⟩ := smps_len m y _ ss e h7
    have he := g3 hy
    simp (disch := first | omega | (simp only [go_sem]; first | done | omega)) only [go_sem]
    refine bytesG_a l e 2 (by first | ((repeat first | exact at0 (by simp) | refine atS ?_); done) | assumption) he (by omega) (by omega) (fun h8 => ?_) (fun h8 => ?_)
    case refine_2 =>
      have hd : decP l p = none := by
        unfold decP
        rw [if_neg (by rw [getD_at hlt1]; simp; omega), h4]
        dsimp only
        rw [if_neg (by simp; omega)]
        simp only [Int.toNat_natCast]
        rw [h6]
        dsimp only
        rw [if_neg (by simp; omega)]
        simp only [Int.toNat_natCast]
        rw [h7]
        dsimp only
        rw [if_pos h8]
      rw [hd] at hk
      simp (disch := first | omega | (simp only [go_sem]; first | done | omega)) only [go_sem]
      exact Ret.bad hH (Nat.le_refl _) hb0 hk
    have hd : decP l p = some (l[p + 1], strU ((l.drop x).take n), ss, e) := by
      unfold decP
      rw [if_neg (by rw [getD_at hlt1]; simp; omega), h4]
      dsimp only
      rw [if_neg (by simp; omega)]
      simp only [Int.toNat_natCast]
      rw [h6]
      dsimp only
      rw [if_neg (by simp; omega)]
      simp only [Int.toNat_natCast]
      rw [h7]
      dsimp only
      rw [if_neg (by simpa using h8), getD_at hlt1]
    rw [hd] at hk
    dsimp only at hk
    rw [getD_at (show e < l.length by omega), getD_at (show e + 1 < l.length by omega)] at hk
    rw [take_two (show e + 1 < l.length by omega)]
    have hs1 : (l[e]).toNat < 256 := UInt8.toNat_lt _
    have hs2 : (l[e + 1]).toNat < 256 := UInt8.toNat_lt _
    have hpe : p ≤ e := by have := unvarint_le h4; have := unvarint_le h6; omega
    have hle : ((l.drop p).take (e - p)).length ≤ 1000000000 := by simp; omega
    simp (disch := first | omega | (simp only [go_sem]; first | done | omega)) only [go_sem]
    refine w_drawS specU_ok (by kernel_rfl) (by decide +kernel) ?_
    simp (disch := first | omega | (simp only [go_sem]; first | done | omega)) only [go_sem]
    by_cases h9 : (l[e]).toNat * 256 + (l[e + 1]).toNat = csum ((l.drop p).take (e - p))
    case neg =>
      rw [if_pos h9] at hk
      have e9 : ((((l[e]).toNat : Nat) : Int) * 256 + (((l[e + 1]).toNat : Nat) : Int) = ((csum ((l.drop p).take (e - p)) : Nat) : Int)) = False := by simp only [eq_iff_iff, iff_false]; omega
      simp (disch := first | omega | (simp only [go_sem]; first | done | omega)) only [go_sem, e9]
      exact Ret.bad hH (Nat.le_refl _) hb0 hk
    rw [if_neg (by simpa using h9)] at hk
    have e9 : ((((l[e]).toNat : Nat) : Int) * 256 + (((l[e + 1]).toNat : Nat) : Int) = ((csum ((l.drop p).take (e - p)) : Nat) : Int)) = True := by simp only [eq_iff_iff, iff_true]; omega
    simp (disch := first | omega | (simp only [go_sem]; first | done | omega)) only [go_sem, e9]
    have htg : (strU ((l.drop x).take n)).size ≤ 40 := by show ((l.drop x).take n).toArray.size ≤ 40; simp; omega
    refine key_a (strU ((l.drop x).take n)) (by omega) ?_
    by_cases h10 : isKey (strU ((l.drop x).take n))
    case neg =>
      rw [if_pos h10] at hk
      rw [decide_eq_false h10]
      simp (disch := first | omega | (simp only [go_sem]; first | done | omega)) only [go_sem]
      exact Ret.bad hH (Nat.le_refl _) hb0 hk
    rw [if_neg (by simpa using h10)] at hk
    rw [decide_eq_true h10]
    simp (disch := first | omega | (simp only [go_sem]; first | done | omega)) only [go_sem]
    refine checkSeries_a ss (by omega) ?_
    simp (disch := first | omega | (simp only [go_sem]; first | done | omega)) only [go_sem]
    by_cases h11 : serF ss = 0
    case neg =>
      rw [if_pos h11] at hk
      simp (disch := first | omega | (simp only [go_sem]; first | done | omega)) only [go_sem, h11]
      exact Ret.bad hH (Nat.le_refl _) hb0 hk
    rw [if_neg (by simpa using h11)] at hk
    have hm0 : 0 < ss.length := by omega
    have hlast : ss.length - 1 < ss.length := by omega
    have eh : ss.headD ⟨0, 0, 0⟩ = ss[0] := by cases ss with | nil => simp at hm0 | cons a t => rfl
    have el : ss.getLastD ⟨0, 0, 0⟩ = ss[ss.length - 1] := by
      cases ss with
      | nil => simp at hm0
      | cons a t => rw [List.getLastD_cons, List.getLastD_eq_getLast?]; simp [List.getLast?_eq_getElem?]; cases t <;> simp
    rw [eh, el] at hk
    simp (disch := first | omega | (simp only [go_sem]; first | done | omega)) only [go_sem, h11]
    refine w_draw (by kernel_rfl) (by decide +kernel) ?_
    simp (disch := first | omega | (simp only [go_sem]; first | done | omega)) only [go_sem]
    simp only [show ((ss.length : Int) - 1).toNat = ss.length - 1 by omega]
    refine Ret.drop hH (Nat.le_refl _) ?_ hk
    intro v hv
    simp only [List.mem_cons, List.not_mem_nil, or_false] at hv
    rcases hv with rfl | rfl | rfl
    · simp [AV.ok1, AC.ok]
    · trivial
    · trivial
  · have hd : decP l p = none := by unfold decP; rw [if_pos (fun h => h2 (by omega))]
    rw [hd] at hk
    simp (disch := first | omega | (simp only [go_sem]; first | done | omega)) only [go_sem]
    exact Ret.bad hH (Nat.le_refl _) hb0 hk
end Go.Proofs.YtnodfnjmhcjnfaaGreatDoor
