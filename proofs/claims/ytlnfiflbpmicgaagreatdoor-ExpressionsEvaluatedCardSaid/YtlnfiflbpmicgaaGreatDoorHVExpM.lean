/- Several texts in one: Expressions: their tokens, and what is read of them, and what follows. No condition. -/
import Derived.Test.YtlnfiflbpmicgaaGreatDoorHVTxtN
set_option linter.all false
namespace Go.Proofs.YtlnfiflbpmicgaaGreatDoor
open Go Go.RowKit
set_option maxRecDepth 100000
set_option maxHeartbeats 1000000
structure Tok where
  k : Nat
  x : List UInt8
  o : Nat
def isDg (c : UInt8) : Bool := decide (48 ≤ c.toNat ∧ c.toNat ≤ 57)
def isSm (c : UInt8) : Bool := decide (97 ≤ c.toNat ∧ c.toNat ≤ 122)
def isWd (c : UInt8) : Bool := isDg c || isSm c || decide (c.toNat = 95)
def sgnL : List UInt8 := [40, 41, 44, 64, 43, 45, 42, 47, 60, 61]
def tokF : List UInt8 → Nat → List Tok
  | [], o => [⟨0, [], o⟩]
  | c :: r, o =>
    if c = 32 then tokF r (o + 1)
    else if isDg c = true then ⟨1, c :: r.takeWhile isDg, o⟩ :: tokF (r.dropWhile isDg) (o + 1 + (r.takeWhile isDg).length)
    else if isSm c = true then ⟨2, c :: r.takeWhile isWd, o⟩ :: tokF (r.dropWhile isWd) (o + 1 + (r.takeWhile isWd).length)
    else if c ∈ sgnL then ⟨3, [c], o⟩ :: tokF r (o + 1)
    else [⟨4, [c], o⟩]
termination_by l => l.length
decreasing_by
  all_goals first
    | (simp; done)
    | (have := (List.dropWhile_sublist isDg (l := r)).length_le; simp; omega)
    | (have := (List.dropWhile_sublist isWd (l := r)).length_le; simp; omega)
theorem tokF_nil (o : Nat) : tokF [] o = [⟨0, [], o⟩] := by rw [tokF]
theorem tokF_cons (c : UInt8) (r : List UInt8) (o : Nat) : tokF (c :: r) o =
    if c = 32 then tokF r (o + 1)
    else if isDg c = true then ⟨1, c :: r.takeWhile isDg, o⟩ :: tokF (r.dropWhile isDg) (o + 1 + (r.takeWhile isDg).length)
    else if isSm c = true then ⟨2, c :: r.takeWhile isWd, o⟩ :: tokF (r.dropWhile isWd) (o + 1 + (r.takeWhile isWd).length)
    else if c ∈ sgnL then ⟨3, [c], o⟩ :: tokF r (o + 1)
    else [⟨4, [c], o⟩] := by rw [tokF]
theorem drop_tw (p : UInt8 → Bool) (r : List UInt8) : r.dropWhile p = r.drop (r.takeWhile p).length := by
  have h := List.takeWhile_append_dropWhile (p := p) (l := r)
  have : (r.takeWhile p ++ r.dropWhile p).drop (r.takeWhile p).length = r.dropWhile p := List.drop_left
  rw [h] at this
  exact this.symm
theorem tokF_len : ∀ (r : List UInt8) (o : Nat), 1 ≤ (tokF r o).length ∧ (tokF r o).length ≤ r.length + 1
  | [], o => by rw [tokF_nil]; simp
  | c :: r, o => by
    rw [tokF_cons]
    have h1 := (List.dropWhile_sublist isDg (l := r)).length_le
    have h2 := (List.dropWhile_sublist isWd (l := r)).length_le
    split
    · have := tokF_len r (o + 1); rw [List.length_cons]; omega
    · split
      · have := tokF_len (r.dropWhile isDg) (o + 1 + (r.takeWhile isDg).length)
        rw [List.length_cons, List.length_cons]; omega
      · split
        · have := tokF_len (r.dropWhile isWd) (o + 1 + (r.takeWhile isWd).length)
          rw [List.length_cons, List.length_cons]; omega
        · split
          · have := tokF_len r (o + 1)
            rw [List.length_cons, List.length_cons]; omega
          · simp
termination_by r => r.length
def Tl (l : List UInt8) (T : List Tok) : Prop := ∃ o, o ≤ l.length ∧ tokF (l.drop o) o = T
def tkOk (l : List UInt8) (t : Tok) : Prop := t.o + t.x.length ≤ l.length ∧ (l.drop t.o).take t.x.length = t.x ∧
  ((t.k = 0 ∧ t.x = [] ∧ t.o = l.length) ∨ (t.k = 1 ∧ t.x ≠ [] ∧ ∀ c ∈ t.x, isDg c = true) ∨ (t.k = 2 ∧ t.x ≠ [] ∧ (∀ c ∈ t.x, isWd c = true) ∧ ∃ c, t.x.head? = some c ∧ isSm c = true) ∨ (t.k = 3 ∧ ∃ c ∈ sgnL, t.x = [c]) ∨ (t.k = 4 ∧ ∃ c, t.x = [c]))
theorem tw_all (p : UInt8 → Bool) : ∀ (r : List UInt8), ∀ c ∈ r.takeWhile p, p c = true
  | [], c, h => by cases h
  | x :: r, c, h => by
    rw [List.takeWhile_cons] at h
    split at h
    · rcases List.mem_cons.1 h with rfl | h
      · assumption
      · exact tw_all p r c h
    · cases h
theorem isSm_wd {c : UInt8} (h : isSm c = true) : isWd c = true := by unfold isWd; rw [h]; simp
theorem take_tw (p : UInt8 → Bool) (r : List UInt8) : r.take (r.takeWhile p).length = r.takeWhile p := by
  have h := List.takeWhile_append_dropWhile (p := p) (l := r)
  have : (r.takeWhile p ++ r.dropWhile p).take (r.takeWhile p).length = r.takeWhile p := List.take_left
  rwa [h] at this
theorem tokF_head (l : List UInt8) : ∀ (n o : Nat), l.length - o = n → o ≤ l.length → ∃ t T, tokF (l.drop o) o = t :: T ∧ o ≤ t.o ∧ tkOk l t ∧ ((t.k = 0 ∨ t.k = 4) ∧ T = [] ∨ (t.k = 1 ∨ t.k = 2 ∨ t.k = 3) ∧ T = tokF (l.drop (t.o + t.x.length)) (t.o + t.x.length))
  | n, o, hn, ho => by
    by_cases he : o = l.length
    · subst he
      rw [List.drop_length, tokF_nil]
      exact ⟨_, _, rfl, Nat.le_refl _, ⟨by simp, by simp, .inl ⟨rfl, rfl, rfl⟩⟩, .inl ⟨.inl rfl, rfl⟩⟩
    · have hlt : o < l.length := by omega
      have hd : l.drop o = l[o] :: l.drop (o + 1) := List.drop_eq_getElem_cons hlt
      have hd2 : ∀ k, (l.drop (o + 1)).drop k = l.drop (o + 1 + k) := fun k => by rw [List.drop_drop]
      have hl2 : (l.drop (o + 1)).length = l.length - (o + 1) := List.length_drop
      rw [hd, tokF_cons]
      generalize l[o] = c at *
      have h1 := (List.takeWhile_sublist isDg (l := l.drop (o + 1))).length_le
      have h2 := (List.takeWhile_sublist isWd (l := l.drop (o + 1))).length_le
      split
      · obtain ⟨t, T, g1, g2, g3, g4⟩ := tokF_head l (n - 1) (o + 1) (by omega) (by omega)
        exact ⟨t, T, g1, by omega, g3, g4⟩
      · split
        · rename_i hdg
          refine ⟨_, _, rfl, Nat.le_refl _, ⟨?_, ?_, .inr (.inl ⟨rfl, by simp, fun d hd => ?_⟩)⟩, .inr ⟨.inl rfl, ?_⟩⟩
          · show o + (List.length (c :: _)) ≤ _
            rw [List.length_cons]; omega
          · show (l.drop o).take (List.length (c :: _)) = _
            rw [hd, List.length_cons, List.take_succ_cons, take_tw]
          · rcases List.mem_cons.1 hd with rfl | hd
            · exact hdg
            · exact tw_all _ _ _ hd
          · show tokF _ _ = tokF (l.drop (o + List.length (c :: _))) (o + List.length (c :: _))
            rw [drop_tw, hd2, List.length_cons, show o + 1 + ((l.drop (o + 1)).takeWhile isDg).length = o + (((l.drop (o + 1)).takeWhile isDg).length + 1) by omega]
        · split
          · rename_i hsm
            refine ⟨_, _, rfl, Nat.le_refl _, ⟨?_, ?_, .inr (.inr (.inl ⟨rfl, by simp, fun d hd => ?_, c, rfl, hsm⟩))⟩, .inr ⟨.inr (.inl rfl), ?_⟩⟩
            · show o + (List.length (c :: _)) ≤ _
              rw [List.length_cons]; omega
            · show (l.drop o).take (List.length (c :: _)) = _
              rw [hd, List.length_cons, List.take_succ_cons, take_tw]
            · rcases List.mem_cons.1 hd with rfl | hd
              · exact isSm_wd hsm
              · exact tw_all _ _ _ hd
            · show tokF _ _ = tokF (l.drop (o + List.length (c :: _))) (o + List.length (c :: _))
              rw [drop_tw, hd2, List.length_cons, show o + 1 + ((l.drop (o + 1)).takeWhile isWd).length = o + (((l.drop (o + 1)).takeWhile isWd).length + 1) by omega]
          · split
            · rename_i hsg
              refine ⟨_, _, rfl, Nat.le_refl _, ⟨by show o + 1 ≤ _; omega, ?_, .inr (.inr (.inr (.inl ⟨rfl, c, hsg, rfl⟩)))⟩, .inr ⟨.inr (.inr rfl), rfl⟩⟩
              show (l.drop o).take 1 = _
              rw [hd]; rfl
            · refine ⟨_, _, rfl, Nat.le_refl _, ⟨by show o + 1 ≤ _; omega, ?_, .inr (.inr (.inr (.inr ⟨rfl, c, rfl⟩)))⟩, .inl ⟨.inr rfl, rfl⟩⟩
              show (l.drop o).take 1 = _
              rw [hd]; rfl
theorem Tl.head {l : List UInt8} {T : List Tok} (h : Tl l T) : ∃ t T1, T = t :: T1 ∧ tkOk l t ∧ ((t.k = 0 ∨ t.k = 4) ∧ T1 = [] ∨ (t.k = 1 ∨ t.k = 2 ∨ t.k = 3) ∧ T1 = tokF (l.drop (t.o + t.x.length)) (t.o + t.x.length) ∧ Tl l T1) := by
  obtain ⟨o, h1, h2⟩ := h
  obtain ⟨t, T1, g1, _, g2, g3⟩ := tokF_head l _ o rfl h1
  refine ⟨t, T1, h2.symm.trans g1, g2, ?_⟩
  rcases g3 with g3 | ⟨g3, g4⟩
  · exact .inl g3
  · exact .inr ⟨g3, g4, ⟨_, g2.1, g4.symm⟩⟩
theorem Tl.top (l : List UInt8) : Tl l (tokF l 0) := ⟨0, Nat.zero_le _, by rw [List.drop_zero]⟩
/-! ### what is read -/
inductive Ex where
  | num (n : Int)
  | tag (x : List UInt8) (s : Option Int)
  | neg (a : Ex)
  | bin (c : UInt8) (a b : Ex)
  | f1 (f : List UInt8) (a : Ex)
  | f2 (f : List UInt8) (a b : Ex)
  | f3 (f : List UInt8) (a b c : Ex)
abbrev PR (α : Type) := Except Nat (α × List Tok × Int)
def sgT (t : Tok) (ops : List UInt8) : Option UInt8 := if t.k = 3 then (match t.x with | [c] => if c ∈ ops then some c else none | _ => none) else none
def deepF (d dp : Int) (t : Tok) : Int := if dp < 0 ∧ 20 < d then t.o else dp
def rowF (ops : List UInt8) (rd : List Tok → Int → PR Ex) (d : Int) : Nat → Ex → List Tok → Int → PR Ex
  | 0, x, T, dp => .ok (x, T, dp)
  | m + 1, x, T, dp => match T with
    | [] => .ok (x, [], dp)
    | t :: T1 => match sgT t ops with
      | none => .ok (x, t :: T1, dp)
      | some c => match rd T1 (deepF d dp t) with
        | .error e => .error e
        | .ok (y, T2, dp2) => rowF ops rd d m (.bin c x y) T2 dp2
def joinF (ops : List UInt8) (many : Bool) (rd : List Tok → Int → PR Ex) (d : Int) (T : List Tok) (dp : Int) : PR Ex := match rd T dp with
  | .error e => .error e
  | .ok (x, T1, dp1) => rowF ops rd d (if many = true then T1.length else 1) x T1 dp1
def prodG (fc : Int → List Tok → Int → PR Ex) (d : Int) (T : List Tok) (dp : Int) : PR Ex := joinF [42, 47] true (fc d) d T dp
def sumG (fc : Int → List Tok → Int → PR Ex) (d : Int) (T : List Tok) (dp : Int) : PR Ex := joinF [43, 45] true (prodG fc d) d T dp
def compG (fc : Int → List Tok → Int → PR Ex) (d : Int) (T : List Tok) (dp : Int) : PR Ex := joinF [60, 61] false (sumG fc d) d T dp
def argF (cmp : List Tok → Int → PR Ex) (d : Int) : Nat → List Ex → List Tok → Int → PR (List Ex)
  | 0, acc, T, dp => .ok (acc, T, dp)
  | m + 1, acc, T, dp =>
    match (if acc = [] then .ok (T, dp) else match T with
      | [] => .error 0
      | t :: T1 => if (sgT t [44]).isSome = true then .ok (T1, deepF d dp t) else .error t.o : Except Nat (List Tok × Int)) with
    | .error e => .error e
    | .ok (T1, dp1) => match cmp T1 dp1 with
      | .error e => .error e
      | .ok (x, T2, dp2) => argF cmp d m (acc ++ [x]) T2 dp2
def encF (cmp : List Tok → Int → PR Ex) (d : Int) (many : Nat) : List Tok → Int → PR (List Ex)
  | [], _ => .error 0
  | t :: T1, dp => if (sgT t [40]).isSome = true then (match argF cmp (d + 1) many [] T1 (deepF d dp t) with
    | .error e => .error e
    | .ok (l, T2, dp2) => match T2 with
      | [] => .error 0
      | u :: T3 => if (sgT u [41]).isSome = true then .ok (l, T3, deepF (d + 1) dp2 u) else .error u.o) else .error t.o
def wAbs : List UInt8 := [97, 98, 115]
def wGd : List UInt8 := [103, 111, 111, 100]
def wMin : List UInt8 := [109, 105, 110]
def wMax : List UInt8 := [109, 97, 120]
def wIf : List UInt8 := [105, 102]
def fnN (x : List UInt8) : Nat := if x = wAbs ∨ x = wGd then 1 else if x = wMin ∨ x = wMax then 2 else if x = wIf then 3 else 0
def mkFn (f : List UInt8) : List Ex → Ex
  | [a] => .f1 f a
  | [a, b] => .f2 f a b
  | [a, b, c] => .f3 f a b c
  | _ => .num 0
def shfF (x : List UInt8) (d : Int) : List Tok → Int → PR Ex
  | [], _ => .error 0
  | u :: T2, dp => if (sgT u [64]).isSome = true then (match T2 with
    | [] => .error 0
    | v :: T3 => if v.k = 1 then (match numF v.x 9 with
      | some n => if n ≤ 86400000 then .ok (.tag x (some n), T3, deepF d (deepF d dp u) v) else .error v.o
      | none => .error v.o) else .error v.o) else .ok (.tag x none, u :: T2, dp)
def factF : Nat → Int → List Tok → Int → PR Ex
  | 0, _, _, _ => .error 0
  | _ + 1, _, [], _ => .error 0
  | n + 1, d, t :: T1, dp =>
    if (sgT t [45]).isSome = true then (match factF n (d + 1) T1 (deepF d dp t) with
      | .error e => .error e
      | .ok (x, T2, dp2) => .ok (.neg x, T2, dp2))
    else if t.k = 1 then (match numF t.x 9 with
      | some v => .ok (.num v, T1, deepF d dp t)
      | none => .error t.o)
    else if (sgT t [40]).isSome = true then (match encF (compG (factF n) (d + 1)) d 1 (t :: T1) dp with
      | .error e => .error e
      | .ok (l, T2, dp2) => .ok (l.headD (.num 0), T2, dp2))
    else if t.k = 2 then (if 0 < fnN t.x then (match encF (compG (factF n) (d + 1)) d (fnN t.x) T1 (deepF d dp t) with
        | .error e => .error e
        | .ok (l, T2, dp2) => .ok (mkFn t.x l, T2, dp2))
      else if 40 < t.x.length then .error t.o
      else shfF t.x d T1 (deepF d dp t))
    else .error t.o
def parF (l : List UInt8) : Except (Int × Int) Ex :=
  if 500 < l.length then .error (0, 2)
  else match compG (factF (tokF l 0).length) 0 (tokF l 0) (-1) with
    | .error e => .error (e, 9)
    | .ok (x, T, dp) => match T with
      | [] => .error (0, 9)
      | t :: _ => if t.k ≠ 0 then .error (t.o, 9) else if 0 ≤ dp then .error (dp, 2) else .ok x
end Go.Proofs.YtlnfiflbpmicgaaGreatDoor
namespace Go.Proofs.YtlnfiflbpmicgaaGreatDoor
open Go Go.RowKit
set_option maxRecDepth 100000
set_option maxHeartbeats 1000000
structure Vl where
  n : Int
  q : Int
def badV : Vl := ⟨0, 2⟩
def bdV (n q most : Int) : Vl := if q = 2 ∨ n < -most ∨ most < n then badV else ⟨n, q⟩
def mulV (a b : Int) : Int := if a ≠ 0 ∧ Int.tdiv 1000000000000 (max a (-a)) < max b (-b) then 1000000000001 else a * b
def oneV (p : Prop) [Decidable p] : Int := if p then 1 else 0
def twoV (c : UInt8) (a b : Vl) : Vl :=
  if c = 43 then bdV (a.n + b.n) (max a.q b.q) 1000000000000
  else if c = 45 then bdV (a.n - b.n) (max a.q b.q) 1000000000000
  else if c = 42 then bdV (mulV a.n b.n) (max a.q b.q) 1000000000000
  else if c = 47 then (if b.n = 0 then badV else bdV (a.n.tdiv b.n) (max a.q b.q) 1000000000000)
  else if c = 60 then bdV (oneV (a.n < b.n)) (max a.q b.q) 1
  else bdV (oneV (a.n = b.n)) (max a.q b.q) 1
def evP (look : List UInt8 → Int → Vl) (m : Int) : Ex → Vl
  | .num n => ⟨n, 0⟩
  | .tag x s => if m < s.getD 0 then badV else look x (m - s.getD 0)
  | .neg a => bdV (-(evP look m a).n) (evP look m a).q 1000000000000
  | .bin c a b => twoV c (evP look m a) (evP look m b)
  | .f1 f a => if f = wAbs then bdV (max (evP look m a).n (-(evP look m a).n)) (evP look m a).q 1000000000000 else bdV (oneV ((evP look m a).q = 0)) 0 1
  | .f2 f a b => bdV (if f = wMin then min (evP look m a).n (evP look m b).n else max (evP look m a).n (evP look m b).n) (max (evP look m a).q (evP look m b).q) 1000000000000
  | .f3 _ c a b => if (evP look m c).q = 2 then badV else bdV (if (evP look m c).n = 0 then (evP look m b).n else (evP look m a).n) (max (if (evP look m c).n = 0 then (evP look m b).q else (evP look m a).q) (evP look m c).q) 1000000000000
def VlOk (v : Vl) : Prop := (-1000000000000 ≤ v.n ∧ v.n ≤ 1000000000000) ∧ (0 ≤ v.q ∧ v.q ≤ 2) ∧ (v.q = 2 → v.n = 0)
theorem badV_ok : VlOk badV := ⟨⟨by decide, by decide⟩, ⟨by decide, by decide⟩, fun _ => rfl⟩
theorem bdV_ok {n q most : Int} (h : 0 ≤ q ∧ q ≤ 2) (hm : most ≤ 1000000000000) : VlOk (bdV n q most) := by
  unfold bdV
  split
  · exact badV_ok
  · refine ⟨⟨?_, ?_⟩, h, fun e => ?_⟩
    · dsimp only; omega
    · dsimp only; omega
    · dsimp only at e; omega
def ExOk : Ex → Prop
  | .num n => 0 ≤ n ∧ n ≤ 999999999
  | .tag x s => (x ≠ [] ∧ x.length ≤ 40 ∧ fnN x = 0) ∧ ∀ n, s = some n → 0 ≤ n ∧ n ≤ 86400000
  | .neg a => ExOk a
  | .bin c a b => c ∈ ([43, 45, 42, 47, 60, 61] : List UInt8) ∧ ExOk a ∧ ExOk b
  | .f1 f a => fnN f = 1 ∧ ExOk a
  | .f2 f a b => fnN f = 2 ∧ ExOk a ∧ ExOk b
  | .f3 f a b c => fnN f = 3 ∧ ExOk a ∧ ExOk b ∧ ExOk c
theorem max3 {a b : Int} (ha : 0 ≤ a ∧ a ≤ 2) (hb : 0 ≤ b ∧ b ≤ 2) : 0 ≤ max a b ∧ max a b ≤ 2 := by omega
theorem twoV_ok (c : UInt8) {a b : Vl} (ha : VlOk a) (hb : VlOk b) : VlOk (twoV c a b) := by
  have h := max3 ha.2.1 hb.2.1
  unfold twoV
  repeat' split
  all_goals first | exact badV_ok | exact bdV_ok h (by decide)
theorem evP_ok {look : List UInt8 → Int → Vl} (hl : ∀ x m, VlOk (look x m)) (m : Int) : ∀ e : Ex, ExOk e → VlOk (evP look m e)
  | .num n, h => by
    obtain ⟨h1, h2⟩ := h
    exact ⟨⟨by show _ ≤ n; omega, by show n ≤ _; omega⟩, ⟨Int.le_refl 0, by show (0 : Int) ≤ 2; omega⟩, fun e => by cases e⟩
  | .tag x s, _ => by
    unfold evP
    split
    · exact badV_ok
    · exact hl _ _
  | .neg a, h => by
    have ha := evP_ok hl m a h
    unfold evP
    exact bdV_ok ha.2.1 (by decide)
  | .bin c a b, h => by
    unfold evP
    exact twoV_ok c (evP_ok hl m a h.2.1) (evP_ok hl m b h.2.2)
  | .f1 f a, h => by
    have ha := evP_ok hl m a h.2
    unfold evP
    split
    · exact bdV_ok ha.2.1 (by decide)
    · exact bdV_ok ⟨by decide, by decide⟩ (by decide)
  | .f2 f a b, h => by
    have ha := evP_ok hl m a h.2.1
    have hb := evP_ok hl m b h.2.2
    unfold evP
    exact bdV_ok (max3 ha.2.1 hb.2.1) (by decide)
  | .f3 f a b c, h => by
    have ha := evP_ok hl m a h.2.1
    have hb := evP_ok hl m b h.2.2.1
    have hc := evP_ok hl m c h.2.2.2
    unfold evP
    split
    · exact badV_ok
    · refine bdV_ok ?_ (by decide)
      have h1 := ha.2.1
      have h2 := hb.2.1
      have h3 := hc.2.1
      split <;> omega
theorem mulV_eq {a b : Int} (q : Int) :
    bdV (mulV a b) q 1000000000000 = if b ≠ 0 ∧ Int.tdiv 2000000000000 (max b (-b)) < max a (-a) then badV else bdV (a * b) q 1000000000000 := by
  have hA : max (a * b) (-(a * b)) = max b (-b) * max a (-a) := by
    rcases Int.le_total 0 a with h | h <;> rcases Int.le_total 0 b with g | g
    · have := Int.mul_nonneg h g
      rw [show max a (-a) = a by omega, show max b (-b) = b by omega, Int.mul_comm b a]; omega
    · have := Int.mul_nonneg h (show 0 ≤ -b by omega)
      rw [show max a (-a) = a by omega, show max b (-b) = -b by omega, Int.neg_mul, Int.mul_comm b a]
      rw [Int.mul_neg] at this
      omega
    · have := Int.mul_nonneg (show 0 ≤ -a by omega) g
      rw [show max a (-a) = -a by omega, show max b (-b) = b by omega, Int.mul_neg, Int.mul_comm b a]
      rw [Int.neg_mul] at this
      omega
    · have := Int.mul_nonneg (show 0 ≤ -a by omega) (show 0 ≤ -b by omega)
      rw [Int.neg_mul_neg] at this
      rw [show max a (-a) = -a by omega, show max b (-b) = -b by omega, Int.neg_mul_neg, Int.mul_comm b a]
      omega
  have hb0 : b ≠ 0 → 0 < max b (-b) := by omega
  have ha0 : a ≠ 0 → 0 < max a (-a) := by omega
  have big : 1000000000000 < max (a * b) (-(a * b)) → bdV (a * b) q 1000000000000 = badV := fun h => by
    unfold bdV
    rw [if_pos (by omega)]
  have hov : bdV 1000000000001 q 1000000000000 = badV := by
    unfold bdV
    rw [if_pos (by omega)]
  unfold mulV
  rw [Int.tdiv_eq_ediv_of_nonneg (by decide), Int.tdiv_eq_ediv_of_nonneg (by decide)]
  by_cases h1 : a ≠ 0 ∧ 1000000000000 / (max a (-a)) < max b (-b)
  · rw [if_pos h1, hov]
    have h2 := (Int.ediv_lt_iff_lt_mul (ha0 h1.1)).1 h1.2
    have := big (by omega)
    split
    · rfl
    · exact this.symm
  · rw [if_neg h1]
    have hle : max (a * b) (-(a * b)) ≤ 1000000000000 := by
      by_cases h0 : a = 0
      · subst h0; simp
      · have h3 : ¬ 1000000000000 / (max a (-a)) < max b (-b) := fun h => h1 ⟨h0, h⟩
        rw [Int.ediv_lt_iff_lt_mul (ha0 h0)] at h3
        omega
    rw [if_neg]
    rintro ⟨h4, h5⟩
    rw [Int.ediv_lt_iff_lt_mul (hb0 h4), Int.mul_comm] at h5
    omega
def evR (look : List UInt8 → Int → Vl) (m : Int) : Ex → Vl
  | .num n => ⟨n, 0⟩
  | .tag x s => look x (m - max 0 (s.getD (-1)))
  | .neg a => if (evR look m a).q = 2 then badV else bdV (-(evR look m a).n) (evR look m a).q 1000000000000
  | .bin c a b => if max (evR look m a).q (evR look m b).q = 2 then badV else
      if c = 43 then bdV ((evR look m a).n + (evR look m b).n) (max (evR look m a).q (evR look m b).q) 1000000000000
      else if c = 45 then bdV ((evR look m a).n - (evR look m b).n) (max (evR look m a).q (evR look m b).q) 1000000000000
      else if c = 42 then (if (evR look m b).n ≠ 0 ∧ Int.tdiv 2000000000000 (max (evR look m b).n (-(evR look m b).n)) < max (evR look m a).n (-(evR look m a).n) then badV else bdV ((evR look m a).n * (evR look m b).n) (max (evR look m a).q (evR look m b).q) 1000000000000)
      else if c = 47 then (if (evR look m b).n = 0 then badV else bdV ((evR look m a).n.tdiv (evR look m b).n) (max (evR look m a).q (evR look m b).q) 1000000000000)
      else if c = 60 then bdV (oneV ((evR look m a).n < (evR look m b).n)) (max (evR look m a).q (evR look m b).q) 1000000000000
      else bdV (oneV ((evR look m a).n = (evR look m b).n)) (max (evR look m a).q (evR look m b).q) 1000000000000
  | .f1 f a => if f = wGd then ⟨oneV ((evR look m a).q = 0), 0⟩ else if (evR look m a).q = 2 then badV else bdV (if (evR look m a).n < 0 then -(evR look m a).n else (evR look m a).n) (evR look m a).q 1000000000000
  | .f2 f a b => if max (evR look m a).q (evR look m b).q = 2 then badV else bdV (if f = wMin then min (evR look m a).n (evR look m b).n else max (evR look m a).n (evR look m b).n) (max (evR look m a).q (evR look m b).q) 1000000000000
  | .f3 _ c a b => bdV (if (evR look m c).n = 0 then (evR look m b).n else (evR look m a).n) (max (if (evR look m c).n = 0 then (evR look m b).q else (evR look m a).q) (evR look m c).q) 1000000000000
theorem bdV_bad (n most : Int) : bdV n 2 most = badV := by unfold bdV; rw [if_pos (.inl rfl)]
theorem evR_eq {look lookR : List UInt8 → Int → Vl} (hl : ∀ x m, VlOk (look x m)) (m : Int) (h1 : ∀ x k, 0 ≤ k → lookR x k = look x k) (h2 : ∀ x k, k < 0 → lookR x k = badV) : ∀ e : Ex, ExOk e → evR lookR m e = evP look m e
  | .num n, _ => rfl
  | .tag x s, h => by
    unfold evR evP
    cases s with
    | none =>
      show lookR x (m - max 0 (-1)) = if m < 0 then badV else look x (m - 0)
      rw [show max (0 : Int) (-1) = 0 by decide, Int.sub_zero]
      split
      · exact h2 x m (by omega)
      · exact h1 x m (by omega)
    | some n =>
      have hn := h.2 n rfl
      show lookR x (m - max 0 n) = if m < n then badV else look x (m - n)
      rw [show max 0 n = n by omega]
      split
      · exact h2 x _ (by omega)
      · exact h1 x _ (by omega)
  | .neg a, h => by
    have ha := evR_eq hl m h1 h2 a h
    unfold evR evP
    rw [ha]
    split
    · rename_i e; rw [e, bdV_bad]
    · rfl
  | .bin c a b, h => by
    have ha := evR_eq hl m h1 h2 a h.2.1
    have hb := evR_eq hl m h1 h2 b h.2.2
    have oa := evP_ok hl m a h.2.1
    have ob := evP_ok hl m b h.2.2
    unfold evR evP
    rw [ha, hb]
    generalize evP look m a = A at *
    generalize evP look m b = B at *
    unfold twoV
    rw [← mulV_eq]
    have key : ∀ (p : Prop) [Decidable p] (q : Int), q ≠ 2 → bdV (oneV p) q 1000000000000 = bdV (oneV p) q 1 := fun p _ q hq => by
      unfold bdV oneV
      split <;> (split <;> (split <;> first | rfl | omega))
    split
    · rename_i e
      rw [e]
      simp only [bdV_bad, ite_self]
    · rename_i e
      rw [key _ _ e, key _ _ e]
  | .f1 f a, h => by
    have ha := evR_eq hl m h1 h2 a h.2
    have oa := evP_ok hl m a h.2
    unfold evR evP
    rw [ha]
    generalize evP look m a = A at *
    have hf : f = wAbs ∨ f = wGd := by
      have := h.1
      unfold fnN at this
      split at this
      · assumption
      · split at this
        · cases this
        · split at this <;> cases this
    rcases hf with rfl | rfl
    · rw [if_neg (by decide), if_pos rfl]
      have e : (if A.n < 0 then -A.n else A.n) = max A.n (-A.n) := by split <;> omega
      rw [e]
      split
      · rename_i e; rw [e, bdV_bad]
      · rfl
    · rw [if_pos rfl, if_neg (by decide)]
      unfold bdV oneV
      split <;> (rw [if_neg (by decide)])
  | .f2 f a b, h => by
    have ha := evR_eq hl m h1 h2 a h.2.1
    have hb := evR_eq hl m h1 h2 b h.2.2
    unfold evR evP
    rw [ha, hb]
    split
    · rename_i e; rw [e, bdV_bad]
    · rfl
  | .f3 f a b c, h => by
    have ha := evR_eq hl m h1 h2 a h.2.1
    have hb := evR_eq hl m h1 h2 b h.2.2.1
    have hc := evR_eq hl m h1 h2 c h.2.2.2
    have oa := evP_ok hl m a h.2.1
    have ob := evP_ok hl m b h.2.2.1
    have oc := evP_ok hl m c h.2.2.2
    unfold evR evP
    rw [ha, hb, hc]
    have h5 := ob.2.1
    have h6 := oc.2.1
    by_cases e : (evP look m a).q = 2
    · have : max (if (evP look m a).n = 0 then (evP look m c).q else (evP look m b).q) (evP look m a).q = 2 := by split <;> omega
      rw [if_pos e, this, bdV_bad]
    · rw [if_neg e]
end Go.Proofs.YtlnfiflbpmicgaaGreatDoor
