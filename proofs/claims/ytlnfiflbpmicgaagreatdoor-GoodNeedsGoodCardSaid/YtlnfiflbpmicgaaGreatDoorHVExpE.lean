/- Expressions: what they come to. No program in sight. -/
import Derived.Test.YtlnfiflbpmicgaaGreatDoorHVExpM
namespace Go.Proofs.YtlnfiflbpmicgaaGreatDoor
open Go Go.RowKit
set_option maxRecDepth 100000
set_option linter.all false
set_option maxHeartbeats 1000000
structure Vl where
  n : Int
  q : Int
def badV : Vl := ⟨0, 2⟩
def bdV (n q most : Int) : Vl := if q = 2 ∨ n < -most ∨ most < n then badV else ⟨n, q⟩
def mulV (a b : Int) : Int := if a ≠ 0 ∧ Int.tdiv 1000000000000 (max a (-a)) < max b (-b) then 1000000000001 else a * b
def oneV (p : Prop) [Decidable p] : Int := if p then 1 else 0
def twoV (c : UInt8) (a b : Vl) : Vl :=
  if c = 43 then bdV (a.n + b.n) (max a.q b.q) 1000000000000
  else if c = 45 then bdV (a.n - b.n) (max a.q b.q) 1000000000000
  else if c = 42 then bdV (mulV a.n b.n) (max a.q b.q) 1000000000000
  else if c = 47 then (if b.n = 0 then badV else bdV (a.n.tdiv b.n) (max a.q b.q) 1000000000000)
  else if c = 60 then bdV (oneV (a.n < b.n)) (max a.q b.q) 1
  else bdV (oneV (a.n = b.n)) (max a.q b.q) 1
def evP (look : List UInt8 → Int → Vl) (m : Int) : Ex → Vl
  | .num n => ⟨n, 0⟩
  | .tag x s => if m < s.getD 0 then badV else look x (m - s.getD 0)
  | .neg a => bdV (-(evP look m a).n) (evP look m a).q 1000000000000
  | .bin c a b => twoV c (evP look m a) (evP look m b)
  | .f1 f a => if f = wAbs then bdV (max (evP look m a).n (-(evP look m a).n)) (evP look m a).q 1000000000000 else bdV (oneV ((evP look m a).q = 0)) 0 1
  | .f2 f a b => bdV (if f = wMin then min (evP look m a).n (evP look m b).n else max (evP look m a).n (evP look m b).n) (max (evP look m a).q (evP look m b).q) 1000000000000
  | .f3 _ c a b => if (evP look m c).q = 2 then badV else bdV (if (evP look m c).n = 0 then (evP look m b).n else (evP look m a).n) (max (if (evP look m c).n = 0 then (evP look m b).q else (evP look m a).q) (evP look m c).q) 1000000000000
def VlOk (v : Vl) : Prop := (-1000000000000 ≤ v.n ∧ v.n ≤ 1000000000000) ∧ (0 ≤ v.q ∧ v.q ≤ 2) ∧ (v.q = 2 → v.n = 0)
theorem badV_ok : VlOk badV := ⟨⟨by decide, by decide⟩, ⟨by decide, by decide⟩, fun _ => rfl⟩
theorem bdV_ok {n q most : Int} (h : 0 ≤ q ∧ q ≤ 2) (hm : most ≤ 1000000000000) : VlOk (bdV n q most) := by
  unfold bdV
  split
  · exact badV_ok
  · refine ⟨⟨?_, ?_⟩, h, fun e => ?_⟩
    · dsimp only; omega
    · dsimp only; omega
    · dsimp only at e; omega
def ExOk : Ex → Prop
  | .num n => 0 ≤ n ∧ n ≤ 999999999
  | .tag x s => (x ≠ [] ∧ x.length ≤ 40 ∧ fnN x = 0) ∧ ∀ n, s = some n → 0 ≤ n ∧ n ≤ 86400000
  | .neg a => ExOk a
  | .bin c a b => c ∈ ([43, 45, 42, 47, 60, 61] : List UInt8) ∧ ExOk a ∧ ExOk b
  | .f1 f a => fnN f = 1 ∧ ExOk a
  | .f2 f a b => fnN f = 2 ∧ ExOk a ∧ ExOk b
  | .f3 f a b c => fnN f = 3 ∧ ExOk a ∧ ExOk b ∧ ExOk c
theorem max3 {a b : Int} (ha : 0 ≤ a ∧ a ≤ 2) (hb : 0 ≤ b ∧ b ≤ 2) : 0 ≤ max a b ∧ max a b ≤ 2 := by omega
theorem twoV_ok (c : UInt8) {a b : Vl} (ha : VlOk a) (hb : VlOk b) : VlOk (twoV c a b) := by
  have h := max3 ha.2.1 hb.2.1
  unfold twoV
  repeat' split
  all_goals first | exact badV_ok | exact bdV_ok h (by decide)
theorem evP_ok {look : List UInt8 → Int → Vl} (hl : ∀ x m, VlOk (look x m)) (m : Int) : ∀ e : Ex, ExOk e → VlOk (evP look m e)
  | .num n, h => by
    obtain ⟨h1, h2⟩ := h
    exact ⟨⟨by show _ ≤ n; omega, by show n ≤ _; omega⟩, ⟨Int.le_refl 0, by show (0 : Int) ≤ 2; omega⟩, fun e => by cases e⟩
  | .tag x s, _ => by
    unfold evP
    split
    · exact badV_ok
    · exact hl _ _
  | .neg a, h => by
    have ha := evP_ok hl m a h
    unfold evP
    exact bdV_ok ha.2.1 (by decide)
  | .bin c a b, h => by
    unfold evP
    exact twoV_ok c (evP_ok hl m a h.2.1) (evP_ok hl m b h.2.2)
  | .f1 f a, h => by
    have ha := evP_ok hl m a h.2
    unfold evP
    split
    · exact bdV_ok ha.2.1 (by decide)
    · exact bdV_ok ⟨by decide, by decide⟩ (by decide)
  | .f2 f a b, h => by
    have ha := evP_ok hl m a h.2.1
    have hb := evP_ok hl m b h.2.2
    unfold evP
    exact bdV_ok (max3 ha.2.1 hb.2.1) (by decide)
  | .f3 f a b c, h => by
    have ha := evP_ok hl m a h.2.1
    have hb := evP_ok hl m b h.2.2.1
    have hc := evP_ok hl m c h.2.2.2
    unfold evP
    split
    · exact badV_ok
    · refine bdV_ok ?_ (by decide)
      have h1 := ha.2.1
      have h2 := hb.2.1
      have h3 := hc.2.1
      split <;> omega
end Go.Proofs.YtlnfiflbpmicgaaGreatDoor
