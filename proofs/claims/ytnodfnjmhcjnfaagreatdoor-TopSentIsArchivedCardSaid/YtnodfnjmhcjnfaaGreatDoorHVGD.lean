/- Several texts in one: Strings: bytes, keys, and what follows. No condition. -/
import Derived.Test.YtnodfnjmhcjnfaaGreatDoorHVGA
import Derived.Lib.Bytealg
/- Strings: bytes, keys. No condition. -/
namespace Go.Proofs.YtnodfnjmhcjnfaaGreatDoor
open Go Go.RowKit
set_option maxRecDepth 100000
set_option linter.all false
set_option maxHeartbeats 1000000
variable {H : Hp} {K : AV → Hp → Prop}
theorem data_inj {a b : ByteArray} (h : a.data.toList = b.data.toList) : a = b := by
  obtain ⟨⟨x⟩⟩ := a
  obtain ⟨⟨y⟩⟩ := b
  simp at h
  rw [h]
@[go_sem] theorem str_eq (a b : ByteArray) : (a.toList == b.toList) = decide (a = b) := by
  rw [ByteArray.toList_eq, ByteArray.toList_eq, Bool.eq_iff_iff, beq_iff_eq, decide_eq_true_eq]
  exact ⟨data_inj, fun h => by rw [h]⟩
def byteAt (s : ByteArray) (i : Nat) : Int := ((s.data.toList.getD i 0).toNat : Int)
theorem byteAt_bd (s : ByteArray) (i : Nat) : 0 ≤ byteAt s i ∧ byteAt s i ≤ 255 := by
  unfold byteAt
  have := UInt8.toNat_lt (s.data.toList.getD i 0)
  omega
@[go_sem] theorem byteAt_fold (s : ByteArray) (i : Nat) : ((s.data.toList.getD i 0).toNat : Int) = byteAt s i := (rfl)
abbrev keyN (c : Int) : Prop := (97 ≤ c ∧ c ≤ 122) ∨ (48 ≤ c ∧ c ≤ 57) ∨ c = 45 ∨ c = 95
def isKey (s : ByteArray) : Prop := 1 ≤ s.size ∧ s.size ≤ 40 ∧ (97 ≤ byteAt s 0 ∧ byteAt s 0 ≤ 122) ∧ ∀ i, i < s.size → keyN (byteAt s i)
instance (s : ByteArray) : Decidable (isKey s) := by unfold isKey; infer_instance
theorem size_zero {s : ByteArray} : s = ⟨#[]⟩ ↔ s.size = 0 := by
  constructor
  · rintro rfl; rfl
  · intro h
    apply data_inj
    have h2 : s.data.toList.length = 0 := h
    rw [List.length_eq_zero_iff.1 h2]
theorem key_a (s : ByteArray) (hs : s.size ≤ 1099511627776) (hk : K (.c (.bool (decide (isKey s)))) H) : ACalls Tryz.prog 147 [(.c (.str s))] H K := by
  have hb := byteAt_bd s 0
  have bad : ¬(1 ≤ s.size ∧ s.size ≤ 40 ∧ (97 ≤ byteAt s 0 ∧ byteAt s 0 ≤ 122)) → decide (isKey s) = false := fun h => by
    rw [decide_eq_false_iff_not]
    exact fun h2 => h ⟨h2.1, h2.2.1, h2.2.2.1⟩
  by_cases h0 : s = ⟨#[]⟩
  · have h1 := size_zero.1 h0
    refine acalls Tryz.func147 rfl (by kernel_rfl) (by simp (disch := first | omega | (simp only [go_sem]; first | done | omega)) only [go_sem]) (fun hH => ?_)
    simp (disch := first | omega | (simp only [go_sem]; first | done | omega)) only [go_sem, h0]
    rw [bad (by omega)] at hk
    exact Ret.same (Nat.le_refl _) hk
  have h1 : 0 < s.size := by have := mt size_zero.2 h0; omega
  by_cases h2 : 40 < s.size
  · refine acalls Tryz.func147 rfl (by kernel_rfl) (by simp (disch := first | omega | (simp only [go_sem]; first | done | omega)) only [go_sem]) (fun hH => ?_)
    simp (disch := first | omega | (simp only [go_sem]; first | done | omega)) only [go_sem, h0, h2]
    rw [bad (by omega)] at hk
    exact Ret.same (Nat.le_refl _) hk
  by_cases h3 : byteAt s 0 < 97
  · refine acalls Tryz.func147 rfl (by kernel_rfl) (by simp (disch := first | omega | (simp only [go_sem]; first | done | omega)) only [go_sem]) (fun hH => ?_)
    simp (disch := first | omega | (simp only [go_sem]; first | done | omega)) only [go_sem, h0, h2, h3]
    rw [bad (by omega)] at hk
    exact Ret.same (Nat.le_refl _) hk
  by_cases h4 : 122 < byteAt s 0
  · refine acalls Tryz.func147 rfl (by kernel_rfl) (by simp (disch := first | omega | (simp only [go_sem]; first | done | omega)) only [go_sem]) (fun hH => ?_)
    simp (disch := first | omega | (simp only [go_sem]; first | done | omega)) only [go_sem, h0, h2, h3, h4]
    rw [bad (by omega)] at hk
    exact Ret.same (Nat.le_refl _) hk
  refine acalls Tryz.func147 rfl (by kernel_rfl) (by simp (disch := first | omega | (simp only [go_sem]; first | done | omega)) only [go_sem]) (fun hH => ?_)
  simp (disch := first | omega | (simp only [go_sem]; first | done | omega)) only [go_sem, h0, h2, h3, h4]
  refine AWp.loop (H.length) [0, 23] [24] (fun (k : Nat) => k ≤ s.size ∧ ∀ i, i < k → keyN (byteAt s i)) (fun (k : Nat) => [(24, (.c (.int .i64 k)))]) (fun (k : Nat) => H) (fun (k : Nat) => s.size - k) (by kernel_rfl) (fun _ => rfl) (by kernel_rfl) (by first | (simp; done) | omega) (by first | (simp; done) | (simp; omega) | omega) kl ?_ (fun k hk1 _ _ => ?_)
  · exact Next.mk 0 ⟨by omega, fun i hi => by omega⟩ wk
  obtain ⟨hk1, hk2⟩ := hk1
  by_cases hlt : k < s.size
  · have hc := byteAt_bd s k
    by_cases hkey : keyN (byteAt s k)
    · have hside : (k + 1 ≤ s.size ∧ ∀ i, i < k + 1 → keyN (byteAt s i)) ∧ s.size - (k + 1) < s.size - k := by
        refine ⟨⟨by omega, fun i hi => ?_⟩, by omega⟩
        rcases Nat.lt_or_ge i k with h | h
        · exact hk2 i h
        · obtain rfl : i = k := by omega
          exact hkey
      simp (disch := first | omega | (simp only [go_sem]; first | done | omega)) only [go_sem, hlt]
      repeat' (first | ((first | refine acond_d ?_ ?_ | refine acond_b ?_ ?_ | refine ag_d ?_ ?_ | refine ag_n ?_ ?_ | refine ag_bt ?_ ?_ | refine ag_bf ?_ ?_) <;> intro c <;> try simp (disch := first | omega | (simp only [go_sem]; first | done | omega)) only [go_sem, c, hlt]) | ((first | refine w_draw (by kernel_rfl) (by decide +kernel) ?_) <;> try simp (disch := first | omega | (simp only [go_sem]; first | done | omega)) only [go_sem, hlt]))
      all_goals first
        | exact Next.mk (k + 1) hside wk
        | (exfalso; omega)
    · have hf : decide (isKey s) = false := by
        rw [decide_eq_false_iff_not]
        exact fun h => hkey (h.2.2.2 k hlt)
      rw [hf] at hk
      simp (disch := first | omega | (simp only [go_sem]; first | done | omega)) only [go_sem, hlt]
      repeat' (first | ((first | refine acond_d ?_ ?_ | refine acond_b ?_ ?_ | refine ag_d ?_ ?_ | refine ag_n ?_ ?_ | refine ag_bt ?_ ?_ | refine ag_bf ?_ ?_) <;> intro c <;> try simp (disch := first | omega | (simp only [go_sem]; first | done | omega)) only [go_sem, c, hlt]) | ((first | refine w_draw (by kernel_rfl) (by decide +kernel) ?_) <;> try simp (disch := first | omega | (simp only [go_sem]; first | done | omega)) only [go_sem, hlt]))
      all_goals first
        | exact Ret.same (Nat.le_refl _) hk
        | (exfalso; omega)
  · simp (disch := first | omega | (simp only [go_sem]; first | done | omega)) only [go_sem, hlt]
    rw [show decide (isKey s) = true from decide_eq_true ⟨by omega, by omega, by omega, fun i hi => hk2 i (by omega)⟩] at hk
    exact Ret.same (Nat.le_refl _) hk
theorem indexByteX (f : FuncId) (hf : externs Tryz.prog f Extern.BytealgIndexByte.indexByte) (s : ByteArray) (c : Int) (hk : K (.c (.int .i64 (Lib.indexByte s.data.toList c.toNat.toUInt8))) H) : AExt Tryz.prog f [(.c (.str s)), .c (.int .u8 c)] H K := by
  refine ⟨_, hf, fun B w0 ι w vs hs hr ho => ?_⟩
  obtain ⟨l⟩ := vs
  match l, hr with
  | [u, v], hr =>
    have h1 : u = .string s := hr.1
    have h2 : v = .int .u8 c := hr.2.1
    subst h1; subst h2
    refine ⟨_, w, Lib.run_indexByteString s c w, ι, _, (.c (.int .i64 (Lib.indexByte s.data.toList c.toNat.toUInt8))), H, rfl, Agree.refl _ _, Nat.le_refl _, hs, ?_, ?_, hk⟩
    · rfl
    · trivial
theorem ext_indexByte : externs Tryz.prog 356 Extern.BytealgIndexByte.indexByte := ⟨_, rfl, by kernel_rfl, by kernel_rfl, by kernel_rfl, by kernel_rfl⟩
def onlyB (s t : ByteArray) : Prop := ∀ i, i < s.size → 0 ≤ Lib.indexByte t.data.toList (byteAt s i).toNat.toUInt8
instance (s t : ByteArray) : Decidable (onlyB s t) := by unfold onlyB; infer_instance
end Go.Proofs.YtnodfnjmhcjnfaaGreatDoor
/- Holds: what is wrong with them, in the program and in the document's answer. Condition: keys are short. -/
namespace Go.Proofs.YtnodfnjmhcjnfaaGreatDoor
open Go Go.RowKit
set_option maxRecDepth 100000
set_option linter.all false
set_option maxHeartbeats 1000000
variable {H : Hp} {K : AV → Hp → Prop}
structure Hold where
  key : ByteArray
  tag : ByteArray
  t0 : Int
  t1 : Int
  made : Int
  ends : Int
deriving DecidableEq
def leS (a b : ByteArray) : Bool := Op.bytesLess a.toList b.toList || decide (a = b)
@[go_sem] theorem leS_fold (a b : ByteArray) : (Op.bytesLess a.toList b.toList || decide (a = b)) = leS a b := (rfl)
def noS : ByteArray := ⟨#[]⟩
@[go_sem] theorem noS_fold : (⟨#[]⟩ : ByteArray) = noS := (rfl)
end Go.Proofs.YtnodfnjmhcjnfaaGreatDoor
/- Insertion sort: no program in sight. No condition. -/
namespace Go.Proofs.YtnodfnjmhcjnfaaGreatDoor
open Go Go.RowKit
set_option maxRecDepth 100000
set_option linter.all false
section
variable {α : Type} (lt : α → α → Bool)
def sinkG : Nat → List α → List α
  | 0, l => l
  | j + 1, l => match l[j + 1]?, l[j]? with
    | some x, some y => if lt x y = true then sinkG j ((l.set (j + 1) y).set j x) else l
    | _, _ => l
def isortGoG : Nat → Nat → List α → List α
  | 0, _, l => l
  | c + 1, i, l => isortGoG c (i + 1) (sinkG lt i l)
def isortG (l : List α) : List α := isortGoG lt (l.length - 1) 1 l
theorem sinkG_step (j : Nat) (l : List α) (h : j + 1 < l.length) : sinkG lt (j + 1) l = if lt l[j + 1] l[j] = true then sinkG lt j ((l.set (j + 1) l[j]).set j l[j + 1]) else l := by
  rw [sinkG, List.getElem?_eq_getElem h, List.getElem?_eq_getElem (by omega)]
theorem sinkG_len : ∀ (j : Nat) (l : List α), (sinkG lt j l).length = l.length
  | 0, _ => rfl
  | j + 1, l => by
    unfold sinkG
    split
    · split
      · rw [sinkG_len j]; simp
      · rfl
    · rfl
theorem isortGoG_len : ∀ (c i : Nat) (l : List α), (isortGoG lt c i l).length = l.length
  | 0, _, _ => rfl
  | c + 1, i, l => by rw [isortGoG, isortGoG_len c, sinkG_len]
theorem isortG_len (l : List α) : (isortG lt l).length = l.length := isortGoG_len lt _ _ _
def insR : List α → α → List α
  | [], x => [x]
  | y :: p, x => if lt x y = true then y :: insR p x else x :: y :: p
theorem insR_len (p : List α) (x : α) : (insR lt p x).length = p.length + 1 := by
  induction p with
  | nil => rfl
  | cons y p ih => unfold insR; split <;> simp [ih]
theorem sinkG_eq : ∀ (p r : List α) (x : α), sinkG lt p.length (p.reverse ++ x :: r) = (insR lt p x).reverse ++ r
  | [], r, x => rfl
  | y :: p, r, x => by
    have e : (y :: p).reverse ++ x :: r = p.reverse ++ y :: x :: r := by simp
    have g1 : (p.reverse ++ y :: x :: r)[p.length + 1]? = some x := by rw [List.getElem?_append_right (by simp)]; simp
    have g2 : (p.reverse ++ y :: x :: r)[p.length]? = some y := by rw [List.getElem?_append_right (by simp)]; simp
    have g3 : ((p.reverse ++ y :: x :: r).set (p.length + 1) y).set p.length x = p.reverse ++ x :: y :: r := by
      rw [List.set_append_right _ _ (by simp), List.set_append_right _ _ (by simp)]; simp
    rw [e, List.length_cons, sinkG, g1, g2]
    dsimp only
    rw [g3, insR]
    split
    · rw [sinkG_eq p (y :: r) x]; simp
    · simp
theorem isortGoG_eq : ∀ (r q : List α), isortGoG lt r.length q.length (q.reverse ++ r) = (r.foldl (insR lt) q).reverse
  | [], q => by simp [isortGoG]
  | x :: r, q => by
    rw [List.length_cons, isortGoG, sinkG_eq, List.foldl_cons]
    have := isortGoG_eq r (insR lt q x)
    rwa [insR_len] at this
theorem isortG_eq (l : List α) : isortG lt l = (l.foldl (insR lt) []).reverse := by
  cases l with
  | nil => rfl
  | cons a t => exact isortGoG_eq lt t [a]
theorem insR_mem (p : List α) (x z : α) : z ∈ insR lt p x ↔ z = x ∨ z ∈ p := by
  induction p with
  | nil => simp [insR]
  | cons y p ih =>
    unfold insR
    split
    · simp only [List.mem_cons, ih]; constructor <;> (intro h; rcases h with h | h | h <;> simp [h])
    · simp
theorem insR_sorted (f : α → Int) (hf : ∀ x y, lt x y = decide (f x < f y)) (p : List α) (x : α) (h : p.Pairwise (fun a b => f b ≤ f a)) : (insR lt p x).Pairwise (fun a b => f b ≤ f a) := by
  induction p with
  | nil => simp [insR]
  | cons y p ih =>
    rw [List.pairwise_cons] at h
    unfold insR
    split
    · rename_i c
      rw [hf, decide_eq_true_eq] at c
      rw [List.pairwise_cons]
      refine ⟨fun z hz => ?_, ih h.2⟩
      rcases (insR_mem lt p x z).1 hz with rfl | hz
      · omega
      · exact h.1 z hz
    · rename_i c
      rw [hf, decide_eq_true_eq] at c
      rw [List.pairwise_cons, List.pairwise_cons]
      refine ⟨fun z hz => ?_, h⟩
      rcases List.mem_cons.1 hz with rfl | hz
      · omega
      · have := h.1 z hz; omega
theorem isortG_sorted (f : α → Int) (hf : ∀ x y, lt x y = decide (f x < f y)) (l : List α) : (isortG lt l).Pairwise (fun a b => f a ≤ f b) := by
  rw [isortG_eq, List.pairwise_reverse]
  have key : ∀ (l q : List α), q.Pairwise (fun a b => f b ≤ f a) → (l.foldl (insR lt) q).Pairwise (fun a b => f b ≤ f a) := by
    intro l
    induction l with
    | nil => intro q h; exact h
    | cons x l ih => intro q h; exact ih _ (insR_sorted lt f hf q x h)
  exact key l [] List.Pairwise.nil
end
theorem insR_perm {α : Type} (lt : α → α → Bool) (x : α) : ∀ p : List α, (insR lt p x).Perm (x :: p)
  | [] => List.Perm.refl _
  | y :: p => by
    unfold insR
    split
    · exact ((insR_perm lt x p).cons y).trans (List.Perm.swap _ _ _)
    · exact List.Perm.refl _
theorem isortG_perm {α : Type} (lt : α → α → Bool) (l : List α) : (isortG lt l).Perm l := by
  rw [isortG_eq]
  refine (List.reverse_perm _).trans ?_
  have key : ∀ (l q : List α), (l.foldl (insR lt) q).Perm (l ++ q) := by
    intro l
    induction l with
    | nil => intro q; exact List.Perm.refl _
    | cons x l ih =>
      intro q
      rw [List.foldl_cons]
      refine (ih _).trans ?_
      refine ((insR_perm lt x q).append_left l).trans ?_
      exact List.perm_middle
  have := key l []
  rwa [List.append_nil] at this
end Go.Proofs.YtnodfnjmhcjnfaaGreatDoor
/- How long data is kept: the program. Condition: few holds, numbers as those of levels. -/
namespace Go.Proofs.YtnodfnjmhcjnfaaGreatDoor
open Go Go.RowKit
set_option maxRecDepth 100000
set_option linter.all false
set_option maxHeartbeats 1000000
variable {H : Hp} {K : AV → Hp → Prop}
def Hold.near (x : Hold) : Prop := -2000000000000 ≤ x.t0 ∧ x.t0 ≤ 2000000000000 ∧ -2000000000000 ≤ x.t1 ∧ x.t1 ≤ 2000000000000 ∧ -2000000000000 ≤ x.made ∧ x.made ≤ 2000000000000 ∧ -2000000000000 ≤ x.ends ∧ x.ends ≤ 2000000000000
end Go.Proofs.YtnodfnjmhcjnfaaGreatDoor
