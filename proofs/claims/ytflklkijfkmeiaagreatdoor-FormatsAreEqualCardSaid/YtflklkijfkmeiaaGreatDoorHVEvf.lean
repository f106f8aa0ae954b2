/- Several texts in one: An expression's value at a moment, as a sample: value, and what follows. No condition. -/
import Derived.Test.YtflklkijfkmeiaaGreatDoorHVEvl
import Derived.Test.YtflklkijfkmeiaaGreatDoorHVStr
import Derived.Test.YtflklkijfkmeiaaGreatDoorHVAtoi
import Derived.Test.YtflklkijfkmeiaaGreatDoorHVExpM
/- An expression's value at a moment, as a sample: value.final. No condition. -/
namespace Go.Proofs.YtflklkijfkmeiaaGreatDoor
open Go Go.RowKit
set_option maxRecDepth 100000
set_option linter.all false
set_option maxHeartbeats 4000000
variable {H : Hp} {K : AV → Hp → Prop}
def finV (v : Vl) (at' : Int) : Smp := ⟨at', (bdV v.n v.q 1000000).n, (bdV v.n v.q 1000000).q⟩
theorem finalE_a (v : Vl) (m : Int) (hk : K (.agg (encS (finV v m))) H) : ACalls Tryz.prog 56 [.agg (encV v), (.c (.int .i64 m))] H K := by
  unfold finV at hk
  refine acalls Tryz.func56 rfl (by kernel_rfl) (by simp (disch := first | omega | (simp only [go_sem]; first | done | omega)) only [go_sem]) (fun hH => ?_)
  simp (disch := first | omega | (simp only [go_sem]; first | done | omega)) only [go_sem]
  refine boundedE_a _ _ _ (by decide) ?_
  generalize bdV v.n v.q 1000000 = u at *
  simp (disch := first | omega | (simp only [go_sem]; first | done | omega)) only [go_sem]
  exact Ret.drop hH (Nat.le_refl _) (by simp [AV.ok, AV.ok1, AC.ok]) hk
end Go.Proofs.YtflklkijfkmeiaaGreatDoor
/- Holds: what is wrong with them, in the program and in the document's answer. Condition: keys are short. -/
namespace Go.Proofs.YtflklkijfkmeiaaGreatDoor
open Go Go.RowKit
set_option maxRecDepth 100000
set_option linter.all false
set_option maxHeartbeats 1000000
variable {H : Hp} {K : AV → Hp → Prop}
def leS (a b : ByteArray) : Bool := Op.bytesLess a.toList b.toList || decide (a = b)
@[go_sem] theorem leS_fold (a b : ByteArray) : (Op.bytesLess a.toList b.toList || decide (a = b)) = leS a b := (rfl)
def noS : ByteArray := ⟨#[]⟩
@[go_sem] theorem noS_fold : (⟨#[]⟩ : ByteArray) = noS := (rfl)
end Go.Proofs.YtflklkijfkmeiaaGreatDoor
/- The order of names: strings.Compare in the program; what it says of `<=`. No condition. -/
namespace Go.Proofs.YtflklkijfkmeiaaGreatDoor
open Go Go.RowKit
set_option maxRecDepth 100000
set_option linter.all false
set_option maxHeartbeats 1000000
variable {H : Hp} {K : AV → Hp → Prop}
def ordS (a b : ByteArray) : Int := Lib.compareBytes a.data.toList b.data.toList
theorem ordStrX (f : FuncId) (hf : externs Tryz.prog f Extern.BytealgCompare.compare) (a b : ByteArray) (hk : K (.c (.int .i64 (ordS a b))) H) : AExt Tryz.prog f [(.c (.str a)), (.c (.str b))] H K := by
  refine ⟨_, hf, fun B w0 ι w vs hs hr ho => ?_⟩
  obtain ⟨l⟩ := vs
  match l, hr with
  | [u, v], hr =>
    have h1 : u = .string a := hr.1
    have h2 : v = .string b := hr.2.1
    subst h1; subst h2
    exact ⟨_, w, Lib.run_compareString a b w, ι, _, (.c (.int .i64 (ordS a b))), H, rfl, Agree.refl _ _, Nat.le_refl _, hs, rfl, trivial, hk⟩
theorem ext_ordStr : externs Tryz.prog 251 Extern.BytealgCompare.compare := ⟨_, rfl, by kernel_rfl, by kernel_rfl, by kernel_rfl, by kernel_rfl⟩
theorem ordStr_a (a b : ByteArray) (hk : K (.c (.int .i64 (ordS a b))) H) : ACalls Tryz.prog 137 [(.c (.str a)), (.c (.str b))] H K := by
  have key : ∀ (K : AV → Hp → Prop), K (.c (.int .i64 (ordS a b))) H → ACalls Tryz.prog 200 [(.c (.str a)), (.c (.str b))] H K := by
    intro K hk
    refine acalls Tryz.func200 rfl (by kernel_rfl) (by simp (disch := first | omega | (simp only [go_sem]; first | done | omega)) only [go_sem]) (fun hH => ?_)
    simp (disch := first | omega | (simp only [go_sem]; first | done | omega)) only [go_sem]
    refine ordStrX _ ext_ordStr a b ?_
    simp (disch := first | omega | (simp only [go_sem]; first | done | omega)) only [go_sem]
    exact Ret.same (Nat.le_refl _) hk
  refine acalls Tryz.func137 rfl (by kernel_rfl) (by simp (disch := first | omega | (simp only [go_sem]; first | done | omega)) only [go_sem]) (fun hH => ?_)
  simp (disch := first | omega | (simp only [go_sem]; first | done | omega)) only [go_sem]
  refine key _ ?_
  simp (disch := first | omega | (simp only [go_sem]; first | done | omega)) only [go_sem]
  exact Ret.same (Nat.le_refl _) hk
theorem ordB_eq : ∀ a b : List UInt8, Lib.compareBytes a b = 0 ↔ a = b
  | [], [] => by simp [Lib.compareBytes]
  | [], _ :: _ => by simp [Lib.compareBytes]
  | _ :: _, [] => by simp [Lib.compareBytes]
  | a :: xs, b :: ys => by
    have ih := ordB_eq xs ys
    unfold Lib.compareBytes
    grind
theorem ordB_flip : ∀ a b : List UInt8, Lib.compareBytes b a = -Lib.compareBytes a b
  | [], [] => rfl
  | [], _ :: _ => rfl
  | _ :: _, [] => rfl
  | x :: xs, y :: ys => by
    have ih := ordB_flip xs ys
    unfold Lib.compareBytes
    grind
theorem ordB_trans : ∀ a b c : List UInt8, Lib.compareBytes a b < 0 → Lib.compareBytes b c < 0 → Lib.compareBytes a c < 0
  | [], [], _ => by simp [Lib.compareBytes]
  | [], _ :: _, [] => by simp [Lib.compareBytes]
  | [], _ :: _, _ :: _ => by simp [Lib.compareBytes]
  | _ :: _, [], _ => by simp [Lib.compareBytes]
  | _ :: _, _ :: _, [] => by simp [Lib.compareBytes]
  | x :: xs, y :: ys, z :: zs => by
    have ih := ordB_trans xs ys zs
    unfold Lib.compareBytes
    grind
theorem ordB_less : ∀ a b : List UInt8, Op.bytesLess a b = decide (Lib.compareBytes a b < 0)
  | [], [] => by simp [Lib.compareBytes, Op.bytesLess]
  | [], _ :: _ => by simp [Lib.compareBytes, Op.bytesLess]
  | _ :: _, [] => by simp [Lib.compareBytes, Op.bytesLess]
  | x :: xs, y :: ys => by
    have ih := ordB_less xs ys
    unfold Lib.compareBytes Op.bytesLess
    grind
theorem ordS_eq (a b : ByteArray) : ordS a b = 0 ↔ a = b := by
  unfold ordS
  rw [ordB_eq]
  constructor
  · intro h
    obtain ⟨⟨a⟩⟩ := a
    obtain ⟨⟨b⟩⟩ := b
    simp only at h
    rw [h]
  · rintro rfl; rfl
theorem ordS_flip (a b : ByteArray) : ordS b a = -ordS a b := ordB_flip _ _
theorem ordS_trans {a b c : ByteArray} (h1 : ordS a b < 0) (h2 : ordS b c < 0) : ordS a c < 0 := ordB_trans _ _ _ h1 h2
theorem leS_ord (a b : ByteArray) : leS a b = decide (ordS a b ≤ 0) := by
  have h : a.toList = a.data.toList ∧ b.toList = b.data.toList := ⟨ByteArray.toList_eq _, ByteArray.toList_eq _⟩
  unfold leS
  rw [h.1, h.2, ordB_less]
  have := ordS_eq a b
  unfold ordS at *
  grind
end Go.Proofs.YtflklkijfkmeiaaGreatDoor
/- Series with their tags: what is wrong with them, in the program and in the document. Condition: names' sizes, lists not huge. -/
namespace Go.Proofs.YtflklkijfkmeiaaGreatDoor
open Go Go.RowKit
set_option maxRecDepth 100000
set_option linter.all false
set_option maxHeartbeats 1000000
variable {H : Hp} {K : AV → Hp → Prop}
structure Ser where
  tg : ByteArray
  l : List Smp
def encSr (x : Ser) : List AC := [.str x.tg, .lst 3 (x.l.map encS)]
attribute [go_sem] encSr
def srErr (i : Nat) (p x : Ser) : Int := if ¬isKey x.tg then 5 else if 0 < i ∧ leS x.tg p.tg = true then 7 else serF x.l
def ser0 : Ser := ⟨noS, []⟩
def slF (l : List Ser) : Int := if 200 < l.length then 2 else errGo srErr 0 ser0 l
def Ser.fine (x : Ser) : Prop := x.tg.size ≤ 1000 ∧ x.l.length ≤ 1000000000
theorem serListF_a (l : List Ser) (hlen : l.length ≤ 1099511627776) (hs : ∀ x ∈ l, x.fine) (hk : K (.c (.int .i64 (slF l))) H) : ACalls Tryz.prog 52 [.c (.lst 2 (l.map encSr))] H K := by
  by_cases h6 : 200 < l.length
  · refine acalls Tryz.func52 rfl (by kernel_rfl) (by simp (disch := first | omega | (simp only [go_sem]; first | done | omega)) only [go_sem]) (fun hH => ?_)
    simp (disch := first | omega | (simp only [go_sem]; first | done | omega)) only [go_sem]
    (first | refine Ret.sameE (Nat.le_refl _) (by assumption) ?_ | refine Ret.dropE (by assumption) (Nat.le_refl _) (by assumption) (by simp [AV.ok, AV.ok1, AC.ok]) ?_) <;> simp [slF, h6]
  have hF : slF l = errGo srErr 0 ser0 l := by simp [slF, h6]
  refine acalls Tryz.func52 rfl (by kernel_rfl) (by simp (disch := first | omega | (simp only [go_sem]; first | done | omega)) only [go_sem]) (fun hH => ?_)
  simp (disch := first | omega | (simp only [go_sem]; first | done | omega)) only [go_sem]
  refine AWp.loop (H.length) [0, 9, 10] [11] (fun (k : Nat) => k ≤ l.length ∧ errGo srErr k (prv ser0 l k) (l.drop k) = errGo srErr 0 ser0 l) (fun (k : Nat) => [(11, (.c (.int .i64 k)))]) (fun (k : Nat) => H) (fun (k : Nat) => l.length - k) (by kernel_rfl) (fun _ => rfl) (by kernel_rfl) (by first | (simp; done) | omega) (by first | (simp; done) | (simp; omega) | omega) kl ?_ (fun k hk1 _ _ => ?_)
  · exact Next.mk 0 ⟨by omega, rfl⟩ wk
  obtain ⟨hk1, hk2⟩ := hk1
  by_cases hlt : k < l.length
  · have hst := errGo_step srErr ser0 l k hlt
    have hp : ∀ h : 0 < k, prv ser0 l k = l[((k : Int) - 1).toNat]'(by omega) := fun h => by rw [prv_pos _ _ _ hk1 h]; congr 1; omega
    have hv : srErr k (prv ser0 l k) l[k] ≠ 0 → srErr k (prv ser0 l k) l[k] = slF l := fun h => by rw [hF, ← hk2, hst, if_neg h]
    have hn : srErr k (prv ser0 l k) l[k] = 0 → errGo srErr (k + 1) (prv ser0 l (k + 1)) (l.drop (k + 1)) = errGo srErr 0 ser0 l := fun h => by rw [← hk2, hst, if_pos h]
    obtain ⟨f1, f2⟩ := hs l[k] (List.getElem_mem hlt)
    clear hst hF
    simp (disch := first | omega | (simp only [go_sem]; first | done | omega)) only [go_sem, hlt]
    repeat' (first | ((first | refine acond_d ?_ ?_ | refine acond_b ?_ ?_ | refine ag_d ?_ ?_ | refine ag_n ?_ ?_ | refine ag_bt ?_ ?_ | refine ag_bf ?_ ?_) <;> intro c <;> try simp (disch := first | omega | (simp only [go_sem]; first | done | omega)) only [go_sem, c]) | ((first | refine w_draw (by kernel_rfl) (by decide +kernel) ?_ | refine key_a _ (by omega) ?_ | refine checkSeries_a _ (by omega) ?_) <;> try simp (disch := first | omega | (simp only [go_sem]; first | done | omega)) only [go_sem]))
    all_goals first
      | (refine Next.mk (k + 1) (by grind [srErr]) ?_; exact wk)
      | (first | refine Ret.sameE (Nat.le_refl _) (by assumption) ?_ | refine Ret.dropE (by assumption) (Nat.le_refl _) (by assumption) (by simp [AV.ok, AV.ok1, AC.ok]) ?_) <;> grind [srErr]
  · simp (disch := first | omega | (simp only [go_sem]; first | done | omega)) only [go_sem, hlt]
    have := errGo_end srErr (prv ser0 l k) l k (by omega)
    (first | refine Ret.sameE (Nat.le_refl _) (by assumption) ?_ | refine Ret.dropE (by assumption) (Nat.le_refl _) (by assumption) (by simp [AV.ok, AV.ok1, AC.ok]) ?_) <;> (first | rfl | (simp only [AV.c.injEq, AC.bool.injEq]; rw [Bool.eq_iff_iff]; simp only [Bool.not_eq_true', decide_eq_true_eq, decide_eq_false_iff_not, Bool.and_eq_true, Bool.or_eq_true]; omega) | grind | (simp [*]; done) | (simp [*]; omega))
theorem errGo_eachS {α : Type} (f : Nat → α → α → Int) (p0 : α) (l : List α) (h : errGo f 0 p0 l = 0) : ∀ k (hk : k < l.length), f k (prv p0 l k) l[k] = 0 := by
  have key : ∀ k, k ≤ l.length → errGo f k (prv p0 l k) (l.drop k) = 0 := by
    intro k
    induction k with
    | zero => intro _; exact h
    | succ k ih =>
      intro hk
      have h1 := ih (by omega)
      rw [errGo_step f p0 l k (by omega)] at h1
      split at h1
      · exact h1
      · rename_i h2; exact absurd h1 h2
  intro k hk
  have h1 := key k (by omega)
  rw [errGo_step f p0 l k hk] at h1
  split at h1
  · assumption
  · exact h1
theorem slF_ok {l : List Ser} (h : slF l = 0) : l.length ≤ 200 ∧ (∀ x ∈ l, serF x.l = 0 ∧ isKey x.tg) ∧ ∀ (i j : Nat) (hj : j < l.length) (hij : i < j), ordS (l[i]'(by omega)).tg l[j].tg < 0 := by
  unfold slF at h
  split at h
  · cases h
  · have hall := errGo_eachS srErr ser0 l h
    have key : ∀ k (hk : k < l.length), isKey l[k].tg ∧ (∀ hk0 : 0 < k, ordS (l[k - 1]'(by omega)).tg l[k].tg < 0) ∧ serF l[k].l = 0 := fun k hk => by
      have h1 := hall k hk
      unfold srErr at h1
      split at h1
      · cases h1
      · rename_i hkey
        split at h1
        · cases h1
        · rename_i h2
          refine ⟨Decidable.not_not.1 hkey, fun hk0 => ?_, h1⟩
          have hpv : prv ser0 l k = l[k - 1]'(by omega) := prv_pos _ _ _ (by omega) hk0
          rw [hpv, leS_ord, decide_eq_true_eq] at h2
          have := ordS_flip l[k].tg (l[k - 1]'(by omega)).tg
          omega
    refine ⟨by omega, fun x hx => ?_, fun i j hj hij => ?_⟩
    · obtain ⟨k, hk, rfl⟩ := List.getElem_of_mem hx
      exact ⟨(key k hk).2.2, (key k hk).1⟩
    · obtain ⟨d, rfl⟩ : ∃ d, j = i + 1 + d := ⟨j - (i + 1), by omega⟩
      have key2 : ∀ d (hj : i + 1 + d < l.length), ordS (l[i]'(by omega)).tg l[i + 1 + d].tg < 0 := by
       intro d
       induction d with
       | zero => exact fun hj => (key (i + 1) hj).2.1 (by omega)
       | succ d ih =>
        intro hj
        have h1 := ih (by omega)
        have h2 := (key (i + 1 + (d + 1)) hj).2.1 (by omega)
        exact ordS_trans h1 h2
      exact key2 d hj
theorem smp_ok2 {l : List Smp} (h : serF l = 0) : ∀ x ∈ l, (0 ≤ x.t ∧ x.t ≤ 345686399999) ∧ (-1000000 ≤ x.v ∧ x.v ≤ 1000000) ∧ (0 ≤ x.q ∧ x.q ≤ 2) ∧ (x.q = 2 → x.v = 0) := by
  unfold serF at h
  split at h
  · cases h
  · intro x hx
    have hall := errGo_eachS serErr ⟨0, 0, 0⟩ l h
    obtain ⟨k, hk, rfl⟩ := List.getElem_of_mem hx
    have h1 := hall k hk
    unfold serErr at h1
    have h2 : smpErr l[k] = 0 := by
      by_cases h2 : smpErr l[k] = 0
      · exact h2
      · rw [if_pos h2] at h1; exact absurd h1 h2
    unfold smpErr at h2
    repeat' split at h2
    all_goals first | omega | (refine ⟨by omega, by omega, by omega, fun e => ?_⟩; omega)
end Go.Proofs.YtflklkijfkmeiaaGreatDoor
/- What a tag is at a moment, by series. No program in sight. -/
namespace Go.Proofs.YtflklkijfkmeiaaGreatDoor
open Go Go.RowKit
set_option maxRecDepth 100000
set_option linter.all false
set_option maxHeartbeats 1000000
def lastS (l : List Smp) (m : Int) : Option Smp := (l.filter fun y => decide (y.t ≤ m)).getLast?
def vlS : Option Smp → Vl
  | none => badV
  | some y => ⟨y.v, y.q⟩
def serL (ss : List Ser) (x : ByteArray) : List Smp := ((ss.filter fun s => decide (s.tg = x)).map (·.l)).flatten
def lookP (ss : List Ser) (x : ByteArray) (m : Int) : Vl := vlS (lastS (serL ss x) m)
theorem serL_mem {ss : List Ser} {x : ByteArray} {y : Smp} (h : y ∈ serL ss x) : ∃ s ∈ ss, s.tg = x ∧ y ∈ s.l := by
  unfold serL at h
  rw [List.mem_flatten] at h
  obtain ⟨l, hl, hy⟩ := h
  obtain ⟨s, hs, rfl⟩ := List.mem_map.1 hl
  rw [List.mem_filter] at hs
  exact ⟨s, hs.1, by simpa using hs.2, hy⟩
theorem lastS_mem {l : List Smp} {m : Int} {y : Smp} (h : lastS l m = some y) : y ∈ l ∧ y.t ≤ m := by
  unfold lastS at h
  have := List.mem_of_getLast? h
  rw [List.mem_filter] at this
  exact ⟨this.1, by simpa using this.2⟩
theorem lookP_ok {ss : List Ser} (h : slF ss = 0) (x : ByteArray) (m : Int) : VlOk (lookP ss x m) := by
  unfold lookP
  cases hl : lastS (serL ss x) m with
  | none => exact badV_ok
  | some y =>
    obtain ⟨s, hs, _, hy⟩ := serL_mem (lastS_mem hl).1
    have h1 := ((slF_ok h).2.1 s hs).1
    obtain ⟨_, h2, h3, h4⟩ := smp_ok2 h1 y hy
    exact ⟨⟨by show _ ≤ y.v; omega, by show y.v ≤ _; omega⟩, h3, h4⟩
theorem serL_at {ss : List Ser} (h : ∀ (i j : Nat) (hj : j < ss.length) (hij : i < j), ordS (ss[i]'(by omega)).tg ss[j].tg < 0) {k : Nat} (hk : k < ss.length) : serL ss ss[k].tg = ss[k].l := by
  have hf : ss.filter (fun s => decide (s.tg = ss[k].tg)) = [ss[k]] := by
    have e1 : ss = ss.take k ++ ss[k] :: ss.drop (k + 1) := by rw [List.getElem_cons_drop, List.take_append_drop]
    have hb : ∀ s ∈ ss.take k, s.tg ≠ ss[k].tg := fun s hs => by
      obtain ⟨i, hi, rfl⟩ := List.getElem_of_mem hs
      rw [List.length_take] at hi
      rw [List.getElem_take]
      have := h i k hk (by omega)
      intro e
      rw [(ordS_eq _ _).2 e] at this
      omega
    have ha : ∀ s ∈ ss.drop (k + 1), s.tg ≠ ss[k].tg := fun s hs => by
      obtain ⟨i, hi, rfl⟩ := List.getElem_of_mem hs
      rw [List.length_drop] at hi
      rw [List.getElem_drop]
      have := h k (k + 1 + i) (by omega) (by omega)
      intro e
      rw [(ordS_eq _ _).2 e.symm] at this
      omega
    generalize ss[k] = x at *
    rw [e1, List.filter_append, List.filter_cons_of_pos (by simp), List.filter_eq_nil_iff.2 (fun s hs => by simpa using hb s hs), List.filter_eq_nil_iff.2 (fun s hs => by simpa using ha s hs)]
    rfl
  unfold serL
  rw [hf]
  simp
theorem serL_no {ss : List Ser} {x : ByteArray} (h : ∀ s ∈ ss, s.tg ≠ x) : serL ss x = [] := by
  unfold serL
  rw [List.filter_eq_nil_iff.2 (fun s hs => by simpa using h s hs)]
  rfl
theorem lastS_pos {l : List Smp} {m : Int} {p : Nat} (hp : p ≤ l.length) (h1 : ∀ q (h : q < l.length), q < p → l[q].t ≤ m) (h2 : ∀ q (h : q < l.length), p ≤ q → m < l[q].t) : lastS l m = if h : 0 < p then some (l[p - 1]'(by omega)) else none := by
  have e : l.filter (fun y => decide (y.t ≤ m)) = l.take p := by
    conv => lhs; rw [← List.take_append_drop p l]
    rw [List.filter_append, List.filter_eq_self.2 (fun y hy => ?_), List.filter_eq_nil_iff.2 (fun y hy => ?_), List.append_nil]
    · obtain ⟨i, hi, rfl⟩ := List.getElem_of_mem hy
      rw [List.length_drop] at hi
      rw [List.getElem_drop]
      have := h2 (p + i) (by omega) (by omega)
      simp only [decide_eq_true_eq]
      omega
    · obtain ⟨i, hi, rfl⟩ := List.getElem_of_mem hy
      rw [List.length_take] at hi
      rw [List.getElem_take]
      simpa using h1 i (by omega) (by omega)
  unfold lastS
  rw [e]
  split
  · rename_i h
    rw [List.getLast?_eq_getElem?, List.length_take, List.getElem?_take, if_pos (by omega), show min p l.length - 1 = p - 1 by omega, List.getElem?_eq_getElem (by omega)]
  · have : p = 0 := by omega
    subst this
    rfl
end Go.Proofs.YtflklkijfkmeiaaGreatDoor
