/- Several texts in one: Holds: what is wrong with them, in the program and in the document's answer, and what follows. No condition. -/
import Derived.Test.YtlnfiflbpmicgaaGreatDoorHVStr
import Derived.Test.YtlnfiflbpmicgaaGreatDoorHVSmp
set_option linter.all false
namespace Go.Proofs.YtlnfiflbpmicgaaGreatDoor
open Go Go.RowKit
set_option maxRecDepth 100000
set_option maxHeartbeats 1000000
variable {H : Hp} {K : AV → Hp → Prop}
def leS (a b : ByteArray) : Bool := Op.bytesLess a.toList b.toList || decide (a = b)
@[go_sem] theorem leS_fold (a b : ByteArray) : (Op.bytesLess a.toList b.toList || decide (a = b)) = leS a b := (rfl)
def noS : ByteArray := ⟨#[]⟩
@[go_sem] theorem noS_fold : (⟨#[]⟩ : ByteArray) = noS := (rfl)
theorem leS_no {s : ByteArray} (h : isKey s) : leS s noS = false := by
  have h1 : s.size ≠ 0 := by have := h.1; omega
  have h2 : s ≠ noS := fun h' => h1 (size_zero.1 h')
  unfold leS
  rw [decide_eq_false h2, Bool.or_false, ByteArray.toList_eq, ByteArray.toList_eq]
  show Op.bytesLess s.data.toList [] = false
  cases s.data.toList <;> rfl
end Go.Proofs.YtlnfiflbpmicgaaGreatDoor
namespace Go.Proofs.YtlnfiflbpmicgaaGreatDoor
open Go Go.RowKit
set_option maxRecDepth 100000
set_option maxHeartbeats 1000000
variable {H : Hp} {K : AV → Hp → Prop}
def ordS (a b : ByteArray) : Int := Lib.compareBytes a.data.toList b.data.toList
theorem ordStrX (f : FuncId) (hf : externs Tryz.prog f Extern.BytealgCompare.compare) (a b : ByteArray) (hk : K (.c (.int .i64 (ordS a b))) H) : AExt Tryz.prog f [(.c (.str a)), (.c (.str b))] H K := by
  refine ⟨_, hf, fun B w0 ι w vs hs hr ho => ?_⟩
  obtain ⟨l⟩ := vs
  match l, hr with
  | [u, v], hr =>
    have h1 : u = .string a := hr.1
    have h2 : v = .string b := hr.2.1
    subst h1; subst h2
    exact ⟨_, w, Lib.run_compareString a b w, ι, _, (.c (.int .i64 (ordS a b))), H, rfl, Agree.refl _ _, Nat.le_refl _, hs, rfl, trivial, hk⟩
theorem ext_ordStr : externs Tryz.prog 263 Extern.BytealgCompare.compare := ⟨_, rfl, by kernel_rfl, by kernel_rfl, by kernel_rfl, by kernel_rfl⟩
theorem ordStr_a (a b : ByteArray) (hk : K (.c (.int .i64 (ordS a b))) H) : ACalls Tryz.prog 155 [(.c (.str a)), (.c (.str b))] H K := by
  have key : ∀ (K : AV → Hp → Prop), K (.c (.int .i64 (ordS a b))) H → ACalls Tryz.prog 214 [(.c (.str a)), (.c (.str b))] H K := by
    intro K hk
    refine acalls Tryz.func214 rfl (by kernel_rfl) (by simp (disch := first | omega | (simp only [go_sem]; try omega)) only [go_sem]) (fun hH => ?_)
    simp (disch := first | omega | (simp only [go_sem]; try omega)) only [go_sem]
    refine ordStrX _ ext_ordStr a b ?_
    simp (disch := first | omega | (simp only [go_sem]; try omega)) only [go_sem]
    exact Ret.same (Nat.le_refl _) hk
  refine acalls Tryz.func155 rfl (by kernel_rfl) (by simp (disch := first | omega | (simp only [go_sem]; try omega)) only [go_sem]) (fun hH => ?_)
  simp (disch := first | omega | (simp only [go_sem]; try omega)) only [go_sem]
  refine key _ ?_
  simp (disch := first | omega | (simp only [go_sem]; try omega)) only [go_sem]
  exact Ret.same (Nat.le_refl _) hk
theorem ordB_eq : ∀ a b : List UInt8, Lib.compareBytes a b = 0 ↔ a = b
  | [], [] => by simp [Lib.compareBytes]
  | [], _ :: _ => by simp [Lib.compareBytes]
  | _ :: _, [] => by simp [Lib.compareBytes]
  | a :: xs, b :: ys => by
    have ih := ordB_eq xs ys
    unfold Lib.compareBytes
    grind
theorem ordB_flip : ∀ a b : List UInt8, Lib.compareBytes b a = -Lib.compareBytes a b
  | [], [] => rfl
  | [], _ :: _ => rfl
  | _ :: _, [] => rfl
  | x :: xs, y :: ys => by
    have ih := ordB_flip xs ys
    unfold Lib.compareBytes
    grind
theorem ordB_trans : ∀ a b c : List UInt8, Lib.compareBytes a b < 0 → Lib.compareBytes b c < 0 → Lib.compareBytes a c < 0
  | [], [], _ => by simp [Lib.compareBytes]
  | [], _ :: _, [] => by simp [Lib.compareBytes]
  | [], _ :: _, _ :: _ => by simp [Lib.compareBytes]
  | _ :: _, [], _ => by simp [Lib.compareBytes]
  | _ :: _, _ :: _, [] => by simp [Lib.compareBytes]
  | x :: xs, y :: ys, z :: zs => by
    have ih := ordB_trans xs ys zs
    unfold Lib.compareBytes
    grind
theorem ordB_less : ∀ a b : List UInt8, Op.bytesLess a b = decide (Lib.compareBytes a b < 0)
  | [], [] => by simp [Lib.compareBytes, Op.bytesLess]
  | [], _ :: _ => by simp [Lib.compareBytes, Op.bytesLess]
  | _ :: _, [] => by simp [Lib.compareBytes, Op.bytesLess]
  | x :: xs, y :: ys => by
    have ih := ordB_less xs ys
    unfold Lib.compareBytes Op.bytesLess
    grind
theorem ordS_eq (a b : ByteArray) : ordS a b = 0 ↔ a = b := by
  unfold ordS
  rw [ordB_eq]
  constructor
  · intro h
    obtain ⟨⟨a⟩⟩ := a
    obtain ⟨⟨b⟩⟩ := b
    simp only at h
    rw [h]
  · rintro rfl; rfl
theorem ordS_flip (a b : ByteArray) : ordS b a = -ordS a b := ordB_flip _ _
theorem ordS_trans {a b c : ByteArray} (h1 : ordS a b < 0) (h2 : ordS b c < 0) : ordS a c < 0 := ordB_trans _ _ _ h1 h2
theorem leS_ord (a b : ByteArray) : leS a b = decide (ordS a b ≤ 0) := by
  have h : a.toList = a.data.toList ∧ b.toList = b.data.toList := ⟨ByteArray.toList_eq _, ByteArray.toList_eq _⟩
  unfold leS
  rw [h.1, h.2, ordB_less]
  have := ordS_eq a b
  unfold ordS at *
  grind
end Go.Proofs.YtlnfiflbpmicgaaGreatDoor
namespace Go.Proofs.YtlnfiflbpmicgaaGreatDoor
open Go Go.RowKit
set_option maxRecDepth 100000
set_option maxHeartbeats 1000000
variable {H : Hp} {K : AV → Hp → Prop}
structure Ser where
  tg : ByteArray
  l : List Smp
def encSr (x : Ser) : List AC := [.str x.tg, .lst 3 (x.l.map encS)]
attribute [go_sem] encSr
def srErr (i : Nat) (p x : Ser) : Int := if ¬isKey x.tg then 5 else if 0 < i ∧ leS x.tg p.tg = true then 7 else serF x.l
def ser0 : Ser := ⟨noS, []⟩
def slF (l : List Ser) : Int := if 200 < l.length then 2 else errGo srErr 0 ser0 l
def Ser.fine (x : Ser) : Prop := x.tg.size ≤ 1000 ∧ x.l.length ≤ 1000000000
theorem serListF_a (l : List Ser) (hlen : l.length ≤ 1099511627776) (hs : ∀ x ∈ l, x.fine) (hk : K (.c (.int .i64 (slF l))) H) : ACalls Tryz.prog 61 [.c (.lst 2 (l.map encSr))] H K := by
  by_cases h6 : 200 < l.length
  · refine acalls Tryz.func61 rfl (by kernel_rfl) (by simp (disch := first | omega | (simp only [go_sem]; try omega)) only [go_sem]) (fun hH => ?_)
    simp (disch := first | omega | (simp only [go_sem]; try omega)) only [go_sem]
    (first | refine Ret.sameE (Nat.le_refl _) (by assumption) ?_ | refine Ret.dropE (by assumption) (Nat.le_refl _) (by assumption) (by simp [AV.ok, AV.ok1, AC.ok]) ?_) <;> simp [slF, h6]
  have hF : slF l = errGo srErr 0 ser0 l := by simp [slF, h6]
  refine acalls Tryz.func61 rfl (by kernel_rfl) (by simp (disch := first | omega | (simp only [go_sem]; try omega)) only [go_sem]) (fun hH => ?_)
  simp (disch := first | omega | (simp only [go_sem]; try omega)) only [go_sem]
  refine AWp.loop (H.length) [0, 9, 10] [11] (fun (k : Nat) => k ≤ l.length ∧ errGo srErr k (prv ser0 l k) (l.drop k) = errGo srErr 0 ser0 l) (fun (k : Nat) => [(11, (.c (.int .i64 k)))]) (fun (k : Nat) => H) (fun (k : Nat) => l.length - k) (by kernel_rfl) (fun _ => rfl) (by kernel_rfl) (by first | (simp; done) | omega) (by first | (simp; done) | (simp; omega) | omega) kl ?_ (fun k hk1 _ _ => ?_)
  · exact Next.mk 0 ⟨by omega, rfl⟩ wk
  obtain ⟨hk1, hk2⟩ := hk1
  by_cases hlt : k < l.length
  · have hst := errGo_step srErr ser0 l k hlt
    have hp : ∀ h : 0 < k, prv ser0 l k = l[((k : Int) - 1).toNat]'(by omega) := fun h => by rw [prv_pos _ _ _ hk1 h]; congr 1; omega
    have hv : srErr k (prv ser0 l k) l[k] ≠ 0 → srErr k (prv ser0 l k) l[k] = slF l := fun h => by rw [hF, ← hk2, hst, if_neg h]
    have hn : srErr k (prv ser0 l k) l[k] = 0 → errGo srErr (k + 1) (prv ser0 l (k + 1)) (l.drop (k + 1)) = errGo srErr 0 ser0 l := fun h => by rw [← hk2, hst, if_pos h]
    obtain ⟨f1, f2⟩ := hs l[k] (List.getElem_mem hlt)
    clear hst hF
    simp (disch := first | omega | (simp only [go_sem]; try omega)) only [go_sem, hlt]
    repeat' (first | ((first | refine acond_d ?_ ?_ | refine acond_b ?_ ?_ | refine ag_d ?_ ?_ | refine ag_n ?_ ?_ | refine ag_bt ?_ ?_ | refine ag_bf ?_ ?_) <;> intro c <;> try simp (disch := first | omega | (simp only [go_sem]; try omega)) only [go_sem, c]) | ((first | refine w_draw (by kernel_rfl) (by decide +kernel) ?_ | refine key_a _ (by omega) ?_ | refine checkSeries_a _ (by omega) ?_) <;> try simp (disch := first | omega | (simp only [go_sem]; try omega)) only [go_sem]))
    all_goals first
      | (refine Next.mk (k + 1) (by grind [srErr]) ?_; exact wk)
      | (first | refine Ret.sameE (Nat.le_refl _) (by assumption) ?_ | refine Ret.dropE (by assumption) (Nat.le_refl _) (by assumption) (by simp [AV.ok, AV.ok1, AC.ok]) ?_) <;> grind [srErr]
  · simp (disch := first | omega | (simp only [go_sem]; try omega)) only [go_sem, hlt]
    have := errGo_end srErr (prv ser0 l k) l k (by omega)
    (first | refine Ret.sameE (Nat.le_refl _) (by assumption) ?_ | refine Ret.dropE (by assumption) (Nat.le_refl _) (by assumption) (by simp [AV.ok, AV.ok1, AC.ok]) ?_) <;> (first | rfl | (simp only [AV.c.injEq, AC.bool.injEq]; rw [Bool.eq_iff_iff]; simp only [Bool.not_eq_true', decide_eq_true_eq, decide_eq_false_iff_not, Bool.and_eq_true, Bool.or_eq_true]; omega) | grind | (simp [*]; done) | (simp [*]; omega))
theorem listFault_a (l : List Ser) (hlen : l.length ≤ 1099511627776) (hs : ∀ x ∈ l, x.fine) (hk : K (.c (.int .i64 (slF l))) H) : ACalls Tryz.prog 17 [.c (.lst 2 (l.map encSr))] H K := by
  by_cases h6 : 200 < l.length
  · refine acalls Tryz.func17 rfl (by kernel_rfl) (by simp (disch := first | omega | (simp only [go_sem]; try omega)) only [go_sem]) (fun hH => ?_)
    simp (disch := first | omega | (simp only [go_sem]; try omega)) only [go_sem]
    (first | refine Ret.sameE (Nat.le_refl _) (by assumption) ?_ | refine Ret.dropE (by assumption) (Nat.le_refl _) (by assumption) (by simp [AV.ok, AV.ok1, AC.ok]) ?_) <;> simp [slF, h6]
  have hF : slF l = errGo srErr 0 ser0 l := by simp [slF, h6]
  refine acalls Tryz.func17 rfl (by kernel_rfl) (by simp (disch := first | omega | (simp only [go_sem]; try omega)) only [go_sem]) (fun hH => ?_)
  simp (disch := first | omega | (simp only [go_sem]; try omega)) only [go_sem]
  refine AWp.loop (H.length) [10, 11] [12, 3] (fun (k : Nat) => k ≤ l.length ∧ errGo srErr k (prv ser0 l k) (l.drop k) = errGo srErr 0 ser0 l) (fun (k : Nat) => [(12, (.c (.int .i64 k))), (3, (.c (.str ((prv ser0 l k).tg))))]) (fun (k : Nat) => H) (fun (k : Nat) => l.length - k) (by kernel_rfl) (fun _ => rfl) (by kernel_rfl) (by first | (simp; done) | omega) (by first | (simp; done) | (simp; omega) | omega) kl ?_ (fun k hk1 _ _ => ?_)
  · exact Next.mk 0 ⟨by omega, rfl⟩ wk
  obtain ⟨hk1, hk2⟩ := hk1
  by_cases hlt : k < l.length
  · have hst := errGo_step srErr ser0 l k hlt
    have hp : k = 0 → (prv ser0 l k).tg = noS := fun h => by subst h; rfl
    have hq : isKey l[k].tg → k = 0 → leS l[k].tg (prv ser0 l k).tg = false := fun h1 h2 => by rw [hp h2]; exact leS_no h1
    have hv : srErr k (prv ser0 l k) l[k] ≠ 0 → srErr k (prv ser0 l k) l[k] = slF l := fun h => by rw [hF, ← hk2, hst, if_neg h]
    have hn : srErr k (prv ser0 l k) l[k] = 0 → errGo srErr (k + 1) (prv ser0 l (k + 1)) (l.drop (k + 1)) = errGo srErr 0 ser0 l := fun h => by rw [← hk2, hst, if_pos h]
    obtain ⟨f1, f2⟩ := hs l[k] (List.getElem_mem hlt)
    have hnx : (prv ser0 l (k + 1)).tg = l[k].tg := by rw [prv_succ _ _ _ hlt]
    clear hst hF hp
    simp (disch := first | omega | (simp only [go_sem]; try omega)) only [go_sem, hlt]
    repeat' (first | ((first | refine acond_d ?_ ?_ | refine acond_b ?_ ?_ | refine ag_d ?_ ?_ | refine ag_n ?_ ?_ | refine ag_bt ?_ ?_ | refine ag_bf ?_ ?_) <;> intro c <;> try simp (disch := first | omega | (simp only [go_sem]; try omega)) only [go_sem, c]) | ((first | refine w_draw (by kernel_rfl) (by decide +kernel) ?_ | refine keyR_a l[k].tg (by omega) ?_ | refine seriesFault_a _ (by omega) ?_) <;> try simp (disch := first | omega | (simp only [go_sem]; try omega)) only [go_sem]))
    all_goals first
      | (refine Next.mk (k + 1) (by grind [srErr]) ?_; rw [hnx]; exact wk)
      | (first | refine Ret.sameE (Nat.le_refl _) (by assumption) ?_ | refine Ret.dropE (by assumption) (Nat.le_refl _) (by assumption) (by simp [AV.ok, AV.ok1, AC.ok]) ?_) <;> grind [srErr]
  · simp (disch := first | omega | (simp only [go_sem]; try omega)) only [go_sem, hlt]
    have := errGo_end srErr (prv ser0 l k) l k (by omega)
    (first | refine Ret.sameE (Nat.le_refl _) (by assumption) ?_ | refine Ret.dropE (by assumption) (Nat.le_refl _) (by assumption) (by simp [AV.ok, AV.ok1, AC.ok]) ?_) <;> (first | rfl | (simp only [AV.c.injEq, AC.bool.injEq]; rw [Bool.eq_iff_iff]; simp only [Bool.not_eq_true', decide_eq_true_eq, decide_eq_false_iff_not, Bool.and_eq_true, Bool.or_eq_true]; omega) | grind | (simp [*]; done) | (simp [*]; omega))
theorem errGo_eachS {α : Type} (f : Nat → α → α → Int) (p0 : α) (l : List α) (h : errGo f 0 p0 l = 0) : ∀ k (hk : k < l.length), f k (prv p0 l k) l[k] = 0 := by
  have key : ∀ k, k ≤ l.length → errGo f k (prv p0 l k) (l.drop k) = 0 := by
    intro k
    induction k with
    | zero => intro _; exact h
    | succ k ih =>
      intro hk
      have h1 := ih (by omega)
      rw [errGo_step f p0 l k (by omega)] at h1
      split at h1
      · exact h1
      · rename_i h2; exact absurd h1 h2
  intro k hk
  have h1 := key k (by omega)
  rw [errGo_step f p0 l k hk] at h1
  split at h1
  · assumption
  · exact h1
theorem slF_ok {l : List Ser} (h : slF l = 0) : l.length ≤ 200 ∧ (∀ x ∈ l, serF x.l = 0 ∧ isKey x.tg) ∧ ∀ (i j : Nat) (hj : j < l.length) (hij : i < j), ordS (l[i]'(by omega)).tg l[j].tg < 0 := by
  unfold slF at h
  split at h
  · cases h
  · have hall := errGo_eachS srErr ser0 l h
    have key : ∀ k (hk : k < l.length), isKey l[k].tg ∧ (∀ hk0 : 0 < k, ordS (l[k - 1]'(by omega)).tg l[k].tg < 0) ∧ serF l[k].l = 0 := fun k hk => by
      have h1 := hall k hk
      unfold srErr at h1
      split at h1
      · cases h1
      · rename_i hkey
        split at h1
        · cases h1
        · rename_i h2
          refine ⟨Decidable.not_not.1 hkey, fun hk0 => ?_, h1⟩
          have hpv : prv ser0 l k = l[k - 1]'(by omega) := prv_pos _ _ _ (by omega) hk0
          rw [hpv, leS_ord, decide_eq_true_eq] at h2
          have := ordS_flip l[k].tg (l[k - 1]'(by omega)).tg
          omega
    refine ⟨by omega, fun x hx => ?_, fun i j hj hij => ?_⟩
    · obtain ⟨k, hk, rfl⟩ := List.getElem_of_mem hx
      exact ⟨(key k hk).2.2, (key k hk).1⟩
    · obtain ⟨d, rfl⟩ : ∃ d, j = i + 1 + d := ⟨j - (i + 1), by omega⟩
      have key2 : ∀ d (hj : i + 1 + d < l.length), ordS (l[i]'(by omega)).tg l[i + 1 + d].tg < 0 := by
       intro d
       induction d with
       | zero => exact fun hj => (key (i + 1) hj).2.1 (by omega)
       | succ d ih =>
        intro hj
        have h1 := ih (by omega)
        have h2 := (key (i + 1 + (d + 1)) hj).2.1 (by omega)
        exact ordS_trans h1 h2
      exact key2 d hj
theorem smp_ok2 {l : List Smp} (h : serF l = 0) : ∀ x ∈ l, (0 ≤ x.t ∧ x.t ≤ 345686399999) ∧ (-1000000 ≤ x.v ∧ x.v ≤ 1000000) ∧ (0 ≤ x.q ∧ x.q ≤ 2) ∧ (x.q = 2 → x.v = 0) := by
  unfold serF at h
  split at h
  · cases h
  · intro x hx
    have hall := errGo_eachS serErr ⟨0, 0, 0⟩ l h
    obtain ⟨k, hk, rfl⟩ := List.getElem_of_mem hx
    have h1 := hall k hk
    unfold serErr at h1
    have h2 : smpErr l[k] = 0 := by
      by_cases h2 : smpErr l[k] = 0
      · exact h2
      · rw [if_pos h2] at h1; exact absurd h1 h2
    unfold smpErr at h2
    repeat' split at h2
    all_goals first | omega | (refine ⟨by omega, by omega, by omega, fun e => ?_⟩; omega)
end Go.Proofs.YtlnfiflbpmicgaaGreatDoor
namespace Go.Proofs.YtlnfiflbpmicgaaGreatDoor
open Go Go.RowKit
set_option maxRecDepth 100000
set_option maxHeartbeats 1000000
variable {H : Hp} {K : AV → Hp → Prop}
theorem momentFaultR_a (m : Int) (hk : K (.c (.int .i64 (if 0 ≤ m ∧ m ≤ 345686399999 then 0 else 1))) H) : ACalls Tryz.prog 18 [(.c (.int .i64 m))] H K := by
  refine acalls Tryz.func18 rfl (by kernel_rfl) (by simp (disch := first | omega | (simp only [go_sem]; try omega)) only [go_sem]) (fun hH => ?_)
  simp (disch := first | omega | (simp only [go_sem]; try omega)) only [go_sem]
  repeat' (first | ((first | refine acond_d ?_ ?_ | refine acond_b ?_ ?_ | refine ag_d ?_ ?_ | refine ag_n ?_ ?_ | refine ag_bt ?_ ?_ | refine ag_bf ?_ ?_) <;> intro c <;> try simp (disch := first | omega | (simp only [go_sem]; try omega)) only [go_sem, c]) | ((first | refine w_draw (by kernel_rfl) (by decide +kernel) ?_ | refine momentR_a _ _ _ ?_) <;> try simp (disch := first | omega | (simp only [go_sem]; try omega)) only [go_sem]))
  all_goals (first | refine Ret.sameE (Nat.le_refl _) (by assumption) ?_ | refine Ret.dropE (by assumption) (Nat.le_refl _) (by assumption) (by simp [AV.ok, AV.ok1, AC.ok]) ?_) <;> (first | rfl | (simp only [AV.c.injEq, AC.bool.injEq]; rw [Bool.eq_iff_iff]; simp only [Bool.not_eq_true', decide_eq_true_eq, decide_eq_false_iff_not, Bool.and_eq_true, Bool.or_eq_true]; omega) | grind | (simp [*]; done) | (simp [*]; omega))
end Go.Proofs.YtlnfiflbpmicgaaGreatDoor
