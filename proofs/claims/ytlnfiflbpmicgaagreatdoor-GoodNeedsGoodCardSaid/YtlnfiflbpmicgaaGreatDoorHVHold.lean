/- Several texts in one: Holds: what is wrong with them, in the program and in the document's answer, and what follows. No condition. -/
import Derived.Test.YtlnfiflbpmicgaaGreatDoorHVStr
/- Holds: what is wrong with them, in the program and in the document's answer. Condition: keys are short. -/
namespace Go.Proofs.YtlnfiflbpmicgaaGreatDoor
open Go Go.RowKit
set_option maxRecDepth 100000
set_option linter.all false
set_option maxHeartbeats 1000000
variable {H : Hp} {K : AV → Hp → Prop}
def leS (a b : ByteArray) : Bool := Op.bytesLess a.toList b.toList || decide (a = b)
@[go_sem] theorem leS_fold (a b : ByteArray) : (Op.bytesLess a.toList b.toList || decide (a = b)) = leS a b := (rfl)
def noS : ByteArray := ⟨#[]⟩
@[go_sem] theorem noS_fold : (⟨#[]⟩ : ByteArray) = noS := (rfl)
end Go.Proofs.YtlnfiflbpmicgaaGreatDoor
/- The order of names: strings.Compare in the program; what it says of `<=`. No condition. -/
namespace Go.Proofs.YtlnfiflbpmicgaaGreatDoor
open Go Go.RowKit
set_option maxRecDepth 100000
set_option linter.all false
set_option maxHeartbeats 1000000
variable {H : Hp} {K : AV → Hp → Prop}
def ordS (a b : ByteArray) : Int := Lib.compareBytes a.data.toList b.data.toList
theorem ordStrX (f : FuncId) (hf : externs Tryz.prog f Extern.BytealgCompare.compare) (a b : ByteArray) (hk : K (.c (.int .i64 (ordS a b))) H) : AExt Tryz.prog f [(.c (.str a)), (.c (.str b))] H K := by
  refine ⟨_, hf, fun B w0 ι w vs hs hr ho => ?_⟩
  obtain ⟨l⟩ := vs
  match l, hr with
  | [u, v], hr =>
    have h1 : u = .string a := hr.1
    have h2 : v = .string b := hr.2.1
    subst h1; subst h2
    exact ⟨_, w, Lib.run_compareString a b w, ι, _, (.c (.int .i64 (ordS a b))), H, rfl, Agree.refl _ _, Nat.le_refl _, hs, rfl, trivial, hk⟩
theorem ext_ordStr : externs Tryz.prog 263 Extern.BytealgCompare.compare := ⟨_, rfl, by kernel_rfl, by kernel_rfl, by kernel_rfl, by kernel_rfl⟩
theorem ordStr_a (a b : ByteArray) (hk : K (.c (.int .i64 (ordS a b))) H) : ACalls Tryz.prog 155 [(.c (.str a)), (.c (.str b))] H K := by
  have key : ∀ (K : AV → Hp → Prop), K (.c (.int .i64 (ordS a b))) H → ACalls Tryz.prog 214 [(.c (.str a)), (.c (.str b))] H K := by
    intro K hk
    refine acalls Tryz.func214 rfl (by kernel_rfl) (by simp (disch := first | omega | (simp only [go_sem]; first | done | omega)) only [go_sem]) (fun hH => ?_)
    simp (disch := first | omega | (simp only [go_sem]; first | done | omega)) only [go_sem]
    refine ordStrX _ ext_ordStr a b ?_
    simp (disch := first | omega | (simp only [go_sem]; first | done | omega)) only [go_sem]
    exact Ret.same (Nat.le_refl _) hk
  refine acalls Tryz.func155 rfl (by kernel_rfl) (by simp (disch := first | omega | (simp only [go_sem]; first | done | omega)) only [go_sem]) (fun hH => ?_)
  simp (disch := first | omega | (simp only [go_sem]; first | done | omega)) only [go_sem]
  refine key _ ?_
  simp (disch := first | omega | (simp only [go_sem]; first | done | omega)) only [go_sem]
  exact Ret.same (Nat.le_refl _) hk
theorem ordB_eq : ∀ a b : List UInt8, Lib.compareBytes a b = 0 ↔ a = b
  | [], [] => by simp [Lib.compareBytes]
  | [], _ :: _ => by simp [Lib.compareBytes]
  | _ :: _, [] => by simp [Lib.compareBytes]
  | a :: xs, b :: ys => by
    have ih := ordB_eq xs ys
    unfold Lib.compareBytes
    grind
theorem ordB_flip : ∀ a b : List UInt8, Lib.compareBytes b a = -Lib.compareBytes a b
  | [], [] => rfl
  | [], _ :: _ => rfl
  | _ :: _, [] => rfl
  | x :: xs, y :: ys => by
    have ih := ordB_flip xs ys
    unfold Lib.compareBytes
    grind
theorem ordB_trans : ∀ a b c : List UInt8, Lib.compareBytes a b < 0 → Lib.compareBytes b c < 0 → Lib.compareBytes a c < 0
  | [], [], _ => by simp [Lib.compareBytes]
  | [], _ :: _, [] => by simp [Lib.compareBytes]
  | [], _ :: _, _ :: _ => by simp [Lib.compareBytes]
  | _ :: _, [], _ => by simp [Lib.compareBytes]
  | _ :: _, _ :: _, [] => by simp [Lib.compareBytes]
  | x :: xs, y :: ys, z :: zs => by
    have ih := ordB_trans xs ys zs
    unfold Lib.compareBytes
    grind
theorem ordB_less : ∀ a b : List UInt8, Op.bytesLess a b = decide (Lib.compareBytes a b < 0)
  | [], [] => by simp [Lib.compareBytes, Op.bytesLess]
  | [], _ :: _ => by simp [Lib.compareBytes, Op.bytesLess]
  | _ :: _, [] => by simp [Lib.compareBytes, Op.bytesLess]
  | x :: xs, y :: ys => by
    have ih := ordB_less xs ys
    unfold Lib.compareBytes Op.bytesLess
    grind
theorem ordS_eq (a b : ByteArray) : ordS a b = 0 ↔ a = b := by
  unfold ordS
  rw [ordB_eq]
  constructor
  · intro h
    obtain ⟨⟨a⟩⟩ := a
    obtain ⟨⟨b⟩⟩ := b
    simp only at h
    rw [h]
  · rintro rfl; rfl
theorem ordS_flip (a b : ByteArray) : ordS b a = -ordS a b := ordB_flip _ _
theorem ordS_trans {a b c : ByteArray} (h1 : ordS a b < 0) (h2 : ordS b c < 0) : ordS a c < 0 := ordB_trans _ _ _ h1 h2
theorem leS_ord (a b : ByteArray) : leS a b = decide (ordS a b ≤ 0) := by
  have h : a.toList = a.data.toList ∧ b.toList = b.data.toList := ⟨ByteArray.toList_eq _, ByteArray.toList_eq _⟩
  unfold leS
  rw [h.1, h.2, ordB_less]
  have := ordS_eq a b
  unfold ordS at *
  grind
end Go.Proofs.YtlnfiflbpmicgaaGreatDoor
