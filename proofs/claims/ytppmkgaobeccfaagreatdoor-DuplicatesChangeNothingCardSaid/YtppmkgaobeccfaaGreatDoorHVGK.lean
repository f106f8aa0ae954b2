/- Several texts in one: What a buffer does: no program in sight, and what follows. No condition. -/
import Derived.Test.YtppmkgaobeccfaaGreatDoorHVGB
import Derived.Test.YtppmkgaobeccfaaGreatDoorHVGA
import Derived.Test.YtppmkgaobeccfaaGreatDoorHVAnswerR
/- What a buffer does: no program in sight. No condition. -/
namespace Go.Proofs.YtppmkgaobeccfaaGreatDoor
open Go Go.RowKit
set_option maxRecDepth 100000
set_option linter.all false
structure Pk where
  n : Int
  tag : ByteArray
  s : Smp
structure Hd where
  p : Pk
  sent : Bool
structure Stp where
  kind : Int
  count : Int
  seq : Int
  tag : ByteArray
  s : Smp
def addE (l : List Int) (n : Int) : List Int := if n ∈ l then l else l ++ [n]
/-! ### what stays -/
def sq (l : List Hd) : List Int := l.map (fun x => x.p.n)
/-! ### rows -/
def rowAdd (rs : List (Int × Int)) (n : Int) : List (Int × Int) :=
  if (rs.getLast?).map (·.2) = some n then rs.dropLast ++ [((rs.getLastD (0, 0)).1, n + 1)] else rs ++ [(n, n + 1)]
def rowsF (l : List Int) : List (Int × Int) := l.foldl rowAdd []
end Go.Proofs.YtppmkgaobeccfaaGreatDoor
/- A buffer that drops nothing: no program in sight. No condition. -/
namespace Go.Proofs.YtppmkgaobeccfaaGreatDoor
open Go Go.RowKit
set_option maxRecDepth 100000
set_option linter.all false
theorem addE_mem {l : List Int} {n x : Int} : x ∈ addE l n ↔ x ∈ l ∨ x = n := by
  unfold addE
  split
  · constructor
    · exact .inl
    · rintro (h | rfl) <;> assumption
  · simp
end Go.Proofs.YtppmkgaobeccfaaGreatDoor
/- Held packets deleted in place. No condition. -/
namespace Go.Proofs.YtppmkgaobeccfaaGreatDoor
open Go Go.RowKit
set_option maxRecDepth 100000
set_option linter.all false
set_option maxHeartbeats 1000000
variable {H : Hp} {K : AV → Hp → Prop}
def encPk (x : Pk) : List AC := [.int .i64 x.n, .str x.tag, .int .i64 x.s.t, .int .i64 x.s.v, .int .i64 x.s.q]
def encHd (x : Hd) : List AC := [.int .i64 x.p.n, .str x.p.tag, .int .i64 x.p.s.t, .int .i64 x.p.s.v, .int .i64 x.p.s.q, .bool x.sent]
def encStp (x : Stp) : List AC := [.int .i64 x.kind, .int .i64 x.count, .int .i64 x.seq, .str x.tag, .int .i64 x.s.t, .int .i64 x.s.v, .int .i64 x.s.q]
attribute [go_sem] encPk encHd encStp
end Go.Proofs.YtppmkgaobeccfaaGreatDoor
/- A buffer's node in memory. No condition. -/
namespace Go.Proofs.YtppmkgaobeccfaaGreatDoor
open Go Go.RowKit
set_option maxRecDepth 100000
set_option linter.all false
set_option maxHeartbeats 2000000
variable {H : Hp} {K : AV → Hp → Prop}
def hdV (b : Bool) (j : Nat) (l : List Hd) : AC := if b = true then .sl (some (j, 0)) l.length else grV j l
theorem appI {i q ty : Nat} {own : Bool} {J : AV → Hp → Prop} (l : List Int) (x : Int) (l2 : List Int) (e : l2 = l ++ [x]) (hi : H[i]? = some (grO 3 1 (l.map encI))) (hj : H[q]? = some (.row ty 1 [encI x] own)) (hb : l.length ≤ 1000000000)
    (h : J (.c (grV H.length l2)) (H.set i .dead ++ [grO 3 1 (l2.map encI)])) : aBuiltin Tryz.prog .append #[22, 22] [.c (grV i l), .c (.sl (some (q, 0)) 1)] H J := by
  subst e
  exact app_grR (enc := encI) (e := 3) (sz := 1) (bs := 8) (z := [.int .i64 0]) l [x] (by kernel_rfl) (by kernel_rfl) (by kernel_rfl) (by kernel_rfl) hi (by rw [hj]; rfl) (by simp) rfl (by decide) (by simp; omega) (by simp; omega) h
end Go.Proofs.YtppmkgaobeccfaaGreatDoor
/- A packet put into a buffer. No condition. -/
namespace Go.Proofs.YtppmkgaobeccfaaGreatDoor
open Go Go.RowKit
set_option maxRecDepth 100000
set_option linter.all false
set_option maxHeartbeats 2000000
variable {H : Hp} {K : AV → Hp → Prop}
section
variable (P : Program) (J : AV → Hp → Prop)
@[go_sem] theorem blt_lenH (t j : Nat) (b : Bool) (l : List Hd) : aBuiltin P .len #[t] [.c (hdV b j l)] H J = aIf ((elemT P t).isSome = true) (.c (.int .i64 l.length)) H J := by
  cases b <;> cases l <;> rfl
end
end Go.Proofs.YtppmkgaobeccfaaGreatDoor
/- Packets acked, and packets sent. No condition. -/
namespace Go.Proofs.YtppmkgaobeccfaaGreatDoor
open Go Go.RowKit
set_option maxRecDepth 100000
set_option linter.all false
set_option maxHeartbeats 2000000
variable {H : Hp} {K : AV → Hp → Prop}
@[go_sem] theorem mapK_ib : mapK Tryz.prog 96 = some 3 := (by kernel_rfl)
@[go_sem] theorem mapZ_ib : (mapE Tryz.prog 96).bind (zeroA Tryz.prog) = some (.c (.bool false)) := (by kernel_rfl)
def encEv (n : Int) : AV × AV := (.c (.int .i64 n), .c (.bool true))
theorem find_mem (a : Int) : ∀ l : List Int, l.find? (fun n => decide (a = n)) = if a ∈ l then some a else none
  | [] => by simp
  | x :: l => by
    have ih := find_mem a l
    by_cases h : a = x
    · subst h; simp
    · rw [List.find?_cons_of_neg (by simpa using h), ih]
      simp [h]
theorem get_ever {kt : TypeId} (a : Int) (l : List Int) (ht : keyT Tryz.prog kt (.c (.int .i64 a)) = true) : mapGet Tryz.prog kt (.c (.int .i64 a)) (some (.c (.bool false))) (l.map encEv) = some (.c (.bool (decide (a ∈ l))), decide (a ∈ l)) := by
  rw [get_of (e := encEv) (p := fun n => decide (a = n)) ht (findA_int .i64 a (fun x : Int => x) (fun _ : Int => .c (.bool true)) l), find_mem]
  by_cases h : a ∈ l <;> simp [h, encEv]
theorem ups_ever (a : Int) : ∀ l : List Int, upsert (fun n => decide (a = n)) a l = addE l a
  | [] => by simp [upsert, addE]
  | x :: l => by
    have ih := ups_ever a l
    unfold addE at ih ⊢
    unfold upsert at ih ⊢
    rw [List.findIdx?_cons]
    by_cases h : a = x
    · subst h; simp
    · simp only [h, decide_false, Bool.false_eq_true, if_false, List.mem_cons, false_or]
      cases hq : l.findIdx? (fun n => decide (a = n)) with
      | none =>
        rw [hq] at ih
        dsimp only [Option.map_none] at ih ⊢
        by_cases h2 : a ∈ l
        · rw [if_pos h2] at ih
          have := congrArg List.length ih
          simp at this
        · simp [h2]
      | some j =>
        rw [hq] at ih
        dsimp only [Option.map_some] at ih ⊢
        by_cases h2 : a ∈ l
        · rw [if_pos h2] at ih ⊢
          simp [ih]
        · rw [if_neg h2] at ih
          have := congrArg List.length ih
          simp at this
theorem put_ever {kt : TypeId} (a : Int) (l : List Int) (ht : keyT Tryz.prog kt (.c (.int .i64 a)) = true) : mapPut Tryz.prog kt (.c (.int .i64 a)) (.c (.bool true)) (l.map encEv) = some ((addE l a).map encEv) := by
  rw [← ups_ever]
  exact put_of (e := encEv) (p := fun n => decide (a = n)) (x := a) ht (findA_int .i64 a (fun x : Int => x) (fun _ : Int => .c (.bool true)) l) rfl
end Go.Proofs.YtppmkgaobeccfaaGreatDoor
