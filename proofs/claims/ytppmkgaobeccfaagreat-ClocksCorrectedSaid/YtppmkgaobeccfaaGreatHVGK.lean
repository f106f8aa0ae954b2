/- Several texts in one: What a buffer does: no program in sight, and what follows. No condition. -/
import Derived.Test.YtppmkgaobeccfaaGreatHVGB
import Derived.Test.YtppmkgaobeccfaaGreatHVGA
import Derived.Test.YtppmkgaobeccfaaGreatHVAnswerR
import Derived.Shelf.Sort.Plain
import Derived.Test.YtppmkgaobeccfaaGreatHVGD
/- What a buffer does: no program in sight. No condition. -/
namespace Go.Proofs.YtppmkgaobeccfaaGreat
open Go Go.RowKit
set_option maxRecDepth 100000
set_option linter.all false
structure Pk where
  n : Int
  tag : ByteArray
  s : Smp
structure Hd where
  p : Pk
  sent : Bool
structure Stp where
  kind : Int
  count : Int
  seq : Int
  tag : ByteArray
  s : Smp
def addE (l : List Int) (n : Int) : List Int := if n ∈ l then l else l ++ [n]
/-! ### what stays -/
def sq (l : List Hd) : List Int := l.map (fun x => x.p.n)
/-! ### rows -/
end Go.Proofs.YtppmkgaobeccfaaGreat
/- Held packets deleted in place. No condition. -/
namespace Go.Proofs.YtppmkgaobeccfaaGreat
open Go Go.RowKit
set_option maxRecDepth 100000
set_option linter.all false
set_option maxHeartbeats 1000000
variable {H : Hp} {K : AV → Hp → Prop}
def encPk (x : Pk) : List AC := [.int .i64 x.n, .str x.tag, .int .i64 x.s.t, .int .i64 x.s.v, .int .i64 x.s.q]
def encHd (x : Hd) : List AC := [.int .i64 x.p.n, .str x.p.tag, .int .i64 x.p.s.t, .int .i64 x.p.s.v, .int .i64 x.p.s.q, .bool x.sent]
def encStp (x : Stp) : List AC := [.int .i64 x.kind, .int .i64 x.count, .int .i64 x.seq, .str x.tag, .int .i64 x.s.t, .int .i64 x.s.v, .int .i64 x.s.q]
attribute [go_sem] encPk encHd encStp
end Go.Proofs.YtppmkgaobeccfaaGreat
/- A buffer's node in memory. No condition. -/
namespace Go.Proofs.YtppmkgaobeccfaaGreat
open Go Go.RowKit
set_option maxRecDepth 100000
set_option linter.all false
set_option maxHeartbeats 2000000
variable {H : Hp} {K : AV → Hp → Prop}
def hdV (b : Bool) (j : Nat) (l : List Hd) : AC := if b = true then .sl (some (j, 0)) l.length else grV j l
theorem appI {i q ty : Nat} {own : Bool} {J : AV → Hp → Prop} (l : List Int) (x : Int) (l2 : List Int) (e : l2 = l ++ [x]) (hi : H[i]? = some (grO 3 1 (l.map encI))) (hj : H[q]? = some (.row ty 1 [encI x] own)) (hb : l.length ≤ 1000000000)
    (h : J (.c (grV H.length l2)) (H.set i .dead ++ [grO 3 1 (l2.map encI)])) : aBuiltin Tryz.prog .append #[22, 22] [.c (grV i l), .c (.sl (some (q, 0)) 1)] H J := by
  subst e
  exact app_grR (enc := encI) (e := 3) (sz := 1) (bs := 8) (z := [.int .i64 0]) l [x] (by kernel_rfl) (by kernel_rfl) (by kernel_rfl) (by kernel_rfl) hi (by rw [hj]; rfl) (by simp) rfl (by decide) (by simp; omega) (by simp; omega) h
end Go.Proofs.YtppmkgaobeccfaaGreat
/- A packet put into a buffer. No condition. -/
namespace Go.Proofs.YtppmkgaobeccfaaGreat
open Go Go.RowKit
set_option maxRecDepth 100000
set_option linter.all false
set_option maxHeartbeats 2000000
variable {H : Hp} {K : AV → Hp → Prop}
section
variable (P : Program) (J : AV → Hp → Prop)
@[go_sem] theorem blt_lenH (t j : Nat) (b : Bool) (l : List Hd) : aBuiltin P .len #[t] [.c (hdV b j l)] H J = aIf ((elemT P t).isSome = true) (.c (.int .i64 l.length)) H J := by
  cases b <;> cases l <;> rfl
end
end Go.Proofs.YtppmkgaobeccfaaGreat
/- Packets acked, and packets sent. No condition. -/
namespace Go.Proofs.YtppmkgaobeccfaaGreat
open Go Go.RowKit
set_option maxRecDepth 100000
set_option linter.all false
set_option maxHeartbeats 2000000
variable {H : Hp} {K : AV → Hp → Prop}
@[go_sem] theorem mapK_ib : mapK Tryz.prog 109 = some 3 := (by kernel_rfl)
@[go_sem] theorem mapZ_ib : (mapE Tryz.prog 109).bind (zeroA Tryz.prog) = some (.c (.bool false)) := (by kernel_rfl)
def encEv (n : Int) : AV × AV := (.c (.int .i64 n), .c (.bool true))
theorem find_mem (a : Int) : ∀ l : List Int, l.find? (fun n => decide (a = n)) = if a ∈ l then some a else none
  | [] => by simp
  | x :: l => by
    have ih := find_mem a l
    by_cases h : a = x
    · subst h; simp
    · rw [List.find?_cons_of_neg (by simpa using h), ih]
      simp [h]
theorem get_ever {kt : TypeId} (a : Int) (l : List Int) (ht : keyT Tryz.prog kt (.c (.int .i64 a)) = true) : mapGet Tryz.prog kt (.c (.int .i64 a)) (some (.c (.bool false))) (l.map encEv) = some (.c (.bool (decide (a ∈ l))), decide (a ∈ l)) := by
  rw [get_of (e := encEv) (p := fun n => decide (a = n)) ht (findA_int .i64 a (fun x : Int => x) (fun _ : Int => .c (.bool true)) l), find_mem]
  by_cases h : a ∈ l <;> simp [h, encEv]
theorem ups_ever (a : Int) : ∀ l : List Int, upsert (fun n => decide (a = n)) a l = addE l a
  | [] => by simp [upsert, addE]
  | x :: l => by
    have ih := ups_ever a l
    unfold addE at ih ⊢
    unfold upsert at ih ⊢
    rw [List.findIdx?_cons]
    by_cases h : a = x
    · subst h; simp
    · simp only [h, decide_false, Bool.false_eq_true, if_false, List.mem_cons, false_or]
      cases hq : l.findIdx? (fun n => decide (a = n)) with
      | none =>
        rw [hq] at ih
        dsimp only [Option.map_none] at ih ⊢
        by_cases h2 : a ∈ l
        · rw [if_pos h2] at ih
          have := congrArg List.length ih
          simp at this
        · simp [h2]
      | some j =>
        rw [hq] at ih
        dsimp only [Option.map_some] at ih ⊢
        by_cases h2 : a ∈ l
        · rw [if_pos h2] at ih ⊢
          simp [ih]
        · rw [if_neg h2] at ih
          have := congrArg List.length ih
          simp at this
theorem put_ever {kt : TypeId} (a : Int) (l : List Int) (ht : keyT Tryz.prog kt (.c (.int .i64 a)) = true) : mapPut Tryz.prog kt (.c (.int .i64 a)) (.c (.bool true)) (l.map encEv) = some ((addE l a).map encEv) := by
  rw [← ups_ever]
  exact put_of (e := encEv) (p := fun n => decide (a = n)) (x := a) ht (findA_int .i64 a (fun x : Int => x) (fun _ : Int => .c (.bool true)) l) rfl
end Go.Proofs.YtppmkgaobeccfaaGreat
/- Numbers as rows. Condition: there are not too many, and they are small. -/
namespace Go.Proofs.YtppmkgaobeccfaaGreat
open Go Go.RowKit
set_option maxRecDepth 100000
set_option linter.all false
set_option maxHeartbeats 1000000
variable {H : Hp} {K : AV → Hp → Prop}
def encRw (x : Int × Int) : List AC := [.int .i64 x.1, .int .i64 x.2]
attribute [go_sem] encRw
theorem aIf_valS {c : Prop} {v v' : AV} {J : AV → Hp → Prop} (hc : c) (hv : v = v') (h : J v' H) : aIf c v H J := hv ▸ ⟨hc, h⟩
theorem len640_a (hk : K (.c (.int .i64 0)) H) : ACalls Tryz.prog 184 [.c (.int .u64 0)] H K := by
  refine acalls Tryz.func184 rfl (by kernel_rfl) (by simp (disch := first | omega | (simp only [go_sem]; first | done | omega)) only [go_sem]) (fun hH => ?_)
  simp (disch := first | omega | (simp only [go_sem]; first | done | omega)) only [go_sem]
  refine aIf_valS (v' := .c (.int .u8 0)) (by decide +kernel) (congrArg (fun z => AV.c (.int .u8 z)) (by decide +kernel : _ = (0 : Int))) ?_
  simp (disch := first | omega | (simp only [go_sem]; first | done | omega)) only [go_sem]
  exact Ret.same (Nat.le_refl _) hk
theorem len0_a (hk : K (.c (.int .i64 0)) H) : ACalls Tryz.prog 137 [.c (.int .u64 0)] H K := by
  refine acalls Tryz.func137 rfl (by kernel_rfl) (by simp (disch := first | omega | (simp only [go_sem]; first | done | omega)) only [go_sem]) (fun hH => ?_)
  simp (disch := first | omega | (simp only [go_sem]; first | done | omega)) only [go_sem]
  refine len640_a ?_
  simp (disch := first | omega | (simp only [go_sem]; first | done | omega)) only [go_sem]
  exact Ret.same (Nat.le_refl _) hk
end Go.Proofs.YtppmkgaobeccfaaGreat
/- Package buffer's functions. Condition: the list is not huge. -/
namespace Go.Proofs.YtppmkgaobeccfaaGreat
open Go Go.RowKit
set_option maxRecDepth 100000
set_option linter.all false
set_option maxHeartbeats 2000000
variable {H : Hp} {K : AV → Hp → Prop}
theorem ACalls.hok {P : Program} {f : FuncId} {args : List AV} {H : Hp} {K : AV → Hp → Prop} (h : ACalls P f args H (fun v G => HOk G → K v G)) : ACalls P f args H K :=
  fun B w0 ι w vs hs hr ho => (h B w0 ι w vs hs hr ho).mono fun _ _ ⟨ι', v, av, H', h1, h2, h3, h4, h5, h6, h7⟩ => ⟨ι', v, av, H', h1, h2, h3, h4, h5, h6, h7 h4.scope⟩
end Go.Proofs.YtppmkgaobeccfaaGreat
