/- Several texts in one: Plain code run: what the abstract machine answers where all is known, computed, and what follows. No condition. -/
import Derived.Test.YtnodfnjmhcjnfaaGreatHCoreC
import Derived.LoopNIn
/- Plain code run: what the abstract machine answers where all is known, computed. No condition. -/
namespace Go.Proofs.YtnodfnjmhcjnfaaGreat
open Go Go.RowKit
set_option linter.all false
set_option maxHeartbeats 1000000
abbrev Res := Option (AV × Hp)
/-! ### builtins -/
section
variable {P : Program} {H H' : Hp} {K : AV → Hp → Prop} {v : AV}
end
end Go.Proofs.YtnodfnjmhcjnfaaGreat
/- Regions that draw their order and call what turns nothing: the text's order is enough. No condition. -/
namespace Go.Proofs.YtnodfnjmhcjnfaaGreat
open Go Go.RowKit
set_option linter.all false
structure Sys where
  op : Op → (Operand → AV) → Hp → (AV → Hp → Prop) → Prop
  cA : Op → Bool
  cB : Op → Bool
  mono : ∀ {o : Op} {ev : Operand → AV} {H : Hp} {J J' : AV → Hp → Prop}, (∀ v H', J v H' → J' v H') → op o ev H J → op o ev H J'
  congr : ∀ {o : Op} {ev ev' : Operand → AV} {H : Hp} {J : AV → Hp → Prop}, (∀ x ∈ o.operands, ev x = ev' x) → op o ev H J = op o ev' H J
  det : ∀ {o : Op} {ev : Operand → AV} {H : Hp} {J : AV → Hp → Prop}, cA o = true ∨ cB o = true → op o ev H J → ∃ v, op o ev H (fun u H' => u = v ∧ H' = H) ∧ J v H
  stay : ∀ {o : Op} {ev : Operand → AV} {H H' : Hp} {v : AV}, cA o = true → op o ev H (fun u H'' => u = v ∧ H'' = H) → op o ev H' (fun u H'' => u = v ∧ H'' = H')
def RVY (Y : Sys) (op : Op) (ev : Operand → AV) (H : Hp) (v : AV) : Prop := Y.op op ev H (fun u H' => u = v ∧ H' = H)
def aGuardY (Y : Sys) (ops : Array Oper) (o : Oper) (K : Fr → Hp → Prop) (F : Fr) (H : Hp) : Prop :=
  match o.guard with
  | none => Y.op o.op (evC F) H (fun v H' => K (F.put o.dst v) H')
  | some (j, want) => match (ops[j]?).bind (·.dst) with
    | some t => match F t with
      | .c (.bool b) => (b = want → Y.op o.op (evC F) H (fun v H' => K (F.put o.dst v) H')) ∧ (b = !want → K (F.put o.dst (.tup [])) H)
      | .tup [] => K (F.put o.dst (.tup [])) H
      | _ => False
    | none => False
def aOpsY (Y : Sys) (ops : Array Oper) (K : Fr → Hp → Prop) : List Oper → Fr → Hp → Prop
  | [], F, H => K F H
  | o :: rest, F, H => aGuardY Y ops o (aOpsY Y ops K rest) F H
def aIdxY (Y : Sys) (ops : Array Oper) (K : Fr → Hp → Prop) (i : Nat) (F : Fr) (H : Hp) : Prop :=
  match ops[i]? with
  | some o => aGuardY Y ops o K F H
  | none => K F H
def aAnyY (Y : Sys) (ops : Array Oper) (K : Fr → Hp → Prop) : Nat → Array Bool → Fr → Hp → Prop
  | 0, listed, F, H => Region.ready .any ops listed = [] ∧ K F H
  | fuel + 1, listed, F, H => (Region.ready .any ops listed = [] → K F H) ∧ ∀ i ∈ Region.ready .any ops listed, aIdxY Y ops (aAnyY Y ops K fuel (listed.setIfInBounds i true)) i F H
end Go.Proofs.YtnodfnjmhcjnfaaGreat
/- Plain code run (2): operations, code, calls. No condition. -/
namespace Go.Proofs.YtnodfnjmhcjnfaaGreat
open Go Go.RowKit
set_option linter.all false
set_option maxHeartbeats 1000000
section
variable {P : Program} {H H' : Hp} {K : AV → Hp → Prop} {v : AV}
end
/-! ### equal values -/
mutual
def AC.eqb : AC → AC → Bool
  | .int k n, .int k' n' => decide (k = k') && decide (n = n')
  | .bool b, .bool b' => b == b'
  | .str s, .str t => decide (s.data.toList = t.data.toList)
  | .ptr r, .ptr r' => decide (r = r')
  | .sl r n, .sl r' n' => decide (r = r') && decide (n = n')
  | .map r, .map r' => decide (r = r')
  | .nilf, .nilf => true
  | .nili, .nili => true
  | .ifc, .ifc => true
  | .fn f a b, .fn f' a' b' => decide (f = f') && decide (a = a') && decide (b = b')
  | .lst sz els, .lst sz' els' => decide (sz = sz') && acEqbLL els els'
  | .fp cs, .fp cs' => acEqbL cs cs'
  | _, _ => false
def acEqbL : List AC → List AC → Bool
  | [], [] => true
  | x :: xs, y :: ys => x.eqb y && acEqbL xs ys
  | _, _ => false
def acEqbLL : List (List AC) → List (List AC) → Bool
  | [], [] => true
  | x :: xs, y :: ys => acEqbL x y && acEqbLL xs ys
  | _, _ => false
end
theorem str_data {s t : ByteArray} (h : s.data.toList = t.data.toList) : s = t := by
  cases s with
  | mk d => cases t with
    | mk e => exact congrArg ByteArray.mk (Array.toList_inj.1 h)
mutual
theorem AC.eqb_eq : ∀ (x y : AC), AC.eqb x y = true → x = y
  | .int k n, y, h => by cases y <;> simp_all [AC.eqb]
  | .bool b, y, h => by cases y <;> simp_all [AC.eqb]
  | .str s, y, h => by
    cases y with
    | str t => simp only [AC.eqb, decide_eq_true_eq] at h; rw [str_data h]
    | _ => simp [AC.eqb] at h
  | .ptr r, y, h => by cases y <;> simp_all [AC.eqb]
  | .sl r n, y, h => by cases y <;> simp_all [AC.eqb]
  | .map r, y, h => by cases y <;> simp_all [AC.eqb]
  | .nilf, y, h => by cases y <;> simp_all [AC.eqb]
  | .nili, y, h => by cases y <;> simp_all [AC.eqb]
  | .ifc, y, h => by cases y <;> simp_all [AC.eqb]
  | .fn f a b, y, h => by cases y <;> simp_all [AC.eqb]
  | .lst sz els, y, h => by
    cases y with
    | lst sz' els' => simp only [AC.eqb, Bool.and_eq_true, decide_eq_true_eq] at h; rw [h.1, acEqbLL_eq els els' h.2]
    | _ => simp [AC.eqb] at h
  | .fp cs, y, h => by
    cases y with
    | fp cs' => simp only [AC.eqb] at h; rw [acEqbL_eq cs cs' h]
    | _ => simp [AC.eqb] at h
theorem acEqbL_eq : ∀ (x y : List AC), acEqbL x y = true → x = y
  | [], y, h => by cases y <;> simp_all [acEqbL]
  | x :: xs, y, h => by
    cases y with
    | nil => simp [acEqbL] at h
    | cons y ys => simp only [acEqbL, Bool.and_eq_true] at h; rw [AC.eqb_eq x y h.1, acEqbL_eq xs ys h.2]
theorem acEqbLL_eq : ∀ (x y : List (List AC)), acEqbLL x y = true → x = y
  | [], y, h => by cases y <;> simp_all [acEqbLL]
  | x :: xs, y, h => by
    cases y with
    | nil => simp [acEqbLL] at h
    | cons y ys => simp only [acEqbLL, Bool.and_eq_true] at h; rw [acEqbL_eq x y h.1, acEqbLL_eq xs ys h.2]
end
mutual
def AV.eqb : AV → AV → Bool
  | .c x, .c y => x.eqb y
  | .agg x, .agg y => acEqbL x y
  | .tup x, .tup y => avEqbL x y
  | .any, .any => true
  | _, _ => false
def avEqbL : List AV → List AV → Bool
  | [], [] => true
  | x :: xs, y :: ys => x.eqb y && avEqbL xs ys
  | _, _ => false
end
mutual
theorem AV.eqb_eq : ∀ (x y : AV), AV.eqb x y = true → x = y
  | .c x, y, h => by
    cases y with
    | c y => simp only [AV.eqb] at h; rw [AC.eqb_eq x y h]
    | _ => simp [AV.eqb] at h
  | .agg x, y, h => by
    cases y with
    | agg y => simp only [AV.eqb] at h; rw [acEqbL_eq x y h]
    | _ => simp [AV.eqb] at h
  | .tup x, y, h => by
    cases y with
    | tup y => simp only [AV.eqb] at h; rw [avEqbL_eq x y h]
    | _ => simp [AV.eqb] at h
  | .any, y, h => by cases y <;> simp_all [AV.eqb]
theorem avEqbL_eq : ∀ (x y : List AV), avEqbL x y = true → x = y
  | [], y, h => by cases y <;> simp_all [avEqbL]
  | x :: xs, y, h => by
    cases y with
    | nil => simp [avEqbL] at h
    | cons y ys => simp only [avEqbL, Bool.and_eq_true] at h; rw [AV.eqb_eq x y h.1, avEqbL_eq xs ys h.2]
end
def prEqbL : List (AV × AV) → List (AV × AV) → Bool
  | [], [] => true
  | x :: xs, y :: ys => x.1.eqb y.1 && x.2.eqb y.2 && prEqbL xs ys
  | _, _ => false
theorem prEqbL_eq : ∀ (x y : List (AV × AV)), prEqbL x y = true → x = y
  | [], y, h => by cases y <;> simp_all [prEqbL]
  | x :: xs, y, h => by
    cases y with
    | nil => simp [prEqbL] at h
    | cons y ys =>
      simp only [prEqbL, Bool.and_eq_true] at h
      rw [Prod.ext (AV.eqb_eq x.1 y.1 h.1.1) (AV.eqb_eq x.2 y.2 h.1.2), prEqbL_eq xs ys h.2]
def AObj.eqb : AObj → AObj → Bool
  | .row t s e o, .row t' s' e' o' => decide (t = t') && decide (s = s') && acEqbLL e e' && o == o'
  | .map a b es, .map a' b' es' => decide (a = a') && decide (b = b') && prEqbL es es'
  | .dead, .dead => true
  | _, _ => false
theorem AObj.eqb_eq (x y : AObj) (h : AObj.eqb x y = true) : x = y := by
  cases x with
  | row t s e o =>
    cases y with
    | row t' s' e' o' =>
      simp only [AObj.eqb, Bool.and_eq_true, decide_eq_true_eq, beq_iff_eq] at h
      rw [h.1.1.1, h.1.1.2, acEqbLL_eq _ _ h.1.2, h.2]
    | _ => simp [AObj.eqb] at h
  | map a b es =>
    cases y with
    | map a' b' es' =>
      simp only [AObj.eqb, Bool.and_eq_true, decide_eq_true_eq] at h
      rw [h.1.1, h.1.2, prEqbL_eq _ _ h.2]
    | _ => simp [AObj.eqb] at h
  | dead => cases y <;> simp_all [AObj.eqb]
/-! ### code -/
section
variable {P : Program} {n N : Nat} {L : List Tmp} {call ext : FuncId → List AV → Hp → Res}
end
/-! ### regions that draw their order: all orders are run -/
section
variable {P : Program} {n N : Nat} {L : List Tmp} {call ext : FuncId → List AV → Hp → Res}
end
section
variable {P : Program} {n N : Nat} {L : List Tmp} {call ext : FuncId → List AV → Hp → Res}
end
/-! ### calls -/
end Go.Proofs.YtnodfnjmhcjnfaaGreat
