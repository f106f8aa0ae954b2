/- Rules by which the plain heap is reckoned. No condition. -/
import Derived.Test.YtkmkkjlfnobciaaGreatDoorCoreCall
import Derived.KernelRfl
namespace Go.Proofs.YtkmkkjlfnobciaaGreatDoor
open Go Go.RowKit
set_option linter.all false

section
variable (P : Program) {n N : Nat} {L : List Tmp} (Q : AExit → Fr → Hp → Prop) (F : Fr) (H : Hp) (K : Fr → Hp → Prop) (J : AV → Hp → Prop)
/-! ### what is to come is a closed word: it is not looked into -/
def QSeq (P : Program) (n N : Nat) (L : List Tmp) (y : Code) (Q : AExit → Fr → Hp → Prop) : AExit → Fr → Hp → Prop := fun e F H => match e with | .normal => AWp P n N L y Q F H | e => Q e F H
def QBlock (id : Nat) (Q : AExit → Fr → Hp → Prop) : AExit → Fr → Hp → Prop := fun e F H => match e with | .exit id' => (if id' = id then Q .normal F H else Q (.exit id') F H) | e => Q e F H
def Cont (P : Program) (l : List Oper) (K : Fr → Hp → Prop) (rest : List Oper) (F : Fr) (dst : Option Tmp) : AV → Hp → Prop := fun v H' => aOps P l.toArray K rest (F.put dst v) H'
@[go_sem ↓] theorem qseq_n (y : Code) : QSeq P n N L y Q .normal F H = AWp P n N L y Q F H := (rfl)
@[go_sem ↓] theorem qseq_e (y : Code) (id : Nat) : QSeq P n N L y Q (.exit id) F H = Q (.exit id) F H := (rfl)
@[go_sem ↓] theorem qseq_r (y : Code) : QSeq P n N L y Q .ret F H = Q .ret F H := (rfl)
@[go_sem ↓] theorem qblock_n (id : Nat) : QBlock id Q .normal F H = Q .normal F H := (rfl)
@[go_sem ↓] theorem qblock_e (id id' : Nat) : QBlock id Q (.exit id') F H = if id' = id then Q .normal F H else Q (.exit id') F H := (rfl)
@[go_sem ↓] theorem qblock_r (id : Nat) : QBlock id Q .ret F H = Q .ret F H := (rfl)
@[go_sem ↓] theorem cont_go (l rest : List Oper) (dst : Option Tmp) (v : AV) : Cont P l K rest F dst v H = aOps P l.toArray K rest (F.put dst v) H := (rfl)
@[congr] theorem awp_congr {c : Code} {H H' : Hp} (h : H = H') : AWp P n N L c Q F H = AWp P n N L c Q F H' := by rw [h]
@[congr] theorem aops_congr {ops : Array Oper} {l : List Oper} {H H' : Hp} (h : H = H') : aOps P ops K l F H = aOps P ops K l F H' := by rw [h]
@[congr] theorem acalls_congr {f : FuncId} {as as' : List AV} {H H' : Hp} (h1 : as = as') (h : H = H') : ACalls P f as H J = ACalls P f as' H' J := by rw [h1, h]
@[congr] theorem ret_congr {n n' : Nat} {v v' : AV} {H H' : Hp} (h0 : n = n') (h1 : v = v') (h : H = H') : Ret n v H J = Ret n' v' H' J := by rw [h0, h1, h]
@[go_sem ↓] theorem w_skip : AWp P n N L .skip Q F H = Q .normal F H := (rfl)
@[go_sem ↓] theorem w_label (l : Nat) : AWp P n N L (.label l) Q F H = Q .normal F H := (rfl)
@[go_sem ↓] theorem w_seq (x y : Code) : AWp P n N L (.seq x y) Q F H = AWp P n N L x (QSeq P n N L y Q) F H := (rfl)
@[go_sem ↓] theorem w_block (id : Nat) (c : Code) : AWp P n N L (.block id c) Q F H = AWp P n N L c (QBlock id Q) F H := (rfl)
@[go_sem ↓] theorem w_exit (id : Nat) : AWp P n N L (.exit id) Q F H = Q (.exit id) F H := (rfl)
@[go_sem ↓] theorem w_ret : AWp P n N L .ret Q F H = Q .ret F H := (rfl)
@[go_sem ↓] theorem w_region (id : Nat) (l : List Oper) : AWp P n N L (.region id l.toArray false) Q F H = aOps P l.toArray (Q .normal) l F H := (rfl)
/-- a test -/
def aCond (P : Program) (n N : Nat) (L : List Tmp) (v : AV) (x y : Code) (Q : AExit → Fr → Hp → Prop) (F : Fr) (H : Hp) : Prop := match v with | .c (.bool b) => (b = true → AWp P n N L x Q F H) ∧ (b = false → AWp P n N L y Q F H) | _ => False
@[go_sem ↓] theorem w_cond (c : Operand) (x y : Code) : AWp P n N L (.cond c x y) Q F H = aCond P n N L (evC F c) x y Q F H := (rfl)
@[congr] theorem acond_congr {v v' : AV} {x y : Code} (h : v = v') : aCond P n N L v x y Q F H = aCond P n N L v' x y Q F H := by rw [h]
@[go_sem] theorem acond_t (x y : Code) : aCond P n N L (.c (.bool true)) x y Q F H = AWp P n N L x Q F H := by simp [aCond]
@[go_sem] theorem acond_f (x y : Code) : aCond P n N L (.c (.bool false)) x y Q F H = AWp P n N L y Q F H := by simp [aCond]
variable {P Q F H J} in
theorem acond_b {b : Bool} {x y : Code} (h1 : b = true → AWp P n N L x Q F H) (h2 : b = false → AWp P n N L y Q F H) : aCond P n N L (.c (.bool b)) x y Q F H := ⟨h1, h2⟩
@[go_sem] theorem acond_not (b : Bool) (x y : Code) : aCond P n N L (.c (.bool (!b))) x y Q F H = aCond P n N L (.c (.bool b)) y x Q F H := by
  cases b <;> simp [aCond]
variable {P Q F H J} in
theorem acond_d {p : Prop} [Decidable p] {x y : Code} (h1 : p → AWp P n N L x Q F H) (h2 : ¬p → AWp P n N L y Q F H) : aCond P n N L (.c (.bool (decide p))) x y Q F H := ⟨fun h => h1 (of_decide_eq_true h), fun h => h2 (of_decide_eq_false h)⟩
@[go_sem ↓] theorem o_nil (ops : Array Oper) : aOps P ops K [] F H = K F H := (rfl)
@[go_sem ↓] theorem o_cons (l : List Oper) (dst : Option Tmp) (op : Op) (ty : TypeId) (pos : String) (after : Array Edge) (rest : List Oper) : aOps P l.toArray K (⟨dst, op, ty, pos, after, none⟩ :: rest) F H = aOp P op (evC F) H (Cont P l K rest F dst) := (rfl)
/-- a guard -/
def aG (P : Program) (v : AV) (want : Bool) (op : Op) (l : List Oper) (K : Fr → Hp → Prop) (rest : List Oper) (F : Fr) (dst : Option Tmp) (H : Hp) : Prop := match v with
  | .c (.bool b) => (b = want → aOp P op (evC F) H (Cont P l K rest F dst)) ∧ (b = !want → aOps P l.toArray K rest (F.put dst (.tup [])) H)
  | .tup [] => aOps P l.toArray K rest (F.put dst (.tup [])) H
  | _ => False
def aG2 (P : Program) (t : Option Tmp) (want : Bool) (op : Op) (l : List Oper) (K : Fr → Hp → Prop) (rest : List Oper) (F : Fr) (dst : Option Tmp) (H : Hp) : Prop := match t with
  | some t => aG P (F t) want op l K rest F dst H
  | none => False
def dstAt : List Oper → Nat → Option Tmp
  | [], _ => none
  | o :: _, 0 => o.dst
  | _ :: l, j + 1 => dstAt l j
@[go_sem ↓] theorem dst_zero (dst : Option Tmp) (op : Op) (ty : TypeId) (pos : String) (after : Array Edge) (g : Option (Nat × Bool)) (l : List Oper) : dstAt (⟨dst, op, ty, pos, after, g⟩ :: l) 0 = dst := (rfl)
@[go_sem ↓] theorem dst_succ (o : Oper) (l : List Oper) (j : Nat) : dstAt (o :: l) (j + 1) = dstAt l j := (rfl)
theorem dstAt_eq : ∀ (l : List Oper) (j : Nat), (l[j]?).bind (·.dst) = dstAt l j
  | [], j => by simp [dstAt]
  | o :: l, 0 => by simp [dstAt]
  | o :: l, j + 1 => by simp [dstAt, dstAt_eq l j]
@[congr] theorem ag_congr {v v' : AV} {want : Bool} {op : Op} {l rest : List Oper} {dst : Option Tmp} (h : v = v') : aG P v want op l K rest F dst H = aG P v' want op l K rest F dst H := by rw [h]
@[congr] theorem ag2_congr {t t' : Option Tmp} {want : Bool} {op : Op} {l rest : List Oper} {dst : Option Tmp} (h : t = t') : aG2 P t want op l K rest F dst H = aG2 P t' want op l K rest F dst H := by rw [h]
@[go_sem] theorem ag2_some (t : Tmp) (want : Bool) (op : Op) (l rest : List Oper) (dst : Option Tmp) : aG2 P (some t) want op l K rest F dst H = aG P (F t) want op l K rest F dst H := (rfl)
@[go_sem ↓] theorem o_guard (l : List Oper) (dst : Option Tmp) (op : Op) (ty : TypeId) (pos : String) (after : Array Edge) (j : Nat) (want : Bool) (rest : List Oper) : aOps P l.toArray K (⟨dst, op, ty, pos, after, some (j, want)⟩ :: rest) F H =
    aG2 P (dstAt l j) want op l K rest F dst H := by
  simp only [aOps, aGuard, aG2, List.getElem?_toArray, dstAt_eq]
  cases dstAt l j with
  | none => rfl
  | some t =>
    simp only [aG]
    generalize F t = v
    cases v with
    | c x => cases x <;> rfl
    | tup ts => cases ts <;> rfl
    | _ => rfl
section
variable (op : Op) (l rest : List Oper) (dst : Option Tmp)
@[go_sem] theorem ag_skip (want : Bool) : aG P (.tup []) want op l K rest F dst H = aOps P l.toArray K rest (F.put dst (.tup [])) H := (rfl)
@[go_sem] theorem ag_tt : aG P (.c (.bool true)) true op l K rest F dst H = aOp P op (evC F) H (Cont P l K rest F dst) := by simp [aG]
@[go_sem] theorem ag_tf : aG P (.c (.bool true)) false op l K rest F dst H = aOps P l.toArray K rest (F.put dst (.tup [])) H := by simp [aG]
@[go_sem] theorem ag_ft : aG P (.c (.bool false)) true op l K rest F dst H = aOps P l.toArray K rest (F.put dst (.tup [])) H := by simp [aG]
@[go_sem] theorem ag_ff : aG P (.c (.bool false)) false op l K rest F dst H = aOp P op (evC F) H (Cont P l K rest F dst) := by simp [aG]
end
@[go_sem] theorem ag_not (op : Op) (l rest : List Oper) (dst : Option Tmp) (b want : Bool) : aG P (.c (.bool (!b))) want op l K rest F dst H = aG P (.c (.bool b)) (!want) op l K rest F dst H := by
  cases b <;> cases want <;> simp [aG]
variable {P F H K J} in
theorem ag_d {op : Op} {l rest : List Oper} {dst : Option Tmp} {p : Prop} [Decidable p] (h1 : p → aOp P op (evC F) H (Cont P l K rest F dst)) (h2 : ¬p → aOps P l.toArray K rest (F.put dst (.tup [])) H) : aG P (.c (.bool (decide p))) true op l K rest F dst H := ⟨fun h => h1 (of_decide_eq_true h), fun h => h2 (of_decide_eq_false h)⟩
variable {P F H K J} in
theorem ag_n {op : Op} {l rest : List Oper} {dst : Option Tmp} {p : Prop} [Decidable p] (h1 : ¬p → aOp P op (evC F) H (Cont P l K rest F dst)) (h2 : p → aOps P l.toArray K rest (F.put dst (.tup [])) H) : aG P (.c (.bool (decide p))) false op l K rest F dst H := ⟨fun h => h1 (of_decide_eq_false h), fun h => h2 (of_decide_eq_true h)⟩
variable {P F H K J} in
theorem ag_bt {op : Op} {l rest : List Oper} {dst : Option Tmp} {b : Bool} (h1 : b = true → aOp P op (evC F) H (Cont P l K rest F dst)) (h2 : b = false → aOps P l.toArray K rest (F.put dst (.tup [])) H) : aG P (.c (.bool b)) true op l K rest F dst H := ⟨h1, h2⟩
variable {P F H K J} in
theorem ag_bf {op : Op} {l rest : List Oper} {dst : Option Tmp} {b : Bool} (h1 : b = false → aOp P op (evC F) H (Cont P l K rest F dst)) (h2 : b = true → aOps P l.toArray K rest (F.put dst (.tup [])) H) : aG P (.c (.bool b)) false op l K rest F dst H := ⟨h1, h2⟩
/-- a call's end -/
def aRes (vs : Option (List AV)) (n : Nat) (H : Hp) (K : AV → Hp → Prop) : Prop := match vs with
  | some [v] => Ret n v H K
  | some vs => vs.all noTup = true ∧ Ret n (.tup vs) H K
  | none => False
@[congr] theorem ares_congr {vs vs' : Option (List AV)} {n n' : Nat} {H H' : Hp} (h1 : vs = vs') (h2 : n = n') (h3 : H = H') : aRes vs n H J = aRes vs' n' H' J := by rw [h1, h2, h3]
theorem end_eq (fn : Func) (n : Nat) : aRet P fn n J F H = aRes (resAll P F H fn.results.toList) n H J := by
  unfold aRet resA aRes
  cases resAll P F H fn.results.toList with
  | none => rfl
  | some vs =>
    match vs with
    | [v] => rfl
    | [] => simp
    | v :: u :: vs =>
      dsimp only
      by_cases h : (v :: u :: vs).all noTup = true
      · rw [if_pos h]; simp [h]
      · rw [if_neg h]; simp [h]
@[go_sem ↓] theorem end_ret (fn : Func) (n : Nat) : aEnd P fn n J .ret F H = aRes (resAll P F H fn.results.toList) n H J := end_eq P F H J fn n
@[go_sem ↓] theorem end_normal (fn : Func) (n : Nat) : aEnd P fn n J .normal F H = aRes (resAll P F H fn.results.toList) n H J := end_eq P F H J fn n
@[go_sem] theorem ares_one (v : AV) (n : Nat) : aRes (some [v]) n H J = Ret n v H J := (rfl)
@[go_sem] theorem ares_nil (n : Nat) : aRes (some []) n H J = Ret n (.tup []) H J := by simp [aRes]
@[go_sem] theorem ares_two (v u : AV) (vs : List AV) (n : Nat) : aRes (some (v :: u :: vs)) n H J = ((v :: u :: vs).all noTup = true ∧ Ret n (.tup (v :: u :: vs)) H J) := (rfl)
@[go_sem] theorem resc_some (v : AV) (vs : List AV) : resC (some v) (some vs) = some (v :: vs) := (rfl)
@[go_sem ↓] theorem res_nil : resAll P F H [] = some [] := (rfl)
@[go_sem ↓] theorem res_cons (r : ResultVar) (rs : List ResultVar) : resAll P F H (r :: rs) = resC (resOne P F H r) (resAll P F H rs) := (rfl)
@[go_sem ↓] theorem res_tmp (t : Tmp) : resOne P F H (.tmp t) = some (F t) := (rfl)
@[go_sem ↓] theorem res_cell (x : Tmp) (t : TypeId) : resOne P F H (.cell x t) = resL (F x) (aggT P t) (szT P t) (P.info? t).isSome (P.underlying t).isSome H := (rfl)
@[go_sem] theorem resl_p (i k j : Nat) (ag : Bool) (sz : Nat) (i1 i2 : Bool) : resL (.c (.ptr (some (i, k, j)))) ag sz i1 i2 H = resM (elAt H i k) j ag sz i1 i2 := (rfl)
@[go_sem] theorem resm_a (e : List AC) (j sz : Nat) (i2 : Bool) : resM (some e) j true sz true i2 = if j + sz ≤ e.length then some (.agg ((e.drop j).take sz)) else none := by simp [resM]
@[go_sem] theorem resm_c (e : List AC) (j sz : Nat) (i1 : Bool) : resM (some e) j false sz i1 true = (e[j]?).map .c := by simp [resM]

/-! ### the operations, by their operands' values -/
/-- a value that is reckoned before the walk goes on -/
def aVal (v : AV) (H : Hp) (J : AV → Hp → Prop) : Prop := J v H
@[go_sem] theorem aval_go (v : AV) : aVal v H J = J v H := (rfl)
def aBin2 (P : Program) (t : TypeId) (op : BinOp) (a b : AV) (H : Hp) (J : AV → Hp → Prop) : Prop := aBinT P t op a b (fun v => J v H)
def aBin3 (P : Program) (t : TypeId) (op : BinOp) (a b : AV) (nl : Bool) (H : Hp) (J : AV → Hp → Prop) : Prop := aBinN P t op a b nl (fun v => J v H)
/-- a test that is not known -/
def aSome (k : Prop) (c : Bool → Prop) (H : Hp) (J : AV → Hp → Prop) : Prop := k ∧ ∀ b : Bool, c b → J (.c (.bool b)) H
def aEqS (neg : Bool) (r : Option Bool) (H : Hp) (J : AV → Hp → Prop) : Prop := ∃ b, r = some b ∧ J (.c (.bool (bif neg then !b else b))) H
variable (ev : Operand → AV)
@[go_sem ↓] theorem p_move (x : Operand) : aOp P (.move x) ev H J = aVal (ev x) H J := (rfl)
@[go_sem ↓] theorem p_assign (x : Operand) : aOp P (.assign x) ev H J = aVal (ev x) H J := (rfl)
@[go_sem ↓] theorem p_pick (c x y : Operand) : aOp P (.pick c x y) ev H J = aPick (ev c) (ev x) (ev y) H J := (rfl)
def aBin4 (P : Program) (t : TypeId) (op : BinOp) (a b : AV) (nl ni : Bool) (H : Hp) (J : AV → Hp → Prop) : Prop := aBinO P t op a b nl ni (fun v => J v H)
@[go_sem ↓] theorem p_bin (op : BinOp) (t : TypeId) (x y : Operand) (t2 : TypeId) : aOp P (.binOp op t x y t2) ev H J = aBin4 P t op (ev x) (ev y) (isNilS y) (isNilI y) H J := (rfl)
@[congr] theorem abin4_congr {P : Program} {t : TypeId} {op : BinOp} {a a' b b' : AV} {nl nl' ni ni' : Bool} {H H' : Hp} (h1 : ni = ni') (h2 : nl = nl') (h3 : a = a') (h4 : b = b') (h5 : H = H') : aBin4 P t op a b nl ni H J = aBin4 P t op a' b' nl' ni' H' J := by rw [h1, h2, h3, h4, h5]
@[go_sem] theorem abin4_f (t : TypeId) (op : BinOp) (a b : AV) (nl : Bool) : aBin4 P t op a b nl false H J = aBin3 P t op a b nl H J := (rfl)
@[go_sem] theorem bi_eql (t : TypeId) (y : AV) (nl : Bool) : aBin4 P t .eql (.c .nili) y nl true H J = aIf (kindT P t = 6) (.c (.bool true)) H J := (rfl)
@[go_sem] theorem bi_neq (t : TypeId) (y : AV) (nl : Bool) : aBin4 P t .neq (.c .nili) y nl true H J = aIf (kindT P t = 6) (.c (.bool false)) H J := (rfl)
@[go_sem] theorem bi_eql1 (t : TypeId) (y : AV) (nl : Bool) : aBin4 P t .eql (.c .ifc) y nl true H J = aIf (kindT P t = 6) (.c (.bool false)) H J := (rfl)
@[go_sem] theorem bi_neq1 (t : TypeId) (y : AV) (nl : Bool) : aBin4 P t .neq (.c .ifc) y nl true H J = aIf (kindT P t = 6) (.c (.bool true)) H J := (rfl)
@[go_sem ↓] theorem p_un (op : UnOp) (t : TypeId) (x : Operand) : aOp P (.unOp op t x) ev H J = aUn op (ev x) H J := (rfl)
@[go_sem ↓] theorem p_alloc (t : TypeId) : aOp P (.alloc t) ev H J = aNew t (zeroT P t) H J := (rfl)
@[go_sem ↓] theorem p_box (t : TypeId) (x : Operand) : aOp P (.box t x) ev H J = aNew t (ev x).cells H J := (rfl)
@[go_sem ↓] theorem p_build (t : TypeId) (ps : List (Nat × Operand)) : aOp P (.build t ps.toArray) ev H J = aBuild ((zeroT P t).bind fun z => buildAt P t z (partsOf ps ev)) (fieldsOk P t) H J := (rfl)
@[go_sem ↓] theorem p_lit (t n : Nat) (ps : List (Nat × Operand)) : aOp P (.buildSlice t n ps.toArray) ev H J = aLit (elemT P t) ((elemT P t).elim 0 (szT P)) ((elemT P t).elim false fun e => (zeroT P e).isSome) ((elemT P t).bind fun e => litEls (szT P e) 0 (partsOf ps ev)) n ps.length H J := (rfl)
@[go_sem ↓] theorem p_load (t : TypeId) (x : Operand) : aOp P (.load t x) ev H J = aLoad (ev x) (aggT P t) (szT P t) (P.info? t).isSome (P.underlying t).isSome H J := (rfl)
@[go_sem ↓] theorem p_store (t : TypeId) (x y : Operand) : aOp P (.store t x y) ev H J = aSt (ev x) (ev y).cells (P.info? t).isSome (szT P t) H J := (rfl)
@[go_sem ↓] theorem p_nil (x : Operand) : aOp P (.nilCheck x) ev H J = aNil (ev x) H J := (rfl)
@[go_sem ↓] theorem p_fld (s : TypeId) (x : Operand) (f : Nat) : aOp P (.fieldAddr s x f) ev H J = aFld (ev x) (fieldT P s f) H J := (rfl)
@[go_sem ↓] theorem p_ix (t : TypeId) (x ix : Operand) : aOp P (.indexAddr t x ix) ev H J = aIx (ev x) (ev ix) ((elemT P t).map (szT P)) ((elemT P t).elim false fun e => (P.info? e).isSome) H J := (rfl)
@[go_sem ↓] theorem p_str (t : TypeId) (x ix : Operand) : aOp P (.index t x ix) ev H J = aStr (ev x) (ev ix) (strT P t) H J := (rfl)
@[go_sem ↓] theorem p_sub (t : TypeId) (x : Operand) (lo hi mx : Option Operand) : aOp P (.slice t x lo hi mx) ev H J = aSub (ev x) mx.isSome (loOf (lo.map ev)) (hi.map ev) (elemT P t) P (strT P t) H J := (rfl)
@[go_sem ↓] theorem p_mk (f : Fn) (fs cs : List Operand) : aOp P (.makeFunc f fs.toArray cs.toArray) ev H J = aMk f (ptrsOf (fs.map ev)) (ptrsOf (cs.map ev)) H J := (rfl)
@[go_sem ↓] theorem p_ext (x : Operand) (ix : Nat) : aOp P (.extract x ix) ev H J = aExt (ev x) ix H J := (rfl)
@[go_sem ↓] theorem p_blt (b : Builtin) (args : List Operand) (ts : Array TypeId) : aOp P (.call ⟨.builtin b, args.toArray, ts⟩) ev H J = aBuiltin P b ts (args.map ev) H J := (rfl)
@[go_sem ↓] theorem p_call (f : Operand) (args : List Operand) (ts : Array TypeId) : aOp P (.call ⟨.value f, args.toArray, ts⟩) ev H J = aCall P (ev f) (args.map ev) H J := (rfl)
@[congr] theorem aval_congr {v v' : AV} {H H' : Hp} (hv : v = v') (hH : H = H') : aVal v H J = aVal v' H' J := by rw [hv, hH]
@[congr] theorem apick_congr {a a' : AV} {b b' : AV} {c c' : AV} {H H' : Hp} (ha : a = a') (hb : b = b') (hc : c = c') (hH : H = H') : aPick a b c H J = aPick a' b' c' H' J := by rw [ha, hb, hc, hH]
@[congr] theorem abin2_congr {t : TypeId} {op : BinOp} {a a' b b' : AV} {H H' : Hp} (h1 : a = a') (h2 : b = b') (h3 : H = H') : aBin2 P t op a b H J = aBin2 P t op a' b' H' J := by rw [h1, h2, h3]
@[congr] theorem abin3_congr {t : TypeId} {op : BinOp} {a a' b b' : AV} {nl nl' : Bool} {H H' : Hp} (h1 : a = a') (h2 : b = b') (h4 : nl = nl') (h3 : H = H') : aBin3 P t op a b nl H J = aBin3 P t op a' b' nl' H' J := by rw [h1, h2, h3, h4]
@[go_sem] theorem abin3_f (t : TypeId) (op : BinOp) (a b : AV) : aBin3 P t op a b false H J = aBin2 P t op a b H J := (rfl)
@[go_sem] theorem abin3_sl (t : TypeId) (op : BinOp) (r : Option (Nat × Nat)) (n : Nat) (b : AV) : aBin3 P t op (.c (.sl r n)) b true H J = aBin2 P t op (.c (.sl r n)) b H J := by
  cases op <;> rfl
@[go_sem] theorem abin3_el (t sz n : Nat) (els : List (List AC)) : aBin3 P t .eql (.c (.lst sz els)) (.c (.sl none n)) true H J = aSome (kindT P t = 3) (fun b => els ≠ [] → b = false) H J := (rfl)
@[go_sem] theorem abin3_nl (t sz n : Nat) (els : List (List AC)) : aBin3 P t .neq (.c (.lst sz els)) (.c (.sl none n)) true H J = aSome (kindT P t = 3) (fun b => els ≠ [] → b = true) H J := (rfl)
@[congr] theorem asome_congr {k k' : Prop} {c : Bool → Prop} {H H' : Hp} (h1 : k = k') (h3 : H = H') : aSome k c H J = aSome k' c H' J := by rw [h1, h3]
@[go_sem ↓] theorem isnil_t (t : Tmp) : isNilS (.tmp t) = false := (rfl)
@[go_sem ↓] theorem isnil_i (k : IntKind) (n : Int) : isNilS (.const (.int k n)) = false := (rfl)
@[go_sem ↓] theorem isnil_b (b : Bool) : isNilS (.const (.bool b)) = false := (rfl)
@[go_sem ↓] theorem isnil_s (s : ByteArray) : isNilS (.const (.string s)) = false := (rfl)
@[go_sem ↓] theorem isnil_p : isNilS (.const (.pointer none)) = false := (rfl)
@[go_sem ↓] theorem isnil_m : isNilS (.const (.map none)) = false := (rfl)
@[go_sem ↓] theorem isnil_f : isNilS (.const .nilFunc) = false := (rfl)
@[go_sem ↓] theorem isnil_q : isNilS (.const .nilIface) = false := (rfl)
@[go_sem ↓] theorem isni_t (t : Tmp) : isNilI (.tmp t) = false := (rfl)
@[go_sem ↓] theorem isni_i (k : IntKind) (n : Int) : isNilI (.const (.int k n)) = false := (rfl)
@[go_sem ↓] theorem isni_b (b : Bool) : isNilI (.const (.bool b)) = false := (rfl)
@[go_sem ↓] theorem isni_s (s : ByteArray) : isNilI (.const (.string s)) = false := (rfl)
@[go_sem ↓] theorem isni_p : isNilI (.const (.pointer none)) = false := (rfl)
@[go_sem ↓] theorem isni_m : isNilI (.const (.map none)) = false := (rfl)
@[go_sem ↓] theorem isni_f : isNilI (.const .nilFunc) = false := (rfl)
@[go_sem ↓] theorem isni_n (n c : Nat) : isNilI (.const (.slice none n c)) = false := (rfl)
@[go_sem ↓] theorem isni_q : isNilI (.const .nilIface) = true := (rfl)
@[go_sem ↓] theorem isnil_n (n c : Nat) : isNilS (.const (.slice none n c)) = true := (rfl)
@[congr] theorem aun_congr {op : UnOp} {a a' : AV} {H H' : Hp} (h1 : a = a') (h2 : H = H') : aUn op a H J = aUn op a' H' J := by rw [h1, h2]
@[congr] theorem anew_congr {t : TypeId} {a a' : Option (List AC)} {H H' : Hp} (h1 : a = a') (h2 : H = H') : aNew t a H J = aNew t a' H' J := by rw [h1, h2]
@[congr] theorem abuild_congr {a a' : Option (List AC)} {b b' : Bool} {H H' : Hp} (ha : a = a') (hb : b = b') (hH : H = H') : aBuild a b H J = aBuild a' b' H' J := by rw [ha, hb, hH]
@[congr] theorem alit_congr {a a' : Option Nat} {s s' : Nat} {z z' : Bool} {b b' : Option (List (List AC))} {n n' : Nat} {m m' : Nat} {H H' : Hp} (ha : a = a') (hs : s = s') (hz : z = z') (hb : b = b') (hn : n = n') (hm : m = m') (hH : H = H') : aLit a s z b n m H J = aLit a' s' z' b' n' m' H' J := by rw [ha, hs, hz, hb, hn, hm, hH]
@[congr] theorem aload_congr {v v' : AV} {a a' : Bool} {s s' : Nat} {b b' : Bool} {c c' : Bool} {H H' : Hp} (hv : v = v') (ha : a = a') (hs : s = s') (hb : b = b') (hc : c = c') (hH : H = H') : aLoad v a s b c H J = aLoad v' a' s' b' c' H' J := by rw [hv, ha, hs, hb, hc, hH]
@[congr] theorem ald_congr {e e' : Option (List AC)} {j j' : Nat} {a a' : Bool} {s s' : Nat} {b b' : Bool} {c c' : Bool} {H H' : Hp} (he : e = e') (hj : j = j') (ha : a = a') (hs : s = s') (hb : b = b') (hc : c = c') (hH : H = H') : aLd e j a s b c H J = aLd e' j' a' s' b' c' H' J := by rw [he, hj, ha, hs, hb, hc, hH]
@[congr] theorem aof_congr {e e' : Option AC} {H H' : Hp} (he : e = e') (hH : H = H') : aOf e H J = aOf e' H' J := by rw [he, hH]
@[congr] theorem aif_congr {c c' : Prop} {v v' : AV} {H H' : Hp} (h : c = c') (h1 : v = v') (h2 : H = H') : aIf c v H J = aIf c' v' H' J := by rw [h, h1, h2]
@[congr] theorem ast_congr {v v' : AV} {a a' : Option (List AC)} {b b' : Bool} {s s' : Nat} {H H' : Hp} (hv : v = v') (ha : a = a') (hb : b = b') (hs : s = s') (hH : H = H') : aSt v a b s H J = aSt v' a' b' s' H' J := by rw [hv, ha, hb, hs, hH]
@[congr] theorem ast2_congr {v v' : Option AObj} {i i' : Nat} {k k' : Nat} {j j' : Nat} {c c' : List AC} {b b' : Bool} {s s' : Nat} {H H' : Hp} (hv : v = v') (hi : i = i') (hk : k = k') (hj : j = j') (hc : c = c') (hb : b = b') (hs : s = s') (hH : H = H') : aSt2 v i k j c b s H J = aSt2 v' i' k' j' c' b' s' H' J := by rw [hv, hi, hk, hj, hc, hb, hs, hH]
@[congr] theorem ast3_congr {v v' : Option (List AC)} {t t' : Nat} {z z' : Nat} {e e' : List (List AC)} {i i' : Nat} {k k' : Nat} {j j' : Nat} {c c' : List AC} {b b' : Bool} {s s' : Nat} {H H' : Hp} (hv : v = v') (ht : t = t') (hz : z = z') (he : e = e') (hi : i = i') (hk : k = k') (hj : j = j') (hc : c = c') (hb : b = b') (hs : s = s') (hH : H = H') : aSt3 v t z e i k j c b s H J = aSt3 v' t' z' e' i' k' j' c' b' s' H' J := by rw [hv, ht, hz, he, hi, hk, hj, hc, hb, hs, hH]
@[congr] theorem anil_congr {v v' : AV} {H H' : Hp} (hv : v = v') (hH : H = H') : aNil v H J = aNil v' H' J := by rw [hv, hH]
@[congr] theorem afld_congr {v v' : AV} {f f' : Option (Nat × Nat)} {H H' : Hp} (hv : v = v') (hf : f = f') (hH : H = H') : aFld v f H J = aFld v' f' H' J := by rw [hv, hf, hH]
@[congr] theorem aix_congr {v v' : AV} {q q' : AV} {s s' : Option Nat} {b b' : Bool} {H H' : Hp} (hv : v = v') (hq : q = q') (hs : s = s') (hb : b = b') (hH : H = H') : aIx v q s b H J = aIx v' q' s' b' H' J := by rw [hv, hq, hs, hb, hH]
@[congr] theorem aix2_congr {v v' : Option AObj} {i i' : Nat} {k k' : Nat} {n n' : Nat} {q q' : Int} {s s' : Nat} {b b' : Bool} {H H' : Hp} (hv : v = v') (hi : i = i') (hk : k = k') (hn : n = n') (hq : q = q') (hs : s = s') (hb : b = b') (hH : H = H') : aIx2 v i k n q s b H J = aIx2 v' i' k' n' q' s' b' H' J := by rw [hv, hi, hk, hn, hq, hs, hb, hH]
@[congr] theorem astr_congr {v v' : AV} {q q' : AV} {b b' : Bool} {H H' : Hp} (hv : v = v') (hq : q = q') (hb : b = b') (hH : H = H') : aStr v q b H J = aStr v' q' b' H' J := by rw [hv, hq, hb, hH]
@[congr] theorem asub_congr {v v' : AV} {m m' : Bool} {l l' : Option Int} {q q' : Option AV} {e e' : Option Nat} {s s' : Bool} {H H' : Hp} (h1 : v = v') (h2 : m = m') (h3 : l = l') (h4 : q = q') (h5 : e = e') (h6 : s = s') (h7 : H = H') : aSub v m l q e P s H J = aSub v' m' l' q' e' P s' H' J := by rw [h1, h2, h3, h4, h5, h6, h7]
@[congr] theorem aext_congr {v v' : AV} {i i' : Nat} {H H' : Hp} (hv : v = v') (hi : i = i') (hH : H = H') : aExt v i H J = aExt v' i' H' J := by rw [hv, hi, hH]
@[congr] theorem aext2_congr {v v' : Option AV} {H H' : Hp} (hv : v = v') (hH : H = H') : aExt2 v H J = aExt2 v' H' J := by rw [hv, hH]
@[congr] theorem amk_congr {f : Fn} {a a' b b' : Option (List (Nat × Nat × Nat))} {H H' : Hp} (h1 : a = a') (h2 : b = b') (h3 : H = H') : aMk f a b H J = aMk f a' b' H' J := by rw [h1, h2, h3]
@[congr] theorem aeqs_congr {n : Bool} {r r' : Option Bool} {H H' : Hp} (h1 : r = r') (h3 : H = H') : aEqS n r H J = aEqS n r' H' J := by rw [h1, h3]
@[congr] theorem acall_congr {v v' : AV} {as as' : List AV} {H H' : Hp} (h1 : v = v') (h2 : as = as') (h3 : H = H') : aCall P v as H J = aCall P v' as' H' J := by rw [h1, h2, h3]
@[congr] theorem abuiltin_congr {b : Builtin} {ts : Array TypeId} {as as' : List AV} {H H' : Hp} (h2 : as = as') (h3 : H = H') : aBuiltin P b ts as H J = aBuiltin P b ts as' H' J := by rw [h2, h3]
@[go_sem] theorem apick_b (t p q : Bool) : aPick (.c (.bool t)) (.c (.bool p)) (.c (.bool q)) H J = aVal (.c (.bool (bif t then p else q))) H J := (rfl)
@[go_sem] theorem apick_t (u v : AV) : aPick (.c (.bool true)) u v H J = aVal u H J := by
  unfold aPick aVal
  dsimp only
  split <;> rfl
@[go_sem] theorem apick_f (u v : AV) : aPick (.c (.bool false)) u v H J = aVal v H J := by
  unfold aPick aVal
  dsimp only
  split <;> rfl
@[go_sem] theorem aif_true (v : AV) : aIf True v H J = J v H := by simp [aIf]
@[go_sem] theorem anew_some (t : TypeId) (cs : List AC) : aNew t (some cs) H J = aVal (.c (.ptr (some (H.length, 0, 0)))) (H ++ [.row t cs.length [cs] true]) J := (rfl)
@[go_sem] theorem abuild_some (cs : List AC) : aBuild (some cs) true H J = aVal (.agg cs) H J := by simp [aVal, aBuild]
@[go_sem] theorem alit_some (e sz n m : Nat) (els : List (List AC)) : aLit (some e) sz true (some els) n m H J = aIf (n = m ∧ 0 < sz ∧ n * sz ≤ 16777216) (.c (.sl (some (H.length, 0)) n)) (H ++ [.row e sz els true]) J := by simp [aLit, aIf, and_assoc]
@[go_sem] theorem aload_p (i k j : Nat) (ag : Bool) (sz : Nat) (i1 i2 : Bool) : aLoad (.c (.ptr (some (i, k, j)))) ag sz i1 i2 H J = aLd (elAt H i k) j ag sz i1 i2 H J := (rfl)
def elOf (ob : Option AObj) (k : Nat) : Option (List AC) := match ob with | some (.row _ _ els _) => els[k]? | _ => none
@[go_sem] theorem elAt_of (i k : Nat) : elAt H i k = elOf H[i]? k := (rfl)
@[go_sem] theorem elOf_row (ty sz k : Nat) (els : List (List AC)) (own : Bool) : elOf (some (.row ty sz els own)) k = els[k]? := (rfl)
@[go_sem] theorem aof_some (u : AC) : aOf (some u) H J = aVal (.c u) H J := (rfl)
@[go_sem] theorem ald_c (e : List AC) (j sz : Nat) (i1 : Bool) : aLd (some e) j false sz i1 true H J = aOf e[j]? H J := by simp [aLd]
@[go_sem] theorem ald_a (e : List AC) (j sz : Nat) (i2 : Bool) : aLd (some e) j true sz true i2 H J = aIf (j + sz ≤ e.length) (.agg ((e.drop j).take sz)) H J := by simp [aLd]
@[go_sem] theorem aload_fp (cs : List AC) (ag : Bool) (sz : Nat) (i1 i2 : Bool) : aLoad (.c (.fp cs)) ag sz i1 i2 H J = aLd (some cs) 0 ag sz i1 i2 H J := (rfl)
@[go_sem] theorem ast_p (i k j szt : Nat) (cs : List AC) (i1 : Bool) : aSt (.c (.ptr (some (i, k, j)))) (some cs) i1 szt H J = aSt2 H[i]? i k j cs i1 szt H J := (rfl)
@[go_sem] theorem ast2_p (ty sz i k j szt : Nat) (cs : List AC) (els : List (List AC)) (i1 : Bool) : aSt2 (some (.row ty sz els true)) i k j cs i1 szt H J = aSt3 els[k]? ty sz els i k j cs i1 szt H J := (rfl)
@[go_sem] theorem ast3_p (e : List AC) (ty sz i k j szt : Nat) (cs : List AC) (els : List (List AC)) : aSt3 (some e) ty sz els i k j cs true szt H J = aIf (szt = cs.length ∧ j + cs.length ≤ sz) .any (H.set i (.row ty sz (els.set k (setC e j cs)) true)) J := by simp [aSt3]
@[go_sem] theorem anil_p (p : Nat × Nat × Nat) : aNil (.c (.ptr (some p))) H J = aVal (.c (.ptr (some p))) H J := (rfl)
@[go_sem] theorem anil_fp (cs : List AC) : aNil (.c (.fp cs)) H J = aVal (.c (.fp cs)) H J := (rfl)
@[go_sem] theorem afld_fp (cs : List AC) (o n : Nat) : aFld (.c (.fp cs)) (some (o, n + 1)) H J = aVal (.c (.fp (cs.drop o))) H J := by simp [aVal, aFld]
@[go_sem] theorem afld_p (i k j o n : Nat) : aFld (.c (.ptr (some (i, k, j)))) (some (o, n + 1)) H J = aVal (.c (.ptr (some (i, k, j + o)))) H J := by simp [aVal, aFld]
@[go_sem] theorem aix_p (i k n s : Nat) (kd : IntKind) (q : Int) (i1 : Bool) : aIx (.c (.sl (some (i, k)) n)) (.c (.int kd q)) (some s) i1 H J = aIx2 H[i]? i k n q s i1 H J := (rfl)
@[go_sem] theorem aix2_p (ty sz i k n s : Nat) (els : List (List AC)) (own : Bool) (q : Int) : aIx2 (some (.row ty sz els own)) i k n q s true H J = aIf (s = sz ∧ 0 ≤ q ∧ q < n) (.c (.ptr (some (i, k + q.toNat, 0)))) H J := by simp [aIx2]
@[congr] theorem aixl_congr {e e' : Option (List AC)} {n n' : Nat} {q q' : Int} {s s' z z' : Nat} {b b' : Bool} {H H' : Hp} (he : e = e') (hn : n = n') (hq : q = q') (hs : s = s') (hz : z = z') (hb : b = b') (hH : H = H') : aIxL e n q s z b H J = aIxL e' n' q' s' z' b' H' J := by rw [he, hn, hq, hs, hz, hb, hH]
@[go_sem] theorem aix_l (sz s : Nat) (els : List (List AC)) (kd : IntKind) (q : Int) (i1 : Bool) : aIx (.c (.lst sz els)) (.c (.int kd q)) (some s) i1 H J = aIxL els[q.toNat]? els.length q s sz i1 H J := (rfl)
@[go_sem] theorem aixl_p (e : List AC) (n s sz : Nat) (q : Int) : aIxL (some e) n q s sz true H J = aIf (s = sz ∧ 0 ≤ q ∧ q < n) (.c (.fp e)) H J := by simp [aIxL]
@[go_sem] theorem astr_p (s : ByteArray) (kd : IntKind) (q : Int) : aStr (.c (.str s)) (.c (.int kd q)) true H J = aIf (0 ≤ q ∧ q < s.size) (.c (.int .u8 (s.data.toList.getD q.toNat 0).toNat)) H J := by simp [aStr]
@[go_sem ↓] theorem p_cv (s d : TypeId) (x : Operand) : aOp P (.convert s d x) ev H J = aCv (ev x) (P.underlying s).isSome (intK P d) (strT P d) (bytesT P d) (bytesT P s) H J := (rfl)
@[go_sem ↓] theorem p_mi (t : TypeId) (x : Operand) : aOp P (.makeInterface t x) ev H J = aIfc (conT P t) (ev x) H J := (rfl)
@[go_sem ↓] theorem p_fd (s : TypeId) (x : Operand) (f : Nat) : aOp P (.field s x f) ev H J = aFd (ev x) (fieldK P s f) H J := (rfl)
@[congr] theorem acv_congr {v v' : AV} {a a' : Bool} {k k' : Option IntKind} {b b' bt bt' sb sb' : Bool} {H H' : Hp} (h1 : v = v') (h2 : a = a') (h3 : k = k') (h4 : b = b') (h5 : bt = bt') (h6 : sb = sb') (h7 : H = H') : aCv v a k b bt sb H J = aCv v' a' k' b' bt' sb' H' J := by rw [h1, h2, h3, h4, h5, h6, h7]
@[congr] theorem aifc_congr {v v' : AV} {a a' : Bool} {H H' : Hp} (h1 : a = a') (h2 : v = v') (h3 : H = H') : aIfc a v H J = aIfc a' v' H' J := by rw [h1, h2, h3]
@[go_sem] theorem acv_i (k0 k : IntKind) (n : Int) (b bt sb : Bool) : aCv (.c (.int k0 n)) true (some k) b bt sb H J = aVal (.c (.int k (k.wrap n))) H J := by simp [aCv, aCv2, aIf, aVal]
@[go_sem] theorem acv_s (s : ByteArray) (k : Option IntKind) (sb : Bool) : aCv (.c (.str s)) true k true false sb H J = aVal (.c (.str s)) H J := by simp [aCv, aCvS, aIf, aVal]
@[go_sem] theorem acv_sb (s : ByteArray) (k : Option IntKind) (b sb : Bool) : aCv (.c (.str s)) true k b true sb H J = aVal (.c (.lst 1 (bytesL s))) H J := by simp [aCv, aCvS, aIf, aVal]
@[go_sem] theorem acv_b (z : Nat) (els : List (List AC)) (a : Bool) (k : Option IntKind) (bt : Bool) : aCv (.c (.lst z els)) a k true bt true H J = aCvB (unbyte els) true true H J := (rfl)
@[congr] theorem acvb_congr {u u' : Option (List UInt8)} {a b : Bool} {H H' : Hp} (h1 : u = u') (h2 : H = H') : aCvB u a b H J = aCvB u' a b H' J := by rw [h1, h2]
@[go_sem] theorem acvb_some (l : List UInt8) : aCvB (some l) true true H J = aVal (.c (.str ⟨l.toArray⟩)) H J := by simp [aCvB, aIf, aVal]
@[go_sem] theorem aifc_c (x : AC) : aIfc true (.c x) H J = aVal (.c .ifc) H J := by simp [aIfc, aIf, aVal]
@[go_sem] theorem aifc_agg (x : List AC) : aIfc true (.agg x) H J = aVal (.c .ifc) H J := by simp [aIfc, aIf, aVal]
@[go_sem] theorem afd_a (cs : List AC) (o n : Nat) : aFd (.agg cs) (some (o, n, true)) H J = aIf (o + n ≤ cs.length) (.agg ((cs.drop o).take n)) H J := (rfl)
@[go_sem] theorem afd_c (cs : List AC) (o n : Nat) : aFd (.agg cs) (some (o, n, false)) H J = aOf cs[o]? H J := (rfl)
@[congr] theorem aclr_congr {r r' : Option (Nat × Nat)} {n n' : Nat} {e e' : Option Nat} {s s' : Nat} {z z' : Option Nat} {H H' : Hp} (h1 : r = r') (h2 : n = n') (h3 : e = e') (h4 : s = s') (h5 : z = z') (h6 : H = H') : aClr r n e s z H J = aClr r' n' e' s' z' H' J := by rw [h1, h2, h3, h4, h5, h6]
@[congr] theorem aclr2_congr {ob ob' : Option AObj} {i i' k k' n n' s s' : Nat} {z z' : Option Nat} {H H' : Hp} (h1 : ob = ob') (h2 : i = i') (h3 : k = k') (h4 : n = n') (h5 : s = s') (h6 : z = z') (h7 : H = H') : aClr2 ob i k n s z H J = aClr2 ob' i' k' n' s' z' H' J := by rw [h1, h2, h3, h4, h5, h6, h7]
@[go_sem] theorem blt_clr (t : TypeId) (r : Option (Nat × Nat)) (n : Nat) : aBuiltin P .clear #[t] [.c (.sl r n)] H J = aClr r n (elemT P t) ((elemT P t).elim 0 (szT P)) ((elemT P t).bind fun e => (zeroT P e).map (·.length)) H J := (rfl)
theorem aclr_zero (r : Option (Nat × Nat)) (e s : Nat) (z : Option Nat) {n : Nat} (hn : n = 0) (h : J (.tup []) H) : aClr r n (some e) s z H J := by subst hn; exact h
theorem aclr_pos {i k e n : Nat} {z : Option Nat} {ty sz : Nat} {els : List (List AC)} (hi : H[i]? = some (.row ty sz els true)) (hn : 0 < n) (hz : z = some sz) (hk : k + n = els.length) (h : J (.tup []) (H.set i (.row ty sz (els.take k) true))) : aClr (some (i, k)) n (some e) sz z H J := by
  obtain ⟨m, rfl⟩ : ∃ m, n = m + 1 := ⟨n - 1, by omega⟩
  show aClr2 H[i]? i k (m + 1) sz z H J
  rw [hi]
  exact ⟨⟨rfl, hz, hk⟩, h⟩
def aSubO (ho : Option Int) (c : Int → Prop) (f : Int → AC) (H : Hp) (J : AV → Hp → Prop) : Prop := match ho with | some h => aIf (c h) (.c (f h)) H J | none => False
@[congr] theorem asubo_congr {ho ho' : Option Int} {c c' : Int → Prop} {f f' : Int → AC} {H H' : Hp} (h1 : ho = ho') (h2 : c = c') (h3 : f = f') (h4 : H = H') : aSubO ho c f H J = aSubO ho' c' f' H' J := by rw [h1, h2, h3, h4]
@[go_sem] theorem asubo_some (h : Int) (c : Int → Prop) (f : Int → AC) : aSubO (some h) c f H J = aIf (c h) (.c (f h)) H J := (rfl)
@[go_sem] theorem asub_none (n e : Nat) (l : Int) (hi : Option AV) (s : Bool) : aSub (.c (.sl none n)) false (some l) hi (some e) P s H J = aSubO (hiOf hi n) (fun h => (P.info? e).isSome = true ∧ 0 ≤ l ∧ l ≤ h ∧ h ≤ n) (fun h => .sl none (h.toNat - l.toNat)) H J := by
  simp only [aSub, aSubO]
  cases hiOf hi n with
  | none => rfl
  | some h => simp [aIf, rowOk]
@[go_sem] theorem asub_sl (i k n e : Nat) (l : Int) (hi : Option AV) (s : Bool) : aSub (.c (.sl (some (i, k)) n)) false (some l) hi (some e) P s H J = aSubO (hiOf hi n) (fun h => (P.info? e).isSome = true ∧ rowOk P H e (some (i, k)) ∧ 0 ≤ l ∧ l ≤ h ∧ h ≤ n) (fun h => .sl (some (i, k + l.toNat)) (h.toNat - l.toNat)) H J := by
  simp only [aSub, aSubO]
  cases hiOf hi n with
  | none => rfl
  | some h => rfl
@[go_sem] theorem asub_lst (sz e : Nat) (els : List (List AC)) (l : Int) (hi : Option AV) (s : Bool) : aSub (.c (.lst sz els)) false (some l) hi (some e) P s H J = aSubO (hiOf hi els.length) (fun h => (P.info? e).isSome = true ∧ sz = szT P e ∧ 0 ≤ l ∧ l ≤ h ∧ h ≤ els.length) (fun h => .lst sz ((els.drop l.toNat).take (h.toNat - l.toNat))) H J := by
  simp only [aSub, aSubO]
  cases hiOf hi els.length with
  | none => rfl
  | some h => rfl
@[go_sem] theorem asub_str (x : ByteArray) (l : Int) (hi : Option AV) (e : Option Nat) (s : Bool) : aSub (.c (.str x)) false (some l) hi e P s H J = aSubO (hiOf hi x.size) (fun h => s = true ∧ 0 ≤ l ∧ l ≤ h ∧ h ≤ x.size) (fun h => .str (x.extract l.toNat h.toNat)) H J := by
  simp only [aSub, aSubO]
  cases hiOf hi x.size with
  | none => rfl
  | some h => rfl
@[go_sem] theorem aext_t (vs : List AV) (i : Nat) : aExt (.tup vs) i H J = aExt2 vs[i]? H J := (rfl)
@[go_sem] theorem aext2_some (v : AV) : aExt2 (some v) H J = J v H := (rfl)
@[go_sem] theorem acall_f (f : FuncId) (as : List AV) (fs cs : List (Nat × Nat × Nat)) : aCall P (.c (.fn f fs cs)) as H J = (as.all noTup = true ∧ aCallB P (entersB P f) f (ptrs fs ++ as ++ ptrs cs) H J) := (rfl)
@[congr] theorem acallb_congr {b b' : Bool} {f : FuncId} {as as' : List AV} {H H' : Hp} (h1 : b = b') (h2 : as = as') (h3 : H = H') : aCallB P b f as H J = aCallB P b' f as' H' J := by rw [h1, h2, h3]
@[congr] theorem aext_f_congr {f : FuncId} {as as' : List AV} {H H' : Hp} (h2 : as = as') (h3 : H = H') : AExt P f as H J = AExt P f as' H' J := by rw [h2, h3]
@[go_sem] theorem acallb_t (f : FuncId) (as : List AV) : aCallB P true f as H J = ACalls P f as H J := (rfl)
@[go_sem] theorem acallb_f (f : FuncId) (as : List AV) : aCallB P false f as H J = AExt P f as H J := (rfl)
@[go_sem] theorem blt_len (t : TypeId) (r : Option (Nat × Nat)) (n : Nat) : aBuiltin P .len #[t] [.c (.sl r n)] H J = aIf ((elemT P t).isSome = true) (.c (.int .i64 n)) H J := (rfl)
@[go_sem] theorem blt_cap (t : TypeId) (n : Nat) : aBuiltin P .cap #[t] [.c (.sl none n)] H J = aIf ((elemT P t).isSome = true) (.c (.int .i64 0)) H J := by
  show (_ ∧ _ ∧ _) = _
  simp [aIf]
@[go_sem] theorem blt_lenl (t sz : Nat) (els : List (List AC)) : aBuiltin P .len #[t] [.c (.lst sz els)] H J = aIf ((elemT P t).isSome = true) (.c (.int .i64 els.length)) H J := (rfl)
@[go_sem] theorem blt_lens (t : TypeId) (s : ByteArray) : aBuiltin P .len #[t] [.c (.str s)] H J = aIf (P.underlying t = some .string) (.c (.int .i64 s.size)) H J := (rfl)
@[go_sem] theorem blt_min (ts : Array TypeId) (k k2 : IntKind) (x y : Int) : aBuiltin P .min ts [.c (.int k x), .c (.int k2 y)] H J = aVal (.c (.int k (min x y))) H J := by
  have e : min x y = if y < x then y else x := by split <;> omega
  rw [e]; unfold aBuiltin aVal; split <;> simp_all
@[go_sem] theorem blt_max (ts : Array TypeId) (k k2 : IntKind) (x y : Int) : aBuiltin P .max ts [.c (.int k x), .c (.int k2 y)] H J = aVal (.c (.int k (max x y))) H J := by
  have e : max x y = if x < y then y else x := by split <;> omega
  rw [e]; unfold aBuiltin aVal; split <;> simp_all
@[go_sem] theorem b_add (t : TypeId) (k : IntKind) (a b : Int) : aBin2 P t .add (.c (.int k a)) (.c (.int k b)) H J = aVal (.c (.int k (k.wrap (a + b)))) H J := by simp [aBin2, aBinT, aBin, aVal]
@[go_sem] theorem b_sub (t : TypeId) (k : IntKind) (a b : Int) : aBin2 P t .sub (.c (.int k a)) (.c (.int k b)) H J = aVal (.c (.int k (k.wrap (a - b)))) H J := by simp [aBin2, aBinT, aBin, aVal]
@[go_sem] theorem b_mul (t : TypeId) (k : IntKind) (a b : Int) : aBin2 P t .mul (.c (.int k a)) (.c (.int k b)) H J = aVal (.c (.int k (k.wrap (a * b)))) H J := by simp [aBin2, aBinT, aBin, aVal]
@[go_sem] theorem b_and (t : TypeId) (k : IntKind) (a b : Int) : aBin2 P t .and (.c (.int k a)) (.c (.int k b)) H J = aVal (.c (.int k (k.wrap (BitVec.ofInt k.bits a &&& BitVec.ofInt k.bits b).toNat))) H J := by simp [aBin2, aBinT, aBin, aVal]
@[go_sem] theorem b_or (t : TypeId) (k : IntKind) (a b : Int) : aBin2 P t .or (.c (.int k a)) (.c (.int k b)) H J = aVal (.c (.int k (k.wrap (BitVec.ofInt k.bits a ||| BitVec.ofInt k.bits b).toNat))) H J := by simp [aBin2, aBinT, aBin, aVal]
@[go_sem] theorem b_eql (t : TypeId) (k : IntKind) (a b : Int) : aBin2 P t .eql (.c (.int k a)) (.c (.int k b)) H J = aVal (.c (.bool (decide (a = b)))) H J := by simp [aBin2, aBinT, aBin, aVal]; rfl
@[go_sem] theorem b_neq (t : TypeId) (k : IntKind) (a b : Int) : aBin2 P t .neq (.c (.int k a)) (.c (.int k b)) H J = aVal (.c (.bool (!decide (a = b)))) H J := by simp [aBin2, aBinT, aBin, aVal]; rfl
@[go_sem] theorem b_lss (t : TypeId) (k : IntKind) (a b : Int) : aBin2 P t .lss (.c (.int k a)) (.c (.int k b)) H J = aVal (.c (.bool (decide (a < b)))) H J := by simp [aBin2, aBinT, aBin, aVal]
@[go_sem] theorem b_leq (t : TypeId) (k : IntKind) (a b : Int) : aBin2 P t .leq (.c (.int k a)) (.c (.int k b)) H J = aVal (.c (.bool (decide (a ≤ b)))) H J := by simp [aBin2, aBinT, aBin, aVal]
@[go_sem] theorem b_gtr (t : TypeId) (k : IntKind) (a b : Int) : aBin2 P t .gtr (.c (.int k a)) (.c (.int k b)) H J = aVal (.c (.bool (decide (b < a)))) H J := by simp [aBin2, aBinT, aBin, aVal]
@[go_sem] theorem b_geq (t : TypeId) (k : IntKind) (a b : Int) : aBin2 P t .geq (.c (.int k a)) (.c (.int k b)) H J = aVal (.c (.bool (decide (b ≤ a)))) H J := by simp [aBin2, aBinT, aBin, aVal]
@[go_sem] theorem b_quo (t : TypeId) (k : IntKind) (a b : Int) : aBin2 P t .quo (.c (.int k a)) (.c (.int k b)) H J = aIf (b ≠ 0) (.c (.int k (k.wrap (a.tdiv b)))) H J := by simp [aBin2, aBinT, aBin, aIf]
@[go_sem] theorem b_rem (t : TypeId) (k : IntKind) (a b : Int) : aBin2 P t .rem (.c (.int k a)) (.c (.int k b)) H J = aIf (b ≠ 0) (.c (.int k (a.tmod b))) H J := by simp [aBin2, aBinT, aBin, aIf]
@[go_sem] theorem b_shl (t : TypeId) (k k2 : IntKind) (a b : Int) : aBin2 P t .shl (.c (.int k a)) (.c (.int k2 b)) H J = aIf (0 ≤ b) (.c (.int k (k.wrap (a * 2 ^ (min b.toNat k.bits))))) H J := by simp [aBin2, aBinT, aBin, aIf]
@[go_sem] theorem b_shr (t : TypeId) (k k2 : IntKind) (a b : Int) : aBin2 P t .shr (.c (.int k a)) (.c (.int k2 b)) H J = aIf (0 ≤ b) (.c (.int k (a.fdiv (2 ^ (min b.toNat k.bits))))) H J := by simp [aBin2, aBinT, aBin, aIf]
@[go_sem] theorem bs_eql (t : TypeId) (a b : ByteArray) : aBin2 P t .eql (.c (.str a)) (.c (.str b)) H J = aVal (.c (.bool (a.toList == b.toList))) H J := (rfl)
@[go_sem] theorem bs_neq (t : TypeId) (a b : ByteArray) : aBin2 P t .neq (.c (.str a)) (.c (.str b)) H J = aVal (.c (.bool (!(a.toList == b.toList)))) H J := (rfl)
@[go_sem] theorem bs_lss (t : TypeId) (a b : ByteArray) : aBin2 P t .lss (.c (.str a)) (.c (.str b)) H J = aVal (.c (.bool (Op.bytesLess a.toList b.toList))) H J := (rfl)
@[go_sem] theorem bs_leq (t : TypeId) (a b : ByteArray) : aBin2 P t .leq (.c (.str a)) (.c (.str b)) H J = aVal (.c (.bool (Op.bytesLess a.toList b.toList || a.toList == b.toList))) H J := (rfl)
@[go_sem] theorem bs_gtr (t : TypeId) (a b : ByteArray) : aBin2 P t .gtr (.c (.str a)) (.c (.str b)) H J = aVal (.c (.bool (!(Op.bytesLess a.toList b.toList || a.toList == b.toList)))) H J := (rfl)
@[go_sem] theorem bs_geq (t : TypeId) (a b : ByteArray) : aBin2 P t .geq (.c (.str a)) (.c (.str b)) H J = aVal (.c (.bool (!(Op.bytesLess a.toList b.toList)))) H J := (rfl)
@[go_sem] theorem bs_add (t : TypeId) (a b : ByteArray) : aBin2 P t .add (.c (.str a)) (.c (.str b)) H J = aIf (a.size + b.size ≤ 9223372036854775807) (.c (.str (a ++ b))) H J := (rfl)
@[go_sem] theorem amk_some (f : FuncId) (fs cs : List (Nat × Nat × Nat)) : aMk (.func f) (some fs) (some cs) H J = aVal (.c (.fn f fs cs)) H J := (rfl)
@[go_sem] theorem ptrsOf_nil : ptrsOf [] = some [] := (rfl)
@[go_sem] theorem ptrsOf_cons (p : Nat × Nat × Nat) (l : List AV) : ptrsOf (.c (.ptr (some p)) :: l) = (ptrsOf l).map (p :: ·) := (rfl)
@[go_sem] theorem be_eql (t : TypeId) (a b : Bool) : aBin2 P t .eql (.c (.bool a)) (.c (.bool b)) H J = aIf (kindT P t = 1) (.c (.bool (a == b))) H J := (rfl)
@[go_sem] theorem be_neq (t : TypeId) (a b : Bool) : aBin2 P t .neq (.c (.bool a)) (.c (.bool b)) H J = aIf (kindT P t = 1) (.c (.bool (!(a == b)))) H J := (rfl)
@[go_sem] theorem bp_eql (t : TypeId) (r : Option (Nat × Nat × Nat)) : aBin2 P t .eql (.c (.ptr r)) (.c (.ptr none)) H J = aIf (kindT P t = 2) (.c (.bool r.isNone)) H J := (rfl)
@[go_sem] theorem bp_neq (t : TypeId) (r : Option (Nat × Nat × Nat)) : aBin2 P t .neq (.c (.ptr r)) (.c (.ptr none)) H J = aIf (kindT P t = 2) (.c (.bool (!r.isNone))) H J := (rfl)
@[go_sem] theorem bf_eql (t : TypeId) (cs : List AC) : aBin2 P t .eql (.c (.fp cs)) (.c (.ptr none)) H J = aIf (kindT P t = 2) (.c (.bool false)) H J := (rfl)
@[go_sem] theorem bf_neq (t : TypeId) (cs : List AC) : aBin2 P t .neq (.c (.fp cs)) (.c (.ptr none)) H J = aIf (kindT P t = 2) (.c (.bool true)) H J := (rfl)
@[go_sem] theorem bl_eql (t : TypeId) (r : Option (Nat × Nat)) (n m : Nat) : aBin2 P t .eql (.c (.sl r n)) (.c (.sl none m)) H J = aIf (kindT P t = 3) (.c (.bool r.isNone)) H J := (rfl)
@[go_sem] theorem bl_neq (t : TypeId) (r : Option (Nat × Nat)) (n m : Nat) : aBin2 P t .neq (.c (.sl r n)) (.c (.sl none m)) H J = aIf (kindT P t = 3) (.c (.bool (!r.isNone))) H J := (rfl)
@[go_sem] theorem bm_eql (t : TypeId) (r : Option Nat) : aBin2 P t .eql (.c (.map r)) (.c (.map none)) H J = aIf (kindT P t = 4) (.c (.bool r.isNone)) H J := (rfl)
@[go_sem] theorem bm_neq (t : TypeId) (r : Option Nat) : aBin2 P t .neq (.c (.map r)) (.c (.map none)) H J = aIf (kindT P t = 4) (.c (.bool (!r.isNone))) H J := (rfl)
@[go_sem] theorem ba_eql (t : TypeId) (xs ys : List AC) : aBin2 P t .eql (.agg xs) (.agg ys) H J = aEqS false ((fieldsK P t).bind (fun l => eqF l xs ys)) H J := (rfl)
@[go_sem] theorem ba_neq (t : TypeId) (xs ys : List AC) : aBin2 P t .neq (.agg xs) (.agg ys) H J = aEqS true ((fieldsK P t).bind (fun l => eqF l xs ys)) H J := (rfl)
@[go_sem] theorem aeqs_f (b : Bool) : aEqS false (some b) H J = aVal (.c (.bool b)) H J := by simp [aEqS, aVal]
@[go_sem] theorem aeqs_t (b : Bool) : aEqS true (some b) H J = aVal (.c (.bool (!b))) H J := by simp [aEqS, aVal]
@[go_sem] theorem eqF_nil (xs ys : List AC) : eqF [] xs ys = some true := (rfl)
@[go_sem] theorem eqF_cons (o k : Nat) (r : List (Nat × Nat)) (xs ys : List AC) : eqF ((o, k) :: r) xs ys = eqC k xs[o]? ys[o]? (eqF r xs ys) := (rfl)
@[go_sem] theorem eqC_i (k : IntKind) (a b : Int) (r : Bool) : eqC 1 (some (.int k a)) (some (.int k b)) (some r) = some (decide (a = b) && r) := by simp [eqC]; rfl
@[go_sem] theorem eqC_b (a b r : Bool) : eqC 2 (some (.bool a)) (some (.bool b)) (some r) = some (a == b && r) := (rfl)
@[go_sem] theorem eqC_s (a b : ByteArray) (r : Bool) : eqC 3 (some (.str a)) (some (.str b)) (some r) = some (a.toList == b.toList && r) := (rfl)
attribute [go_sem] beq_self_eq_true Bool.false_and Bool.and_false Bool.true_or Bool.or_true Bool.not_not Bool.true_beq Bool.false_beq Option.isNone_some Option.isNone_none
@[go_sem] theorem u_not (b : Bool) : aUn .not (.c (.bool b)) H J = aVal (.c (.bool (!b))) H J := (rfl)
@[go_sem] theorem u_neg (k : IntKind) (n : Int) : aUn .neg (.c (.int k n)) H J = aVal (.c (.int k (k.wrap (0 - n)))) H J := (rfl)
end
attribute [go_sem] Int.cast_ofNat_Int eq_self Option.elim_some Option.elim_none Int.toNat_natCast Int.natCast_nonneg and_self
attribute [go_sem] Bool.not_true Bool.not_false cond_true cond_false
attribute [go_sem] Option.isSome_none Option.isSome_some
attribute [go_sem] noTup ofVal AV.cells partsOf loOf hiOf rowOk setC ptrs killA
@[go_sem] theorem litEls_nil (sz n : Nat) : litEls sz n [] = some [] := (rfl)
@[go_sem] theorem litEls_c (sz n i : Nat) (x : AC) (rest : List (Nat × AV)) (h : i = n ∧ 1 = sz) : litEls sz n ((i, .c x) :: rest) = (litEls sz (n + 1) rest).map ([x] :: ·) := by
  simp [litEls, AV.cells, h]
@[go_sem] theorem litEls_g (sz n i : Nat) (x : List AC) (rest : List (Nat × AV)) (h : i = n ∧ x.length = sz) : litEls sz n ((i, .agg x) :: rest) = (litEls sz (n + 1) rest).map (x :: ·) := by
  simp [litEls, AV.cells, h]
def buildF (f : Option (Nat × Nat)) (v : Option (List AC)) (cs : List AC) (k : List AC → Option (List AC)) : Option (List AC) := match f, v with
  | some (o, n), some xs => if xs.length = n ∧ o + n ≤ cs.length then k (setC cs o xs) else none
  | _, _ => none
@[congr] theorem buildf_congr {f f' : Option (Nat × Nat)} {v v' : Option (List AC)} {cs cs' : List AC} {k : List AC → Option (List AC)} (h1 : f = f') (h2 : v = v') (h3 : cs = cs') : buildF f v cs k = buildF f' v' cs' k := by rw [h1, h2, h3]
@[go_sem] theorem buildf_some (o n : Nat) (xs cs : List AC) (k : List AC → Option (List AC)) (h : xs.length = n ∧ o + n ≤ cs.length) : buildF (some (o, n)) (some xs) cs k = k (setC cs o xs) := by simp only [buildF]; rw [if_pos h]
@[go_sem] theorem buildAt_nil (P : Program) (t : TypeId) (cs : List AC) : buildAt P t cs [] = some cs := (rfl)
@[go_sem] theorem buildAt_cons (P : Program) (t : TypeId) (cs : List AC) (i : Nat) (v : AV) (rest : List (Nat × AV)) : buildAt P t cs ((i, v) :: rest) = buildF (fieldT P t i) v.cells cs (fun cs => buildAt P t cs rest) := (rfl)
@[go_sem ↓] theorem ev_tmp (F : Fr) (t : Nat) : evC F (.tmp t) = F t := (rfl)
@[go_sem ↓] theorem ev_func (F : Fr) (f : Nat) : evC F (.func f) = .c (.fn f [] []) := (rfl)
@[go_sem ↓] theorem ev_int (F : Fr) (k : IntKind) (n : Int) : evC F (.const (.int k n)) = .c (.int k n) := (rfl)
@[go_sem ↓] theorem ev_bool (F : Fr) (b : Bool) : evC F (.const (.bool b)) = .c (.bool b) := (rfl)
@[go_sem ↓] theorem ev_str (F : Fr) (s : ByteArray) : evC F (.const (.string s)) = .c (.str s) := (rfl)
@[go_sem ↓] theorem ev_ptr (F : Fr) : evC F (.const (.pointer none)) = .c (.ptr none) := (rfl)
@[go_sem ↓] theorem ev_sl (F : Fr) : evC F (.const (.slice none 0 0)) = .c (.sl none 0) := (rfl)
@[go_sem ↓] theorem ev_map (F : Fr) : evC F (.const (.map none)) = .c (.map none) := (rfl)
@[go_sem ↓] theorem ev_nilf (F : Fr) : evC F (.const .nilFunc) = .c .nilf := (rfl)
@[go_sem ↓] theorem put_at (F : Fr) (d : Nat) (v : AV) (t : Nat) : Fr.put F (some d) v t = if t = d then v else F t := by
  unfold Fr.put
  by_cases h : t = d
  · subst h; simp
  · have e1 : Nat.beq t d = false := Bool.eq_false_iff.2 (fun h' => h (Nat.eq_of_beq_eq_true h'))
    simp [h, e1]
@[go_sem ↓] theorem put_none (F : Fr) (v : AV) : Fr.put F none v = F := (rfl)
@[go_sem ↓] theorem f0_nil (t : Nat) : F0 [] t = .tup [] := by simp [F0]
@[go_sem ↓] theorem f0_zero (v : AV) (vs : List AV) : F0 (v :: vs) 0 = v := by simp [F0]
@[go_sem ↓] theorem f0_succ (v : AV) (vs : List AV) (t : Nat) : F0 (v :: vs) (t + 1) = F0 vs t := by simp [F0]
@[go_sem] theorem get_new (H L : Hp) (j : Nat) : (H ++ L)[H.length + j]? = L[j]? := by
  rw [List.getElem?_append_right (by omega)]; congr 1; omega
@[go_sem] theorem get_new0 (H L : Hp) : (H ++ L)[H.length]? = L[0]? := by
  rw [List.getElem?_append_right (by omega)]; congr 1; omega
@[go_sem] theorem set_new (H L : Hp) (j : Nat) (o : AObj) : (H ++ L).set (H.length + j) o = H ++ L.set j o := by
  rw [List.set_append_right _ _ (by omega)]; congr 2; omega
@[go_sem] theorem set_new0 (H L : Hp) (o : AObj) : (H ++ L).set H.length o = H ++ L.set 0 o := by
  rw [List.set_append_right _ _ (by omega)]; congr 2; omega
attribute [go_sem] List.append_assoc List.cons_append List.nil_append List.length_append List.length_cons List.length_nil List.getElem?_cons_zero List.getElem?_cons_succ List.getElem?_nil List.set_cons_zero List.set_cons_succ
attribute [go_sem] List.map_cons List.map_nil List.take_succ_cons List.take_zero List.drop_succ_cons List.drop_zero List.take_nil List.drop_nil List.all_cons List.all_nil
attribute [go_sem] Option.bind_some Option.map_some Option.map_none Option.isSome_some Nat.zero_add Nat.add_zero List.append_nil
attribute [go_sem] if_true if_false and_true true_and ne_eq not_false_eq_true reduceCtorEq forall_const Bool.true_and Bool.and_true Bool.false_or Bool.or_false
attribute [go_sem ↓] reduceIte
attribute [go_sem] Nat.reduceEqDiff Nat.reduceAdd Nat.reduceMul Nat.reduceSub Nat.reduceLeDiff Nat.reduceLT Nat.reduceShiftRight Nat.reduceAnd Int.reduceToNat Int.reduceLT Int.reduceLE Int.reduceEq Int.reduceNe Int.reduceBEq Int.reduceBNe Int.reduceAdd Int.reduceSub Int.reduceMul Int.reduceNeg
attribute [go_sem] decide_true decide_false Nat.lt_irrefl Int.add_sub_cancel Int.sub_add_cancel Int.ofNat_lt Int.ofNat_le Int.natCast_inj Int.sub_zero Int.add_zero Int.zero_add
theorem get_old {H : Hp} {i : Nat} {o : AObj} (h : H[i]? = some o) (L : Hp) : (H ++ L)[i]? = some o := by
  rw [List.getElem?_append_left (getElem?_lt h)]; exact h
/-! ### what holds by reckoning with what is known -/
@[go_sem] theorem get_left (H L : Hp) (i : Nat) (h : i < H.length) : (H ++ L)[i]? = H[i]? := List.getElem?_append_left h
@[go_sem] theorem get_right (H L : Hp) (i : Nat) (h : H.length ≤ i) : (H ++ L)[i]? = L[i - H.length]? := List.getElem?_append_right h
@[go_sem] theorem set_right (H L : Hp) (i : Nat) (o : AObj) (h : H.length ≤ i) : (H ++ L).set i o = H ++ L.set (i - H.length) o := List.set_append_right _ _ h
attribute [go_sem] Nat.add_sub_cancel_left Nat.sub_self
@[go_sem] theorem set_left (H L : Hp) (i : Nat) (o : AObj) (h : i < H.length) : (H ++ L).set i o = H.set i o ++ L := List.set_append_left _ _ h
@[go_sem] theorem get_set_same {α : Type} (H : List α) (i : Nat) (o : α) (h : i < H.length) : (H.set i o)[i]? = some o := List.getElem?_set_self h
@[go_sem] theorem get_set_other {α : Type} (H : List α) (i j : Nat) (o : α) (h : i ≠ j) : (H.set i o)[j]? = H[j]? := List.getElem?_set_ne h
attribute [go_sem] List.length_set List.set_set
@[go_sem] theorem aif_pos {c : Prop} (v : AV) (H : Hp) (J : AV → Hp → Prop) (h : c) : aIf c v H J = J v H := by simp [aIf, h]
@[go_sem] theorem wrap_pos (n : Int) (h : -9223372036854775808 ≤ n ∧ n ≤ 9223372036854775807) : IntKind.i64.wrap n = n := by rw [IntKind.wrap_i64]; omega
theorem div_bd (a b : Int) (h : 0 ≤ a) : -a ≤ a / b ∧ a / b ≤ a := by
  rcases Int.lt_trichotomy b 0 with hb | hb | hb
  · have h1 := Int.ediv_le_self (-b) h
    have h2 : a / b = -(a / -b) := by rw [Int.ediv_neg]; omega
    have h3 : 0 ≤ a / -b := Int.ediv_nonneg h (by omega)
    have h4 : a / -b ≤ a := Int.ediv_le_self _ h
    omega
  · subst hb; simp; omega
  · have h3 : 0 ≤ a / b := Int.ediv_nonneg h (by omega)
    have h4 : a / b ≤ a := Int.ediv_le_self _ h
    omega
@[go_sem] theorem wrap_div (a b : Int) (h : 0 ≤ a ∧ a ≤ 9223372036854775807) : IntKind.i64.wrap (a / b) = a / b := by
  have := div_bd a b h.1
  rw [IntKind.wrap_i64]; omega
@[go_sem] theorem tdiv_pos (a b : Int) (h : 0 ≤ a) : a.tdiv b = a / b := Int.tdiv_eq_ediv_of_nonneg h
@[go_sem] theorem tmod_pos (a b : Int) (h : 0 ≤ a) : a.tmod b = a % b := Int.tmod_eq_emod_of_nonneg h
@[go_sem] theorem dec_pos {p : Prop} [Decidable p] (h : p) : decide p = true := decide_eq_true h
@[go_sem] theorem dec_neg {p : Prop} [Decidable p] (h : ¬p) : decide p = false := decide_eq_false h
@[go_sem] theorem take_all {α : Type} (l : List α) (n : Nat) (h : l.length ≤ n) : l.take n = l := List.take_of_length_le h
@[go_sem low] theorem lst_at {α : Type} (l : List α) (k : Nat) (h : k < l.length) : l[k]? = some l[k] := List.getElem?_eq_getElem h
attribute [go_sem] List.getElem?_map List.length_map
@[go_sem ↓] theorem only_at (F : Fr) (kl : List Tmp) (l : List (Tmp × AV)) (t : Nat) : F.only kl l t = lookD l t (keepD F kl t) := (rfl)
@[go_sem ↓] theorem look_nil (t : Nat) (d : AV) : lookD [] t d = d := (rfl)
@[go_sem ↓] theorem look_cons (x : Nat) (v : AV) (l : List (Tmp × AV)) (t : Nat) (d : AV) : lookD ((x, v) :: l) t d = if t = x then v else lookD l t d := by
  simp only [lookD]
  by_cases h : t = x
  · subst h; simp
  · have e1 : Nat.beq t x = false := Bool.eq_false_iff.2 (fun h' => h (Nat.eq_of_beq_eq_true h'))
    simp [h, e1]
@[go_sem ↓] theorem keep_nil (F : Fr) (t : Nat) : keepD F [] t = .any := (rfl)
@[go_sem ↓] theorem keep_cons (F : Fr) (x : Nat) (l : List Tmp) (t : Nat) : keepD F (x :: l) t = if t = x then F x else keepD F l t := by
  simp only [keepD]
  by_cases h : t = x
  · subst h; simp
  · have e1 : Nat.beq t x = false := Bool.eq_false_iff.2 (fun h' => h (Nat.eq_of_beq_eq_true h'))
    simp [h, e1]
section
variable {σ : Type} (inv : σ → Prop) (vals : σ → List (Tmp × AV)) (hp : σ → Hp) (m : Nat) (Q : AExit → Fr → Hp → Prop) (F : Fr) (H : Hp)
@[go_sem ↓] theorem qn_n : QN inv vals hp m Q .normal F H = Next inv vals hp m F H := (rfl)
@[go_sem ↓] theorem qn_e (id : Nat) : QN inv vals hp m Q (.exit id) F H = Q (.exit id) F H := (rfl)
@[go_sem ↓] theorem qn_r : QN inv vals hp m Q .ret F H = Q .ret F H := (rfl)
@[congr] theorem next_congr {H' : Hp} (h : H = H') : Next inv vals hp m F H = Next inv vals hp m F H' := by rw [h]
end
/-- the values at hand, and those that are told -/
def curV (F : Fr) (l : List (Tmp × AV)) : List AV := l.map fun p => F p.1
def newV (l : List (Tmp × AV)) : List AV := l.map (·.2)
@[go_sem ↓] theorem curV_nil (F : Fr) : curV F [] = [] := (rfl)
@[go_sem ↓] theorem curV_cons (F : Fr) (t : Tmp) (v : AV) (l : List (Tmp × AV)) : curV F ((t, v) :: l) = F t :: curV F l := (rfl)
@[go_sem ↓] theorem newV_nil : newV [] = [] := (rfl)
@[go_sem ↓] theorem newV_cons (t : Tmp) (v : AV) (l : List (Tmp × AV)) : newV ((t, v) :: l) = v :: newV l := (rfl)
@[congr] theorem curV_congr {F : Fr} {l l' : List (Tmp × AV)} (h : l = l') : curV F l = curV F l' := by rw [h]
theorem Next.mk {σ : Type} {inv : σ → Prop} {vals : σ → List (Tmp × AV)} {hp : σ → Hp} {m : Nat} {F : Fr} {H : Hp} (s : σ) (hi : inv s) (h : WkL m (curV F (vals s)) H (newV (vals s)) (hp s)) : Next inv vals hp m F H := ⟨s, hi, h⟩
section
variable {P : Program} {n N : Nat} {L : List Tmp} {c : Code} {Q : AExit → Fr → Hp → Prop} {F : Fr} {H : Hp}
/-- a statement, and what comes behind it is judged on its own -/
def QS (P : Program) (n N : Nat) (L : List Tmp) (y : Code) (Q : AExit → Fr → Hp → Prop) : AExit → Fr → Hp → Prop := fun e F H => match e with | .normal => SWp P n N L y Q F H | e => Q e F H
@[go_sem ↓] theorem qs_n (y : Code) : QS P n N L y Q .normal F H = SWp P n N L y Q F H := (rfl)
@[go_sem ↓] theorem qs_e (y : Code) (id : Nat) : QS P n N L y Q (.exit id) F H = Q (.exit id) F H := (rfl)
@[go_sem ↓] theorem qs_r (y : Code) : QS P n N L y Q .ret F H = Q .ret F H := (rfl)
@[congr] theorem swp_congr {H' : Hp} (h : H = H') : SWp P n N L c Q F H = SWp P n N L c Q F H' := by rw [h]
theorem SWp.go {x y : Code} (hc : codeOk N x = true) (h : AWp P n N L x (QS P n N L y Q) F H) : SWp P n N L (.seq x y) Q F H := SWp.seq (SWp.of hc h)
theorem SWp.inB {id : Nat} (h : SWp P n N L c (QBlock id Q) F H) : SWp P n N L (.block id c) Q F H := SWp.block h
theorem AWp.loop {σ : Type} (m : Nat) (kl ks : List Tmp) (inv : σ → Prop) (vals : σ → List (Tmp × AV)) (hp : σ → Hp) (μ : σ → Nat) (hc : codeOk N c = true) (hks : ∀ s, (vals s).map (·.1) = ks) (hl : listsOk c L kl ks = true) (hnm : n ≤ m) (hmH : m ≤ H.length)
    (hkl : ∀ t ∈ kl, (F t).ok m) (h0 : Next inv vals hp m F H)
    (h : ∀ s, inv s → m ≤ (hp s).length → HOk (hp s) → AWp P m N kl c (QN (fun s' => inv s' ∧ μ s' < μ s) vals hp m Q) (F.only kl (vals s)) (hp s)) : AWp P n N L (.loop c) Q F H :=
  SWp.loop m kl ks inv vals hp μ hks hl hnm hmH hkl h0 fun s h1 h2 h3 => SWp.of hc (h s h1 h2 h3)
/-- rounds that count up to n0 -/
theorem AWp.upto (m : Nat) (kl ks : List Tmp) (n0 : Nat) (vals : Nat → List (Tmp × AV)) (hp : Nat → Hp) (hc : codeOk N c = true) (hks : ∀ s, (vals s).map (·.1) = ks) (hl : listsOk c L kl ks = true) (hnm : n ≤ m) (hmH : m ≤ H.length)
    (hkl : ∀ t ∈ kl, (F t).ok m) (h0 : Next (· = 0) vals hp m F H)
    (h : ∀ k, k ≤ n0 → m ≤ (hp k).length → HOk (hp k) → AWp P m N kl c (QN (fun k' => k' = k + 1 ∧ k < n0) vals hp m Q) (F.only kl (vals k)) (hp k)) : AWp P n N L (.loop c) Q F H := by
  refine AWp.loop m kl ks (· ≤ n0) vals hp (fun k => n0 - k) hc hks hl hnm hmH hkl ?_ (fun k hk h1 h2 => awp_mono ?_ (h k hk h1 h2))
  · obtain ⟨s, rfl, h1⟩ := h0; exact ⟨0, Nat.zero_le _, h1⟩
  · intro e F' H' he
    cases e with
    | normal => obtain ⟨s, ⟨rfl, h3⟩, h4⟩ := he; exact ⟨k + 1, ⟨h3, by omega⟩, h4⟩
    | _ => exact he
end
end Go.Proofs.YtkmkkjlfnobciaaGreatDoor
