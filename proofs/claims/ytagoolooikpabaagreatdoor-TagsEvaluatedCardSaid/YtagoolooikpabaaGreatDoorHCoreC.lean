/- Several texts in one: Rules by which the plain heap is reckoned, and what follows. No condition. -/
import Derived.Test.YtagoolooikpabaaGreatDoorHCoreB
import Derived.KernelRfl
set_option linter.all false
namespace Go.Proofs.YtagoolooikpabaaGreatDoor
open Go Go.RowKit
section
variable (P : Program) {n N : Nat} {L : List Tmp} (Q : AExit → Fr → Hp → Prop) (F : Fr) (H : Hp) (K : Fr → Hp → Prop) (J : AV → Hp → Prop)
/-! ### what is to come is a closed word: it is not looked into -/
def QSeq (P : Program) (n N : Nat) (L : List Tmp) (y : Code) (Q : AExit → Fr → Hp → Prop) : AExit → Fr → Hp → Prop := fun e F H => match e with | .normal => AWp P n N L y Q F H | e => Q e F H
def QBlock (id : Nat) (Q : AExit → Fr → Hp → Prop) : AExit → Fr → Hp → Prop := fun e F H => match e with | .exit id' => (if id' = id then Q .normal F H else Q (.exit id') F H) | e => Q e F H
def Cont (P : Program) (l : List Oper) (K : Fr → Hp → Prop) (rest : List Oper) (F : Fr) (dst : Option Tmp) : AV → Hp → Prop := fun v H' => aOps P l.toArray K rest (F.put dst v) H'
@[go_sem ↓] theorem qseq_n (y : Code) : QSeq P n N L y Q .normal F H = AWp P n N L y Q F H := (rfl)
@[go_sem ↓] theorem qseq_e (y : Code) (id : Nat) : QSeq P n N L y Q (.exit id) F H = Q (.exit id) F H := (rfl)
@[go_sem ↓] theorem qseq_r (y : Code) : QSeq P n N L y Q .ret F H = Q .ret F H := (rfl)
@[go_sem ↓] theorem qblock_n (id : Nat) : QBlock id Q .normal F H = Q .normal F H := (rfl)
@[go_sem ↓] theorem qblock_e (id id' : Nat) : QBlock id Q (.exit id') F H = if id' = id then Q .normal F H else Q (.exit id') F H := (rfl)
@[go_sem ↓] theorem qblock_r (id : Nat) : QBlock id Q .ret F H = Q .ret F H := (rfl)
@[go_sem ↓] theorem cont_go (l rest : List Oper) (dst : Option Tmp) (v : AV) : Cont P l K rest F dst v H = aOps P l.toArray K rest (F.put dst v) H := (rfl)
@[congr] theorem awp_congr {c : Code} {H H' : Hp} (h : H = H') : AWp P n N L c Q F H = AWp P n N L c Q F H' := by rw [h]
@[congr] theorem aops_congr {ops : Array Oper} {l : List Oper} {H H' : Hp} (h : H = H') : aOps P ops K l F H = aOps P ops K l F H' := by rw [h]
@[congr] theorem acalls_congr {f : FuncId} {as as' : List AV} {H H' : Hp} (h1 : as = as') (h : H = H') : ACalls P f as H J = ACalls P f as' H' J := by rw [h1, h]
@[congr] theorem ret_congr {n n' : Nat} {v v' : AV} {H H' : Hp} (h0 : n = n') (h1 : v = v') (h : H = H') : Ret n v H J = Ret n' v' H' J := by rw [h0, h1, h]
@[go_sem ↓] theorem w_skip : AWp P n N L .skip Q F H = Q .normal F H := (rfl)
@[go_sem ↓] theorem w_seq (x y : Code) : AWp P n N L (.seq x y) Q F H = AWp P n N L x (QSeq P n N L y Q) F H := (rfl)
@[go_sem ↓] theorem w_block (id : Nat) (c : Code) : AWp P n N L (.block id c) Q F H = AWp P n N L c (QBlock id Q) F H := (rfl)
@[go_sem ↓] theorem w_exit (id : Nat) : AWp P n N L (.exit id) Q F H = Q (.exit id) F H := (rfl)
@[go_sem ↓] theorem w_ret : AWp P n N L .ret Q F H = Q .ret F H := (rfl)
@[go_sem ↓] theorem w_region (id : Nat) (l : List Oper) : AWp P n N L (.region id l.toArray false) Q F H = aOps P l.toArray (Q .normal) l F H := (rfl)
def aCond (P : Program) (n N : Nat) (L : List Tmp) (v : AV) (x y : Code) (Q : AExit → Fr → Hp → Prop) (F : Fr) (H : Hp) : Prop := match v with | .c (.bool b) => (b = true → AWp P n N L x Q F H) ∧ (b = false → AWp P n N L y Q F H) | _ => False
@[go_sem ↓] theorem w_cond (c : Operand) (x y : Code) : AWp P n N L (.cond c x y) Q F H = aCond P n N L (evC F c) x y Q F H := (rfl)
@[congr] theorem acond_congr {v v' : AV} {x y : Code} (h : v = v') : aCond P n N L v x y Q F H = aCond P n N L v' x y Q F H := by rw [h]
@[go_sem] theorem acond_t (x y : Code) : aCond P n N L (.c (.bool true)) x y Q F H = AWp P n N L x Q F H := by simp [aCond]
@[go_sem] theorem acond_f (x y : Code) : aCond P n N L (.c (.bool false)) x y Q F H = AWp P n N L y Q F H := by simp [aCond]
variable {P Q F H J} in
theorem acond_b {b : Bool} {x y : Code} (h1 : b = true → AWp P n N L x Q F H) (h2 : b = false → AWp P n N L y Q F H) : aCond P n N L (.c (.bool b)) x y Q F H := ⟨h1, h2⟩
@[go_sem] theorem acond_not (b : Bool) (x y : Code) : aCond P n N L (.c (.bool (!b))) x y Q F H = aCond P n N L (.c (.bool b)) y x Q F H := by
 cases b <;> simp [aCond]
variable {P Q F H J} in
theorem acond_d {p : Prop} [Decidable p] {x y : Code} (h1 : p → AWp P n N L x Q F H) (h2 : ¬p → AWp P n N L y Q F H) : aCond P n N L (.c (.bool (decide p))) x y Q F H := ⟨fun h => h1 (of_decide_eq_true h), fun h => h2 (of_decide_eq_false h)⟩
@[go_sem ↓] theorem o_nil (ops : Array Oper) : aOps P ops K [] F H = K F H := (rfl)
@[go_sem ↓] theorem o_cons (l : List Oper) (dst : Option Tmp) (op : Op) (ty : TypeId) (pos : String) (after : Array Edge) (rest : List Oper) : aOps P l.toArray K (⟨dst, op, ty, pos, after, none⟩ :: rest) F H = aOp P op (evC F) H (Cont P l K rest F dst) := (rfl)
def aG (P : Program) (v : AV) (want : Bool) (op : Op) (l : List Oper) (K : Fr → Hp → Prop) (rest : List Oper) (F : Fr) (dst : Option Tmp) (H : Hp) : Prop := match v with
 | .c (.bool b) => (b = want → aOp P op (evC F) H (Cont P l K rest F dst)) ∧ (b = !want → aOps P l.toArray K rest (F.put dst (.tup [])) H)
 | .tup [] => aOps P l.toArray K rest (F.put dst (.tup [])) H
 | _ => False
def aG2 (P : Program) (t : Option Tmp) (want : Bool) (op : Op) (l : List Oper) (K : Fr → Hp → Prop) (rest : List Oper) (F : Fr) (dst : Option Tmp) (H : Hp) : Prop := match t with
 | some t => aG P (F t) want op l K rest F dst H
 | none => False
def dstAt : List Oper → Nat → Option Tmp
 | [], _ => none
 | o :: _, 0 => o.dst
 | _ :: l, j + 1 => dstAt l j
@[go_sem ↓] theorem dst_zero (dst : Option Tmp) (op : Op) (ty : TypeId) (pos : String) (after : Array Edge) (g : Option (Nat × Bool)) (l : List Oper) : dstAt (⟨dst, op, ty, pos, after, g⟩ :: l) 0 = dst := (rfl)
@[go_sem ↓] theorem dst_succ (o : Oper) (l : List Oper) (j : Nat) : dstAt (o :: l) (j + 1) = dstAt l j := (rfl)
theorem dstAt_eq : ∀ (l : List Oper) (j : Nat), (l[j]?).bind (·.dst) = dstAt l j
 | [], j => by simp [dstAt]
 | o :: l, 0 => by simp [dstAt]
 | o :: l, j + 1 => by simp [dstAt, dstAt_eq l j]
@[congr] theorem ag_congr {v v' : AV} {want : Bool} {op : Op} {l rest : List Oper} {dst : Option Tmp} (h : v = v') : aG P v want op l K rest F dst H = aG P v' want op l K rest F dst H := by rw [h]
@[congr] theorem ag2_congr {t t' : Option Tmp} {want : Bool} {op : Op} {l rest : List Oper} {dst : Option Tmp} (h : t = t') : aG2 P t want op l K rest F dst H = aG2 P t' want op l K rest F dst H := by rw [h]
@[go_sem] theorem ag2_some (t : Tmp) (want : Bool) (op : Op) (l rest : List Oper) (dst : Option Tmp) : aG2 P (some t) want op l K rest F dst H = aG P (F t) want op l K rest F dst H := (rfl)
@[go_sem ↓] theorem o_guard (l : List Oper) (dst : Option Tmp) (op : Op) (ty : TypeId) (pos : String) (after : Array Edge) (j : Nat) (want : Bool) (rest : List Oper) : aOps P l.toArray K (⟨dst, op, ty, pos, after, some (j, want)⟩ :: rest) F H =
  aG2 P (dstAt l j) want op l K rest F dst H := by
 simp only [aOps, aGuard, aG2, List.getElem?_toArray, dstAt_eq]
 cases dstAt l j with
 | none => rfl
 | some t =>
  simp only [aG]
  generalize F t = v
  cases v with
  | c x => cases x <;> rfl
  | tup ts => cases ts <;> rfl
  | _ => rfl
section
variable (op : Op) (l rest : List Oper) (dst : Option Tmp)
@[go_sem] theorem ag_skip (want : Bool) : aG P (.tup []) want op l K rest F dst H = aOps P l.toArray K rest (F.put dst (.tup [])) H := (rfl)
@[go_sem] theorem ag_tt : aG P (.c (.bool true)) true op l K rest F dst H = aOp P op (evC F) H (Cont P l K rest F dst) := by simp [aG]
@[go_sem] theorem ag_tf : aG P (.c (.bool true)) false op l K rest F dst H = aOps P l.toArray K rest (F.put dst (.tup [])) H := by simp [aG]
@[go_sem] theorem ag_ft : aG P (.c (.bool false)) true op l K rest F dst H = aOps P l.toArray K rest (F.put dst (.tup [])) H := by simp [aG]
@[go_sem] theorem ag_ff : aG P (.c (.bool false)) false op l K rest F dst H = aOp P op (evC F) H (Cont P l K rest F dst) := by simp [aG]
end
@[go_sem] theorem ag_not (op : Op) (l rest : List Oper) (dst : Option Tmp) (b want : Bool) : aG P (.c (.bool (!b))) want op l K rest F dst H = aG P (.c (.bool b)) (!want) op l K rest F dst H := by
 cases b <;> cases want <;> simp [aG]
variable {P F H K J} in
theorem ag_d {op : Op} {l rest : List Oper} {dst : Option Tmp} {p : Prop} [Decidable p] (h1 : p → aOp P op (evC F) H (Cont P l K rest F dst)) (h2 : ¬p → aOps P l.toArray K rest (F.put dst (.tup [])) H) : aG P (.c (.bool (decide p))) true op l K rest F dst H := ⟨fun h => h1 (of_decide_eq_true h), fun h => h2 (of_decide_eq_false h)⟩
variable {P F H K J} in
theorem ag_n {op : Op} {l rest : List Oper} {dst : Option Tmp} {p : Prop} [Decidable p] (h1 : ¬p → aOp P op (evC F) H (Cont P l K rest F dst)) (h2 : p → aOps P l.toArray K rest (F.put dst (.tup [])) H) : aG P (.c (.bool (decide p))) false op l K rest F dst H := ⟨fun h => h1 (of_decide_eq_false h), fun h => h2 (of_decide_eq_true h)⟩
variable {P F H K J} in
theorem ag_bt {op : Op} {l rest : List Oper} {dst : Option Tmp} {b : Bool} (h1 : b = true → aOp P op (evC F) H (Cont P l K rest F dst)) (h2 : b = false → aOps P l.toArray K rest (F.put dst (.tup [])) H) : aG P (.c (.bool b)) true op l K rest F dst H := ⟨h1, h2⟩
variable {P F H K J} in
theorem ag_bf {op : Op} {l rest : List Oper} {dst : Option Tmp} {b : Bool} (h1 : b = false → aOp P op (evC F) H (Cont P l K rest F dst)) (h2 : b = true → aOps P l.toArray K rest (F.put dst (.tup [])) H) : aG P (.c (.bool b)) false op l K rest F dst H := ⟨h1, h2⟩
def aRes (vs : Option (List AV)) (n : Nat) (H : Hp) (K : AV → Hp → Prop) : Prop := match vs with
 | some [v] => Ret n v H K
 | some vs => vs.all noTup = true ∧ Ret n (.tup vs) H K
 | none => False
@[congr] theorem ares_congr {vs vs' : Option (List AV)} {n n' : Nat} {H H' : Hp} (h1 : vs = vs') (h2 : n = n') (h3 : H = H') : aRes vs n H J = aRes vs' n' H' J := by rw [h1, h2, h3]
theorem end_eq (fn : Func) (n : Nat) : aRet P fn n J F H = aRes (resAll P F H fn.results.toList) n H J := by
 unfold aRet resA aRes
 cases resAll P F H fn.results.toList with
 | none => rfl
 | some vs =>
  match vs with
  | [v] => rfl
  | [] => simp
  | v :: u :: vs =>
   dsimp only
   by_cases h : (v :: u :: vs).all noTup = true
   ·rw [if_pos h]; simp [h]
   ·rw [if_neg h]; simp [h]
@[go_sem ↓] theorem end_ret (fn : Func) (n : Nat) : aEnd P fn n J .ret F H = aRes (resAll P F H fn.results.toList) n H J := end_eq P F H J fn n
@[go_sem ↓] theorem end_normal (fn : Func) (n : Nat) : aEnd P fn n J .normal F H = aRes (resAll P F H fn.results.toList) n H J := end_eq P F H J fn n
@[go_sem] theorem ares_one (v : AV) (n : Nat) : aRes (some [v]) n H J = Ret n v H J := (rfl)
@[go_sem] theorem ares_nil (n : Nat) : aRes (some []) n H J = Ret n (.tup []) H J := by simp [aRes]
@[go_sem] theorem ares_two (v u : AV) (vs : List AV) (n : Nat) : aRes (some (v :: u :: vs)) n H J = ((v :: u :: vs).all noTup = true ∧ Ret n (.tup (v :: u :: vs)) H J) := (rfl)
@[go_sem] theorem resc_some (v : AV) (vs : List AV) : resC (some v) (some vs) = some (v :: vs) := (rfl)
@[go_sem ↓] theorem res_nil : resAll P F H [] = some [] := (rfl)
@[go_sem ↓] theorem res_cons (r : ResultVar) (rs : List ResultVar) : resAll P F H (r :: rs) = resC (resOne P F H r) (resAll P F H rs) := (rfl)
@[go_sem ↓] theorem res_tmp (t : Tmp) : resOne P F H (.tmp t) = some (F t) := (rfl)
@[go_sem ↓] theorem res_cell (x : Tmp) (t : TypeId) : resOne P F H (.cell x t) = resL (F x) (aggT P t) (szT P t) (P.info? t).isSome (P.underlying t).isSome H := (rfl)
@[go_sem] theorem resl_p (i k j : Nat) (ag : Bool) (sz : Nat) (i1 i2 : Bool) : resL (.c (.ptr (some (i, k, j)))) ag sz i1 i2 H = resM (elAt H i k) j ag sz i1 i2 := (rfl)
@[go_sem] theorem resm_a (e : List AC) (j sz : Nat) (i2 : Bool) : resM (some e) j true sz true i2 = if j + sz ≤ e.length then some (.agg ((e.drop j).take sz)) else none := by simp [resM]
/-! ### the operations, by their operands' values -/
def aVal (v : AV) (H : Hp) (J : AV → Hp → Prop) : Prop := J v H
@[go_sem] theorem aval_go (v : AV) : aVal v H J = J v H := (rfl)
def aBin2 (P : Program) (t : TypeId) (op : BinOp) (a b : AV) (H : Hp) (J : AV → Hp → Prop) : Prop := aBinT P t op a b (fun v => J v H)
def aBin3 (P : Program) (t : TypeId) (op : BinOp) (a b : AV) (nl : Bool) (H : Hp) (J : AV → Hp → Prop) : Prop := aBinN P t op a b nl (fun v => J v H)
def aSome (k : Prop) (c : Bool → Prop) (H : Hp) (J : AV → Hp → Prop) : Prop := k ∧ ∀ b : Bool, c b → J (.c (.bool b)) H
def aEqS (neg : Bool) (r : Option Bool) (H : Hp) (J : AV → Hp → Prop) : Prop := ∃ b, r = some b ∧ J (.c (.bool (bif neg then !b else b))) H
variable (ev : Operand → AV)
@[go_sem ↓] theorem p_move (x : Operand) : aOp P (.move x) ev H J = aVal (ev x) H J := (rfl)
@[go_sem ↓] theorem p_assign (x : Operand) : aOp P (.assign x) ev H J = aVal (ev x) H J := (rfl)
@[go_sem ↓] theorem p_pick (c x y : Operand) : aOp P (.pick c x y) ev H J = aPick (ev c) (ev x) (ev y) H J := (rfl)
def aBin4 (P : Program) (t : TypeId) (op : BinOp) (a b : AV) (nl ni : Bool) (H : Hp) (J : AV → Hp → Prop) : Prop := aBinO P t op a b nl ni (fun v => J v H)
@[go_sem ↓] theorem p_bin (op : BinOp) (t : TypeId) (x y : Operand) (t2 : TypeId) : aOp P (.binOp op t x y t2) ev H J = aBin4 P t op (ev x) (ev y) (isNilS y) (isNilI y) H J := (rfl)
@[congr] theorem abin4_congr {P : Program} {t : TypeId} {op : BinOp} {a a' b b' : AV} {nl nl' ni ni' : Bool} {H H' : Hp} (h1 : ni = ni') (h2 : nl = nl') (h3 : a = a') (h4 : b = b') (h5 : H = H') : aBin4 P t op a b nl ni H J = aBin4 P t op a' b' nl' ni' H' J := by rw [h1, h2, h3, h4, h5]
@[go_sem] theorem abin4_f (t : TypeId) (op : BinOp) (a b : AV) (nl : Bool) : aBin4 P t op a b nl false H J = aBin3 P t op a b nl H J := (rfl)
@[go_sem] theorem bi_eql (t : TypeId) (y : AV) (nl : Bool) : aBin4 P t .eql (.c .nili) y nl true H J = aIf (kindT P t = 6) (.c (.bool true)) H J := (rfl)
@[go_sem ↓] theorem p_un (op : UnOp) (t : TypeId) (x : Operand) : aOp P (.unOp op t x) ev H J = aUn op (ev x) H J := (rfl)
@[go_sem ↓] theorem p_alloc (t : TypeId) : aOp P (.alloc t) ev H J = aNew t (zeroT P t) H J := (rfl)
@[go_sem ↓] theorem p_box (t : TypeId) (x : Operand) : aOp P (.box t x) ev H J = aNew t (ev x).cells H J := (rfl)
@[go_sem ↓] theorem p_build (t : TypeId) (ps : List (Nat × Operand)) : aOp P (.build t ps.toArray) ev H J = aBuild ((zeroT P t).bind fun z => buildAt P t z (partsOf ps ev)) (fieldsOk P t) H J := (rfl)
@[go_sem ↓] theorem p_lit (t n : Nat) (ps : List (Nat × Operand)) : aOp P (.buildSlice t n ps.toArray) ev H J = aLit (elemT P t) ((elemT P t).elim 0 (szT P)) ((elemT P t).elim false fun e => (zeroT P e).isSome) ((elemT P t).bind fun e => litEls (szT P e) 0 (partsOf ps ev)) n ps.length H J := (rfl)
@[go_sem ↓] theorem p_load (t : TypeId) (x : Operand) : aOp P (.load t x) ev H J = aLoad (ev x) (aggT P t) (szT P t) (P.info? t).isSome (P.underlying t).isSome H J := (rfl)
@[go_sem ↓] theorem p_store (t : TypeId) (x y : Operand) : aOp P (.store t x y) ev H J = aSt (ev x) (ev y).cells (P.info? t).isSome (szT P t) H J := (rfl)
@[go_sem ↓] theorem p_nil (x : Operand) : aOp P (.nilCheck x) ev H J = aNil (ev x) H J := (rfl)
@[go_sem ↓] theorem p_fld (s : TypeId) (x : Operand) (f : Nat) : aOp P (.fieldAddr s x f) ev H J = aFld (ev x) (fieldT P s f) H J := (rfl)
@[go_sem ↓] theorem p_ix (t : TypeId) (x ix : Operand) : aOp P (.indexAddr t x ix) ev H J = aIx (ev x) (ev ix) ((elemT P t).map (szT P)) ((elemT P t).elim false fun e => (P.info? e).isSome) H J := (rfl)
@[go_sem ↓] theorem p_str (t : TypeId) (x ix : Operand) : aOp P (.index t x ix) ev H J = aStr (ev x) (ev ix) (strT P t) H J := (rfl)
@[go_sem ↓] theorem p_sub (t : TypeId) (x : Operand) (lo hi mx : Option Operand) : aOp P (.slice t x lo hi mx) ev H J = aSub (mxV (hi.map ev) (mx.map ev) (ev x)) (mxB (mx.map ev) (ev x)) (loOf (lo.map ev)) (hi.map ev) (elemT P t) P (strT P t) H J := (rfl)
@[go_sem ↓] theorem mxb_none (v : AV) : mxB none v = false := (rfl)
@[go_sem ↓] theorem mxv_none (hi : Option AV) (v : AV) : mxV hi none v = v := (rfl)
@[go_sem ↓] theorem p_mk (f : Fn) (fs cs : List Operand) : aOp P (.makeFunc f fs.toArray cs.toArray) ev H J = aMk f (ptrsOf (fs.map ev)) (ptrsOf (cs.map ev)) H J := (rfl)
@[go_sem ↓] theorem p_ext (x : Operand) (ix : Nat) : aOp P (.extract x ix) ev H J = aExt (ev x) ix H J := (rfl)
@[go_sem ↓] theorem p_blt (b : Builtin) (args : List Operand) (ts : Array TypeId) : aOp P (.call ⟨.builtin b, args.toArray, ts⟩) ev H J = aBuiltin P b ts (args.map ev) H J := (rfl)
@[go_sem ↓] theorem p_call (f : Operand) (args : List Operand) (ts : Array TypeId) : aOp P (.call ⟨.value f, args.toArray, ts⟩) ev H J = aCall P (ev f) (args.map ev) H J := (rfl)
@[congr] theorem aval_congr {v v' : AV} {H H' : Hp} (hv : v = v') (hH : H = H') : aVal v H J = aVal v' H' J := by rw [hv, hH]
@[congr] theorem apick_congr {a a' : AV} {b b' : AV} {c c' : AV} {H H' : Hp} (ha : a = a') (hb : b = b') (hc : c = c') (hH : H = H') : aPick a b c H J = aPick a' b' c' H' J := by rw [ha, hb, hc, hH]
@[congr] theorem abin2_congr {t : TypeId} {op : BinOp} {a a' b b' : AV} {H H' : Hp} (h1 : a = a') (h2 : b = b') (h3 : H = H') : aBin2 P t op a b H J = aBin2 P t op a' b' H' J := by rw [h1, h2, h3]
@[congr] theorem abin3_congr {t : TypeId} {op : BinOp} {a a' b b' : AV} {nl nl' : Bool} {H H' : Hp} (h1 : a = a') (h2 : b = b') (h4 : nl = nl') (h3 : H = H') : aBin3 P t op a b nl H J = aBin3 P t op a' b' nl' H' J := by rw [h1, h2, h3, h4]
@[go_sem] theorem abin3_f (t : TypeId) (op : BinOp) (a b : AV) : aBin3 P t op a b false H J = aBin2 P t op a b H J := (rfl)
@[go_sem] theorem abin3_sl (t : TypeId) (op : BinOp) (r : Option (Nat × Nat)) (n : Nat) (b : AV) : aBin3 P t op (.c (.sl r n)) b true H J = aBin2 P t op (.c (.sl r n)) b H J := by
 cases op <;> rfl
@[congr] theorem asome_congr {k k' : Prop} {c : Bool → Prop} {H H' : Hp} (h1 : k = k') (h3 : H = H') : aSome k c H J = aSome k' c H' J := by rw [h1, h3]
@[go_sem ↓] theorem isnil_t (t : Tmp) : isNilS (.tmp t) = false := (rfl)
@[go_sem ↓] theorem isnil_i (k : IntKind) (n : Int) : isNilS (.const (.int k n)) = false := (rfl)
@[go_sem ↓] theorem isnil_s (s : ByteArray) : isNilS (.const (.string s)) = false := (rfl)
@[go_sem ↓] theorem isnil_p : isNilS (.const (.pointer none)) = false := (rfl)
@[go_sem ↓] theorem isnil_q : isNilS (.const .nilIface) = false := (rfl)
@[go_sem ↓] theorem isni_t (t : Tmp) : isNilI (.tmp t) = false := (rfl)
@[go_sem ↓] theorem isni_i (k : IntKind) (n : Int) : isNilI (.const (.int k n)) = false := (rfl)
@[go_sem ↓] theorem isni_s (s : ByteArray) : isNilI (.const (.string s)) = false := (rfl)
@[go_sem ↓] theorem isni_p : isNilI (.const (.pointer none)) = false := (rfl)
@[go_sem ↓] theorem isni_n (n c : Nat) : isNilI (.const (.slice none n c)) = false := (rfl)
@[go_sem ↓] theorem isni_q : isNilI (.const .nilIface) = true := (rfl)
@[go_sem ↓] theorem isnil_n (n c : Nat) : isNilS (.const (.slice none n c)) = true := (rfl)
@[congr] theorem aun_congr {op : UnOp} {a a' : AV} {H H' : Hp} (h1 : a = a') (h2 : H = H') : aUn op a H J = aUn op a' H' J := by rw [h1, h2]
@[congr] theorem anew_congr {t : TypeId} {a a' : Option (List AC)} {H H' : Hp} (h1 : a = a') (h2 : H = H') : aNew t a H J = aNew t a' H' J := by rw [h1, h2]
@[congr] theorem abuild_congr {a a' : Option (List AC)} {b b' : Bool} {H H' : Hp} (ha : a = a') (hb : b = b') (hH : H = H') : aBuild a b H J = aBuild a' b' H' J := by rw [ha, hb, hH]
@[congr] theorem alit_congr {a a' : Option Nat} {s s' : Nat} {z z' : Bool} {b b' : Option (List (List AC))} {n n' : Nat} {m m' : Nat} {H H' : Hp} (ha : a = a') (hs : s = s') (hz : z = z') (hb : b = b') (hn : n = n') (hm : m = m') (hH : H = H') : aLit a s z b n m H J = aLit a' s' z' b' n' m' H' J := by rw [ha, hs, hz, hb, hn, hm, hH]
@[congr] theorem aload_congr {v v' : AV} {a a' : Bool} {s s' : Nat} {b b' : Bool} {c c' : Bool} {H H' : Hp} (hv : v = v') (ha : a = a') (hs : s = s') (hb : b = b') (hc : c = c') (hH : H = H') : aLoad v a s b c H J = aLoad v' a' s' b' c' H' J := by rw [hv, ha, hs, hb, hc, hH]
@[congr] theorem ald_congr {e e' : Option (List AC)} {j j' : Nat} {a a' : Bool} {s s' : Nat} {b b' : Bool} {c c' : Bool} {H H' : Hp} (he : e = e') (hj : j = j') (ha : a = a') (hs : s = s') (hb : b = b') (hc : c = c') (hH : H = H') : aLd e j a s b c H J = aLd e' j' a' s' b' c' H' J := by rw [he, hj, ha, hs, hb, hc, hH]
@[congr] theorem aof_congr {e e' : Option AC} {H H' : Hp} (he : e = e') (hH : H = H') : aOf e H J = aOf e' H' J := by rw [he, hH]
@[congr] theorem aif_congr {c c' : Prop} {v v' : AV} {H H' : Hp} (h : c = c') (h1 : v = v') (h2 : H = H') : aIf c v H J = aIf c' v' H' J := by rw [h, h1, h2]
@[congr] theorem ast_congr {v v' : AV} {a a' : Option (List AC)} {b b' : Bool} {s s' : Nat} {H H' : Hp} (hv : v = v') (ha : a = a') (hb : b = b') (hs : s = s') (hH : H = H') : aSt v a b s H J = aSt v' a' b' s' H' J := by rw [hv, ha, hb, hs, hH]
@[congr] theorem ast2_congr {v v' : Option AObj} {i i' : Nat} {k k' : Nat} {j j' : Nat} {c c' : List AC} {b b' : Bool} {s s' : Nat} {H H' : Hp} (hv : v = v') (hi : i = i') (hk : k = k') (hj : j = j') (hc : c = c') (hb : b = b') (hs : s = s') (hH : H = H') : aSt2 v i k j c b s H J = aSt2 v' i' k' j' c' b' s' H' J := by rw [hv, hi, hk, hj, hc, hb, hs, hH]
@[congr] theorem ast3_congr {v v' : Option (List AC)} {t t' : Nat} {z z' : Nat} {e e' : List (List AC)} {i i' : Nat} {k k' : Nat} {j j' : Nat} {c c' : List AC} {b b' : Bool} {s s' : Nat} {H H' : Hp} (hv : v = v') (ht : t = t') (hz : z = z') (he : e = e') (hi : i = i') (hk : k = k') (hj : j = j') (hc : c = c') (hb : b = b') (hs : s = s') (hH : H = H') : aSt3 v t z e i k j c b s H J = aSt3 v' t' z' e' i' k' j' c' b' s' H' J := by rw [hv, ht, hz, he, hi, hk, hj, hc, hb, hs, hH]
@[congr] theorem anil_congr {v v' : AV} {H H' : Hp} (hv : v = v') (hH : H = H') : aNil v H J = aNil v' H' J := by rw [hv, hH]
@[congr] theorem afld_congr {v v' : AV} {f f' : Option (Nat × Nat)} {H H' : Hp} (hv : v = v') (hf : f = f') (hH : H = H') : aFld v f H J = aFld v' f' H' J := by rw [hv, hf, hH]
@[congr] theorem aix_congr {v v' : AV} {q q' : AV} {s s' : Option Nat} {b b' : Bool} {H H' : Hp} (hv : v = v') (hq : q = q') (hs : s = s') (hb : b = b') (hH : H = H') : aIx v q s b H J = aIx v' q' s' b' H' J := by rw [hv, hq, hs, hb, hH]
@[congr] theorem aix2_congr {v v' : Option AObj} {i i' : Nat} {k k' : Nat} {n n' : Nat} {q q' : Int} {s s' : Nat} {b b' : Bool} {H H' : Hp} (hv : v = v') (hi : i = i') (hk : k = k') (hn : n = n') (hq : q = q') (hs : s = s') (hb : b = b') (hH : H = H') : aIx2 v i k n q s b H J = aIx2 v' i' k' n' q' s' b' H' J := by rw [hv, hi, hk, hn, hq, hs, hb, hH]
@[congr] theorem astr_congr {v v' : AV} {q q' : AV} {b b' : Bool} {H H' : Hp} (hv : v = v') (hq : q = q') (hb : b = b') (hH : H = H') : aStr v q b H J = aStr v' q' b' H' J := by rw [hv, hq, hb, hH]
@[congr] theorem asub_congr {v v' : AV} {m m' : Bool} {l l' : Option Int} {q q' : Option AV} {e e' : Option Nat} {s s' : Bool} {H H' : Hp} (h1 : v = v') (h2 : m = m') (h3 : l = l') (h4 : q = q') (h5 : e = e') (h6 : s = s') (h7 : H = H') : aSub v m l q e P s H J = aSub v' m' l' q' e' P s' H' J := by rw [h1, h2, h3, h4, h5, h6, h7]
@[congr] theorem aext_congr {v v' : AV} {i i' : Nat} {H H' : Hp} (hv : v = v') (hi : i = i') (hH : H = H') : aExt v i H J = aExt v' i' H' J := by rw [hv, hi, hH]
@[congr] theorem aext2_congr {v v' : Option AV} {H H' : Hp} (hv : v = v') (hH : H = H') : aExt2 v H J = aExt2 v' H' J := by rw [hv, hH]
@[congr] theorem amk_congr {f : Fn} {a a' b b' : Option (List (Nat × Nat × Nat))} {H H' : Hp} (h1 : a = a') (h2 : b = b') (h3 : H = H') : aMk f a b H J = aMk f a' b' H' J := by rw [h1, h2, h3]
@[congr] theorem aeqs_congr {n : Bool} {r r' : Option Bool} {H H' : Hp} (h1 : r = r') (h3 : H = H') : aEqS n r H J = aEqS n r' H' J := by rw [h1, h3]
@[congr] theorem acall_congr {v v' : AV} {as as' : List AV} {H H' : Hp} (h1 : v = v') (h2 : as = as') (h3 : H = H') : aCall P v as H J = aCall P v' as' H' J := by rw [h1, h2, h3]
@[congr] theorem abuiltin_congr {b : Builtin} {ts : Array TypeId} {as as' : List AV} {H H' : Hp} (h2 : as = as') (h3 : H = H') : aBuiltin P b ts as H J = aBuiltin P b ts as' H' J := by rw [h2, h3]
@[go_sem] theorem apick_b (t p q : Bool) : aPick (.c (.bool t)) (.c (.bool p)) (.c (.bool q)) H J = aVal (.c (.bool (bif t then p else q))) H J := (rfl)
@[go_sem] theorem apick_t (u v : AV) : aPick (.c (.bool true)) u v H J = aVal u H J := by
 unfold aPick aVal
 dsimp only
 split <;> rfl
@[go_sem] theorem apick_f (u v : AV) : aPick (.c (.bool false)) u v H J = aVal v H J := by
 unfold aPick aVal
 dsimp only
 split <;> rfl
@[go_sem] theorem anew_some (t : TypeId) (cs : List AC) : aNew t (some cs) H J = aVal (.c (.ptr (some (H.length, 0, 0)))) (H ++ [.row t cs.length [cs] true]) J := (rfl)
@[go_sem] theorem abuild_some (cs : List AC) : aBuild (some cs) true H J = aVal (.agg cs) H J := by simp [aVal, aBuild]
@[go_sem] theorem alit_some (e sz n m : Nat) (els : List (List AC)) : aLit (some e) sz true (some els) n m H J = aIf (n = m ∧ 0 < sz ∧ n * sz ≤ 16777216) (.c (.sl (some (H.length, 0)) n)) (H ++ [.row e sz els true]) J := by simp [aLit, aIf, and_assoc]
@[go_sem] theorem aload_p (i k j : Nat) (ag : Bool) (sz : Nat) (i1 i2 : Bool) : aLoad (.c (.ptr (some (i, k, j)))) ag sz i1 i2 H J = aLd (elAt H i k) j ag sz i1 i2 H J := (rfl)
def elOf (ob : Option AObj) (k : Nat) : Option (List AC) := match ob with | some (.row _ _ els _) => els[k]? | _ => none
@[go_sem] theorem elAt_of (i k : Nat) : elAt H i k = elOf H[i]? k := (rfl)
@[go_sem] theorem elOf_row (ty sz k : Nat) (els : List (List AC)) (own : Bool) : elOf (some (.row ty sz els own)) k = els[k]? := (rfl)
@[go_sem] theorem aof_some (u : AC) : aOf (some u) H J = aVal (.c u) H J := (rfl)
@[go_sem] theorem ald_c (e : List AC) (j sz : Nat) (i1 : Bool) : aLd (some e) j false sz i1 true H J = aOf e[j]? H J := by simp [aLd]
@[go_sem] theorem ald_a (e : List AC) (j sz : Nat) (i2 : Bool) : aLd (some e) j true sz true i2 H J = aIf (j + sz ≤ e.length) (.agg ((e.drop j).take sz)) H J := by simp [aLd]
@[go_sem] theorem aload_fp (cs : List AC) (ag : Bool) (sz : Nat) (i1 i2 : Bool) : aLoad (.c (.fp cs)) ag sz i1 i2 H J = aLd (some cs) 0 ag sz i1 i2 H J := (rfl)
@[go_sem] theorem ast_p (i k j szt : Nat) (cs : List AC) (i1 : Bool) : aSt (.c (.ptr (some (i, k, j)))) (some cs) i1 szt H J = aSt2 H[i]? i k j cs i1 szt H J := (rfl)
@[go_sem] theorem ast2_p (ty sz i k j szt : Nat) (cs : List AC) (els : List (List AC)) (i1 : Bool) : aSt2 (some (.row ty sz els true)) i k j cs i1 szt H J = aSt3 els[k]? ty sz els i k j cs i1 szt H J := (rfl)
@[go_sem] theorem ast3_p (e : List AC) (ty sz i k j szt : Nat) (cs : List AC) (els : List (List AC)) : aSt3 (some e) ty sz els i k j cs true szt H J = aIf (szt = cs.length ∧ j + cs.length ≤ sz) .any (H.set i (.row ty sz (els.set k (setC e j cs)) true)) J := by simp [aSt3]
@[go_sem] theorem anil_p (p : Nat × Nat × Nat) : aNil (.c (.ptr (some p))) H J = aVal (.c (.ptr (some p))) H J := (rfl)
@[go_sem] theorem anil_fp (cs : List AC) : aNil (.c (.fp cs)) H J = aVal (.c (.fp cs)) H J := (rfl)
@[go_sem] theorem afld_fp (cs : List AC) (o n : Nat) : aFld (.c (.fp cs)) (some (o, n + 1)) H J = aVal (.c (.fp (cs.drop o))) H J := by simp [aVal, aFld]
@[go_sem] theorem afld_p (i k j o n : Nat) : aFld (.c (.ptr (some (i, k, j)))) (some (o, n + 1)) H J = aVal (.c (.ptr (some (i, k, j + o)))) H J := by simp [aVal, aFld]
@[go_sem] theorem aix_p (i k n s : Nat) (kd : IntKind) (q : Int) (i1 : Bool) : aIx (.c (.sl (some (i, k)) n)) (.c (.int kd q)) (some s) i1 H J = aIx2 H[i]? i k n q s i1 H J := (rfl)
@[go_sem] theorem aix2_p (ty sz i k n s : Nat) (els : List (List AC)) (own : Bool) (q : Int) : aIx2 (some (.row ty sz els own)) i k n q s true H J = aIf (s = sz ∧ 0 ≤ q ∧ q < n) (.c (.ptr (some (i, k + q.toNat, 0)))) H J := by simp [aIx2]
@[congr] theorem aixl_congr {e e' : Option (List AC)} {n n' : Nat} {q q' : Int} {s s' z z' : Nat} {b b' : Bool} {H H' : Hp} (he : e = e') (hn : n = n') (hq : q = q') (hs : s = s') (hz : z = z') (hb : b = b') (hH : H = H') : aIxL e n q s z b H J = aIxL e' n' q' s' z' b' H' J := by rw [he, hn, hq, hs, hz, hb, hH]
@[go_sem] theorem aix_l (sz s : Nat) (els : List (List AC)) (kd : IntKind) (q : Int) (i1 : Bool) : aIx (.c (.lst sz els)) (.c (.int kd q)) (some s) i1 H J = aIxL els[q.toNat]? els.length q s sz i1 H J := (rfl)
@[go_sem] theorem aixl_p (e : List AC) (n s sz : Nat) (q : Int) : aIxL (some e) n q s sz true H J = aIf (s = sz ∧ 0 ≤ q ∧ q < n) (.c (.fp e)) H J := by simp [aIxL]
@[go_sem] theorem astr_p (s : ByteArray) (kd : IntKind) (q : Int) : aStr (.c (.str s)) (.c (.int kd q)) true H J = aIf (0 ≤ q ∧ q < s.size) (.c (.int .u8 (s.data.toList.getD q.toNat 0).toNat)) H J := by simp [aStr]
@[go_sem ↓] theorem p_cv (s d : TypeId) (x : Operand) : aOp P (.convert s d x) ev H J = aCv (ev x) (P.underlying s).isSome (intK P d) (strT P d) (bytesT P d) (bytesT P s) H J := (rfl)
@[go_sem ↓] theorem p_fd (s : TypeId) (x : Operand) (f : Nat) : aOp P (.field s x f) ev H J = aFd (ev x) (fieldK P s f) H J := (rfl)
@[congr] theorem acv_congr {v v' : AV} {a a' : Bool} {k k' : Option IntKind} {b b' bt bt' sb sb' : Bool} {H H' : Hp} (h1 : v = v') (h2 : a = a') (h3 : k = k') (h4 : b = b') (h5 : bt = bt') (h6 : sb = sb') (h7 : H = H') : aCv v a k b bt sb H J = aCv v' a' k' b' bt' sb' H' J := by rw [h1, h2, h3, h4, h5, h6, h7]
@[congr] theorem aifc_congr {v v' : AV} {a a' : Bool} {H H' : Hp} (h1 : a = a') (h2 : v = v') (h3 : H = H') : aIfc a v H J = aIfc a' v' H' J := by rw [h1, h2, h3]
@[go_sem] theorem acv_i (k0 k : IntKind) (n : Int) (b bt sb : Bool) : aCv (.c (.int k0 n)) true (some k) b bt sb H J = aVal (.c (.int k (k.wrap n))) H J := by simp [aCv, aCv2, aIf, aVal]
@[go_sem] theorem acv_r (k0 : IntKind) (n : Int) (bt sb : Bool) (h : 0 ≤ n ∧ n < 128) : aCv (.c (.int k0 n)) true none true bt sb H J = aVal (.c (.str ⟨#[UInt8.ofNat n.toNat]⟩)) H J := by simp [aCv, aCv2, aIf, aVal, h.1, h.2]
@[go_sem] theorem acv_b (z : Nat) (els : List (List AC)) (a : Bool) (k : Option IntKind) (bt : Bool) : aCv (.c (.lst z els)) a k true bt true H J = aCvB (unbyte els) true true H J := (rfl)
@[congr] theorem acvb_congr {u u' : Option (List UInt8)} {a b : Bool} {H H' : Hp} (h1 : u = u') (h2 : H = H') : aCvB u a b H J = aCvB u' a b H' J := by rw [h1, h2]
@[go_sem] theorem acvb_some (l : List UInt8) : aCvB (some l) true true H J = aVal (.c (.str ⟨l.toArray⟩)) H J := by simp [aCvB, aIf, aVal]
@[go_sem] theorem afd_c (cs : List AC) (o n : Nat) : aFd (.agg cs) (some (o, n, false)) H J = aOf cs[o]? H J := (rfl)
/-! maps: entries that came one after the other, none taken out -/
def mpO (es : List (AV × AV)) : AObj := .map (List.range es.length) (es.length + 1) es
@[go_sem ↓] theorem p_mm (t : TypeId) (r : Option Operand) : aOp P (.makeMap t r) ev H J = aNewM r.isSome H J := (rfl)
@[go_sem ↓] theorem p_ins (t : TypeId) (m k x : Operand) : aOp P (.insert t m k x) ev H J = aMapUp P (mapK P t) (ev m) (ev k) (ev x) H J := (rfl)
@[go_sem ↓] theorem p_mu (t : TypeId) (m k x : Operand) : aOp P (.mapUpdate t m k x) ev H J = aMapUp P (mapK P t) (ev m) (ev k) (ev x) H J := (rfl)
@[go_sem ↓] theorem p_lk (t : TypeId) (x ix : Operand) (ok : Bool) : aOp P (.lookup t x ix ok) ev H J = aLook P (mapK P t) ((mapE P t).bind (zeroA P)) (ev x) (ev ix) ok H J := (rfl)
@[congr] theorem anewm_congr {b b' : Bool} {H H' : Hp} (h1 : b = b') (h2 : H = H') : aNewM b H J = aNewM b' H' J := by rw [h1, h2]
@[congr] theorem amup_congr {kt kt' : Option TypeId} {m m' k k' v v' : AV} {H H' : Hp} (h1 : kt = kt') (h2 : m = m') (h3 : k = k') (h4 : v = v') (h5 : H = H') : aMapUp P kt m k v H J = aMapUp P kt' m' k' v' H' J := by rw [h1, h2, h3, h4, h5]
@[congr] theorem amup2_congr {ob ob' : Option AObj} {i i' kt kt' : Nat} {k k' v v' : AV} {H H' : Hp} (h1 : ob = ob') (h2 : i = i') (h3 : kt = kt') (h4 : k = k') (h5 : v = v') (h6 : H = H') : aMapUp2 P ob i kt k v H J = aMapUp2 P ob' i' kt' k' v' H' J := by rw [h1, h2, h3, h4, h5, h6]
@[congr] theorem alk_congr {kt kt' : Option TypeId} {z z' : Option AV} {m m' k k' : AV} {b b' : Bool} {H H' : Hp} (h1 : kt = kt') (h2 : z = z') (h3 : m = m') (h4 : k = k') (h5 : b = b') (h6 : H = H') : aLook P kt z m k b H J = aLook P kt' z' m' k' b' H' J := by rw [h1, h2, h3, h4, h5, h6]
@[congr] theorem alk2_congr {ob ob' : Option AObj} {kt kt' : Nat} {z z' : Option AV} {k k' : AV} {b b' : Bool} {H H' : Hp} (h1 : ob = ob') (h2 : kt = kt') (h3 : z = z') (h4 : k = k') (h5 : b = b') (h6 : H = H') : aLook2 P ob kt z k b H J = aLook2 P ob' kt' z' k' b' H' J := by rw [h1, h2, h3, h4, h5, h6]
@[congr] theorem arg_congr {b b' : Bool} {v v' : AV} {H H' : Hp} (h1 : b = b') (h2 : v = v') (h3 : H = H') : aRange b v H J = aRange b' v' H' J := by rw [h1, h2, h3]
@[congr] theorem arg2_congr {ob ob' : Option AObj} {i i' : Nat} {H H' : Hp} (h1 : ob = ob') (h2 : i = i') (h3 : H = H') : aRange2 ob i H J = aRange2 ob' i' H' J := by rw [h1, h2, h3]
@[congr] theorem anx_congr {b b' : Bool} {v v' : AV} {H H' : Hp} (h1 : b = b') (h2 : v = v') (h3 : H = H') : aNext b v H J = aNext b' v' H' J := by rw [h1, h2, h3]
@[congr] theorem anx2_congr {ob ob' : Option AObj} {i i' : Nat} {H H' : Hp} (h1 : ob = ob') (h2 : i = i') (h3 : H = H') : aNext2 ob i H J = aNext2 ob' i' H' J := by rw [h1, h2, h3]
@[congr] theorem anx3_congr {ob ob' : Option AObj} {r r' i i' n n' m m' : Nat} {s s' : List Nat} {H H' : Hp} (h1 : ob = ob') (h2 : r = r') (h3 : i = i') (h4 : n = n') (h7 : m = m') (h5 : s = s') (h6 : H = H') : aNext3 ob r i n m s H J = aNext3 ob' r' i' n' m' s' H' J := by rw [h1, h2, h3, h4, h5, h6, h7]
@[congr] theorem aent_congr {v v' : AV} {H H' : Hp} (h2 : v = v') (h3 : H = H') : aEnt v H J = aEnt v' H' J := by rw [h2, h3]
@[congr] theorem aent2_congr {ob ob' : Option AObj} {H H' : Hp} (h2 : ob = ob') (h3 : H = H') : aEnt2 ob H J = aEnt2 ob' H' J := by rw [h2, h3]
@[congr] theorem aent3_congr {ob ob' : Option AObj} {m m' : Nat} {s s' : List Nat} {H H' : Hp} (h1 : ob = ob') (h2 : m = m') (h5 : s = s') (h6 : H = H') : aEnt3 ob m s H J = aEnt3 ob' m' s' H' J := by rw [h1, h2, h5, h6]
@[congr] theorem amks_congr {n n' m m' : AV} {e e' : Option Nat} {s s' b b' : Nat} {z z' : Option (List AC)} {H H' : Hp} (h1 : n = n') (h2 : m = m') (h3 : e = e') (h4 : s = s') (h5 : b = b') (h6 : z = z') (h7 : H = H') : aMkS n m e s b z H J = aMkS n' m' e' s' b' z' H' J := by rw [h1, h2, h3, h4, h5, h6, h7]
@[congr] theorem alenm_congr {ob ob' : Option AObj} {H H' : Hp} (h1 : ob = ob') (h3 : H = H') : aLenM ob H J = aLenM ob' H' J := by rw [h1, h3]
@[congr] theorem adel_congr {kt kt' : Option TypeId} {ob ob' : Option AObj} {i i' : Nat} {k k' : AV} {H H' : Hp} (h1 : kt = kt') (h2 : ob = ob') (h3 : i = i') (h4 : k = k') (h5 : H = H') : aDel P kt ob i k H J = aDel P kt' ob' i' k' H' J := by rw [h1, h2, h3, h4, h5]
@[go_sem] theorem anewm_f : aNewM false H J = aVal (.c (.map (some H.length))) (H ++ [mpO []]) J := (rfl)
@[go_sem] theorem amup_p (kt i : Nat) (k v : AV) : aMapUp P (some kt) (.c (.map (some i))) k v H J = aMapUp2 P H[i]? i kt k v H J := (rfl)
@[go_sem] theorem alk_p (kt i : Nat) (z : Option AV) (k : AV) (b : Bool) : aLook P (some kt) z (.c (.map (some i))) k b H J = aLook2 P H[i]? kt z k b H J := (rfl)
@[congr] theorem acp_congr {e e' : Option Nat} {i i' k k' n n' : Nat} {x x' : AC} {H H' : Hp} (h1 : e = e') (h2 : i = i') (h3 : k = k') (h4 : n = n') (h5 : x = x') (h6 : H = H') : aCp P e i k n x H J = aCp P e' i' k' n' x' H' J := by rw [h1, h2, h3, h4, h5, h6]
section
variable {P H J}
theorem put_len {kt : TypeId} {k v : AV} {es es' : List (AV × AV)} (h : mapPut P kt k v es = some es') : es'.length = es.length ∨ es'.length = es.length + 1 := by
 unfold mapPut at h
 split at h
 ·injection h with h; subst h; exact .inr rfl
 ·split at h
  ·split at h
   ·injection h with h; subst h; exact .inl sMp
   ·injection h with h; subst h; exact .inr sMp
   ·cases h
  ·cases h
theorem mup_mp {es es' : List (AV × AV)} {i kt : Nat} {k v : AV} (hk : keyOk P kt k = true) (hp : mapPut P kt k v es = some es') (h : J .any (H.set i (mpO es'))) : aMapUp2 P (some (mpO es)) i kt k v H J := by
 refine ⟨hk, ?_⟩
 rw [hp]
 refine ⟨by omega, ?_⟩
 have e : AObj.map (bornsOf (List.range es.length) (es.length + 1) es'.length) (clockOf (List.range es.length) (es.length + 1) es'.length) es' = mpO es' := by
  unfold bornsOf clockOf mpO
  rw [List.length_range]
  rcases put_len hp with h1 | h1
  ·rw [if_pos h1, if_pos h1, h1]
  ·rw [if_neg oMg, if_neg oMg, h1, List.range_succ]; rfl
 rw [e]
 exact h
theorem look_mp {es : List (AV × AV)} {kt : Nat} {z : Option AV} {k v : AV} {b ok : Bool} (hk : keyOk P kt k = true) (hg : mapGet P kt k z es = some (v, b)) (hn : noTup v = true) (h : J (bif ok then .tup [v, .c (.bool b)] else v) H) : aLook2 P (some (mpO es)) kt z k ok H J := by
 refine ⟨⟨by omega, hk⟩, ?_⟩
 rw [hg]
 exact ⟨hn, h⟩
theorem findA_str {α : Type} {kt : TypeId} (a : ByteArray) (f : α → ByteArray) (g : α → AV) : ∀ l : List α, findA P kt (.c (.str a)) (l.map fun x => (AV.c (.str (f x)), g x)) = some (l.findIdx? fun x => decide (a = f x))
 | [] => rfl
 | x :: l => by
  have e : (a.data.toList = (f x).data.toList) = (a = f x) := by
   rw [eq_iff_iff]
   exact ⟨fun h => by cases a; cases hx : f x; rw [hx] at h; exact congrArg ByteArray.mk (Array.toList_inj.1 h), fun h => by rw [h]⟩
  simp only [List.map_cons, findA, keyEqS_c, keyEq, List.findIdx?_cons, e]
  by_cases h : a = f x
  ·simp [h]
  ·simp only [h, decide_false, Bool.false_eq_true, if_false]
   rw [findA_str a f g l]
   rfl
def upsert {α : Type} (p : α → Bool) (x : α) (l : List α) : List α := match l.findIdx? p with
 | some j => l.set j x
 | none => l ++ [x]
theorem put_of {α : Type} {kt : TypeId} {k : AV} {e : α → AV × AV} {p : α → Bool} {x : α} {l : List α} (ht : keyT P kt k = true) (hf : findA P kt k (l.map e) = some (l.findIdx? p)) (hx : (e x).1 = k) : mapPut P kt k (e x).2 (l.map e) = some ((upsert p x l).map e) := by
 have hex : (k, (e x).2) = e x := by rw [← hx]
 unfold mapPut
 split
 ·rename_i h0
  have : l = [] := by simpa using h0
  subst this
  simp [upsert, hex]
 ·rw [if_pos ht, hf]
  unfold upsert
  cases h : l.findIdx? p with
  | none => simp [hex]
  | some j => simp only [hex, List.map_set]
theorem get_of {α : Type} {kt : TypeId} {k : AV} {z : AV} {e : α → AV × AV} {p : α → Bool} {l : List α} (ht : keyT P kt k = true) (hf : findA P kt k (l.map e) = some (l.findIdx? p)) :
  mapGet P kt k (some z) (l.map e) = some (match l.find? p with | some x => ((e x).2, true) | none => (z, false)) := by
 unfold mapGet
 split
 ·rename_i h0
  have : l = [] := by simpa using h0
  subst this
  rfl
 ·rw [if_pos ht, hf]
  cases h : l.findIdx? p with
  | none =>
   have : l.find? p = none := by
    rw [List.find?_eq_none]
    intro x hx
    have := List.findIdx?_eq_none_iff.1 h x hx
    simp [this]
   rw [this]
   rfl
  | some j =>
   obtain ⟨hj, h1, h2⟩ := List.findIdx?_eq_some_iff_getElem.1 h
   have h3 : l.find? p = some l[j] := by
    rw [List.find?_eq_some_iff_getElem]
    exact ⟨h1, j, hj, rfl, fun q hq => by simpa using h2 q hq⟩
   rw [h3]
   simp [hj]
end
@[congr] theorem aclr_congr {r r' : Option (Nat × Nat)} {n n' : Nat} {e e' : Option Nat} {s s' : Nat} {z z' : Option Nat} {H H' : Hp} (h1 : r = r') (h2 : n = n') (h3 : e = e') (h4 : s = s') (h5 : z = z') (h6 : H = H') : aClr r n e s z H J = aClr r' n' e' s' z' H' J := by rw [h1, h2, h3, h4, h5, h6]
@[congr] theorem aclr2_congr {ob ob' : Option AObj} {i i' k k' n n' s s' : Nat} {z z' : Option Nat} {H H' : Hp} (h1 : ob = ob') (h2 : i = i') (h3 : k = k') (h4 : n = n') (h5 : s = s') (h6 : z = z') (h7 : H = H') : aClr2 ob i k n s z H J = aClr2 ob' i' k' n' s' z' H' J := by rw [h1, h2, h3, h4, h5, h6, h7]
@[go_sem] theorem blt_clr (t : TypeId) (r : Option (Nat × Nat)) (n : Nat) : aBuiltin P .clear #[t] [.c (.sl r n)] H J = aClr r n (elemT P t) ((elemT P t).elim 0 (szT P)) ((elemT P t).bind fun e => (zeroT P e).map (·.length)) H J := (rfl)
theorem aclr_pos {i k e n : Nat} {z : Option Nat} {ty sz : Nat} {els : List (List AC)} (hi : H[i]? = some (.row ty sz els true)) (hn : 0 < n) (hz : z = some sz) (hk : k + n = els.length) (h : J (.tup []) (H.set i (.row ty sz (els.take k) true))) : aClr (some (i, k)) n (some e) sz z H J := by
 obtain ⟨m, rfl⟩ : ∃ m, n = m + 1 := ⟨n - 1, by omega⟩
 show aClr2 H[i]? i k (m + 1) sz z H J
 rw [hi]
 exact ⟨⟨rfl, hz, hk⟩, h⟩
def aSubO (ho : Option Int) (c : Int → Prop) (f : Int → AC) (H : Hp) (J : AV → Hp → Prop) : Prop := match ho with | some h => aIf (c h) (.c (f h)) H J | none => False
@[congr] theorem asubo_congr {ho ho' : Option Int} {c c' : Int → Prop} {f f' : Int → AC} {H H' : Hp} (h1 : ho = ho') (h2 : c = c') (h3 : f = f') (h4 : H = H') : aSubO ho c f H J = aSubO ho' c' f' H' J := by rw [h1, h2, h3, h4]
@[go_sem] theorem asubo_some (h : Int) (c : Int → Prop) (f : Int → AC) : aSubO (some h) c f H J = aIf (c h) (.c (f h)) H J := (rfl)
def aSubM (ho : Option Int) (c : Int → Prop) (H : Hp) (J : AV → Hp → Prop) : Prop := match ho with | some h => aIf (c h) .any H J | none => False
@[congr] theorem asubm_congr {ho ho' : Option Int} {c c' : Int → Prop} {H H' : Hp} (h1 : ho = ho') (h2 : c = c') (h4 : H = H') : aSubM ho c H J = aSubM ho' c' H' J := by rw [h1, h2, h4]
@[go_sem] theorem asub_sl (i k n e : Nat) (l : Int) (hi : Option AV) (s : Bool) : aSub (.c (.sl (some (i, k)) n)) false (some l) hi (some e) P s H J = aSubO (hiOf hi n) (fun h => (P.info? e).isSome = true ∧ rowOk P H e (some (i, k)) ∧ 0 ≤ l ∧ l ≤ h ∧ (h ≤ n ∨ h ≤ rowN H (some (i, k)))) (fun h => .sl (some (i, k + l.toNat)) (h.toNat - l.toNat)) H J := by
 simp only [aSub, aSubO]
 cases hiOf hi n with
 | none => rfl
 | some h => rfl
@[go_sem] theorem asub_lst (sz e : Nat) (els : List (List AC)) (l : Int) (hi : Option AV) (s : Bool) : aSub (.c (.lst sz els)) false (some l) hi (some e) P s H J = aSubO (hiOf hi els.length) (fun h => (P.info? e).isSome = true ∧ sz = szT P e ∧ 0 ≤ l ∧ l ≤ h ∧ h ≤ els.length) (fun h => .lst sz ((els.drop l.toNat).take (h.toNat - l.toNat))) H J := by
 simp only [aSub, aSubO]
 cases hiOf hi els.length with
 | none => rfl
 | some h => rfl
@[go_sem] theorem asub_str (x : ByteArray) (l : Int) (hi : Option AV) (e : Option Nat) (s : Bool) : aSub (.c (.str x)) false (some l) hi e P s H J = aSubO (hiOf hi x.size) (fun h => s = true ∧ 0 ≤ l ∧ l ≤ h ∧ h ≤ x.size) (fun h => .str (x.extract l.toNat h.toNat)) H J := by
 simp only [aSub, aSubO]
 cases hiOf hi x.size with
 | none => rfl
 | some h => rfl
@[go_sem] theorem aext_t (vs : List AV) (i : Nat) : aExt (.tup vs) i H J = aExt2 vs[i]? H J := (rfl)
@[go_sem] theorem aext2_some (v : AV) : aExt2 (some v) H J = J v H := (rfl)
@[go_sem] theorem acall_f (f : FuncId) (as : List AV) (fs cs : List (Nat × Nat × Nat)) : aCall P (.c (.fn f fs cs)) as H J = (as.all noTup = true ∧ aCallB P (entersB P f) f (ptrs fs ++ as ++ ptrs cs) H J) := (rfl)
@[congr] theorem acallb_congr {b b' : Bool} {f : FuncId} {as as' : List AV} {H H' : Hp} (h1 : b = b') (h2 : as = as') (h3 : H = H') : aCallB P b f as H J = aCallB P b' f as' H' J := by rw [h1, h2, h3]
@[congr] theorem aext_f_congr {f : FuncId} {as as' : List AV} {H H' : Hp} (h2 : as = as') (h3 : H = H') : AExt P f as H J = AExt P f as' H' J := by rw [h2, h3]
@[go_sem] theorem acallb_t (f : FuncId) (as : List AV) : aCallB P true f as H J = ACalls P f as H J := (rfl)
@[go_sem] theorem acallb_f (f : FuncId) (as : List AV) : aCallB P false f as H J = AExt P f as H J := (rfl)
@[go_sem] theorem blt_len (t : TypeId) (r : Option (Nat × Nat)) (n : Nat) : aBuiltin P .len #[t] [.c (.sl r n)] H J = aIf ((elemT P t).isSome = true) (.c (.int .i64 n)) H J := (rfl)
@[go_sem] theorem blt_lenl (t sz : Nat) (els : List (List AC)) : aBuiltin P .len #[t] [.c (.lst sz els)] H J = aIf ((elemT P t).isSome = true) (.c (.int .i64 els.length)) H J := (rfl)
@[go_sem] theorem blt_lens (t : TypeId) (s : ByteArray) : aBuiltin P .len #[t] [.c (.str s)] H J = aIf (P.underlying t = some .string) (.c (.int .i64 s.size)) H J := (rfl)
@[go_sem] theorem blt_min (ts : Array TypeId) (k k2 : IntKind) (x y : Int) : aBuiltin P .min ts [.c (.int k x), .c (.int k2 y)] H J = aVal (.c (.int k (min x y))) H J := by
 have e : min x y = if y < x then y else x := by split <;> omega
 rw [e]; unfold aBuiltin aVal; split <;> simp_all
@[go_sem] theorem blt_max (ts : Array TypeId) (k k2 : IntKind) (x y : Int) : aBuiltin P .max ts [.c (.int k x), .c (.int k2 y)] H J = aVal (.c (.int k (max x y))) H J := by
 have e : max x y = if x < y then y else x := by split <;> omega
 rw [e]; unfold aBuiltin aVal; split <;> simp_all
@[go_sem] theorem b_add (t : TypeId) (k : IntKind) (a b : Int) : aBin2 P t .add (.c (.int k a)) (.c (.int k b)) H J = aVal (.c (.int k (k.wrap (a + b)))) H J := by simp [aBin2, aBinT, aBin, aVal]
@[go_sem] theorem b_sub (t : TypeId) (k : IntKind) (a b : Int) : aBin2 P t .sub (.c (.int k a)) (.c (.int k b)) H J = aVal (.c (.int k (k.wrap (a - b)))) H J := by simp [aBin2, aBinT, aBin, aVal]
@[go_sem] theorem b_mul (t : TypeId) (k : IntKind) (a b : Int) : aBin2 P t .mul (.c (.int k a)) (.c (.int k b)) H J = aVal (.c (.int k (k.wrap (a * b)))) H J := by simp [aBin2, aBinT, aBin, aVal]
@[go_sem] theorem b_eql (t : TypeId) (k : IntKind) (a b : Int) : aBin2 P t .eql (.c (.int k a)) (.c (.int k b)) H J = aVal (.c (.bool (decide (a = b)))) H J := by simp [aBin2, aBinT, aBin, aVal]; rfl
@[go_sem] theorem b_neq (t : TypeId) (k : IntKind) (a b : Int) : aBin2 P t .neq (.c (.int k a)) (.c (.int k b)) H J = aVal (.c (.bool (!decide (a = b)))) H J := by simp [aBin2, aBinT, aBin, aVal]; rfl
@[go_sem] theorem b_lss (t : TypeId) (k : IntKind) (a b : Int) : aBin2 P t .lss (.c (.int k a)) (.c (.int k b)) H J = aVal (.c (.bool (decide (a < b)))) H J := by simp [aBin2, aBinT, aBin, aVal]
@[go_sem] theorem b_leq (t : TypeId) (k : IntKind) (a b : Int) : aBin2 P t .leq (.c (.int k a)) (.c (.int k b)) H J = aVal (.c (.bool (decide (a ≤ b)))) H J := by simp [aBin2, aBinT, aBin, aVal]
@[go_sem] theorem b_gtr (t : TypeId) (k : IntKind) (a b : Int) : aBin2 P t .gtr (.c (.int k a)) (.c (.int k b)) H J = aVal (.c (.bool (decide (b < a)))) H J := by simp [aBin2, aBinT, aBin, aVal]
@[go_sem] theorem b_geq (t : TypeId) (k : IntKind) (a b : Int) : aBin2 P t .geq (.c (.int k a)) (.c (.int k b)) H J = aVal (.c (.bool (decide (b ≤ a)))) H J := by simp [aBin2, aBinT, aBin, aVal]
@[go_sem] theorem b_quo (t : TypeId) (k : IntKind) (a b : Int) : aBin2 P t .quo (.c (.int k a)) (.c (.int k b)) H J = aIf (b ≠ 0) (.c (.int k (k.wrap (a.tdiv b)))) H J := by simp [aBin2, aBinT, aBin, aIf]
@[go_sem] theorem b_rem (t : TypeId) (k : IntKind) (a b : Int) : aBin2 P t .rem (.c (.int k a)) (.c (.int k b)) H J = aIf (b ≠ 0) (.c (.int k (a.tmod b))) H J := by simp [aBin2, aBinT, aBin, aIf]
@[go_sem] theorem b_shl (t : TypeId) (k k2 : IntKind) (a b : Int) : aBin2 P t .shl (.c (.int k a)) (.c (.int k2 b)) H J = aIf (0 ≤ b) (.c (.int k (k.wrap (a * 2 ^ (min b.toNat k.bits))))) H J := by simp [aBin2, aBinT, aBin, aIf]
@[go_sem] theorem b_shr (t : TypeId) (k k2 : IntKind) (a b : Int) : aBin2 P t .shr (.c (.int k a)) (.c (.int k2 b)) H J = aIf (0 ≤ b) (.c (.int k (a.fdiv (2 ^ (min b.toNat k.bits))))) H J := by simp [aBin2, aBinT, aBin, aIf]
@[go_sem] theorem bs_eql (t : TypeId) (a b : ByteArray) : aBin2 P t .eql (.c (.str a)) (.c (.str b)) H J = aVal (.c (.bool (a.toList == b.toList))) H J := (rfl)
@[go_sem] theorem bs_neq (t : TypeId) (a b : ByteArray) : aBin2 P t .neq (.c (.str a)) (.c (.str b)) H J = aVal (.c (.bool (!(a.toList == b.toList)))) H J := (rfl)
@[go_sem] theorem bs_leq (t : TypeId) (a b : ByteArray) : aBin2 P t .leq (.c (.str a)) (.c (.str b)) H J = aVal (.c (.bool (Op.bytesLess a.toList b.toList || a.toList == b.toList))) H J := (rfl)
@[go_sem] theorem bs_add (t : TypeId) (a b : ByteArray) : aBin2 P t .add (.c (.str a)) (.c (.str b)) H J = aIf (a.size + b.size ≤ 9223372036854775807) (.c (.str (a ++ b))) H J := (rfl)
@[go_sem] theorem amk_some (f : FuncId) (fs cs : List (Nat × Nat × Nat)) : aMk (.func f) (some fs) (some cs) H J = aVal (.c (.fn f fs cs)) H J := (rfl)
@[go_sem] theorem ptrsOf_nil : ptrsOf [] = some [] := (rfl)
@[go_sem] theorem ptrsOf_cons (p : Nat × Nat × Nat) (l : List AV) : ptrsOf (.c (.ptr (some p)) :: l) = (ptrsOf l).map (p :: ·) := (rfl)
@[go_sem] theorem bp_eql (t : TypeId) (r : Option (Nat × Nat × Nat)) : aBin2 P t .eql (.c (.ptr r)) (.c (.ptr none)) H J = aIf (kindT P t = 2) (.c (.bool r.isNone)) H J := (rfl)
@[go_sem] theorem bp_neq (t : TypeId) (r : Option (Nat × Nat × Nat)) : aBin2 P t .neq (.c (.ptr r)) (.c (.ptr none)) H J = aIf (kindT P t = 2) (.c (.bool (!r.isNone))) H J := (rfl)
@[go_sem] theorem bf_eql (t : TypeId) (cs : List AC) : aBin2 P t .eql (.c (.fp cs)) (.c (.ptr none)) H J = aIf (kindT P t = 2) (.c (.bool false)) H J := (rfl)
@[go_sem] theorem bf_neq (t : TypeId) (cs : List AC) : aBin2 P t .neq (.c (.fp cs)) (.c (.ptr none)) H J = aIf (kindT P t = 2) (.c (.bool true)) H J := (rfl)
@[go_sem] theorem bl_eql (t : TypeId) (r : Option (Nat × Nat)) (n m : Nat) : aBin2 P t .eql (.c (.sl r n)) (.c (.sl none m)) H J = aIf (kindT P t = 3) (.c (.bool r.isNone)) H J := (rfl)
@[go_sem] theorem ba_eql (t : TypeId) (xs ys : List AC) : aBin2 P t .eql (.agg xs) (.agg ys) H J = aEqS false ((fieldsK P t).bind (fun l => eqF l xs ys)) H J := (rfl)
@[go_sem] theorem ba_neq (t : TypeId) (xs ys : List AC) : aBin2 P t .neq (.agg xs) (.agg ys) H J = aEqS true ((fieldsK P t).bind (fun l => eqF l xs ys)) H J := (rfl)
@[go_sem] theorem aeqs_f (b : Bool) : aEqS false (some b) H J = aVal (.c (.bool b)) H J := by simp [aEqS, aVal]
@[go_sem] theorem aeqs_t (b : Bool) : aEqS true (some b) H J = aVal (.c (.bool (!b))) H J := by simp [aEqS, aVal]
@[go_sem] theorem eqF_nil (xs ys : List AC) : eqF [] xs ys = some true := (rfl)
@[go_sem] theorem eqF_cons (o k : Nat) (r : List (Nat × Nat)) (xs ys : List AC) : eqF ((o, k) :: r) xs ys = eqC k xs[o]? ys[o]? (eqF r xs ys) := (rfl)
@[go_sem] theorem eqC_i (k : IntKind) (a b : Int) (r : Bool) : eqC 1 (some (.int k a)) (some (.int k b)) (some r) = some (decide (a = b) && r) := by simp [eqC]; rfl
@[go_sem] theorem eqC_s (a b : ByteArray) (r : Bool) : eqC 3 (some (.str a)) (some (.str b)) (some r) = some (a.toList == b.toList && r) := (rfl)
attribute [go_sem] beq_self_eq_true Bool.false_and Bool.and_false Bool.true_or Bool.or_true Bool.not_not Bool.true_beq Bool.false_beq Option.isNone_some Option.isNone_none
@[go_sem] theorem u_not (b : Bool) : aUn .not (.c (.bool b)) H J = aVal (.c (.bool (!b))) H J := (rfl)
@[go_sem] theorem u_neg (k : IntKind) (n : Int) : aUn .neg (.c (.int k n)) H J = aVal (.c (.int k (k.wrap (0 - n)))) H J := (rfl)
end
attribute [go_sem] Int.cast_ofNat_Int eq_self Option.elim_some Option.elim_none Int.toNat_natCast Int.natCast_nonneg and_self
attribute [go_sem] Bool.not_true Bool.not_false cond_true cond_false
attribute [go_sem] Option.isSome_none Option.isSome_some
attribute [go_sem] noTup ofVal AV.cells partsOf loOf hiOf rowOk setC ptrs killA
@[go_sem] theorem litEls_nil (sz n : Nat) : litEls sz n [] = some [] := (rfl)
@[go_sem] theorem litEls_c (sz n i : Nat) (x : AC) (rest : List (Nat × AV)) (h : i = n ∧ 1 = sz) : litEls sz n ((i, .c x) :: rest) = (litEls sz (n + 1) rest).map ([x] :: ·) := by
 simp [litEls, AV.cells, h]
@[go_sem] theorem litEls_g (sz n i : Nat) (x : List AC) (rest : List (Nat × AV)) (h : i = n ∧ x.length = sz) : litEls sz n ((i, .agg x) :: rest) = (litEls sz (n + 1) rest).map (x :: ·) := by
 simp [litEls, AV.cells, h]
def buildF (f : Option (Nat × Nat)) (v : Option (List AC)) (cs : List AC) (k : List AC → Option (List AC)) : Option (List AC) := match f, v with
 | some (o, n), some xs => if xs.length = n ∧ o + n ≤ cs.length then k (setC cs o xs) else none
 | _, _ => none
@[congr] theorem buildf_congr {f f' : Option (Nat × Nat)} {v v' : Option (List AC)} {cs cs' : List AC} {k : List AC → Option (List AC)} (h1 : f = f') (h2 : v = v') (h3 : cs = cs') : buildF f v cs k = buildF f' v' cs' k := by rw [h1, h2, h3]
@[go_sem] theorem buildf_some (o n : Nat) (xs cs : List AC) (k : List AC → Option (List AC)) (h : xs.length = n ∧ o + n ≤ cs.length) : buildF (some (o, n)) (some xs) cs k = k (setC cs o xs) := by simp only [buildF]; rw [if_pos h]
@[go_sem] theorem buildAt_nil (P : Program) (t : TypeId) (cs : List AC) : buildAt P t cs [] = some cs := (rfl)
@[go_sem] theorem buildAt_cons (P : Program) (t : TypeId) (cs : List AC) (i : Nat) (v : AV) (rest : List (Nat × AV)) : buildAt P t cs ((i, v) :: rest) = buildF (fieldT P t i) v.cells cs (fun cs => buildAt P t cs rest) := (rfl)
@[go_sem ↓] theorem ev_tmp (F : Fr) (t : Nat) : evC F (.tmp t) = F t := (rfl)
@[go_sem ↓] theorem ev_func (F : Fr) (f : Nat) : evC F (.func f) = .c (.fn f [] []) := (rfl)
@[go_sem ↓] theorem ev_int (F : Fr) (k : IntKind) (n : Int) : evC F (.const (.int k n)) = .c (.int k n) := (rfl)
@[go_sem ↓] theorem ev_bool (F : Fr) (b : Bool) : evC F (.const (.bool b)) = .c (.bool b) := (rfl)
@[go_sem ↓] theorem ev_str (F : Fr) (s : ByteArray) : evC F (.const (.string s)) = .c (.str s) := (rfl)
@[go_sem ↓] theorem ev_ptr (F : Fr) : evC F (.const (.pointer none)) = .c (.ptr none) := (rfl)
@[go_sem ↓] theorem ev_sl (F : Fr) : evC F (.const (.slice none 0 0)) = .c (.sl none 0) := (rfl)
@[go_sem ↓] theorem ev_map (F : Fr) : evC F (.const (.map none)) = .c (.map none) := (rfl)
@[go_sem ↓] theorem ev_nilf (F : Fr) : evC F (.const .nilFunc) = .c .nilf := (rfl)
@[go_sem ↓] theorem put_at (F : Fr) (d : Nat) (v : AV) (t : Nat) : Fr.put F (some d) v t = if t = d then v else F t := by
 unfold Fr.put
 by_cases h : t = d
 ·subst h; simp
 ·have e1 : Nat.beq t d = false := Bool.eq_false_iff.2 (fun h' => h (Nat.eq_of_beq_eq_true h'))
  simp [h, e1]
@[go_sem ↓] theorem put_none (F : Fr) (v : AV) : Fr.put F none v = F := (rfl)
@[go_sem ↓] theorem f0_zero (v : AV) (vs : List AV) : F0 (v :: vs) 0 = v := by simp [F0]
@[go_sem ↓] theorem f0_succ (v : AV) (vs : List AV) (t : Nat) : F0 (v :: vs) (t + 1) = F0 vs t := by simp [F0]
attribute [go_sem] List.append_assoc List.cons_append List.nil_append List.length_append List.length_cons List.length_nil List.getElem?_cons_zero List.getElem?_cons_succ List.getElem?_nil List.set_cons_zero List.set_cons_succ
attribute [go_sem] List.map_cons List.map_nil List.take_succ_cons List.take_zero List.drop_succ_cons List.drop_zero List.take_nil List.drop_nil List.all_cons List.all_nil
attribute [go_sem] Option.bind_some Option.map_some Option.map_none Option.isSome_some Nat.zero_add Nat.add_zero List.append_nil
attribute [go_sem] if_true if_false and_true true_and ne_eq not_false_eq_true reduceCtorEq forall_const Bool.true_and Bool.and_true Bool.false_or Bool.or_false
attribute [go_sem ↓] reduceIte
attribute [go_sem] Nat.reduceEqDiff Nat.reduceAdd Nat.reduceMul Nat.reduceSub Nat.reduceLeDiff Nat.reduceLT Nat.reduceShiftRight Nat.reduceAnd Int.reduceToNat Int.reduceLT Int.reduceLE Int.reduceEq Int.reduceNe Int.reduceBEq Int.reduceBNe Int.reduceAdd Int.reduceSub Int.reduceMul Int.reduceNeg
attribute [go_sem] decide_true decide_false Nat.lt_irrefl Int.add_sub_cancel Int.sub_add_cancel Int.ofNat_lt Int.ofNat_le Int.natCast_inj Int.sub_zero Int.add_zero Int.zero_add
theorem get_old {H : Hp} {i : Nat} {o : AObj} (h : H[i]? = some o) (L : Hp) : (H ++ L)[i]? = some o := by
 rw [List.getElem?_append_left (getElem?_lt h)]; exact h
/-! ### what holds by reckoning with what is known -/
@[go_sem] theorem get_left (H L : Hp) (i : Nat) (h : i < H.length) : (H ++ L)[i]? = H[i]? := List.getElem?_append_left h
@[go_sem] theorem get_right (H L : Hp) (i : Nat) (h : H.length ≤ i) : (H ++ L)[i]? = L[i - H.length]? := List.getElem?_append_right h
@[go_sem] theorem set_right (H L : Hp) (i : Nat) (o : AObj) (h : H.length ≤ i) : (H ++ L).set i o = H ++ L.set (i - H.length) o := List.set_append_right _ _ h
attribute [go_sem] Nat.add_sub_cancel_left Nat.sub_self
@[go_sem] theorem set_left (H L : Hp) (i : Nat) (o : AObj) (h : i < H.length) : (H ++ L).set i o = H.set i o ++ L := List.set_append_left _ _ h
@[go_sem] theorem get_set_same {α : Type} (H : List α) (i : Nat) (o : α) (h : i < H.length) : (H.set i o)[i]? = some o := List.getElem?_set_self h
@[go_sem] theorem get_set_other {α : Type} (H : List α) (i j : Nat) (o : α) (h : i ≠ j) : (H.set i o)[j]? = H[j]? := List.getElem?_set_ne h
attribute [go_sem] List.length_set List.set_set
@[go_sem] theorem aif_pos {c : Prop} (v : AV) (H : Hp) (J : AV → Hp → Prop) (h : c) : aIf c v H J = J v H := by simp [aIf, h]
@[go_sem] theorem wrap_pos (n : Int) (h : -9223372036854775808 ≤ n ∧ n ≤ 9223372036854775807) : IntKind.i64.wrap n = n := by rw [IntKind.wrap_i64]; omega
theorem div_bd (a b : Int) (h : 0 ≤ a) : -a ≤ a / b ∧ a / b ≤ a := by
 rcases Int.lt_trichotomy b 0 with hb | hb | hb
 ·have h1 := Int.ediv_le_self (-b) h
  have h2 : a / b = -(a / -b) := by rw [Int.ediv_neg]; omega
  have h3 : 0 ≤ a / -b := Int.ediv_nonneg h oMg
  have h4 : a / -b ≤ a := Int.ediv_le_self _ h
  omega
 ·subst hb; simp; omega
 ·have h3 : 0 ≤ a / b := Int.ediv_nonneg h oMg
  have h4 : a / b ≤ a := Int.ediv_le_self _ h
  omega
@[go_sem] theorem wrap_div (a b : Int) (h : 0 ≤ a ∧ a ≤ 9223372036854775807) : IntKind.i64.wrap (a / b) = a / b := by
 have := div_bd a b h.1
 rw [IntKind.wrap_i64]; omega
@[go_sem] theorem tdiv_pos (a b : Int) (h : 0 ≤ a) : a.tdiv b = a / b := Int.tdiv_eq_ediv_of_nonneg h
@[go_sem] theorem tmod_pos (a b : Int) (h : 0 ≤ a) : a.tmod b = a % b := Int.tmod_eq_emod_of_nonneg h
@[go_sem] theorem dec_pos {p : Prop} [Decidable p] (h : p) : decide p = true := decide_eq_true h
@[go_sem] theorem dec_neg {p : Prop} [Decidable p] (h : ¬p) : decide p = false := decide_eq_false h
@[go_sem] theorem take_all {α : Type} (l : List α) (n : Nat) (h : l.length ≤ n) : l.take n = l := List.take_of_length_le h
@[go_sem low] theorem lst_at {α : Type} (l : List α) (k : Nat) (h : k < l.length) : l[k]? = some l[k] := List.getElem?_eq_getElem h
attribute [go_sem] List.getElem?_map List.length_map
@[go_sem ↓] theorem only_at (F : Fr) (kl : List Tmp) (l : List (Tmp × AV)) (t : Nat) : F.only kl l t = lookD l t (keepD F kl t) := (rfl)
@[go_sem ↓] theorem look_nil (t : Nat) (d : AV) : lookD [] t d = d := (rfl)
@[go_sem ↓] theorem look_cons (x : Nat) (v : AV) (l : List (Tmp × AV)) (t : Nat) (d : AV) : lookD ((x, v) :: l) t d = if t = x then v else lookD l t d := by
 simp only [lookD]
 by_cases h : t = x
 ·subst h; simp
 ·have e1 : Nat.beq t x = false := Bool.eq_false_iff.2 (fun h' => h (Nat.eq_of_beq_eq_true h'))
  simp [h, e1]
@[go_sem ↓] theorem keep_cons (F : Fr) (x : Nat) (l : List Tmp) (t : Nat) : keepD F (x :: l) t = if t = x then F x else keepD F l t := by
 simp only [keepD]
 by_cases h : t = x
 ·subst h; simp
 ·have e1 : Nat.beq t x = false := Bool.eq_false_iff.2 (fun h' => h (Nat.eq_of_beq_eq_true h'))
  simp [h, e1]
section
variable {σ : Type} (inv : σ → Prop) (vals : σ → List (Tmp × AV)) (hp : σ → Hp) (m : Nat) (Q : AExit → Fr → Hp → Prop) (F : Fr) (H : Hp)
@[go_sem ↓] theorem qn_n : QN inv vals hp m Q .normal F H = Next inv vals hp m F H := (rfl)
@[go_sem ↓] theorem qn_e (id : Nat) : QN inv vals hp m Q (.exit id) F H = Q (.exit id) F H := (rfl)
@[go_sem ↓] theorem qn_r : QN inv vals hp m Q .ret F H = Q .ret F H := (rfl)
@[congr] theorem next_congr {H' : Hp} (h : H = H') : Next inv vals hp m F H = Next inv vals hp m F H' := by rw [h]
end
def curV (F : Fr) (l : List (Tmp × AV)) : List AV := l.map fun p => F p.1
def newV (l : List (Tmp × AV)) : List AV := l.map (·.2)
@[go_sem ↓] theorem curV_nil (F : Fr) : curV F [] = [] := (rfl)
@[go_sem ↓] theorem curV_cons (F : Fr) (t : Tmp) (v : AV) (l : List (Tmp × AV)) : curV F ((t, v) :: l) = F t :: curV F l := (rfl)
@[go_sem ↓] theorem newV_nil : newV [] = [] := (rfl)
@[go_sem ↓] theorem newV_cons (t : Tmp) (v : AV) (l : List (Tmp × AV)) : newV ((t, v) :: l) = v :: newV l := (rfl)
@[congr] theorem curV_congr {F : Fr} {l l' : List (Tmp × AV)} (h : l = l') : curV F l = curV F l' := by rw [h]
theorem Next.mk {σ : Type} {inv : σ → Prop} {vals : σ → List (Tmp × AV)} {hp : σ → Hp} {m : Nat} {F : Fr} {H : Hp} (s : σ) (hi : inv s) (h : WkL m (curV F (vals s)) H (newV (vals s)) (hp s)) : Next inv vals hp m F H := ⟨s, hi, h⟩
section
variable {P : Program} {n N : Nat} {L : List Tmp} {c : Code} {Q : AExit → Fr → Hp → Prop} {F : Fr} {H : Hp}
def QS (P : Program) (n N : Nat) (L : List Tmp) (y : Code) (Q : AExit → Fr → Hp → Prop) : AExit → Fr → Hp → Prop := fun e F H => match e with | .normal => SWp P n N L y Q F H | e => Q e F H
@[go_sem ↓] theorem qs_n (y : Code) : QS P n N L y Q .normal F H = SWp P n N L y Q F H := (rfl)
@[congr] theorem swp_congr {H' : Hp} (h : H = H') : SWp P n N L c Q F H = SWp P n N L c Q F H' := by rw [h]
theorem SWp.go {x y : Code} (hc : codeOk N x = true) (h : AWp P n N L x (QS P n N L y Q) F H) : SWp P n N L (.seq x y) Q F H := SWp.seq (SWp.of hc h)
theorem SWp.inB {id : Nat} (h : SWp P n N L c (QBlock id Q) F H) : SWp P n N L (.block id c) Q F H := SWp.block h
theorem AWp.loop {σ : Type} (m : Nat) (kl ks : List Tmp) (inv : σ → Prop) (vals : σ → List (Tmp × AV)) (hp : σ → Hp) (μ : σ → Nat) (hc : codeOk N c = true) (hks : ∀ s, (vals s).map (·.1) = ks) (hl : listsOk c L kl ks = true) (hnm : n ≤ m) (hmH : m ≤ H.length)
  (hkl : ∀ t ∈ kl, (F t).ok m) (h0 : Next inv vals hp m F H)
  (h : ∀ s, inv s → m ≤ (hp s).length → HOk (hp s) → AWp P m N kl c (QN (fun s' => inv s' ∧ μ s' < μ s) vals hp m Q) (F.only kl (vals s)) (hp s)) : AWp P n N L (.loop c) Q F H :=
 SWp.loop m kl ks inv vals hp μ hks hl hnm hmH hkl h0 fun s h1 h2 h3 => SWp.of hc (h s h1 h2 h3)
end
end Go.Proofs.YtagoolooikpabaaGreatDoor
namespace Go.Proofs.YtagoolooikpabaaGreatDoor
open Go Go.RowKit
/-! ### one order for all -/
def quietB (o : Oper) : Bool := clsA o.op || clsB o.op
def masksGo : List Nat → List Oper → List Nat
 | acc, [] => acc
 | acc, o :: rest => masksGo (acc ++ [o.after.toList.foldl (fun s e => if Region.binds .any e then s ||| (2 ^ e.on ||| acc.getD e.on 0) else s) 0]) rest
def masks (ops : List Oper) : List Nat := masksGo [] ops
def linAt (ops : Array Oper) (ms : List Nat) (p : Nat) (o : Oper) : Bool :=
 (o.after.toList.all fun e => !Region.binds .any e || decide (e.on < p)) &&
 (((List.range ops.size).all fun i => decide (i ≤ p) || (ms.getD i 0).testBit p) ||
  (quietB o && (List.range ops.size).all fun i => decide (i ≤ p) || (ms.getD i 0).testBit p || (match ops[i]? with | some q => o.apart ops q && (clsA o.op || quietB q) | none => false)))
def linGo (ops : Array Oper) (ms : List Nat) : Nat → List Oper → Bool
 | _, [] => true
 | p, o :: rest => linAt ops ms p o && linGo ops ms (p + 1) rest
def linOk (l : List Oper) : Bool := linGo l.toArray (masks l) 0 l
section
variable {P : Program} {n N : Nat} {L : List Tmp} {ops : Array Oper} {K : Fr → Hp → Prop} {F : Fr} {H : Hp}
def Closed (ops : Array Oper) (S : Array Bool) : Prop := ∀ i, S.getD i false = true → ∀ o, ops[i]? = some o → ∀ e ∈ o.after, Region.binds .any e = true → S.getD e.on false = true
theorem masksGo_spec (S : Array Bool) (hS : Closed ops S) : ∀ (l : List Oper) (acc : List Nat), (∀ j, l[j]? = ops[acc.length + j]?) →
  (∀ (j m : Nat), acc[j]? = some m → ∀ o, ops[j]? = some o → (∀ e ∈ o.after, Region.binds .any e = true → S.getD e.on false = true) → ∀ p, m.testBit p = true → S.getD p false = true) →
  ∀ (j m : Nat), (masksGo acc l)[j]? = some m → ∀ o, ops[j]? = some o → (∀ e ∈ o.after, Region.binds .any e = true → S.getD e.on false = true) → ∀ p, m.testBit p = true → S.getD p false = true
 | [], acc, _, hacc => hacc
 | o0 :: l, acc, hl, hacc => by
  unfold masksGo
  refine masksGo_spec S hS l _ (fun j => ?_) (fun j m hj => ?_)
  ·have := hl (j + 1)
   simp only [List.getElem?_cons_succ, List.length_append, List.length_cons, List.length_nil] at this ⊢
   rw [this]; congr 1; omega
  ·rcases Nat.lt_or_ge j acc.length with hlt | hge
   ·rw [List.getElem?_append_left hlt] at hj
    exact hacc j m hj
   ·have hjl := getElem?_lt hj
    have e : j = acc.length := by simp at hjl; omega
    subst e
    simp only [List.getElem?_append_right lRf, Nat.sub_self, List.getElem?_cons_zero, Option.some.injEq] at hj
    subst hj
    intro o ho hpre p hp
    have ho' : o0 = o := by have := hl 0; simp at this; rw [ho] at this; injection this
    subst ho'
    have key : ∀ (es : List Edge) (s0 : Nat), (∀ e ∈ es, Region.binds .any e = true → S.getD e.on false = true) → (s0.testBit p = true → S.getD p false = true) →
      (es.foldl (fun s e => if Region.binds .any e then s ||| (2 ^ e.on ||| acc.getD e.on 0) else s) s0).testBit p = true → S.getD p false = true := by
     intro es
     induction es with
     | nil => intro s0 _ h0 h; exact h0 h
     | cons e es ih =>
      intro s0 hes h0 h
      rw [List.foldl_cons] at h
      refine ih _ (fun e' he' => hes e' (by simp [he'])) ?_ h
      intro ht
      by_cases hb : Region.binds .any e = true
      ·rw [if_pos hb] at ht
       simp only [Nat.testBit_or, Bool.or_eq_true] at ht
       have heS := hes e sMp hb
       rcases ht with ht | ht | ht
       ·exact h0 ht
       ·rw [Nat.testBit_two_pow] at ht
        have : e.on = p := by simpa using ht
        rw [← this]; exact heS
       ·cases hq : acc[e.on]? with
        | none => simp [List.getD, hq] at ht
        | some mq =>
         simp [List.getD, hq] at ht
         have hon : e.on < acc.length := getElem?_lt hq
         obtain ⟨oq, hoq⟩ : ∃ oq, ops[e.on]? = some oq := by
          have h1 := hl 0
          simp at h1
          have h2 : acc.length < ops.size := (Array.getElem?_eq_some_iff.1 h1.symm).1
          exact ⟨ops[e.on]'oMg, Array.getElem?_eq_getElem oMg⟩
         exact hacc e.on mq hq oq hoq (fun e' he' hb' => hS e.on heS oq hoq e' he' hb') p ht
      ·rw [if_neg hb] at ht; exact h0 ht
    exact key o0.after.toList 0 (fun e he hb => hpre e (by simpa using he) hb) sMp hp
theorem masks_spec {l : List Oper} {S : Array Bool} (hS : Closed l.toArray S) {i p : Nat} {o : Oper} (ho : l.toArray[i]? = some o) (hpre : ∀ e ∈ o.after, Region.binds .any e = true → S.getD e.on false = true) (hp : ((masks l).getD i 0).testBit p = true) : S.getD p false = true := by
 cases hm : (masks l)[i]? with
 | none => simp [List.getD, hm] at hp
 | some m =>
  simp [List.getD, hm] at hp
  exact masksGo_spec S hS l [] sMp (by intro j m h; simp at h) i m hm o ho hpre p hp
theorem mem_ready {S : Array Bool} {i : Nat} : i ∈ Region.ready .any ops S ↔ i < ops.size ∧ S.getD i true = false ∧ ∃ o, ops[i]? = some o ∧ ∀ e ∈ o.after, Region.binds .any e = true → S.getD e.on false = true := by
 unfold Region.ready
 simp only [List.mem_filter, List.mem_range, Bool.and_eq_true, Bool.not_eq_true']
 constructor
 ·rintro ⟨h1, h2, h3⟩
  refine ⟨h1, h2, ops[i], Array.getElem?_eq_getElem h1, fun e he hb => ?_⟩
  rw [Array.getElem?_eq_getElem h1] at h3
  simp only [Option.map_some, Option.getD_some] at h3
  have := Array.all_eq_true_iff_forall_mem.1 h3 e he
  simpa [hb] using this
 ·rintro ⟨h1, h2, o, ho, h3⟩
  refine ⟨h1, h2, ?_⟩
  rw [ho]
  simp only [Option.map_some, Option.getD_some]
  refine Array.all_eq_true_iff_forall_mem.2 fun e he => ?_
  by_cases hb : Region.binds .any e = true
  ·simp [h3 e he hb]
  ·simp [hb]
def GV (P : Program) (ops : Array Oper) (o : Oper) (F : Fr) (H : Hp) (v : AV) : Prop :=
 match o.guard with
 | none => RV P o.op (evC F) H v
 | some (j, want) => match (ops[j]?).bind (·.dst) with
  | some t => match F t with
   | .c (.bool b) => (b = want → RV P o.op (evC F) H v) ∧ (b = !want → v = .tup [])
   | .tup [] => v = .tup []
   | _ => False
  | none => False
theorem bool_two (b want : Bool) : b = want ∨ b = !want := by cases b <;> cases want <;> simp
theorem bool_ne {b want : Bool} (h : b = want) : ¬ b = !want := by cases b <;> cases want <;> simp_all
theorem guard_gv {o : Oper} (hq : quietB o = true) (h : aGuard P ops o K F H) : ∃ v, GV P ops o F H v ∧ K (F.put o.dst v) H := by
 have hq' : clsA o.op = true ∨ clsB o.op = true := by simpa [quietB] using hq
 unfold aGuard at h
 unfold GV
 split at h
 ·rename_i hg; obtain ⟨v, h1, h2⟩ := quiet_det hq' h; exact ⟨v, by rw [hg]; exact h1, h2⟩
 ·rename_i j want hg
  rw [hg]
  dsimp only
  split at h
  ·rename_i t ht
   rw [ht]
   dsimp only
   split at h
   ·rename_i b hb
    rw [hb]
    dsimp only
    rcases bool_two b want with e | e
    ·obtain ⟨v, h1, h2⟩ := quiet_det hq' (h.1 e); exact ⟨v, ⟨fun _ => h1, fun e' => absurd e' (bool_ne e)⟩, h2⟩
    ·exact ⟨_, ⟨fun e' => absurd e (bool_ne e'), fun _ => rfl⟩, h.2 e⟩
   ·rename_i hb; rw [hb]; exact ⟨_, rfl, h⟩
   ·exact h.elim
  ·exact h.elim
theorem gv_guard {o : Oper} {v : AV} (h : GV P ops o F H v) (k : K (F.put o.dst v) H) : aGuard P ops o K F H := by
 unfold GV at h
 unfold aGuard
 split at h
 ·rename_i hg; rw [hg]; exact RV_run h k
 ·rename_i j want hg
  rw [hg]
  dsimp only
  split at h
  ·rename_i t ht
   rw [ht]
   dsimp only
   split at h
   ·rename_i b hb
    rw [hb]
    exact ⟨fun e => RV_run (h.1 e) k, fun e => by have := h.2 e; subst this; exact k⟩
   ·rename_i hb; rw [hb]; subst h; exact k
   ·exact h.elim
  ·exact h.elim
theorem put_other {F : Fr} {d : Option Tmp} {v : AV} {t : Nat} (h : ∀ d', d = some d' → d' ≠ t) : Fr.put F d v t = F t := by
 cases d with
 | none => rfl
 | some d => rw [put_at, if_neg (fun e => h d rfl e.symm)]
theorem put_comm {F : Fr} {d e : Option Tmp} {v u : AV} (h : ∀ d', d = some d' → e ≠ some d') : (F.put d v).put e u = (F.put e u).put d v := by
 cases d with
 | none => rfl
 | some d =>
  cases e with
  | none => rfl
  | some e =>
   have hne : d ≠ e := fun x => h d rfl (by rw [x])
   funext t
   rw [put_at, put_at, put_at, put_at]
   by_cases h1 : t = e <;> by_cases h2 : t = d
   ·exact absurd (h2.symm.trans h1) hne
   ·simp [h1, h2]; intro h3; exact absurd (h1.trans h3) h2
   ·simp [h1, h2]; intro h3; exact absurd (h2.trans h3) h1
   ·simp [h1, h2]
theorem evC_put {F : Fr} {d : Option Tmp} {v : AV} {x : Operand} (h : ∀ d', d = some d' → x ≠ .tmp d') : evC (F.put d v) x = evC F x := by
 cases x with
 | tmp t => exact put_other (fun d' hd e => h d' hd (by rw [e]))
 | _ => rfl
theorem looks_op {o : Oper} {d : Option Tmp} (h : ∀ d', d = some d' → d' ∉ o.looksAt ops) : ∀ x ∈ o.op.operands, ∀ d', d = some d' → x ≠ .tmp d' := by
 intro x hx d' hd e
 refine h d' hd ?_
 unfold Oper.looksAt
 refine List.mem_append.2 (.inl (List.mem_filterMap.2 ⟨x, by simpa using hx, by rw [e]⟩))
theorem looks_guard {o : Oper} {d : Option Tmp} {j : Nat} {want : Bool} {t : Tmp} (h : ∀ d', d = some d' → d' ∉ o.looksAt ops) (hg : o.guard = some (j, want)) (ht : (ops[j]?).bind (·.dst) = some t) : ∀ d', d = some d' → d' ≠ t := by
 intro d' hd e
 refine h d' hd ?_
 unfold Oper.looksAt
 rw [hg]
 simp [ht, e]
theorem elAt_app {H G : Hp} {i k : Nat} {e : List AC} (h : elAt H i k = some e) : elAt (H ++ G) i k = some e := by
 unfold elAt at h ⊢
 split at h
 ·rename_i hi
  rw [List.getElem?_append_left (getElem?_lt hi), hi]
  exact h
 ·cases h
theorem clsB_app {op : Op} {ev : Operand → AV} {H G : Hp} {v : AV} (hB : clsB op = true) (h : aOp P op ev H (fun u H'' => u = v ∧ H'' = H)) : aOp P op ev (H ++ G) (fun u H'' => u = v ∧ H'' = H ++ G) := by
 cases op <;> first | (cases hB; done) | skip
 case load t x =>
  simp only [aOp, aLoad] at h ⊢
  split at h
  ·rename_i i k j hx
   cases he : elAt H i k with
   | none => rw [he] at h; exact h.elim
   | some e =>
    rw [he] at h
    rw [elAt_app he]
    unfold aLd at h ⊢
    split at h
    ·exact ⟨h.1, h.2.1, rfl⟩
    ·refine ⟨h.1, ?_⟩
     have h2 := h.2
     unfold aOf at h2 ⊢
     split at h2
     ·exact ⟨h2.1, rfl⟩
     ·exact h2.elim
    ·exact h.elim
  ·unfold aLd at h ⊢
   split at h
   ·exact ⟨h.1, h.2.1, rfl⟩
   ·refine ⟨h.1, ?_⟩
    have h2 := h.2
    unfold aOf at h2 ⊢
    split at h2
    ·exact ⟨h2.1, rfl⟩
    ·exact h2.elim
   ·exact h.elim
  ·exact h.elim
 case indexAddr t x i =>
  simp only [aOp, aIx] at h ⊢
  split at h
  ·rename_i b k n q hx hq
   unfold aIx2 at h ⊢
   split at h
   ·rename_i hb
    rw [List.getElem?_append_left (getElem?_lt hb), hb]
    exact ⟨h.1, h.2.1, rfl⟩
   ·exact h.elim
  ·unfold aIxL at h ⊢
   split at h
   ·exact ⟨h.1, h.2.1, rfl⟩
   ·exact h.elim
  ·exact h.elim
 case slice t x lo hi mx =>
  simp only [aOp, aSub] at h ⊢
  split at h
  ·split at h
   ·rename_i r n l hx _ hl e q he hq
    obtain ⟨⟨h1, h2, h3, h5, h6⟩, h4⟩ := h
    refine ⟨⟨h1, ?_, h3, h5, h6.imp id fun h7 => ?_⟩, h4.1, rfl⟩
    rotate_left
    ·unfold rowN at h7 ⊢
     unfold rowOk at h2
     split at h2
     ·exact h7
     ·split at h2
      ·rename_i hb
       dsimp only at h7
       rw [hb] at h7
       rw [List.getElem?_append_left (getElem?_lt hb), hb]
       exact h7
      ·exact h2.elim
    unfold rowOk at h2 ⊢
    split at h2
    ·trivial
    ·rename_i p
     split at h2
     ·rename_i hb
      rw [List.getElem?_append_left (getElem?_lt hb), hb]
      exact h2
     ·exact h2.elim
   ·exact h.elim
  ·split at h
   ·exact ⟨h.1, h.2.1, rfl⟩
   ·exact h.elim
  ·split at h
   ·obtain ⟨⟨h1, h2, h3⟩, h4⟩ := h
    refine ⟨⟨h1, ?_, h3⟩, h4.1, rfl⟩
    unfold rowOk at h2 ⊢
    split at h2
    ·trivial
    ·rename_i p
     split at h2
     ·rename_i hb
      rw [List.getElem?_append_left (getElem?_lt hb), hb]
      exact h2
     ·exact h2.elim
   ·exact h.elim
  ·split at h
   ·exact ⟨h.1, h.2.1, rfl⟩
   ·exact h.elim
  ·exact h.elim
theorem gv_put {o : Oper} {d : Option Tmp} {v u : AV} {H' : Hp} (h : ∀ d', d = some d' → d' ∉ o.looksAt ops) (hH : clsA o.op = true ∨ H' = H ∨ (clsB o.op = true ∧ ∃ G, H' = H ++ G)) (hg : GV P ops o F H v) : GV P ops o (F.put d u) H' v := by
 have hrv : RV P o.op (evC F) H v → RV P o.op (evC (F.put d u)) H' v := by
  intro hr
  unfold RV at hr ⊢
  have e1 : aOp P o.op (evC (F.put d u)) H' (fun u' H'' => u' = v ∧ H'' = H') = aOp P o.op (evC F) H' (fun u' H'' => u' = v ∧ H'' = H') := aOp_congr' (fun x hx => evC_put (looks_op h x hx))
  rw [e1]
  rcases hH with hA | rfl | ⟨hB, G, rfl⟩
  ·generalize evC F = ev at hr
   generalize o.op = op at hr hA
   cases op <;> first | (cases hA; done) | skip
   all_goals first
    | exact ⟨hr.1, trivial⟩
    | exact ⟨hr.1, rfl⟩
    | skip
   case pick c x y =>
    simp only [aOp, aPick] at hr ⊢
    split at hr
    ·split at hr <;> exact ⟨hr.1, trivial⟩
    ·exact hr.elim
   case binOp b t x y t2 =>
    have hr : aBinO P t b (ev x) (ev y) (isNilS y) (isNilI y) (fun u => u = v ∧ H = H) := hr
    exact aBinO_mono (K' := fun u => u = v ∧ H' = H') (fun v hv => ⟨hv.1, rfl⟩) hr
   case unOp b t x =>
    simp only [aOp, aUn] at hr ⊢
    split at hr <;> first | exact ⟨hr.1, trivial⟩ | exact hr.elim
   case nilCheck x =>
    simp only [aOp, aNil] at hr ⊢
    split at hr <;> first | exact ⟨hr.1, trivial⟩ | exact hr.elim
   case fieldAddr s x f =>
    simp only [aOp, aFld] at hr ⊢
    split at hr <;> first | exact ⟨hr.1, hr.2.1, trivial⟩ | exact hr.elim
   case extract x i =>
    simp only [aOp, aExt] at hr ⊢
    split at hr
    ·unfold aExt2 at hr ⊢
     split at hr <;> first | exact ⟨hr.1, trivial⟩ | exact ⟨hr.1, rfl⟩ | exact hr.elim
    ·exact hr.elim
   case build t ps =>
    simp only [aOp, aBuild] at hr ⊢
    split at hr <;> first | exact ⟨hr.1, hr.2.1, trivial⟩ | exact hr.elim
   case convert s d x =>
    simp only [aOp, aCv] at hr ⊢
    split at hr
    ·unfold aCv2 at hr ⊢
     split at hr <;> first | exact ⟨hr.1, hr.2.1, trivial⟩ | exact ⟨hr.1, hr.2.1, rfl⟩ | exact hr.elim
    ·unfold aCvS at hr ⊢
     split at hr <;> first | exact ⟨hr.1, hr.2.1, trivial⟩ | exact ⟨hr.1, hr.2.1, rfl⟩
    ·unfold aCvB at hr ⊢
     split at hr <;> first | exact ⟨hr.1, hr.2.1, trivial⟩ | exact ⟨hr.1, hr.2.1, rfl⟩ | exact hr.elim
    ·exact hr.elim
   case makeInterface t x =>
    simp only [aOp, aIfc] at hr ⊢
    split at hr <;> first | exact ⟨hr.1, hr.2.1, trivial⟩ | exact ⟨hr.1, hr.2.1, rfl⟩ | exact hr.elim
   case field s x f =>
    simp only [aOp, aFd] at hr ⊢
    split at hr
    ·first | exact ⟨hr.1, hr.2.1, trivial⟩ | exact ⟨hr.1, hr.2.1, rfl⟩
    ·unfold aOf at hr ⊢
     split at hr <;> first | exact ⟨hr.1, trivial⟩ | exact ⟨hr.1, rfl⟩ | exact hr.elim
    ·exact hr.elim
   case index t x i =>
    simp only [aOp, aStr] at hr ⊢
    split at hr <;> first | exact ⟨hr.1, hr.2.1, trivial⟩ | exact ⟨hr.1, hr.2.1, rfl⟩ | exact hr.elim
   case call c =>
    obtain ⟨callee, args, ts⟩ := c
    cases callee with
    | value f => cases hA
    | invoke r m => cases hA
    | builtin b =>
     simp only [aOp] at hr ⊢
     unfold aBuiltin at hr ⊢
     split at hr
     ·exact ⟨hr.1, hr.2.1, rfl⟩
     ·exact ⟨hr.1, hr.2.1, rfl⟩
     ·exact ⟨hr.1, hr.2.1, rfl⟩
     ·exact ⟨hr.1, rfl⟩
     ·exact ⟨hr.1, rfl⟩
     ·cases hA
     ·cases hA
     ·cases hA
     ·cases hA
     ·cases hA
     ·cases hA
     ·rename_i hts _
      exact absurd hA (by simp [clsA, hts, hr.1.1])
     ·cases hA
     ·cases hA
     ·exact hr.elim
  ·exact hr
  ·exact clsB_app hB hr
 unfold GV at hg ⊢
 split at hg
 ·exact hrv hg
 ·rename_i j want hgd
  split at hg
  ·rename_i t ht
   rw [put_other (looks_guard h hgd ht)]
   split at hg
   ·exact ⟨fun e => hrv (hg.1 e), hg.2⟩
   ·exact hg
   ·exact hg.elim
  ·exact hg.elim
theorem guard_put {o : Oper} {d : Option Tmp} {u : AV} (h : ∀ d', d = some d' → d' ∉ o.looksAt ops) (hd : ∀ d', d = some d' → o.dst ≠ some d') (hg : aGuard P ops o K (F.put d u) H) : aGuard P ops o (fun F' H' => K (F'.put d u) H') F H := by
 have hop : aOp P o.op (evC (F.put d u)) H (fun v H' => K ((F.put d u).put o.dst v) H') → aOp P o.op (evC F) H (fun v H' => K ((F.put o.dst v).put d u) H') := by
  intro hr
  rw [aOp_congr' (fun x hx => evC_put (looks_op h x hx))] at hr
  exact aOp_mono (fun v H' hk => by rw [← put_comm hd]; exact hk) hr
 unfold aGuard at hg ⊢
 split at hg
 ·exact hop hg
 ·rename_i j want hgd
  split at hg
  ·rename_i t ht
   rw [put_other (looks_guard h hgd ht)] at hg
   split at hg
   ·exact ⟨fun e => hop (hg.1 e), fun e => by show K _ _; rw [← put_comm hd]; exact hg.2 e⟩
   ·show K _ _; rw [← put_comm hd]; exact hg
   ·exact hg.elim
  ·exact hg.elim
theorem getD_set {S : Array Bool} {i j : Nat} {d : Bool} (hi : i < S.size) : (S.setIfInBounds i true).getD j d = if j = i then true else S.getD j d := by
 rw [Array.getD_eq_getD_getElem?, Array.getD_eq_getD_getElem?, Array.getElem?_setIfInBounds]
 by_cases h : i = j
 ·subst h; simp [hi]
 ·rw [if_neg h, if_neg (fun e => h e.symm)]
theorem closed_set {S : Array Bool} {i : Nat} (hS : Closed ops S) (hsz : S.size = ops.size) (hi : i ∈ Region.ready .any ops S) : Closed ops (S.setIfInBounds i true) := by
 obtain ⟨h1, _, o, ho, h3⟩ := mem_ready.1 hi
 have hi' : i < S.size := by rw [hsz]; exact h1
 intro j hj q hq e he hb
 rw [getD_set hi'] at hj ⊢
 by_cases hji : j = i
 ·subst hji
  have : q = o := by rw [ho] at hq; injection hq with hq; exact hq.symm
  subst this
  split
  ·rfl
  ·exact h3 e he hb
 ·rw [if_neg hji] at hj
  split
  ·rfl
  ·exact hS j hj q hq e he hb
theorem ready_keep {S : Array Bool} {i p : Nat} (hsz : S.size = ops.size) (hi : i ∈ Region.ready .any ops S) (hp : p ∈ Region.ready .any ops S) (hne : i ≠ p) : i ∈ Region.ready .any ops (S.setIfInBounds p true) := by
 obtain ⟨h1, h2, o, ho, h3⟩ := mem_ready.1 hi
 have hp' : p < S.size := by rw [hsz]; exact (mem_ready.1 hp).1
 refine mem_ready.2 ⟨h1, by rw [getD_set hp', if_neg hne]; exact h2, o, ho, fun e he hb => ?_⟩
 rw [getD_set hp']
 split
 ·rfl
 ·exact h3 e he hb
def newB (q : Oper) : Bool := match q.op, q.guard with
 | .alloc _, none => true
 | .buildSlice _ _ _, none => true
 | _, _ => false
theorem postpone {p : Nat} {o : Oper} {v : AV} {L : Nat → Prop} (ho : ops[p]? = some o) (hst : ∀ (S : Array Bool), Closed ops S → S.getD p true = false → (∀ q, L q → S.getD q false = true) → ∀ i, i ∈ Region.ready .any ops S → i ≠ p → ∃ q, ops[i]? = some q ∧ o.apart ops q = true ∧ (clsA o.op = true ∨ quietB q = true ∨ (clsB o.op = true ∧ newB q = true))) :
  ∀ (m : Nat) (S : Array Bool) (F : Fr) (H : Hp), S.size = ops.size → Closed ops S → (∀ q, L q → S.getD q false = true) → p ∈ Region.ready .any ops S → GV P ops o F H v → aAny P ops K m (S.setIfInBounds p true) (F.put o.dst v) H → aAny P ops K (m + 1) S F H
 | m, S, F, H, hsz, hS, hpre, hp, hg, h => by
  have hpn : S.getD p true = false := (mem_ready.1 hp).2.1
  have hp' : p < S.size := by rw [hsz]; exact (mem_ready.1 hp).1
  refine ⟨fun h0 => absurd hp (by rw [h0]; simp), fun i hi => ?_⟩
  by_cases hip : i = p
  ·subst hip
   unfold aIdx
   rw [ho]
   exact gv_guard hg h
  ·obtain ⟨q, hq, hap, hcl⟩ := hst S hS hpn hpre i hi hip
   obtain ⟨a1, a2, a3⟩ := Oper.apart_spec hap
   have hi2 := ready_keep hsz hi hp hip
   unfold aIdx
   rw [hq]
   dsimp only
   cases m with
   | zero =>
    have := h.1
    rw [this] at hi2
    cases hi2
   | succ m =>
    have h1 := h.2 i hi2
    unfold aIdx at h1
    rw [hq] at h1
    dsimp only at h1
    have h2 := guard_put a1 a2 h1
    have hpi : p ∈ Region.ready .any ops (S.setIfInBounds i true) := ready_keep hsz hp hi (fun e => hip e.symm)
    have hi' : i < S.size := by rw [hsz]; exact (mem_ready.1 hi).1
    have hpre' : ∀ q, L q → (S.setIfInBounds i true).getD q false = true := fun q hq => by
     rw [getD_set hi']; split
     ·rfl
     ·exact hpre q hq
    have hcomm : (S.setIfInBounds p true).setIfInBounds i true = (S.setIfInBounds i true).setIfInBounds p true := Array.setIfInBounds_comm _ _ (fun e => hip e.symm)
    rw [hcomm] at h2
    have step : ∀ (F' : Fr) (H' : Hp), GV P ops o F' H' v → aAny P ops K m ((S.setIfInBounds i true).setIfInBounds p true) (F'.put o.dst v) H' → aAny P ops K (m + 1) (S.setIfInBounds i true) F' H' :=
     fun F' H' g k => postpone ho hst m (S.setIfInBounds i true) F' H' (by simpa using hsz) (closed_set hS hsz hi) hpre' hpi g k
    -- the value stays: either the operation does not look at the heap, or what runs now does not turn it
    rcases hcl with hA | hQ | ⟨hB, hN⟩
    ·have hop : aOp P q.op (evC F) H (fun u H' => aAny P ops K m ((S.setIfInBounds i true).setIfInBounds p true) ((F.put q.dst u).put o.dst v) H') → aOp P q.op (evC F) H (fun u H' => aAny P ops K (m + 1) (S.setIfInBounds i true) (F.put q.dst u) H') :=
      fun hr => aOp_mono (fun u H' hk => step _ _ (gv_put a3 (.inl hA) hg) hk) hr
     unfold aGuard at h2 ⊢
     split at h2
     ·exact hop h2
     ·split at h2
      ·split at h2
       ·exact ⟨fun e => hop (h2.1 e), fun e => step _ _ (gv_put a3 (.inl hA) hg) (h2.2 e)⟩
       ·exact step _ _ (gv_put a3 (.inl hA) hg) h2
       ·exact h2.elim
      ·exact h2.elim
    ·obtain ⟨u, g1, g2⟩ := guard_gv hQ h2
     exact gv_guard g1 (step _ _ (gv_put a3 (.inr (.inl rfl)) hg) g2)
    ·obtain ⟨qd, qo, qt, qp, qa, qg⟩ := q
     unfold newB at hN
     dsimp only at hN
     split at hN
     ·unfold aGuard at h2 ⊢
      dsimp only at h2 ⊢
      simp only [aOp] at h2 ⊢
      unfold aNew at h2 ⊢
      split at h2
      ·exact step _ _ (gv_put a3 (.inr (.inr ⟨hB, _, rfl⟩)) hg) h2
      ·exact h2.elim
     ·unfold aGuard at h2 ⊢
      dsimp only at h2 ⊢
      simp only [aOp] at h2 ⊢
      unfold aLit at h2 ⊢
      split at h2
      ·exact ⟨h2.1, h2.2.1, h2.2.2.1, h2.2.2.2.1, step _ _ (gv_put a3 (.inr (.inr ⟨hB, _, rfl⟩)) hg) h2.2.2.2.2⟩
      ·exact h2.elim
     ·cases hN
theorem any_lin {l : List Oper} : ∀ (rest : List Oper) (k : Nat) (S : Array Bool) (F : Fr) (H : Hp), (∀ j, rest[j]? = l[k + j]?) → k + rest.length = l.length → S.size = l.length → (∀ i, i < l.length → S.getD i true = decide (i < k)) → (∀ i, i < k → ∀ o, l.toArray[i]? = some o → ∀ e ∈ o.after, Region.binds .any e = true → e.on < i) →
  linGo l.toArray (masks l) k rest = true → aOps P l.toArray K rest F H → aAny P l.toArray K rest.length S F H
 | [], k, S, F, H, _, hk, hSs, hS, _, _, h => by
  refine ⟨?_, h⟩
  refine List.eq_nil_iff_forall_not_mem.2 (fun i hi => ?_)
  obtain ⟨h1, h2, _⟩ := mem_ready.1 hi
  simp at h1 hk
  rw [hS i h1] at h2
  simp at h2; omega
 | o :: rest, k, S, F, H, hr, hk, hSs, hS, hold, hl, h => by
  have ho : l.toArray[k]? = some o := by have := hr 0; simp at this; simpa using this.symm
  have hkl : k < l.length := by simp at hk; omega
  simp only [linGo, Bool.and_eq_true] at hl
  obtain ⟨hlin, hl⟩ := hl
  unfold linAt at hlin
  simp only [Bool.and_eq_true] at hlin
  obtain ⟨hpre, hor⟩ := hlin
  have hSf : ∀ i, i < l.length → S.getD i false = decide (i < k) := by
   intro i hi
   have := hS i hi
   rw [Array.getD_eq_getD_getElem?] at this ⊢
   rw [Array.getElem?_eq_getElem oMg] at this ⊢
   exact this
  have hSo : ∀ i, S.getD i false = true → i < k := by
   intro i hi
   rcases Nat.lt_or_ge i l.length with hlt | hge
   ·rw [hSf i hlt] at hi; simpa using hi
   ·rw [Array.getD_eq_getD_getElem?, Array.getElem?_eq_none oMg] at hi; cases hi
  have hedge : ∀ e ∈ o.after, Region.binds .any e = true → S.getD e.on false = true := by
   intro e he hb
   have := List.all_eq_true.1 hpre e (by simpa using he)
   simp [hb] at this
   rw [hSf e.on oMg]; simpa using this
  have hkr : k ∈ Region.ready .any l.toArray S := mem_ready.2 ⟨by simpa using hkl, by rw [hS k hkl]; simp, o, ho, hedge⟩
  have hS' : ∀ i, i < l.length → (S.setIfInBounds k true).getD i true = decide (i < k + 1) := by
   intro i hi
   rw [getD_set oMg]
   by_cases e : i = k
   ·subst e; simp
   ·rw [if_neg e, hS i hi]; congr 1; exact propext oMg
  have hedge2 : ∀ e ∈ o.after, Region.binds .any e = true → e.on < k := by
   intro e he hb
   have := List.all_eq_true.1 hpre e (by simpa using he)
   simpa [hb] using this
  have hold' : ∀ i, i < k + 1 → ∀ o, l.toArray[i]? = some o → ∀ e ∈ o.after, Region.binds .any e = true → e.on < i := by
   intro i hi q hq e he hb
   by_cases hik : i = k
   ·subst hik
    have : q = o := by rw [ho] at hq; injection hq with hq; exact hq.symm
    subst this
    exact hedge2 e he hb
   ·exact hold i oMg q hq e he hb
  have ih := fun F' H' => any_lin rest (k + 1) (S.setIfInBounds k true) F' H' (fun j => by have := hr (j + 1); simpa [Nat.add_assoc, Nat.add_comm 1 j] using this) (by simp at hk; omega) (by simpa using hSs) hS' hold' hl
  have hcl : Closed l.toArray S := by
   intro i hi q hq e he hb
   have hik := hSo i hi
   have := hold i hik q hq e he hb
   rw [hSf e.on oMg]; simp; omega
  have hlate : ∀ (T : Array Bool), Closed l.toArray T → T.getD k true = false → (∀ q, q < k → T.getD q false = true) → ∀ i, i ∈ Region.ready .any l.toArray T → i ≠ k → k < i ∧ ((masks l).getD i 0).testBit k = false := by
   intro T hT hTk hTp i hi hne
   obtain ⟨h1, h2, q, hq, h3⟩ := mem_ready.1 hi
   refine ⟨?_, ?_⟩
   ·rcases Nat.lt_or_ge i k with hlt | hge
    ·have := hTp i hlt
     rw [Array.getD_eq_getD_getElem?] at this h2
     cases ht : T[i]? with
     | none => rw [ht] at this; cases this
     | some b => rw [ht] at this h2; simp at this h2; rw [this] at h2; cases h2
    ·omega
   ·cases hb : ((masks l).getD i 0).testBit k with
    | false => rfl
    | true =>
     have := masks_spec hT hq h3 hb
     rw [Array.getD_eq_getD_getElem?] at this hTk
     cases ht : T[k]? with
     | none => rw [ht] at this; cases this
     | some b => rw [ht] at this hTk; simp at this hTk; rw [this] at hTk; cases hTk
  have hSk : S.getD k true = false := by rw [hS k hkl]; simp
  have hSp : ∀ q, q < k → S.getD q false = true := fun q hq => by rw [hSf q oMg]; simpa using hq
  simp only [Bool.or_eq_true, Bool.and_eq_true] at hor
  rcases hor with hsole | ⟨hq, hall⟩
  ·have hone : ∀ i, i ∈ Region.ready .any l.toArray S → i = k := by
    intro i hi
    by_cases hne : i = k
    ·exact hne
    ·obtain ⟨g1, g2⟩ := hlate S hcl hSk hSp i hi hne
     have hin : i < l.toArray.size := (mem_ready.1 hi).1
     have := List.all_eq_true.1 hsole i (List.mem_range.2 hin)
     simp only [Bool.or_eq_true, decide_eq_true_eq] at this
     rcases this with h5 | h5
     ·omega
     ·rw [g2] at h5; cases h5
   refine ⟨fun h0 => absurd hkr (by rw [h0]; simp), fun i hi => ?_⟩
   have := hone i hi
   subst this
   unfold aIdx
   rw [ho]
   exact aGuard_mono (fun F' H' hk' => ih F' H' hk') h
  ·obtain ⟨v, hg, hrest⟩ := guard_gv hq h
   refine postpone (L := fun q => q < k) ho (fun T hT hTk hTp i hi hne => ?_) rest.length S F H (by simpa using hSs) hcl hSp hkr hg (ih _ _ hrest)
   obtain ⟨g1, g2⟩ := hlate T hT hTk hTp i hi hne
   have hin : i < l.toArray.size := (mem_ready.1 hi).1
   have := List.all_eq_true.1 hall i (List.mem_range.2 hin)
   simp only [Bool.or_eq_true, decide_eq_true_eq] at this
   rcases this with (h5 | h5) | h5
   ·omega
   ·rw [g2] at h5; cases h5
   ·split at h5
    ·rename_i q hq'
     simp only [Bool.and_eq_true, Bool.or_eq_true] at h5
     exact ⟨q, hq', h5.1, h5.2.imp id .inl⟩
    ·cases h5
theorem w_draw {id : Nat} {l : List Oper} {Q : AExit → Fr → Hp → Prop} (hm : P.follows .mixedOrders = true) (hl : linOk l = true) (h : aOps P l.toArray (Q .normal) l F H) : AWp P n N L (.region id l.toArray true) Q F H := by
 refine ⟨hm, ?_⟩
 have := any_lin (P := P) (K := Q .normal) (l := l) l 0 (Array.replicate l.length false) F H sMp sMp sMp (fun i hi => by simp [hi]) (by intro i hi; omega) hl h
 simpa using this
end
/-! ### some orders for all -/
inductive OT where
 | done
 | one (p : Nat) (t : OT)
 | two (p : Nat) (t : OT) (q : Nat) (u : OT)
 | three (p : Nat) (t : OT) (q : Nat) (u : OT) (r : Nat) (v : OT)
 | four (p : Nat) (t : OT) (q : Nat) (u : OT) (r : Nat) (v : OT) (s : Nat) (w : OT)
def rdyB (l : List Oper) (L : List Nat) (i : Nat) : Bool := match l[i]? with
 | some o => !L.contains i && o.after.toList.all fun e => !Region.binds .any e || L.contains e.on
 | none => false
def rdys (l : List Oper) (L : List Nat) : List Nat := (List.range l.length).filter (rdyB l L)
def firstB (l : List Oper) (ms : List Nat) (L : List Nat) (p : Nat) : Bool := match l[p]? with
 | some o => quietB o && (List.range l.length).all fun i => i == p || L.contains i || (ms.getD i 0).testBit p || (match l[i]? with | some q => o.apart l.toArray q && (clsA o.op || quietB q || (clsB o.op && newB q)) | none => false)
 | none => false
def otOk (l : List Oper) (ms : List Nat) : List Nat → OT → Bool
 | L, .done => rdys l L == [] && L.length == l.length
 | L, .one p t => decide (L.length < l.length) && rdyB l L p && (rdys l L == [p] || firstB l ms L p) && otOk l ms (p :: L) t
 | L, .two p t q u => decide (L.length < l.length) && rdys l L == [p, q] && otOk l ms (p :: L) t && otOk l ms (q :: L) u
 | L, .three p t q u r v => decide (L.length < l.length) && rdys l L == [p, q, r] && otOk l ms (p :: L) t && otOk l ms (q :: L) u && otOk l ms (r :: L) v
 | L, .four p t q u r v s w => decide (L.length < l.length) && rdys l L == [p, q, r, s] && otOk l ms (p :: L) t && otOk l ms (q :: L) u && otOk l ms (r :: L) v && otOk l ms (s :: L) w
def aTree (P : Program) (l : List Oper) (K : Fr → Hp → Prop) : OT → Fr → Hp → Prop
 | .done, F, H => K F H
 | .one p t, F, H => aIdx P l.toArray (aTree P l K t) p F H
 | .two p t q u, F, H => aIdx P l.toArray (aTree P l K t) p F H ∧ aIdx P l.toArray (aTree P l K u) q F H
 | .three p t q u r v, F, H => aIdx P l.toArray (aTree P l K t) p F H ∧ aIdx P l.toArray (aTree P l K u) q F H ∧ aIdx P l.toArray (aTree P l K v) r F H
 | .four p t q u r v s w, F, H => aIdx P l.toArray (aTree P l K t) p F H ∧ aIdx P l.toArray (aTree P l K u) q F H ∧ aIdx P l.toArray (aTree P l K v) r F H ∧ aIdx P l.toArray (aTree P l K w) s F H
section
variable {P : Program} {n N : Nat} {L : List Tmp} {l : List Oper} {K : Fr → Hp → Prop} {F : Fr} {H : Hp}
def Lst (l : List Oper) (L : List Nat) (S : Array Bool) : Prop := S.size = l.length ∧ ∀ i, i < l.length → S.getD i true = L.contains i
theorem lst_f {L : List Nat} {S : Array Bool} (h : Lst l L S) {i : Nat} (hi : i < l.length) : S.getD i false = L.contains i := by
 have := h.2 i hi
 rw [Array.getD_eq_getD_getElem?] at this ⊢
 rw [Array.getElem?_eq_getElem (by rw [h.1]; exact hi)] at this ⊢
 exact this
theorem lst_out {L : List Nat} {S : Array Bool} (h : Lst l L S) {i : Nat} (hi : S.getD i false = true) : i < l.length ∧ L.contains i = true := by
 rcases Nat.lt_or_ge i l.length with hlt | hge
 ·rw [lst_f h hlt] at hi; exact ⟨hlt, hi⟩
 ·rw [Array.getD_eq_getD_getElem?, Array.getElem?_eq_none (by rw [h.1]; exact hge)] at hi; cases hi
theorem lst_ready {L : List Nat} {S : Array Bool} (h : Lst l L S) (hL : ∀ x ∈ L, x < l.length) {i : Nat} : i ∈ Region.ready .any l.toArray S ↔ rdyB l L i = true := by
 rw [mem_ready]
 unfold rdyB
 constructor
 ·rintro ⟨h1, h2, o, ho, h3⟩
  have ho' : l[i]? = some o := by simpa using ho
  rw [ho']
  have h1' : i < l.length := by simpa using h1
  rw [h.2 i h1'] at h2
  simp only [h2, Bool.not_false, Bool.true_and]
  refine List.all_eq_true.2 fun e he => ?_
  by_cases hb : Region.binds .any e = true
  ·simp only [hb, Bool.not_true, Bool.false_or]; exact (lst_out h (h3 e (by simpa using he) hb)).2
  ·simp [hb]
 ·intro hr
  cases ho : l[i]? with
  | none => rw [ho] at hr; cases hr
  | some o =>
   rw [ho] at hr
   simp only [Bool.and_eq_true, Bool.not_eq_true'] at hr
   have hi := getElem?_lt ho
   refine ⟨by simpa using hi, by rw [h.2 i hi]; exact hr.1, o, by simpa using ho, fun e he hb => ?_⟩
   have := List.all_eq_true.1 hr.2 e (by simpa using he)
   simp only [hb, Bool.not_true, Bool.false_or] at this
   rw [lst_f h (hL e.on (by simpa using this))]; exact this
theorem lst_set {L : List Nat} {S : Array Bool} (h : Lst l L S) {p : Nat} (hp : p < l.length) : Lst l (p :: L) (S.setIfInBounds p true) := by
 refine ⟨by simpa using h.1, fun i hi => ?_⟩
 rw [getD_set (by rw [h.1]; exact hp), List.contains_cons]
 by_cases e : i = p
 ·subst e; simp
 ·rw [if_neg e, h.2 i hi]
  have : (i == p) = false := by simpa using e
  simp [this]
theorem any_tree : ∀ (t : OT) (m : Nat) (L : List Nat) (S : Array Bool) (F : Fr) (H : Hp), Lst l L S → Closed l.toArray S → (∀ x ∈ L, x < l.length) → L.length + m = l.length → otOk l (masks l) L t = true → aTree P l K t F H → aAny P l.toArray K m S F H
 | .done, m, L, S, F, H, hL, hS, hb, hm, hok, h => by
  simp only [otOk, Bool.and_eq_true, beq_iff_eq] at hok
  have hm0 : m = 0 := by omega
  subst hm0
  have hr : Region.ready .any l.toArray S = [] := by
   refine List.eq_nil_iff_forall_not_mem.2 fun i hi => ?_
   have h1 := (lst_ready hL hb).1 hi
   have h2 : i ∈ rdys l L := List.mem_filter.2 ⟨List.mem_range.2 (by have := (mem_ready.1 hi).1; simpa using this), h1⟩
   rw [hok.1] at h2; cases h2
  exact ⟨hr, h⟩
 | .one p t, m, L, S, F, H, hL, hS, hb, hm, hok, h => by
  simp only [otOk, Bool.and_eq_true, Bool.or_eq_true, beq_iff_eq, decide_eq_true_eq] at hok
  obtain ⟨⟨⟨hlen, hrd⟩, hor⟩, hok⟩ := hok
  have hp := (lst_ready hL hb).2 hrd
  obtain ⟨hp1, hp2, o, ho, _⟩ := mem_ready.1 hp
  have hpl : p < l.length := by simpa using hp1
  have hL' := lst_set hL hpl
  have hS' := closed_set hS (by simpa using hL.1) hp
  have hb' : ∀ x ∈ p :: L, x < l.length := by intro x hx; rcases List.mem_cons.1 hx with rfl | hx; exact hpl; exact hb x hx
  obtain ⟨m, rfl⟩ : ∃ k, m = k + 1 := ⟨m - 1, by omega⟩
  have ih := fun F' H' => any_tree t m (p :: L) (S.setIfInBounds p true) F' H' hL' hS' hb' (by simp; omega) hok
  unfold aTree aIdx at h
  rw [ho] at h
  dsimp only at h
  rcases hor with hone | hfirst
  ·refine ⟨fun h0 => absurd hp (by rw [h0]; simp), fun i hi => ?_⟩
   have h1 := (lst_ready hL hb).1 hi
   have h2 : i ∈ rdys l L := List.mem_filter.2 ⟨List.mem_range.2 (by have := (mem_ready.1 hi).1; simpa using this), h1⟩
   rw [hone] at h2
   have hip : i = p := by simpa using h2
   subst hip
   unfold aIdx
   rw [ho]
   exact aGuard_mono (fun F' H' hk' => ih F' H' hk') h
  ·unfold firstB at hfirst
   have ho' : l[p]? = some o := by simpa using ho
   rw [ho'] at hfirst
   simp only [Bool.and_eq_true] at hfirst
   obtain ⟨hq, hall⟩ := hfirst
   obtain ⟨v, hg, hrest⟩ := guard_gv hq h
   refine postpone (L := fun q => L.contains q = true) ho (fun T hT hTp hTL i hi hne => ?_) m S F H (by simpa using hL.1) hS (fun q hq' => by
    have := hb q (by simpa using hq')
    rw [lst_f hL this]; exact hq') hp hg (ih _ _ hrest)
   obtain ⟨g1, g2, q, hq', g3⟩ := mem_ready.1 hi
   have := List.all_eq_true.1 hall i (List.mem_range.2 (by simpa using g1))
   simp only [Bool.or_eq_true, beq_iff_eq] at this
   rcases this with ((h5 | h5) | h5) | h5
   ·exact absurd h5 hne
   ·have := hTL i h5
    rw [Array.getD_eq_getD_getElem?] at this g2
    cases ht : T[i]? with
    | none => rw [ht] at this; cases this
    | some b => rw [ht] at this g2; simp at this g2; rw [this] at g2; cases g2
   ·have := masks_spec hT hq' g3 h5
    rw [Array.getD_eq_getD_getElem?] at this hTp
    cases ht : T[p]? with
    | none => rw [ht] at this; cases this
    | some b => rw [ht] at this hTp; simp at this hTp; rw [this] at hTp; cases hTp
   ·have hq2 : l[i]? = some q := by simpa using hq'
    rw [hq2] at h5
    simp only [Bool.and_eq_true, Bool.or_eq_true] at h5
    exact ⟨q, hq', h5.1, by rcases h5.2 with (h6 | h6) | h6; exact .inl h6; exact .inr (.inl h6); exact .inr (.inr h6)⟩
 | .two p t q u, m, L, S, F, H, hL, hS, hb, hm, hok, h => by
  simp only [otOk, Bool.and_eq_true, beq_iff_eq, decide_eq_true_eq] at hok
  obtain ⟨⟨⟨hlen, hrd⟩, hok1⟩, hok2⟩ := hok
  have mem : ∀ i, i ∈ Region.ready .any l.toArray S ↔ i = p ∨ i = q := by
   intro i
   rw [lst_ready hL hb]
   constructor
   ·intro h1
    have h2 : i ∈ rdys l L := List.mem_filter.2 ⟨List.mem_range.2 (by have := (mem_ready.1 ((lst_ready hL hb).2 h1)).1; simpa using this), h1⟩
    rw [hrd] at h2; simpa using h2
   ·intro h1
    have h2 : i ∈ rdys l L := by rw [hrd]; simpa using h1
    exact (List.mem_filter.1 h2).2
  obtain ⟨m, rfl⟩ : ∃ k, m = k + 1 := ⟨m - 1, by omega⟩
  have hp := (mem p).2 (.inl rfl)
  have hq := (mem q).2 (.inr rfl)
  have br : ∀ (x : Nat) (t' : OT), x ∈ Region.ready .any l.toArray S → otOk l (masks l) (x :: L) t' = true → (∀ F' H', aTree P l K t' F' H' → aAny P l.toArray K m (S.setIfInBounds x true) F' H') → aIdx P l.toArray (aTree P l K t') x F H → aIdx P l.toArray (aAny P l.toArray K m (S.setIfInBounds x true)) x F H := by
   intro x t' hx _ ih hh
   unfold aIdx at hh ⊢
   split at hh
   ·exact aGuard_mono ih hh
   ·exact ih _ _ hh
  have hlt : ∀ x, x ∈ Region.ready .any l.toArray S → x < l.length := fun x hx => by have := (mem_ready.1 hx).1; simpa using this
  have ihp := fun F' H' => any_tree t m (p :: L) (S.setIfInBounds p true) F' H' (lst_set hL (hlt p hp)) (closed_set hS (by simpa using hL.1) hp) (by intro x hx; rcases List.mem_cons.1 hx with rfl | hx; exact hlt _ hp; exact hb x hx) (by simp; omega) hok1
  have ihq := fun F' H' => any_tree u m (q :: L) (S.setIfInBounds q true) F' H' (lst_set hL (hlt q hq)) (closed_set hS (by simpa using hL.1) hq) (by intro x hx; rcases List.mem_cons.1 hx with rfl | hx; exact hlt _ hq; exact hb x hx) (by simp; omega) hok2
  refine ⟨fun h0 => absurd hp (by rw [h0]; simp), fun i hi => ?_⟩
  rcases (mem i).1 hi with rfl | rfl
  ·exact br i t hi hok1 ihp h.1
  ·exact br i u hi hok2 ihq h.2
 | .three p t q u r v, m, L, S, F, H, hL, hS, hb, hm, hok, h => by
  simp only [otOk, Bool.and_eq_true, beq_iff_eq, decide_eq_true_eq] at hok
  obtain ⟨⟨⟨⟨hlen, hrd⟩, hok1⟩, hok2⟩, hok3⟩ := hok
  have mem : ∀ i, i ∈ Region.ready .any l.toArray S ↔ i = p ∨ i = q ∨ i = r := by
   intro i
   rw [lst_ready hL hb]
   constructor
   ·intro h1
    have h2 : i ∈ rdys l L := List.mem_filter.2 ⟨List.mem_range.2 (by have := (mem_ready.1 ((lst_ready hL hb).2 h1)).1; simpa using this), h1⟩
    rw [hrd] at h2; simpa using h2
   ·intro h1
    have h2 : i ∈ rdys l L := by rw [hrd]; simpa using h1
    exact (List.mem_filter.1 h2).2
  obtain ⟨m, rfl⟩ : ∃ k, m = k + 1 := ⟨m - 1, by omega⟩
  have hp := (mem p).2 (.inl rfl)
  have hq := (mem q).2 (.inr (.inl rfl))
  have hr := (mem r).2 (.inr (.inr rfl))
  have br : ∀ (x : Nat) (t' : OT), x ∈ Region.ready .any l.toArray S → otOk l (masks l) (x :: L) t' = true → (∀ F' H', aTree P l K t' F' H' → aAny P l.toArray K m (S.setIfInBounds x true) F' H') → aIdx P l.toArray (aTree P l K t') x F H → aIdx P l.toArray (aAny P l.toArray K m (S.setIfInBounds x true)) x F H := by
   intro x t' hx _ ih hh
   unfold aIdx at hh ⊢
   split at hh
   ·exact aGuard_mono ih hh
   ·exact ih _ _ hh
  have hlt : ∀ x, x ∈ Region.ready .any l.toArray S → x < l.length := fun x hx => by have := (mem_ready.1 hx).1; simpa using this
  have ihp := fun F' H' => any_tree t m (p :: L) (S.setIfInBounds p true) F' H' (lst_set hL (hlt p hp)) (closed_set hS (by simpa using hL.1) hp) (by intro x hx; rcases List.mem_cons.1 hx with rfl | hx; exact hlt _ hp; exact hb x hx) (by simp; omega) hok1
  have ihq := fun F' H' => any_tree u m (q :: L) (S.setIfInBounds q true) F' H' (lst_set hL (hlt q hq)) (closed_set hS (by simpa using hL.1) hq) (by intro x hx; rcases List.mem_cons.1 hx with rfl | hx; exact hlt _ hq; exact hb x hx) (by simp; omega) hok2
  have ihr := fun F' H' => any_tree v m (r :: L) (S.setIfInBounds r true) F' H' (lst_set hL (hlt r hr)) (closed_set hS (by simpa using hL.1) hr) (by intro x hx; rcases List.mem_cons.1 hx with rfl | hx; exact hlt _ hr; exact hb x hx) (by simp; omega) hok3
  refine ⟨fun h0 => absurd hp (by rw [h0]; simp), fun i hi => ?_⟩
  rcases (mem i).1 hi with rfl | rfl | rfl
  ·exact br i t hi hok1 ihp h.1
  ·exact br i u hi hok2 ihq h.2.1
  ·exact br i v hi hok3 ihr h.2.2
 | .four p t q u r v s w, m, L, S, F, H, hL, hS, hb, hm, hok, h => by
  simp only [otOk, Bool.and_eq_true, beq_iff_eq, decide_eq_true_eq] at hok
  obtain ⟨⟨⟨⟨⟨hlen, hrd⟩, hok1⟩, hok2⟩, hok3⟩, hok4⟩ := hok
  have mem : ∀ i, i ∈ Region.ready .any l.toArray S ↔ i = p ∨ i = q ∨ i = r ∨ i = s := by
   intro i
   rw [lst_ready hL hb]
   constructor
   ·intro h1
    have h2 : i ∈ rdys l L := List.mem_filter.2 ⟨List.mem_range.2 (by have := (mem_ready.1 ((lst_ready hL hb).2 h1)).1; simpa using this), h1⟩
    rw [hrd] at h2; simpa using h2
   ·intro h1
    have h2 : i ∈ rdys l L := by rw [hrd]; simpa using h1
    exact (List.mem_filter.1 h2).2
  obtain ⟨m, rfl⟩ : ∃ k, m = k + 1 := ⟨m - 1, by omega⟩
  have hp := (mem p).2 (.inl rfl)
  have hq := (mem q).2 (.inr (.inl rfl))
  have hr := (mem r).2 (.inr (.inr (.inl rfl)))
  have hs4 := (mem s).2 (.inr (.inr (.inr rfl)))
  have br : ∀ (x : Nat) (t' : OT), x ∈ Region.ready .any l.toArray S → otOk l (masks l) (x :: L) t' = true → (∀ F' H', aTree P l K t' F' H' → aAny P l.toArray K m (S.setIfInBounds x true) F' H') → aIdx P l.toArray (aTree P l K t') x F H → aIdx P l.toArray (aAny P l.toArray K m (S.setIfInBounds x true)) x F H := by
   intro x t' hx _ ih hh
   unfold aIdx at hh ⊢
   split at hh
   ·exact aGuard_mono ih hh
   ·exact ih _ _ hh
  have hlt : ∀ x, x ∈ Region.ready .any l.toArray S → x < l.length := fun x hx => by have := (mem_ready.1 hx).1; simpa using this
  have ihp := fun F' H' => any_tree t m (p :: L) (S.setIfInBounds p true) F' H' (lst_set hL (hlt p hp)) (closed_set hS (by simpa using hL.1) hp) (by intro x hx; rcases List.mem_cons.1 hx with rfl | hx; exact hlt _ hp; exact hb x hx) (by simp; omega) hok1
  have ihq := fun F' H' => any_tree u m (q :: L) (S.setIfInBounds q true) F' H' (lst_set hL (hlt q hq)) (closed_set hS (by simpa using hL.1) hq) (by intro x hx; rcases List.mem_cons.1 hx with rfl | hx; exact hlt _ hq; exact hb x hx) (by simp; omega) hok2
  have ihr := fun F' H' => any_tree v m (r :: L) (S.setIfInBounds r true) F' H' (lst_set hL (hlt r hr)) (closed_set hS (by simpa using hL.1) hr) (by intro x hx; rcases List.mem_cons.1 hx with rfl | hx; exact hlt _ hr; exact hb x hx) (by simp; omega) hok3
  have ihs := fun F' H' => any_tree w m (s :: L) (S.setIfInBounds s true) F' H' (lst_set hL (hlt s hs4)) (closed_set hS (by simpa using hL.1) hs4) (by intro x hx; rcases List.mem_cons.1 hx with rfl | hx; exact hlt _ hs4; exact hb x hx) (by simp; omega) hok4
  refine ⟨fun h0 => absurd hp (by rw [h0]; simp), fun i hi => ?_⟩
  rcases (mem i).1 hi with rfl | rfl | rfl | rfl
  ·exact br i t hi hok1 ihp h.1
  ·exact br i u hi hok2 ihq h.2.1
  ·exact br i v hi hok3 ihr h.2.2.1
  ·exact br i w hi hok4 ihs h.2.2.2
theorem w_tree {id : Nat} {Q : AExit → Fr → Hp → Prop} (t : OT) (hm : P.follows .mixedOrders = true) (hl : otOk l (masks l) [] t = true) (h : aTree P l (Q .normal) t F H) : AWp P n N L (.region id l.toArray true) Q F H := by
 refine ⟨hm, ?_⟩
 have := any_tree (P := P) (K := Q .normal) (l := l) t l.length [] (Array.replicate l.length false) F H ⟨by simp, fun i hi => by simp [hi]⟩ (by intro i hi; rw [Array.getD_eq_getD_getElem?] at hi; by_cases h : i < l.length <;> simp [h] at hi) sMp sMp hl h
 simpa using this
end
section
variable (P : Program) (l : List Oper) (K : Fr → Hp → Prop) (F : Fr) (H : Hp)
def aAt (P : Program) (l : List Oper) (K : Fr → Hp → Prop) (t : OT) (o : Option Oper) (F : Fr) (H : Hp) : Prop := match o with
 | some o => aGuard P l.toArray o (aTree P l K t) F H
 | none => aTree P l K t F H
def opAt : List Oper → Nat → Option Oper
 | [], _ => none
 | o :: _, 0 => some o
 | _ :: l, j + 1 => opAt l j
theorem opAt_eq : ∀ (l : List Oper) (j : Nat), l[j]? = opAt l j
 | [], j => by simp [opAt]
 | o :: l, 0 => by simp [opAt]
 | o :: l, j + 1 => by simp [opAt, opAt_eq l j]
@[go_sem ↓] theorem opat_zero (o : Oper) (l : List Oper) : opAt (o :: l) 0 = some o := (rfl)
@[go_sem ↓] theorem opat_succ (o : Oper) (l : List Oper) (j : Nat) : opAt (o :: l) (j + 1) = opAt l j := (rfl)
@[go_sem ↓] theorem t_done : aTree P l K .done F H = K F H := (rfl)
theorem aIdx_at (t : OT) (p : Nat) : aIdx P l.toArray (aTree P l K t) p F H = aAt P l K t (opAt l p) F H := by
 unfold aIdx aAt
 rw [List.getElem?_toArray, opAt_eq]
 cases opAt l p <;> rfl
@[go_sem ↓] theorem t_one (p : Nat) (t : OT) : aTree P l K (.one p t) F H = aAt P l K t (opAt l p) F H := aIdx_at P l K F H t p
@[go_sem ↓] theorem t_two (p q : Nat) (t u : OT) : aTree P l K (.two p t q u) F H = (aAt P l K t (opAt l p) F H ∧ aAt P l K u (opAt l q) F H) := by
 rw [← aIdx_at, ← aIdx_at]; rfl
@[go_sem ↓] theorem t_three (p q r : Nat) (t u v : OT) : aTree P l K (.three p t q u r v) F H = (aAt P l K t (opAt l p) F H ∧ aAt P l K u (opAt l q) F H ∧ aAt P l K v (opAt l r) F H) := by
 rw [← aIdx_at, ← aIdx_at, ← aIdx_at]; rfl
@[congr] theorem aat_congr {t : OT} {o o' : Option Oper} {H H' : Hp} (h1 : o = o') (h2 : H = H') : aAt P l K t o F H = aAt P l K t o' F H' := by rw [h1, h2]
def ContT (P : Program) (l : List Oper) (K : Fr → Hp → Prop) (t : OT) (F : Fr) (dst : Option Tmp) : AV → Hp → Prop := fun v H' => aTree P l K t (F.put dst v) H'
@[go_sem ↓] theorem contt_go (t : OT) (dst : Option Tmp) (v : AV) : ContT P l K t F dst v H = aTree P l K t (F.put dst v) H := (rfl)
@[go_sem ↓] theorem at_plain (t : OT) (dst : Option Tmp) (op : Op) (ty : TypeId) (pos : String) (after : Array Edge) : aAt P l K t (some ⟨dst, op, ty, pos, after, none⟩) F H = aOp P op (evC F) H (ContT P l K t F dst) := (rfl)
def aGT (P : Program) (v : AV) (want : Bool) (op : Op) (l : List Oper) (K : Fr → Hp → Prop) (t : OT) (F : Fr) (dst : Option Tmp) (H : Hp) : Prop := match v with
 | .c (.bool b) => (b = want → aOp P op (evC F) H (ContT P l K t F dst)) ∧ (b = !want → aTree P l K t (F.put dst (.tup [])) H)
 | .tup [] => aTree P l K t (F.put dst (.tup [])) H
 | _ => False
def aGT2 (P : Program) (x : Option Tmp) (want : Bool) (op : Op) (l : List Oper) (K : Fr → Hp → Prop) (t : OT) (F : Fr) (dst : Option Tmp) (H : Hp) : Prop := match x with
 | some x => aGT P (F x) want op l K t F dst H
 | none => False
@[congr] theorem agt_congr {v v' : AV} {want : Bool} {op : Op} {t : OT} {dst : Option Tmp} (h : v = v') : aGT P v want op l K t F dst H = aGT P v' want op l K t F dst H := by rw [h]
@[congr] theorem agt2_congr {x x' : Option Tmp} {want : Bool} {op : Op} {t : OT} {dst : Option Tmp} (h : x = x') : aGT2 P x want op l K t F dst H = aGT2 P x' want op l K t F dst H := by rw [h]
@[go_sem ↓] theorem at_guard (t : OT) (dst : Option Tmp) (op : Op) (ty : TypeId) (pos : String) (after : Array Edge) (j : Nat) (want : Bool) : aAt P l K t (some ⟨dst, op, ty, pos, after, some (j, want)⟩) F H = aGT2 P (dstAt l j) want op l K t F dst H := by
 simp only [aAt, aGuard, aGT2, List.getElem?_toArray, dstAt_eq]
 cases dstAt l j with
 | none => rfl
 | some x =>
  simp only [aGT]
  generalize F x = v
  cases v with
  | c y => cases y <;> rfl
  | tup ts => cases ts <;> rfl
  | _ => rfl
variable (op : Op) (t : OT) (dst : Option Tmp)
@[go_sem] theorem agt2_some (x : Tmp) (want : Bool) : aGT2 P (some x) want op l K t F dst H = aGT P (F x) want op l K t F dst H := (rfl)
@[go_sem] theorem agt_tt : aGT P (.c (.bool true)) true op l K t F dst H = aOp P op (evC F) H (ContT P l K t F dst) := by simp [aGT]
@[go_sem] theorem agt_ft : aGT P (.c (.bool false)) true op l K t F dst H = aTree P l K t (F.put dst (.tup [])) H := by simp [aGT]
end
/-! ### loops -/
end Go.Proofs.YtagoolooikpabaaGreatDoor
namespace Go.Proofs.YtagoolooikpabaaGreatDoor
open Go Go.RowKit
section
variable {P : Program} {H A G : Hp} {K : AV → Hp → Prop} {n : Nat} {v : AV}
theorem Ret.wk {v' : AV} {H' : Hp} (h : WkL n [v] H [v'] H') (hk : K v' H') : Ret n v H K := fun _ _ => ⟨v', H', h, hk⟩
theorem Ret.same (hn : n ≤ H.length) (hk : K v H) : Ret n v H K := Ret.wk (WkL.refl hn) hk
theorem Ret.drop (hA : HOk A) (hn : n ≤ A.length) (ho : v.ok A.length) (hk : K v A) : Ret n v (A ++ G) K :=
 Ret.wk (WkL.drop hA hn (by simpa using ho)) hk
theorem Ret.to {v' : AV} (e : v = v') (hk : Ret n v' H K) : Ret n v H K := by subst e; exact hk
theorem Ret.frz {i ty sz : Nat} {els : List (List AC)} {own : Bool} (hi : H[i]? = some (.row ty sz els own)) (hp : pureL els = true) (hn : n ≤ H.length) (hk : Ret n (v.frz i sz els) (H.set i (.row ty sz els false)) K) : Ret n v H K := by
 intro hH hv
 have h6 := hH i _ hi
 have hH' : HOk (H.set i (.row ty sz els false)) := HOk.set hH h6
 have h1 := WkL.frz (m := n) (vs := [v]) hi hp hn
 have hok : (v.frz i sz els).ok (H.set i (.row ty sz els false)).length := by
  rw [List.length_set]
  have key : ∀ x : AC, x.ok H.length → (x.frz i sz els).ok H.length := by
   intro x hx
   unfold AC.frz
   split
   ·split <;> first | trivial | exact hx
   ·exact hx
  have key1 : ∀ x : AV, x.ok1 H.length → (x.frz1 i sz els).ok1 H.length := by
   intro x hx
   cases x <;> first | exact key _ hx | exact hx
  cases v with
  | c x => exact key x hv
  | agg cs => exact hv
  | any => exact hv
  | tup ts =>
   intro x hx
   obtain ⟨y, hy, rfl⟩ := List.mem_map.1 hx
   exact key1 y (hv y hy)
 obtain ⟨v', H', h2, h3⟩ := hk hH' hok
 exact ⟨v', H', h1.trans h2, h3⟩
attribute [go_sem] AV.frz AV.frz1 AC.frz
/-! ### an empty slice is read as one -/
def AC.nilz (sz : Nat) : AC → AC
 | .sl _ 0 => .lst sz []
 | x => x
def AV.nilz : List Nat → AV → AV
 | sz :: _, .c x => .c (x.nilz sz)
 | szs, .tup vs => .tup (go szs vs)
 | _, x => x
where go : List Nat → List AV → List AV
 | sz :: szs, .c x :: vs => .c (x.nilz sz) :: go szs vs
 | _ :: szs, x :: vs => x :: go szs vs
 | [], vs => vs
 | _, [] => []
theorem AC.nilz_rel {ι : En} {x : AC} {v : Value} (sz : Nat) (h : x.rel ι v) : (x.nilz sz).rel ι v := by
 unfold AC.nilz
 split
 ·rename_i r
  show AC.rel ι (.lst sz []) v
  simp only [AC.rel, AC.relZ]
  cases r with
  | none => obtain ⟨_, rfl⟩ := h; exact ⟨none, 0, by simp, by simp, by simp, by simp, by simp⟩
  | some p => obtain ⟨a, rfl, _, _⟩ := h; exact ⟨some a, _, rfl, by simp, by simp, by simp, by simp [relRows]⟩
 ·exact h
theorem AC.nilz_ok {x : AC} (sz : Nat) (h : x.ok n) : (x.nilz sz).ok n := by
 unfold AC.nilz
 split
 ·trivial
 ·exact h
theorem AV.nilz_rel {ι : En} {x : AV} {v : Value} (szs : List Nat) (h : x.rel ι v) (ho : x.ok n) : (x.nilz szs).rel ι v ∧ (x.nilz szs).ok n := by
 have key : ∀ (vs : List AV) (szs : List Nat) (us : List Value), rel1L ι vs us → (∀ x ∈ vs, x.ok1 n) → rel1L ι (AV.nilz.go szs vs) us ∧ ∀ x ∈ AV.nilz.go szs vs, x.ok1 n := by
  intro vs
  induction vs with
  | nil => intro szs us h ho; cases szs <;> exact ⟨h, ho⟩
  | cons x vs ih =>
   intro szs us h ho
   cases szs with
   | nil => exact ⟨h, ho⟩
   | cons sz szs =>
    cases us with
    | nil => exact h.elim
    | cons u us =>
     obtain ⟨h1, h2⟩ := ih szs us h.2 (fun y hy => ho y (by simp [hy]))
     cases x with
     | c x =>
      refine ⟨⟨AC.nilz_rel sz h.1, h1⟩, ?_⟩
      intro y hy
      rcases List.mem_cons.1 hy with rfl | hy
      ·exact AC.nilz_ok sz (ho _ (List.mem_cons_self))
      ·exact h2 y hy
     | _ =>
      refine ⟨⟨h.1, h1⟩, ?_⟩
      intro y hy
      rcases List.mem_cons.1 hy with rfl | hy
      ·exact ho _ (List.mem_cons_self)
      ·exact h2 y hy
 cases x with
 | c x =>
  cases szs with
  | nil => exact ⟨h, ho⟩
  | cons sz szs => exact ⟨AC.nilz_rel sz h, AC.nilz_ok sz ho⟩
 | tup vs =>
  obtain ⟨us, rfl, h⟩ := h
  obtain ⟨h1, h2⟩ := key vs szs us h ho
  cases szs <;> exact ⟨⟨us, rfl, h1⟩, h2⟩
 | agg cs => cases szs <;> exact ⟨h, ho⟩
 | any => cases szs <;> exact ⟨h, ho⟩
theorem Ret.nil (szs : List Nat) (hn : n ≤ H.length) (hk : Ret n (v.nilz szs) H K) : Ret n v H K := by
 intro hH hv
 have h1 : WkL n [v] H [v.nilz szs] H := by
  intro B w0 ι w us hs hr ho
  match us, hr with
  | [u], hr =>
   obtain ⟨h1, h2⟩ := AV.nilz_rel szs hr.1 (ho v sMp)
   exact ⟨ι, Agree.refl _ _, hn, hs, ⟨h1, trivial⟩, by intro x hx; rw [List.mem_singleton] at hx; subst hx; exact h2⟩
 have hok : (v.nilz szs).ok H.length := by
  have key : ∀ (vs : List AV) (szs : List Nat), (∀ x ∈ vs, x.ok1 H.length) → ∀ x ∈ AV.nilz.go szs vs, x.ok1 H.length := by
   intro vs
   induction vs with
   | nil => intro szs ho; cases szs <;> exact ho
   | cons x vs ih =>
    intro szs ho
    cases szs with
    | nil => exact ho
    | cons sz szs =>
     have h2 := ih szs (fun y hy => ho y (by simp [hy]))
     cases x with
     | c x =>
      intro y hy
      rcases List.mem_cons.1 hy with rfl | hy
      ·exact AC.nilz_ok sz (ho _ (List.mem_cons_self))
      ·exact h2 y hy
     | _ =>
      intro y hy
      rcases List.mem_cons.1 hy with rfl | hy
      ·exact ho _ (List.mem_cons_self)
      ·exact h2 y hy
  cases v with
  | c x => cases szs with | nil => exact hv | cons sz szs => exact AC.nilz_ok sz hv
  | tup vs => cases szs <;> exact key vs _ hv
  | agg cs => cases szs <;> exact hv
  | any => cases szs <;> exact hv
 obtain ⟨v', H', h2, h3⟩ := hk hH hok
 exact ⟨v', H', h1.trans h2, h3⟩
attribute [go_sem] AC.nilz AV.nilz AV.nilz.go
/-! ### slices handed on -/
theorem ACalls.frz {f : FuncId} {args : List AV} {i ty sz : Nat} {els : List (List AC)} {own : Bool} (hi : H[i]? = some (.row ty sz els own)) (hp : pureL els = true)
  (h : ACalls P f (args.map (AV.frz1 i sz els)) (H.set i (.row ty sz els false)) K) : ACalls P f args H K := by
 intro B w0 ι w vs hs hr ho
 obtain ⟨ι', h1, h2, h3⟩ := hs.frz hi hp
 have key : ∀ (ts : List AV) (us : List Value), rel1L ι ts us → (∀ x ∈ ts, x.ok1 H.length) → rel1L ι' (ts.map (AV.frz1 i sz els)) us ∧ ∀ x ∈ ts.map (AV.frz1 i sz els), x.ok1 H.length := by
  intro ts
  induction ts with
  | nil => intro us h _; cases us with | nil => exact ⟨trivial, by simp⟩ | cons _ _ => exact h.elim
  | cons t ts ih =>
   intro us h ho
   cases us with
   | nil => exact h.elim
   | cons u us =>
    obtain ⟨g1, g2⟩ := ih us h.2 (fun x hx => ho x (by simp [hx]))
    obtain ⟨g3, g4⟩ := AV.frz1_rel h1 (ho t sMp) h.1 h3
    exact ⟨⟨g3, g1⟩, fun x hx => by
     rcases List.mem_cons.1 hx with rfl | hx
     ·exact g4
     ·exact g2 x hx⟩
 obtain ⟨g1, g2⟩ := key args vs.toList hr ho
 have h4 := h B w0 ι' w vs h2 g1 (by rw [List.length_set]; exact g2)
 rw [List.length_set] at h4
 refine h4.mono fun e w' he => ?_
 obtain ⟨ι2, v, av, H', k1, k2, k3, k4, k5, k6, k7⟩ := he
 exact ⟨ι2, v, av, H', k1, h1.trans k2 lRf, k3, k4, k5, k6, k7⟩
def flatC : AC → Bool
 | .int _ _ | .bool _ | .str _ | .nilf => true
 | _ => false
def flatV1 : AV → Bool
 | .c x => flatC x
 | .agg cs => cs.all flatC
 | .any => true
 | .tup _ => false
theorem flatC_ok {x : AC} (h : flatC x = true) (n : Nat) : x.ok n := by cases x <;> first | trivial | cases h
theorem flat1_ok {x : AV} (h : flatV1 x = true) (n : Nat) : x.ok1 n := by
 cases x with
 | c x => exact flatC_ok h n
 | agg cs => exact fun y hy => flatC_ok (List.all_eq_true.1 h y hy) n
 | any => trivial
 | tup ts => cases h
/-! ### append -/
def aAppL (e sz bs : Nat) (r : Option (Nat × Nat)) (n : Nat) (new : List (List AC)) (H : Hp) (J : AV → Hp → Prop) : Prop := match new, r with
 | [], r => J (.c (.sl r n)) H
 | x :: xs, none => aIf (n = 0 ∧ 0 < sz ∧ (x :: xs).length * bs ≤ 140737488355328 ∧ (x :: xs).length ≤ 9223372036854775807) (.c (.sl (some (H.length, 0)) (x :: xs).length)) (H ++ [.row e sz (x :: xs) true]) J
 | x :: xs, some (i, k) => k = 0 ∧ match H[i]? with
  | some (.row e' sz' els true) => aIf (e' = e ∧ sz' = sz ∧ n ≤ els.length ∧ 0 < sz ∧ (n + (x :: xs).length) * bs ≤ 140737488355328 ∧ n + (x :: xs).length ≤ 9223372036854775807) (.c (.sl (some (H.length, 0)) (n + (x :: xs).length))) (H.set i .dead ++ [.row e sz (els.take n ++ (x :: xs)) true]) J
  | _ => False
def aAppO (tt : Prop) (e : Option Nat) (z : Option (List AC)) (sz bs : Nat) (r : Option (Nat × Nat)) (n : Nat) (new : Option (List (List AC))) (H : Hp) (J : AV → Hp → Prop) : Prop := match e, z, new with
 | some e, some z, some new => tt ∧ z.length = sz ∧ aAppL e sz bs r n new H J
 | _, _, _ => False
def srcO (ob : Option AObj) (sz k m : Nat) : Option (List (List AC)) := match ob with
 | some (.row _ sz' els _) => if sz' = sz ∧ k + m ≤ els.length then some ((els.drop k).take m) else none
 | _ => none
theorem app_of_L {t e : Nat} {r : Option (Nat × Nat)} {n m : Nat} {new : List (List AC)} {z : List AC} {J : AV → Hp → Prop} (he : elemT P t = some e) (hz : zeroT P e = some z) (hzl : z.length = szT P e) (hm : new.length = m)
  (h : aAppL e (szT P e) (P.bytesOf e) r n new H J) : (m = 0 → J (.c (.sl r n)) H) ∧ (0 < m → ∃ els : List (List AC), ownA P H e r n els ∧ 0 < szT P e ∧ (n + m) * P.bytesOf e ≤ 140737488355328 ∧ n + m ≤ 9223372036854775807 ∧
     J (.c (.sl (some (H.length, 0)) (n + m))) (killA r H ++ [.row e (szT P e) (els.take n ++ new) true])) := by
 subst hm
 unfold aAppL at h
 split at h
 ·exact ⟨fun _ => h, fun h0 => by simp at h0⟩
 ·refine ⟨fun h0 => by simp at h0, fun _ => ?_⟩
  obtain ⟨⟨rfl, h1, h2, h3⟩, h4⟩ := h
  exact ⟨[], ⟨rfl, rfl⟩, h1, by simpa using h2, by simpa using h3, by simpa [killA] using h4⟩
 ·refine ⟨fun h0 => by simp at h0, fun _ => ?_⟩
  obtain ⟨rfl, h⟩ := h
  split at h
  ·rename_i els hi
   obtain ⟨⟨rfl, rfl, h0, h1, h2, h3⟩, h4⟩ := h
   exact ⟨els, ⟨rfl, hi, h0⟩, h1, h2, h3, h4⟩
  ·exact h.elim
theorem app_sl {t t' : TypeId} {r : Option (Nat × Nat)} {j k n m : Nat} {J : AV → Hp → Prop} (h : aAppO (t = t') (elemT P t) ((elemT P t).bind (zeroT P)) ((elemT P t).elim 0 (szT P)) ((elemT P t).elim 0 P.bytesOf) r n (srcO H[j]? ((elemT P t).elim 0 (szT P)) k m) H J) :
  aBuiltin P .append #[t, t'] [.c (.sl r n), .c (.sl (some (j, k)) m)] H J := by
 unfold aAppO at h
 split at h
 ·rename_i e z new he hz hn
  obtain ⟨rfl, h1, h2⟩ := h
  rw [he] at hz hn h1 h2
  simp only [Option.bind_some, Option.elim_some] at hz hn h1 h2
  unfold srcO at hn
  split at hn
  ·rename_i ty sz' els own hi
   split at hn
   ·rename_i hc
    obtain ⟨rfl, hc⟩ := hc
    injection hn with hn
    have hm : new.length = m := by rw [← hn, List.length_take, List.length_drop]; omega
    obtain ⟨h3, h4⟩ := app_of_L he hz h1 hm h2
    show _ ∧ _
    refine ⟨rfl, ?_⟩
    rw [he]
    refine ⟨by rw [hz, Option.map_some, h1], h3, fun h0 => ?_⟩
    obtain ⟨els2, g1, g2, g3, g4, g5⟩ := h4 h0
    exact ⟨els2, new, g1, ⟨ty, els, own, hi, hc, hn.symm⟩, g2, g3, g4, .inl g5⟩
   ·cases hn
  ·cases hn
 ·exact h.elim
theorem app_str0 {t t' e : TypeId} {r : Option (Nat × Nat)} {n : Nat} {s : ByteArray} {J : AV → Hp → Prop} (h1 : P.underlying t' = some .string) (he : elemT P t = some e) (hz : (P.info? e).bind (·.zero) = some (.int .u8 0)) (hs : szT P e = 1) (hb : P.bytesOf e = 1)
  (h : aAppL e 1 1 r n (s.data.toList.map fun b => [AC.int .u8 b.toNat]) H J) : aBuiltin P .append #[t, t'] [.c (.sl r n), .c (.str s)] H J := by
 show _ ∧ _
 refine ⟨h1, ?_⟩
 rw [he]
 have hl : (s.data.toList.map fun b => [AC.int .u8 b.toNat]).length = s.size := by rw [List.length_map]; exact Array.length_toList
 refine ⟨hz, hs, hb, fun h0 => ?_, fun h0 => ?_⟩
 ·rw [List.length_eq_zero_iff.1 (hl.trans h0)] at h
  exact h
 ·unfold aAppL at h
  split at h
  ·rename_i hnil; rw [hnil] at hl; simp at hl; omega
  ·rename_i x xs hx
   rw [hx] at hl ⊢
   obtain ⟨⟨rfl, g2, g3, g4⟩, g5⟩ := h
   refine ⟨[], ⟨rfl, rfl⟩, by omega, ?_⟩
   rw [← hl, hs, List.take_nil, List.nil_append, Nat.zero_add]
   exact g5
  ·rename_i x xs i k hx
   rw [hx] at hl ⊢
   obtain ⟨rfl, h⟩ := h
   split at h
   ·rename_i els hi
    obtain ⟨⟨rfl, rfl, g2, g3, g4, g5⟩, g6⟩ := h
    refine ⟨els, ⟨rfl, by rw [hs]; exact hi, g2⟩, by omega, ?_⟩
    rw [← hl, hs]
    exact g6
   ·exact h.elim
def newO (a b : Nat) (new : List (List AC)) : Option (List (List AC)) := if a = b then some new else none
@[go_sem] theorem newO_same (a : Nat) (new : List (List AC)) : newO a a new = some new := if_pos rfl
theorem app_lst {t t' : TypeId} {sz : Nat} {r : Option (Nat × Nat)} {n : Nat} {new : List (List AC)} {J : AV → Hp → Prop} (h : aAppO (t = t') (elemT P t) ((elemT P t).bind (zeroT P)) ((elemT P t).elim 0 (szT P)) ((elemT P t).elim 0 P.bytesOf) r n (newO sz ((elemT P t).elim 0 (szT P)) new) H J) :
  aBuiltin P .append #[t, t'] [.c (.sl r n), .c (.lst sz new)] H J := by
 unfold aAppO at h
 split at h
 ·rename_i e z new' he hz hn
  obtain ⟨rfl, h1, h2⟩ := h
  rw [he] at hz hn h1 h2
  simp only [Option.bind_some, Option.elim_some] at hz hn h1 h2
  by_cases hc : sz = szT P e
  ·rw [newO, if_pos hc] at hn
   injection hn with hn
   subst hn
   obtain ⟨h3, h4⟩ := app_of_L he hz h1 rfl h2
   show _ ∧ _
   refine ⟨rfl, ?_⟩
   rw [he]
   refine ⟨by rw [hz, Option.map_some, h1], h3, fun h0 => ?_⟩
   obtain ⟨els2, g1, g2, g3, g4, g5⟩ := h4 h0
   exact ⟨els2, g1, hc, g2, g3, g4, g5⟩
  ·rw [newO, if_neg hc] at hn; cases hn
 ·exact h.elim
end
section
variable (P : Program) (H : Hp) (J : AV → Hp → Prop)
@[congr] theorem aappo_congr {t t' : Prop} {e e' : Option Nat} {z z' : Option (List AC)} {sz sz' bs bs' n n' : Nat} {r r' : Option (Nat × Nat)} {x x' : Option (List (List AC))} {H H' : Hp} (h1 : t = t') (h2 : e = e') (h3 : z = z') (h4 : sz = sz') (h5 : bs = bs') (h6 : r = r') (h7 : n = n') (h8 : x = x') (h10 : H = H') : aAppO t e z sz bs r n x H J = aAppO t' e' z' sz' bs' r' n' x' H' J := by rw [h1, h2, h3, h4, h5, h6, h7, h8, h10]
@[congr] theorem aappl_congr {e e' sz sz' bs bs' n n' : Nat} {r r' : Option (Nat × Nat)} {x x' : List (List AC)} {H H' : Hp} (h2 : e = e') (h4 : sz = sz') (h5 : bs = bs') (h6 : r = r') (h7 : n = n') (h8 : x = x') (h10 : H = H') : aAppL e sz bs r n x H J = aAppL e' sz' bs' r' n' x' H' J := by rw [h2, h4, h5, h6, h7, h8, h10]
@[go_sem] theorem appo_some (tt : Prop) (e sz bs n : Nat) (z : List AC) (r : Option (Nat × Nat)) (new : List (List AC)) : aAppO tt (some e) (some z) sz bs r n (some new) H J = (tt ∧ z.length = sz ∧ aAppL e sz bs r n new H J) := (rfl)
@[go_sem] theorem srco_row (ty sz' sz k m : Nat) (els : List (List AC)) (own : Bool) (h : sz' = sz ∧ k + m ≤ els.length) : srcO (some (.row ty sz' els own)) sz k m = some ((els.drop k).take m) := by simp only [srcO]; rw [if_pos h]
@[go_sem] theorem appl_none (e sz bs : Nat) (x : List AC) (xs : List (List AC)) : aAppL e sz bs none 0 (x :: xs) H J = aIf (0 < sz ∧ (x :: xs).length * bs ≤ 140737488355328 ∧ (x :: xs).length ≤ 9223372036854775807) (.c (.sl (some (H.length, 0)) (x :: xs).length)) (H ++ [.row e sz (x :: xs) true]) J := by simp [aAppL]
def aAppR (ob : Option AObj) (e sz bs i n : Nat) (new : List (List AC)) (H : Hp) (J : AV → Hp → Prop) : Prop := match ob with
  | some (.row e' sz' els true) => aIf (e' = e ∧ sz' = sz ∧ n ≤ els.length ∧ 0 < sz ∧ (n + new.length) * bs ≤ 140737488355328 ∧ n + new.length ≤ 9223372036854775807) (.c (.sl (some (H.length, 0)) (n + new.length))) (H.set i .dead ++ [.row e sz (els.take n ++ new) true]) J
  | _ => False
@[congr] theorem aappr_congr {ob ob' : Option AObj} {e e' sz sz' bs bs' i i' n n' : Nat} {x x' : List (List AC)} {H H' : Hp} (h1 : ob = ob') (h2 : e = e') (h4 : sz = sz') (h5 : bs = bs') (h6 : i = i') (h7 : n = n') (h8 : x = x') (h10 : H = H') : aAppR ob e sz bs i n x H J = aAppR ob' e' sz' bs' i' n' x' H' J := by rw [h1, h2, h4, h5, h6, h7, h8, h10]
@[go_sem] theorem appl_some (e sz bs i n : Nat) (x : List AC) (xs : List (List AC)) : aAppL e sz bs (some (i, 0)) n (x :: xs) H J = aAppR H[i]? e sz bs i n (x :: xs) H J := by
 simp only [aAppL, true_and]; rfl
@[go_sem] theorem appr_row (e sz bs i n : Nat) (els new : List (List AC)) : aAppR (some (.row e sz els true)) e sz bs i n new H J = aIf (n ≤ els.length ∧ 0 < sz ∧ (n + new.length) * bs ≤ 140737488355328 ∧ n + new.length ≤ 9223372036854775807) (.c (.sl (some (H.length, 0)) (n + new.length))) (H.set i .dead ++ [.row e sz (els.take n ++ new) true]) J := by simp [aAppR]
end
/-! ### a row that grows from nothing -/
def grV (i : Nat) {α : Type} (l : List α) : AC := match l with | [] => .sl none 0 | x :: xs => .sl (some (i, 0)) (x :: xs).length
def grO (e sz : Nat) (l : List (List AC)) : AObj := match l with | [] => .dead | x :: xs => .row e sz (x :: xs) true
theorem grV_pos (i : Nat) {α : Type} {l : List α} (h : l ≠ []) : grV i l = .sl (some (i, 0)) l.length := by cases l with | nil => exact absurd rfl h | cons x xs => rfl
theorem grO_pos (e sz : Nat) {l : List (List AC)} (h : l ≠ []) : grO e sz l = .row e sz l true := by cases l with | nil => exact absurd rfl h | cons x xs => rfl
@[go_sem] theorem grV_snoc (i : Nat) {α : Type} (l : List α) (x : α) : grV i (l ++ [x]) = .sl (some (i, 0)) (l.length + 1) := by rw [grV_pos i sMp]; simp
@[go_sem] theorem grO_snoc (e sz : Nat) (l : List (List AC)) (x : List AC) : grO e sz (l ++ [x]) = .row e sz (l ++ [x]) true := grO_pos e sz sMp
section
variable {P : Program} {H : Hp} {J : AV → Hp → Prop}
theorem appL_gr {e sz bs i : Nat} {l : List (List AC)} {x : List AC} (hi : H[i]? = some (grO e sz l)) (hs : 0 < sz) (hb : (l.length + 1) * bs ≤ 140737488355328) (hn : l.length + 1 ≤ 9223372036854775807)
  (h : J (.c (.sl (some (H.length, 0)) (l.length + 1))) (H.set i .dead ++ [.row e sz (l ++ [x]) true])) : ∀ (r : Option (Nat × Nat)) (n : Nat), grV i l = .sl r n → aAppL e sz bs r n [x] H J := by
 intro r n hr
 cases l with
 | nil =>
  injection hr with h1 h2
  subst h1; subst h2
  rw [appl_none]
  refine ⟨⟨hs, by simpa using hb, by simp⟩, ?_⟩
  have hd : H.set i .dead = H := by
   apply List.ext_getElem?
   intro j
   by_cases e : i = j
   ·subst e; rw [List.getElem?_set_self (getElem?_lt hi), hi]; rfl
   ·rw [List.getElem?_set_ne e]
  rw [hd] at h
  simpa using h
 | cons y ys =>
  injection hr with h1 h2
  subst h1; subst h2
  rw [appl_some, hi]
  show aAppR (some (.row e sz (y :: ys) true)) e sz bs i _ [x] H J
  rw [appr_row]
  refine ⟨⟨Nat.le_refl _, hs, by simpa using hb, by simpa using hn⟩, ?_⟩
  simpa using h
end
/-! ### objects chosen, the others left behind -/
def pickS (a : Nat) (ids : List Nat) (i : Nat) : Nat := if i < a then i else a + ids.getD (i - a) 0
def AObj.pureO : AObj → Bool
 | .row _ _ els _ => pureL els
 | .map _ _ _ => false
 | .dead => true
theorem pure_ren {σ : Nat → Nat} {x : AC} (h : x.pure = true) : x.ren σ = x := by
 cases x with
 | ptr r => cases r <;> first | rfl | cases h
 | sl r n => cases r <;> first | rfl | cases h
 | map r => cases r <;> first | rfl | cases h
 | fn f fs cs =>
  simp only [AC.pure, Bool.and_eq_true, List.isEmpty_iff] at h
  obtain ⟨rfl, rfl⟩ := h
  rfl
 | _ => rfl
theorem pureO_ren {σ : Nat → Nat} {o : AObj} (h : o.pureO = true) : o.ren σ = o := by
 cases o with
 | row ty sz els own =>
  simp only [AObj.ren]
  congr 1
  conv => rhs; rw [← List.map_id els]
  refine List.map_congr_left fun e he => ?_
  conv => rhs; rw [id, ← List.map_id e]
  exact List.map_congr_left fun x hx => pure_ren (List.all_eq_true.1 (List.all_eq_true.1 h e he) x hx)
 | map kt vt es => cases h
 | dead => rfl
section
variable {n m : Nat} {σ : Nat → Nat} (hσ : ∀ i, i < n → σ i = i)
include hσ
theorem AC.ren_id {x : AC} (h : x.ok n) : x.ren σ = x := by
 have hp : ∀ p : Nat × Nat × Nat, p.1 < n → renP σ p = p := fun p hp => by unfold renP; rw [hσ _ hp]
 cases x with
 | ptr r => cases r with | none => rfl | some p => simp only [AC.ren]; rw [hp p h]
 | sl r k => cases r with | none => rfl | some p => simp only [AC.ren]; rw [hσ _ h]
 | map r => cases r with | none => rfl | some p => simp only [AC.ren]; rw [hσ _ h]
 | fn f fs cs =>
  have e : ∀ l : List (Nat × Nat × Nat), (∀ p ∈ l, p.1 < n) → l.map (renP σ) = l := fun l hl => by
   conv => rhs; rw [← List.map_id l]
   exact List.map_congr_left fun p hp' => hp p (hl p hp')
  simp only [AC.ren]; rw [e fs h.1, e cs h.2]
 | _ => rfl
theorem AC.renL_id {l : List AC} (h : ∀ x ∈ l, x.ok n) : l.map (AC.ren σ) = l := by
 conv => rhs; rw [← List.map_id l]
 exact List.map_congr_left fun x hx => AC.ren_id hσ (h x hx)
theorem AV.ren1_id {x : AV} (h : x.ok1 n) : x.ren1 σ = x := by
 cases x with
 | c x => simp only [AV.ren1]; rw [AC.ren_id hσ h]
 | agg cs => simp only [AV.ren1]; rw [AC.renL_id hσ h]
 | _ => rfl
theorem AV.ren_id {x : AV} (h : x.ok n) : x.ren σ = x := by
 cases x with
 | c x => exact AV.ren1_id hσ (x := .c x) h
 | agg cs => exact AV.ren1_id hσ (x := .agg cs) h
 | any => rfl
 | tup ts =>
  simp only [AV.ren]
  congr 1
  conv => rhs; rw [← List.map_id ts]
  exact List.map_congr_left fun x hx => AV.ren1_id hσ (h x hx)
theorem AObj.ren_id {x : AObj} (h : x.okN n) : x.ren σ = x := by
 cases x with
 | row ty sz els own =>
  simp only [AObj.ren]
  congr 1
  conv => rhs; rw [← List.map_id els]
  exact List.map_congr_left fun e he => AC.renL_id hσ fun x hx => (h e he).2 x hx
 | map kt vt es =>
  simp only [AObj.ren]
  congr 1
  conv => rhs; rw [← List.map_id es]
  exact List.map_congr_left fun e he => by
   rw [AV.ren_id hσ (h e he).1, AV.ren_id hσ (h e he).2]; rfl
 | dead => rfl
end
theorem WkL.pick {A G L : Hp} {m : Nat} {vs vs' : List AV} (ids : List Nat) (hA : HOk A) (hm : m ≤ A.length) (hL : ids.map (fun j => G[j]?) = L.map some) (hd : ids.Nodup) (hp : L.all AObj.pureO = true)
  (hv : vs = vs'.map (AV.ren (pickS A.length ids))) (ho : ∀ x ∈ vs', x.ok (A.length + L.length)) : WkL m vs (A ++ G) vs' (A ++ L) := by
 have hlen : ids.length = L.length := by have := congrArg List.length hL; simpa using this
 have hget : ∀ (j : Nat) (o : AObj), L[j]? = some o → ∃ q, ids[j]? = some q ∧ G[q]? = some o := by
  intro j o hj
  have h1 : (L.map some)[j]? = some (some o) := by rw [List.getElem?_map, hj]; rfl
  rw [← hL, List.getElem?_map] at h1
  cases hq : ids[j]? with
  | none => rw [hq] at h1; cases h1
  | some q => rw [hq] at h1; exact ⟨q, rfl, by simpa using h1⟩
 have hlo : ∀ i, i < A.length → pickS A.length ids i = i := fun i hi => by simp [pickS, hi]
 intro B w0 ι w us hs hr hov
 have hok : HOk (A ++ L) := by
  intro i o hi
  rw [List.length_append]
  rcases Nat.lt_or_ge i A.length with h | h
  ·rw [List.getElem?_append_left h] at hi; exact AObj.okN_mono oMg (hA i o hi)
  ·rw [List.getElem?_append_right h] at hi
   obtain ⟨q, h1, h2⟩ := hget _ _ hi
   have h3 := hs.hok (A.length + q) o (by rw [List.getElem?_append_right oMg]; simpa using h2)
   have hpo := List.all_eq_true.1 hp o (List.mem_of_getElem? hi)
   cases o with
   | row ty sz els own => exact fun e he => ⟨(h3 e he).1, fun x hx => AC.ok_of_pure (List.all_eq_true.1 (List.all_eq_true.1 hpo e he) x hx) _⟩
   | map kt vt es => cases hpo
   | dead => trivial
 refine WkL.ren (m := m) (pickS A.length ids) (fun i hi => hlo i oMg) (by rw [List.length_append]; omega) (fun i o hi hl => ?_) (fun i j hi hj hij => ?_) hv (by rw [List.length_append]; exact ho) hok B w0 ι w us hs hr hov
 ·rcases Nat.lt_or_ge i A.length with h | h
  ·rw [List.getElem?_append_left h] at hi
   rw [hlo i h, AObj.ren_id (n := A.length) hlo (hA i o hi), List.getElem?_append_left h]; exact hi
  ·rw [List.getElem?_append_right h] at hi
   obtain ⟨q, h1, h2⟩ := hget _ _ hi
   rw [pureO_ren (List.all_eq_true.1 hp o (List.mem_of_getElem? hi))]
   have : pickS A.length ids i = A.length + q := by
    unfold pickS
    rw [if_neg oMg, List.getD_eq_getElem?_getD, h1]; rfl
   rw [this, List.getElem?_append_right oMg]
   simpa using h2
 ·rw [List.length_append] at hi hj
  have key : ∀ k, A.length ≤ k → k < A.length + L.length → ∃ q, ids[k - A.length]? = some q ∧ pickS A.length ids k = A.length + q := by
   intro k h1 h2
   have : k - A.length < ids.length := by omega
   refine ⟨ids[k - A.length], List.getElem?_eq_getElem this, ?_⟩
   unfold pickS
   rw [if_neg oMg, List.getD_eq_getElem?_getD, List.getElem?_eq_getElem this]; rfl
  rcases Nat.lt_or_ge i A.length with h1 | h1 <;> rcases Nat.lt_or_ge j A.length with h2 | h2
  ·rw [hlo i h1, hlo j h2] at hij; exact hij
  ·obtain ⟨q, _, h3⟩ := key j h2 hj
   rw [hlo i h1, h3] at hij; omega
  ·obtain ⟨q, _, h3⟩ := key i h1 hi
   rw [hlo j h2, h3] at hij; omega
  ·obtain ⟨q, h3, h4⟩ := key i h1 hi
   obtain ⟨q', h5, h6⟩ := key j h2 hj
   rw [h4, h6] at hij
   have : q = q' := by omega
   subst this
   obtain ⟨a1, a2⟩ := List.getElem?_eq_some_iff.1 h3
   obtain ⟨b1, b2⟩ := List.getElem?_eq_some_iff.1 h5
   have hpw := List.pairwise_iff_getElem.1 hd
   rcases Nat.lt_trichotomy (i - A.length) (j - A.length) with h7 | h7 | h7
   ·exact absurd (a2.trans b2.symm) (hpw _ _ a1 b1 h7)
   ·omega
   ·exact absurd (b2.trans a2.symm) (hpw _ _ b1 a1 h7)
/-! ### ends, ready for use -/
section
variable {H A G : Hp} {K : AV → Hp → Prop} {n m : Nat} {v v' : AV} {vs vs' : List AV}
theorem WkL.eq (hm : m ≤ H.length) (e : vs = vs') : WkL m vs H vs' H := by subst e; exact WkL.refl hm
theorem WkL.rest (hA : HOk A) (hm : m ≤ A.length) (e : vs = vs') (ho : ∀ x ∈ vs', x.ok A.length) : WkL m vs (A ++ G) vs' A := by
 subst e; exact WkL.drop hA hm ho
theorem Ret.dropE (hA : HOk A) (hn : n ≤ A.length) (hk : K v' A) (ho : v'.ok A.length) (e : v = v') : Ret n v (A ++ G) K := by subst e; exact Ret.drop hA hn ho hk
theorem Ret.sameE (hn : n ≤ H.length) (hk : K v' H) (e : v = v') : Ret n v H K := by subst e; exact Ret.same hn hk
end
/-! ### what lies where -/
section
variable {A : Hp} {i : Nat} {x y z u v w : AObj} {L : Hp}
theorem at0 (h : i = A.length) : (A ++ x :: L)[i]? = some x := by subst h; simp
theorem atS {A L : Hp} {y : AObj} {i : Nat} {o : Option AObj} (h : ((A ++ [y]) ++ L)[i]? = o) : (A ++ y :: L)[i]? = o := by simpa using h
theorem kl {p : Prop} (h : p := by (try simp only [List.forall_mem_cons, List.not_mem_nil, false_implies, implies_true, and_true]); (try refine gO ?_); all_goals first | trivial | (simp [AV.ok, AV.ok1, AC.ok]; done) | (simp [AV.ok, AV.ok1, AC.ok]; omega) | (simp [AV.ok, AV.ok1, AC.ok]; assumption) | ((repeat' apply And.intro) <;> first | trivial | (simp [AV.ok, AV.ok1, AC.ok]; done) | (simp [AV.ok, AV.ok1, AC.ok]; omega) | (simp [AV.ok, AV.ok1, AC.ok]; assumption) | (refine grV_ok ?_ _; first | (simp; done) | (simp; omega) | omega))) : p := h
theorem wk {p : Prop} (h : p := by ((try refine gO ?_); (first | refine WkL.eq ?_ ?_ | refine WkL.rest (by assumption) ?_ ?_ ?_ | refine WkL.keepL (by assumption) rfl ?_ ?_ ?_ ?_) <;> first | rfl | (simp; done) | (simp; omega) | (simp only [List.cons.injEq, AV.c.injEq, AC.int.injEq, AC.bool.injEq, AC.str.injEq, and_true, true_and, Int.natCast_add, Int.natCast_one, Int.cast_ofNat_Int]; omega) | (simp [AV.ok, AV.ok1, AC.ok]; done) | (simp [AV.ok, AV.ok1, AC.ok]; omega) | (simp only [List.forall_mem_cons, List.not_mem_nil, false_implies, implies_true, and_true]; (repeat' apply And.intro) <;> first | exact okN_map (fun x => by simp [go_sem, AC.pure]) | exact okN_grO (fun x => by simp [go_sem, AC.pure]) | (simp [AObj.okN, AC.ok]; done) | (simp [AObj.okN, AC.ok]; omega)) | (simp [*]; done) | grind)) : p := h
theorem ow {p : Prop} (h : p := by ((try refine gO ?_); (first | refine WkL.pick [0] ?_ ?_ rfl ?_ ?_ ?_ ?_ | refine WkL.pick [1] ?_ ?_ rfl ?_ ?_ ?_ ?_ | refine WkL.pick [2] ?_ ?_ rfl ?_ ?_ ?_ ?_ | refine WkL.pick [3] ?_ ?_ rfl ?_ ?_ ?_ ?_ | refine WkL.pick [4] ?_ ?_ rfl ?_ ?_ ?_ ?_ | refine WkL.pick [5] ?_ ?_ rfl ?_ ?_ ?_ ?_ | refine WkL.pick [6] ?_ ?_ rfl ?_ ?_ ?_ ?_ | refine WkL.pick [7] ?_ ?_ rfl ?_ ?_ ?_ ?_ | refine WkL.pick [8] ?_ ?_ rfl ?_ ?_ ?_ ?_ | refine WkL.pick [9] ?_ ?_ rfl ?_ ?_ ?_ ?_ | refine WkL.pick [10] ?_ ?_ rfl ?_ ?_ ?_ ?_ | refine WkL.pick [11] ?_ ?_ rfl ?_ ?_ ?_ ?_ | refine WkL.pick [12] ?_ ?_ rfl ?_ ?_ ?_ ?_ | refine WkL.pick [13] ?_ ?_ rfl ?_ ?_ ?_ ?_ | refine WkL.pick [14] ?_ ?_ rfl ?_ ?_ ?_ ?_ | refine WkL.pick [15] ?_ ?_ rfl ?_ ?_ ?_ ?_) <;> first | assumption | exact HOk.str (by assumption) | (simp; done) | (simp; omega) | (simp [pureO_gr, AObj.pureO, pureL, go_sem, AC.pure]; done) | (simp only [List.all_cons, List.all_nil, Bool.and_true]; exact pureO_gr (pureL_map _ (fun x => by simp [go_sem, AC.pure]))) | ((try simp only [List.map_cons, List.map_nil, av_ren_gr]); simp [AV.ren, AV.ren1, AC.ren, renP, pickS]; first | done | omega) | (simp only [List.forall_mem_cons, List.not_mem_nil, false_implies, implies_true, and_true]; (repeat' apply And.intro) <;> first | trivial | exact grV_ok sMp _ | exact okN_grO (fun x => by simp [go_sem, AC.pure]) | exact okN_map (fun x => by simp [go_sem, AC.pure]) | (simp [AV.ok, AV.ok1, AC.ok]; done) | (simp [AV.ok, AV.ok1, AC.ok]; omega) | (simp [AObj.okN, AC.ok]; done)) | (simp [AObj.okN]; done))) : p := h
theorem at1 (h : i = A.length + 1) : (A ++ x :: y :: L)[i]? = some y := by subst h; simp
theorem at2 (h : i = A.length + 2) : (A ++ x :: y :: z :: L)[i]? = some z := by subst h; simp
theorem at3 (h : i = A.length + 3) : (A ++ x :: y :: z :: u :: L)[i]? = some u := by subst h; simp
theorem at4 (h : i = A.length + 4) : (A ++ x :: y :: z :: u :: v :: L)[i]? = some v := by subst h; simp
theorem at5 (h : i = A.length + 5) : (A ++ x :: y :: z :: u :: v :: w :: L)[i]? = some w := by subst h; simp
theorem atG (j : Nat) (h : i = A.length + j) (hj : L[j]? = some x) : (A ++ L)[i]? = some x := by subst h; rw [List.getElem?_append_right oMg]; simpa using hj
end
section
variable {P : Program} {H : Hp} {K : AV → Hp → Prop}
theorem ACalls.lit {f : FuncId} {args args' : List AV} {i ty sz : Nat} {els : List (List AC)} {own : Bool} (hi : H[i]? = some (.row ty sz els own)) (hp : pureL els = true) (ha : args.map (AV.frz1 i sz els) = args')
  (h : ACalls P f args' (H.set i .dead) K) : ACalls P f args H K := by
 subst ha
 refine ACalls.frz hi hp ?_
 intro B w0 ι w vs hs hr ho
 have hlt := getElem?_lt hi
 have hdead : H.set i .dead = (H.set i (.row ty sz els false)).set i .dead := by rw [List.set_set]
 have hs' : Sim B w0 ι (H.set i .dead) w := by
  rw [hdead]
  have hlt' : i < (H.set i (AObj.row ty sz els false)).length := by simpa using hlt
  generalize H.set i (AObj.row ty sz els false) = G at hs hlt'
  refine ⟨hs.below, hs.big, hs.known, HOk.set hs.hok trivial, fun j q hq => ?_, fun j k q q' hjk hq hqo hq' hl => ?_, fun j q hq hqo => ?_, hs.froz, fun j q hq hqo => ?_⟩
  ·by_cases e : i = j
   ·subst e; rw [List.getElem?_set_self hlt'] at hq; injection hq with hq; subst hq; trivial
   ·rw [List.getElem?_set_ne e] at hq; exact hs.obj j q hq
  ·have key : ∀ (j : Nat) (q : AObj), (G.set i .dead)[j]? = some q → q.live = true → G[j]? = some q := by
    intro j q hq hl
    by_cases e : i = j
    ·subst e; rw [List.getElem?_set_self hlt'] at hq; injection hq with hq; subst hq; cases hl
    ·rw [List.getElem?_set_ne e] at hq; exact hq
   have hlo : ∀ q : AObj, q.owned = true → q.live = true := by intro q; cases q <;> simp [AObj.owned, AObj.live]
   exact hs.sep j k q q' hjk (key j q hq (hlo q hqo)) hqo (key k q' hq' hl) hl
  ·by_cases e : i = j
   ·subst e; rw [List.getElem?_set_self hlt'] at hq; injection hq with hq; subst hq; cases hqo
   ·rw [List.getElem?_set_ne e] at hq; exact hs.base j q hq hqo
  ·by_cases e : i = j
   ·subst e; rw [List.getElem?_set_self hlt'] at hq; injection hq with hq; subst hq; cases hqo
   ·rw [List.getElem?_set_ne e] at hq; exact hs.apart j q hq hqo
 have h4 := h B w0 ι w vs hs' hr (by rw [List.length_set] at ho ⊢; exact ho)
 rw [List.length_set] at h4 ⊢
 exact h4
end
/-! ### copies -/
def clV (i sz : Nat) (l : List (List AC)) : AC := match l with | [] => .lst sz [] | x :: xs => .sl (some (i, 0)) (x :: xs).length
section
variable {H A G : Hp} {K : AV → Hp → Prop} {n m : Nat} {v v' : AV} {vs vs' : List AV}
theorem HOk.pad (h : HOk H) : HOk (H ++ [.dead]) := HOk.app h trivial
theorem WkL.pad (hm : m ≤ H.length) : WkL m vs H vs (H ++ [.dead]) := by
 intro B w0 ι w us hs hr ho
 have hok := HOk.pad hs.hok
 have key : ∀ (i : Nat) (o : AObj), (H ++ [AObj.dead])[i]? = some o → o.live = true → H[i]? = some o := by
  intro i o hi hl
  rcases Nat.lt_or_ge i H.length with h | h
  ·rw [List.getElem?_append_left h] at hi; exact hi
  ·rw [List.getElem?_append_right h] at hi
   rcases Nat.eq_zero_or_pos (i - H.length) with h0 | h0
   ·rw [h0] at hi; simp at hi; subst hi; cases hl
   ·have := getElem?_lt hi; simp at this; omega
 have hlo : ∀ q : AObj, q.owned = true → q.live = true := by intro q; cases q <;> simp [AObj.owned, AObj.live]
 refine ⟨ι, Agree.refl _ _, by simp; omega, ⟨hs.below, hs.big, hs.known, hok, fun i o hi => ?_, fun i j o o' hij hi ho hj hl => ?_, fun i o hi ho => ?_, hs.froz, fun i o hi ho => ?_⟩, hr, fun x hx => ?_⟩
 ·by_cases hl : o.live = true
  ·exact hs.obj i o (key i o hi hl)
  ·cases o <;> simp [AObj.live] at hl; trivial
 ·exact hs.sep i j o o' hij (key i o hi (hlo o ho)) ho (key j o' hj hl) hl
 ·exact hs.base i o (key i o hi (hlo o ho)) ho
 ·exact hs.apart i o (key i o hi (hlo o ho)) ho
 ·exact AV.ok_mono sMp (ho x hx)
theorem Ret.pad (hn : n ≤ H.length) (hk : Ret n v (H ++ [.dead]) K) : Ret n v H K := by
 intro hH hv
 obtain ⟨v', H', h1, h2⟩ := hk hH.pad (AV.ok_mono sMp hv)
 exact ⟨v', H', (WkL.pad hn).trans h1, h2⟩
theorem Ret.cut (hA : HOk A) (hn : n ≤ A.length) (ho : v.ok A.length) (hk : Ret n v A K) : Ret n v (A ++ G) K := by
 intro hH hv
 obtain ⟨v', H', h1, h2⟩ := hk hA ho
 exact ⟨v', H', (WkL.drop hA hn (by simpa using ho)).trans h1, h2⟩
theorem Ret.pick {L : Hp} (ids : List Nat) (hA : HOk A) (hn : n ≤ A.length) (hL : ids.map (fun j => G[j]?) = L.map some) (hd : ids.Nodup) (hp : L.all AObj.pureO = true)
  (hv : v = v'.ren (pickS A.length ids)) (ho : v'.ok (A.length + L.length)) (hk : K v' (A ++ L)) : Ret n v (A ++ G) K :=
 Ret.wk (WkL.pick ids hA hn hL hd hp (by simp [hv]) (by simpa using ho)) hk
end
theorem WkL.move {H : Hp} {m i ty sz n : Nat} {els : List (List AC)} {own : Bool} (hi : H[i]? = some (.row ty sz els own)) (hp : pureL els = true) (hm : m ≤ H.length) (hH : HOk H) :
  WkL m [.c (.sl (some (i, 0)) n)] H [.c (.sl (some (H.length, 0)) n)] (H.set i .dead ++ [.row ty sz els own]) := by
 have hlt := getElem?_lt hi
 have hlo : ∀ j, j < H.length → (fun j => if j = H.length then i else j) j = j := fun j hj => by simp; omega
 have hlen : (H.set i .dead ++ [AObj.row ty sz els own]).length = H.length + 1 := by simp
 have hok : HOk (H.set i .dead ++ [.row ty sz els own]) := HOk.app (HOk.set hH (o := .dead) trivial) (fun e he => ⟨(hH i _ hi e he).1, fun x hx => AC.ok_of_pure (List.all_eq_true.1 (List.all_eq_true.1 hp e he) x hx) _⟩)
 refine WkL.renL (fun j => if j = H.length then i else j) (fun j hj => hlo j oMg) oMg (fun j o hj hl => ?_) (fun j k o o' hj hl hk hl' e => ?_) (by simp [AV.ren, AV.ren1, AC.ren]) (by intro x hx; simp at hx; subst hx; simp [AV.ok, AV.ok1, AC.ok]) hok
 ·rcases Nat.lt_or_ge j H.length with h | h
  ·rw [List.getElem?_append_left (by simpa using h)] at hj
   rw [if_neg (show ¬j = H.length by omega)]
   by_cases e : i = j
   ·subst e; rw [List.getElem?_set_self hlt] at hj; injection hj with hj; subst hj; cases hl
   ·rw [List.getElem?_set_ne e] at hj
    rw [AObj.ren_id (n := H.length) hlo (hH j o hj), hj]
  ·obtain rfl : j = H.length := by have := getElem?_lt hj; omega
   rw [List.getElem?_append_right sMp] at hj
   simp at hj
   subst hj
   simp only [if_true]
   rw [pureO_ren (by exact hp)]; exact hi
 ·have live : ∀ (q : Nat) (o : AObj), (H.set i .dead ++ [AObj.row ty sz els own])[q]? = some o → o.live = true → q ≠ i := by
   rintro q o hq hl rfl
   rw [List.getElem?_append_left (by simpa using hlt), List.getElem?_set_self hlt] at hq
   injection hq with hq; subst hq; cases hl
  have a1 := live j o hj hl
  have a2 := live k o' hk hl'
  have b1 := getElem?_lt hj
  have b2 := getElem?_lt hk
  split at e <;> split at e <;> omega
theorem Ret.move {H : Hp} {K : AV → Hp → Prop} {n i ty sz k : Nat} {els : List (List AC)} {own : Bool} (hi : H[i]? = some (.row ty sz els own)) (hp : pureL els = true) (hn : n ≤ H.length)
  (hk : K (.c (.sl (some (H.length, 0)) k)) (H.set i .dead ++ [.row ty sz els own])) : Ret n (.c (.sl (some (i, 0)) k)) H K :=
 fun hH _ => ⟨_, _, WkL.move hi hp hn hH, hk⟩
/-! ### what a call left is taken for something else -/
section
variable {P : Program} {H : Hp} {K K1 : AV → Hp → Prop}
theorem ACalls.post {f : FuncId} {args : List AV} (h : ACalls P f args H K1) (hk : HOk H → ∀ v H', K1 v H' → ∃ v2 H2, WkL H.length [v] H' [v2] H2 ∧ K v2 H2) : ACalls P f args H K := by
 intro B w0 ι w vs hs hr ho
 refine (h B w0 ι w vs hs hr ho).mono fun e w' he => ?_
 obtain ⟨ι2, u, av, H', rfl, k2, k3, k4, k5, k6, k7⟩ := he
 obtain ⟨v2, H2, h1, h2⟩ := hk hs.hok av H' k7
 obtain ⟨ι3, g1, g2, g3, g4, g5⟩ := h1 B w0 ι2 w' [u] k4 ⟨k5, trivial⟩ (by intro x hx; rw [List.mem_singleton] at hx; subst hx; exact k6)
 exact ⟨ι3, u, v2, H2, rfl, k2.trans g1 lRf, g2, g3, g4.1, g5 v2 sMp, h2⟩
end
theorem WkL.frzTail {A : Hp} {n ty sz : Nat} {l : List (List AC)} {v : AV} (hA : HOk A) (hn : n ≤ A.length) (hp : pureL l = true) (ho : (v.frz A.length sz l).ok A.length) :
  WkL n [v] (A ++ [.row ty sz l true]) [v.frz A.length sz l] A := by
 have h1 := WkL.frz (m := n) (vs := [v]) (H := A ++ [.row ty sz l true]) (i := A.length) (ty := ty) (sz := sz) (els := l) (own := true) sMp hp (by simp; omega)
 have e : (A ++ [AObj.row ty sz l true]).set A.length (.row ty sz l false) = A ++ [.row ty sz l false] := by simp
 rw [e] at h1
 exact h1.trans (WkL.drop hA hn (by simpa using ho))
theorem WkL.frzCl1 {A : Hp} {n ty sz : Nat} {l : List (List AC)} (hA : HOk A) (hn : n ≤ A.length) (hp : pureL l = true) : WkL n [.c (clV A.length sz l)] (A ++ [grO ty sz l]) [.c (.lst sz l)] A := by
 cases l with
 | nil => exact WkL.drop hA hn (by simp [clV, AV.ok, AV.ok1, AC.ok])
 | cons x xs =>
  have h := WkL.frzTail (n := n) (ty := ty) (sz := sz) (l := x :: xs) (v := .c (.sl (some (A.length, 0)) (x :: xs).length)) hA hn hp (by simp [AV.frz, AV.frz1, AC.frz, AV.ok, AV.ok1, AC.ok])
  simpa [AV.frz, AV.frz1, AC.frz, clV, grO] using h
def tailOk : List AV → Bool
 | [] => true
 | x :: xs => flatV1 x && tailOk xs
theorem tail_frz {i sz : Nat} {l : List (List AC)} : ∀ {ts : List AV}, tailOk ts = true → ts.map (AV.frz1 i sz l) = ts
 | [], _ => rfl
 | x :: xs, h => by
  simp only [tailOk, Bool.and_eq_true] at h
  rw [List.map_cons, tail_frz h.2]
  congr 1
  cases x with
  | c y => cases y <;> first | rfl | (simp [flatV1, flatC] at h)
  | _ => rfl
theorem tail_ok1 : ∀ {ts : List AV} (n : Nat), tailOk ts = true → ∀ x ∈ ts, x.ok1 n
 | [], _, _ => by simp
 | x :: xs, n, h => by
  simp only [tailOk, Bool.and_eq_true] at h
  intro y hy
  rcases List.mem_cons.1 hy with rfl | hy
  ·exact flat1_ok h.1 n
  ·exact tail_ok1 n h.2 y hy
section
variable {H A G : Hp} {K : AV → Hp → Prop} {n : Nat} {v v' v1 : AV}
theorem Ret.frzAt {ty sz : Nat} {els : List (List AC)} {own : Bool} (j : Nat) (hA : HOk A) (hn : n ≤ A.length) (hk : K v' A) (hj : G[j]? = some (.row ty sz els own)) (hp : pureL els = true) (ho : v'.ok A.length) (e : v.frz (A.length + j) sz els = v') : Ret n v (A ++ G) K := by
 subst e
 refine Ret.frz (i := A.length + j) (ty := ty) (sz := sz) (els := els) (own := own) (by rw [List.getElem?_append_right oMg]; simpa using hj) hp (by simp; omega) ?_
 rw [List.set_append_right _ _ oMg]
 exact Ret.drop hA hn ho hk
end
theorem WkL.keep {H L L' : Hp} {m : Nat} {vs vs' : List AV} (k : Nat) (hH : HOk H) (hL : L.take k = L') (hm : m ≤ H.length + k) (hk : k ≤ L.length) (e : vs = vs') (ho : ∀ o ∈ L', o.okN (H.length + k)) (hv : ∀ x ∈ vs', x.ok (H.length + k)) : WkL m vs (H ++ L) vs' (H ++ L') := by
 subst hL e
 have hl : (H ++ L.take k).length = H.length + k := by rw [List.length_append, List.length_take]; omega
 have hA : HOk (H ++ L.take k) := by
  intro i q hq
  rw [hl]
  rcases Nat.lt_or_ge i H.length with h | h
  ·rw [List.getElem?_append_left h] at hq; exact AObj.okN_mono oMg (hH i q hq)
  ·rw [List.getElem?_append_right h] at hq; exact ho q (List.mem_of_getElem? hq)
 have := WkL.drop (m := m) (G := L.drop k) hA (by rw [hl]; exact hm) (vs := vs) (by rw [hl]; exact hv)
 rwa [List.append_assoc, List.take_append_drop] at this
theorem WkL.keepL {H L L' : Hp} {m : Nat} {vs vs' : List AV} (hH : HOk H) (hL : L.take L'.length = L') (hm : m ≤ H.length + L'.length) (e : vs = vs') (ho : ∀ o ∈ L', o.okN (H.length + L'.length)) (hv : ∀ x ∈ vs', x.ok (H.length + L'.length)) : WkL m vs (H ++ L) vs' (H ++ L') :=
 WkL.keep L'.length hH hL hm (by have := congrArg List.length hL; rw [List.length_take] at this; omega) e ho hv
theorem okN_map {α : Type} {enc : α → List AC} {ty sz : Nat} {l : List α} {own : Bool} {n : Nat} (h : ∀ x, (enc x).length = sz ∧ (enc x).all AC.pure = true) : (AObj.row ty sz (l.map enc) own).okN n := by
 intro e he
 obtain ⟨x, _, rfl⟩ := List.mem_map.1 he
 exact ⟨(h x).1, fun y hy => AC.ok_of_pure (List.all_eq_true.1 (h x).2 y hy) n⟩
theorem okN_grO {α : Type} {enc : α → List AC} {ty sz : Nat} {l : List α} {n : Nat} (h : ∀ x, (enc x).length = sz ∧ (enc x).all AC.pure = true) : (grO ty sz (l.map enc)).okN n := by
 cases l with
 | nil => trivial
 | cons x xs => exact okN_map (l := x :: xs) h
theorem pureL_map {α : Type} {enc : α → List AC} (l : List α) (h : ∀ x, (enc x).all AC.pure = true) : pureL (l.map enc) = true := by
 simp only [pureL, List.all_map]
 exact List.all_eq_true.2 fun x _ => h x
end Go.Proofs.YtagoolooikpabaaGreatDoor
namespace Go.Proofs.YtagoolooikpabaaGreatDoor
open Go Go.RowKit
section
variable {P : Program} {B : Nat → Prop} {w0 w : World} {ι ι' : En} {H : Hp} {n m : Nat}
def AC.frzX (i sz : Nat) (els : List (List AC)) : AC → AC
 | .sl (some (j, k)) n => if j = i ∧ k + n ≤ els.length then .lst sz ((els.drop k).take n) else .sl (some (j, k)) n
 | .ptr (some (j, k, o)) => if j = i then (match els[k]? with | some e => .fp (e.drop o) | none => .ptr (some (j, k, o))) else .ptr (some (j, k, o))
 | x => x
def AV.frzX1 (i sz : Nat) (els : List (List AC)) : AV → AV
 | .c x => .c (x.frzX i sz els)
 | .agg cs => .agg (cs.map (AC.frzX i sz els))
 | x => x
def AV.frzX (i sz : Nat) (els : List (List AC)) : AV → AV
 | .tup vs => .tup (vs.map (AV.frzX1 i sz els))
 | x => x.frzX1 i sz els
structure FrzR (ι ι' : En) (i sz : Nat) (els : List (List AC)) : Prop where
 sl : ∀ (k m : Nat) (v : Value), k + m ≤ els.length → AC.rel ι (.sl (some (i, k)) m) v → AC.rel ι' (.lst sz ((els.drop k).take m)) v
 pt : ∀ (k o : Nat) (e : List AC) (v : Value), els[k]? = some e → AC.rel ι (.ptr (some (i, k, o))) v → AC.rel ι' (.fp (e.drop o)) v
theorem AC.frzX_rel {i sz : Nat} {els : List (List AC)} {x : AC} {v : Value} (hA : Agree n ι ι') (ho : x.ok n) (hr : x.rel ι v) (hf : FrzR ι ι' i sz els) : (x.frzX i sz els).rel ι' v ∧ (x.frzX i sz els).ok n := by
 unfold AC.frzX
 split
 ·split
  ·rename_i h
   obtain ⟨rfl, h2⟩ := h
   exact ⟨hf.sl _ _ _ h2 hr, trivial⟩
  ·exact ⟨AC.rel_agree hA ho hr, ho⟩
 ·split
  ·rename_i h
   subst h
   split
   ·rename_i e he
    exact ⟨hf.pt _ _ _ _ he hr, trivial⟩
   ·exact ⟨AC.rel_agree hA ho hr, ho⟩
  ·exact ⟨AC.rel_agree hA ho hr, ho⟩
 ·exact ⟨AC.rel_agree hA ho hr, ho⟩
theorem relL_frzX {i sz : Nat} {els : List (List AC)} (hA : Agree n ι ι') (hf : FrzR ι ι' i sz els) : ∀ (xs : List AC) (us : List Value), relL ι xs us → (∀ x ∈ xs, x.ok n) → relL ι' (xs.map (AC.frzX i sz els)) us ∧ ∀ x ∈ xs.map (AC.frzX i sz els), x.ok n
 | [], [], _, _ => ⟨trivial, by simp⟩
 | [], _ :: _, h, _ => h.elim
 | _ :: _, [], h, _ => h.elim
 | x :: xs, u :: us, h, ho => by
  obtain ⟨h1, h2⟩ := relL_frzX hA hf xs us h.2 (fun y hy => ho y (by simp [hy]))
  obtain ⟨h3, h4⟩ := AC.frzX_rel hA (ho x sMp) h.1 hf
  exact ⟨⟨h3, h1⟩, fun y hy => by
   rcases List.mem_cons.1 hy with rfl | hy
   ·exact h4
   ·exact h2 y hy⟩
theorem AV.frzX1_rel {i sz : Nat} {els : List (List AC)} {x : AV} {v : Value} (hA : Agree n ι ι') (ho : x.ok1 n) (hr : x.rel1 ι v) (hf : FrzR ι ι' i sz els) : (x.frzX1 i sz els).rel1 ι' v ∧ (x.frzX1 i sz els).ok1 n := by
 cases x with
 | c x => exact AC.frzX_rel hA ho hr hf
 | agg cs =>
  obtain ⟨us, rfl, h⟩ := hr
  obtain ⟨h1, h2⟩ := relL_frzX hA hf cs us h ho
  exact ⟨⟨us, rfl, h1⟩, h2⟩
 | any => exact ⟨trivial, trivial⟩
 | tup ts => exact hr.elim
theorem AV.frzX_rel {i sz : Nat} {els : List (List AC)} {x : AV} {v : Value} (hA : Agree n ι ι') (ho : x.ok n) (hr : x.rel ι v) (hf : FrzR ι ι' i sz els) : (x.frzX i sz els).rel ι' v ∧ (x.frzX i sz els).ok n := by
 cases x with
 | c x => exact AC.frzX_rel hA ho hr hf
 | agg cs => exact AV.frzX1_rel (x := .agg cs) hA ho hr hf
 | any => exact ⟨trivial, trivial⟩
 | tup ts =>
  obtain ⟨us, rfl, hr⟩ := hr
  have key : ∀ (ts : List AV) (us : List Value), rel1L ι ts us → (∀ x ∈ ts, x.ok1 n) → rel1L ι' (ts.map (AV.frzX1 i sz els)) us ∧ ∀ x ∈ ts.map (AV.frzX1 i sz els), x.ok1 n := by
   intro ts
   induction ts with
   | nil => intro us h _; cases us with | nil => exact ⟨trivial, by simp⟩ | cons _ _ => exact h.elim
   | cons t ts ih =>
    intro us h ho
    cases us with
    | nil => exact h.elim
    | cons u us =>
     obtain ⟨h1, h2⟩ := ih us h.2 (fun x hx => ho x (by simp [hx]))
     obtain ⟨h3, h4⟩ := AV.frzX1_rel hA (ho t sMp) h.1 hf
     exact ⟨⟨h3, h1⟩, fun x hx => by
      rcases List.mem_cons.1 hx with rfl | hx
      ·exact h4
      ·exact h2 x hx⟩
  obtain ⟨h1, h2⟩ := key ts us hr ho
  exact ⟨⟨us, rfl, h1⟩, h2⟩
theorem relAL_frzX {i sz : Nat} {els : List (List AC)} (hA : Agree n ι ι') (hf : FrzR ι ι' i sz els) : ∀ (vs : List AV) (us : List Value), relAL ι vs us → (∀ x ∈ vs, x.ok n) → relAL ι' (vs.map (AV.frzX i sz els)) us ∧ ∀ x ∈ vs.map (AV.frzX i sz els), x.ok n
 | [], [], _, _ => ⟨trivial, by simp⟩
 | [], _ :: _, h, _ => h.elim
 | _ :: _, [], h, _ => h.elim
 | x :: xs, u :: us, h, ho => by
  obtain ⟨h1, h2⟩ := relAL_frzX hA hf xs us h.2 (fun y hy => ho y (by simp [hy]))
  obtain ⟨h3, h4⟩ := AV.frzX_rel hA (ho x sMp) h.1 hf
  exact ⟨⟨h3, h1⟩, fun y hy => by
   rcases List.mem_cons.1 hy with rfl | hy
   ·exact h4
   ·exact h2 y hy⟩
theorem Sim.frzX {i ty sz : Nat} {els : List (List AC)} {own : Bool} (hs : Sim B w0 ι H w) (hi : H[i]? = some (.row ty sz els own)) (hp : pureL els = true) :
  ∃ ι', Agree H.length ι ι' ∧ Sim B w0 ι' (H.set i (.row ty sz els false)) w ∧ FrzR ι ι' i sz els := by
 obtain ⟨ι', h1, h2, h3⟩ := hs.frz hi hp
 refine ⟨ι', h1, h2, h3, fun k o e v hk hr => ?_⟩
 obtain ⟨g1, g2, _⟩ := hs.obj i _ hi
 have hkl := getElem?_lt hk
 have hd : (els.drop k).take 1 = [e] := by
  rw [List.drop_eq_getElem_cons hkl, List.take_succ_cons, List.take_zero]
  rw [List.getElem?_eq_getElem hkl] at hk
  rw [Option.some.inj hk]
 have h4 := h3 k 1 (.slice (some ((ι i).at k 0)) 1 ((ι i).cap - k)) oMg ⟨(ι i).at k 0, rfl, by omega, fun _ => rfl⟩
 rw [hd] at h4
 simp only [AC.rel, AC.relZ] at h4
 obtain ⟨p, c, e1, _, _, _, h5⟩ := h4
 injection e1 with e1 e2 e3
 have h6 := (h5 _ e1.symm).2
 simp only [relRows] at h6
 have h7 := relCells_drop h6.1 o
 have hv : v = .pointer (some ((ι i).at k o)) := hr
 refine ⟨(ι i).block, (ι i).off + (k * sz + 0) + o, ?_, ?_⟩
 ·rw [hv]
  unfold Loc.at
  rw [g1, Nat.add_zero, Nat.add_assoc]
 ·have e : ((ι i).at k 0).off = (ι i).off + (k * sz + 0) := by unfold Loc.at; dsimp only; rw [g1]
  rw [e] at h7
  exact h7
theorem Sim.reobj {j ty sz : Nat} {els : List (List AC)} {own : Bool} (hs : Sim B w0 ι H w) (hj : H[j]? = some (.row ty sz els own)) (f : AC → AC) (hf : ∀ x v, x.ok H.length → x.rel ι v → (f x).rel ι v ∧ (f x).ok H.length) (hf0 : ∀ x, x.ok H.length → (∀ v, ¬ x.rel ι v) → (f x).ok H.length) :
  Sim B w0 ι (H.set j (.row ty sz (els.map fun e => e.map f) own)) w := by
 have hlt := getElem?_lt hj
 have key : ∀ (k : Nat) (q : AObj), (H.set j (.row ty sz (els.map fun e => e.map f) own))[k]? = some q → ∃ q0, H[k]? = some q0 ∧ q0.owned = q.owned ∧ q0.live = q.live := by
  intro k q hq
  by_cases e : j = k
  ·subst e
   rw [List.getElem?_set_self hlt] at hq
   injection hq with hq
   subst hq
   exact ⟨_, hj, rfl, rfl⟩
  ·rw [List.getElem?_set_ne e] at hq
   exact ⟨q, hq, rfl, rfl⟩
 have hfo : ∀ x, x.ok H.length → (f x).ok H.length := fun x hx => by
  by_cases h : ∃ v, x.rel ι v
  ·obtain ⟨v, hv⟩ := h
   exact (hf x v hx hv).2
  ·exact hf0 x hx (fun v hv => h ⟨v, hv⟩)
 refine ⟨hs.below, hs.big, hs.known, fun k q hq => ?_, fun k q hq => ?_, fun k1 k2 q q' hne hq hqo hq' hl => ?_, fun k q hq hqo => ?_, hs.froz, fun k q hq hqo => ?_⟩
 ·rw [List.length_set]
  by_cases e : j = k
  ·subst e
   rw [List.getElem?_set_self hlt] at hq
   injection hq with hq
   subst hq
   have h := hs.scope j _ hj
   intro e he
   obtain ⟨e0, h0, rfl⟩ := List.mem_map.1 he
   have h1 := h e0 h0
   refine ⟨by rw [List.length_map]; exact h1.1, fun x hx => ?_⟩
   obtain ⟨x0, hx0, rfl⟩ := List.mem_map.1 hx
   exact hfo x0 (h1.2 x0 hx0)
  ·rw [List.getElem?_set_ne e] at hq
   exact hs.scope k q hq
 ·by_cases e : j = k
  ·subst e
   rw [List.getElem?_set_self hlt] at hq
   injection hq with hq
   subst hq
   have h := hs.scope j _ hj
   obtain ⟨h1, h2, cur, fr, h3, h4, h5⟩ := hs.obj j _ hj
   refine ⟨h1, by rw [List.length_map]; exact h2, cur, fr, h3, fun k e hk jj x hx => ?_, h5⟩
   rw [List.getElem?_map] at hk
   obtain ⟨e0, he0, rfl⟩ := Option.map_eq_some_iff.1 hk
   rw [List.getElem?_map] at hx
   obtain ⟨x0, hx0, rfl⟩ := Option.map_eq_some_iff.1 hx
   obtain ⟨u, hu, hr⟩ := h4 k e0 he0 jj x0 hx0
   exact ⟨u, hu, (hf x0 u ((h e0 (List.mem_of_getElem? he0)).2 x0 (List.mem_of_getElem? hx0)) hr).1⟩
  ·rw [List.getElem?_set_ne e] at hq
   exact hs.obj k q hq
 ·obtain ⟨q0, h1, h2, h3⟩ := key k1 q hq
  obtain ⟨q1, g1, g2, g3⟩ := key k2 q' hq'
  exact hs.sep k1 k2 q0 q1 hne h1 (h2.trans hqo) g1 (g3.trans hl)
 ·obtain ⟨q0, h1, h2, h3⟩ := key k q hq
  exact hs.base k q0 h1 (h2.trans hqo)
 ·obtain ⟨q0, h1, h2, h3⟩ := key k q hq
  exact hs.apart k q0 h1 (h2.trans hqo)
theorem AC.frzX_ok {i sz : Nat} {els : List (List AC)} {x : AC} (ho : x.ok n) : (x.frzX i sz els).ok n := by
 unfold AC.frzX
 split
 ·split
  ·trivial
  ·exact ho
 ·split
  ·split
   ·trivial
   ·exact ho
  ·exact ho
 ·exact ho
variable {vs vs' : List AV}
theorem WkL.frzX {i ty sz : Nat} {els : List (List AC)} {own : Bool} (hi : H[i]? = some (.row ty sz els own)) (hp : pureL els = true) (hm : m ≤ H.length) : WkL m vs H (vs.map (AV.frzX i sz els)) (H.set i (.row ty sz els false)) := by
 intro B w0 ι w us hs hr ho
 obtain ⟨ι', h1, h2, h3⟩ := hs.frzX hi hp
 obtain ⟨h4, h5⟩ := relAL_frzX h1 h3 vs us hr ho
 refine ⟨ι', h1.le hm, by simpa using hm, h2, h4, ?_⟩
 rw [List.length_set]
 exact h5
theorem WkL.frzO {i j ty sz ty2 sz2 : Nat} {els els2 : List (List AC)} {own own2 : Bool} (hi : H[i]? = some (.row ty sz els own)) (hp : pureL els = true) (hm : m ≤ H.length) (hj : H[j]? = some (.row ty2 sz2 els2 own2)) (hne : i ≠ j) :
  WkL m vs H (vs.map (AV.frzX i sz els)) ((H.set i (.row ty sz els false)).set j (.row ty2 sz2 (els2.map fun e => e.map (AC.frzX i sz els)) own2)) := by
 intro B w0 ι w us hs hr ho
 obtain ⟨ι', h1, h2, h3⟩ := hs.frzX hi hp
 obtain ⟨h4, h5⟩ := relAL_frzX h1 h3 vs us hr ho
 have hloc : ι' i = ι i := h1.loc i (getElem?_lt hi)
 have h3' : FrzR ι' ι' i sz els := ⟨fun k m v hk hr => h3.sl k m v hk (by simp only [AC.rel] at hr ⊢; rw [← hloc]; exact hr), fun k o e v hk hr => h3.pt k o e v hk (by simp only [AC.rel, ptrOf] at hr ⊢; rw [← hloc]; exact hr)⟩
 have h6 := h2.reobj (j := j) (by rw [List.getElem?_set_ne hne]; exact hj) (AC.frzX i sz els) (fun x v hx hr => AC.frzX_rel (Agree.refl _ _) hx hr h3') (fun x hx _ => AC.frzX_ok hx)
 refine ⟨ι', h1.le hm, by simpa using hm, h6, h4, ?_⟩
 rw [List.length_set, List.length_set]
 exact h5
theorem WkL.node {A G : Hp} {ty1 sz1 ty2 sz2 : Nat} {els : List (List AC)} {cs cs' : List AC} {own1 own2 : Bool} (j1 j2 : Nat) (hA : HOk A) (hm : m ≤ A.length) (h1 : G[j1]? = some (.row ty1 sz1 els own1)) (hp : pureL els = true) (h2 : G[j2]? = some (.row ty2 sz2 [cs] own2)) (hne : j1 ≠ j2)
  (hc : cs.map (AC.frzX (A.length + j1) sz1 els) = cs') (hcp : pureL [cs'] = true) (e : (vs.map (AV.frzX (A.length + j1) sz1 els)).map (AV.frzX (A.length + j2) sz2 [cs']) = vs') (ho : ∀ x ∈ vs', x.ok A.length) : WkL m vs (A ++ G) vs' A := by
 have hl : A.length ≤ (A ++ G).length := by simp
 have hi1 : (A ++ G)[A.length + j1]? = some (.row ty1 sz1 els own1) := by rw [List.getElem?_append_right oMg, Nat.add_sub_cancel_left]; exact h1
 have hi2 : (A ++ G)[A.length + j2]? = some (.row ty2 sz2 [cs] own2) := by rw [List.getElem?_append_right oMg, Nat.add_sub_cancel_left]; exact h2
 have s1 := WkL.frzO (vs := vs) (m := m) hi1 hp oMg hi2 oMg
 rw [List.map_cons, List.map_nil, hc] at s1
 have hg : (((A ++ G).set (A.length + j1) (.row ty1 sz1 els false)).set (A.length + j2) (.row ty2 sz2 [cs'] own2))[A.length + j2]? = some (.row ty2 sz2 [cs'] own2) := List.getElem?_set_self (by rw [List.length_set]; exact getElem?_lt hi2)
 have s2 := WkL.frzX (vs := vs.map (AV.frzX (A.length + j1) sz1 els)) (m := m) hg hcp (by simp; omega)
 rw [e] at s2
 have hh : ∃ G', (((A ++ G).set (A.length + j1) (.row ty1 sz1 els false)).set (A.length + j2) (.row ty2 sz2 [cs'] own2)).set (A.length + j2) (.row ty2 sz2 [cs'] false) = A ++ G' := by
  rw [List.set_append_right _ _ oMg, List.set_append_right _ _ oMg, List.set_append_right _ _ oMg]
  exact ⟨_, rfl⟩
 obtain ⟨G', hh⟩ := hh
 rw [hh] at s2
 exact (s1.trans s2).trans (WkL.rest hA hm rfl ho)
theorem WkL.node1 {A G : Hp} {ty2 sz2 : Nat} {els : List (List AC)} {own2 : Bool} (j2 : Nat) (hA : HOk A) (hm : m ≤ A.length) (h2 : G[j2]? = some (.row ty2 sz2 els own2))
  (hcp : pureL els = true) (e : vs.map (AV.frzX (A.length + j2) sz2 els) = vs') (ho : ∀ x ∈ vs', x.ok A.length) : WkL m vs (A ++ G) vs' A := by
 have hi2 : (A ++ G)[A.length + j2]? = some (.row ty2 sz2 els own2) := by rw [List.getElem?_append_right oMg, Nat.add_sub_cancel_left]; exact h2
 have s2 := WkL.frzX (vs := vs) (m := m) hi2 hcp (by simp; omega)
 rw [e, List.set_append_right _ _ oMg] at s2
 exact s2.trans (WkL.rest hA hm rfl ho)
theorem Ret.node {A G : Hp} {K : AV → Hp → Prop} {v v' : AV} {ty1 sz1 ty2 sz2 : Nat} {els : List (List AC)} {cs cs' : List AC} {own1 own2 : Bool} (j1 j2 : Nat) (hA : HOk A) (hn : n ≤ A.length) (h1 : G[j1]? = some (.row ty1 sz1 els own1)) (hp : pureL els = true) (h2 : G[j2]? = some (.row ty2 sz2 [cs] own2)) (hne : j1 ≠ j2)
  (hc : cs.map (AC.frzX (A.length + j1) sz1 els) = cs') (hcp : pureL [cs'] = true) (e : (v.frzX (A.length + j1) sz1 els).frzX (A.length + j2) sz2 [cs'] = v') (ho : v'.ok A.length) (hk : K v' A) : Ret n v (A ++ G) K :=
 Ret.wk (WkL.node j1 j2 hA hn h1 hp h2 hne hc hcp (by rw [List.map_cons, List.map_nil, List.map_cons, List.map_nil, e]) (by simpa using ho)) hk
theorem Ret.node1 {A G : Hp} {K : AV → Hp → Prop} {v v' : AV} {ty2 sz2 : Nat} {els : List (List AC)} {own2 : Bool} (j2 : Nat) (hA : HOk A) (hn : n ≤ A.length) (h2 : G[j2]? = some (.row ty2 sz2 els own2))
  (hcp : pureL els = true) (e : v.frzX (A.length + j2) sz2 els = v') (ho : v'.ok A.length) (hk : K v' A) : Ret n v (A ++ G) K :=
 Ret.wk (WkL.node1 j2 hA hn h2 hcp (by rw [List.map_cons, List.map_nil, e]) (by simpa using ho)) hk
end
theorem aTT {P : Prop} (h : P := by first | ((repeat first | exact at0 (by simp) | refine atS ?_); done) | assumption) : P := h
theorem sOm {P : Prop} (h : P := by first | (simp; done) | (simp; omega) | omega) : P := h
theorem sOo {P : Prop} (h : P := by first | (simp; done) | omega) : P := h
theorem kRf {P : Prop} (h : P := by kernel_rfl) : P := h
theorem dKn {P : Prop} (h : P := by decide +kernel) : P := h
theorem oKs {P : Prop} (h : P := by simp [AV.ok, AV.ok1, AC.ok]) : P := h
theorem pUr {α : Type} {p : α → Prop} (h : ∀ x, p x := by intro x; simp [go_sem, AC.pure]) : ∀ x, p x := h
end Go.Proofs.YtagoolooikpabaaGreatDoor
