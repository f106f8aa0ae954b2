/- What each operation does to the plain heap, and that it does so to the world (2). No condition. -/
import Derived.Test.YtkmkkjlfnobciaaGreatDoorCoreOps
import Derived.Laws.StructEq
namespace Go.Proofs.YtkmkkjlfnobciaaGreatDoor
open Go Go.RowKit
set_option linter.all false

section
variable {P : Program} {B : Nat} {w0 w w' : World} {ι ι' : En} {H : Hp} {F : Fr} {a : Act} {N n m : Nat} {Q : Exit → Act → World → Prop} {next : Act → World → Prop} {o : Oper}

/-- what is known behind an operation -/
def StepK (B : Nat) (w0 : World) (ι : En) (n : Nat) (a : Act) (dst : Option Tmp) (K : AV → Hp → Prop) (a' : Act) (w' : World) : Prop :=
  ∃ ι' v av H', a' = a.put dst v ∧ Agree n ι ι' ∧ n ≤ H'.length ∧ Sim B w0 ι' H' w' ∧ AV.rel ι' av v ∧ av.ok H'.length ∧ K av H'
theorem wp_val {v : Value} (h : (execOp a.eval o).run P w = .ok (.value v) w') (k : next (a.put o.dst v) w') : o.wp P a w next Q := by
  unfold Oper.wp; rw [h]; exact k
theorem wp_skp (h : (execOp a.eval o).run P w = .ok .skip w') (k : next (a.put o.dst undef) w') : o.wp P a w next Q := by
  unfold Oper.wp; rw [h]; exact k
theorem step_same {K : AV → Hp → Prop} {av : AV} {v : Value} (hs : Sim B w0 ι H w) (h : (execOp a.eval o).run P w = .ok (.value v) w) (hr : av.rel ι v) (ho : av.ok H.length) (k : K av H) :
    o.wp P a w (StepK B w0 ι H.length a o.dst K) Q := wp_val h ⟨ι, v, av, H, rfl, Agree.refl _ _, Nat.le_refl _, hs, hr, ho, k⟩

/-! ### two numbers, bools, strings, a pointer and nil -/
def aBin (op : BinOp) (x y : AV) (K : AV → Prop) : Prop :=
  match op, x, y with
  | .add, .c (.int k a), .c (.int k' b) => k = k' ∧ K (.c (.int k (k.wrap (a + b))))
  | .sub, .c (.int k a), .c (.int k' b) => k = k' ∧ K (.c (.int k (k.wrap (a - b))))
  | .mul, .c (.int k a), .c (.int k' b) => k = k' ∧ K (.c (.int k (k.wrap (a * b))))
  | .quo, .c (.int k a), .c (.int k' b) => k = k' ∧ b ≠ 0 ∧ K (.c (.int k (k.wrap (a.tdiv b))))
  | .rem, .c (.int k a), .c (.int k' b) => k = k' ∧ b ≠ 0 ∧ K (.c (.int k (a.tmod b)))
  | .and, .c (.int k a), .c (.int k' b) => k = k' ∧ K (.c (.int k (k.wrap (BitVec.ofInt k.bits a &&& BitVec.ofInt k.bits b).toNat)))
  | .or, .c (.int k a), .c (.int k' b) => k = k' ∧ K (.c (.int k (k.wrap (BitVec.ofInt k.bits a ||| BitVec.ofInt k.bits b).toNat)))
  | .shl, .c (.int k a), .c (.int _ b) => 0 ≤ b ∧ K (.c (.int k (k.wrap (a * 2 ^ (min b.toNat k.bits)))))
  | .shr, .c (.int k a), .c (.int _ b) => 0 ≤ b ∧ K (.c (.int k (a.fdiv (2 ^ (min b.toNat k.bits)))))
  | .eql, .c (.int k a), .c (.int k' b) => k = k' ∧ K (.c (.bool (a == b)))
  | .neq, .c (.int k a), .c (.int k' b) => k = k' ∧ K (.c (.bool (a != b)))
  | .lss, .c (.int k a), .c (.int k' b) => k = k' ∧ K (.c (.bool (decide (a < b))))
  | .leq, .c (.int k a), .c (.int k' b) => k = k' ∧ K (.c (.bool (decide (a ≤ b))))
  | .gtr, .c (.int k a), .c (.int k' b) => k = k' ∧ K (.c (.bool (decide (b < a))))
  | .geq, .c (.int k a), .c (.int k' b) => k = k' ∧ K (.c (.bool (decide (b ≤ a))))
  | .add, .c (.str a), .c (.str b) => a.size + b.size ≤ 9223372036854775807 ∧ K (.c (.str (a ++ b)))
  | .eql, .c (.str a), .c (.str b) => K (.c (.bool (a.toList == b.toList)))
  | .neq, .c (.str a), .c (.str b) => K (.c (.bool (!(a.toList == b.toList))))
  | .lss, .c (.str a), .c (.str b) => K (.c (.bool (Op.bytesLess a.toList b.toList)))
  | .leq, .c (.str a), .c (.str b) => K (.c (.bool (Op.bytesLess a.toList b.toList || a.toList == b.toList)))
  | .gtr, .c (.str a), .c (.str b) => K (.c (.bool (!(Op.bytesLess a.toList b.toList || a.toList == b.toList))))
  | .geq, .c (.str a), .c (.str b) => K (.c (.bool (!(Op.bytesLess a.toList b.toList))))
  | _, _, _ => False
def BinR (P : Program) (w : World) (ι : En) (n : Nat) (K : AV → Prop) (s : Sem Value) : Prop := ∃ r av, s.run P w = .ok r w ∧ AV.rel ι av r ∧ av.ok n ∧ K av
theorem bin_int {K : AV → Prop} {s : Sem Value} {k : IntKind} {z : Int} (h : K (.c (.int k z))) (hr : s.run P w = .ok (.int k z) w) : BinR P w ι n K s := ⟨.int k z, .c (.int k z), hr, rfl, trivial, h⟩
theorem bin_bool {K : AV → Prop} {s : Sem Value} {z : Bool} (h : K (.c (.bool z))) (hr : s.run P w = .ok (.bool z) w) : BinR P w ι n K s := ⟨.bool z, .c (.bool z), hr, rfl, trivial, h⟩
theorem bin_str {K : AV → Prop} {s : Sem Value} {z : ByteArray} (h : K (.c (.str z))) (hr : s.run P w = .ok (.string z) w) : BinR P w ι n K s := ⟨.string z, .c (.str z), hr, rfl, trivial, h⟩
theorem aBin_run {op : BinOp} {x y : AV} {v u : Value} {K : AV → Prop} {t : TypeId} (h : aBin op x y K) (hx : x.rel ι v) (hy : y.rel ι u) : BinR P w ι n K (binOp op t v u) := by
  unfold aBin at h
  split at h <;> first
    | exact h.elim
    | (obtain ⟨rfl, h⟩ := h
       have hx1 : v = _ := hx; have hy1 : u = _ := hy; subst hx1; subst hy1
       first
        | (refine bin_int h ?_; simp [binOp, Op.intArith]; done)
        | (refine bin_bool h ?_; simp [binOp, Op.intCmp]; done)
        | (refine bin_int h ?_; unfold binOp; simp only [ne_eq, not_true_eq_false, ↓reduceIte]; rfl; done)
        | (refine bin_int h.2 ?_; simp [binOp, Op.intDiv, h.1]; done))
    | (obtain ⟨h0, h⟩ := h
       have hx1 : v = _ := hx; have hy1 : u = _ := hy; subst hx1; subst hy1
       first
        | (refine bin_int h ?_; simp [binOp, Op.shift, Int.not_lt.2 h0]; done)
        | (refine bin_str h ?_; simp [binOp, Op.stringOp, IntKind.max, IntKind.signed, IntKind.bits]; omega; done))
    | (have hx1 : v = _ := hx; have hy1 : u = _ := hy; subst hx1; subst hy1
       exact bin_bool h (by simp [binOp, Op.stringOp]))
/-! ### equality of what is no number and no string -/
def kindT (P : Program) (t : TypeId) : Nat := match P.underlying t with
  | some .bool => 1
  | some (.pointer _) => 2
  | some (.slice _) => 3
  | some (.map _ _) => 4
  | some (.func _ _ _) => 5
  | some (.interface _) => 6
  | _ => 0
def basicK (P : Program) (t : TypeId) : Nat := match P.underlying t with
  | some (.int _) => 1
  | some .bool => 2
  | some .string => 3
  | _ => 0
/-- the places and kinds of a struct's fields, if all are plain -/
def fieldsK (P : Program) (t : TypeId) : Option (List (Nat × Nat)) := if (P.stoodInHeld t || P.eqGuardType P.depth t) = true then none else match P.underlying t with
  | some (.struct fs) => if (fs.toList.all fun f => f.name != "_" && basicK P f.type != 0) = true then some (fs.toList.map fun f => (f.offset, basicK P f.type)) else none
  | _ => none
def eqC : Nat → Option AC → Option AC → Option Bool → Option Bool
  | 1, some (.int k a), some (.int k' b), some r => if k = k' then some (a == b && r) else none
  | 2, some (.bool a), some (.bool b), some r => some (a == b && r)
  | 3, some (.str a), some (.str b), some r => some (a.toList == b.toList && r)
  | _, _, _, _ => none
def eqF : List (Nat × Nat) → List AC → List AC → Option Bool
  | [], _, _ => some true
  | p :: r, xs, ys => eqC p.2 xs[p.1]? ys[p.1]? (eqF r xs ys)
def aBinT (P : Program) (t : TypeId) (op : BinOp) (x y : AV) (K : AV → Prop) : Prop :=
  match op, x, y with
  | .eql, .c (.bool a), .c (.bool b) => kindT P t = 1 ∧ K (.c (.bool (a == b)))
  | .neq, .c (.bool a), .c (.bool b) => kindT P t = 1 ∧ K (.c (.bool (!(a == b))))
  | .eql, .c (.ptr r), .c (.ptr none) => kindT P t = 2 ∧ K (.c (.bool r.isNone))
  | .neq, .c (.ptr r), .c (.ptr none) => kindT P t = 2 ∧ K (.c (.bool (!r.isNone)))
  | .eql, .c (.fp _), .c (.ptr none) => kindT P t = 2 ∧ K (.c (.bool false))
  | .neq, .c (.fp _), .c (.ptr none) => kindT P t = 2 ∧ K (.c (.bool true))
  | .eql, .c (.sl r _), .c (.sl none _) => kindT P t = 3 ∧ K (.c (.bool r.isNone))
  | .neq, .c (.sl r _), .c (.sl none _) => kindT P t = 3 ∧ K (.c (.bool (!r.isNone)))
  | .eql, .c (.map r), .c (.map none) => kindT P t = 4 ∧ K (.c (.bool r.isNone))
  | .neq, .c (.map r), .c (.map none) => kindT P t = 4 ∧ K (.c (.bool (!r.isNone)))
  | .eql, .agg xs, .agg ys => ∃ b, (fieldsK P t).bind (fun l => eqF l xs ys) = some b ∧ K (.c (.bool b))
  | .neq, .agg xs, .agg ys => ∃ b, (fieldsK P t).bind (fun l => eqF l xs ys) = some b ∧ K (.c (.bool (!b)))
  | op, x, y => aBin op x y K
theorem run_basic {t : TypeId} (h : basicK P t ≠ 0) : (isAgg t).run P w = .ok false w := by
  unfold basicK at h
  split at h <;> first | exact absurd rfl h | (rename_i h'; unfold isAgg; rw [Sem.run_bind, run_underlying h']; rfl)
theorem run_part {t : TypeId} (h : basicK P t ≠ 0) {vs : List Value} {o : Nat} {v : Value} (hv : vs[o]? = some v) : (part t vs.toArray o).run P w = .ok v w := by
  unfold part
  rw [Sem.run_bind, run_basic h, Result.andThen_ok]
  simp [hv]
theorem relL_at {xs : List AC} {vs : List Value} (h : relL ι xs vs) {o : Nat} {x : AC} (hx : xs[o]? = some x) : ∃ v, vs[o]? = some v ∧ x.rel ι v := relL_get h o x hx
theorem run_eqF {xs ys : List AC} {vs us : List Value} (hx : relL ι xs vs) (hy : relL ι ys us) (d : Nat) : ∀ (fs : List Field) (b : Bool), (fs.all fun f => f.name != "_" && basicK P f.type != 0) = true → eqF (fs.map fun f => (f.offset, basicK P f.type)) xs ys = some b → (Op.eqFields (d + 1) vs.toArray us.toArray fs).run P w = .ok b w
  | [], b, _, h => by
    simp only [List.map_nil, eqF, Option.some.injEq] at h
    subst h; rfl
  | f :: fs, b, hall, h => by
    simp only [List.all_cons, Bool.and_eq_true, bne_iff_ne, ne_eq] at hall
    obtain ⟨⟨h1, h2⟩, h3⟩ := hall
    simp only [List.map_cons, eqF] at h
    have ih := run_eqF hx hy d fs
    generalize hr : eqF (fs.map fun f => (f.offset, basicK P f.type)) xs ys = r at h ih
    generalize hp : xs[f.offset]? = p at h
    generalize hq : ys[f.offset]? = q at h
    generalize hk : basicK P f.type = k at h
    have hk0 : basicK P f.type ≠ 0 := h2
    have hu : (k = 1 → ∃ q, P.underlying f.type = some (.int q)) ∧ (k = 2 → P.underlying f.type = some .bool) ∧ (k = 3 → P.underlying f.type = some .string) := by
      unfold basicK at hk
      split at hk <;> subst hk <;> simp_all
    unfold eqC at h
    have fin : ∀ (v u : Value) (c r : Bool), vs[f.offset]? = some v → us[f.offset]? = some u → (Op.equalIn (d + 1) f.type v u).run P w = .ok c w → some (c && r) = some b → (c = true → (Op.eqFields (d + 1) vs.toArray us.toArray fs).run P w = .ok r w) → (Op.eqFields (d + 1) vs.toArray us.toArray (f :: fs)).run P w = .ok b w := by
      intro v u c r h4 h6 h8 h9 h10
      injection h9 with h9
      subst h9
      simp only [Op.eqFields, ne_eq, h1, not_false_eq_true, if_true, Sem.run_bind, run_part hk0 h4, run_part hk0 h6, Result.andThen_ok, h8]
      cases c
      · simp
      · simp [h10 rfl]
    split at h
    · rename_i k a k' b' r
      split at h
      · rename_i hkk
        subst hkk
        obtain ⟨v, h4, h5⟩ := relL_at hx hp
        obtain ⟨u, h6, h7⟩ := relL_at hy hq
        simp only [AC.rel] at h5 h7
        subst h5; subst h7
        obtain ⟨q', hq'⟩ := hu.1 rfl
        exact fin _ _ _ _ h4 h6 (run_equalIn_int w d f.type _ q' _ _ hq') h (fun _ => ih _ (by simpa using h3) rfl)
      · cases h
    · obtain ⟨v, h4, h5⟩ := relL_at hx hp
      obtain ⟨u, h6, h7⟩ := relL_at hy hq
      simp only [AC.rel] at h5 h7
      subst h5; subst h7
      exact fin _ _ _ _ h4 h6 (run_equalIn_bool' w d f.type _ _ (hu.2.1 rfl)) h (fun _ => ih _ (by simpa using h3) rfl)
    · obtain ⟨v, h4, h5⟩ := relL_at hx hp
      obtain ⟨u, h6, h7⟩ := relL_at hy hq
      simp only [AC.rel] at h5 h7
      subst h5; subst h7
      exact fin _ _ _ _ h4 h6 (run_equalIn_string w d f.type _ _ (hu.2.2 rfl)) h (fun _ => ih _ (by simpa using h3) rfl)
    · cases h
theorem kind_ptr {t : TypeId} (h : kindT P t = 2) : ∃ e, P.underlying t = some (.pointer e) := by
  unfold kindT at h; split at h <;> first | (cases h; done) | exact ⟨_, by assumption⟩
theorem kind_sl {t : TypeId} (h : kindT P t = 3) : ∃ e, P.underlying t = some (.slice e) := by
  unfold kindT at h; split at h <;> first | (cases h; done) | exact ⟨_, by assumption⟩
theorem kind_map {t : TypeId} (h : kindT P t = 4) : ∃ k e, P.underlying t = some (.map k e) := by
  unfold kindT at h; split at h <;> first | (cases h; done) | exact ⟨_, _, by assumption⟩
theorem kind_bool {t : TypeId} (h : kindT P t = 1) : P.underlying t = some .bool := by
  unfold kindT at h; split at h <;> first | (cases h; done) | assumption
theorem run_eqIn_p (d : Nat) {t e : TypeId} (h : P.underlying t = some (.pointer e)) (p : Option Addr) : (Op.equalIn (d + 1) t (.pointer p) (.pointer none)).run P w = .ok p.isNone w := by
  cases p <;> simp [Op.equalIn, run_underlying h]
theorem run_equal_p {t e : TypeId} (h : P.underlying t = some (.pointer e)) (p : Option Addr) : (Op.equal t (.pointer p) (.pointer none)).run P w = .ok p.isNone w := run_eqIn_p 9999 h p
theorem run_eqIn_s (d : Nat) {t e : TypeId} (h : P.underlying t = some (.slice e)) (p : Option Addr) (n c : Nat) : (Op.equalIn (d + 1) t (.slice p n c) (.slice none 0 0)).run P w = .ok p.isNone w := by
  cases p <;> simp [Op.equalIn, run_underlying h]
theorem run_equal_s {t e : TypeId} (h : P.underlying t = some (.slice e)) (p : Option Addr) (n c : Nat) : (Op.equal t (.slice p n c) (.slice none 0 0)).run P w = .ok p.isNone w := run_eqIn_s 9999 h p n c
theorem run_eqIn_m (d : Nat) {t k e : TypeId} (h : P.underlying t = some (.map k e)) (p : Option Nat) : (Op.equalIn (d + 1) t (.map p) (.map none)).run P w = .ok p.isNone w := by
  cases p <;> simp [Op.equalIn, run_underlying h]
theorem run_equal_m {t k e : TypeId} (h : P.underlying t = some (.map k e)) (p : Option Nat) : (Op.equal t (.map p) (.map none)).run P w = .ok p.isNone w := run_eqIn_m 9999 h p
theorem kind_ifc {t : TypeId} (h : kindT P t = 6) : ∃ ms, P.underlying t = some (.interface ms) := by
  unfold kindT at h; split at h <;> first | (cases h; done) | exact ⟨_, by assumption⟩
theorem run_eqIn_i0 (d : Nat) {t : TypeId} {ms : Array (String × TypeId)} (h : P.underlying t = some (.interface ms)) : (Op.equalIn (d + 1) t .nilIface .nilIface).run P w = .ok true w := by
  simp [Op.equalIn, run_underlying h]
theorem run_eqIn_i1 (d : Nat) {t : TypeId} {ms : Array (String × TypeId)} (h : P.underlying t = some (.interface ms)) (q : TypeId) (v : Value) : (Op.equalIn (d + 1) t (.iface q v) .nilIface).run P w = .ok false w := by
  simp [Op.equalIn, run_underlying h]
theorem run_equal_i0 {t : TypeId} {ms : Array (String × TypeId)} (h : P.underlying t = some (.interface ms)) : (Op.equal t .nilIface .nilIface).run P w = .ok true w := run_eqIn_i0 9999 h
theorem run_equal_i1 {t : TypeId} {ms : Array (String × TypeId)} (h : P.underlying t = some (.interface ms)) (q : TypeId) (v : Value) : (Op.equal t (.iface q v) .nilIface).run P w = .ok false w := run_eqIn_i1 9999 h q v
theorem run_eqTop {t : TypeId} {xs ys : List AC} {vs us : List Value} (hx : relL ι xs vs) (hy : relL ι ys us) {b : Bool} (h : (fieldsK P t).bind (fun l => eqF l xs ys) = some b) :
    (∀ (op : BinOp) (X Y : Operand), (eqGuard op t X Y (.agg vs.toArray) (.agg us.toArray)).run P w = .ok () w) ∧ (Op.equalIn 10000 t (.agg vs.toArray) (.agg us.toArray)).run P w = .ok b w := by
  unfold fieldsK at h
  split at h
  · cases h
  · rename_i hg
    simp only [Bool.or_eq_true, not_or, Bool.not_eq_true] at hg
    split at h
    · rename_i fs hu
      split at h
      · rename_i hall
        have hf : P.fieldsOf t = fs := by unfold Program.fieldsOf; rw [hu]
        refine ⟨fun op X Y => run_eqGuard_agg w op t X Y _ _ hg.2, ?_⟩
        rw [show (10000 : Nat) = 9999 + 1 from rfl, run_equalIn_struct w 9999 t _ _ (by rw [hf]; exact hu) hg.1, hf]
        exact run_eqF hx hy 9998 _ b hall (by simpa using h)
      · cases h
    · cases h
theorem aBinT_run {op : BinOp} {x y : AV} {v u : Value} {K : AV → Prop} {t : TypeId} (h : aBinT P t op x y K) (hx : x.rel ι v) (hy : y.rel ι u) :
    ((∃ p, x = .c p) ∨ ∀ (X Y : Operand), (eqGuard op t X Y v u).run P w = .ok () w) ∧ BinR P w ι n K (binOp op t v u) := by
  unfold aBinT at h
  split at h
  · have hx1 : v = _ := hx; have hy1 : u = _ := hy; subst hx1; subst hy1
    exact ⟨.inl ⟨_, rfl⟩, bin_bool h.2 (by simp [binOp, run_equal_bool w t _ _ (kind_bool h.1)])⟩
  · have hx1 : v = _ := hx; have hy1 : u = _ := hy; subst hx1; subst hy1
    exact ⟨.inl ⟨_, rfl⟩, bin_bool h.2 (by simp [binOp, run_equal_bool w t _ _ (kind_bool h.1)])⟩
  · rename_i r
    obtain ⟨e, he⟩ := kind_ptr h.1
    have hy1 : u = .pointer none := hy
    subst hy1
    cases r with
    | none => have hx1 : v = .pointer none := hx
              subst hx1
              exact ⟨.inl ⟨_, rfl⟩, bin_bool h.2 (by simp [binOp, run_equal_p he])⟩
    | some p => have hx1 : v = ptrOf ι p := hx
                subst hx1
                exact ⟨.inl ⟨_, rfl⟩, bin_bool h.2 (by simp [binOp, ptrOf, run_equal_p he])⟩
  · rename_i r
    obtain ⟨e, he⟩ := kind_ptr h.1
    have hy1 : u = .pointer none := hy
    subst hy1
    cases r with
    | none => have hx1 : v = .pointer none := hx
              subst hx1
              exact ⟨.inl ⟨_, rfl⟩, bin_bool h.2 (by simp [binOp, run_equal_p he])⟩
    | some p => have hx1 : v = ptrOf ι p := hx
                subst hx1
                exact ⟨.inl ⟨_, rfl⟩, bin_bool h.2 (by simp [binOp, ptrOf, run_equal_p he])⟩
  · obtain ⟨e, he⟩ := kind_ptr h.1
    have hy1 : u = .pointer none := hy
    subst hy1
    obtain ⟨b, o, rfl, _⟩ : ∃ b o, v = .pointer (some ⟨b, o, none⟩) ∧ True := by
      have hx : AC.rel ι (.fp _) v := hx
      simp only [AC.rel, AC.relZ] at hx; obtain ⟨b, o, h1, _⟩ := hx; exact ⟨b, o, h1, trivial⟩
    exact ⟨.inl ⟨_, rfl⟩, bin_bool h.2 (by simp [binOp, run_equal_p he])⟩
  · obtain ⟨e, he⟩ := kind_ptr h.1
    have hy1 : u = .pointer none := hy
    subst hy1
    obtain ⟨b, o, rfl, _⟩ : ∃ b o, v = .pointer (some ⟨b, o, none⟩) ∧ True := by
      have hx : AC.rel ι (.fp _) v := hx
      simp only [AC.rel, AC.relZ] at hx; obtain ⟨b, o, h1, _⟩ := hx; exact ⟨b, o, h1, trivial⟩
    exact ⟨.inl ⟨_, rfl⟩, bin_bool h.2 (by simp [binOp, run_equal_p he])⟩
  · rename_i r _ _
    obtain ⟨e, he⟩ := kind_sl h.1
    obtain ⟨_, rfl⟩ := hy
    cases r with
    | none => obtain ⟨_, rfl⟩ := hx
              exact ⟨.inl ⟨_, rfl⟩, bin_bool h.2 (by simp [binOp, run_equal_s he])⟩
    | some p => obtain ⟨ad, rfl, _⟩ := hx
                exact ⟨.inl ⟨_, rfl⟩, bin_bool h.2 (by simp [binOp, run_equal_s he])⟩
  · rename_i r _ _
    obtain ⟨e, he⟩ := kind_sl h.1
    obtain ⟨_, rfl⟩ := hy
    cases r with
    | none => obtain ⟨_, rfl⟩ := hx
              exact ⟨.inl ⟨_, rfl⟩, bin_bool h.2 (by simp [binOp, run_equal_s he])⟩
    | some p => obtain ⟨ad, rfl, _⟩ := hx
                exact ⟨.inl ⟨_, rfl⟩, bin_bool h.2 (by simp [binOp, run_equal_s he])⟩
  · rename_i r
    obtain ⟨k, e, he⟩ := kind_map h.1
    have hy1 : u = .map none := hy
    subst hy1
    cases r <;> (have hx1 : v = _ := hx; subst hx1; exact ⟨.inl ⟨_, rfl⟩, bin_bool h.2 (by simp [binOp, run_equal_m he])⟩)
  · rename_i r
    obtain ⟨k, e, he⟩ := kind_map h.1
    have hy1 : u = .map none := hy
    subst hy1
    cases r <;> (have hx1 : v = _ := hx; subst hx1; exact ⟨.inl ⟨_, rfl⟩, bin_bool h.2 (by simp [binOp, run_equal_m he])⟩)
  · obtain ⟨b, h1, h2⟩ := h
    obtain ⟨vs, rfl, h3⟩ := hx
    obtain ⟨us, rfl, h4⟩ := hy
    obtain ⟨h5, h6⟩ := run_eqTop (P := P) (w := w) h3 h4 h1
    exact ⟨.inr fun X Y => h5 _ X Y, bin_bool h2 (by rw [run_eql_struct, h6]; rfl)⟩
  · obtain ⟨b, h1, h2⟩ := h
    obtain ⟨vs, rfl, h3⟩ := hx
    obtain ⟨us, rfl, h4⟩ := hy
    obtain ⟨h5, h6⟩ := run_eqTop (P := P) (w := w) h3 h4 h1
    exact ⟨.inr fun X Y => h5 _ X Y, bin_bool h2 (by rw [run_neq_struct, h6]; rfl)⟩
  · refine ⟨.inl ?_, aBin_run h hx hy⟩
    unfold aBin at h
    split at h <;> first | exact h.elim | exact ⟨_, rfl⟩
/-! ### a slice and nil -/
def isNilS : Operand → Bool
  | .const (.slice none _ _) => true
  | _ => false
/-- whether a slice that is read is nil: known only if it has elements -/
def aBinN (P : Program) (t : TypeId) (op : BinOp) (x y : AV) (nl : Bool) (K : AV → Prop) : Prop :=
  match nl, op, x, y with
  | true, .eql, .c (.lst _ els), .c (.sl none _) => kindT P t = 3 ∧ ∀ b : Bool, (els ≠ [] → b = false) → K (.c (.bool b))
  | true, .neq, .c (.lst _ els), .c (.sl none _) => kindT P t = 3 ∧ ∀ b : Bool, (els ≠ [] → b = true) → K (.c (.bool b))
  | _, _, _, _ => aBinT P t op x y K
/-- an interface value and nil -/
def isNilI : Operand → Bool
  | .const .nilIface => true
  | _ => false
def aNilI (P : Program) (t : TypeId) (op : BinOp) (x : AV) (K : AV → Prop) : Prop :=
  match op, x with
  | .eql, .c .nili => kindT P t = 6 ∧ K (.c (.bool true))
  | .neq, .c .nili => kindT P t = 6 ∧ K (.c (.bool false))
  | .eql, .c .ifc => kindT P t = 6 ∧ K (.c (.bool false))
  | .neq, .c .ifc => kindT P t = 6 ∧ K (.c (.bool true))
  | _, _ => False
def aBinO (P : Program) (t : TypeId) (op : BinOp) (x y : AV) (nl ni : Bool) (K : AV → Prop) : Prop := match ni with
  | true => aNilI P t op x K
  | false => aBinN P t op x y nl K
theorem isNilI_spec {y : Operand} (h : isNilI y = true) : y = .const .nilIface := by
  unfold isNilI at h
  split at h
  · rfl
  · cases h
theorem run_guard0 {op : BinOp} {t : TypeId} {x y : Operand} {v : Value} (h : y = .const .nilIface) (hv : v = .nilIface ∨ ∃ q z, v = .iface q z) : (eqGuard op t x y v .nilIface).run P w = .ok () w := by
  subst h
  rcases hv with rfl | ⟨q, z, rfl⟩
  · cases op <;> first | rfl | simp [eqGuard]
  · cases op <;> rfl
theorem aNilI_run {op : BinOp} {x : AV} {v : Value} {K : AV → Prop} {t : TypeId} {X y : Operand} (h : aNilI P t op x K) (hx : x.rel ι v) (hy : y = .const .nilIface) : (eqGuard op t X y v .nilIface).run P w = .ok () w ∧ BinR P w ι n K (binOp op t v .nilIface) := by
  unfold aNilI at h
  split at h
  · obtain ⟨ms, he⟩ := kind_ifc h.1
    have hx1 : v = .nilIface := hx
    subst hx1
    exact ⟨run_guard0 hy (.inl rfl), bin_bool h.2 (by simp [binOp, run_equal_i0 he])⟩
  · obtain ⟨ms, he⟩ := kind_ifc h.1
    have hx1 : v = .nilIface := hx
    subst hx1
    exact ⟨run_guard0 hy (.inl rfl), bin_bool h.2 (by simp [binOp, run_equal_i0 he])⟩
  · obtain ⟨ms, he⟩ := kind_ifc h.1
    obtain ⟨q, z, rfl⟩ : ∃ q z, v = .iface q z := hx
    exact ⟨run_guard0 hy (.inr ⟨q, z, rfl⟩), bin_bool h.2 (by simp [binOp, run_equal_i1 he])⟩
  · obtain ⟨ms, he⟩ := kind_ifc h.1
    obtain ⟨q, z, rfl⟩ : ∃ q z, v = .iface q z := hx
    exact ⟨run_guard0 hy (.inr ⟨q, z, rfl⟩), bin_bool h.2 (by simp [binOp, run_equal_i1 he])⟩
  · exact h.elim
theorem aBinN_run {op : BinOp} {x y : AV} {nl : Bool} {v u : Value} {K : AV → Prop} {t : TypeId} (h : aBinN P t op x y nl K) (hx : x.rel ι v) (hy : y.rel ι u) :
    ((∃ p, x = .c p) ∨ ∀ (X Y : Operand), (eqGuard op t X Y v u).run P w = .ok () w) ∧ BinR P w ι n K (binOp op t v u) := by
  unfold aBinN at h
  split at h
  · rename_i sz els q
    obtain ⟨e, he⟩ := kind_sl h.1
    obtain ⟨_, rfl⟩ := hy
    have hx : AC.rel ι (.lst sz els) v := hx
    simp only [AC.rel, AC.relZ] at hx
    obtain ⟨p, c, rfl, _, _, h4, _⟩ := hx
    exact ⟨.inl ⟨_, rfl⟩, bin_bool (z := p.isNone) (h.2 _ (fun hne => by cases p with | none => exact absurd (h4 rfl).1 hne | some a => rfl)) (by simp [binOp, run_equal_s he])⟩
  · rename_i sz els q
    obtain ⟨e, he⟩ := kind_sl h.1
    obtain ⟨_, rfl⟩ := hy
    have hx : AC.rel ι (.lst sz els) v := hx
    simp only [AC.rel, AC.relZ] at hx
    obtain ⟨p, c, rfl, _, _, h4, _⟩ := hx
    exact ⟨.inl ⟨_, rfl⟩, bin_bool (z := !p.isNone) (h.2 _ (fun hne => by cases p with | none => exact absurd (h4 rfl).1 hne | some a => rfl)) (by simp [binOp, run_equal_s he])⟩
  · exact aBinT_run h hx hy
end
end Go.Proofs.YtkmkkjlfnobciaaGreatDoor
