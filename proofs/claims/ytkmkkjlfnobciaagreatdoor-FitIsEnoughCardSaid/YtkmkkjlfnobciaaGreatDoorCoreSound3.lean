/- What the plain heap says of an operation holds of the world (3): all operations. No condition. -/
import Derived.Test.YtkmkkjlfnobciaaGreatDoorCoreMap
import Derived.Laws.IdiomStrings
import Derived.Laws.BytesArg
import Derived.Lib.ConvBytes
namespace Go.Proofs.YtkmkkjlfnobciaaGreatDoor
open Go Go.RowKit
set_option linter.all false
set_option maxRecDepth 10000

section
variable {P : Program} {B : Nat} {w0 w w' : World} {ι ι' : En} {H : Hp} {F : Fr} {a : Act} {N n m : Nat} {Q : Exit → Act → World → Prop} {next : Act → World → Prop} {o : Oper} {K : AV → Hp → Prop}

theorem step_val {v : Value} {av : AV} (hs : Sim B w0 ι H w) (he : execOp a.eval o = pure (.value v)) (hr : AV.rel ι av v) (ho : av.ok H.length) (hk : K av H) : o.wp P a w (StepK B w0 ι H.length a o.dst K) Q :=
  step_same hs (by rw [he]; rfl) hr ho hk
theorem aBin_c {op : BinOp} {x y : AV} {K : AV → Prop} (h : aBin op x y K) : ∃ p q, x = .c p ∧ y = .c q := by
  unfold aBin at h
  split at h <;> first | exact h.elim | exact ⟨_, _, rfl, rfl⟩
theorem rel_noagg {c : AC} {v : Value} (hc : c ≠ .nili) (h : c.rel ι v) : (∀ cs, v ≠ .agg cs) ∧ v ≠ .nilIface := by
  cases c with
  | ptr r => cases r <;> (simp only [AC.rel] at h; subst h; simp [ptrOf])
  | sl r k =>
    cases r with
    | none => obtain ⟨_, rfl⟩ := h; simp
    | some p => obtain ⟨ad, rfl, _⟩ := h; simp
  | map r => cases r <;> (simp only [AC.rel] at h; subst h; simp)
  | lst sz els => simp only [AC.rel, AC.relZ] at h; obtain ⟨p, c, rfl, _⟩ := h; simp
  | fp cs => simp only [AC.rel, AC.relZ] at h; obtain ⟨b, o, rfl, _⟩ := h; simp
  | nili => exact absurd rfl hc
  | ifc => obtain ⟨t, u, rfl⟩ := h; simp
  | _ => simp only [AC.rel] at h; subst h; simp
theorem nili_no {t : TypeId} {b : BinOp} {y : AV} {nl : Bool} {K : AV → Prop} (h : aBinN P t b (.c .nili) y nl K) : False := by
  cases nl <;> cases b <;> exact h
theorem run_eqGuard' {op : BinOp} {t : TypeId} {x y : Operand} {v u : Value} (hv : (∀ cs, v ≠ .agg cs) ∧ v ≠ .nilIface) : (eqGuard op t x y v u).run P w = .ok () w := by
  cases op <;> first | rfl | (cases v <;> first | rfl | exact absurd rfl hv.2 | exact absurd rfl (hv.1 _))
theorem ptrsOf_rel : ∀ {l : List Operand} {ps : List (Nat × Nat × Nat)}, (∀ x ∈ l, (evC F x).rel ι (a.eval x) ∧ (evC F x).ok n) → ptrsOf (l.map (evC F)) = some ps → l.map a.eval = ps.map (ptrOf ι) ∧ ∀ p ∈ ps, p.1 < n
  | [], ps, _, h => by
    simp only [List.map_nil, ptrsOf, Option.some.injEq] at h
    subst h; exact ⟨rfl, by simp⟩
  | x :: l, ps, hr, h => by
    simp only [List.map_cons] at h
    have h1 := hr x (by simp)
    unfold ptrsOf at h
    split at h
    · rename_i heq; cases heq
    · rename_i p l' heq
      injection heq with e1 e2
      subst e2
      rw [e1] at h1
      simp only [Option.map_eq_some_iff] at h
      obtain ⟨qs, h2, rfl⟩ := h
      obtain ⟨h3, h4⟩ := ptrsOf_rel (fun y hy => hr y (by simp [hy])) h2
      have h5 : a.eval x = ptrOf ι p := h1.1
      exact ⟨by rw [List.map_cons, List.map_cons, h3, h5], by
        intro q hq
        rcases List.mem_cons.1 hq with rfl | hq
        · exact h1.2
        · exact h4 q hq⟩
    · cases h
theorem argsRel_of {l : List Operand} (hF : FOk N ι n F a) (hne : ∀ x ∈ l, ∀ ts, evC F x ≠ .tup ts) : rel1L ι (l.map (evC F)) (l.map a.eval) ∧ ∀ x ∈ l.map (evC F), x.ok1 n := by
  induction l with
  | nil => exact ⟨trivial, by simp⟩
  | cons x l ih =>
    have h1 := evC_rel hF x
    have h2 := evC_ok hF x
    obtain ⟨h3, h4⟩ := ih (fun y hy => hne y (by simp [hy]))
    have hx := hne x (by simp)
    have e1 : (evC F x).rel1 ι (a.eval x) ∧ (evC F x).ok1 n := by
      cases hh : evC F x with
      | tup ts => exact absurd hh (hx ts)
      | c y => rw [hh] at h1 h2; exact ⟨h1, h2⟩
      | agg cs => rw [hh] at h1 h2; exact ⟨h1, h2⟩
      | any => exact ⟨trivial, trivial⟩
    exact ⟨⟨e1.1, h3⟩, fun y hy => by
      rcases List.mem_cons.1 hy with rfl | hy
      · exact e1.2
      · exact h4 y hy⟩
theorem rel1L_append : ∀ {xs ys : List AV} {vs us : List Value}, rel1L ι xs vs → rel1L ι ys us → rel1L ι (xs ++ ys) (vs ++ us)
  | [], _, [], _, _, h => h
  | _ :: _, _, _ :: _, _, h, k => ⟨h.1, rel1L_append h.2 k⟩
theorem ptrs_rel : ∀ l : List (Nat × Nat × Nat), rel1L ι (ptrs l) (l.map (ptrOf ι))
  | [] => trivial
  | p :: l => ⟨rfl, ptrs_rel l⟩
theorem callFunc_run {f : FuncId} (h : entersB P f = true) (args : Array Value) : (callFunc f args).run P w = .ok (.enter f args) w := by
  unfold entersB at h
  cases hf : P.funcs[f]? with
  | none => rw [hf] at h; cases h
  | some fn =>
    rw [hf] at h
    simp only [Option.any_some, Bool.and_eq_true] at h
    obtain ⟨h1, h2⟩ := h
    have h3 : (fn.name == "runtime.NumGoroutine") = false := by simpa using h2
    have h4 : fn.body.isNone = false := by cases hb : fn.body <;> simp_all
    have h5 : ¬ fn.name = "runtime.NumGoroutine" := by simpa using h3
    have h6 : ¬ fn.body = none := by intro h7; rw [h7] at h1; cases h1
    simp [callFunc, hf, h5, h6]
theorem call_upon {f : FuncId} {args : Array Value} {x : AV → Hp → Prop} (h : Calls P f args w (Done B w0 ι n x)) : o.upon P a (StepK B w0 ι n a o.dst x) Q (.ok (.enter f args) w) := by
  show Calls P f args w _
  refine h.mono fun e w' he => ?_
  obtain ⟨ι', v, av, H', rfl, h1, h2, h3, h4, h5, h6⟩ := he
  exact ⟨ι', v, av, H', rfl, h1, h2, h3, h4, h5, h6⟩
theorem opt_rel (hF : FOk N ι n F a) (x : Option Operand) : (∀ y, x.map (evC F) = some y → ∃ v, x.map a.eval = some v ∧ y.rel ι v) ∧ (x.map (evC F) = none → x.map a.eval = none) := by
  cases x with
  | none => exact ⟨by simp, by simp⟩
  | some z => exact ⟨fun y hy => ⟨a.eval z, rfl, by simp at hy; subst hy; exact evC_rel hF z⟩, by simp⟩
/-- WHAT THE PLAIN HEAP SAYS OF AN OPERATION HOLDS. -/
theorem zeroCells_len (z : Array Value) (n : Nat) : (Builtin.zeroCells z n).toList.length = n * z.size := by simp [Builtin.zeroCells]
theorem runK_clear {t e i k n sz ty : Nat} {els : List (List AC)} {z : List AC} {v : Value} {tt : TypeId} (hs : Sim B w0 ι H w) (hi : H[i]? = some (.row ty sz els true)) (he : elemT P t = some e) (hz : zeroT P e = some z) (hzl : z.length = sz) (hk : k + (n + 1) = els.length)
    (hv : AC.rel ι (.sl (some (i, k)) (n + 1)) v) (hK : K (.tup []) (H.set i (.row ty sz (els.take k) true))) : RunK P B w0 ι H.length K (Builtin.clear_ #[t] tt #[v]) w := by
  obtain ⟨ad, rfl, hcap, had⟩ := hv
  have hsc := hs.scope i _ hi
  obtain ⟨h1, h2, cur, fr, h3, h4, h5⟩ := hs.obj i _ hi
  obtain ⟨rfl, hoff, hcs, hcm⟩ := h5 rfl
  obtain ⟨zv, hzi, hzr, hzo⟩ := zeroT_rel hz ι
  have hzs : zv.cells.size = sz := by rw [← hzl, relL_len hzr, Array.length_toList]
  have hat : ad = ⟨(ι i).block, k * sz, none⟩ := by rw [had (.inl (by omega))]; simp [Loc.at, hoff, h1]
  subst hat
  have hlen : (Builtin.zeroCells zv.cells (n + 1)).toList.length = (n + 1) * sz := by rw [zeroCells_len, hzs]
  have hone : ∀ u ∈ (Builtin.zeroCells zv.cells (n + 1)).toList, u.oneCell' = true := by
    intro u hu
    rw [Array.mem_toList_iff] at hu
    unfold Builtin.zeroCells at hu
    rw [Array.mem_map] at hu
    obtain ⟨q, hq, rfl⟩ := hu
    rw [Array.mem_range] at hq
    have hpos : 0 < zv.cells.size := by
      rcases Nat.eq_zero_or_pos zv.cells.size with h0 | h0
      · rw [h0] at hq; omega
      · exact h0
    have hq2 := Nat.mod_lt q hpos
    obtain ⟨x, hx⟩ : ∃ x, z[q % zv.cells.size]? = some x := ⟨_, List.getElem?_eq_getElem (by omega)⟩
    obtain ⟨y, hy, hyr⟩ := relL_get hzr _ _ hx
    rw [Array.getElem?_toList] at hy
    have : zv.cells[q % zv.cells.size]! = y := by rw [getElem!_def, hy]
    rw [this]
    exact AC.rel_one hyr
  have hfit : k * sz + (Builtin.zeroCells zv.cells (n + 1)).toList.length ≤ cur.size := by
    rw [hlen, hcs, ← Nat.add_mul]
    exact Nat.mul_le_mul_right _ (by omega)
  have hrun := run_storeCells_at P (ι i).block (k * sz) ty (Builtin.zeroCells zv.cells (n + 1)).toList 0 cur w h3 (by simpa using hfit) hone
  try simp only [Nat.add_zero] at hrun
  obtain ⟨w', hw, hset⟩ : ∃ w', (storeCells ⟨(ι i).block, k * sz, none⟩ (Builtin.zeroCells zv.cells (n + 1)).toList 0).run P w = .ok () w' ∧ Sim B w0 ι (H.set i (.row ty sz (els.take k) true)) w' := by
    refine ⟨_, hrun, hs.set hi rfl (fun q hq => setRow_other w _ q _ hq) (setRow_size _ _ _) rfl rfl rfl ?_ ?_⟩
    · exact fun x hx => hsc x (List.mem_of_mem_take hx)
    refine ⟨h1, by simp; omega, _, (0, 0), setRow_heap w _ cur _ ty _ h3, fun k' e' hk' j' x hj' => ?_, fun _ => ⟨rfl, hoff, by simp at hfit ⊢; omega, hcm⟩⟩
    rw [List.getElem?_take] at hk'
    split at hk'
    · rename_i hlt
      obtain ⟨u, hu, hr⟩ := h4 k' e' hk' j' x hj'
      refine ⟨u, ?_, hr⟩
      rw [hoff, Nat.zero_add] at hu ⊢
      have hj'l : j' < sz := by
        have := (hsc e' (List.mem_of_getElem? hk')).1
        have := getElem?_lt hj'
        omega
      have hap := mul_apart (j := j') (j' := 0) (sz := sz) hlt hj'l
      have hget := splice_get cur.toList (k * sz) (Builtin.zeroCells zv.cells (n + 1)).toList (k' * sz + j') (by simpa using hfit)
      rw [if_pos (by omega)] at hget
      rw [List.getElem?_toArray]
      refine hget.trans ?_
      rw [Array.getElem?_toList]
      exact hu
    · cases hk'
  refine ⟨.tuple #[], _, ι, .tup [], _, ?_, Agree.refl _ _, by simp, hset, ⟨[], rfl, trivial⟩, by intro x hx; simp at hx, hK⟩
  simp [Builtin.clear_, run_underlying (elemT_und he), run_zeroValue hzi, hw]
theorem run_convI {sr d : TypeId} {ds : TypeDesc} {kd k : IntKind} {n : Int} (h1 : P.underlying sr = some ds) (h2 : P.underlying d = some (.int k)) : (convert sr d (.int kd n)).run P w = .ok (.int k (k.wrap n)) w := by
  unfold convert
  rw [Sem.run_bind, run_underlying h1, Result.andThen_ok, Sem.run_bind, run_underlying h2, Result.andThen_ok]
  cases ds <;> rfl
theorem run_convS {sr d : TypeId} {ds : TypeDesc} {z : ByteArray} (h1 : P.underlying sr = some ds) (h2 : P.underlying d = some .string) : (convert sr d (.string z)).run P w = .ok (.string z) w := by
  unfold convert
  rw [Sem.run_bind, run_underlying h1, Result.andThen_ok, Sem.run_bind, run_underlying h2, Result.andThen_ok]
  cases ds <;> rfl
/-- a block of the call's own is read for ever -/
theorem Sim.seen (h : Sim B w0 ι H w) {b : Nat} {cur : Array Value} {ty : TypeId} {fr : Nat × Nat} (hb : w.heap[b]? = some (.cells cur ty fr)) (hn : ∀ (i : Nat) (o : AObj), H[i]? = some o → o.owned = true → (ι i).block ≠ b) : Sim B w0 (frzE ι b cur) H w := by
  have hA := frzE_agree h hb H.length
  refine ⟨h.below, h.big, h.scope, fun i o hi => AObj.holds_agree hA (h.scope i o hi) (h.obj i o hi), h.sep, h.base, fun b' o v hf => ?_, fun i o hi ho o' => ?_⟩
  · simp only [frzE] at hf
    split at hf
    · rename_i e; subst e; exact ⟨cur, _, fr, hb, hf⟩
    · exact h.froz _ _ _ hf
  · show (if (ι i).block = b then cur[o']? else ι.fz (ι i).block o') = none
    rw [if_neg (hn i o hi ho)]
    exact h.apart i o hi ho o'
theorem runK_bytes {sr d e : TypeId} {ds : TypeDesc} {z : ByteArray} (hs : Sim B w0 ι H w) (hds : P.underlying sr = some ds) (hd : P.underlying d = some (.slice e)) (he : P.underlying e = some (.int .u8)) (hk : K (.c (.lst 1 (bytesL z))) H) : RunK P B w0 ι H.length K (convert sr d (.string z)) w := by
  have hg : w.grownBy (Lib.bytesWorld w e z) none := ⟨by first | (simp [Lib.bytesWorld, World.freeze]; done) | (simp [Lib.bytesWorld, World.freeze]; rfl), by first | (simp [Lib.bytesWorld, World.freeze]; done) | (simp [Lib.bytesWorld, World.freeze]; rfl), by first | (simp [Lib.bytesWorld, World.freeze]; done) | (simp [Lib.bytesWorld, World.freeze]; rfl), by rw [Lib.bytesWorld_size]; omega, fun k hk _ => Lib.bytesWorld_at_old w e z k hk⟩
  have h1 := hs.grown hg
  have hb := Lib.bytesWorld_at_new w e z
  have hn : ∀ (i : Nat) (o : AObj), H[i]? = some o → o.owned = true → (ι i).block ≠ w.heap.size := fun i o hi ho e => by
    have hl : o.live = true := by cases o <;> simp_all [AObj.owned, AObj.live]
    have := AObj.holds_lt hl (hs.obj i o hi)
    omega
  have h2 := h1.seen hb hn
  have hA := frzE_agree h1 hb H.length
  refine ⟨_, _, _, .c (.lst 1 (bytesL z)), H, Lib.run_convert_string_bytes w sr d e z hds hd he, hA, Nat.le_refl _, h2, ?_, trivial, hk⟩
  show AC.rel _ (.lst 1 (bytesL z)) _
  simp only [AC.rel, AC.relZ]
  have hl : (bytesL z).length = z.size := by simp [bytesL]
  refine ⟨some ⟨w.heap.size, 0, none⟩, _, by rw [hl], by rw [hl]; exact grownCap_ge w z.size 0 e, ?_, by simp, fun a ha => ?_⟩
  · intro x hx
    obtain ⟨b, _, rfl⟩ := List.mem_map.1 hx
    rfl
  · injection ha with ha; subst ha
    refine ⟨.inr rfl, relRows_of fun k x hk => relCells_of fun j y hj => ?_⟩
    have hkl := getElem?_lt hk
    rw [hl] at hkl
    unfold bytesL at hk
    rw [List.getElem?_map] at hk
    have hkd : k < z.data.toList.length := by simpa using hkl
    rw [List.getElem?_eq_getElem hkd] at hk
    injection hk with hk
    subst hk
    have hj0 : j = 0 := by
      have := getElem?_lt hj
      simp at this
      exact this
    subst hj0
    injection hj with hj
    subst hj
    refine ⟨_, ?_, rfl⟩
    show (if w.heap.size = w.heap.size then (Lib.bytesCells w e z)[0 + k * 1 + 0]? else _) = _
    rw [if_pos rfl, show 0 + k * 1 + 0 = k by omega]
    unfold Lib.bytesCells
    rw [Array.getElem?_append_left (by simpa using hkl), Array.getElem?_map]
    have : k < z.data.size := hkl
    rw [Array.getElem?_eq_getElem this]
    simp
theorem unbyte_get : ∀ {els : List (List AC)} {l : List UInt8}, unbyte els = some l → els.length = l.length ∧ ∀ k (h : k < l.length), els[k]? = some [.int .u8 (l[k].toNat : Int)]
  | [], l, h => by simp [unbyte] at h; subst h; simp
  | [.int .u8 n] :: els, l, h => by
    unfold unbyte at h
    split at h
    · rename_i hn
      obtain ⟨l', h1, rfl⟩ := Option.map_eq_some_iff.1 h
      obtain ⟨h2, h3⟩ := unbyte_get h1
      refine ⟨by simp [h2], fun k hk => ?_⟩
      cases k with
      | zero =>
        have : ((UInt8.ofNat n.toNat).toNat : Int) = n := by
          rw [UInt8.toNat_ofNat']
          omega
        simp only [List.getElem?_cons_zero, List.getElem_cons_zero, this]
      | succ k => simpa using h3 k (by simpa using hk)
    · cases h
theorem runK_unbyte {sr d e : TypeId} {v : Value} {sz : Nat} {els : List (List AC)} {l : List UInt8} (hs : Sim B w0 ι H w) (hr : AC.rel ι (.lst sz els) v) (hl : unbyte els = some l) (hd : P.underlying sr = some (.slice e)) (he : P.underlying e = some (.int .u8)) (hstr : P.underlying d = some .string) (hk : K (.c (.str ⟨l.toArray⟩)) H) : RunK P B w0 ι H.length K (convert sr d v) w := by
  obtain ⟨hlen, hget⟩ := unbyte_get hl
  simp only [AC.rel, AC.relZ] at hr
  obtain ⟨p, c, rfl, h2, h3, h4, h5⟩ := hr
  have hn : (convert sr d (.slice p els.length c)).run P w = .ok (.string ⟨l.toArray⟩) w := by
    cases p with
    | none =>
      obtain ⟨rfl, rfl⟩ := h4 rfl
      have : l = [] := List.length_eq_zero_iff.1 (by simpa using hlen.symm)
      subst this
      exact run_convert_bytes_nil w sr e hd he _ _ d hstr
    | some a =>
      rw [hlen]
      refine run_convert_bytes_back w sr d e a c l hd he hstr fun j hj => ?_
      obtain ⟨h6, h7⟩ := h5 a rfl
      have hsp : a.spot = none := by
        rcases h6 with h6 | h6
        · subst h6; simp at hlen; omega
        · exact h6
      have hgj := hget j hj
      have hs1 : sz = 1 := (h3 _ (List.mem_of_getElem? hgj)).symm
      subst hs1
      obtain ⟨u, hu, hv⟩ := relCells_get (relRows_get h7 j _ hgj) 0 _ rfl
      have hv : u = .int .u8 (l[j].toNat : Int) := hv
      subst hv
      obtain ⟨cur, ty, fr, h8, h9⟩ := hs.froz _ _ _ hu
      have e1 : a.add j = ⟨a.block, a.off + j, none⟩ := by
        unfold Addr.add
        cases a
        simp_all
      rw [e1]
      unfold World.cell?
      dsimp only
      rw [h8]
      rw [show a.off + j = a.off + j * 1 + 0 by omega]
      exact h9
  exact runK_same hs (v := .string ⟨l.toArray⟩) (av := .c (.str ⟨l.toArray⟩)) hn rfl trivial hk
theorem bytesT_spec {d : TypeId} (h : bytesT P d = true) : ∃ e, P.underlying d = some (.slice e) ∧ P.underlying e = some (.int .u8) := by
  unfold bytesT at h
  split at h
  · rename_i e he
    refine ⟨e, he, ?_⟩
    unfold intK at h
    split at h
    · rename_i k hk
      have : k = .u8 := by simpa using h
      rw [hk, this]
    · simp at h
  · cases h
theorem aOp_sound (hs : Sim B w0 ι H w) (hF : FOk N ι H.length F a) (h : aOp P o.op (evC F) H K) : o.wp P a w (StepK B w0 ι H.length a o.dst K) Q := by
  have R := fun x => evC_rel hF x
  have O := fun x => evC_ok hF x
  obtain ⟨dst, op, ty, pos, after, guard⟩ := o
  cases op <;> first | exact h.elim | skip
  case move x => exact step_val hs rfl (R x) (O x) h
  case assign x => exact step_val hs rfl (R x) (O x) h
  case pick c x y =>
    simp only [aOp, aPick] at h
    split at h
    · rename_i t hc
      have hcv : a.eval c = .bool t := by have := R c; rw [hc] at this; exact this
      have hrun : (execOp a.eval ⟨dst, .pick c x y, ty, pos, after, guard⟩).run P w = .ok (.value (if t = true then a.eval x else a.eval y)) w := by
        simp [execOp, hcv, asBool]
      split at h
      · rename_i p q hx hy
        have hxv : a.eval x = .bool p := by have := R x; rw [hx] at this; exact this
        have hyv : a.eval y = .bool q := by have := R y; rw [hy] at this; exact this
        refine step_same hs hrun (av := .c (.bool (bif t then p else q))) ?_ trivial h
        rw [hxv, hyv]
        cases t <;> rfl
      · refine step_same hs hrun ?_ ?_ h
        · cases t
          · exact R y
          · exact R x
        · cases t
          · exact O y
          · exact O x
    · exact h.elim
  case binOp b t x y t2 =>
    have h : aBinO P t b (evC F x) (evC F y) (isNilS y) (isNilI y) (fun v => K v H) := h
    have hxr := R x
    have hyr := R y
    unfold aBinO at h
    split at h
    · rename_i hni
      have hy := isNilI_spec hni
      have hv : a.eval y = .nilIface := by rw [hy]; rfl
      obtain ⟨hg, r, av, h1, h2, h3, h4⟩ := aNilI_run (P := P) (w := w) (n := H.length) (t := t) (X := x) h hxr hy
      refine step_same hs (v := r) ?_ h2 h3 h4
      simp only [execOp, Sem.run_bind, hv, hg, Result.andThen_ok, h1, Sem.run_pure]
    obtain ⟨hg, r, av, h1, h2, h3, h4⟩ := aBinN_run (P := P) (w := w) (n := H.length) (t := t) h hxr hyr
    refine step_same hs (v := r) ?_ h2 h3 h4
    have hg' : (eqGuard b t x y (a.eval x) (a.eval y)).run P w = .ok () w := by
      rcases hg with ⟨p, hp⟩ | hg
      · rw [hp] at hxr; exact run_eqGuard' (rel_noagg (by rintro rfl; rw [hp] at h; exact nili_no h) hxr)
      · exact hg x y
    simp only [execOp, Sem.run_bind, hg', Result.andThen_ok, h1, Sem.run_pure]
  case unOp u t x =>
    simp only [aOp, aUn] at h
    split at h
    · rename_i b hx
      have hv : a.eval x = .bool b := by have := R x; rw [hx] at this; exact this
      exact step_same hs (v := .bool !b) (av := .c (.bool !b)) (by simp [execOp, hv, Op.unary]) rfl trivial h
    · rename_i k z hx
      have hv : a.eval x = .int k z := by have := R x; rw [hx] at this; exact this
      exact step_same hs (v := .int k (k.wrap (0 - z))) (av := .c (.int k (k.wrap (0 - z)))) (by simp [execOp, hv, Op.unary, Op.intArith]) rfl trivial h
    · exact h.elim
  case alloc t =>
    simp only [aOp, aNew] at h
    split at h
    · rename_i cs hz
      exact runK_wp rfl (runK_alloc hs hz h)
    · exact h.elim
  case box t x =>
    simp only [aOp, aNew] at h
    split at h
    · rename_i cs hz
      exact runK_wp rfl (runK_box hs hz (R x) (O x) h)
    · exact h.elim
  case build t ps =>
    simp only [aOp, aBuild] at h
    split at h
    · rename_i cs hcs
      obtain ⟨hfo, h⟩ := h
      cases hz : zeroT P t with
      | none => rw [hz] at hcs; cases hcs
      | some z =>
        rw [hz, Option.bind_some] at hcs
        have hfs : ∃ fs, P.underlying t = some (.struct fs) := by
          unfold fieldsOk at hfo
          split at hfo
          · rename_i fs hfs; exact ⟨fs, hfs⟩
          · cases hfo
        obtain ⟨fs, hfs⟩ := hfs
        exact runK_wp rfl (runK_build hs hF hfs hfo hz hcs h)
    · exact h.elim
  case buildSlice t k ps =>
    simp only [aOp, aLit] at h
    cases he : elemT P t with
    | none => rw [he] at h; exact h.elim
    | some e =>
      rw [he] at h
      simp only [Option.bind_some, Option.elim_some] at h
      cases hl : litEls (szT P e) 0 (partsOf ps.toList (evC F)) with
      | none => rw [hl] at h; exact h.elim
      | some els =>
        rw [hl] at h
        exact runK_wp rfl (runK_buildSlice hs hF he hl h)
  case load t x =>
    simp only [aOp, aLoad] at h
    split at h
    · rename_i i k j hx
      have hv : a.eval x = ptrOf ι (i, k, j) := by have := R x; rw [hx] at this; exact this
      unfold elAt at h
      split at h
      · rename_i ty' sz els own hi
        cases hk : els[k]? with
        | none => rw [hk] at h; simp only [aLd] at h
        | some e =>
          rw [hk] at h
          refine runK_wp (s := Instr.loadAt t (a.eval x)) rfl ?_
          rw [hv]
          refine runK_load hs hi hk ?_
          cases ht : aggT P t with
          | true => rw [ht] at h; simp only [aLd, aIf] at h; rw [if_pos rfl]; exact ⟨h.1.1, h.1.2, h.2⟩
          | false => rw [ht] at h; simp only [aLd, aOf] at h; rw [if_neg (by simp)]; exact h
      · simp only [aLd] at h
    · rename_i cs hx
      have hv : AC.rel ι (.fp cs) (a.eval x) := by have := R x; rw [hx] at this; exact this
      refine runK_wp (s := Instr.loadAt t (a.eval x)) rfl (runK_fload hs hv ?_)
      cases ht : aggT P t with
      | true => rw [ht] at h; simp only [aLd, aIf] at h; rw [if_pos rfl]; exact ⟨h.1.1, by simpa using h.1.2, by simpa using h.2⟩
      | false => rw [ht] at h; simp only [aLd, aOf] at h; rw [if_neg (by simp)]; exact h
    · exact h.elim
  case store t x y =>
    simp only [aOp, aSt] at h
    split at h
    · rename_i i k j cs hx hc
      have hv : a.eval x = ptrOf ι (i, k, j) := by have := R x; rw [hx] at this; exact this
      unfold aSt2 at h
      split at h
      · rename_i ty' sz els hi
        unfold aSt3 at h
        split at h
        · rename_i e hk
          obtain ⟨⟨h1, h2, h3⟩, h4⟩ := h
          obtain ⟨w', h5, ι', av, H', h6, h7, h8, h9, h10, h11⟩ := runK_store (P := P) hs hi hk hc (R y) (O y) h1 h2 h3 h4
          refine wp_skp (w' := w') ?_ ⟨ι', _, av, H', rfl, h6, h7, h8, h9, h10, h11⟩
          show (do Instr.storeAt t (a.eval x) (a.eval y); pure Next.skip : Sem Next).run P w = _
          rw [hv]
          simp [h5]
        · exact h.elim
      · exact h.elim
    · exact h.elim
  case nilCheck x =>
    simp only [aOp, aNil] at h
    split at h
    · rename_i p hx
      have hv : a.eval x = ptrOf ι p := by have := R x; rw [hx] at this; exact this
      have ho := O x
      rw [hx] at ho
      exact step_same hs (v := ptrOf ι p) (av := .c (.ptr (some p))) (by simp [execOp, hv, ptrOf]) rfl ho h
    · rename_i cs hx
      have hv : AC.rel ι (.fp cs) (a.eval x) := by have := R x; rw [hx] at this; exact this
      have hv' := hv
      simp only [AC.rel, AC.relZ] at hv'
      obtain ⟨b, o, he, _⟩ := hv'
      exact step_same hs (v := a.eval x) (av := .c (.fp cs)) (by simp [execOp, he]) hv trivial h
    · exact h.elim
  case fieldAddr s x f =>
    simp only [aOp, aFld] at h
    split at h
    · rename_i i k j p q hx hf
      have hv : a.eval x = ptrOf ι (i, k, j) := by have := R x; rw [hx] at this; exact this
      have ho := O x
      rw [hx] at ho
      refine runK_wp (s := Instr.fieldAt s (a.eval x) f) rfl ?_
      rw [hv]
      exact runK_field hs ho hf h.1 h.2
    · rename_i cs p q hx hf
      have hv : AC.rel ι (.fp cs) (a.eval x) := by have := R x; rw [hx] at this; exact this
      exact runK_wp (s := Instr.fieldAt s (a.eval x) f) rfl (runK_ffield hs hv hf h.1 h.2)
    · exact h.elim
  case indexAddr t x ix =>
    simp only [aOp, aIx] at h
    split at h
    · rename_i i k z kd q s hx hq hs'
      obtain ⟨e, he, rfl⟩ := Option.map_eq_some_iff.1 hs'
      rw [he, Option.elim_some] at h
      unfold aIx2 at h
      split at h
      · rename_i ty' sz els own hi
        have hv := R x
        rw [hx] at hv
        have hqv : a.eval ix = .int kd q := by have := R ix; rw [hq] at this; exact this
        refine runK_wp (s := Instr.indexAt t (a.eval x) (a.eval ix)) rfl ?_
        rw [hqv]
        exact runK_index hs hv he hi h.1.1 h.1.2.1 h.1.2.2.1 h.1.2.2.2 h.2
      · exact h.elim
    · rename_i sz els kd q s hx hq hs'
      obtain ⟨e, he, rfl⟩ := Option.map_eq_some_iff.1 hs'
      rw [he, Option.elim_some] at h
      unfold aIxL at h
      split at h
      · rename_i x' hx'
        have hv : AC.rel ι (.lst sz els) (a.eval x) := by have := R x; rw [hx] at this; exact this
        have hqv : a.eval ix = .int kd q := by have := R ix; rw [hq] at this; exact this
        refine runK_wp (s := Instr.indexAt t (a.eval x) (a.eval ix)) rfl ?_
        rw [hqv]
        exact runK_findex hs hv he h.1.1 h.1.2.1 h.1.2.2.1 h.1.2.2.2 hx' h.2
      · exact h.elim
    · exact h.elim
  case index t x ix =>
    simp only [aOp, aStr] at h
    split at h
    · rename_i s kd q hx hq
      obtain ⟨⟨h1, h2, h3⟩, h4⟩ := h
      have h1 : P.underlying t = some .string := by
        unfold strT at h1
        split at h1
        · assumption
        · cases h1
      have hv : a.eval x = .string s := by have := R x; rw [hx] at this; exact this
      have hqv : a.eval ix = .int kd q := by have := R ix; rw [hq] at this; exact this
      refine runK_wp (s := Instr.index t (a.eval x) (a.eval ix)) rfl ?_
      rw [hqv, hv]
      have hlt : q.toNat < s.size := by omega
      have e : (s.data.toList.getD q.toNat 0) = s[q.toNat] := by
        have : q.toNat < s.data.toList.length := by simpa using hlt
        simp [List.getD, List.getElem?_eq_getElem this]
        rfl
      rw [e] at h4
      exact runK_same hs (v := .int .u8 s[q.toNat].toNat) (av := .c (.int .u8 s[q.toNat].toNat)) (by simp [Instr.index, asIntOf, run_underlying h1, h2, hlt]) rfl trivial h4
    · exact h.elim
  case convert s d x =>
    simp only [aOp, aCv] at h
    split at h
    · rename_i kd n hx
      unfold aCv2 at h
      split at h
      · rename_i k hk
        have hk : P.underlying d = some (.int k) := by
          unfold intK at hk
          split at hk
          · rename_i k' h1; injection hk with hk; subst hk; exact h1
          · cases hk
        obtain ⟨ds, hds⟩ := Option.isSome_iff_exists.1 h.1
        have hv : a.eval x = .int kd n := by have := R x; rw [hx] at this; exact this
        refine runK_wp (s := convert s d (a.eval x)) rfl ?_
        rw [hv]
        exact runK_same hs (v := .int k (k.wrap n)) (av := .c (.int k (k.wrap n))) (run_convI hds hk) rfl trivial h.2
      · exact h.elim
    · rename_i z hx
      have hv : a.eval x = .string z := by have := R x; rw [hx] at this; exact this
      unfold aCvS at h
      split at h
      · rename_i hb
        obtain ⟨e, hd, he⟩ := bytesT_spec hb
        have h1 := h.1
        obtain ⟨ds, hds⟩ := Option.isSome_iff_exists.1 h1
        refine runK_wp (s := convert s d (a.eval x)) rfl ?_
        rw [hv]
        exact runK_bytes hs hds hd he h.2
      · have hd : P.underlying d = some .string := by
          have h1 := h.1.2
          unfold strT at h1
          split at h1
          · assumption
          · cases h1
        obtain ⟨ds, hds⟩ := Option.isSome_iff_exists.1 h.1.1
        refine runK_wp (s := convert s d (a.eval x)) rfl ?_
        rw [hv]
        exact runK_same hs (v := .string z) (av := .c (.str z)) (run_convS hds hd) rfl trivial h.2
    · rename_i sz els hx
      have hr : AC.rel ι (.lst sz els) (a.eval x) := by have := R x; rw [hx] at this; exact this
      unfold aCvB at h
      split at h
      · rename_i l hl
        obtain ⟨e, hd, he⟩ := bytesT_spec h.1.1
        have hstr : P.underlying d = some .string := by
          have h1 := h.1.2
          unfold strT at h1
          split at h1
          · assumption
          · cases h1
        refine runK_wp (s := convert s d (a.eval x)) rfl ?_
        exact runK_unbyte hs hr hl hd he hstr h.2
      · exact h.elim
    · exact h.elim
  case makeMap t r =>
    simp only [aOp, aNewM] at h
    cases r with
    | none => exact runK_wp rfl (runK_makeMap hs h)
    | some _ => exact h.elim
  case mapUpdate t m k x =>
    simp only [aOp, aMapUp] at h
    split at h
    · rename_i i kt hm hkt
      obtain ⟨e, hu⟩ := mapK_und hkt
      have hv : a.eval m = .map (some (ι i).block) := by have := R m; rw [hm] at this; exact this
      unfold aMapUp2 at h
      split at h
      · rename_i p q es hi
        obtain ⟨h1, h2⟩ := h
        unfold aPutM at h2
        split at h2
        · rename_i es' hp
          obtain ⟨w', h5, h6⟩ := run_mapUp (P := P) hs hi hu h1 hp (R k) (R x) (O k) (O x)
          refine wp_skp (w' := w') ?_ ⟨ι, _, .any, _, rfl, Agree.refl _ _, by simp, h6, trivial, trivial, h2⟩
          show (do Instr.mapUpdate t (a.eval m) (a.eval k) (a.eval x); pure Next.skip : Sem Next).run P w = _
          rw [hv]
          simp [h5]
        · exact h2.elim
      · exact h.elim
    · exact h.elim
  case lookup t x ix ok =>
    have hu : ∀ {kt : TypeId}, mapK P t = some kt → ∃ e, P.underlying t = some (.map kt e) ∧ (mapE P t).bind (zeroA P) = zeroA P e := by
      intro kt hkt
      obtain ⟨e, hu⟩ := mapK_und hkt
      exact ⟨e, hu, by simp [mapE, hu]⟩
    simp only [aOp, aLook] at h
    split at h
    · rename_i i kt hm hkt
      have hv : a.eval x = .map (some (ι i).block) := by have := R x; rw [hm] at this; exact this
      unfold aLook2 at h
      split at h
      · rename_i p q es hi
        obtain ⟨h1, h2⟩ := h
        unfold aGetM at h2
        split at h2
        · rename_i v b hg
          obtain ⟨ents, clock, hb, hsz, hr⟩ := map_obj hs hi
          refine runK_wp (s := Instr.lookup t (a.eval x) (a.eval ix) ok) rfl ?_
          exact run_look hs (hu hkt) (.inr ⟨_, clock, hv, hb⟩) hr (hs.scope i _ hi) h1 (R ix) hg h2.1 h2.2
        · exact h2.elim
      · exact h.elim
    · rename_i kt hm hkt
      have hv : a.eval x = .map none := by have := R x; rw [hm] at this; exact this
      obtain ⟨h1, h2⟩ := h
      unfold aGetM at h2
      split at h2
      · rename_i v b hg
        refine runK_wp (s := Instr.lookup t (a.eval x) (a.eval ix) ok) rfl ?_
        exact run_look (es := []) (ms := #[]) hs (hu hkt) (.inl ⟨hv, rfl⟩) trivial (by intro p hp; simp at hp) h1 (R ix) (by simpa [mapGet] using hg) h2.1 h2.2
      · exact h2.elim
    · exact h.elim
  case makeInterface t x =>
    simp only [aOp, aIfc] at h
    split at h
    · exact h.elim
    · have hc := h.1
      have hrun : (Instr.makeInterface t (a.eval x)).run P w = .ok (.iface t (a.eval x)) w := by
        unfold conT at hc
        split at hc
        · cases hc
        · cases hc
        · rename_i h1 h2
          cases hd : P.underlying t with
          | none => exact absurd hd h2
          | some ds => cases ds <;> first | exact absurd hd (h1 _) | simp [Instr.makeInterface, run_underlying hd]
      refine runK_wp (s := Instr.makeInterface t (a.eval x)) rfl ?_
      exact runK_same hs (v := .iface t (a.eval x)) (av := .c .ifc) hrun ⟨_, _, rfl⟩ trivial h.2
  case field s x f =>
    simp only [aOp, aFd] at h
    have hfld : ∀ (o n : Nat) (ag : Bool), fieldK P s f = some (o, n, ag) → ∃ fs y, P.underlying s = some (.struct fs) ∧ fs[f]? = some y ∧ (P.info? y.type).isSome = true ∧ (P.underlying y.type).isSome = true ∧ y.offset = o ∧ szT P y.type = n ∧ aggT P y.type = ag := by
      intro o n ag hf
      unfold fieldK at hf
      split at hf
      · rename_i fs hfs
        split at hf
        · rename_i y hy
          split at hf
          · rename_i hc
            injection hf with hf
            injection hf with h1 h2
            injection h2 with h2 h3
            exact ⟨fs, y, hfs, hy, hc.1, hc.2, h1, h2, h3⟩
          · cases hf
        · cases hf
      · cases hf
    split at h
    · rename_i cs o n hx hf
      obtain ⟨fs, y, h1, h2, h3, h4, rfl, rfl, h7⟩ := hfld o n true hf
      have hv := R x
      rw [hx] at hv
      obtain ⟨us, hu, hr⟩ := hv
      have ho := O x
      rw [hx] at ho
      refine runK_wp (s := Instr.field s (a.eval x) f) rfl ?_
      rw [hu]
      refine runK_same hs (v := .agg ((us.drop y.offset).take (szT P y.type)).toArray) (av := .agg ((cs.drop y.offset).take (szT P y.type))) ?_ ⟨_, rfl, relL_take _ (relL_drop _ hr)⟩ (fun z hz => ho z (List.mem_of_mem_drop (List.mem_of_mem_take hz))) h.2
      simp only [Instr.field, Sem.run_bind, run_underlying h1, Result.andThen_ok, h2, asAgg, Sem.run_pure, part, run_isAgg h7, run_sizeOf h3, if_true]
      have := relL_len hr
      have h8 := h.1
      simp [List.extract_eq_take_drop]
    · rename_i cs o n hx hf
      obtain ⟨fs, y, h1, h2, h3, h4, rfl, rfl, h7⟩ := hfld o n false hf
      have hv := R x
      rw [hx] at hv
      obtain ⟨us, hu, hr⟩ := hv
      have ho := O x
      rw [hx] at ho
      unfold aOf at h
      split at h
      · rename_i z hz
        obtain ⟨u, h8, h9⟩ := relL_get hr _ _ hz
        refine runK_wp (s := Instr.field s (a.eval x) f) rfl ?_
        rw [hu]
        refine runK_same hs (v := u) (av := .c z) ?_ h9 (ho z (List.mem_of_getElem? hz)) h
        have hag := fun w => run_noAgg (P := P) h7 h4 w
        simp only [Instr.field, Sem.run_bind, run_underlying h1, Result.andThen_ok, h2, asAgg, Sem.run_pure, part, hag]
        simp [h8]
      · exact h.elim
    · exact h.elim
  case makeFunc fn fs cs =>
    simp only [aOp, aMk] at h
    split at h
    · rename_i f ps qs h1 h2
      obtain ⟨h3, h4⟩ := ptrsOf_rel (ι := ι) (n := H.length) (a := a) (fun x _ => ⟨R x, O x⟩) h1
      obtain ⟨h5, h6⟩ := ptrsOf_rel (ι := ι) (n := H.length) (a := a) (fun x _ => ⟨R x, O x⟩) h2
      refine runK_wp (s := Instr.makeFunc (.func f) (fs.map a.eval) (cs.map a.eval)) rfl ?_
      refine runK_same hs (s := Instr.makeFunc (.func f) (fs.map a.eval) (cs.map a.eval)) (v := .func (.func f) (fs.map a.eval) (cs.map a.eval)) (av := .c (.fn f ps qs)) rfl ?_ ⟨h4, h6⟩ h
      show _ = _
      congr 1
      · rw [← h3, ← Array.toList_map]
      · rw [← h5, ← Array.toList_map]
    · exact h.elim
  case extract x ix =>
    simp only [aOp, aExt, aExt2] at h
    split at h
    · rename_i vs hx
      have hv := R x
      rw [hx] at hv
      obtain ⟨us, hu, hr⟩ := hv
      have ho := O x
      rw [hx] at ho
      split at h
      · rename_i v hvx
        have key : ∀ {xs : List AV} {us : List Value}, rel1L ι xs us → ∀ (j : Nat) (y : AV), xs[j]? = some y → ∃ u, us[j]? = some u ∧ y.rel1 ι u := by
          intro xs
          induction xs with
          | nil => intro us _ j y hy; simp at hy
          | cons x xs ih =>
            intro us hr j y hy
            cases us with
            | nil => exact hr.elim
            | cons u us =>
              cases j with
              | zero => simp at hy; subst hy; exact ⟨u, rfl, hr.1⟩
              | succ j => simp at hy; exact ih hr.2 j y hy
        obtain ⟨u, h1, h2⟩ := key hr ix v hvx
        refine step_same hs (v := u) (av := v) ?_ ?_ ?_ h
        · simp [execOp, hu, Instr.extract, h1]
        · cases v with
          | tup ts => exact h2.elim
          | _ => exact h2
        · have h3 := ho v (List.mem_of_getElem? hvx)
          cases v with
          | tup ts => exact h2.elim
          | _ => exact h3
      · exact h.elim
    · exact h.elim
  case slice t x lo hi mx =>
    have L := opt_rel hF lo
    have Hh := opt_rel hF hi
    cases mx with
    | some _ => simp [aOp, aSub] at h
    | none =>
    simp only [aOp, aSub, Option.isSome_none] at h
    split at h
    · rename_i r k l hx _ hlo
      split at h
      · rename_i e q he hhi
        obtain ⟨⟨h1, h2, h3, h4, h5⟩, h6⟩ := h
        have hv := R x
        rw [hx] at hv
        have ho := O x
        rw [hx] at ho
        refine runK_wp (s := Instr.sliceAt t (a.eval x) (lo.map a.eval) (hi.map a.eval) none) rfl ?_
        refine runK_slice hs hv ho he h1 ?_ hlo hhi L.1 L.2 Hh.1 Hh.2 h3 h4 h5 h6
        intro i k hr
        subst hr
        unfold rowOk at h2
        dsimp only at h2
        split at h2
        · rename_i ty' sz els own hi'
          exact ⟨ty', els, own, by rw [hi', h2]⟩
        · exact h2.elim
      · exact h.elim
    · rename_i sz els l hx _ hlo
      split at h
      · rename_i e q he hhi
        obtain ⟨⟨h1, h2, h3, h4, h5⟩, h6⟩ := h
        have hv : AC.rel ι (.lst sz els) (a.eval x) := by have := R x; rw [hx] at this; exact this
        exact runK_wp (s := Instr.sliceAt t (a.eval x) (lo.map a.eval) (hi.map a.eval) none) rfl (runK_fslice hs hv he h1 h2 hlo hhi L.1 L.2 Hh.1 Hh.2 h3 h4 h5 h6)
      · exact h.elim
    · rename_i s l hx _ hlo
      split at h
      · rename_i q hhi
        obtain ⟨⟨h1, h2, h3, h4⟩, h5⟩ := h
        have h1 : P.underlying t = some .string := by
          unfold strT at h1
          split at h1
          · assumption
          · cases h1
        have hv : a.eval x = .string s := by have := R x; rw [hx] at this; exact this
        refine runK_wp (s := Instr.sliceAt t (a.eval x) (lo.map a.eval) (hi.map a.eval) none) rfl ?_
        rw [hv]
        have hb := run_bounds (P := P) (ι := ι) (b := false) (n := s.size) (c := s.size) hlo hhi L.1 L.2 Hh.1 Hh.2 h2 h3 h4 (Nat.le_refl _) w
        exact runK_same hs (v := .string (s.extract l.toNat q.toNat)) (av := .c (.str (s.extract l.toNat q.toNat))) (by simp [Instr.sliceAt, Instr.slice, run_underlying h1, hb]) rfl trivial h5
      · exact h.elim
    · exact h.elim
  case call c =>
    obtain ⟨callee, args, ats⟩ := c
    simp only [aOp] at h
    split at h
    · rename_i b
      have hex : execOp a.eval ⟨dst, .call ⟨.builtin b, args, ats⟩, ty, pos, after, guard⟩ = builtin b ats ty (args.map fun | .const _ => true | _ => false) (args.map a.eval) := rfl
      have key : ∀ as : List AV, args.toList.map (evC F) = as → (∀ x ∈ as, noTup x = true) → ∃ l : List Value, args.map a.eval = l.toArray ∧ rel1L ι as l ∧ ∀ x ∈ as, x.ok1 H.length := by
        intro as has hno
        have hne : ∀ x ∈ args.toList, ∀ ts, evC F x ≠ .tup ts := by
          intro x hx ts he
          have := hno (evC F x) (by rw [← has]; exact List.mem_map.2 ⟨x, hx, rfl⟩)
          rw [he] at this; cases this
        obtain ⟨h1, h2⟩ := argsRel_of (l := args.toList) hF hne
        rw [has] at h1 h2
        exact ⟨args.toList.map a.eval, by rw [← Array.toList_map], h1, h2⟩
      have tys : ∀ l : List TypeId, ats.toList = l → ats = l.toArray := by intro l hl; rw [← hl]
      unfold aBuiltin at h
      split at h
      · rename_i t r k hts has
        obtain ⟨l, h1, h2, _⟩ := key _ has (by simp [noTup])
        obtain ⟨v, rfl⟩ : ∃ v, l = [v] := by
          match l, h2 with
          | [v], _ => exact ⟨v, rfl⟩
        obtain ⟨e, he⟩ := Option.isSome_iff_exists.1 h.1
        have hv : ∃ ad c, v = .slice ad k c := by
          have := h2.1
          cases r with
          | none => obtain ⟨rfl, rfl⟩ := this; exact ⟨_, _, rfl⟩
          | some p => obtain ⟨ad, rfl, _⟩ := this; exact ⟨_, _, rfl⟩
        obtain ⟨ad, c, rfl⟩ := hv
        refine step_same hs (v := .int .i64 k) (av := .c (.int .i64 k)) ?_ rfl trivial h.2
        rw [hex, h1, tys _ hts]
        simp [builtin, Builtin.len_, run_underlying (elemT_und he), goInt]
      · rename_i t sz els hts has
        obtain ⟨l, h1, h2, _⟩ := key _ has (by simp [noTup])
        obtain ⟨v, rfl⟩ : ∃ v, l = [v] := by
          match l, h2 with
          | [v], _ => exact ⟨v, rfl⟩
        obtain ⟨e, he⟩ := Option.isSome_iff_exists.1 h.1
        have hv : ∃ ad c, v = .slice ad els.length c := by
          have : AC.rel ι (.lst sz els) v := h2.1
          simp only [AC.rel, AC.relZ] at this
          obtain ⟨p, c, h3, _⟩ := this
          exact ⟨p, c, h3⟩
        obtain ⟨ad, c, rfl⟩ := hv
        refine step_same hs (v := .int .i64 els.length) (av := .c (.int .i64 els.length)) ?_ rfl trivial h.2
        rw [hex, h1, tys _ hts]
        simp [builtin, Builtin.len_, run_underlying (elemT_und he), goInt]
      · rename_i t s hts has
        obtain ⟨l, h1, h2, _⟩ := key _ has (by simp [noTup])
        obtain ⟨v, rfl⟩ : ∃ v, l = [v] := by
          match l, h2 with
          | [v], _ => exact ⟨v, rfl⟩
        have hv : v = .string s := h2.1
        subst hv
        refine step_same hs (v := .int .i64 s.size) (av := .c (.int .i64 s.size)) ?_ rfl trivial h.2
        rw [hex, h1, tys _ hts]
        simp [builtin, Builtin.len_, run_underlying h.1, goInt]
      · rename_i k x k2 y has
        obtain ⟨l, h1, h2, _⟩ := key _ has (by simp [noTup])
        obtain ⟨v, u, rfl⟩ : ∃ v u, l = [v, u] := by
          match l, h2 with
          | [v, u], _ => exact ⟨v, u, rfl⟩
        have hv : v = .int k x := h2.1
        have hu : u = .int k2 y := h2.2.1
        subst hv; subst hu
        refine step_same hs (v := .int k (if y < x then y else x)) (av := .c (.int k (if y < x then y else x))) ?_ rfl trivial h
        rw [hex, h1]
        simp [builtin, Builtin.min_, Builtin.min2]
      · rename_i k x k2 y has
        obtain ⟨l, h1, h2, _⟩ := key _ has (by simp [noTup])
        obtain ⟨v, u, rfl⟩ : ∃ v u, l = [v, u] := by
          match l, h2 with
          | [v, u], _ => exact ⟨v, u, rfl⟩
        have hv : v = .int k x := h2.1
        have hu : u = .int k2 y := h2.2.1
        subst hv; subst hu
        refine step_same hs (v := .int k (if x < y then y else x)) (av := .c (.int k (if x < y then y else x))) ?_ rfl trivial h
        rw [hex, h1]
        simp [builtin, Builtin.max_, Builtin.max2]
      · rename_i t t' r n0 r2 m0 hts has
        obtain ⟨rfl, h⟩ := h
        split at h
        · rename_i e he
          obtain ⟨h4, hk0, hk1⟩ := h
          obtain ⟨l, h1, h2, h3⟩ := key _ has (by simp [noTup])
          obtain ⟨v, u, rfl⟩ : ∃ v u, l = [v, u] := by
            match l, h2 with
            | [v, u], _ => exact ⟨v, u, rfl⟩
          have hv : AC.rel ι (.sl r n0) v := h2.1
          have hu : AC.rel ι (.sl r2 m0) u := h2.2.1
          have hvo : (AC.sl r n0).ok H.length := h3 (.c (.sl r n0)) (by simp)
          have hex2 : execOp a.eval ⟨dst, .call ⟨.builtin .append, args, ats⟩, ty, pos, after, guard⟩ = (do pure (.value (← Builtin.append_ #[t, t] ty #[v, u]))) := by
            rw [hex, h1, tys _ hts]; rfl
          refine runK_wp hex2 ?_
          rcases Nat.eq_zero_or_pos m0 with hm | hm
          · subst hm
            have hinfo : (P.info? e).isSome = true := by
              obtain ⟨z, hz, _⟩ := Option.map_eq_some_iff.1 h4
              exact zero_info (by rw [hz]; rfl)
            obtain ⟨inf, hinf⟩ := Option.isSome_iff_exists.1 hinfo
            refine runK_same hs (v := v) (av := .c (.sl r n0)) ?_ hv hvo (hk0 rfl)
            have hu' : ∃ ad2 c2, u = .slice ad2 0 c2 := by
              cases r2 with
              | none => obtain ⟨_, rfl⟩ := hu; exact ⟨_, _, rfl⟩
              | some p => obtain ⟨ad, rfl, _⟩ := hu; exact ⟨_, _, rfl⟩
            obtain ⟨ad2, c2, rfl⟩ := hu'
            have hv' : ∃ ad c, v = .slice ad n0 c ∧ n0 ≤ c := by
              cases r with
              | none => obtain ⟨rfl, rfl⟩ := hv; exact ⟨_, _, rfl, Nat.le_refl _⟩
              | some p => obtain ⟨ad, rfl, h7, _⟩ := hv; exact ⟨_, _, rfl, by omega⟩
            obtain ⟨ad, c, rfl, hc⟩ := hv'
            cases ad <;> cases ad2 <;> simp [Builtin.append_, run_underlying (elemT_und he), sizeOf, typeInfo, hinf, Builtin.lenOf, Builtin.firstCells, hc, loadCells, loadCellsFrom, storeCells]
          · obtain ⟨els, new, h5, h6, h7, h8, h9, h10⟩ := hk1 hm
            obtain ⟨ad2, c2, rfl, hsrc⟩ := src_row hs hu h6 hm h7
            exact runK_append hs hv hvo he h4 h5 hsrc hm h7 h8 h9 h10
        · exact h.elim
      · rename_i t t' r n0 sz new hts has
        obtain ⟨rfl, h⟩ := h
        split at h
        · rename_i e he
          obtain ⟨h4, hk0, hk1⟩ := h
          obtain ⟨l, h1, h2, h3⟩ := key _ has (by simp [noTup])
          obtain ⟨v, u, rfl⟩ : ∃ v u, l = [v, u] := by
            match l, h2 with
            | [v, u], _ => exact ⟨v, u, rfl⟩
          have hv : AC.rel ι (.sl r n0) v := h2.1
          have hu : AC.rel ι (.lst sz new) u := h2.2.1
          have hvo : (AC.sl r n0).ok H.length := h3 (.c (.sl r n0)) (by simp)
          have hex2 : execOp a.eval ⟨dst, .call ⟨.builtin .append, args, ats⟩, ty, pos, after, guard⟩ = (do pure (.value (← Builtin.append_ #[t, t] ty #[v, u]))) := by
            rw [hex, h1, tys _ hts]; rfl
          refine runK_wp hex2 ?_
          rcases Nat.eq_zero_or_pos new.length with hm | hm
          · have hinfo : (P.info? e).isSome = true := by
              obtain ⟨z, hz, _⟩ := Option.map_eq_some_iff.1 h4
              exact zero_info (by rw [hz]; rfl)
            obtain ⟨inf, hinf⟩ := Option.isSome_iff_exists.1 hinfo
            refine runK_same hs (v := v) (av := .c (.sl r n0)) ?_ hv hvo (hk0 hm)
            have hu' : ∃ ad2 c2, u = .slice ad2 0 c2 := by
              simp only [AC.rel, AC.relZ] at hu
              obtain ⟨p, c, h5, _⟩ := hu
              rw [hm] at h5
              exact ⟨p, c, h5⟩
            obtain ⟨ad2, c2, rfl⟩ := hu'
            have hv' : ∃ ad c, v = .slice ad n0 c ∧ n0 ≤ c := by
              cases r with
              | none => obtain ⟨rfl, rfl⟩ := hv; exact ⟨_, _, rfl, Nat.le_refl _⟩
              | some p => obtain ⟨ad, rfl, h7, _⟩ := hv; exact ⟨_, _, rfl, by omega⟩
            obtain ⟨ad, c, rfl, hc⟩ := hv'
            cases ad <;> cases ad2 <;> simp [Builtin.append_, run_underlying (elemT_und he), sizeOf, typeInfo, hinf, Builtin.lenOf, Builtin.firstCells, hc, loadCells, loadCellsFrom, storeCells]
          · obtain ⟨els, h5, h6, h7, h8, h9, h10⟩ := hk1 hm
            obtain ⟨ad2, c2, rfl, hsrc⟩ := src_lst (P := P) (e := e) hs hu h6 hm h7
            exact runK_append hs hv hvo he h4 h5 hsrc hm h7 h8 h9 h10
        · exact h.elim
      · rename_i t r n0 hts has
        obtain ⟨l, h1, h2, _⟩ := key _ has (by simp [noTup])
        obtain ⟨v, rfl⟩ : ∃ v, l = [v] := by
          match l, h2 with
          | [v], _ => exact ⟨v, rfl⟩
        have hex2 : execOp a.eval ⟨dst, .call ⟨.builtin .clear, args, ats⟩, ty, pos, after, guard⟩ = (do pure (.value (← Builtin.clear_ #[t] ty #[v]))) := by
          rw [hex, h1, tys _ hts]; rfl
        refine runK_wp hex2 ?_
        have hv : AC.rel ι (.sl r n0) v := h2.1
        cases he : elemT P t with
        | none => rw [he] at h; cases n0 <;> exact h.elim
        | some e =>
          rw [he] at h
          cases n0 with
          | zero =>
            have h : K (.tup []) H := h
            refine runK_same hs (v := .tuple #[]) (av := .tup []) ?_ ⟨[], rfl, trivial⟩ (by intro x hx; simp at hx) h
            have : ∃ ad c, v = .slice ad 0 c := by
              cases r with
              | none => exact ⟨none, 0, hv.2⟩
              | some p => obtain ⟨ad, h9, _⟩ := hv; exact ⟨_, _, h9⟩
            obtain ⟨ad, c, rfl⟩ := this
            cases ad <;> simp [Builtin.clear_, run_underlying (elemT_und he)]
          | succ n1 =>
            cases r with
            | none => exact h.elim
            | some p =>
              obtain ⟨i, k⟩ := p
              simp only [aClr] at h
              unfold aClr2 at h
              split at h
              · rename_i ty' sz els hi
                obtain ⟨⟨g1, g2, g3⟩, g4⟩ := h
                rw [Option.elim_some] at g1
                rw [Option.bind_some] at g2
                obtain ⟨z, hz, hzl⟩ := Option.map_eq_some_iff.1 g2
                exact runK_clear hs hi he hz hzl g3 hv g4
              · exact h.elim
      · rename_i t r k hts has
        obtain ⟨rfl, h0, h⟩ := h
        obtain ⟨l, h1, h2, _⟩ := key _ has (by simp [noTup])
        obtain ⟨v, rfl⟩ : ∃ v, l = [v] := by
          match l, h2 with
          | [v], _ => exact ⟨v, rfl⟩
        obtain ⟨e, he⟩ := Option.isSome_iff_exists.1 h0
        obtain ⟨rfl, hv⟩ : k = 0 ∧ v = .slice none 0 0 := h2.1
        subst hv
        refine step_same hs (v := .int .i64 0) (av := .c (.int .i64 0)) ?_ rfl trivial h
        rw [hex, h1, tys _ hts]
        simp [builtin, Builtin.cap_, run_underlying (elemT_und he), goInt]
      · rename_i t t' r n0 k m hts has
        obtain ⟨rfl, rfl, h0, h⟩ := h
        split at h
        · rename_i e he
          split at h
          · rename_i z hz1
            obtain ⟨h3, h4, h5, h6, h7, h8⟩ := h
            obtain ⟨l, h1, h2, _⟩ := key _ has (by simp [noTup])
            obtain ⟨v, u, rfl⟩ : ∃ v u, l = [v, u] := by
              match l, h2 with
              | [v, u], _ => exact ⟨v, u, rfl⟩
            obtain ⟨_, hv⟩ : 0 = 0 ∧ v = .slice none 0 0 := h2.1
            have hu : u = .int k m := h2.2.1
            subst hv; subst hu
            have hex2 : execOp a.eval ⟨dst, .call ⟨.builtin .append, args, ats⟩, ty, pos, after, guard⟩ = (do pure (.value (← Builtin.append_ #[t, t'] ty #[.slice none 0 0, .int k m]))) := by
              rw [hex, h1, tys _ hts]; rfl
            refine runK_wp hex2 ?_
            obtain ⟨q, rfl⟩ : ∃ q : Nat, m = q := ⟨m.toNat, by omega⟩
            obtain ⟨kn, hkn⟩ : ∃ kn, P.underlying t' = some (.int kn) := by
              unfold intT at h0
              split at h0
              · exact ⟨_, by assumption⟩
              · cases h0
            exact runK_appZeros hs he hkn hz1 h3 h4 (by omega) (by rw [← Int.natCast_mul] at h6; omega) (by omega) (by rw [Int.toNat_natCast] at h8; exact h8)
          · exact h.elim
        · exact h.elim
      · rename_i t i hts has
        obtain ⟨l, h1, h2, _⟩ := key _ has (by simp [noTup])
        obtain ⟨v, rfl⟩ : ∃ v, l = [v] := by
          match l, h2 with
          | [v], _ => exact ⟨v, rfl⟩
        have hv : v = .map (some (ι i).block) := h2.1
        subst hv
        obtain ⟨kt, hkt⟩ := Option.isSome_iff_exists.1 h.1.2
        obtain ⟨e, hu⟩ := mapK_und hkt
        have h := h.2
        unfold aLenM at h
        split at h
        · rename_i p q es hi
          obtain ⟨ents, clock, hb, hsz, _⟩ := map_obj hs hi
          refine step_same hs (v := .int .i64 es.length) (av := .c (.int .i64 es.length)) ?_ rfl trivial h
          rw [hex, h1, tys _ hts]
          simp [builtin, Builtin.len_, run_underlying hu, run_getObj_m hb, hsz, goInt]
        · exact h.elim
      · exact h.elim
    · rename_i f
      unfold aCall at h
      split at h
      · rename_i g fs cs hf
        obtain ⟨h2, h3⟩ := h
        have hv : a.eval f = .func (.func g) (fs.map (ptrOf ι)).toArray (cs.map (ptrOf ι)).toArray := by have := R f; rw [hf] at this; exact this
        have hof := O f
        rw [hf] at hof
        have hne : ∀ x ∈ args.toList, ∀ ts, evC F x ≠ .tup ts := by
          intro x hx ts he
          have := List.all_eq_true.1 h2 (evC F x) (List.mem_map.2 ⟨x, hx, rfl⟩)
          rw [he] at this; cases this
        obtain ⟨h4, h5⟩ := argsRel_of (l := args.toList) hF hne
        have h6 : argsRel ι (ptrs fs ++ args.toList.map (evC F) ++ ptrs cs) ((fs.map (ptrOf ι)).toArray ++ args.map a.eval ++ (cs.map (ptrOf ι)).toArray) := by
          unfold argsRel
          simp only [Array.toList_append, Array.toList_map]
          exact rel1L_append (rel1L_append (ptrs_rel fs) h4) (ptrs_rel cs)
        have h7 : ∀ x ∈ ptrs fs ++ args.toList.map (evC F) ++ ptrs cs, x.ok1 H.length := by
          intro x hx
          rcases List.mem_append.1 hx with hx | hx
          · rcases List.mem_append.1 hx with hx | hx
            · obtain ⟨p, hp, rfl⟩ := List.mem_map.1 hx; exact hof.1 p hp
            · exact h5 x hx
          · obtain ⟨p, hp, rfl⟩ := List.mem_map.1 hx; exact hof.2 p hp
        cases h1 : entersB P g with
        | true =>
          rw [h1] at h3
          have h8 := h3 B w0 ι w _ hs h6 h7
          unfold Oper.wp
          have hrun : (execOp a.eval ⟨dst, .call ⟨.value f, args, ats⟩, ty, pos, after, guard⟩).run P w = .ok (.enter g ((fs.map (ptrOf ι)).toArray ++ args.map a.eval ++ (cs.map (ptrOf ι)).toArray)) w := by
            simp only [execOp, resolve, hv, Deferred.ofValue, pure_bind, invoke]
            exact callFunc_run h1 _
          rw [hrun]
          exact call_upon h8
        | false =>
          rw [h1] at h3
          obtain ⟨e, ⟨fn, x1, x2, x3, x4, x5⟩, h8⟩ := h3
          obtain ⟨v, w', h9, ι', u, av, H', g1, g2, g3, g4, g5, g6, g7⟩ := h8 B w0 ι w _ hs h6 h7
          injection g1 with g1
          subst g1
          refine wp_val (v := v) (w' := w') ?_ ⟨ι', v, av, H', rfl, g2, g3, g4, g5, g6, g7⟩
          simp only [execOp, resolve, hv, Deferred.ofValue, pure_bind, invoke]
          rw [run_callFunc_extern x1 x2 x3 x4 x5, h9]
          rfl
      · exact h.elim
    · exact h.elim
end
end Go.Proofs.YtkmkkjlfnobciaaGreatDoor
