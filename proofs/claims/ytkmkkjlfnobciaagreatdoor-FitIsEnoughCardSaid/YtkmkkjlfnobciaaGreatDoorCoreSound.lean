/- What the plain heap says of an operation holds of the world. No condition. -/
import Derived.Test.YtkmkkjlfnobciaaGreatDoorCoreOp
namespace Go.Proofs.YtkmkkjlfnobciaaGreatDoor
open Go Go.RowKit
set_option linter.all false

section
variable {P : Program} {B : Nat} {w0 w w' : World} {ι ι' : En} {H : Hp} {F : Fr} {a : Act} {N n m : Nat} {Q : Exit → Act → World → Prop} {next : Act → World → Prop} {o : Oper} {K : AV → Hp → Prop}

/-- a run of an operation that hands back a value -/
def RunK (P : Program) (B : Nat) (w0 : World) (ι : En) (n : Nat) (K : AV → Hp → Prop) (s : Sem Value) (w : World) : Prop :=
  ∃ v w' ι' av H', s.run P w = .ok v w' ∧ Agree n ι ι' ∧ n ≤ H'.length ∧ Sim B w0 ι' H' w' ∧ AV.rel ι' av v ∧ av.ok H'.length ∧ K av H'
theorem runK_wp {s : Sem Value} (he : execOp a.eval o = (do pure (.value (← s)))) (h : RunK P B w0 ι n K s w) : o.wp P a w (StepK B w0 ι n a o.dst K) Q := by
  obtain ⟨v, w', ι', av, H', h1, h2, h3, h4, h5, h6, h7⟩ := h
  refine wp_val (v := v) (w' := w') ?_ ⟨ι', v, av, H', rfl, h2, h3, h4, h5, h6, h7⟩
  rw [he]; simp [h1]
theorem runK_same {s : Sem Value} {v : Value} {av : AV} (hs : Sim B w0 ι H w) (h : s.run P w = .ok v w) (hr : AV.rel ι av v) (ho : av.ok H.length) (hk : K av H) : RunK P B w0 ι H.length K s w :=
  ⟨v, w, ι, av, H, h, Agree.refl _ _, Nat.le_refl _, hs, hr, ho, hk⟩
theorem zeroT_rel {t : TypeId} {cs : List AC} (h : zeroT P t = some cs) (ι : En) : ∃ z, (P.info? t).bind (·.zero) = some z ∧ relL ι cs z.cells.toList ∧ ∀ n, ∀ x ∈ cs, x.ok n := by
  unfold zeroT at h
  split at h
  · rename_i z hz
    refine ⟨z, hz, ?_⟩
    generalize z.cells.toList = l at h
    clear hz
    induction l generalizing cs with
    | nil => simp at h; subst h; exact ⟨trivial, by simp⟩
    | cons v l ih =>
      rw [List.mapM_cons] at h
      simp only [bind, Option.bind] at h
      cases hv : ofVal v with
      | none => rw [hv] at h; cases h
      | some x =>
        rw [hv] at h
        cases hl : l.mapM ofVal with
        | none => simp [hl] at h
        | some xs =>
          simp [hl] at h
          subst h
          obtain ⟨h1, h2⟩ := ih hl
          exact ⟨⟨ofVal_rel hv, h1⟩, fun n y hy => by
            rcases List.mem_cons.1 hy with rfl | hy
            · exact ofVal_ok hv n
            · exact h2 n y hy⟩
  · cases h
theorem run_zeroValue {t : TypeId} {z : Value} (h : (P.info? t).bind (·.zero) = some z) (w : World) : (zeroValue t).run P w = .ok z w := by
  cases hi : P.info? t with
  | none => rw [hi] at h; cases h
  | some i =>
    rw [hi] at h
    simp only [Option.bind_some] at h
    simp [zeroValue, typeInfo, hi, h]
/-- a new variable of some cells -/
theorem new_var {t : TypeId} {cs : List AC} {vs : List Value} (hs : Sim B w0 ι H w) (hr : relL ι cs vs) (ho : ∀ x ∈ cs, x.ok H.length) :
    Sim B w0 (upd ι H.length ⟨w.heap.size, 0, cs.length, 1⟩) (H ++ [.row t cs.length [cs] true]) (w.alloc (.cells vs.toArray t)) := by
  refine hs.new _ _ _ rfl (fun e he => by simp at he; subst he; exact ⟨rfl, ho⟩) ⟨rfl, by simp, vs.toArray, (0, 0), heap_alloc_new w _, fun k e hk j x hj => ?_, fun _ => ⟨rfl, rfl, by simp [relL_len hr], by simp [maxLen]⟩⟩
  have hk0 : k = 0 := by have := getElem?_lt hk; simp at this; omega
  subst hk0
  simp at hk; subst hk
  obtain ⟨u, h1, h2⟩ := relL_get hr j x hj
  exact ⟨u, by simpa using h1, AC.rel_agree (upd_agree ι H.length _) (ho x (List.mem_of_getElem? hj)) h2⟩
theorem cells_rel {x : AV} {cs : List AC} {v : Value} (hc : x.cells = some cs) (hr : x.rel ι v) : relL ι cs v.cells.toList := by
  cases x with
  | c y =>
    simp only [AV.cells, Option.some.injEq] at hc
    subst hc
    have hr' : y.rel ι v := hr
    have h1 := AC.rel_one hr'
    have : v.cells = #[v] := by cases v <;> first | rfl | (simp [Value.oneCell'] at h1)
    rw [this]
    exact ⟨hr', trivial⟩
  | agg ys =>
    simp only [AV.cells, Option.some.injEq] at hc
    subst hc
    obtain ⟨vs, rfl, h⟩ := hr
    exact h
  | any => cases hc
  | tup ts => cases hc
theorem cells_ok {x : AV} {cs : List AC} (hc : x.cells = some cs) (ho : x.ok n) : ∀ y ∈ cs, y.ok n := by
  cases x with
  | c y =>
    simp only [AV.cells, Option.some.injEq] at hc
    subst hc
    intro z hz
    simp at hz; subst hz; exact ho
  | agg ys =>
    simp only [AV.cells, Option.some.injEq] at hc
    subst hc
    exact ho
  | any => cases hc
  | tup ts => cases hc
theorem runK_box {t : TypeId} {x : AV} {cs : List AC} {v : Value} (hs : Sim B w0 ι H w) (hc : x.cells = some cs) (hr : x.rel ι v) (ho : x.ok H.length) (hk : K (.c (.ptr (some (H.length, 0, 0)))) (H ++ [.row t cs.length [cs] true])) :
    RunK P B w0 ι H.length K (do pure (.pointer (some (← newVar t v)))) w := by
  have h1 := cells_rel hc hr
  have hsim := new_var (t := t) hs h1 (cells_ok hc ho)
  refine ⟨.pointer (some ⟨w.heap.size, 0, none⟩), _, _, _, _, ?_, upd_agree _ _ _, by simp, hsim, ?_, ?_, hk⟩
  · simp [newVar, newRow]
  · show _ = ptrOf _ _
    simp [ptrOf, upd_same, Loc.at]
  · show H.length < _
    simp
theorem runK_alloc {t : TypeId} {cs : List AC} (hs : Sim B w0 ι H w) (hc : zeroT P t = some cs) (hk : K (.c (.ptr (some (H.length, 0, 0)))) (H ++ [.row t cs.length [cs] true])) :
    RunK P B w0 ι H.length K (Instr.alloc t true (.tuple #[])) w := by
  obtain ⟨z, h1, h2, h3⟩ := zeroT_rel hc ι
  have hsim := new_var (t := t) hs h2 (h3 _)
  refine ⟨.pointer (some ⟨w.heap.size, 0, none⟩), _, _, _, _, ?_, upd_agree _ _ _, by simp, hsim, ?_, ?_, hk⟩
  · simp [Instr.alloc, run_zeroValue h1, newVar, newRow]
  · show _ = ptrOf _ _
    simp [ptrOf, upd_same, Loc.at]
  · show H.length < _
    simp
theorem runK_load {t : TypeId} {i k j : Nat} {ty sz : Nat} {els : List (List AC)} {own : Bool} {e : List AC} (hs : Sim B w0 ι H w) (hi : H[i]? = some (.row ty sz els own)) (hk : els[k]? = some e)
    (h : if aggT P t then (P.info? t).isSome = true ∧ j + szT P t ≤ e.length ∧ K (.agg ((e.drop j).take (szT P t))) H else (P.underlying t).isSome = true ∧ (match e[j]? with | some u => K (.c u) H | none => False)) :
    RunK P B w0 ι H.length K (Instr.loadAt t (ptrOf ι (i, k, j))) w := by
  have hsc := hs.scope i _ hi e (List.mem_of_getElem? hk)
  by_cases ht : aggT P t = true
  · rw [if_pos ht] at h
    obtain ⟨h1, h2, h3⟩ := h
    obtain ⟨vs, h4, h5⟩ := run_load_agg hs hi hk h2 ht h1
    refine runK_same hs (v := .agg vs.toArray) (av := .agg _) ?_ ⟨vs, rfl, h5⟩ (fun x hx => hsc.2 x (List.mem_of_mem_drop (List.mem_of_mem_take hx))) h3
    simp [Instr.loadAt, Instr.sureAddr, ptrOf, h4]
  · rw [if_neg ht] at h
    obtain ⟨h1, h⟩ := h
    cases hj : e[j]? with
    | none => rw [hj] at h; exact h.elim
    | some x =>
      rw [hj] at h
      obtain ⟨u, h2, h3⟩ := run_load_c hs hi hk hj (by simpa using ht) h1
      refine runK_same hs (v := u) (av := .c x) ?_ h3 (hsc.2 x (List.mem_of_getElem? hj)) h
      simp [Instr.loadAt, Instr.sureAddr, ptrOf, h2]
theorem runK_fload {t : TypeId} {cs : List AC} {v : Value} (hs : Sim B w0 ι H w) (hv : AC.rel ι (.fp cs) v)
    (h : if aggT P t then (P.info? t).isSome = true ∧ szT P t ≤ cs.length ∧ K (.agg (cs.take (szT P t))) H else (P.underlying t).isSome = true ∧ (match cs[0]? with | some u => K (.c u) H | none => False)) :
    RunK P B w0 ι H.length K (Instr.loadAt t v) w := by
  simp only [AC.rel, AC.relZ] at hv
  obtain ⟨b, o, rfl, hc⟩ := hv
  by_cases ht : aggT P t = true
  · rw [if_pos ht] at h
    obtain ⟨h1, h2, h3⟩ := h
    obtain ⟨vs, h4, h5⟩ := run_load_fagg hs hc h2 ht h1
    refine runK_same hs (v := .agg vs.toArray) (av := .agg _) ?_ ⟨vs, rfl, h5⟩ (fun x hx => ?_) h3
    · simp [Instr.loadAt, Instr.sureAddr, h4]
    · obtain ⟨j, hj⟩ := List.getElem?_of_mem (List.mem_of_mem_take hx)
      obtain ⟨u, _, h7⟩ := relCells_get hc j x hj
      exact AC.ok_of_relZ h7 _
  · rw [if_neg ht] at h
    obtain ⟨h1, h⟩ := h
    cases hj : cs[0]? with
    | none => rw [hj] at h; exact h.elim
    | some x =>
      rw [hj] at h
      obtain ⟨u, h2, h3⟩ := relCells_get hc 0 x hj
      refine runK_same hs (v := u) (av := .c x) ?_ (AC.rel_of_relZ h3) (AC.ok_of_relZ h3 _) h
      have := run_loadVar_c (P := P) (froz_cell hs h2) (by simpa using ht) h1
      simp only [Nat.add_zero] at this
      simp [Instr.loadAt, Instr.sureAddr, this]
theorem runK_ffield {s : TypeId} {f p q : Nat} {cs : List AC} {v : Value} (hs : Sim B w0 ι H w) (hv : AC.rel ι (.fp cs) v) (hf : fieldT P s f = some (p, q)) (hq : q ≠ 0) (hK : K (.c (.fp (cs.drop p))) H) :
    RunK P B w0 ι H.length K (Instr.fieldAt s v f) w := by
  simp only [AC.rel, AC.relZ] at hv
  obtain ⟨b, o, rfl, hc⟩ := hv
  unfold fieldT at hf
  split at hf
  · rename_i fs hfs
    cases hx : fs[f]? with
    | none => rw [hx] at hf; cases hf
    | some x =>
      rw [hx] at hf
      simp only [Option.map_some, Option.some.injEq, Prod.mk.injEq] at hf
      obtain ⟨h1, h2⟩ := hf
      have hinfo : (P.info? x.type).isSome = true := by
        cases hi : P.info? x.type with
        | none => simp [szT, hi] at h2; omega
        | some i => rfl
      have hz : szT P x.type ≠ 0 := by omega
      refine runK_same hs (v := .pointer (some ⟨b, o + p, none⟩)) (av := .c (.fp (cs.drop p))) ?_ ?_ trivial hK
      · simp [Instr.fieldAt, run_underlying hfs, hx, Instr.sureAddr, fieldPlace, run_sizeOf hinfo, hz, h1, add_none]
      · show AC.rel ι (.fp (cs.drop p)) _
        simp only [AC.rel, AC.relZ]
        exact ⟨b, o + p, rfl, relCells_drop hc p⟩
  · cases hf
theorem runK_findex {t e sz : Nat} {kd : IntKind} {q : Int} {v : Value} {els : List (List AC)} {x : List AC} (hs : Sim B w0 ι H w) (hv : AC.rel ι (.lst sz els) v) (he : elemT P t = some e) (h1 : szT P e = sz)
    (h2 : (P.info? e).isSome = true) (h3 : 0 ≤ q) (h4 : q < els.length) (hx : els[q.toNat]? = some x) (hK : K (.c (.fp x)) H) : RunK P B w0 ι H.length K (Instr.indexAt t v (.int kd q)) w := by
  simp only [AC.rel, AC.relZ] at hv
  obtain ⟨p, c, rfl, hlc, hsz, hp0, hp1⟩ := hv
  have hu : P.underlying t = some (.slice e) := by
    unfold elemT at he
    split at he
    · rename_i hh; injection he with he; subst he; exact hh
    · cases he
  cases p with
  | none => have := (hp0 rfl).1; subst this; simp at h4; omega
  | some ad =>
    obtain ⟨hsp, hrows⟩ := hp1 ad rfl
    have hsp : ad.spot = none := by
      rcases hsp with h0 | h0
      · subst h0; simp at h4; omega
      · exact h0
    obtain ⟨b, o, sp⟩ := ad
    dsimp only at hsp hrows
    subst hsp
    refine runK_same hs (v := .pointer (some ⟨b, o + q.toNat * sz, none⟩)) (av := .c (.fp x)) ?_ ?_ trivial hK
    · simp [Instr.indexAt, asIntOf, run_underlying hu, h3, h4, run_sizeOf h2, add_none, h1]
    · show AC.rel ι (.fp x) _
      simp only [AC.rel, AC.relZ]
      exact ⟨b, o + q.toNat * sz, rfl, relRows_get hrows _ _ hx⟩
theorem runK_store {t : TypeId} {i k j : Nat} {ty sz : Nat} {els : List (List AC)} {e cs : List AC} {y : AV} {v : Value} (hs : Sim B w0 ι H w) (hi : H[i]? = some (.row ty sz els true)) (hk : els[k]? = some e) (hc : y.cells = some cs) (hr : y.rel ι v) (ho : y.ok H.length)
    (h1 : (P.info? t).isSome = true) (h2 : szT P t = cs.length) (h3 : j + cs.length ≤ sz) (hK : K .any (H.set i (.row ty sz (els.set k (setC e j cs)) true))) :
    ∃ w', (Instr.storeAt t (ptrOf ι (i, k, j)) v).run P w = .ok () w' ∧ ∃ ι' av H', Agree H.length ι ι' ∧ H.length ≤ H'.length ∧ Sim B w0 ι' H' w' ∧ AV.rel ι' av undef ∧ av.ok H'.length ∧ K av H' := by
  have hrc := cells_rel hc hr
  obtain ⟨w', h4, h5⟩ := run_store_row (P := P) hs hi hk h3 hrc (cells_ok hc ho)
  refine ⟨w', ?_, ι, .any, _, Agree.refl _ _, by simp, h5, trivial, trivial, hK⟩
  have hsz : v.cells.size = cs.length := by rw [relL_len hrc]; simp
  simp [Instr.storeAt, Instr.sureAddr, ptrOf, storeVar, run_sizeOf h1, h2, hsz, h4]
theorem runK_field {s : TypeId} {f i k j p q : Nat} (hs : Sim B w0 ι H w) (ho : i < H.length) (hf : fieldT P s f = some (p, q)) (hq : q ≠ 0) (hK : K (.c (.ptr (some (i, k, j + p)))) H) :
    RunK P B w0 ι H.length K (Instr.fieldAt s (ptrOf ι (i, k, j)) f) w := by
  unfold fieldT at hf
  split at hf
  · rename_i fs hfs
    cases hx : fs[f]? with
    | none => rw [hx] at hf; cases hf
    | some x =>
      rw [hx] at hf
      simp only [Option.map_some, Option.some.injEq, Prod.mk.injEq] at hf
      obtain ⟨h1, h2⟩ := hf
      have hinfo : (P.info? x.type).isSome = true := by
        cases hi : P.info? x.type with
        | none => simp [szT, hi] at h2; omega
        | some i => rfl
      have hz : szT P x.type ≠ 0 := by omega
      refine runK_same hs (v := ptrOf ι (i, k, j + p)) (av := .c (.ptr (some (i, k, j + p)))) ?_ rfl ho hK
      simp [Instr.fieldAt, run_underlying hfs, hx, Instr.sureAddr, ptrOf, fieldPlace, run_sizeOf hinfo, hz, h1, at_add]
  · cases hf
theorem runK_index {t e i k n sz ty : Nat} {kd : IntKind} {q : Int} {v : Value} {els : List (List AC)} {own : Bool} (hs : Sim B w0 ι H w) (hv : AC.rel ι (.sl (some (i, k)) n) v) (he : elemT P t = some e) (hi : H[i]? = some (.row ty sz els own)) (h1 : szT P e = sz)
    (h2 : (P.info? e).isSome = true) (h3 : 0 ≤ q) (h4 : q < n) (hK : K (.c (.ptr (some (i, k + q.toNat, 0)))) H) : RunK P B w0 ι H.length K (Instr.indexAt t v (.int kd q)) w := by
  obtain ⟨ad, rfl, h5, h6⟩ := hv
  have hu : P.underlying t = some (.slice e) := by
    unfold elemT at he
    split at he
    · rename_i hh; injection he with he; subst he; exact hh
    · cases he
  have had := h6 (.inl (by omega))
  have hL := (hs.obj i _ hi).1
  refine runK_same hs (v := ptrOf ι (i, k + q.toNat, 0)) (av := .c (.ptr (some (i, k + q.toNat, 0)))) ?_ rfl (getElem?_lt hi) hK
  have e1 : ad.add (q.toNat * szT P e) = (ι i).at (k + q.toNat) 0 := by
    subst had
    rw [at_add, h1]
    simp [Loc.at, hL, Nat.add_mul]
  simp [Instr.indexAt, asIntOf, run_underlying hu, h3, h4, run_sizeOf h2, e1, ptrOf]
theorem fill_foldl : ∀ (vs : List Value) (off q : Nat) (cells : Array Value), off + q + vs.length ≤ cells.size →
    ((vs.zipIdx q).foldl (fun (cs : Array Value) (p : Value × Nat) => cs.setIfInBounds (off + p.2) p.1) cells).toList = cells.toList.take (off + q) ++ vs ++ cells.toList.drop (off + q + vs.length)
  | [], off, q, cells, h => by simp
  | v :: vs, off, q, cells, h => by
    rw [List.zipIdx_cons, List.foldl_cons, fill_foldl vs off (q + 1) _ (by simp at h ⊢; omega)]
    have hlt : off + q < cells.toList.length := by simp at h ⊢; omega
    have e := list_seg_step cells.toList (off + q) v vs (by simp at h ⊢; omega)
    simpa [Array.toList_setIfInBounds, Nat.add_assoc] using e
theorem fill_one (v : Value) (off : Nat) (cells : Array Value) (h : off + v.cells.size ≤ cells.size) :
    (v.cells.zipIdx.foldl (fun (cs : Array Value) (p : Value × Nat) => cs.setIfInBounds (off + p.2) p.1) cells).toList = cells.toList.take off ++ v.cells.toList ++ cells.toList.drop (off + v.cells.size) := by
  have := fill_foldl v.cells.toList off 0 cells (by simpa using h)
  rw [← Array.foldl_toList, Array.toList_zipIdx]
  simpa using this
theorem relL_setC {cs xs : List AC} {cells : List Value} {v : Value} (o : Nat) (h : relL ι cs cells) (k : relL ι xs v.cells.toList) : relL ι (setC cs o xs) (cells.take o ++ v.cells.toList ++ cells.drop (o + v.cells.size)) := by
  have hl : xs.length = v.cells.size := by rw [relL_len k]; simp
  unfold setC
  rw [hl]
  exact relL_append (relL_append (relL_take o h) k) (relL_drop _ h)
theorem setC_ok {cs xs : List AC} {o : Nat} (h : ∀ x ∈ cs, x.ok n) (k : ∀ x ∈ xs, x.ok n) : ∀ x ∈ setC cs o xs, x.ok n := by
  intro y hy
  simp only [setC, List.mem_append] at hy
  rcases hy with (hy | hy) | hy
  · exact h y (List.mem_of_mem_take hy)
  · exact k y hy
  · exact h y (List.mem_of_mem_drop hy)
def partsRel (ι : En) (n : Nat) : List (Nat × AV) → List (Nat × Value) → Prop
  | [], [] => True
  | (i, x) :: xs, (j, v) :: vs => i = j ∧ x.rel ι v ∧ x.ok n ∧ partsRel ι n xs vs
  | _, _ => False
theorem partsRel_of (hF : FOk N ι n F a) : ∀ ps : List (Nat × Operand), partsRel ι n (partsOf ps (evC F)) (ps.map fun p => (p.1, a.eval p.2))
  | [] => trivial
  | (i, x) :: ps => ⟨rfl, evC_rel hF x, evC_ok hF x, partsRel_of hF ps⟩
theorem fill_build {t : TypeId} {fs : Array Field} (hfs : P.underlying t = some (.struct fs)) {places : Array (Nat × Nat)} (hp : ∀ i o q, fieldT P t i = some (o, q) → places[i]? = some (o, q)) :
    ∀ (ps : List (Nat × AV)) (vs : List (Nat × Value)) (cs cs' : List AC) (cells : Array Value), partsRel ι n ps vs → relL ι cs cells.toList → (∀ x ∈ cs, x.ok n) → buildAt P t cs ps = some cs' →
      ∃ cells', Instr.fill (places[·]?) cells vs = some cells' ∧ relL ι cs' cells'.toList ∧ ∀ x ∈ cs', x.ok n
  | [], [], cs, cs', cells, _, hr, ho, hb => by simp [buildAt] at hb; subst hb; exact ⟨cells, rfl, hr, ho⟩
  | [], _ :: _, _, _, _, h, _, _, _ => h.elim
  | _ :: _, [], _, _, _, h, _, _, _ => h.elim
  | (i, x) :: ps, (j, v) :: vs, cs, cs', cells, h, hr, ho, hb => by
    obtain ⟨rfl, h1, h2, h3⟩ := h
    unfold buildAt at hb
    cases hf : fieldT P t i with
    | none => rw [hf] at hb; cases hb
    | some p =>
      obtain ⟨o, q⟩ := p
      cases hc : x.cells with
      | none => rw [hf, hc] at hb; cases hb
      | some xs =>
        rw [hf, hc] at hb
        dsimp only at hb
        split at hb
        · rename_i hcond
          obtain ⟨hq, hfit⟩ := hcond
          have hxr := cells_rel hc h1
          have hxs : xs.length = v.cells.size := by rw [relL_len hxr]; simp
          have hcl : cs.length = cells.size := by rw [relL_len hr]; simp
          have hone := fill_one v o cells (by omega)
          have := fill_build hfs hp ps vs (setC cs o xs) cs' _ h3 (by rw [hone]; exact relL_setC o hr hxr) (setC_ok ho (cells_ok hc h2)) hb
          obtain ⟨cells', h4, h5⟩ := this
          refine ⟨cells', ?_, h5⟩
          unfold Instr.fill
          rw [hp i o q hf]
          dsimp only
          rw [if_neg (by simp; omega)]
          exact h4
        · cases hb
end
end Go.Proofs.YtkmkkjlfnobciaaGreatDoor
