/- What the plain heap says of an operation holds of the world (2). No condition. -/
import Derived.Test.YtkmkkjlfnobciaaGreatDoorCoreSound
import Derived.Maps.AppendAt
import Derived.Lib.AppendZeros
namespace Go.Proofs.YtkmkkjlfnobciaaGreatDoor
open Go Go.RowKit
set_option linter.all false

section
variable {P : Program} {B : Nat} {w0 w w' : World} {ι ι' : En} {H : Hp} {F : Fr} {a : Act} {N n m : Nat} {Q : Exit → Act → World → Prop} {next : Act → World → Prop} {o : Oper} {K : AV → Hp → Prop}

theorem mapM_run (fs : Array Field) (h : ∀ f ∈ fs, (P.info? f.type).isSome = true) (w : World) :
    (fs.mapM (fun f => (do pure (f.offset, ← sizeOf f.type) : Sem (Nat × Nat)))).run P w = .ok (fs.map fun f => (f.offset, szT P f.type)) w := by
  obtain ⟨l⟩ := fs
  rw [List.mapM_toArray]
  have key : ∀ l : List Field, (∀ f ∈ l, (P.info? f.type).isSome = true) → (l.mapM (fun f => (do pure (f.offset, ← sizeOf f.type) : Sem (Nat × Nat)))).run P w = .ok (l.map fun f => (f.offset, szT P f.type)) w := by
    intro l
    induction l with
    | nil => intro _; simp
    | cons f l ih =>
      intro hl
      rw [List.mapM_cons]
      simp only [Sem.run_bind, run_sizeOf (hl f (by simp)), Result.andThen_ok, Sem.run_pure, ih (fun g hg => hl g (by simp [hg])), List.map_cons]
  rw [Sem.run_map, key l (fun f hf => h f (by simpa using hf))]
  simp
theorem runK_build {t : TypeId} {ps : Array (Nat × Operand)} {z cs : List AC} {fs : Array Field} (hs : Sim B w0 ι H w) (hF : FOk N ι H.length F a) (hfs : P.underlying t = some (.struct fs)) (hfo : fieldsOk P t = true) (hz : zeroT P t = some z) (hb : buildAt P t z (partsOf ps.toList (evC F)) = some cs) (hK : K (.agg cs) H) :
    RunK P B w0 ι H.length K (Instr.build t (ps.map fun (i, x) => (i, a.eval x))) w := by
  obtain ⟨zv, h1, h2, h3⟩ := zeroT_rel hz ι
  have hall : ∀ f ∈ fs, (P.info? f.type).isSome = true := by
    unfold fieldsOk at hfo
    rw [hfs] at hfo
    exact fun f hf => Array.all_eq_true_iff_forall_mem.1 hfo f hf
  have hp : ∀ (i o q : Nat), fieldT P t i = some (o, q) → (fs.map fun f => (f.offset, szT P f.type))[i]? = some (o, q) := by
    intro i o q h
    unfold fieldT at h
    rw [hfs] at h
    simpa using h
  have hpr := partsRel_of (n := H.length) hF ps.toList
  obtain ⟨cells', h4, h5, h6⟩ := fill_build (n := H.length) hfs hp _ _ z cs zv.cells hpr h2 (h3 _) hb
  refine runK_same hs (v := .agg cells') (av := .agg cs) ?_ ⟨cells'.toList, by simp, h5⟩ h6 hK
  unfold Instr.build
  simp only [Sem.run_bind, run_zeroValue h1, Result.andThen_ok, Sem.run_pure, run_underlying hfs, mapM_run fs hall]
  have e : (ps.map fun (i, x) => (i, a.eval x)).toList = ps.toList.map fun p => (p.1, a.eval p.2) := by simp
  rw [e, h4]
  simp
theorem litEls_sz {sz : Nat} : ∀ {ps : List (Nat × AV)} {q : Nat} {els : List (List AC)}, litEls sz q ps = some els → els.length = ps.length ∧ ∀ e ∈ els, e.length = sz
  | [], q, els, h => by simp [litEls] at h; subst h; simp
  | (i, v) :: ps, q, els, h => by
    unfold litEls at h
    cases hc : v.cells with
    | none => rw [hc] at h; cases h
    | some xs =>
      rw [hc] at h
      dsimp only at h
      split at h
      · rename_i hcond
        cases hl : litEls sz (q + 1) ps with
        | none => rw [hl] at h; cases h
        | some els' =>
          rw [hl] at h
          simp only [Option.map_some, Option.some.injEq] at h
          subst h
          obtain ⟨h1, h2⟩ := litEls_sz hl
          exact ⟨by simp [h1], fun e he => by
            rcases List.mem_cons.1 he with rfl | he
            · exact hcond.2
            · exact h2 e he⟩
      · cases h
theorem fill_lit {sz : Nat} : ∀ (ps : List (Nat × AV)) (vs : List (Nat × Value)) (q : Nat) (els : List (List AC)) (cells : Array Value) (done : List Value), partsRel ι n ps vs → litEls sz q ps = some els →
      done.length = q * sz → cells.size = (q + ps.length) * sz → cells.toList.take (q * sz) = done →
      ∃ (cells' : Array Value) (rest : List Value), Instr.fill (fun i => some (i * sz, sz)) cells vs = some cells' ∧ cells'.toList = done ++ rest ∧ relL ι els.flatten rest ∧ ∀ e ∈ els, ∀ x ∈ e, x.ok n
  | [], [], q, els, cells, done, _, hl, hd, hc, ht => by
    simp [litEls] at hl
    subst hl
    refine ⟨cells, [], rfl, ?_, trivial, by simp⟩
    rw [List.append_nil, ← ht, List.take_of_length_le (by simp at hc ⊢; omega)]
  | [], _ :: _, _, _, _, _, h, _, _, _, _ => h.elim
  | _ :: _, [], _, _, _, _, h, _, _, _, _ => h.elim
  | (i, x) :: ps, (j, v) :: vs, q, els, cells, done, h, hl, hd, hcs, ht => by
    obtain ⟨rfl, h1, h2, h3⟩ := h
    unfold litEls at hl
    cases hc : x.cells with
    | none => rw [hc] at hl; cases hl
    | some xs =>
      rw [hc] at hl
      dsimp only at hl
      split at hl
      · rename_i hcond
        obtain ⟨rfl, hsz⟩ := hcond
        cases hl2 : litEls sz (i + 1) ps with
        | none => rw [hl2] at hl; cases hl
        | some els' =>
          rw [hl2] at hl
          simp only [Option.map_some, Option.some.injEq] at hl
          subst hl
          have hxr := cells_rel hc h1
          have hxs : v.cells.size = sz := by rw [← hsz, relL_len hxr]; simp
          have hroom : i * sz + v.cells.size ≤ cells.size := by
            rw [hcs, hxs, List.length_cons]
            have : (i + 1) * sz ≤ (i + (ps.length + 1)) * sz := Nat.mul_le_mul_right _ (by omega)
            rw [Nat.add_mul] at this; omega
          have hone := fill_one v (i * sz) cells hroom
          have hsize : (v.cells.zipIdx.foldl (fun (cs : Array Value) (p : Value × Nat) => cs.setIfInBounds (i * sz + p.2) p.1) cells).size = cells.size := by
            rw [← Array.length_toList, hone]; simp; omega
          obtain ⟨cells', rest, h4, h5, h6, h7⟩ := fill_lit ps vs (i + 1) els' _ (done ++ v.cells.toList) h3 hl2 (by simp [hd, hxs, Nat.add_mul]) (by rw [hsize, hcs, List.length_cons]; congr 1; omega)
            (by
              rw [hone, ht, Nat.add_mul, Nat.one_mul, List.take_append_of_le_length (by simp [hd, hxs])]
              rw [List.take_of_length_le (by simp [hd, hxs])])
          refine ⟨cells', v.cells.toList ++ rest, ?_, by rw [h5, List.append_assoc], by rw [List.flatten_cons]; exact relL_append hxr h6, ?_⟩
          · unfold Instr.fill
            dsimp only
            rw [if_neg (by simp; omega)]
            exact h4
          · intro e he
            rcases List.mem_cons.1 he with rfl | he
            · exact cells_ok hc h2
            · exact h7 e he
      · cases hl
theorem flat_get {sz : Nat} : ∀ (els : List (List AC)), (∀ e ∈ els, e.length = sz) → ∀ (k j : Nat) (e : List AC) (x : AC), els[k]? = some e → e[j]? = some x → els.flatten[k * sz + j]? = some x
  | [], _, k, j, e, x, hk, _ => by simp at hk
  | e0 :: els, h, 0, j, e, x, hk, hj => by
    simp at hk; subst hk
    rw [List.flatten_cons, Nat.zero_mul, Nat.zero_add, List.getElem?_append_left (getElem?_lt hj)]; exact hj
  | e0 :: els, h, k + 1, j, e, x, hk, hj => by
    simp at hk
    have h0 := h e0 (by simp)
    rw [List.flatten_cons, List.getElem?_append_right (by rw [h0, Nat.add_mul]; omega), h0]
    rw [show (k + 1) * sz + j - sz = k * sz + j by rw [Nat.add_mul]; omega]
    exact flat_get els (fun e he => h e (by simp [he])) k j e x hk hj
/-- a new row of some elements -/
theorem new_row {e sz cap : Nat} {els : List (List AC)} {vs : Array Value} (hs : Sim B w0 ι H w) (hsz : ∀ x ∈ els, x.length = sz) (hok : ∀ x ∈ els, ∀ y ∈ x, y.ok H.length) (hr : relL ι els.flatten (vs.toList.take (els.length * sz))) (hc : els.length ≤ cap) (hv : vs.size = cap * sz) (hm : cap ≤ maxLen) :
    Sim B w0 (upd ι H.length ⟨w.heap.size, 0, sz, cap⟩) (H ++ [.row e sz els true]) (w.alloc (.cells vs e)) := by
  refine hs.new _ _ _ rfl (fun x hx => ⟨hsz x hx, hok x hx⟩) ⟨rfl, hc, vs, (0, 0), heap_alloc_new w _, fun k x hk j y hj => ?_, fun _ => ⟨rfl, rfl, hv, hm⟩⟩
  obtain ⟨u, h1, h2⟩ := relL_get hr (k * sz + j) y (flat_get els hsz k j x y hk hj)
  refine ⟨u, ?_, AC.rel_agree (upd_agree ι H.length _) (hok x (List.mem_of_getElem? hk) y (List.mem_of_getElem? hj)) h2⟩
  rw [List.getElem?_take] at h1
  split at h1
  · rw [Nat.zero_add]; simpa using h1
  · cases h1
theorem elemT_und {t e : TypeId} (he : elemT P t = some e) : P.underlying t = some (.slice e) := by
  unfold elemT at he
  split at he
  · rename_i hh; injection he with he; subst he; exact hh
  · cases he
theorem zero_info {e : TypeId} (h : (zeroT P e).isSome = true) : (P.info? e).isSome = true := by
  cases hi : P.info? e with
  | none => simp [zeroT, hi] at h
  | some i => rfl
theorem runK_buildSlice {t e n0 : Nat} {ps : Array (Nat × Operand)} {els : List (List AC)} (hs : Sim B w0 ι H w) (hF : FOk N ι H.length F a) (he : elemT P t = some e) (hl : litEls (szT P e) 0 (partsOf ps.toList (evC F)) = some els)
    (h : n0 = ps.size ∧ 0 < szT P e ∧ n0 * szT P e ≤ 16777216 ∧ (zeroT P e).isSome = true ∧ K (.c (.sl (some (H.length, 0)) n0)) (H ++ [.row e (szT P e) els true])) :
    RunK P B w0 ι H.length K (Instr.buildSlice t n0 (ps.map fun (i, x) => (i, a.eval x))) w := by
  obtain ⟨rfl, hz, hbig, hzero, hK⟩ := h
  obtain ⟨z, hz1⟩ := Option.isSome_iff_exists.1 hzero
  obtain ⟨zv, h1, h2, h3⟩ := zeroT_rel hz1 ι
  have hpr := partsRel_of (n := H.length) hF ps.toList
  obtain ⟨hlen, hszs⟩ := litEls_sz hl
  have hpl : (partsOf ps.toList (evC F)).length = ps.size := by simp [partsOf]
  let init : Array Value := (Array.range (ps.size * szT P e)).map (zv.cells[· % zv.cells.size]!)
  have hinit : init.size = ps.size * szT P e := by simp [init]
  obtain ⟨cells', rest, h4, h5, h6, h7⟩ := fill_lit (sz := szT P e) _ _ 0 els init [] hpr hl (by simp) (by rw [hinit, hpl]; simp) (by simp)
  simp only [List.nil_append] at h5
  have hcl : cells'.size = ps.size * szT P e := by
    rw [← Array.length_toList, h5, ← relL_len h6]
    have : ∀ l : List (List AC), (∀ e' ∈ l, e'.length = szT P e) → l.flatten.length = l.length * szT P e := by
      intro l hl
      induction l with
      | nil => simp
      | cons x l ih => rw [List.flatten_cons, List.length_append, ih (fun e' he' => hl e' (by simp [he'])), hl x (by simp), List.length_cons, Nat.add_mul]; omega
    rw [this els hszs, hlen, hpl]
  have hm : ps.size ≤ maxLen := by
    have : ps.size * 1 ≤ ps.size * szT P e := Nat.mul_le_mul_left _ hz
    simp only [maxLen]; omega
  have hsim := new_row (e := e) (cap := ps.size) (vs := cells') hs hszs h7 (by rw [List.take_of_length_le (by rw [Array.length_toList, hcl, hlen, hpl]; exact Nat.le_refl _), h5]; exact h6) (by omega) hcl hm
  refine ⟨.slice (some ⟨w.heap.size, 0, none⟩) ps.size ps.size, _, _, _, _, ?_, upd_agree _ _ _, by simp, hsim, ?_, ?_, hK⟩
  · unfold Instr.buildSlice
    simp only [Sem.run_bind, run_underlying (elemT_und he), Result.andThen_ok, run_sizeOf (zero_info hzero)]
    by_cases hn0 : ps.size = 0
    · have hps : ps = #[] := Array.size_eq_zero_iff.1 hn0
      subst hps
      have hc0 : cells' = #[] := Array.size_eq_zero_iff.1 (by rw [hcl]; simp)
      subst hc0
      have e0 : ∀ f : Nat → Value, Array.map f (Array.range 0) = #[] := fun f => Array.size_eq_zero_iff.1 (by simp)
      simp [Instr.fill, newRow, e0]
    have hn : 0 < ps.size := by omega
    have hne : ¬ (ps.size * szT P e = 0) := by
      have : 1 * 1 ≤ ps.size * szT P e := Nat.mul_le_mul hn hz
      omega
    have e1 : (ps.map fun (i, x) => (i, a.eval x)).toList = ps.toList.map fun p => (p.1, a.eval p.2) := by simp
    rw [if_neg (by omega), if_neg hne, e1]
    simp only [Sem.run_bind, Sem.run_pure, Result.andThen_ok, run_zeroValue h1]
    simp only [init] at h4
    rw [h4]
    simp [newRow]
  · refine ⟨⟨w.heap.size, 0, none⟩, by rw [upd_same]; simp, by rw [upd_same]; simp, fun _ => by rw [upd_same]; simp [Loc.at]⟩
  · show H.length < _
    simp

/-! ### slices, strings, append -/
theorem cap_eq (c k lo : Nat) : c - k - lo = c - (k + lo) := by omega
theorem run_bound {kd : IntKind} {q : Int} {y : Nat} {code : BoundsCode} (h0 : 0 ≤ q) (h1 : q ≤ y) (w : World) : (Instr.sliceBound (.int kd q) y code).run P w = .ok q.toNat w := by
  simp [Instr.sliceBound, asIntOf, h0, h1]
theorem loOf_cases {lo : Option AV} {vlo : Option Value} {l : Int} (hlo : loOf lo = some l) (rlo : ∀ x, lo = some x → ∃ v, vlo = some v ∧ x.rel ι v) (rlo0 : lo = none → vlo = none) : (vlo = none ∧ l = 0) ∨ ∃ kd, vlo = some (.int kd l) := by
  cases lo with
  | none => simp [loOf] at hlo; exact .inl ⟨rlo0 rfl, hlo.symm⟩
  | some x =>
    obtain ⟨v, rfl, hr⟩ := rlo x rfl
    unfold loOf at hlo
    split at hlo
    · rename_i heq; cases heq
    · rename_i kd q heq
      injection heq with heq; subst heq
      injection hlo with hlo; subst hlo
      have hv : v = .int kd q := hr
      subst hv
      exact .inr ⟨kd, rfl⟩
    · cases hlo
theorem hiOf_cases {lo : Option AV} {vlo : Option Value} {l : Int} {n : Nat} (hlo : hiOf lo n = some l) (rlo : ∀ x, lo = some x → ∃ v, vlo = some v ∧ x.rel ι v) (rlo0 : lo = none → vlo = none) : (vlo = none ∧ l = n) ∨ ∃ kd, vlo = some (.int kd l) := by
  cases lo with
  | none => simp [hiOf] at hlo; exact .inl ⟨rlo0 rfl, hlo.symm⟩
  | some x =>
    obtain ⟨v, rfl, hr⟩ := rlo x rfl
    unfold hiOf at hlo
    split at hlo
    · rename_i heq; cases heq
    · rename_i kd q heq
      injection heq with heq; subst heq
      injection hlo with hlo; subst hlo
      have hv : v = .int kd q := hr
      subst hv
      exact .inr ⟨kd, rfl⟩
    · cases hlo
theorem run_bounds {b : Bool} {n c : Nat} {lo hi : Option AV} {vlo vhi : Option Value} {l h : Int} (hlo : loOf lo = some l) (hhi : hiOf hi n = some h) (rlo : ∀ x, lo = some x → ∃ v, vlo = some v ∧ x.rel ι v) (rlo0 : lo = none → vlo = none)
    (rhi : ∀ x, hi = some x → ∃ v, vhi = some v ∧ x.rel ι v) (rhi0 : hi = none → vhi = none) (h0 : 0 ≤ l) (h1 : l ≤ h) (h2 : h ≤ n) (h3 : n ≤ c) (w : World) :
    (Instr.sliceBounds b n c vlo vhi none).run P w = .ok (l.toNat, h.toNat, c) w := by
  have a1 := loOf_cases hlo rlo rlo0
  have a2 := hiOf_cases hhi rhi rhi0
  clear hlo hhi rlo rlo0 rhi rhi0
  have b1 : ∀ (kd : IntKind) (code : BoundsCode), (Instr.sliceBound (.int kd l) h.toNat code).run P w = .ok l.toNat w := fun kd code => run_bound h0 (by omega) w
  have b2 : ∀ (kd : IntKind) (code : BoundsCode), (Instr.sliceBound (.int kd h) c code).run P w = .ok h.toNat w := fun kd code => run_bound (by omega) (by omega) w
  rcases a1 with ⟨rfl, rfl⟩ | ⟨k1, rfl⟩ <;> rcases a2 with ⟨rfl, rfl⟩ | ⟨k2, rfl⟩ <;> simp_all [Instr.sliceBounds]
theorem runK_slice {t e : Nat} {r : Option (Nat × Nat)} {n0 : Nat} {lo hi : Option AV} {v : Value} {vlo vhi : Option Value} {l h : Int} (hs : Sim B w0 ι H w) (hv : AC.rel ι (.sl r n0) v) (ho : (AC.sl r n0).ok H.length) (he : elemT P t = some e) (hinfo : (P.info? e).isSome = true)
    (hel : ∀ i k, r = some (i, k) → ∃ ty els own, H[i]? = some (.row ty (szT P e) els own)) (hlo : loOf lo = some l) (hhi : hiOf hi n0 = some h) (rlo : ∀ x, lo = some x → ∃ v, vlo = some v ∧ x.rel ι v) (rlo0 : lo = none → vlo = none)
    (rhi : ∀ x, hi = some x → ∃ v, vhi = some v ∧ x.rel ι v) (rhi0 : hi = none → vhi = none) (h0 : 0 ≤ l) (h1 : l ≤ h) (h2 : h ≤ n0) (hK : K (.c (.sl (r.map fun p => (p.1, p.2 + l.toNat)) (h.toNat - l.toNat))) H) :
    RunK P B w0 ι H.length K (Instr.sliceAt t v vlo vhi none) w := by
  have hu := elemT_und he
  cases r with
  | none =>
    obtain ⟨rfl, rfl⟩ := hv
    have hb := run_bounds (P := P) (ι := ι) (b := true) (n := 0) (c := 0) hlo hhi rlo rlo0 rhi rhi0 h0 h1 h2 (Nat.le_refl _) w
    have hl0 : l = 0 := by omega
    have hh0 : h = 0 := by omega
    subst hl0; subst hh0
    refine runK_same hs (v := .slice none 0 0) (av := .c (.sl none 0)) ?_ ⟨rfl, rfl⟩ trivial hK
    simp only [Int.toNat_zero] at hb
    simp [Instr.sliceAt, Instr.slice, run_underlying hu, hb, run_sizeOf hinfo]
  | some p =>
    obtain ⟨i, k⟩ := p
    obtain ⟨ad, rfl, h5, h6⟩ := hv
    have hb := run_bounds (P := P) (ι := ι) (b := true) (n := n0) (c := (ι i).cap - k) hlo hhi rlo rlo0 rhi rhi0 h0 h1 h2 (by omega) w
    obtain ⟨ty, els, own, hi⟩ := hel i k rfl
    have hL := (hs.obj i _ hi).1
    refine runK_same hs (v := .slice (some (if (ι i).cap - k = l.toNat then ad else ad.add (l.toNat * szT P e))) (h.toNat - l.toNat) ((ι i).cap - k - l.toNat)) (av := .c (.sl (some (i, k + l.toNat)) (h.toNat - l.toNat))) ?_ ?_ (getElem?_lt hi) hK
    · simp only [Instr.sliceAt, Instr.slice, Sem.run_bind, run_underlying hu, Result.andThen_ok, hb, run_sizeOf hinfo, Sem.run_pure]
      split <;> simp
    · refine ⟨_, by rw [cap_eq], by omega, fun hne => ?_⟩
      by_cases hc : (ι i).cap - k = l.toNat
      · rw [if_pos hc]
        have : k = 0 ∧ l.toNat = 0 := by omega
        rw [this.1, this.2]
        exact (h6 (.inr this.1)).trans (by rw [this.1])
      · rw [if_neg hc, h6 (by omega), at_add]
        simp [Loc.at, hL, Nat.add_mul]
theorem flat_len {sz : Nat} : ∀ l : List (List AC), (∀ x ∈ l, x.length = sz) → l.flatten.length = l.length * sz
  | [], _ => by simp
  | x :: l, hl => by rw [List.flatten_cons, List.length_append, flat_len l (fun e' he' => hl e' (by simp [he'])), hl x (by simp), List.length_cons, Nat.add_mul]; omega
/-- what lies at a place: some elements -/
def Src (P : Program) (w : World) (ι : En) (n : Nat) (ad : Addr) (e m : Nat) (new : List (List AC)) : Prop :=
  (∀ x ∈ new, x.length = szT P e) ∧ (∀ x ∈ new, ∀ y ∈ x, y.ok n) ∧ new.length = m ∧ ∃ news, relL ι new.flatten news ∧ ∀ (j : Nat) (v : Value), news[j]? = some v → w.cell? (ad.add j) = some v
theorem src_mk {ad : Addr} {e m : Nat} {new : List (List AC)} (h1 : ∀ x ∈ new, x.length = szT P e) (h2 : ∀ x ∈ new, ∀ y ∈ x, y.ok n) (h3 : new.length = m) (hz : 0 < szT P e)
    (h : ∀ (k : Nat) (x : List AC), new[k]? = some x → ∀ (j : Nat) (y : AC), x[j]? = some y → ∃ u, w.cell? (ad.add (k * szT P e + j)) = some u ∧ y.rel ι u) : Src P w ι n ad e m new := by
  refine ⟨h1, h2, h3, relL_build new.flatten (fun j => w.cell? (ad.add j)) (fun j x hx => ?_)⟩
  have hjl := getElem?_lt hx
  rw [flat_len _ h1, h3] at hjl
  have hq : j / szT P e < m := Nat.div_lt_of_lt_mul (by rw [Nat.mul_comm]; exact hjl)
  have hr' : j % szT P e < szT P e := Nat.mod_lt _ hz
  have hjq : j / szT P e * szT P e + j % szT P e = j := by rw [Nat.mul_comm]; exact Nat.div_add_mod j _
  have hx1 : new[j / szT P e]? = some (new[j / szT P e]'(by omega)) := List.getElem?_eq_getElem (by omega)
  have hx2 : (new[j / szT P e]'(by omega)).length = szT P e := h1 _ (List.getElem_mem _)
  have hx3 := flat_get _ h1 (j / szT P e) (j % szT P e) _ ((new[j / szT P e]'(by omega))[j % szT P e]'(by omega)) hx1 (List.getElem?_eq_getElem (by omega))
  rw [hjq, hx] at hx3
  injection hx3 with hx3
  have := h _ _ hx1 (j % szT P e) _ (List.getElem?_eq_getElem (by omega))
  rw [hjq, ← hx3] at this
  exact this
theorem src_row {e m0 : Nat} {r2 : Option (Nat × Nat)} {u : Value} {new : List (List AC)} (hs : Sim B w0 ι H w) (hu : AC.rel ι (.sl r2 m0) u) (h2 : srcA P H e r2 m0 new) (hm : 0 < m0) (hz : 0 < szT P e) :
    ∃ ad2 c2, u = .slice (some ad2) m0 c2 ∧ Src P w ι H.length ad2 e m0 new := by
  cases r2 with
  | none => exact h2.elim
  | some p2 =>
  obtain ⟨i2, k2⟩ := p2
  obtain ⟨e', els2, own2, hi2, hfit2, rfl⟩ := h2
  obtain ⟨ad2, rfl, h5, h6⟩ := hu
  have had2 := h6 (.inl (by omega))
  have hobj2 := hs.obj i2 _ hi2
  have hL2 := hobj2.1
  have hsc2 := hs.scope i2 _ hi2
  refine ⟨ad2, _, rfl, src_mk (fun x hx => (hsc2 x (List.mem_of_mem_drop (List.mem_of_mem_take hx))).1) (fun x hx => (hsc2 x (List.mem_of_mem_drop (List.mem_of_mem_take hx))).2) (by rw [List.length_take, List.length_drop]; omega) hz (fun k x hk j y hj => ?_)⟩
  rw [List.getElem?_take] at hk
  split at hk
  · rw [List.getElem?_drop] at hk
    have := row_cell hobj2 (k := k2 + k) (j := j) hk hj
    rw [had2, at_add]
    have e4 : (ι i2).at k2 (0 + (k * szT P e + j)) = (ι i2).at (k2 + k) j := by
      simp only [Loc.at, hL2, Nat.zero_add, Nat.add_mul]
      congr 1
      omega
    rw [e4]; exact this
  · cases hk
theorem src_lst {e sz : Nat} {u : Value} {new : List (List AC)} (hs : Sim B w0 ι H w) (hu : AC.rel ι (.lst sz new) u) (hsz : sz = szT P e) (hm : 0 < new.length) (hz : 0 < szT P e) :
    ∃ ad2 c2, u = .slice (some ad2) new.length c2 ∧ Src P w ι H.length ad2 e new.length new := by
  simp only [AC.rel, AC.relZ] at hu
  obtain ⟨p, c, rfl, hlc, hall, hp0, hp1⟩ := hu
  cases p with
  | none => have := (hp0 rfl).1; subst this; simp at hm
  | some ad =>
    obtain ⟨hsp, hrows⟩ := hp1 ad rfl
    have hsp : ad.spot = none := by
      rcases hsp with h0 | h0
      · subst h0; simp at hm
      · exact h0
    obtain ⟨b, o, sp⟩ := ad
    dsimp only at hsp hrows
    subst hsp
    subst hsz
    refine ⟨_, _, rfl, src_mk hall (fun x hx y hy => ?_) rfl hz (fun k x hk j y hj => ?_)⟩
    · obtain ⟨k, hk⟩ := List.getElem?_of_mem hx
      obtain ⟨j, hj⟩ := List.getElem?_of_mem hy
      obtain ⟨u, _, h2⟩ := relCells_get (relRows_get hrows k x hk) j y hj
      exact AC.ok_of_relZ h2 _
    · have := fp_cell hs (relRows_get hrows k x hk) hj
      rw [add_none, ← Nat.add_assoc]; exact this
theorem runK_fslice {t e sz : Nat} {els : List (List AC)} {lo hi : Option AV} {v : Value} {vlo vhi : Option Value} {l h : Int} (hs : Sim B w0 ι H w) (hv : AC.rel ι (.lst sz els) v) (he : elemT P t = some e) (hinfo : (P.info? e).isSome = true) (hsz : sz = szT P e)
    (hlo : loOf lo = some l) (hhi : hiOf hi els.length = some h) (rlo : ∀ x, lo = some x → ∃ v, vlo = some v ∧ x.rel ι v) (rlo0 : lo = none → vlo = none)
    (rhi : ∀ x, hi = some x → ∃ v, vhi = some v ∧ x.rel ι v) (rhi0 : hi = none → vhi = none) (h0 : 0 ≤ l) (h1 : l ≤ h) (h2 : h ≤ els.length) (hK : K (.c (.lst sz ((els.drop l.toNat).take (h.toNat - l.toNat)))) H) :
    RunK P B w0 ι H.length K (Instr.sliceAt t v vlo vhi none) w := by
  have hu := elemT_und he
  simp only [AC.rel, AC.relZ] at hv
  obtain ⟨p, c, rfl, hlc, hall, hp0, hp1⟩ := hv
  have hb := run_bounds (P := P) (ι := ι) (b := true) (n := els.length) (c := c) hlo hhi rlo rlo0 rhi rhi0 h0 h1 h2 hlc w
  have hl : ((els.drop l.toNat).take (h.toNat - l.toNat)).length = h.toNat - l.toNat := by rw [List.length_take, List.length_drop]; omega
  cases p with
  | none =>
    obtain ⟨rfl, rfl⟩ := hp0 rfl
    have hl0 : l = 0 := by simp at h2; omega
    have hh0 : h = 0 := by simp at h2; omega
    subst hl0; subst hh0
    simp only [Int.toNat_zero] at hb
    refine runK_same hs (v := .slice none 0 0) (av := .c (.lst sz ([].drop (0:Int).toNat |>.take ((0:Int).toNat - (0:Int).toNat)))) ?_ ?_ trivial hK
    · simp only [List.length_nil] at hb
      simp [Instr.sliceAt, Instr.slice, run_underlying hu, hb, run_sizeOf hinfo]
    · show AC.rel ι (.lst sz _) _
      simp only [AC.rel, AC.relZ]
      exact ⟨none, 0, by simp, by simp, by simp, by simp, by simp⟩
  | some ad =>
    obtain ⟨hsp, hrows⟩ := hp1 ad rfl
    refine runK_same hs (v := .slice (some (if c = l.toNat then ad else ad.add (l.toNat * szT P e))) (h.toNat - l.toNat) (c - l.toNat)) (av := .c (.lst sz ((els.drop l.toNat).take (h.toNat - l.toNat)))) ?_ ?_ trivial hK
    · simp only [Instr.sliceAt, Instr.slice, Sem.run_bind, run_underlying hu, Result.andThen_ok, hb, run_sizeOf hinfo, Sem.run_pure]
      split <;> simp
    · show AC.rel ι (.lst sz _) _
      simp only [AC.rel, AC.relZ]
      refine ⟨_, c - l.toNat, by rw [hl], by rw [hl]; omega, fun x hx => hall x (List.mem_of_mem_drop (List.mem_of_mem_take hx)), by simp, fun a ha => ?_⟩
      injection ha with ha
      rcases Nat.eq_zero_or_pos (h.toNat - l.toNat) with hz | hz
      · have : (els.drop l.toNat).take (h.toNat - l.toNat) = [] := List.eq_nil_of_length_eq_zero (by rw [hl]; exact hz)
        rw [this]; simp [relRows]
      · have hsp : ad.spot = none := by
          rcases hsp with h9 | h9
          · subst h9; simp at h2; omega
          · exact h9
        obtain ⟨b, o, sp⟩ := ad
        dsimp only at hsp hrows
        subst hsp
        rw [if_neg (by omega), add_none] at ha
        subst ha
        refine ⟨.inr rfl, relRows_of fun k x hk => ?_⟩
        rw [List.getElem?_take] at hk
        split at hk
        · rw [List.getElem?_drop] at hk
          have := relRows_get hrows _ _ hk
          dsimp only
          rw [Nat.add_mul, ← Nat.add_assoc] at this
          rw [← hsz]; exact this
        · cases hk
theorem zeroCells_get {z : Array Value} {n j : Nat} (hj : j < n * z.size) : (Builtin.zeroCells z n)[j]? = z[j % z.size]? := by
  have hz : 0 < z.size := by rcases Nat.eq_zero_or_pos z.size with h | h; · rw [h] at hj; omega
                             · exact h
  have hr : j % z.size < z.size := Nat.mod_lt _ hz
  simp [Builtin.zeroCells, hj, hr]
theorem runK_appZeros {t t' e m : Nat} {k kn : IntKind} {z : List AC} {ty : TypeId} (hs : Sim B w0 ι H w) (he : elemT P t = some e) (htn : P.underlying t' = some (.int kn)) (hz1 : zeroT P e = some z) (hzl : z.length = szT P e)
    (hz : 0 < szT P e) (hm : 0 < m) (hby : m * P.bytesOf e ≤ 140737488355328) (h63 : m ≤ 9223372036854775807) (hK : K (.c (.sl (some (H.length, 0)) m)) (H ++ [.row e (szT P e) (List.replicate m z) true])) :
    RunK P B w0 ι H.length K (Builtin.append_ #[t, t'] ty #[.slice none 0 0, .int k m]) w := by
  obtain ⟨zv, hzi, hzr, hzo⟩ := zeroT_rel hz1 ι
  obtain ⟨inf, hinf⟩ := Option.isSome_iff_exists.1 (zero_info (P := P) (e := e) (by rw [hz1]; rfl))
  have hzero' : inf.zero = some zv := by rw [hinf] at hzi; simpa using hzi
  have hsz : inf.size = szT P e := by simp [szT, hinf]
  have hbt : inf.bytes = P.bytesOf e := by simp [Program.bytesOf, hinf]
  have hzs : zv.cells.size = szT P e := by rw [← Array.length_toList, ← relL_len hzr, hzl]
  have hrun := Go.Lib.run_append_nil_zeros (P := P) w t t' ty e inf zv k kn (elemT_und he) htn hinf hzero' m hm (by omega) (by omega) (by rw [hbt]; omega)
  have hge := grownCap_ge w m 0 e
  have hle := grownCap_le_maxLen w m 0 e (by simp only [maxLen]; omega)
  generalize grownCap w m 0 e = g at *
  have hsim := new_row (e := e) (sz := szT P e) (cap := g) (els := List.replicate m z) (vs := Builtin.zeroCells zv.cells m ++ Builtin.zeroCells zv.cells (g - m)) hs.drew (fun x hx => by rw [List.eq_of_mem_replicate hx]; exact hzl) (fun x hx y hy => by rw [List.eq_of_mem_replicate hx] at hy; exact hzo _ y hy)
    (by
      have hall : ∀ x ∈ List.replicate m z, x.length = szT P e := fun x hx => by rw [List.eq_of_mem_replicate hx]; exact hzl
      have hfl : (List.replicate m z).flatten.length = m * szT P e := by rw [flat_len _ hall, List.length_replicate]
      obtain ⟨xs, hx1, hx2⟩ := relL_build (ι := ι) (List.replicate m z).flatten (fun j => (Builtin.zeroCells zv.cells m)[j]?) (fun j x hx => by
        have hjl := getElem?_lt hx
        rw [hfl] at hjl
        have hq : j / szT P e < m := Nat.div_lt_of_lt_mul (by rw [Nat.mul_comm]; exact hjl)
        have hr' : j % szT P e < szT P e := Nat.mod_lt _ hz
        have hjq : j / szT P e * szT P e + j % szT P e = j := by rw [Nat.mul_comm]; exact Nat.div_add_mod j _
        have hx3 := flat_get _ hall (j / szT P e) (j % szT P e) z (z[j % szT P e]'(by omega)) (by simp [hq]) (List.getElem?_eq_getElem (by omega))
        rw [hjq, hx] at hx3
        injection hx3 with hx3
        obtain ⟨u, hu1, hu2⟩ := relL_get hzr (j % szT P e) (z[j % szT P e]'(by omega)) (List.getElem?_eq_getElem (by omega))
        refine ⟨u, ?_, by rw [hx3]; exact hu2⟩
        rw [zeroCells_get (by rw [hzs]; exact hjl), hzs]
        simpa using hu1)
      have hxl : xs.length = m * szT P e := by rw [← relL_len hx1, hfl]
      have hxe : xs = (Builtin.zeroCells zv.cells m).toList := by
        apply List.ext_getElem?
        intro j
        by_cases hj : j < xs.length
        · rw [List.getElem?_eq_getElem hj, Array.getElem?_toList]
          exact (hx2 j _ (List.getElem?_eq_getElem hj)).symm
        · rw [List.getElem?_eq_none (by omega), List.getElem?_eq_none (by rw [Array.length_toList, size_zeroCells, hzs]; omega)]
      rw [List.length_replicate, Array.toList_append, List.take_append_of_le_length (by rw [Array.length_toList, size_zeroCells, hzs]; exact Nat.le_refl _), List.take_of_length_le (by rw [Array.length_toList, size_zeroCells, hzs]; exact Nat.le_refl _), ← hxe]
      exact hx1)
    (by rw [List.length_replicate]; exact hge) (by rw [Array.size_append, size_zeroCells, size_zeroCells, hzs, ← Nat.add_mul]; congr 1; omega) hle
  refine ⟨_, _, _, _, _, hrun, upd_agree _ _ _, by simp, hsim, ?_, ?_, hK⟩
  · refine ⟨⟨w.heap.size, 0, none⟩, by rw [upd_same]; simp, by rw [upd_same]; simpa using hge, fun _ => by rw [upd_same]; simp [Loc.at]⟩
  · show H.length < _
    simp
theorem runK_append {t e n0 m0 : Nat} {r : Option (Nat × Nat)} {v : Value} {ty : TypeId} {ad2 : Addr} {c2 : Nat} (hs : Sim B w0 ι H w) (hv : AC.rel ι (.sl r n0) v) (ho : (AC.sl r n0).ok H.length) (he : elemT P t = some e) (hzero : (zeroT P e).map (·.length) = some (szT P e))
    {els new : List (List AC)} (h1 : ownA P H e r n0 els) (hsrc : Src P w ι H.length ad2 e m0 new)
    (hm : 0 < m0) (hz : 0 < szT P e) (hby : (n0 + m0) * P.bytesOf e ≤ 140737488355328) (h63 : n0 + m0 ≤ 9223372036854775807) (hK : K (.c (.sl (some (H.length, 0)) (n0 + m0))) (killA r H ++ [.row e (szT P e) (els.take n0 ++ new) true])) :
    RunK P B w0 ι H.length K (Builtin.append_ #[t, t] ty #[v, .slice (some ad2) m0 c2]) w := by
  obtain ⟨z, hz1, hzl⟩ := Option.map_eq_some_iff.1 hzero
  obtain ⟨zv, hzi, hzr, hzo⟩ := zeroT_rel hz1 ι
  obtain ⟨inf, hinf⟩ := Option.isSome_iff_exists.1 (zero_info (P := P) (e := e) (by rw [hz1]; rfl))
  have hzero' : inf.zero = some zv := by rw [hinf] at hzi; simpa using hzi
  have hsz : inf.size = szT P e := by simp [szT, hinf]
  have hbt : inf.bytes = P.bytesOf e := by simp [Program.bytesOf, hinf]
  obtain ⟨hnewsz, hnewok, hnl, news, hnr, hnc⟩ := hsrc
  have hflat : ∀ l : List (List AC), (∀ x ∈ l, x.length = szT P e) → l.flatten.length = l.length * szT P e := fun l hl => flat_len l hl
  have hnlen : news.length = m0 * szT P e := by rw [← relL_len hnr, hflat _ hnewsz, hnl]
  have hone : ∀ {cs : List AC} {vs : List Value}, relL ι cs vs → ∀ u ∈ vs, u.oneCell' = true := by
    intro cs vs hr u hu
    obtain ⟨q, hq⟩ := List.getElem?_of_mem hu
    have hq' : q < cs.length := by rw [relL_len hr]; exact getElem?_lt hq
    obtain ⟨u', h6, h7⟩ := relL_get hr q cs[q] (by simp [hq'])
    rw [hq] at h6; injection h6 with h6; subst h6
    exact AC.rel_one h7
  -- the row
  have hrow : ∃ xs, relL ι (els.take n0).flatten xs ∧ w.ownsRow (baseOf r w.heap.size B) e (szT P e) v n0 xs ∧ (∀ x ∈ els.take n0, x.length = szT P e) ∧ (∀ x ∈ els.take n0, ∀ y ∈ x, y.ok H.length) ∧ (els.take n0).length = n0 := by
    cases r with
    | none =>
      obtain ⟨rfl, rfl⟩ := h1
      obtain ⟨_, rfl⟩ := hv
      exact ⟨[], by simp [relL], ⟨by simp, .inl ⟨rfl, rfl⟩⟩, by simp, by simp, by simp⟩
    | some p =>
      obtain ⟨i, k⟩ := p
      obtain ⟨rfl, hi, hle⟩ := h1
      obtain ⟨ad, rfl, h7, h8⟩ := hv
      have had := h8 (.inr rfl)
      obtain ⟨hL, hcap, cur, fr, hcur, hcells, hown⟩ := hs.obj i _ hi
      obtain ⟨rfl, hoff, hcs, hcm⟩ := hown rfl
      have hsc := hs.scope i _ hi
      have hsz' : ∀ x ∈ els.take n0, x.length = szT P e := fun x hx => (hsc x (List.mem_of_mem_take hx)).1
      have hln : (els.take n0).length = n0 := by rw [List.length_take]; omega
      have hfl : (els.take n0).flatten.length = n0 * szT P e := by rw [hflat _ hsz', hln]
      obtain ⟨xs, hx1, hx2⟩ := relL_build (els.take n0).flatten (fun j => cur[j]?) (fun j x hx => by
        have hjl := getElem?_lt hx
        rw [hfl] at hjl
        have hq : j / szT P e < n0 := Nat.div_lt_of_lt_mul (by rw [Nat.mul_comm]; exact hjl)
        have hr' : j % szT P e < szT P e := Nat.mod_lt _ hz
        have hjq : j / szT P e * szT P e + j % szT P e = j := by rw [Nat.mul_comm]; exact Nat.div_add_mod j _
        have hx1 : (els.take n0)[j / szT P e]? = some (els[j / szT P e]'(by omega)) := by
          rw [List.getElem?_take, if_pos hq, List.getElem?_eq_getElem (by omega)]
        have hx2 : (els[j / szT P e]'(by omega)).length = szT P e := (hsc _ (List.getElem_mem _)).1
        have hx3 := flat_get _ hsz' (j / szT P e) (j % szT P e) _ ((els[j / szT P e]'(by omega))[j % szT P e]'(by omega)) hx1 (List.getElem?_eq_getElem (by omega))
        rw [hjq, hx] at hx3
        injection hx3 with hx3
        obtain ⟨u, hu1, hu2⟩ := hcells (j / szT P e) _ (List.getElem?_eq_getElem (by omega)) (j % szT P e) _ (List.getElem?_eq_getElem (by omega))
        rw [hoff, Nat.zero_add, hjq] at hu1
        exact ⟨u, hu1, by rw [hx3]; exact hu2⟩)
      have hxl : xs.length = n0 * szT P e := by rw [← relL_len hx1, hfl]
      refine ⟨xs, hx1, ⟨hxl, .inr ⟨(ι i).block, (ι i).cap, cur, ?_, hs.base i _ hi rfl, hcur, by omega, hcm, hcs, ?_⟩⟩, hsz', fun x hx => (hsc x (List.mem_of_mem_take hx)).2, hln⟩
      · rw [had]; simp [Loc.at, hoff]
      · have hfit : n0 * szT P e ≤ cur.size := by rw [hcs]; exact Nat.mul_le_mul_right _ (by omega)
        apply List.ext_getElem?
        intro j
        rw [List.getElem?_take]
        by_cases hj : j < n0 * szT P e
        · rw [if_pos hj]
          have hxj := hx2 j xs[j] (List.getElem?_eq_getElem (by omega))
          rw [List.getElem?_eq_getElem (show j < xs.length by omega), ← hxj]
          simp
        · rw [if_neg hj, List.getElem?_eq_none (by omega)]
  obtain ⟨xs, hx1, hx2, hx3, hx4, hx5⟩ := hrow
  obtain ⟨v', w', hrun, hown', hg, _, hat⟩ := run_append_own_at (P := P) (w := w) (baseOf r w.heap.size B) t ty e inf zv (szT P e) (P.bytesOf e) (elemT_und he) hinf hzero' hsz hbt (by rw [← Array.length_toList, ← relL_len hzr, hzl]) hz v n0 xs hx2 ad2 m0 c2 news hnlen hnc (hone hnr) (by simp only [maxLen]; omega) hby (by cases r <;> simp [baseOf, hs.big])
  -- the heap without the elder row
  have hH : ∃ Hd : Hp, killA r H = Hd ∧ Hd.length = H.length ∧ Sim B w0 ι Hd w ∧ (∀ b, v.ownBlock = some b → B ≤ b ∧ (∀ o, ι.fz b o = none) ∧ ∀ (i : Nat) (o : AObj), Hd[i]? = some o → o.live = true → (ι i).block ≠ b) := by
    cases r with
    | none =>
      obtain ⟨_, rfl⟩ := hv
      exact ⟨H, rfl, rfl, hs, fun b hb => by simp [Value.ownBlock] at hb⟩
    | some p =>
      obtain ⟨i, k⟩ := p
      obtain ⟨rfl, hi, hle⟩ := h1
      obtain ⟨ad, rfl, h7, h8⟩ := hv
      have had := h8 (.inr rfl)
      refine ⟨H.set i .dead, rfl, by simp, hs.dead hi rfl, fun b hb => ?_⟩
      simp only [Value.ownBlock, Option.some.injEq] at hb
      subst hb
      rw [had]
      refine ⟨hs.base i _ hi rfl, hs.apart i _ hi rfl, fun j o hj hl => ?_⟩
      by_cases e : i = j
      · subst e
        rw [List.getElem?_set_self (getElem?_lt hi)] at hj
        injection hj with hj; subst hj; simp [AObj.live] at hl
      · rw [List.getElem?_set_ne e] at hj
        exact Ne.symm (hs.sep i j _ o e hi rfl hj hl)
  obtain ⟨Hd, hHd, hHl, hsd, hHb⟩ := hH
  have hsd' : Sim B w0 ι Hd w' := hsd.grownRow hg hHb
  have hcs : ((els.take n0 ++ new).flatten).length = (xs ++ news).length := by
    rw [List.flatten_append, relL_len (relL_append hx1 hnr)]
  rcases hown'.2 with ⟨_, h0⟩ | ⟨g, cap, cur, hv', hbg, hgc, hnc', hcm, hcsz, htk⟩
  · omega
  have hgB : B ≤ g ∧ (∀ o, ι.fz g o = none) ∧ ∀ (i : Nat) (o : AObj), Hd[i]? = some o → o.live = true → (ι i).block ≠ g := by
    rw [hv'] at hat
    simp only [Value.ownBlock, Option.some.injEq] at hat
    rcases hat with h0 | h0
    · exact hHb g h0.symm
    · rw [h0]
      refine ⟨hs.big, fun o => hs.fz_new (Nat.le_refl _) o, fun i o hi hl => ?_⟩
      have := AObj.holds_lt hl (hsd.obj i o hi)
      omega
  have hall : ∀ x ∈ els.take n0 ++ new, x.length = szT P e ∧ ∀ y ∈ x, y.ok H.length := by
    intro x hx
    rcases List.mem_append.1 hx with hx | hx
    · exact ⟨hx3 x hx, hx4 x hx⟩
    · exact ⟨hnewsz x hx, hnewok x hx⟩
  have hlen2 : (els.take n0 ++ new).length = n0 + m0 := by rw [List.length_append, hx5, hnl]
  have hrel2 : relL ι (els.take n0 ++ new).flatten (xs ++ news) := by rw [List.flatten_append]; exact relL_append hx1 hnr
  have hcell2 : ∀ (k : Nat) (x : List AC), (els.take n0 ++ new)[k]? = some x → ∀ (j : Nat) (y : AC), x[j]? = some y → ∃ u, cur[0 + (k * szT P e + j)]? = some u ∧ y.rel (upd ι Hd.length ⟨g, 0, szT P e, cap⟩) u := by
    intro k x hk j y hj
    obtain ⟨u, h7, h8⟩ := relL_get hrel2 (k * szT P e + j) y (flat_get _ (fun x hx => (hall x hx).1) k j x y hk hj)
    refine ⟨u, ?_, AC.rel_agree (upd_agree ι Hd.length _) (by rw [hHl]; exact (hall x (List.mem_of_getElem? hk)).2 y (List.mem_of_getElem? hj)) h8⟩
    rw [← htk, List.getElem?_take] at h7
    split at h7
    · rw [Nat.zero_add]; simpa using h7
    · cases h7
  have hfin := hsd'.add (.row e (szT P e) (els.take n0 ++ new) true) ⟨g, 0, szT P e, cap⟩ hgB.1 (fun _ => hgB.2.1) hgB.2.2 (by rw [hHl]; exact hall)
    ⟨rfl, by rw [hlen2]; exact hnc', cur, (0, 0), hgc, hcell2, fun _ => ⟨rfl, rfl, hcsz, hcm⟩⟩
  rw [hHd] at hK
  refine ⟨v', w', _, _, _, hrun, by rw [← hHl]; exact upd_agree _ _ _, by simp [hHl], hfin, ?_, ?_, hK⟩
  · rw [hv', ← hHl]
    exact ⟨⟨g, 0, none⟩, by rw [upd_same]; simp, by rw [upd_same]; simpa using hnc', fun _ => by rw [upd_same]; simp [Loc.at]⟩
  · show H.length < _
    simp [hHl]
end
end Go.Proofs.YtkmkkjlfnobciaaGreatDoor
