/- Functions over the plain heap: how a call begins and ends. No condition. -/
import Derived.Test.YtkmkkjlfnobciaaGreatDoorCoreLoop
namespace Go.Proofs.YtkmkkjlfnobciaaGreatDoor
open Go Go.RowKit
set_option linter.all false

/-! ### Other names for objects -/
def renP (σ : Nat → Nat) (p : Nat × Nat × Nat) : Nat × Nat × Nat := (σ p.1, p.2)
def AC.ren (σ : Nat → Nat) : AC → AC
  | .ptr (some p) => .ptr (some (renP σ p))
  | .sl (some p) n => .sl (some (σ p.1, p.2)) n
  | .map (some i) => .map (some (σ i))
  | .fn f fs cs => .fn f (fs.map (renP σ)) (cs.map (renP σ))
  | x => x
def AV.ren1 (σ : Nat → Nat) : AV → AV
  | .c x => .c (x.ren σ)
  | .agg cs => .agg (cs.map (AC.ren σ))
  | x => x
def AV.ren (σ : Nat → Nat) : AV → AV
  | .tup vs => .tup (vs.map (AV.ren1 σ))
  | x => x.ren1 σ
def AObj.ren (σ : Nat → Nat) : AObj → AObj
  | .row ty sz els own => .row ty sz (els.map fun e => e.map (AC.ren σ)) own
  | .map kt vt es => .map kt vt (es.map fun p => (p.1.ren σ, p.2.ren σ))
  | .dead => .dead
section
variable {P : Program} {B : Nat} {w0 w w' : World} {ι ι' ι0 : En} {H : Hp} {F : Fr} {a : Act} {N n m : Nat} {o : Oper} {σ : Nat → Nat}
def En.comp (ι : En) (σ : Nat → Nat) : En := ⟨fun i => ι (σ i), ι.fz⟩
theorem ptrOf_ren (p : Nat × Nat × Nat) : ptrOf ι (renP σ p) = ptrOf (ι.comp σ) p := rfl
theorem AC.rel_ren {x : AC} {v : Value} (h : (x.ren σ).rel ι v) : x.rel (ι.comp σ) v := by
  cases x with
  | ptr r => cases r <;> exact h
  | sl r k => cases r <;> exact h
  | map r => cases r <;> exact h
  | fn f fs cs =>
    simp only [AC.ren, AC.rel, List.map_map] at h ⊢
    exact h
  | _ => exact h
theorem relL_ren : ∀ {xs : List AC} {vs : List Value}, relL ι (xs.map (AC.ren σ)) vs → relL (ι.comp σ) xs vs
  | [], [], _ => trivial
  | [], _ :: _, h => h
  | _ :: _, [], h => h
  | _ :: _, _ :: _, h => ⟨AC.rel_ren h.1, relL_ren h.2⟩
theorem AV.rel1_ren {x : AV} {v : Value} (h : (x.ren1 σ).rel1 ι v) : x.rel1 (ι.comp σ) v := by
  cases x with
  | c x => exact AC.rel_ren h
  | agg cs => obtain ⟨vs, rfl, h2⟩ := h; exact ⟨vs, rfl, relL_ren h2⟩
  | any => trivial
  | tup ts => exact h
theorem rel1L_ren : ∀ {xs : List AV} {vs : List Value}, rel1L ι (xs.map (AV.ren1 σ)) vs → rel1L (ι.comp σ) xs vs
  | [], [], _ => trivial
  | [], _ :: _, h => h
  | _ :: _, [], h => h
  | _ :: _, _ :: _, h => ⟨AV.rel1_ren h.1, rel1L_ren h.2⟩
theorem AV.rel_ren {x : AV} {v : Value} (h : (x.ren σ).rel ι v) : x.rel (ι.comp σ) v := by
  cases x with
  | c x => exact AC.rel_ren h
  | agg cs => exact AV.rel1_ren (x := .agg cs) h
  | any => trivial
  | tup ts => obtain ⟨vs, rfl, h2⟩ := h; exact ⟨vs, rfl, rel1L_ren h2⟩
theorem AObj.holds_ren {ob : AObj} {L : Loc} (h : (ob.ren σ).holds ι w L) : ob.holds (ι.comp σ) w L := by
  cases ob with
  | dead => trivial
  | row ty sz els own =>
    obtain ⟨h1, h2, cur, fr, h3, h4, h5⟩ := h
    refine ⟨h1, by simpa using h2, cur, fr, h3, fun k e hk j x hj => ?_, h5⟩
    obtain ⟨u, h6, h7⟩ := h4 k (e.map (AC.ren σ)) (by simp [hk]) j (x.ren σ) (by simp [hj])
    exact ⟨u, h6, AC.rel_ren h7⟩
  | map kt vt es =>
    obtain ⟨en, cl, h3, h4, h5⟩ := h
    refine ⟨en, cl, h3, by simpa using h4, fun i p hp => ?_⟩
    obtain ⟨m, hm, h6, h7⟩ := h5 i (p.1.ren σ, p.2.ren σ) (by simp [hp])
    exact ⟨m, hm, AV.rel_ren h6, AV.rel_ren h7⟩
theorem AObj.owned_ren (ob : AObj) : (ob.ren σ).owned = ob.owned := by cases ob <;> rfl
theorem AObj.live_ren (ob : AObj) : (ob.ren σ).live = ob.live := by cases ob <;> rfl
/-- other names: those below m stay -/
theorem WkL.renL {H' : Hp} {vs vs' : List AV} (σ : Nat → Nat) (h1 : ∀ i, i < m → σ i = i) (h2 : m ≤ H'.length) (h3 : ∀ (i : Nat) (ob : AObj), H'[i]? = some ob → ob.live = true → H[σ i]? = some (ob.ren σ))
    (h4 : ∀ (i j : Nat) (o o' : AObj), H'[i]? = some o → o.live = true → H'[j]? = some o' → o'.live = true → σ i = σ j → i = j) (h5 : vs = vs'.map (AV.ren σ)) (h6 : ∀ x ∈ vs', x.ok H'.length) (h7 : HOk H') : WkL m vs H vs' H' := by
  subst h5
  intro B w0 ι w us hs hr _
  have hlo : ∀ q : AObj, q.owned = true → q.live = true := by intro q; cases q <;> simp [AObj.owned, AObj.live]
  refine ⟨ι.comp σ, ⟨fun i hi => ?_, fun _ _ _ h => h⟩, h2, ⟨hs.below, hs.big, h7, fun i ob hi => ?_, fun i j ob ob' hij hi ho hj hl => ?_, fun i ob hi ho => ?_, hs.froz, fun i ob hi ho => ?_⟩, ?_, h6⟩
  · show ι (σ i) = _
    rw [h1 i hi]
  · by_cases hl : ob.live = true
    · exact AObj.holds_ren (hs.obj (σ i) _ (h3 i ob hi hl))
    · cases ob <;> simp [AObj.live] at hl; trivial
  · exact hs.sep (σ i) (σ j) _ _ (fun e => hij (h4 i j _ _ hi (hlo ob ho) hj hl e)) (h3 i ob hi (hlo ob ho)) (by rw [AObj.owned_ren]; exact ho) (h3 j ob' hj hl) (by rw [AObj.live_ren]; exact hl)
  · exact hs.base (σ i) _ (h3 i ob hi (hlo ob ho)) (by rw [AObj.owned_ren]; exact ho)
  · exact hs.apart (σ i) _ (h3 i ob hi (hlo ob ho)) (by rw [AObj.owned_ren]; exact ho)
  · have key : ∀ (xs : List AV) (us : List Value), relAL ι (xs.map (AV.ren σ)) us → relAL (ι.comp σ) xs us := by
      intro xs
      induction xs with
      | nil => intro us h; cases us with | nil => trivial | cons _ _ => exact h.elim
      | cons x xs ih => intro us h; cases us with | nil => exact h.elim | cons u us => exact ⟨AV.rel_ren h.1, ih us h.2⟩
    exact key vs' us hr
theorem WkL.ren {H' : Hp} {vs vs' : List AV} (σ : Nat → Nat) (h1 : ∀ i, i < m → σ i = i) (h2 : m ≤ H'.length) (h3 : ∀ (i : Nat) (ob : AObj), H'[i]? = some ob → ob.live = true → H[σ i]? = some (ob.ren σ))
    (h4 : ∀ i j, i < H'.length → j < H'.length → σ i = σ j → i = j) (h5 : vs = vs'.map (AV.ren σ)) (h6 : ∀ x ∈ vs', x.ok H'.length) (h7 : HOk H') : WkL m vs H vs' H' :=
  WkL.renL σ h1 h2 h3 (fun i j _ _ hi _ hj _ => h4 i j (getElem?_lt hi) (getElem?_lt hj)) h5 h6 h7
/-- what is left at a call's end -/
def Ret (n : Nat) (v : AV) (H : Hp) (K : AV → Hp → Prop) : Prop := HOk H → v.ok H.length → ∃ (v' : AV) (H' : Hp), WkL n [v] H [v'] H' ∧ K v' H'
theorem Ret.sim {v : AV} {K : AV → Hp → Prop} {u : Value} (h : Ret n v H K) (hA : Agree n ι0 ι) (hs : Sim B w0 ι H w) (hr : v.rel ι u) (hv : v.ok H.length) :
    ∃ ι' av H', Agree n ι0 ι' ∧ n ≤ H'.length ∧ Sim B w0 ι' H' w ∧ AV.rel ι' av u ∧ av.ok H'.length ∧ K av H' := by
  obtain ⟨v', H', h1, h2⟩ := h hs.hok hv
  obtain ⟨ι', k1, k2, k3, k4, k5⟩ := h1 B w0 ι w [u] hs ⟨hr, trivial⟩ (by intro x hx; rw [List.mem_singleton] at hx; subst hx; exact hv)
  exact ⟨ι', v', H', hA.trans k1 (Nat.le_refl _), k2, k3, k4.1, k5 v' (by simp), h2⟩

/-! ### A call's beginning and end -/
def F0 (args : List AV) : Fr := fun t => match args[t]? with
  | some v => v
  | none => .tup []
def resM (e : Option (List AC)) (j : Nat) (ag : Bool) (sz : Nat) (i1 i2 : Bool) : Option AV := match e with
    | some e => if ag then (if i1 = true ∧ j + sz ≤ e.length then some (.agg ((e.drop j).take sz)) else none) else (if i2 = true then (e[j]?).map .c else none)
    | none => none
def resL (v : AV) (ag : Bool) (sz : Nat) (i1 i2 : Bool) (H : Hp) : Option AV := match v with
  | .c (.ptr (some (i, k, j))) => resM (elAt H i k) j ag sz i1 i2
  | _ => none
def resOne (P : Program) (F : Fr) (H : Hp) : ResultVar → Option AV
  | .tmp t => some (F t)
  | .cell x t => resL (F x) (aggT P t) (szT P t) (P.info? t).isSome (P.underlying t).isSome H
def resC (v : Option AV) (vs : Option (List AV)) : Option (List AV) := match v, vs with | some v, some vs => some (v :: vs) | _, _ => none
def resAll (P : Program) (F : Fr) (H : Hp) : List ResultVar → Option (List AV)
  | [] => some []
  | r :: rs => resC (resOne P F H r) (resAll P F H rs)
def resA (P : Program) (fn : Func) (F : Fr) (H : Hp) : Option AV :=
  match resAll P F H fn.results.toList with
  | some [v] => some v
  | some vs => if vs.all noTup then some (.tup vs) else none
  | none => none
theorem run_resOne {g : ResultVar → Sem Value} (hg1 : ∀ t, g (.tmp t) = pure (a.tmps.getD t undef)) (hg2 : ∀ x t, g (.cell x t) = (do loadVar t (← asAddr (a.tmps.getD x undef)))) {r : ResultVar} {v : AV} (hs : Sim B w0 ι H w) (hF : FOk N ι H.length F a) (h : resOne P F H r = some v) :
    ∃ u, (g r).run P w = .ok u w ∧ v.rel ι u ∧ v.ok H.length := by
  cases r with
  | tmp t =>
    rw [hg1]
    simp only [resOne, Option.some.injEq] at h
    subst h
    exact ⟨_, rfl, hF.rel t, hF.scope t⟩
  | cell x t =>
    rw [hg2]
    simp only [resOne, resL] at h
    split at h
    · rename_i i k j hx
      have hv : a.tmps.getD x undef = ptrOf ι (i, k, j) := by have := hF.rel x; rw [hx] at this; exact this
      unfold elAt at h
      split at h
      · rename_i ty sz els own hi
        cases hk : els[k]? with
        | none => rw [hk] at h; cases h
        | some e =>
          rw [hk] at h
          simp only [resM] at h
          have hsc := hs.scope i _ hi e (List.mem_of_getElem? hk)
          by_cases ht : aggT P t = true
          · rw [if_pos ht] at h
            split at h
            · rename_i hcond
              injection h with h
              subst h
              obtain ⟨vs, h4, h5⟩ := run_load_agg hs hi hk hcond.2 ht hcond.1
              refine ⟨.agg vs.toArray, ?_, ⟨vs, rfl, h5⟩, fun x hx => hsc.2 x (List.mem_of_mem_drop (List.mem_of_mem_take hx))⟩
              rw [hv]
              simp [ptrOf, asAddr, h4]
            · cases h
          · rw [if_neg ht] at h
            split at h
            · rename_i hu
              cases hj : e[j]? with
              | none => rw [hj] at h; cases h
              | some y =>
                rw [hj] at h
                simp only [Option.map_some, Option.some.injEq] at h
                subst h
                obtain ⟨u, h2, h3⟩ := run_load_c hs hi hk hj (by simpa using ht) hu
                refine ⟨u, ?_, h3, hsc.2 y (List.mem_of_getElem? hj)⟩
                rw [hv]
                simp [ptrOf, asAddr, h2]
            · cases h
      · simp only [resM] at h; cases h
    · cases h
theorem run_resAll {g : ResultVar → Sem Value} (hg1 : ∀ t, g (.tmp t) = pure (a.tmps.getD t undef)) (hg2 : ∀ x t, g (.cell x t) = (do loadVar t (← asAddr (a.tmps.getD x undef)))) (hs : Sim B w0 ι H w) (hF : FOk N ι H.length F a) : ∀ {rs : List ResultVar} {vs : List AV}, resAll P F H rs = some vs →
    ∃ us : List Value, (rs.mapM g).run P w = .ok us w ∧ us.length = vs.length ∧
      ∀ (i : Nat) (v : AV), vs[i]? = some v → ∃ u, us[i]? = some u ∧ v.rel ι u ∧ v.ok H.length
  | [], vs, h => by simp [resAll] at h; subst h; exact ⟨[], by simp, rfl, fun i v hi => by simp at hi⟩
  | r :: rs, vs, h => by
    unfold resAll resC at h
    split at h
    · rename_i v vs' h1 h2
      injection h with h
      subst h
      obtain ⟨u, h3, h4, h5⟩ := run_resOne hg1 hg2 hs hF h1
      obtain ⟨us, h6, h7, h8⟩ := run_resAll hg1 hg2 hs hF h2
      refine ⟨u :: us, ?_, by simp [h7], fun i x hx => ?_⟩
      · rw [List.mapM_cons, Sem.run_bind, h3]
        simp only [Result.andThen_ok, Sem.run_bind, h6, Sem.run_pure]
      · cases i with
        | zero => simp at hx; subst hx; exact ⟨u, rfl, h4, h5⟩
        | succ i => simp at hx; exact h8 i x hx
    · cases h
theorem rel1L_of {vs : List AV} {us : List Value} (hl : us.length = vs.length) (hno : vs.all noTup = true) (h : ∀ (i : Nat) (v : AV), vs[i]? = some v → ∃ u, us[i]? = some u ∧ v.rel ι u ∧ v.ok n) : rel1L ι vs us ∧ ∀ x ∈ vs, x.ok1 n := by
  induction vs generalizing us with
  | nil =>
    have : us = [] := List.eq_nil_of_length_eq_zero hl
    subst this
    exact ⟨trivial, by simp⟩
  | cons v vs ih =>
    cases us with
    | nil => simp at hl
    | cons u us =>
      simp only [List.all_cons, Bool.and_eq_true] at hno
      obtain ⟨u', h1, h2, h3⟩ := h 0 v rfl
      simp at h1
      subst h1
      obtain ⟨h4, h5⟩ := ih (us := us) (by simpa using hl) hno.2 (fun i x hx => by
        obtain ⟨u', h6, h7⟩ := h (i + 1) x (by simpa using hx)
        exact ⟨u', by simpa using h6, h7⟩)
      have e1 : v.rel1 ι u ∧ v.ok1 n := by
        cases v with
        | tup ts => simp [noTup] at hno
        | _ => exact ⟨h2, h3⟩
      exact ⟨⟨e1.1, h4⟩, fun x hx => by
        rcases List.mem_cons.1 hx with rfl | hx
        · exact e1.2
        · exact h5 x hx⟩
theorem run_resA {fn : Func} {v : AV} (hs : Sim B w0 ι H w) (hF : FOk N ι H.length F a) (h : resA P fn F H = some v) : ∃ u, (results fn a.tmps).run P w = .ok u w ∧ v.rel ι u ∧ v.ok H.length := by
  unfold resA at h
  cases hr : resAll P F H fn.results.toList with
  | none => rw [hr] at h; cases h
  | some vs =>
    rw [hr] at h
    obtain ⟨us, h1, h2, h3⟩ := run_resAll (g := fun | .tmp t => pure (a.tmps.getD t undef) | .cell x t => do loadVar t (← asAddr (a.tmps.getD x undef))) (fun _ => rfl) (fun _ _ => rfl) hs hF hr
    have hrun : (results fn a.tmps).run P w = .ok (if h : us.toArray.size = 1 then us.toArray[0] else .tuple us.toArray) w := by
      unfold results
      have e : fn.results = fn.results.toList.toArray := by simp
      rw [e, List.mapM_toArray, Sem.run_bind, Sem.run_map]
      have h1' := congrArg (fun r : Result (List Value) => (r.andThen fun l w' => Result.ok l.toArray w').andThen fun vs w' => (pure (if h : vs.size = 1 then vs[0] else .tuple vs) : Sem Value).run P w') h1
      exact h1'
    rw [hrun]
    match vs, h, h2, h3 with
    | [x], h, h2, h3 =>
      injection h with h
      subst h
      obtain ⟨u, h4, h5, h6⟩ := h3 0 x rfl
      match us, h2, h4 with
      | [u'], _, h4 =>
        simp at h4
        subst h4
        exact ⟨u', by simp, h5, h6⟩
    | [], h, h2, h3 =>
      have hv : v = .tup [] := by simpa using h.symm
      subst hv
      have : us = [] := List.eq_nil_of_length_eq_zero h2
      subst this
      exact ⟨_, rfl, ⟨[], by simp, trivial⟩, by intro x hx; cases hx⟩
    | x :: y :: zs, h, h2, h3 =>
      dsimp only at h
      split at h
      · rename_i hno
        injection h with h
        subst h
        obtain ⟨h4, h5⟩ := rel1L_of h2 hno h3
        refine ⟨_, rfl, ⟨us, ?_, h4⟩, h5⟩
        rw [dif_neg]
        simp at h2 ⊢
        omega
      · cases h
def aRet (P : Program) (fn : Func) (n : Nat) (K : AV → Hp → Prop) (F : Fr) (H : Hp) : Prop :=
  match resA P fn F H with
  | some v => Ret n v H K
  | none => False
def aEnd (P : Program) (fn : Func) (n : Nat) (K : AV → Hp → Prop) : AExit → Fr → Hp → Prop
  | .exit _, _, _ => False
  | _, F, H => aRet P fn n K F H
theorem f0_ok {args : List AV} {vs : Array Value} (hr : argsRel ι args vs) (ho : ∀ x ∈ args, x.ok1 n) (hN : args.length ≤ N) : FOk N ι n (F0 args) { tmps := vs ++ Array.replicate (N - vs.size) undef, defers := [] } := by
  have hlen : ∀ {xs : List AV} {us : List Value}, rel1L ι xs us → xs.length = us.length := by
    intro xs
    induction xs with
    | nil => intro us h; cases us with | nil => rfl | cons _ _ => exact h.elim
    | cons x xs ih => intro us h; cases us with | nil => exact h.elim | cons u us => simp [ih h.2]
  have hget : ∀ {xs : List AV} {us : List Value}, rel1L ι xs us → ∀ (j : Nat) (y : AV), xs[j]? = some y → ∃ u, us[j]? = some u ∧ y.rel1 ι u := by
    intro xs
    induction xs with
    | nil => intro us _ j y hy; simp at hy
    | cons x xs ih =>
      intro us hr j y hy
      cases us with
      | nil => exact hr.elim
      | cons u us =>
        cases j with
        | zero => simp at hy; subst hy; exact ⟨u, rfl, hr.1⟩
        | succ j => simp at hy; exact ih hr.2 j y hy
  have hl : args.length = vs.size := by rw [hlen hr]; simp
  refine ⟨by simp; omega, rfl, fun t => ?_, fun t => ?_⟩
  · unfold F0
    cases ht : args[t]? with
    | none =>
      have hge : vs.size ≤ t := by rw [← hl]; exact List.getElem?_eq_none_iff.1 ht
      have e : (vs ++ Array.replicate (N - vs.size) undef).getD t undef = undef := by
        rw [Array.getD_eq_getD_getElem?, Array.getElem?_append_right hge]
        by_cases h : t - vs.size < N - vs.size
        · simp [h]
        · simp [h]
      rw [e]; exact undef_rel
    | some y =>
      obtain ⟨u, h1, h2⟩ := hget hr t y ht
      have hlt : t < vs.size := by rw [← hl]; exact getElem?_lt ht
      have e : (vs ++ Array.replicate (N - vs.size) undef).getD t undef = u := by
        rw [Array.getD_eq_getD_getElem?, Array.getElem?_append_left hlt]
        simp only [Array.getElem?_toList] at h1
        rw [h1]; rfl
      rw [e]
      cases y with
      | tup ts => exact h2.elim
      | _ => exact h2
  · unfold F0
    cases ht : args[t]? with
    | none => intro x hx; cases hx
    | some y =>
      have h3 := ho y (List.mem_of_getElem? ht)
      obtain ⟨u, h1, h2⟩ := hget hr t y ht
      cases y with
      | tup ts => exact h2.elim
      | _ => exact h3
/-- A FUNCTION's CONTRACT OUT OF ITS BODY. -/
theorem acallsS {f : FuncId} {fn : Func} {c : Code} {args : List AV} {K : AV → Hp → Prop} (hf : P.funcs[f]? = some fn) (hb : fn.body = some c) (hN : args.length ≤ fn.ntmps)
    (h : HOk H → SWp P H.length fn.ntmps [] c (aEnd P fn H.length K) (F0 args) H) : ACalls P f args H K := by
  intro B w0 ι w vs hs hr ho
  refine calls_of_wp hf hb (wp_mono (h hs.hok B w0 ι ι _ w (Agree.refl _ _) (Nat.le_refl _) hs (f0_ok hr ho hN)) ?_)
  intro e a' w' he
  have fin : St B w0 ι H.length fn.ntmps (aRet P fn H.length K) a' w' → a'.defers = [] ∧ ∃ v, (results fn a'.tmps).run P w' = .ok v w' ∧ Done B w0 ι H.length K (.returned v) w' := by
    rintro ⟨ι', F', H', h1, h2, h3, h4, h5⟩
    refine ⟨h4.defers, ?_⟩
    unfold aRet at h5
    split at h5
    · rename_i v hv
      obtain ⟨u, h6, h7, h8⟩ := run_resA h3 h4 hv
      obtain ⟨ι2, av, H2, g1, g2, g3, g4, g5, g6⟩ := h5.sim h1 h3 h7 h8
      exact ⟨u, h6, ι2, u, av, H2, rfl, g1, g2, g3, g4, g5, g6⟩
    · exact h5.elim
  cases e with
  | normal => obtain ⟨ι', F', H', h1, h2, h3, h4, h5, _⟩ := he; exact fin ⟨ι', F', H', h1, h2, h3, h4, h5⟩
  | ret => obtain ⟨ι', F', H', h1, h2, h3, h4, h5, _⟩ := he; exact fin ⟨ι', F', H', h1, h2, h3, h4, h5⟩
  | exit id => obtain ⟨_, _, _, _, _, _, _, h5, _⟩ := he; exact h5.elim
  | _ => exact he.elim
theorem acalls {f : FuncId} {fn : Func} {c : Code} {args : List AV} {K : AV → Hp → Prop} (hf : P.funcs[f]? = some fn) (hb : fn.body = some c) (hc : codeOk fn.ntmps c = true) (hN : args.length ≤ fn.ntmps)
    (h : HOk H → AWp P H.length fn.ntmps [] c (aEnd P fn H.length K) (F0 args) H) : ACalls P f args H K := acallsS hf hb hN fun hH => SWp.of hc (h hH)
end
end Go.Proofs.YtkmkkjlfnobciaaGreatDoor
