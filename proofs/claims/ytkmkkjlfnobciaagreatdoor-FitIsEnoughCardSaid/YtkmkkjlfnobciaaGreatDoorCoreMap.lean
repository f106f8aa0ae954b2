/- Maps: what the operations on them do. No condition. -/
import Derived.Test.YtkmkkjlfnobciaaGreatDoorCoreSound2
namespace Go.Proofs.YtkmkkjlfnobciaaGreatDoor
open Go Go.RowKit
set_option linter.all false
section
variable {P : Program} {B : Nat} {w0 w w' : World} {ι ι' : En} {H : Hp} {F : Fr} {a : Act} {N n m : Nat} {Q : Exit → Act → World → Prop} {next : Act → World → Prop} {o : Oper} {K : AV → Hp → Prop}

theorem mapK_und {t k : TypeId} (h : mapK P t = some k) : ∃ e, P.underlying t = some (.map k e) := by
  unfold mapK at h
  split at h
  · rename_i k' e hu; injection h with h; subst h; exact ⟨e, hu⟩
  · cases h
theorem run_noAgg {t : TypeId} (h7 : aggT P t = false) (h4 : (P.underlying t).isSome = true) (w : World) : (isAgg t).run P w = .ok false w := by
  obtain ⟨d, hd⟩ := Option.isSome_iff_exists.1 h4
  unfold aggT at h7
  rw [hd] at h7
  unfold isAgg
  rw [Sem.run_bind, run_underlying hd]
  cases d <;> simp_all
theorem run_getObj_m {r : Nat} {es : Array MapEntry} {clock : Nat} (hb : w.heap[r]? = some (.map es clock)) : (getObj r).run P w = .ok (.map es clock) w := by simp [getObj, Sem.run, hb]
theorem flat_und {t : TypeId} (h : flatT P t = true) : ∃ d, P.underlying t = some d ∧ (d = .string ∨ d = .bool ∨ ∃ q, d = .int q) := by
  unfold flatT at h
  split at h
  · rename_i q hu; exact ⟨_, hu, .inr (.inr ⟨q, rfl⟩)⟩
  · rename_i hu; exact ⟨_, hu, .inl rfl⟩
  · rename_i hu; exact ⟨_, hu, .inr (.inl rfl)⟩
  · cases h
theorem flat_noagg {t : TypeId} (h : flatT P t = true) : aggT P t = false := by
  obtain ⟨d, hu, hd⟩ := flat_und h
  unfold aggT
  rw [hu]
  rcases hd with rfl | rfl | ⟨q, rfl⟩ <;> rfl
theorem run_checkFlat {t : TypeId} {b : Bool} {n : Nat} {v : Value} (h : flatT P t = true) (w : World) : (Instr.checkKey b (n + 1) t v).run P w = .ok () w := by
  obtain ⟨d, hu, hd⟩ := flat_und h
  rw [Instr.checkKey]
  rcases hd with rfl | rfl | ⟨q, rfl⟩ <;> simp [run_underlying hu]
theorem run_checkKey {kt : TypeId} {k : AV} {v : Value} {b : Bool} (hk : keyOk P kt k = true) (hr : k.rel ι v) (w : World) : (Instr.checkKey b 10000 kt v).run P w = .ok () w := by
  unfold keyOk at hk
  split at hk
  · rename_i fs cs hu
    obtain ⟨vs, rfl, hv⟩ := hr
    have hl := relL_len hv
    rw [Instr.checkKey]
    simp only [Sem.run_bind, run_underlying hu, Result.andThen_ok]
    rw [← Array.forIn_toList]
    have hall : ∀ f ∈ fs.toList, flatT P f.type = true ∧ f.offset < cs.length := by
      intro f hf
      have := Array.all_eq_true_iff_forall_mem.1 hk f (by simpa using hf)
      simp only [Bool.and_eq_true, decide_eq_true_eq] at this
      exact ⟨this.1.1, this.2⟩
    clear hk hu
    generalize fs.toList = L at hall
    induction L with
    | nil => simp
    | cons f l ih =>
      obtain ⟨h1, h2⟩ := hall f (by simp)
      obtain ⟨d, hu, _⟩ := flat_und h1
      have hg : f.offset < vs.length := by omega
      have hp : (part f.type vs.toArray f.offset).run P w = .ok vs[f.offset] w := by
        simp [part, run_noAgg (flat_noagg h1) (by simp [hu]), hg]
      rw [List.forIn_cons]
      have ih := ih (fun g hg => hall g (by simp [hg]))
      by_cases hn : f.name = "_"
      · simpa [hn] using ih
      · simpa [hn, hp, run_checkFlat h1] using ih
  · exact run_checkFlat hk w
/-! entries -/
def relEs (ι : En) : List (AV × AV) → List MapEntry → Prop
  | [], [] => True
  | p :: l, m :: ms => (p.1.rel ι m.key ∧ p.2.rel ι m.val) ∧ relEs ι l ms
  | _, _ => False
theorem relEs_of : ∀ (es : List (AV × AV)) (ms : List MapEntry), ms.length = es.length → (∀ (i : Nat) (p : AV × AV), es[i]? = some p → ∃ m, ms[i]? = some m ∧ p.1.rel ι m.key ∧ p.2.rel ι m.val) → relEs ι es ms
  | [], [], _, _ => trivial
  | [], m :: ms, h, _ => by simp at h
  | p :: l, [], h, _ => by simp at h
  | p :: l, m :: ms, h, hk => by
    obtain ⟨m', h1, h2⟩ := hk 0 p rfl
    simp at h1
    subst h1
    exact ⟨h2, relEs_of l ms (by simpa using h) fun i q hq => hk (i + 1) q hq⟩
theorem relEs_len : ∀ {es : List (AV × AV)} {ms : List MapEntry}, relEs ι es ms → ms.length = es.length
  | [], [], _ => rfl
  | [], _ :: _, h => h.elim
  | _ :: _, [], h => h.elim
  | p :: l, m :: ms, h => by simp [relEs_len h.2]
theorem relEs_get : ∀ {es : List (AV × AV)} {ms : List MapEntry}, relEs ι es ms → ∀ (i : Nat) (p : AV × AV), es[i]? = some p → ∃ m, ms[i]? = some m ∧ p.1.rel ι m.key ∧ p.2.rel ι m.val
  | [], _, _, i, p, hp => by simp at hp
  | _ :: _, [], h, _, _, _ => h.elim
  | q :: l, m :: ms, h, 0, p, hp => by simp at hp; subst hp; exact ⟨m, rfl, h.1⟩
  | q :: l, m :: ms, h, i + 1, p, hp => relEs_get h.2 i p hp
theorem ba_beq (a b : ByteArray) : (a == b) = decide (a.data.toList = b.data.toList) := by
  have e : (a == b) = (a.data == b.data) := rfl
  rw [e, Bool.eq_iff_iff, beq_iff_eq, decide_eq_true_eq]
  exact ⟨fun h => by rw [h], fun h => Array.toList_inj.1 h⟩
theorem keyEq_spec {kt : TypeId} {d : TypeDesc} {k x : AV} {kv xv : Value} {r : Bool} (hu : P.underlying kt = some d) (ht : keyT P kt k = true) (hk : k.rel ι kv) (hx : x.rel ι xv) (h : keyEq k x = some r) :
    Instr.sameNow d kv xv = some r ∧ (r = true → xv = kv ∧ Instr.sameBits 10000 xv kv = true) := by
  unfold keyEq at h
  split at h
  · rename_i a b
    have hk : kv = .string a := hk
    have hx : xv = .string b := hx
    subst hk hx
    have hd : d = .string := by
      unfold keyT at ht
      simp only [hu] at ht
      split at ht
      · rename_i e; injection e
      · cases ht
    subst hd
    injection h with h
    subst h
    refine ⟨?_, fun hr => ?_⟩
    · simp only [Instr.sameNow, Option.some.injEq, ba_beq]
    · have e := of_decide_eq_true hr
      have : a = b := by
        cases a; cases b; exact congrArg ByteArray.mk (Array.toList_inj.1 e)
      subst this
      exact ⟨rfl, by simp [Instr.sameBits, ba_beq]⟩
  · rename_i q z q' z'
    have hk : kv = .int q z := hk
    have hx : xv = .int q' z' := hx
    subst hk hx
    split at h
    · rename_i hq
      subst hq
      injection h with h
      subst h
      have hd : ∃ q0, d = .int q0 := by
        unfold keyT at ht
        simp only [hu] at ht
        split at ht
        · rename_i q0 e; injection e with e; exact ⟨q0, e⟩
        · cases ht
      obtain ⟨q0, rfl⟩ := hd
      refine ⟨by simp only [Instr.sameNow, if_true, Option.some.injEq]; rw [Bool.eq_iff_iff, beq_iff_eq, decide_eq_true_eq], fun hr => ?_⟩
      have e := of_decide_eq_true hr
      subst e
      exact ⟨rfl, by simp [Instr.sameBits]⟩
    · cases h
  · cases h
theorem findNow_a {kt : TypeId} {d : TypeDesc} {k : AV} {kv : Value} (hu : P.underlying kt = some d) (ht : keyT P kt k = true) (hk : k.rel ι kv) : ∀ (es : List (AV × AV)) (ms : List MapEntry) (i : Nat) (r : Option Nat), relEs ι es ms → findA k es = some r →
    ∃ r', Instr.findNow d kv ms i = some r' ∧ (match r with
      | none => r' = none
      | some j => ∃ m, ms[j]? = some m ∧ r' = some (i + j, m.val) ∧ m.key = kv ∧ Instr.sameBits 10000 m.key kv = true)
  | [], [], i, r, _, h => by simp only [findA] at h; injection h with h; subst h; exact ⟨none, rfl, rfl⟩
  | [], _ :: _, _, _, h, _ => h.elim
  | _ :: _, [], _, _, h, _ => h.elim
  | p :: l, m :: ms, i, r, hr, h => by
    simp only [findA] at h
    split at h
    · rename_i hq
      injection h with h
      subst h
      obtain ⟨h1, h2⟩ := keyEq_spec (P := P) hu ht hk hr.1.1 hq
      obtain ⟨h3, h4⟩ := h2 rfl
      refine ⟨some (i, m.val), ?_, m, rfl, rfl, h3, h4⟩
      simp [Instr.findNow, h1]
    · rename_i hq
      obtain ⟨h1, _⟩ := keyEq_spec (P := P) hu ht hk hr.1.1 hq
      cases hf : findA k l with
      | none => rw [hf] at h; cases h
      | some r0 =>
        rw [hf] at h
        simp only [Option.map_some, Option.some.injEq] at h
        subst h
        obtain ⟨r', h2, h3⟩ := findNow_a hu ht hk l ms (i + 1) r0 hr.2 hf
        refine ⟨r', by simp [Instr.findNow, h1, h2], ?_⟩
        cases r0 with
        | none => exact h3
        | some j =>
          obtain ⟨m', g1, g2, g3⟩ := h3
          exact ⟨m', g1, by rw [g2, show i + 1 + j = i + (j + 1) by omega], g3⟩
    · cases h
theorem keyT_und {kt : TypeId} {k : AV} (h : keyT P kt k = true) : ∃ d, P.underlying kt = some d := by
  unfold keyT at h
  split at h
  · split at h
    · rename_i e; exact ⟨_, e⟩
    · cases h
  · split at h
    · rename_i e; exact ⟨_, e⟩
    · cases h
  · cases h
theorem run_findNil {kt : TypeId} {kv : Value} {d : TypeDesc} (hu : P.underlying kt = some d) (w : World) : (Instr.findKey kt kv []).run P w = .ok none w := by
  simp [Instr.findKey, run_underlying hu, Instr.findNow]
theorem keyOk_und {kt : TypeId} {k : AV} (h : keyOk P kt k = true) : ∃ d, P.underlying kt = some d := by
  unfold keyOk at h
  split at h
  · rename_i e; exact ⟨_, e⟩
  · obtain ⟨d, hd, _⟩ := flat_und h; exact ⟨d, hd⟩
theorem zeroA_rel {t : TypeId} {av : AV} (h : zeroA P t = some av) (ι : En) : ∃ z, (P.info? t).bind (·.zero) = some z ∧ av.rel ι z ∧ ∀ n, av.ok n := by
  unfold zeroA at h
  split at h
  · rename_i vs hz
    cases hc : zeroT P t with
    | none => rw [hc] at h; cases h
    | some cs =>
      rw [hc] at h
      simp only [Option.map_some, Option.some.injEq] at h
      subst h
      obtain ⟨z, h1, h2, h3⟩ := zeroT_rel hc ι
      rw [hz] at h1
      injection h1 with h1
      subst h1
      exact ⟨_, hz, ⟨vs.toList, by simp, h2⟩, fun n x hx => h3 n x hx⟩
  · rename_i v hv hz
    cases hc : ofVal v with
    | none => rw [hc] at h; cases h
    | some x =>
      rw [hc] at h
      simp only [Option.map_some, Option.some.injEq] at h
      subst h
      exact ⟨v, hz, ofVal_rel hc, fun n => ofVal_ok hc n⟩
  · cases h
/-! the operations -/
theorem runK_makeMap {t : TypeId} (hs : Sim B w0 ι H w) (hk : K (.c (.map (some H.length))) (H ++ [.map 0 0 []])) : RunK P B w0 ι H.length K (Instr.makeMap t none) w := by
  refine ⟨.map (some w.heap.size), w.alloc (.map #[] 0), upd ι H.length ⟨w.heap.size, 0, 0, 0⟩, .c (.map (some H.length)), _, rfl, upd_agree _ _ _, by simp, hs.new (.map #[] 0) (.map 0 0 []) _ rfl (by intro p hp; simp at hp) ⟨#[], 0, heap_alloc_new w _, rfl, by simp⟩, ?_, by simp [AV.ok, AV.ok1, AC.ok], hk⟩
  show Value.map (some w.heap.size) = .map (some (upd ι H.length ⟨w.heap.size, 0, 0, 0⟩ H.length).block)
  rw [upd_same]
theorem map_obj (hs : Sim B w0 ι H w) {i kt vt : Nat} {es : List (AV × AV)} (hi : H[i]? = some (.map kt vt es)) : ∃ entries clock, w.heap[(ι i).block]? = some (.map entries clock) ∧ entries.size = es.length ∧ relEs ι es entries.toList := by
  obtain ⟨entries, clock, hb, hsz, hent⟩ := hs.obj i _ hi
  exact ⟨entries, clock, hb, hsz, relEs_of es entries.toList (by simpa using hsz) fun q p hq => by simpa using hent q p hq⟩
theorem run_findKey {kt : TypeId} {k : AV} {kv : Value} {es : List (AV × AV)} {ms : List MapEntry} {r : Option Nat} (ht : keyT P kt k = true) (rk : k.rel ι kv) (hr : relEs ι es ms) (hf : findA k es = some r) (w : World) :
    ∃ r', (Instr.findKey kt kv ms).run P w = .ok r' w ∧ (match r with
      | none => r' = none
      | some j => ∃ m, ms[j]? = some m ∧ r' = some (j, m.val) ∧ m.key = kv ∧ Instr.sameBits 10000 m.key kv = true) := by
  obtain ⟨d, hu⟩ := keyT_und ht
  obtain ⟨r', h1, h2⟩ := findNow_a hu ht rk es ms 0 r hr hf
  refine ⟨r', by simp [Instr.findKey, run_underlying hu, h1], ?_⟩
  cases r with
  | none => exact h2
  | some j => obtain ⟨m, g1, g2, g3⟩ := h2; exact ⟨m, g1, by simpa using g2, g3⟩
theorem run_mapUp {t kt e i x y : Nat} {es es' : List (AV × AV)} {k v : AV} {kv vv : Value} (hs : Sim B w0 ι H w) (hi : H[i]? = some (.map x y es)) (hu : P.underlying t = some (.map kt e)) (hk : keyOk P kt k = true)
    (hp : mapPut P kt k v es = some es') (rk : k.rel ι kv) (rv : v.rel ι vv) (ok : k.ok H.length) (ov : v.ok H.length) :
    ∃ w', (Instr.mapUpdate t (.map (some (ι i).block)) kv vv).run P w = .ok () w' ∧ Sim B w0 ι (H.set i (.map x y es')) w' := by
  obtain ⟨entries, clock, hb, hsz, hr⟩ := map_obj hs hi
  have hfind : ∃ r, (Instr.findKey kt kv entries.toList).run P w = .ok r w ∧ ((r = none ∧ es' = es ++ [(k, v)]) ∨ ∃ j m, r = some (j, m.val) ∧ entries[j]? = some m ∧ m.key = kv ∧ Instr.sameBits 10000 m.key kv = true ∧ es' = es.set j (k, v)) := by
    unfold mapPut at hp
    split at hp
    · injection hp with hp
      have : entries.toList = [] := by
        cases h : entries.toList with
        | nil => rfl
        | cons m ms => rw [h] at hr; exact hr.elim
      obtain ⟨d, hd⟩ := keyOk_und hk
      rw [this]
      exact ⟨none, run_findNil hd w, .inl ⟨rfl, hp.symm⟩⟩
    · split at hp
      · rename_i ht
        split at hp
        · rename_i j hf
          injection hp with hp
          obtain ⟨r', h1, m, h2, h3, h4, h5⟩ := run_findKey (P := P) ht rk hr hf w
          exact ⟨r', h1, .inr ⟨j, m, h3, by simpa using h2, h4, h5, hp.symm⟩⟩
        · rename_i hf
          injection hp with hp
          obtain ⟨r', h1, h2⟩ := run_findKey (P := P) ht rk hr hf w
          exact ⟨r', h1, .inl ⟨h2, hp.symm⟩⟩
        · cases hp
      · cases hp
  have hlt : (ι i).block < w.heap.size := (Array.getElem?_eq_some_iff.1 hb).1
  have hset : ∀ (ents : Array MapEntry) (cl : Nat), ents.size = es'.length → relEs ι es' ents.toList → (∀ p : AV × AV, p ∈ es' → p.1.ok H.length ∧ p.2.ok H.length) →
      Sim B w0 ι (H.set i (.map x y es')) { w with heap := w.heap.setIfInBounds (ι i).block (.map ents cl) } := by
    intro ents cl h1 h2 h3
    refine hs.set hi rfl (fun q hq => by simp [Array.getElem?_setIfInBounds, Ne.symm hq]) (by simp) rfl rfl rfl h3 ⟨ents, cl, by simp [hlt], h1, fun q p hq => ?_⟩
    simpa using relEs_get h2 q p hq
  have hok := hs.scope i _ hi
  obtain ⟨r, hrun, ⟨rfl, rfl⟩ | ⟨j, m, rfl, hm, hkey, hsb, rfl⟩⟩ := hfind
  · refine ⟨_, ?_, hset (entries.push ⟨kv, vv, clock⟩) (clock + 1) (by simp [hsz]) ?_ ?_⟩
    · simp [Instr.mapUpdate, run_underlying hu, run_getObj_m hb, run_checkKey hk rk, hrun, setObj, Sem.run, hb]
    · rw [Array.toList_push]
      refine relEs_of _ _ (by simp [hsz]) fun q p hq => ?_
      rcases Nat.lt_or_ge q es.length with hl | hl
      · rw [List.getElem?_append_left hl] at hq
        rw [List.getElem?_append_left (by simpa [hsz] using hl)]
        exact relEs_get hr q p hq
      · rw [List.getElem?_append_right hl] at hq
        have hq0 : q = es.length := by have := getElem?_lt hq; simp at this; omega
        subst hq0
        simp at hq
        subst hq
        exact ⟨⟨kv, vv, clock⟩, by rw [List.getElem?_append_right (by simp [hsz])]; simp [hsz], rk, rv⟩
    · intro p hp
      rcases List.mem_append.1 hp with hp | hp
      · exact hok p hp
      · simp at hp; subst hp; exact ⟨ok, ov⟩
  · have hjl : j < entries.size := (Array.getElem?_eq_some_iff.1 hm).1
    refine ⟨_, ?_, hset (entries.modify j fun e => { e with key := kv, val := vv }) clock (by simp [hsz]) ?_ ?_⟩
    · simp [Instr.mapUpdate, run_underlying hu, run_getObj_m hb, run_checkKey hk rk, hrun, hm, Instr.keyThatStays, hsb, setObj, Sem.run, hb]
    · refine relEs_of _ _ (by simp [hsz]) fun q p hq => ?_
      by_cases e : j = q
      · subst e
        rw [List.getElem?_set_self (by omega)] at hq
        injection hq with hq
        subst hq
        exact ⟨{ m with key := kv, val := vv }, by simp [Array.getElem?_modify, hm], rk, rv⟩
      · rw [List.getElem?_set_ne e] at hq
        obtain ⟨m', g1, g2⟩ := relEs_get hr q p hq
        exact ⟨m', by simpa [Array.getElem?_modify, e] using g1, g2⟩
    · intro p hp
      rcases List.mem_or_eq_of_mem_set hp with hp | rfl
      · exact hok p hp
      · exact ⟨ok, ov⟩
theorem run_look {t kt : TypeId} {z : Option AV} {k v : AV} {mv kv : Value} {b ok : Bool} {es : List (AV × AV)} {ms : Array MapEntry} (hs : Sim B w0 ι H w) (hu : ∃ e, P.underlying t = some (.map kt e) ∧ z = zeroA P e)
    (hm : (mv = .map none ∧ ms = #[]) ∨ ∃ r clock, mv = .map (some r) ∧ w.heap[r]? = some (.map ms clock)) (hr : relEs ι es ms.toList) (hok : ∀ p : AV × AV, p ∈ es → p.1.ok H.length ∧ p.2.ok H.length)
    (hk : keyOk P kt k = true) (rk : k.rel ι kv) (hg : mapGet P kt k z es = some (v, b)) (hv : noTup v = true) (hK : K (bif ok then .tup [v, .c (.bool b)] else v) H) :
    RunK P B w0 ι H.length K (Instr.lookup t mv kv ok) w := by
  obtain ⟨e, hu, rfl⟩ := hu
  have hfind : ∃ r u, (Instr.findKey kt kv ms.toList).run P w = .ok r w ∧ v.rel ι u ∧ v.ok H.length ∧ ((r = none ∧ b = false ∧ (zeroValue e).run P w = .ok u w) ∨ ∃ j, r = some (j, u) ∧ b = true) := by
    have zero : ∀ {z}, zeroA P e = some z → v = z → ∃ u, v.rel ι u ∧ v.ok H.length ∧ (zeroValue e).run P w = .ok u w := by
      intro z hz h1
      subst h1
      obtain ⟨zv, h2, h3, h4⟩ := zeroA_rel hz ι
      exact ⟨zv, h3, h4 _, run_zeroValue h2 w⟩
    unfold mapGet at hg
    split at hg
    · have : ms.toList = [] := by
        cases h : ms.toList with
        | nil => rfl
        | cons m l => rw [h] at hr; exact hr.elim
      obtain ⟨d, hd⟩ := keyOk_und hk
      cases hz : zeroA P e with
      | none => rw [hz] at hg; cases hg
      | some z0 =>
        rw [hz] at hg
        simp only [Option.map_some, Option.some.injEq, Prod.mk.injEq] at hg
        obtain ⟨u, h1, h2, h3⟩ := zero hz hg.1.symm
        exact ⟨none, u, by rw [this]; exact run_findNil hd w, h1, h2, .inl ⟨rfl, hg.2.symm, h3⟩⟩
    · split at hg
      · rename_i ht
        split at hg
        · rename_i j hf
          obtain ⟨r', h1, m, h2, h3, h4, h5⟩ := run_findKey (P := P) ht rk hr hf w
          cases hj : es[j]? with
          | none => rw [hj] at hg; cases hg
          | some p =>
            rw [hj] at hg
            simp only [Option.map_some, Option.some.injEq, Prod.mk.injEq] at hg
            obtain ⟨m', g1, g2, g3⟩ := relEs_get hr j p hj
            rw [h2] at g1
            injection g1 with g1
            subst g1
            refine ⟨r', m.val, h1, by rw [← hg.1]; exact g3, by rw [← hg.1]; exact (hok p (List.mem_of_getElem? hj)).2, .inr ⟨j, h3, hg.2.symm⟩⟩
        · rename_i hf
          obtain ⟨r', h1, h2⟩ := run_findKey (P := P) ht rk hr hf w
          cases hz : zeroA P e with
          | none => rw [hz] at hg; cases hg
          | some z0 =>
            rw [hz] at hg
            simp only [Option.map_some, Option.some.injEq, Prod.mk.injEq] at hg
            obtain ⟨u, g1, g2, g3⟩ := zero hz hg.1.symm
            exact ⟨r', u, h1, g1, g2, .inl ⟨h2, hg.2.symm, g3⟩⟩
        · cases hg
      · cases hg
  obtain ⟨r, u, h1, h2, h3, h4⟩ := hfind
  have hrun : (Instr.lookup t mv kv ok).run P w = .ok (if ok = true then .tuple #[u, .bool b] else u) w := by
    rcases hm with ⟨rfl, rfl⟩ | ⟨rr, clock, rfl, hb⟩
    · rcases h4 with ⟨rfl, rfl, hz⟩ | ⟨j, rfl, rfl⟩ <;> cases ok <;> simp_all [Instr.lookup, run_underlying hu, run_checkKey hk rk]
    · rcases h4 with ⟨rfl, rfl, hz⟩ | ⟨j, rfl, rfl⟩ <;> cases ok <;> simp_all [Instr.lookup, run_underlying hu, run_checkKey hk rk, run_getObj_m hb]
  have hv1 : v.rel1 ι u := by cases v <;> first | exact h2 | cases hv
  have hv2 : v.ok1 H.length := by cases v <;> first | exact h3 | cases hv
  cases ok with
  | false => exact runK_same hs hrun h2 h3 hK
  | true => exact runK_same (v := .tuple #[u, .bool b]) (av := .tup [v, .c (.bool b)]) hs hrun ⟨[u, .bool b], rfl, hv1, rfl, trivial⟩ (by intro q hq; simp at hq; rcases hq with rfl | rfl; exact hv2; trivial) hK
end
end Go.Proofs.YtkmkkjlfnobciaaGreatDoor
