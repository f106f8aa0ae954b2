/- Several texts in one: Maps: what the operations on them do, and what follows. No condition. -/
import Derived.Test.YtagoolooikpabaaGreatDoorHCoreA
import Derived.Maps.RangeRun
import Derived.Laws.IdiomStrings
import Derived.Laws.BytesArg
import Derived.Lib.ConvBytes
import Derived.Tactics
import Derived.TacticsIn
import Derived.OrdersIn
set_option linter.all false
namespace Go.Proofs.YtagoolooikpabaaGreatDoor
open Go Go.RowKit
section
variable {P : Program} {B : Nat → Prop} {rr : Option Nat} {dd : List Deferred} {w0 w w' : World} {ι ι' : En} {H : Hp} {F : Fr} {a : Act} {N n m : Nat} {Q : Exit → Act → World → Prop} {next : Act → World → Prop} {o : Oper} {K : AV → Hp → Prop}
theorem mapK_und {t k : TypeId} (h : mapK P t = some k) : ∃ e, P.underlying t = some (.map k e) := by
 unfold mapK at h
 split at h
 ·rename_i k' e hu; injection h with h; subst h; exact ⟨e, hu⟩
 ·cases h
theorem run_noAgg {t : TypeId} (h7 : aggT P t = false) (h4 : (P.underlying t).isSome = true) (w : World) : (isAgg t).run P w = .ok false w := by
 obtain ⟨d, hd⟩ := Option.isSome_iff_exists.1 h4
 unfold aggT at h7
 rw [hd] at h7
 unfold isAgg
 rw [Sem.run_bind, run_underlying hd]
 cases d <;> simp_all
theorem run_getObj_m {r : Nat} {es : Array MapEntry} {clock : Nat} (hb : w.heap[r]? = some (.map es clock)) : (getObj r).run P w = .ok (.map es clock) w := by simp [getObj, Sem.run, hb]
theorem flat_und {t : TypeId} (h : flatT P t = true) : ∃ d, P.underlying t = some d ∧ (d = .string ∨ d = .bool ∨ ∃ q, d = .int q) := by
 unfold flatT at h
 split at h
 ·rename_i q hu; exact ⟨_, hu, .inr (.inr ⟨q, rfl⟩)⟩
 ·rename_i hu; exact ⟨_, hu, .inl rfl⟩
 ·rename_i hu; exact ⟨_, hu, .inr (.inl rfl)⟩
 ·cases h
theorem flat_noagg {t : TypeId} (h : flatT P t = true) : aggT P t = false := by
 obtain ⟨d, hu, hd⟩ := flat_und h
 unfold aggT
 rw [hu]
 rcases hd with rfl | rfl | ⟨q, rfl⟩ <;> rfl
theorem run_checkFlat {t : TypeId} {b : Bool} {n : Nat} {v : Value} (h : flatT P t = true) (w : World) : (Instr.checkKey b (n + 1) t v).run P w = .ok () w := by
 obtain ⟨d, hu, hd⟩ := flat_und h
 rw [Instr.checkKey]
 rcases hd with rfl | rfl | ⟨q, rfl⟩ <;> simp [run_underlying hu]
theorem run_checkKey {kt : TypeId} {k : AV} {v : Value} {b : Bool} (hk : keyOk P kt k = true) (hr : k.rel ι v) (w : World) : (Instr.checkKey b 10000 kt v).run P w = .ok () w := by
 unfold keyOk at hk
 split at hk
 ·rename_i fs cs hu
  obtain ⟨vs, rfl, hv⟩ := hr
  have hl := relL_len hv
  rw [Instr.checkKey]
  simp only [Sem.run_bind, run_underlying hu, Result.andThen_ok]
  rw [← Array.forIn_toList]
  have hall : ∀ f ∈ fs.toList, flatT P f.type = true ∧ f.offset < cs.length := by
   intro f hf
   have := Array.all_eq_true_iff_forall_mem.1 hk f (by simpa using hf)
   simp only [Bool.and_eq_true, decide_eq_true_eq] at this
   exact ⟨this.1.1, this.2⟩
  clear hk hu
  generalize fs.toList = L at hall
  induction L with
  | nil => simp
  | cons f l ih =>
   obtain ⟨h1, h2⟩ := hall f sMp
   obtain ⟨d, hu, _⟩ := flat_und h1
   have hg : f.offset < vs.length := by omega
   have hp : (part f.type vs.toArray f.offset).run P w = .ok vs[f.offset] w := by
    simp [part, run_noAgg (flat_noagg h1) (by simp [hu]), hg]
   rw [List.forIn_cons]
   have ih := ih (fun g hg => hall g (by simp [hg]))
   by_cases hn : f.name = "_"
   ·simpa [hn] using ih
   ·simpa [hn, hp, run_checkFlat h1] using ih
 ·exact run_checkFlat hk w
/-! entries -/
def relEs (ι : En) : List (AV × AV) → List MapEntry → Prop
 | [], [] => True
 | p :: l, m :: ms => (p.1.rel ι m.key ∧ p.2.rel ι m.val) ∧ relEs ι l ms
 | _, _ => False
theorem relEs_of : ∀ (es : List (AV × AV)) (ms : List MapEntry), ms.length = es.length → (∀ (i : Nat) (p : AV × AV), es[i]? = some p → ∃ m, ms[i]? = some m ∧ p.1.rel ι m.key ∧ p.2.rel ι m.val) → relEs ι es ms
 | [], [], _, _ => trivial
 | [], m :: ms, h, _ => by simp at h
 | p :: l, [], h, _ => by simp at h
 | p :: l, m :: ms, h, hk => by
  obtain ⟨m', h1, h2⟩ := hk 0 p rfl
  simp at h1
  subst h1
  exact ⟨h2, relEs_of l ms (by simpa using h) fun i q hq => hk (i + 1) q hq⟩
theorem relEs_get : ∀ {es : List (AV × AV)} {ms : List MapEntry}, relEs ι es ms → ∀ (i : Nat) (p : AV × AV), es[i]? = some p → ∃ m, ms[i]? = some m ∧ p.1.rel ι m.key ∧ p.2.rel ι m.val
 | [], _, _, i, p, hp => by simp at hp
 | _ :: _, [], h, _, _, _ => h.elim
 | q :: l, m :: ms, h, 0, p, hp => by simp at hp; subst hp; exact ⟨m, rfl, h.1⟩
 | q :: l, m :: ms, h, i + 1, p, hp => relEs_get h.2 i p hp
theorem ba_beq (a b : ByteArray) : (a == b) = decide (a.data.toList = b.data.toList) := by
 have e : (a == b) = (a.data == b.data) := rfl
 rw [e, Bool.eq_iff_iff, beq_iff_eq, decide_eq_true_eq]
 exact ⟨fun h => by rw [h], fun h => Array.toList_inj.1 h⟩
theorem keyEq_spec {kt : TypeId} {d : TypeDesc} {k x : AV} {kv xv : Value} {r : Bool} (hu : P.underlying kt = some d) (ht : keyT0 P kt k = true) (hk : k.rel ι kv) (hx : x.rel ι xv) (h : keyEq k x = some r) :
  Instr.sameNow d kv xv = some r ∧ (r = true → xv = kv ∧ Instr.sameBits 10000 xv kv = true) := by
 unfold keyEq at h
 split at h
 ·rename_i a b
  have hk : kv = .string a := hk
  have hx : xv = .string b := hx
  subst hk hx
  have hd : d = .string := by
   unfold keyT0 at ht
   simp only [hu] at ht
   split at ht
   ·rename_i e; injection e
   ·cases ht
  subst hd
  injection h with h
  subst h
  refine ⟨?_, fun hr => ?_⟩
  ·simp only [Instr.sameNow, Option.some.injEq, ba_beq]
  ·have e := of_decide_eq_true hr
   have : a = b := by
    cases a; cases b; exact congrArg ByteArray.mk (Array.toList_inj.1 e)
   subst this
   exact ⟨rfl, by simp [Instr.sameBits, ba_beq]⟩
 ·rename_i q z q' z'
  have hk : kv = .int q z := hk
  have hx : xv = .int q' z' := hx
  subst hk hx
  split at h
  ·rename_i hq
   subst hq
   injection h with h
   subst h
   have hd : ∃ q0, d = .int q0 := by
    unfold keyT0 at ht
    simp only [hu] at ht
    split at ht
    ·rename_i q0 e; injection e with e; exact ⟨q0, e⟩
    ·cases ht
   obtain ⟨q0, rfl⟩ := hd
   refine ⟨by simp only [Instr.sameNow, if_true, Option.some.injEq]; rw [Bool.eq_iff_iff, beq_iff_eq, decide_eq_true_eq], fun hr => ?_⟩
   have e := of_decide_eq_true hr
   subst e
   exact ⟨rfl, by simp [Instr.sameBits]⟩
  ·cases h
 ·cases h
theorem findNow_a {kt : TypeId} {d : TypeDesc} {k : AV} {kv : Value} (hu : P.underlying kt = some d) (ht : keyT0 P kt k = true) (hk : k.rel ι kv) : ∀ (es : List (AV × AV)) (ms : List MapEntry) (i : Nat) (r : Option Nat), relEs ι es ms → findA0 k es = some r →
  ∃ r', Instr.findNow d kv ms i = some r' ∧ (match r with
   | none => r' = none
   | some j => ∃ m, ms[j]? = some m ∧ r' = some (i + j, m.val) ∧ m.key = kv ∧ Instr.sameBits 10000 m.key kv = true)
 | [], [], i, r, _, h => by simp only [findA0] at h; injection h with h; subst h; exact ⟨none, rfl, rfl⟩
 | [], _ :: _, _, _, h, _ => h.elim
 | _ :: _, [], _, _, h, _ => h.elim
 | p :: l, m :: ms, i, r, hr, h => by
  simp only [findA0] at h
  split at h
  ·rename_i hq
   injection h with h
   subst h
   obtain ⟨h1, h2⟩ := keyEq_spec (P := P) hu ht hk hr.1.1 hq
   obtain ⟨h3, h4⟩ := h2 rfl
   refine ⟨some (i, m.val), ?_, m, rfl, rfl, h3, h4⟩
   simp [Instr.findNow, h1]
  ·rename_i hq
   obtain ⟨h1, _⟩ := keyEq_spec (P := P) hu ht hk hr.1.1 hq
   cases hf : findA0 k l with
   | none => rw [hf] at h; cases h
   | some r0 =>
    rw [hf] at h
    simp only [Option.map_some, Option.some.injEq] at h
    subst h
    obtain ⟨r', h2, h3⟩ := findNow_a hu ht hk l ms (i + 1) r0 hr.2 hf
    refine ⟨r', by simp [Instr.findNow, h1, h2], ?_⟩
    cases r0 with
    | none => exact h3
    | some j =>
     obtain ⟨m', g1, g2, g3⟩ := h3
     exact ⟨m', g1, by rw [g2, show i + 1 + j = i + (j + 1) by omega], g3⟩
  ·cases h
theorem keyT_und {kt : TypeId} {k : AV} (h : keyT0 P kt k = true) : ∃ d, P.underlying kt = some d := by
 unfold keyT0 at h
 split at h
 ·split at h
  ·rename_i e; exact ⟨_, e⟩
  ·cases h
 ·split at h
  ·rename_i e; exact ⟨_, e⟩
  ·cases h
 ·cases h
theorem run_findNil {kt : TypeId} {kv : Value} {d : TypeDesc} (hu : P.underlying kt = some d) (w : World) : (Instr.findKey kt kv []).run P w = .ok none w := by
 simp [Instr.findKey, run_underlying hu, Instr.findNow]
theorem keyOk_und {kt : TypeId} {k : AV} (h : keyOk P kt k = true) : ∃ d, P.underlying kt = some d := by
 unfold keyOk at h
 split at h
 ·rename_i e; exact ⟨_, e⟩
 ·obtain ⟨d, hd, _⟩ := flat_und h; exact ⟨d, hd⟩
theorem zeroA_rel {t : TypeId} {av : AV} (h : zeroA P t = some av) (ι : En) : ∃ z, (P.info? t).bind (·.zero) = some z ∧ av.rel ι z ∧ ∀ n, av.ok n := by
 unfold zeroA at h
 split at h
 ·rename_i vs hz
  cases hc : zeroT P t with
  | none => rw [hc] at h; cases h
  | some cs =>
   rw [hc] at h
   simp only [Option.map_some, Option.some.injEq] at h
   subst h
   obtain ⟨z, h1, h2, h3⟩ := zeroT_rel hc ι
   rw [hz] at h1
   injection h1 with h1
   subst h1
   exact ⟨_, hz, ⟨vs.toList, by simp, h2⟩, fun n x hx => h3 n x hx⟩
 ·rename_i v hv hz
  cases hc : ofVal v with
  | none => rw [hc] at h; cases h
  | some x =>
   rw [hc] at h
   simp only [Option.map_some, Option.some.injEq] at h
   subst h
   exact ⟨v, hz, ofVal_rel hc, fun n => ofVal_ok hc n⟩
 ·cases h
/-! the operations -/
theorem runK_makeMap {t : TypeId} (hs : Sim B w0 ι H w) (hk : K (.c (.map (some H.length))) (H ++ [.map [] 1 []])) : RunK P B w0 ι H.length K (Instr.makeMap t none) w := by
 refine ⟨.map (some w.heap.size), w.alloc (.map #[] 0), upd ι H.length ⟨w.heap.size, 0, 0, 0⟩, .c (.map (some H.length)), _, rfl, upd_agree _ _ _, by simp, hs.new (.map #[] 0) (.map [] 1 []) _ rfl (by intro p hp; simp at hp) ⟨rfl, _, heap_alloc_new w _, #[], rfl, rfl, rfl, by simp⟩, ?_, by simp [AV.ok, AV.ok1, AC.ok], hk⟩
 show Value.map (some w.heap.size) = .map (some (upd ι H.length ⟨w.heap.size, 0, 0, 0⟩ H.length).block)
 rw [upd_same]
theorem map_obj (hs : Sim B w0 ι H w) {i vt : Nat} {bs : List Nat} {es : List (AV × AV)} (hi : H[i]? = some (.map bs vt es)) (hv : vt ≠ 0) : ∃ entries clock, vt = clock + 1 ∧ w.heap[(ι i).block]? = some (.map entries clock) ∧ entries.toList.map (·.born) = bs ∧ entries.size = es.length ∧ relEs ι es entries.toList := by
 obtain ⟨_, ob, hb, hh⟩ := hs.obj i _ hi
 obtain ⟨c, rfl⟩ : ∃ c, vt = c + 1 := ⟨vt - 1, by omega⟩
 obtain ⟨entries, rfl, hbs, hsz, hent⟩ := hh
 exact ⟨entries, c, rfl, hb, hbs, hsz, relEs_of es entries.toList (by simpa using hsz) fun q p hq => by simpa using hent q p hq⟩
theorem run_findKey0 {kt : TypeId} {k : AV} {kv : Value} {es : List (AV × AV)} {ms : List MapEntry} {r : Option Nat} (ht : keyT0 P kt k = true) (rk : k.rel ι kv) (hr : relEs ι es ms) (hf : findA0 k es = some r) (w : World) :
  ∃ r', (Instr.findKey kt kv ms).run P w = .ok r' w ∧ (match r with
   | none => r' = none
   | some j => ∃ m, ms[j]? = some m ∧ r' = some (j, m.val) ∧ m.key = kv ∧ Instr.sameBits 10000 m.key kv = true) := by
 obtain ⟨d, hu⟩ := keyT_und ht
 obtain ⟨r', h1, h2⟩ := findNow_a hu ht rk es ms 0 r hr hf
 refine ⟨r', by simp [Instr.findKey, run_underlying hu, h1], ?_⟩
 cases r with
 | none => exact h2
 | some j => obtain ⟨m, g1, g2, g3⟩ := h2; exact ⟨m, g1, by simpa using g2, g3⟩
theorem eqC_true {k : Nat} {x y : Option AC} {r : Option Bool} (h : eqC k x y r = some true) {v u : Value} (hx : ∀ a, x = some a → a.rel ι v) (hy : ∀ a, y = some a → a.rel ι u) : r = some true ∧ v = u ∧ ∀ m, Instr.sameBits m v v = true := by
 unfold eqC at h
 split at h
 ·split at h
  ·rename_i hk
   injection h with h
   subst hk
   simp only [Bool.and_eq_true, beq_iff_eq] at h
   have h1 := hx _ rfl
   have h2 := hy _ rfl
   simp only [AC.rel] at h1 h2
   subst h1; subst h2
   refine ⟨by rw [h.2], by rw [h.1], fun m => by simp [Instr.sameBits]⟩
  ·cases h
 ·injection h with h
  simp only [Bool.and_eq_true, beq_iff_eq] at h
  have h1 := hx _ rfl
  have h2 := hy _ rfl
  simp only [AC.rel] at h1 h2
  subst h1; subst h2
  exact ⟨by rw [h.2], by rw [h.1], fun m => by simp [Instr.sameBits]⟩
 ·rename_i a b z
  injection h with h
  simp only [Bool.and_eq_true, beq_iff_eq] at h
  have h1 := hx _ rfl
  have h2 := hy _ rfl
  simp only [AC.rel] at h1 h2
  subst h1; subst h2
  have e : a = b := by
   have := h.1
   rw [ByteArray.toList_eq, ByteArray.toList_eq] at this
   cases a; cases b; exact congrArg ByteArray.mk (Array.toList_inj.1 this)
  exact ⟨by rw [h.2], by rw [e], fun m => by simp [Instr.sameBits, ba_beq]⟩
 ·cases h
theorem eqF_same {xs ys : List AC} {vs us : List Value} (hx : relL ι xs vs) (hy : relL ι ys us) : ∀ (l : List (Nat × Nat)), eqF l xs ys = some true → ∀ p ∈ l, p.1 < xs.length → p.1 < ys.length → ∃ v, vs[p.1]? = some v ∧ us[p.1]? = some v ∧ ∀ m, Instr.sameBits m v v = true
 | [], _, p, hp, _, _ => by cases hp
 | q :: l, h, p, hp, h1, h2 => by
  have hlx := relL_len hx
  have hly := relL_len hy
  rw [eqF] at h
  rcases List.mem_cons.1 hp with rfl | hp
  ·obtain ⟨v, g1, g2⟩ := relL_get hx p.1 xs[p.1] (List.getElem?_eq_getElem h1)
   obtain ⟨u, g3, g4⟩ := relL_get hy p.1 ys[p.1] (List.getElem?_eq_getElem h2)
   obtain ⟨_, e, e2⟩ := eqC_true (ι := ι) (v := v) (u := u) h (fun a ha => by rw [List.getElem?_eq_getElem h1] at ha; injection ha with ha; subst ha; exact g2) (fun a ha => by rw [List.getElem?_eq_getElem h2] at ha; injection ha with ha; subst ha; exact g4)
   subst e
   exact ⟨v, g1, g3, e2⟩
  ·obtain ⟨e, z, g1, g2, g3⟩ := eqC_some h
   have hz : z = true := by
    have := g2.symm
    simp only [Bool.and_eq_true] at this
    exact this.2
   subst hz
   exact eqF_same hx hy l g1 p hp h1 h2
theorem agg_same {l : List (Nat × Nat)} {xs ys : List AC} {vs us : List Value} (hx : relL ι xs vs) (hy : relL ι ys us) (h1 : coverL l xs.length = true) (h2 : coverL l ys.length = true) (h : eqF l xs ys = some true) : us = vs ∧ Instr.sameBits 10000 (.agg us.toArray) (.agg vs.toArray) = true := by
 have e1 : l.map (·.1) = List.range xs.length := by simpa [coverL] using h1
 have e2 : l.map (·.1) = List.range ys.length := by simpa [coverL] using h2
 have hlx := relL_len hx
 have hly := relL_len hy
 have hxy : xs.length = ys.length := by have := congrArg List.length (e1.symm.trans e2); simpa using this
 have key : ∀ o, o < xs.length → ∃ v, vs[o]? = some v ∧ us[o]? = some v ∧ ∀ m, Instr.sameBits m v v = true := by
  intro o ho
  have : o ∈ l.map (·.1) := by rw [e1]; simpa using ho
  obtain ⟨p, hp, rfl⟩ := List.mem_map.1 this
  exact eqF_same hx hy l h p hp ho oMg
 have huv : us = vs := by
  apply List.ext_getElem?
  intro o
  rcases Nat.lt_or_ge o xs.length with ho | ho
  ·obtain ⟨v, g1, g2, _⟩ := key o ho
   rw [g1, g2]
  ·rw [List.getElem?_eq_none oMg, List.getElem?_eq_none oMg]
 subst huv
 refine ⟨rfl, ?_⟩
 show (us.toArray.size == us.toArray.size && (us.toArray.toList.zip us.toArray.toList).all fun (x, y) => Instr.sameBits 9999 x y) = true
 simp only [beq_self_eq_true, Bool.true_and, List.all_eq_true]
 intro q hq
 obtain ⟨o, ho⟩ := List.getElem?_of_mem hq
 simp only [List.getElem?_zip_eq_some] at ho
 have hol : o < us.length := (List.getElem?_eq_some_iff.1 ho.1).1
 obtain ⟨v, g1, g2, g3⟩ := key o oMg
 rw [g1] at ho
 obtain ⟨h3, h4⟩ := ho
 injection h3 with h3
 injection h4 with h4
 rw [← h3, ← h4]
 exact g3 _
theorem fields_und {kt : TypeId} {l : List (Nat × Nat)} (h : fieldsK P kt = some l) : ∃ fs, P.underlying kt = some (.struct fs) := by
 unfold fieldsK at h
 split at h
 ·cases h
 ·split at h
  ·rename_i fs hu; exact ⟨fs, hu⟩
  ·cases h
theorem findAsk_a {kt : TypeId} {l : List (Nat × Nat)} (hl : fieldsK P kt = some l) {xs : List AC} {vs : List Value} (hx : relL ι xs vs) : ∀ (es : List (AV × AV)) (ms : List MapEntry) (i : Nat) (r : Option Nat), relEs ι es ms → findA P kt (.agg xs) es = some r →
  ∃ r', (Instr.findAsking kt (.agg vs.toArray) ms i).run P w = .ok r' w ∧ (match r with
   | none => r' = none
   | some j => ∃ m, ms[j]? = some m ∧ r' = some (i + j, m.val) ∧ m.key = .agg vs.toArray ∧ Instr.sameBits 10000 m.key (.agg vs.toArray) = true)
 | [], [], i, r, _, h => by simp only [findA] at h; injection h with h; subst h; exact ⟨none, rfl, rfl⟩
 | [], _ :: _, _, _, h, _ => h.elim
 | _ :: _, [], _, _, h, _ => h.elim
 | p :: es, m :: ms, i, r, hr, h => by
  have hkey : ∀ b, keyEqS P kt (.agg xs) p.1 = some b → (Op.equal kt (.agg vs.toArray) m.key).run P w = .ok b w ∧ (b = true → m.key = .agg vs.toArray ∧ Instr.sameBits 10000 m.key (.agg vs.toArray) = true) := by
   intro b hb
   unfold keyEqS at hb
   split at hb
   ·rename_i xs' ys hq1 hq2
    injection hq1 with hq1
    subst hq1
    rw [hl] at hb
    dsimp only at hb
    split at hb
    ·rename_i hc
     rw [Bool.and_eq_true] at hc
     have hm : AV.rel ι (.agg ys) m.key := by have := hr.1.1; rw [hq2] at this; exact this
     obtain ⟨us, hu1, hu2⟩ := hm
     rw [hu1]
     have ht := run_eqTop (P := P) (w := w) (t := kt) hx hu2 (b := b) (by rw [hl]; exact hb)
     refine ⟨ht.2, fun hbt => ?_⟩
     subst hbt
     obtain ⟨g1, g2⟩ := agg_same hx hu2 hc.1 hc.2 hb
     rw [g1] at g2 ⊢
     exact ⟨rfl, g2⟩
    ·cases hb
   ·rename_i h1 _
    unfold keyEq at hb
    split at hb
    ·rename_i h9 h8; cases h9
    ·rename_i h9 h8; cases h9
    ·cases hb
  simp only [findA] at h
  split at h
  ·rename_i hq
   injection h with h
   subst h
   obtain ⟨h1, h2⟩ := hkey _ hq
   obtain ⟨h3, h4⟩ := h2 rfl
   refine ⟨some (i, m.val), ?_, m, rfl, rfl, h3, h4⟩
   simp [Instr.findAsking, h1]
  ·rename_i hq
   obtain ⟨h1, _⟩ := hkey _ hq
   cases hf : findA P kt (.agg xs) es with
   | none => rw [hf] at h; cases h
   | some r0 =>
    rw [hf] at h
    simp only [Option.map_some, Option.some.injEq] at h
    subst h
    obtain ⟨r', h2, h3⟩ := findAsk_a hl hx es ms (i + 1) r0 hr.2 hf
    refine ⟨r', by simp [Instr.findAsking, h1, h2], ?_⟩
    cases r0 with
    | none => exact h3
    | some j =>
     obtain ⟨m', g1, g2, g3⟩ := h3
     exact ⟨m', g1, by rw [g2, show i + 1 + j = i + (j + 1) by omega], g3⟩
  ·cases h
theorem run_findKey {kt : TypeId} {k : AV} {kv : Value} {es : List (AV × AV)} {ms : List MapEntry} {r : Option Nat} (ht : keyT P kt k = true) (rk : k.rel ι kv) (hr : relEs ι es ms) (hf : findA P kt k es = some r) (w : World) :
  ∃ r', (Instr.findKey kt kv ms).run P w = .ok r' w ∧ (match r with
   | none => r' = none
   | some j => ∃ m, ms[j]? = some m ∧ r' = some (j, m.val) ∧ m.key = kv ∧ Instr.sameBits 10000 m.key kv = true) := by
 by_cases hk : ∃ xs, k = .agg xs
 ·obtain ⟨xs, rfl⟩ := hk
  obtain ⟨l, hl⟩ := Option.isSome_iff_exists.1 (show (fieldsK P kt).isSome = true from ht)
  obtain ⟨fs, hu⟩ := fields_und hl
  obtain ⟨vs, rfl, hx⟩ : ∃ vs : List Value, kv = .agg vs.toArray ∧ relL ι xs vs := rk
  obtain ⟨r', h1, h2⟩ := findAsk_a (w := w) hl hx es ms 0 r hr hf
  cases ms with
  | nil =>
   cases es with
   | cons _ _ => exact hr.elim
   | nil =>
    simp only [findA, Option.some.injEq] at hf
    subst hf
    exact ⟨none, by simp [Instr.findKey, run_underlying hu, Instr.findNow], rfl⟩
  | cons m ms =>
   refine ⟨r', ?_, ?_⟩
   ·have hn : Instr.findNow (.struct fs) (.agg vs.toArray) (m :: ms) 0 = none := by simp [Instr.findNow, Instr.sameNow]
    simp [Instr.findKey, run_underlying hu, hn, h1]
   ·cases r with
    | none => exact h2
    | some j => obtain ⟨m', g1, g2, g3⟩ := h2; exact ⟨m', g1, by simpa using g2, g3⟩
 ·have e1 : keyT P kt k = keyT0 P kt k := by
   unfold keyT
   split
   ·rename_i xs; exact absurd ⟨xs, rfl⟩ hk
   ·rfl
  have e2 : ∀ x, keyEqS P kt k x = keyEq k x := by
   intro x
   unfold keyEqS
   split
   ·rename_i xs _; exact absurd ⟨xs, rfl⟩ hk
   ·rfl
  have e3 : ∀ es : List (AV × AV), findA P kt k es = findA0 k es := by
   intro es
   induction es with
   | nil => rfl
   | cons p es ih =>
    rw [findA, findA0, e2, ih]
  rw [e1] at ht
  rw [e3] at hf
  obtain ⟨r', g1, g2⟩ := run_findKey0 (P := P) ht rk hr hf w
  exact ⟨r', g1, by cases r <;> exact g2⟩
theorem run_mapUp {t kt e i y : Nat} {x : List Nat} {es es' : List (AV × AV)} {k v : AV} {kv vv : Value} (hs : Sim B w0 ι H w) (hi : H[i]? = some (.map x y es)) (hy : y ≠ 0) (hu : P.underlying t = some (.map kt e)) (hk : keyOk P kt k = true)
  (hp : mapPut P kt k v es = some es') (rk : k.rel ι kv) (rv : v.rel ι vv) (ok : k.ok H.length) (ov : v.ok H.length) :
  ∃ w', (Instr.mapUpdate t (.map (some (ι i).block)) kv vv).run P w = .ok () w' ∧ Sim B w0 ι (H.set i (.map (bornsOf x y es'.length) (clockOf x y es'.length) es')) w' := by
 obtain ⟨entries, clock, rfl, hb, hbs, hsz, hr⟩ := map_obj hs hi hy
 have hxl : x.length = es.length := by rw [← hbs]; simpa using hsz
 have hfind : ∃ r, (Instr.findKey kt kv entries.toList).run P w = .ok r w ∧ ((r = none ∧ es' = es ++ [(k, v)]) ∨ ∃ j m, r = some (j, m.val) ∧ entries[j]? = some m ∧ m.key = kv ∧ Instr.sameBits 10000 m.key kv = true ∧ es' = es.set j (k, v)) := by
  unfold mapPut at hp
  split at hp
  ·injection hp with hp
   have : entries.toList = [] := by
    cases h : entries.toList with
    | nil => rfl
    | cons m ms => rw [h] at hr; exact hr.elim
   obtain ⟨d, hd⟩ := keyOk_und hk
   rw [this]
   exact ⟨none, run_findNil hd w, .inl ⟨rfl, hp.symm⟩⟩
  ·split at hp
   ·rename_i ht
    split at hp
    ·rename_i j hf
     injection hp with hp
     obtain ⟨r', h1, m, h2, h3, h4, h5⟩ := run_findKey (P := P) ht rk hr hf w
     exact ⟨r', h1, .inr ⟨j, m, h3, by simpa using h2, h4, h5, hp.symm⟩⟩
    ·rename_i hf
     injection hp with hp
     obtain ⟨r', h1, h2⟩ := run_findKey (P := P) ht rk hr hf w
     exact ⟨r', h1, .inl ⟨h2, hp.symm⟩⟩
    ·cases hp
   ·cases hp
 have hlt : (ι i).block < w.heap.size := (Array.getElem?_eq_some_iff.1 hb).1
 have hset : ∀ (ents : Array MapEntry) (cl : Nat) (bs' : List Nat), ents.toList.map (·.born) = bs' → ents.size = es'.length → relEs ι es' ents.toList → (∀ p : AV × AV, p ∈ es' → p.1.ok H.length ∧ p.2.ok H.length) →
   Sim B w0 ι (H.set i (.map bs' (cl + 1) es')) { w with heap := w.heap.setIfInBounds (ι i).block (.map ents cl) } := by
  intro ents cl bs' h0 h1 h2 h3
  refine hs.set hi rfl (fun q hq => by simp [Array.getElem?_setIfInBounds, Ne.symm hq]) sMp rfl rfl rfl h3 ⟨(hs.obj i _ hi).1, .map ents cl, by simp [hlt], ents, rfl, h0, h1, fun q p hq => ?_⟩
  simpa using relEs_get h2 q p hq
 have hok := hs.scope i _ hi
 obtain ⟨r, hrun, ⟨rfl, rfl⟩ | ⟨j, m, rfl, hm, hkey, hsb, rfl⟩⟩ := hfind
 ·have e1 : bornsOf x (clock + 1) (es ++ [(k, v)]).length = x ++ [clock] := by unfold bornsOf; rw [if_neg (by rw [hxl]; simp)]; rfl
  have e2 : clockOf x (clock + 1) (es ++ [(k, v)]).length = (clock + 1) + 1 := by unfold clockOf; rw [if_neg (by rw [hxl]; simp)]
  rw [e1, e2]
  refine ⟨_, ?_, hset (entries.push ⟨kv, vv, clock⟩) (clock + 1) (x ++ [clock]) (by rw [Array.toList_push, List.map_append, hbs]; rfl) (by simp [hsz]) ?_ ?_⟩
  ·simp [Instr.mapUpdate, run_underlying hu, run_getObj_m hb, run_checkKey hk rk, hrun, setObj, Sem.run, hb]
  ·rw [Array.toList_push]
   refine relEs_of _ _ (by simp [hsz]) fun q p hq => ?_
   rcases Nat.lt_or_ge q es.length with hl | hl
   ·rw [List.getElem?_append_left hl] at hq
    rw [List.getElem?_append_left (by simpa [hsz] using hl)]
    exact relEs_get hr q p hq
   ·rw [List.getElem?_append_right hl] at hq
    have hq0 : q = es.length := by have := getElem?_lt hq; simp at this; omega
    subst hq0
    simp at hq
    subst hq
    exact ⟨⟨kv, vv, clock⟩, by rw [List.getElem?_append_right (by simp [hsz])]; simp [hsz], rk, rv⟩
  ·intro p hp
   rcases List.mem_append.1 hp with hp | hp
   ·exact hok p hp
   ·simp at hp; subst hp; exact ⟨ok, ov⟩
 ·have hjl : j < entries.size := (Array.getElem?_eq_some_iff.1 hm).1
  have e1 : bornsOf x (clock + 1) (es.set j (k, v)).length = x := by unfold bornsOf; rw [if_pos (by rw [hxl]; simp)]
  have e2 : clockOf x (clock + 1) (es.set j (k, v)).length = clock + 1 := by unfold clockOf; rw [if_pos (by rw [hxl]; simp)]
  rw [e1, e2]
  refine ⟨_, ?_, hset (entries.modify j fun e => { e with key := kv, val := vv }) clock x ?_ (by simp [hsz]) ?_ ?_⟩
  ·simp [Instr.mapUpdate, run_underlying hu, run_getObj_m hb, run_checkKey hk rk, hrun, hm, Instr.keyThatStays, hsb, setObj, Sem.run, hb]
  ·rw [← hbs]
   apply List.ext_getElem?
   intro q
   simp only [List.getElem?_map, Array.getElem?_toList, Array.getElem?_modify]
   by_cases e : j = q
   ·subst e; simp [hm]
   ·simp [e]
  ·refine relEs_of _ _ (by simp [hsz]) fun q p hq => ?_
   by_cases e : j = q
   ·subst e
    rw [List.getElem?_set_self oMg] at hq
    injection hq with hq
    subst hq
    exact ⟨{ m with key := kv, val := vv }, by simp [Array.getElem?_modify, hm], rk, rv⟩
   ·rw [List.getElem?_set_ne e] at hq
    obtain ⟨m', g1, g2⟩ := relEs_get hr q p hq
    exact ⟨m', by simpa [Array.getElem?_modify, e] using g1, g2⟩
  ·intro p hp
   rcases List.mem_or_eq_of_mem_set hp with hp | rfl
   ·exact hok p hp
   ·exact ⟨ok, ov⟩
/-! an entry is taken out; entries are gone through -/
theorem set_self {α : Type} {l : List α} {i : Nat} {x : α} (h : l[i]? = some x) : l.set i x = l := by
 apply List.ext_getElem?
 intro q
 by_cases e : i = q
 ·subst e; rw [List.getElem?_set_self (List.getElem?_eq_some_iff.1 h).1, h]
 ·rw [List.getElem?_set_ne e]
theorem map_eraseIdx {α β : Type} (f : α → β) : ∀ (l : List α) (j : Nat), (l.eraseIdx j).map f = (l.map f).eraseIdx j
 | [], _ => by simp
 | x :: l, 0 => by simp
 | x :: l, j + 1 => by simp [map_eraseIdx f l j]
theorem runK_delete {t t2 kt e i y : Nat} {ty : TypeId} {x : List Nat} {es : List (AV × AV)} {k : AV} {kv : Value} {r : Option Nat} (hs : Sim B w0 ι H w) (hi : H[i]? = some (.map x y es)) (hy : y ≠ 0) (hu : P.underlying t = some (.map kt e)) (hk : keyOk P kt k = true) (ht : keyT P kt k = true) (rk : k.rel ι kv) (hf : findA P kt k es = some r)
  (hK : aDel3 x y i es (some r) H K) : RunK P B w0 ι H.length K (Builtin.delete_ #[t, t2] ty #[.map (some (ι i).block), kv]) w := by
 obtain ⟨entries, clock, rfl, hb, hbs, hsz, hr⟩ := map_obj hs hi hy
 have hxl : x.length = es.length := by rw [← hbs]; simpa using hsz
 have hlt : (ι i).block < w.heap.size := (Array.getElem?_eq_some_iff.1 hb).1
 have hok := hs.scope i _ hi
 obtain ⟨r', h1, h2⟩ := run_findKey (P := P) ht rk hr hf w
 cases r with
 | none =>
  subst h2
  have hsame : ({ w with heap := w.heap.setIfInBounds (ι i).block (.map entries clock) } : World) = w := by
   have : w.heap.setIfInBounds (ι i).block (.map entries clock) = w.heap := by
    apply Array.ext_getElem?
    intro q
    rw [Array.getElem?_setIfInBounds]
    by_cases e : (ι i).block = q
    ·subst e
     rw [if_pos rfl, if_pos hlt, hb]
    ·rw [if_neg e]
   rw [this]
  refine ⟨.tuple #[], w, ι, .tup [], _, ?_, Agree.refl _ _, by simp, ?_, ⟨[], rfl, trivial⟩, by intro q hq; simp at hq, hK⟩
  ·simp [Builtin.delete_, run_underlying hu, run_getObj_m hb, run_checkKey hk rk, h1, setObj, Sem.run, hb, hsame]
  ·have : H.set i (.map x (clock + 1) es) = H := set_self hi
   rw [this]; exact hs
 | some j =>
  obtain ⟨m, hm, rfl, hkey, hsb⟩ := h2
  have hjl : j < entries.size := by have := getElem?_lt hm; simpa using this
  refine ⟨.tuple #[], { w with heap := w.heap.setIfInBounds (ι i).block (.map (entries.eraseIdxIfInBounds j) clock) }, ι, .tup [], _, ?_, Agree.refl _ _, by simp, ?_, ⟨[], rfl, trivial⟩, by intro q hq; simp at hq, hK⟩
  ·simp [Builtin.delete_, run_underlying hu, run_getObj_m hb, run_checkKey hk rk, h1, setObj, Sem.run, hb]
  ·have el : (entries.eraseIdxIfInBounds j).toList = entries.toList.eraseIdx j := by
    rw [Array.eraseIdxIfInBounds, dif_pos hjl, Array.toList_eraseIdx]
   refine hs.set hi rfl (fun q hq => by simp [Array.getElem?_setIfInBounds, Ne.symm hq]) sMp rfl rfl rfl (fun p hp => hok p (List.mem_of_mem_eraseIdx hp)) ⟨(hs.obj i _ hi).1, .map (entries.eraseIdxIfInBounds j) clock, by simp [hlt], entries.eraseIdxIfInBounds j, rfl, ?_, ?_, fun q p hq => ?_⟩
   ·rw [el, ← hbs]
    exact map_eraseIdx _ _ _
   ·rw [← Array.length_toList, el, List.length_eraseIdx, List.length_eraseIdx]
    simp [hsz]
   ·rw [← Array.getElem?_toList, el]
    rw [List.getElem?_eraseIdx] at hq ⊢
    split
    ·rename_i hqj; rw [if_pos hqj] at hq; exact relEs_get hr q p hq
    ·rename_i hqj; rw [if_neg hqj] at hq; exact relEs_get hr (q + 1) p hq
theorem runK_range {t i y : Nat} {x : List Nat} {es : List (AV × AV)} (hs : Sim B w0 ι H w) (hi : H[i]? = some (.map x y es)) (hy : y ≠ 0) (hu : (mapK P t).isSome = true) (hK : K (.c (.ptr (some (H.length, 0, 0)))) (H ++ [.map [y - 1, y - 1] 0 [(.c (.map (some i)), .any)]])) :
  RunK P B w0 ι H.length K (Instr.range t (.map (some (ι i).block))) w := by
 obtain ⟨entries, clock, rfl, hb, hbs, hsz, hr⟩ := map_obj hs hi hy
 obtain ⟨kt, hkt⟩ := Option.isSome_iff_exists.1 hu
 obtain ⟨e, hu⟩ := mapK_und hkt
 have hil := getElem?_lt hi
 refine ⟨_, _, upd ι H.length ⟨w.heap.size, 0, 0, 0⟩, .c (.ptr (some (H.length, 0, 0))), _, run_range_map w t kt e _ entries clock hu hb, upd_agree _ _ _, by simp, hs.new (.mapIter (some (ι i).block) clock #[] clock) (.map [clock, clock] 0 [(.c (.map (some i)), .any)]) _ rfl (by intro p hp; simp only [List.mem_singleton] at hp; subst hp; exact ⟨hil, trivial⟩) ⟨rfl, _, heap_alloc_new w _, (ι i).block, clock, clock, #[], rfl, rfl, _, rfl, ?_⟩, ?_, by simp [AV.ok, AV.ok1, AC.ok], hK⟩
 ·show Value.map (some (ι i).block) = .map (some (upd ι H.length ⟨w.heap.size, 0, 0, 0⟩ i).block)
  rw [(upd_agree ι H.length _).loc i hil]
 ·show Value.pointer (some ⟨w.heap.size, 0, none⟩) = ptrOf (upd ι H.length ⟨w.heap.size, 0, 0, 0⟩) (H.length, 0, 0)
  unfold ptrOf
  rw [upd_same]
  rfl
theorem runK_next {r i since last : Nat} {x seen : List Nat} {y : Nat} {es : List (AV × AV)} {q : AV} {ty : TypeId} (hs : Sim B w0 ι H w) (hr : H[r]? = some (.map (since :: last :: seen) 0 [(.c (.map (some i)), q)])) (hi : H[i]? = some (.map x y es)) (hy : y ≠ 0) (hK : aNext4 x y es r i since last seen H K) :
  RunK P B w0 ι H.length K (Instr.next (.pointer (some ⟨(ι r).block, 0, none⟩)) false ty) w := by
 obtain ⟨entries, clock, rfl, hb, hbs, hsz, hrel⟩ := map_obj hs hi hy
 obtain ⟨_, ob, hrb, b, since', last', seenA, rfl, hse, p, hp, hpb⟩ := hs.obj r _ hr
 simp only [List.cons.injEq, and_true] at hp
 subst hp
 injection hse with h1 h2
 injection h2 with h3 h2
 subst h1
 subst h3
 have hbb : b = (ι i).block := by
  have : Value.map (some b) = .map (some (ι i).block) := hpb
  injection this with this
  injection this
 subst hbb
 obtain ⟨⟨k0, k1⟩, k2, k3⟩ := hK
 have hold : ∀ z ∈ entries.toList, z.born < since' := fun z hz => k1 _ (by rw [← hbs]; exact List.mem_map.2 ⟨z, hz, rfl⟩)
 rcases run_next_at w ty (ι r).block (ι i).block since' last' seenA entries clock hrb hb hold k0 with ⟨g1, g2⟩ | ⟨e, g1, w1, g2, g3⟩
 ·refine runK_same hs g2 (av := .tup [.c (.bool false)]) ⟨[.bool false], rfl, rfl, trivial⟩ (by intro z hz; simp only [List.mem_singleton] at hz; subst hz; trivial) (k2 fun z hz => ?_)
  rw [← hbs] at hz
  obtain ⟨m, hm, rfl⟩ := List.mem_map.1 hz
  have h0 : leftOf entries seenA = #[] := Array.eq_empty_of_size_eq_zero g1
  unfold leftOf at h0
  rw [Array.filter_eq_empty_iff] at h0
  have := h0 m (by simpa using hm)
  rw [← h2]
  simpa using this
 ·unfold leftOf at g1
  have g1' : e ∈ entries ∧ e.born ∉ seenA := by simpa using g1
  obtain ⟨j, hj, hje⟩ := Array.mem_iff_getElem.1 g1'.1
  obtain ⟨⟨kk, vv⟩, hes⟩ : ∃ p, es[j]? = some p := ⟨_, List.getElem?_eq_getElem oMg⟩
  obtain ⟨m, hm, hm1, hm2⟩ := relEs_get hrel j _ hes
  have hme : m = e := by
   rw [Array.getElem?_toList, Array.getElem?_eq_getElem hj, hje] at hm
   injection hm with hm
   exact hm.symm
  subst hme
  have hxj : x[j]? = some m.born := by rw [← hbs, List.getElem?_map, hm]; rfl
  obtain ⟨⟨n1, n2⟩, hk⟩ := k3 j m.born kk vv hxj hes (by rw [← h2]; simpa using g1'.2)
  have hil := getElem?_lt hi
  have hrl := getElem?_lt hr
  have hblt : (ι r).block < w.heap.size := (Array.getElem?_eq_some_iff.1 hrb).1
  have hw1 : w1.heap = w.heap ∧ w1.os = w.os ∧ w1.tape = w.tape ∧ w1.output = w.output := by rcases g2 with rfl | rfl <;> exact ⟨rfl, rfl, rfl, rfl⟩
  have hset : Sim B w0 ι (H.set r (.map (since' :: clock :: (seen ++ [m.born])) 0 [(.c (.map (some i)), .any)])) (ChangeMaps.setBlock w1 (ι r).block (.mapIter (some (ι i).block) since' (seenA.push m.born) clock)) := by
   refine hs.set hr rfl (fun z hz => by simp [ChangeMaps.setBlock, Array.getElem?_setIfInBounds, Ne.symm hz, hw1.1]) (by simp [ChangeMaps.setBlock, hw1.1]) hw1.2.1 hw1.2.2.1 hw1.2.2.2 ?_ ⟨(hs.obj r _ hr).1, .mapIter (some (ι i).block) since' (seenA.push m.born) clock, by simp [ChangeMaps.setBlock, hw1.1, hblt], (ι i).block, since', clock, seenA.push m.born, rfl, ?_, _, rfl, rfl⟩
   ·intro z hz
    simp only [List.mem_singleton] at hz
    subst hz
    exact ⟨hil, trivial⟩
   ·rw [Array.toList_push, h2]
  have ho := hs.scope i _ hi _ (List.mem_of_getElem? hes)
  refine ⟨_, _, ι, .tup [.c (.bool true), kk, vv], _, g3, Agree.refl _ _, by simp, hset, ?_, ?_, hk⟩
  ·refine ⟨[.bool true, m.key, m.val], rfl, rfl, ?_, ?_, trivial⟩
   ·cases kk <;> first | exact hm1 | cases n1
   ·cases vv <;> first | exact hm2 | cases n2
  ·rw [List.length_set]
   intro z hz
   simp only [List.mem_cons, List.not_mem_nil, or_false] at hz
   rcases hz with rfl | rfl | rfl
   ·trivial
   ·have := ho.1; cases z <;> first | exact this | cases n1
   ·have := ho.2; cases z <;> first | exact this | cases n2
theorem run_look {t kt : TypeId} {z : Option AV} {k v : AV} {mv kv : Value} {b ok : Bool} {es : List (AV × AV)} {ms : Array MapEntry} (hs : Sim B w0 ι H w) (hu : ∃ e, P.underlying t = some (.map kt e) ∧ z = zeroA P e)
  (hm : (mv = .map none ∧ ms = #[]) ∨ ∃ r clock, mv = .map (some r) ∧ w.heap[r]? = some (.map ms clock)) (hr : relEs ι es ms.toList) (hok : ∀ p : AV × AV, p ∈ es → p.1.ok H.length ∧ p.2.ok H.length)
  (hk : keyOk P kt k = true) (rk : k.rel ι kv) (hg : mapGet P kt k z es = some (v, b)) (hv : noTup v = true) (hK : K (bif ok then .tup [v, .c (.bool b)] else v) H) :
  RunK P B w0 ι H.length K (Instr.lookup t mv kv ok) w := by
 obtain ⟨e, hu, rfl⟩ := hu
 have hfind : ∃ r u, (Instr.findKey kt kv ms.toList).run P w = .ok r w ∧ v.rel ι u ∧ v.ok H.length ∧ ((r = none ∧ b = false ∧ (zeroValue e).run P w = .ok u w) ∨ ∃ j, r = some (j, u) ∧ b = true) := by
  have zero : ∀ {z}, zeroA P e = some z → v = z → ∃ u, v.rel ι u ∧ v.ok H.length ∧ (zeroValue e).run P w = .ok u w := by
   intro z hz h1
   subst h1
   obtain ⟨zv, h2, h3, h4⟩ := zeroA_rel hz ι
   exact ⟨zv, h3, h4 _, run_zeroValue h2 w⟩
  unfold mapGet at hg
  split at hg
  ·have : ms.toList = [] := by
    cases h : ms.toList with
    | nil => rfl
    | cons m l => rw [h] at hr; exact hr.elim
   obtain ⟨d, hd⟩ := keyOk_und hk
   cases hz : zeroA P e with
   | none => rw [hz] at hg; cases hg
   | some z0 =>
    rw [hz] at hg
    simp only [Option.map_some, Option.some.injEq, Prod.mk.injEq] at hg
    obtain ⟨u, h1, h2, h3⟩ := zero hz hg.1.symm
    exact ⟨none, u, by rw [this]; exact run_findNil hd w, h1, h2, .inl ⟨rfl, hg.2.symm, h3⟩⟩
  ·split at hg
   ·rename_i ht
    split at hg
    ·rename_i j hf
     obtain ⟨r', h1, m, h2, h3, h4, h5⟩ := run_findKey (P := P) ht rk hr hf w
     cases hj : es[j]? with
     | none => rw [hj] at hg; cases hg
     | some p =>
      rw [hj] at hg
      simp only [Option.map_some, Option.some.injEq, Prod.mk.injEq] at hg
      obtain ⟨m', g1, g2, g3⟩ := relEs_get hr j p hj
      rw [h2] at g1
      injection g1 with g1
      subst g1
      refine ⟨r', m.val, h1, by rw [← hg.1]; exact g3, by rw [← hg.1]; exact (hok p (List.mem_of_getElem? hj)).2, .inr ⟨j, h3, hg.2.symm⟩⟩
    ·rename_i hf
     obtain ⟨r', h1, h2⟩ := run_findKey (P := P) ht rk hr hf w
     cases hz : zeroA P e with
     | none => rw [hz] at hg; cases hg
     | some z0 =>
      rw [hz] at hg
      simp only [Option.map_some, Option.some.injEq, Prod.mk.injEq] at hg
      obtain ⟨u, g1, g2, g3⟩ := zero hz hg.1.symm
      exact ⟨r', u, h1, g1, g2, .inl ⟨h2, hg.2.symm, g3⟩⟩
    ·cases hg
   ·cases hg
 obtain ⟨r, u, h1, h2, h3, h4⟩ := hfind
 have hrun : (Instr.lookup t mv kv ok).run P w = .ok (if ok = true then .tuple #[u, .bool b] else u) w := by
  rcases hm with ⟨rfl, rfl⟩ | ⟨rr, clock, rfl, hb⟩
  ·rcases h4 with ⟨rfl, rfl, hz⟩ | ⟨j, rfl, rfl⟩ <;> cases ok <;> simp_all [Instr.lookup, run_underlying hu, run_checkKey hk rk]
  ·rcases h4 with ⟨rfl, rfl, hz⟩ | ⟨j, rfl, rfl⟩ <;> cases ok <;> simp_all [Instr.lookup, run_underlying hu, run_checkKey hk rk, run_getObj_m hb]
 have hv1 : v.rel1 ι u := by cases v <;> first | exact h2 | cases hv
 have hv2 : v.ok1 H.length := by cases v <;> first | exact h3 | cases hv
 cases ok with
 | false => exact runK_same hs hrun h2 h3 hK
 | true => exact runK_same (v := .tuple #[u, .bool b]) (av := .tup [v, .c (.bool b)]) hs hrun ⟨[u, .bool b], rfl, hv1, rfl, trivial⟩ (by intro q hq; simp at hq; rcases hq with rfl | rfl; exact hv2; trivial) hK
theorem runK_entry {r i since last : Nat} {x seen : List Nat} {y : Nat} {es : List (AV × AV)} {q : AV} (hs : Sim B w0 ι H w) (hr : H[r]? = some (.map (since :: last :: seen) 0 [(.c (.map (some i)), q)])) (hi : H[i]? = some (.map x y es)) (hK : aEnt4 x y es last seen H K) :
  RunK P B w0 ι H.length K (Instr.entry (.pointer (some ⟨(ι r).block, 0, none⟩))) w := by
 obtain ⟨j, b, s, k, v, ⟨rfl, rfl, h1, h2, h3, h4, h5⟩, hK⟩ := hK
 obtain ⟨entries, clock, hcl, hb, hbs, hsz, hrel⟩ := map_obj hs hi (Nat.succ_ne_zero _)
 have hcl : clock = last := by omega
 subst hcl
 obtain ⟨_, ob, hrb, bb, since', last', seenA, rfl, hse, p, hp, hpb⟩ := hs.obj r _ hr
 simp only [List.cons.injEq, and_true] at hp
 subst hp
 injection hse with g1 g2
 injection g2 with g3 g2
 subst g1
 subst g3
 have hbb : bb = (ι i).block := by
  have : Value.map (some bb) = .map (some (ι i).block) := hpb
  injection this with this
  injection this
 subst hbb
 obtain ⟨m, hm, hm1, hm2⟩ := relEs_get hrel j _ h2
 have hmb : m.born = b := by
  rw [← hbs, List.getElem?_map, hm] at h1
  simpa using h1
 subst hmb
 obtain ⟨sA, rfl⟩ : ∃ sA : Array Nat, seenA = sA.push m.born := ⟨s.toArray, by apply Array.toList_inj.1; rw [g2]; simp⟩
 have hrun := run_entry_at (P := P) w (ι r).block (ι i).block since' sA entries last' m hrb hb (List.mem_of_getElem? hm) (by rw [hbs]; exact h3)
 have ho := hs.scope i _ hi _ (List.mem_of_getElem? h2)
 refine runK_same hs hrun (av := .tup [k, v]) ⟨[m.key, m.val], rfl, ?_, ?_, trivial⟩ ?_ hK
 ·cases k <;> first | exact hm1 | cases h4
 ·cases v <;> first | exact hm2 | cases h5
 ·intro z hz
  simp only [List.mem_cons, List.not_mem_nil, or_false] at hz
  rcases hz with rfl | rfl
  ·have := ho.1; cases z <;> first | exact this | cases h4
  ·have := ho.2; cases z <;> first | exact this | cases h5
end
end Go.Proofs.YtagoolooikpabaaGreatDoor
namespace Go.Proofs.YtagoolooikpabaaGreatDoor
open Go Go.RowKit
set_option maxRecDepth 10000
section
variable {P : Program} {B : Nat → Prop} {rr : Option Nat} {dd : List Deferred} {w0 w w' : World} {ι ι' : En} {H : Hp} {F : Fr} {a : Act} {N n m : Nat} {Q : Exit → Act → World → Prop} {next : Act → World → Prop} {o : Oper} {K : AV → Hp → Prop}
theorem step_val {v : Value} {av : AV} (hs : Sim B w0 ι H w) (he : execOp a.eval o = pure (.value v)) (hr : AV.rel ι av v) (ho : av.ok H.length) (hk : K av H) : o.wp P a w (StepK B w0 ι H.length a o.dst K) Q :=
 step_same hs (by rw [he]; rfl) hr ho hk
theorem rel_noagg {c : AC} {v : Value} (hc : c ≠ .nili) (h : c.rel ι v) : (∀ cs, v ≠ .agg cs) ∧ v ≠ .nilIface := by
 cases c with
 | ptr r => cases r <;> (simp only [AC.rel] at h; subst h; simp [ptrOf])
 | sl r k =>
  cases r with
  | none => obtain ⟨_, rfl⟩ := h; simp
  | some p => obtain ⟨ad, rfl, _⟩ := h; simp
 | map r => cases r <;> (simp only [AC.rel] at h; subst h; simp)
 | lst sz els => simp only [AC.rel, AC.relZ] at h; obtain ⟨p, c, rfl, _⟩ := h; simp
 | fp cs => simp only [AC.rel, AC.relZ] at h; obtain ⟨b, o, rfl, _⟩ := h; simp
 | nili => exact absurd rfl hc
 | ifc => obtain ⟨t, u, rfl⟩ := h; simp
 | _ => simp only [AC.rel] at h; subst h; simp
theorem nili_no {t : TypeId} {b : BinOp} {y : AV} {nl : Bool} {K : AV → Prop} (h : aBinN P t b (.c .nili) y nl K) : False := by
 cases nl <;> cases b <;> exact h
theorem run_eqGuard' {op : BinOp} {t : TypeId} {x y : Operand} {v u : Value} (hv : (∀ cs, v ≠ .agg cs) ∧ v ≠ .nilIface) : (eqGuard op t x y v u).run P w = .ok () w := by
 cases op <;> first | rfl | (cases v <;> first | rfl | exact absurd rfl hv.2 | exact absurd rfl (hv.1 _))
theorem ptrsOf_rel : ∀ {l : List Operand} {ps : List (Nat × Nat × Nat)}, (∀ x ∈ l, (evC F x).rel ι (a.eval x) ∧ (evC F x).ok n) → ptrsOf (l.map (evC F)) = some ps → l.map a.eval = ps.map (ptrOf ι) ∧ ∀ p ∈ ps, p.1 < n
 | [], ps, _, h => by
  simp only [List.map_nil, ptrsOf, Option.some.injEq] at h
  subst h; exact ⟨rfl, by simp⟩
 | x :: l, ps, hr, h => by
  simp only [List.map_cons] at h
  have h1 := hr x sMp
  unfold ptrsOf at h
  split at h
  ·rename_i heq; cases heq
  ·rename_i p l' heq
   injection heq with e1 e2
   subst e2
   rw [e1] at h1
   simp only [Option.map_eq_some_iff] at h
   obtain ⟨qs, h2, rfl⟩ := h
   obtain ⟨h3, h4⟩ := ptrsOf_rel (fun y hy => hr y (by simp [hy])) h2
   have h5 : a.eval x = ptrOf ι p := h1.1
   exact ⟨by rw [List.map_cons, List.map_cons, h3, h5], by
    intro q hq
    rcases List.mem_cons.1 hq with rfl | hq
    ·exact h1.2
    ·exact h4 q hq⟩
  ·cases h
theorem argsRel_of {l : List Operand} (hF : FOk dd N ι n F a) (hne : ∀ x ∈ l, ∀ ts, evC F x ≠ .tup ts) : rel1L ι (l.map (evC F)) (l.map a.eval) ∧ ∀ x ∈ l.map (evC F), x.ok1 n := by
 induction l with
 | nil => exact ⟨trivial, by simp⟩
 | cons x l ih =>
  have h1 := evC_rel hF x
  have h2 := evC_ok hF x
  obtain ⟨h3, h4⟩ := ih (fun y hy => hne y (by simp [hy]))
  have hx := hne x sMp
  have e1 : (evC F x).rel1 ι (a.eval x) ∧ (evC F x).ok1 n := by
   cases hh : evC F x with
   | tup ts => exact absurd hh (hx ts)
   | c y => rw [hh] at h1 h2; exact ⟨h1, h2⟩
   | agg cs => rw [hh] at h1 h2; exact ⟨h1, h2⟩
   | any => exact ⟨trivial, trivial⟩
  exact ⟨⟨e1.1, h3⟩, fun y hy => by
   rcases List.mem_cons.1 hy with rfl | hy
   ·exact e1.2
   ·exact h4 y hy⟩
theorem rel1L_append : ∀ {xs ys : List AV} {vs us : List Value}, rel1L ι xs vs → rel1L ι ys us → rel1L ι (xs ++ ys) (vs ++ us)
 | [], _, [], _, _, h => h
 | _ :: _, _, _ :: _, _, h, k => ⟨h.1, rel1L_append h.2 k⟩
theorem ptrs_rel : ∀ l : List (Nat × Nat × Nat), rel1L ι (ptrs l) (l.map (ptrOf ι))
 | [] => trivial
 | p :: l => ⟨rfl, ptrs_rel l⟩
theorem callFunc_run {f : FuncId} (h : entersB P f = true) (args : Array Value) : (callFunc f args).run P w = .ok (.enter f args) w := by
 unfold entersB at h
 cases hf : P.funcs[f]? with
 | none => rw [hf] at h; cases h
 | some fn =>
  rw [hf] at h
  simp only [Option.any_some, Bool.and_eq_true] at h
  obtain ⟨h1, h2⟩ := h
  have h3 : (fn.name == "runtime.NumGoroutine") = false := by simpa using h2
  have h4 : fn.body.isNone = false := by cases hb : fn.body <;> simp_all
  have h5 : ¬ fn.name = "runtime.NumGoroutine" := by simpa using h3
  have h6 : ¬ fn.body = none := by intro h7; rw [h7] at h1; cases h1
  simp [callFunc, hf, h5, h6]
theorem call_upon {f : FuncId} {args : Array Value} {x : AV → Hp → Prop} (h : Calls P f args w (Done B w0 ι n x)) : o.upon P a (StepK B w0 ι n a o.dst x) Q (.ok (.enter f args) w) := by
 show Calls P f args w _
 refine h.mono fun e w' he => ?_
 obtain ⟨ι', v, av, H', rfl, h1, h2, h3, h4, h5, h6⟩ := he
 exact ⟨ι', v, av, H', rfl, h1, h2, h3, h4, h5, h6⟩
theorem opt_rel (hF : FOk dd N ι n F a) (x : Option Operand) : (∀ y, x.map (evC F) = some y → ∃ v, x.map a.eval = some v ∧ y.rel ι v) ∧ (x.map (evC F) = none → x.map a.eval = none) := by
 cases x with
 | none => exact ⟨by simp, by simp⟩
 | some z => exact ⟨fun y hy => ⟨a.eval z, rfl, by simp at hy; subst hy; exact evC_rel hF z⟩, by simp⟩
theorem zeroCells_len (z : Array Value) (n : Nat) : (Builtin.zeroCells z n).toList.length = n * z.size := by simp [Builtin.zeroCells]
theorem runK_clear {t e i k n sz ty : Nat} {els : List (List AC)} {z : List AC} {v : Value} {tt : TypeId} (hs : Sim B w0 ι H w) (hi : H[i]? = some (.row ty sz els true)) (he : elemT P t = some e) (hz : zeroT P e = some z) (hzl : z.length = sz) (hk : k + (n + 1) = els.length)
  (hv : AC.rel ι (.sl (some (i, k)) (n + 1)) v) (hK : K (.tup []) (H.set i (.row ty sz (els.take k) true))) : RunK P B w0 ι H.length K (Builtin.clear_ #[t] tt #[v]) w := by
 obtain ⟨ad, rfl, hcap, had⟩ := hv
 have hsc := hs.scope i _ hi
 obtain ⟨h1, h2, cur, fr, h3, h4, h5⟩ := hs.obj i _ hi
 obtain ⟨rfl, hoff, hcs, hcm⟩ := h5 rfl
 obtain ⟨zv, hzi, hzr, hzo⟩ := zeroT_rel hz ι
 have hzs : zv.cells.size = sz := by rw [← hzl, relL_len hzr, Array.length_toList]
 have hat : ad = ⟨(ι i).block, k * sz, none⟩ := by rw [had (.inl oMg)]; simp [Loc.at, hoff, h1]
 subst hat
 have hlen : (Builtin.zeroCells zv.cells (n + 1)).toList.length = (n + 1) * sz := by rw [zeroCells_len, hzs]
 have hone : ∀ u ∈ (Builtin.zeroCells zv.cells (n + 1)).toList, u.oneCell' = true := by
  intro u hu
  rw [Array.mem_toList_iff] at hu
  unfold Builtin.zeroCells at hu
  rw [Array.mem_map] at hu
  obtain ⟨q, hq, rfl⟩ := hu
  rw [Array.mem_range] at hq
  have hpos : 0 < zv.cells.size := by
   rcases Nat.eq_zero_or_pos zv.cells.size with h0 | h0
   ·rw [h0] at hq; omega
   ·exact h0
  have hq2 := Nat.mod_lt q hpos
  obtain ⟨x, hx⟩ : ∃ x, z[q % zv.cells.size]? = some x := ⟨_, List.getElem?_eq_getElem oMg⟩
  obtain ⟨y, hy, hyr⟩ := relL_get hzr _ _ hx
  rw [Array.getElem?_toList] at hy
  have : zv.cells[q % zv.cells.size]! = y := by rw [getElem!_def, hy]
  rw [this]
  exact AC.rel_one hyr
 have hfit : k * sz + (Builtin.zeroCells zv.cells (n + 1)).toList.length ≤ cur.size := by
  rw [hlen, hcs, ← Nat.add_mul]
  exact Nat.mul_le_mul_right _ oMg
 have hrun := run_storeCells_at P (ι i).block (k * sz) ty (Builtin.zeroCells zv.cells (n + 1)).toList 0 cur w h3 (by simpa using hfit) hone
 try simp only [Nat.add_zero] at hrun
 obtain ⟨w', hw, hset⟩ : ∃ w', (storeCells ⟨(ι i).block, k * sz, none⟩ (Builtin.zeroCells zv.cells (n + 1)).toList 0).run P w = .ok () w' ∧ Sim B w0 ι (H.set i (.row ty sz (els.take k) true)) w' := by
  refine ⟨_, hrun, hs.set hi rfl (fun q hq => setRow_other w _ q _ hq) (setRow_size _ _ _) rfl rfl rfl ?_ ?_⟩
  ·exact fun x hx => hsc x (List.mem_of_mem_take hx)
  refine ⟨h1, by simp; omega, _, (0, 0), setRow_heap w _ cur _ ty _ h3, fun k' e' hk' j' x hj' => ?_, fun _ => ⟨rfl, hoff, by simp at hfit ⊢; omega, hcm⟩⟩
  rw [List.getElem?_take] at hk'
  split at hk'
  ·rename_i hlt
   obtain ⟨u, hu, hr⟩ := h4 k' e' hk' j' x hj'
   refine ⟨u, ?_, hr⟩
   rw [hoff, Nat.zero_add] at hu ⊢
   have hj'l : j' < sz := by
    have := (hsc e' (List.mem_of_getElem? hk')).1
    have := getElem?_lt hj'
    omega
   have hap := mul_apart (j := j') (j' := 0) (sz := sz) hlt hj'l
   have hget := splice_get cur.toList (k * sz) (Builtin.zeroCells zv.cells (n + 1)).toList (k' * sz + j') (by simpa using hfit)
   rw [if_pos oMg] at hget
   rw [List.getElem?_toArray]
   refine hget.trans ?_
   rw [Array.getElem?_toList]
   exact hu
  ·cases hk'
 refine ⟨.tuple #[], _, ι, .tup [], _, ?_, Agree.refl _ _, by simp, hset, ⟨[], rfl, trivial⟩, by intro x hx; simp at hx, hK⟩
 simp [Builtin.clear_, run_underlying (elemT_und he), run_zeroValue hzi, hw]
theorem run_convI {sr d : TypeId} {ds : TypeDesc} {kd k : IntKind} {n : Int} (h1 : P.underlying sr = some ds) (h2 : P.underlying d = some (.int k)) : (convert sr d (.int kd n)).run P w = .ok (.int k (k.wrap n)) w := by
 unfold convert
 rw [Sem.run_bind, run_underlying h1, Result.andThen_ok, Sem.run_bind, run_underlying h2, Result.andThen_ok]
 cases ds <;> rfl
theorem run_convR {sr d : TypeId} {ds : TypeDesc} {kd : IntKind} {n : Int} (h1 : P.underlying sr = some ds) (h2 : P.underlying d = some .string) (h3 : 0 ≤ n ∧ n < 128) : (convert sr d (.int kd n)).run P w = .ok (.string ⟨#[UInt8.ofNat n.toNat]⟩) w := by
 have he : Utf8.encode n = ⟨#[UInt8.ofNat n.toNat]⟩ := by
  have hv : Utf8.valid n = true := by unfold Utf8.valid; simp; omega
  unfold Utf8.encode
  simp only [hv, if_true]
  rw [if_pos oMg]
 unfold convert
 rw [Sem.run_bind, run_underlying h1, Result.andThen_ok, Sem.run_bind, run_underlying h2, Result.andThen_ok]
 have hr : (Conv.intToString n).run P w = .ok (.string ⟨#[UInt8.ofNat n.toNat]⟩) w := by
  unfold Conv.intToString
  rw [he]
  rfl
 cases ds <;> exact hr
theorem run_convS {sr d : TypeId} {ds : TypeDesc} {z : ByteArray} (h1 : P.underlying sr = some ds) (h2 : P.underlying d = some .string) : (convert sr d (.string z)).run P w = .ok (.string z) w := by
 unfold convert
 rw [Sem.run_bind, run_underlying h1, Result.andThen_ok, Sem.run_bind, run_underlying h2, Result.andThen_ok]
 cases ds <;> rfl
theorem Sim.seen (h : Sim B w0 ι H w) {b : Nat} {cur : Array Value} {ty : TypeId} {fr : Nat × Nat} (hb : w.heap[b]? = some (.cells cur ty fr)) (hn : ∀ (i : Nat) (o : AObj), H[i]? = some o → o.owned = true → (ι i).block ≠ b) : Sim B w0 (frzE ι b cur) H w := by
 have hA := frzE_agree h hb H.length
 refine ⟨h.below, h.big, h.known, h.scope, fun i o hi => AObj.holds_agree hA (h.scope i o hi) (h.obj i o hi), h.sep, h.base, fun b' o v hf => ?_, fun i o hi ho o' => ?_⟩
 ·simp only [frzE] at hf
  split at hf
  ·rename_i e; subst e; exact ⟨cur, _, fr, hb, hf⟩
  ·exact h.froz _ _ _ hf
 ·show (if (ι i).block = b then cur[o']? else ι.fz (ι i).block o') = none
  rw [if_neg (hn i o hi ho)]
  exact h.apart i o hi ho o'
theorem runK_bytes {sr d e : TypeId} {ds : TypeDesc} {z : ByteArray} (hs : Sim B w0 ι H w) (hds : P.underlying sr = some ds) (hd : P.underlying d = some (.slice e)) (he : P.underlying e = some (.int .u8)) (hk : K (.c (.lst 1 (bytesL z))) H) : RunK P B w0 ι H.length K (convert sr d (.string z)) w := by
 have hg : w.grownBy (Lib.bytesWorld w e z) none := ⟨by first | (simp [Lib.bytesWorld, World.freeze]; done) | (simp [Lib.bytesWorld, World.freeze]; rfl), by first | (simp [Lib.bytesWorld, World.freeze]; done) | (simp [Lib.bytesWorld, World.freeze]; rfl), by first | (simp [Lib.bytesWorld, World.freeze]; done) | (simp [Lib.bytesWorld, World.freeze]; rfl), by rw [Lib.bytesWorld_size]; omega, fun k hk _ => Lib.bytesWorld_at_old w e z k hk⟩
 have h1 := hs.grown hg
 have hb := Lib.bytesWorld_at_new w e z
 have hn : ∀ (i : Nat) (o : AObj), H[i]? = some o → o.owned = true → (ι i).block ≠ w.heap.size := fun i o hi ho e => by
  have hl : o.live = true := by cases o <;> simp_all [AObj.owned, AObj.live]
  have := AObj.holds_lt hl (hs.obj i o hi)
  omega
 have h2 := h1.seen hb hn
 have hA := frzE_agree h1 hb H.length
 refine ⟨_, _, _, .c (.lst 1 (bytesL z)), H, Lib.run_convert_string_bytes w sr d e z hds hd he, hA, Nat.le_refl _, h2, ?_, trivial, hk⟩
 show AC.rel _ (.lst 1 (bytesL z)) _
 simp only [AC.rel, AC.relZ]
 have hl : (bytesL z).length = z.size := by simp [bytesL]
 refine ⟨some ⟨w.heap.size, 0, none⟩, _, by rw [hl], by rw [hl]; exact grownCap_ge w z.size 0 e, ?_, by simp, fun a ha => ?_⟩
 ·intro x hx
  obtain ⟨b, _, rfl⟩ := List.mem_map.1 hx
  rfl
 ·injection ha with ha; subst ha
  refine ⟨.inr rfl, relRows_of fun k x hk => relCells_of fun j y hj => ?_⟩
  have hkl := getElem?_lt hk
  rw [hl] at hkl
  unfold bytesL at hk
  rw [List.getElem?_map] at hk
  have hkd : k < z.data.toList.length := by simpa using hkl
  rw [List.getElem?_eq_getElem hkd] at hk
  injection hk with hk
  subst hk
  have hj0 : j = 0 := by
   have := getElem?_lt hj
   simp at this
   exact this
  subst hj0
  injection hj with hj
  subst hj
  refine ⟨_, ?_, rfl⟩
  show (if w.heap.size = w.heap.size then (Lib.bytesCells w e z)[0 + k * 1 + 0]? else _) = _
  rw [if_pos rfl, show 0 + k * 1 + 0 = k by omega]
  unfold Lib.bytesCells
  rw [Array.getElem?_append_left (by simpa using hkl), Array.getElem?_map]
  have : k < z.data.size := hkl
  rw [Array.getElem?_eq_getElem this]
  simp
theorem unbyte_get : ∀ {els : List (List AC)} {l : List UInt8}, unbyte els = some l → els.length = l.length ∧ ∀ k (h : k < l.length), els[k]? = some [.int .u8 (l[k].toNat : Int)]
 | [], l, h => by simp [unbyte] at h; subst h; simp
 | [.int .u8 n] :: els, l, h => by
  unfold unbyte at h
  split at h
  ·rename_i hn
   obtain ⟨l', h1, rfl⟩ := Option.map_eq_some_iff.1 h
   obtain ⟨h2, h3⟩ := unbyte_get h1
   refine ⟨by simp [h2], fun k hk => ?_⟩
   cases k with
   | zero =>
    have : ((UInt8.ofNat n.toNat).toNat : Int) = n := by
     rw [UInt8.toNat_ofNat']
     omega
    simp only [List.getElem?_cons_zero, List.getElem_cons_zero, this]
   | succ k => simpa using h3 k (by simpa using hk)
  ·cases h
theorem runK_unbyte {sr d e : TypeId} {v : Value} {sz : Nat} {els : List (List AC)} {l : List UInt8} (hs : Sim B w0 ι H w) (hr : AC.rel ι (.lst sz els) v) (hl : unbyte els = some l) (hd : P.underlying sr = some (.slice e)) (he : P.underlying e = some (.int .u8)) (hstr : P.underlying d = some .string) (hk : K (.c (.str ⟨l.toArray⟩)) H) : RunK P B w0 ι H.length K (convert sr d v) w := by
 obtain ⟨hlen, hget⟩ := unbyte_get hl
 simp only [AC.rel, AC.relZ] at hr
 obtain ⟨p, c, rfl, h2, h3, h4, h5⟩ := hr
 have hn : (convert sr d (.slice p els.length c)).run P w = .ok (.string ⟨l.toArray⟩) w := by
  cases p with
  | none =>
   obtain ⟨rfl, rfl⟩ := h4 rfl
   have : l = [] := List.length_eq_zero_iff.1 (by simpa using hlen.symm)
   subst this
   exact run_convert_bytes_nil w sr e hd he _ _ d hstr
  | some a =>
   rw [hlen]
   refine run_convert_bytes_back w sr d e a c l hd he hstr fun j hj => ?_
   obtain ⟨h6, h7⟩ := h5 a rfl
   have hsp : a.spot = none := by
    rcases h6 with h6 | h6
    ·subst h6; simp at hlen; omega
    ·exact h6
   have hgj := hget j hj
   have hs1 : sz = 1 := (h3 _ (List.mem_of_getElem? hgj)).symm
   subst hs1
   obtain ⟨u, hu, hv⟩ := relCells_get (relRows_get h7 j _ hgj) 0 _ rfl
   have hv : u = .int .u8 (l[j].toNat : Int) := hv
   subst hv
   obtain ⟨cur, ty, fr, h8, h9⟩ := hs.froz _ _ _ hu
   have e1 : a.add j = ⟨a.block, a.off + j, none⟩ := by
    unfold Addr.add
    cases a
    simp_all
   rw [e1]
   unfold World.cell?
   dsimp only
   rw [h8]
   rw [show a.off + j = a.off + j * 1 + 0 by omega]
   exact h9
 exact runK_same hs (v := .string ⟨l.toArray⟩) (av := .c (.str ⟨l.toArray⟩)) hn rfl trivial hk
theorem bytesT_spec {d : TypeId} (h : bytesT P d = true) : ∃ e, P.underlying d = some (.slice e) ∧ P.underlying e = some (.int .u8) := by
 unfold bytesT at h
 split at h
 ·rename_i e he
  refine ⟨e, he, ?_⟩
  unfold intK at h
  split at h
  ·rename_i k hk
   have : k = .u8 := by simpa using h
   rw [hk, this]
  ·simp at h
 ·cases h
set_option maxHeartbeats 1000000 in
theorem aOp_sound (hs : Sim B w0 ι H w) (hF : FOk dd N ι H.length F a) (h : aOp P o.op (evC F) H K) : o.wp P a w (StepK B w0 ι H.length a o.dst K) Q := by
 have R := fun x => evC_rel hF x
 have O := fun x => evC_ok hF x
 obtain ⟨dst, op, ty, pos, after, guard⟩ := o
 cases op <;> first | exact h.elim | skip
 case move x => exact step_val hs rfl (R x) (O x) h
 case assign x => exact step_val hs rfl (R x) (O x) h
 case pick c x y =>
  simp only [aOp, aPick] at h
  split at h
  ·rename_i t hc
   have hcv : a.eval c = .bool t := by have := R c; rw [hc] at this; exact this
   have hrun : (execOp a.eval ⟨dst, .pick c x y, ty, pos, after, guard⟩).run P w = .ok (.value (if t = true then a.eval x else a.eval y)) w := by
    simp [execOp, hcv, asBool]
   split at h
   ·rename_i p q hx hy
    have hxv : a.eval x = .bool p := by have := R x; rw [hx] at this; exact this
    have hyv : a.eval y = .bool q := by have := R y; rw [hy] at this; exact this
    refine step_same hs hrun (av := .c (.bool (bif t then p else q))) ?_ trivial h
    rw [hxv, hyv]
    cases t <;> rfl
   ·refine step_same hs hrun ?_ ?_ h
    ·cases t
     ·exact R y
     ·exact R x
    ·cases t
     ·exact O y
     ·exact O x
  ·exact h.elim
 case binOp b t x y t2 =>
  have h : aBinO P t b (evC F x) (evC F y) (isNilS y) (isNilI y) (fun v => K v H) := h
  have hxr := R x
  have hyr := R y
  unfold aBinO at h
  split at h
  ·rename_i hni
   have hy := isNilI_spec hni
   have hv : a.eval y = .nilIface := by rw [hy]; rfl
   obtain ⟨hg, r, av, h1, h2, h3, h4⟩ := aNilI_run (P := P) (w := w) (n := H.length) (t := t) (X := x) h hxr hy
   refine step_same hs (v := r) ?_ h2 h3 h4
   simp only [execOp, Sem.run_bind, hv, hg, Result.andThen_ok, h1, Sem.run_pure]
  obtain ⟨hg, r, av, h1, h2, h3, h4⟩ := aBinN_run (P := P) (w := w) (n := H.length) (t := t) h hxr hyr
  refine step_same hs (v := r) ?_ h2 h3 h4
  have hg' : (eqGuard b t x y (a.eval x) (a.eval y)).run P w = .ok () w := by
   rcases hg with ⟨p, hp⟩ | hg
   ·rw [hp] at hxr; exact run_eqGuard' (rel_noagg (by rintro rfl; rw [hp] at h; exact nili_no h) hxr)
   ·exact hg x y
  simp only [execOp, Sem.run_bind, hg', Result.andThen_ok, h1, Sem.run_pure]
 case unOp u t x =>
  simp only [aOp, aUn] at h
  split at h
  ·rename_i b hx
   have hv : a.eval x = .bool b := by have := R x; rw [hx] at this; exact this
   exact step_same hs (v := .bool !b) (av := .c (.bool !b)) (by simp [execOp, hv, Op.unary]) rfl trivial h
  ·rename_i k z hx
   have hv : a.eval x = .int k z := by have := R x; rw [hx] at this; exact this
   exact step_same hs (v := .int k (k.wrap (0 - z))) (av := .c (.int k (k.wrap (0 - z)))) (by simp [execOp, hv, Op.unary, Op.intArith]) rfl trivial h
  ·exact h.elim
 case alloc t =>
  simp only [aOp, aNew] at h
  split at h
  ·rename_i cs hz
   exact runK_wp rfl (runK_alloc hs hz h)
  ·exact h.elim
 case box t x =>
  simp only [aOp, aNew] at h
  split at h
  ·rename_i cs hz
   exact runK_wp rfl (runK_box hs hz (R x) (O x) h)
  ·exact h.elim
 case build t ps =>
  simp only [aOp, aBuild] at h
  split at h
  ·rename_i cs hcs
   obtain ⟨hfo, h⟩ := h
   cases hz : zeroT P t with
   | none => rw [hz] at hcs; cases hcs
   | some z =>
    rw [hz, Option.bind_some] at hcs
    have hfs : ∃ fs, P.underlying t = some (.struct fs) := by
     unfold fieldsOk at hfo
     split at hfo
     ·rename_i fs hfs; exact ⟨fs, hfs⟩
     ·cases hfo
    obtain ⟨fs, hfs⟩ := hfs
    exact runK_wp rfl (runK_build hs hF hfs hfo hz hcs h)
  ·exact h.elim
 case buildSlice t k ps =>
  simp only [aOp, aLit] at h
  cases he : elemT P t with
  | none => rw [he] at h; exact h.elim
  | some e =>
   rw [he] at h
   simp only [Option.bind_some, Option.elim_some] at h
   cases hl : litEls (szT P e) 0 (partsOf ps.toList (evC F)) with
   | none => rw [hl] at h; exact h.elim
   | some els =>
    rw [hl] at h
    exact runK_wp rfl (runK_buildSlice hs hF he hl h)
 case load t x =>
  simp only [aOp, aLoad] at h
  split at h
  ·rename_i i k j hx
   have hv : a.eval x = ptrOf ι (i, k, j) := by have := R x; rw [hx] at this; exact this
   unfold elAt at h
   split at h
   ·rename_i ty' sz els own hi
    cases hk : els[k]? with
    | none => rw [hk] at h; simp only [aLd] at h
    | some e =>
     rw [hk] at h
     refine runK_wp (s := Instr.loadAt t (a.eval x)) rfl ?_
     rw [hv]
     refine runK_load hs hi hk ?_
     cases ht : aggT P t with
     | true => rw [ht] at h; simp only [aLd, aIf] at h; rw [if_pos rfl]; exact ⟨h.1.1, h.1.2, h.2⟩
     | false => rw [ht] at h; simp only [aLd, aOf] at h; rw [if_neg sMp]; exact h
   ·simp only [aLd] at h
  ·rename_i cs hx
   have hv : AC.rel ι (.fp cs) (a.eval x) := by have := R x; rw [hx] at this; exact this
   refine runK_wp (s := Instr.loadAt t (a.eval x)) rfl (runK_fload hs hv ?_)
   cases ht : aggT P t with
   | true => rw [ht] at h; simp only [aLd, aIf] at h; rw [if_pos rfl]; exact ⟨h.1.1, by simpa using h.1.2, by simpa using h.2⟩
   | false => rw [ht] at h; simp only [aLd, aOf] at h; rw [if_neg sMp]; exact h
  ·exact h.elim
 case store t x y =>
  simp only [aOp, aSt] at h
  split at h
  ·rename_i i k j cs hx hc
   have hv : a.eval x = ptrOf ι (i, k, j) := by have := R x; rw [hx] at this; exact this
   unfold aSt2 at h
   split at h
   ·rename_i ty' sz els hi
    unfold aSt3 at h
    split at h
    ·rename_i e hk
     obtain ⟨⟨h1, h2, h3⟩, h4⟩ := h
     obtain ⟨w', h5, ι', av, H', h6, h7, h8, h9, h10, h11⟩ := runK_store (P := P) hs hi hk hc (R y) (O y) h1 h2 h3 h4
     refine wp_skp (w' := w') ?_ ⟨ι', _, av, H', rfl, h6, h7, h8, h9, h10, h11⟩
     show (do Instr.storeAt t (a.eval x) (a.eval y); pure Next.skip : Sem Next).run P w = _
     rw [hv]
     simp [h5]
    ·exact h.elim
   ·exact h.elim
  ·exact h.elim
 case nilCheck x =>
  simp only [aOp, aNil] at h
  split at h
  ·rename_i p hx
   have hv : a.eval x = ptrOf ι p := by have := R x; rw [hx] at this; exact this
   have ho := O x
   rw [hx] at ho
   exact step_same hs (v := ptrOf ι p) (av := .c (.ptr (some p))) (by simp [execOp, hv, ptrOf]) rfl ho h
  ·rename_i cs hx
   have hv : AC.rel ι (.fp cs) (a.eval x) := by have := R x; rw [hx] at this; exact this
   have hv' := hv
   simp only [AC.rel, AC.relZ] at hv'
   obtain ⟨b, o, he, _⟩ := hv'
   exact step_same hs (v := a.eval x) (av := .c (.fp cs)) (by simp [execOp, he]) hv trivial h
  ·exact h.elim
 case fieldAddr s x f =>
  simp only [aOp, aFld] at h
  split at h
  ·rename_i i k j p q hx hf
   have hv : a.eval x = ptrOf ι (i, k, j) := by have := R x; rw [hx] at this; exact this
   have ho := O x
   rw [hx] at ho
   refine runK_wp (s := Instr.fieldAt s (a.eval x) f) rfl ?_
   rw [hv]
   exact runK_field hs ho hf h.1 h.2
  ·rename_i cs p q hx hf
   have hv : AC.rel ι (.fp cs) (a.eval x) := by have := R x; rw [hx] at this; exact this
   exact runK_wp (s := Instr.fieldAt s (a.eval x) f) rfl (runK_ffield hs hv hf h.1 h.2)
  ·exact h.elim
 case indexAddr t x ix =>
  simp only [aOp, aIx] at h
  split at h
  ·rename_i i k z kd q s hx hq hs'
   obtain ⟨e, he, rfl⟩ := Option.map_eq_some_iff.1 hs'
   rw [he, Option.elim_some] at h
   unfold aIx2 at h
   split at h
   ·rename_i ty' sz els own hi
    have hv := R x
    rw [hx] at hv
    have hqv : a.eval ix = .int kd q := by have := R ix; rw [hq] at this; exact this
    refine runK_wp (s := Instr.indexAt t (a.eval x) (a.eval ix)) rfl ?_
    rw [hqv]
    exact runK_index hs hv he hi h.1.1 h.1.2.1 h.1.2.2.1 h.1.2.2.2 h.2
   ·exact h.elim
  ·rename_i sz els kd q s hx hq hs'
   obtain ⟨e, he, rfl⟩ := Option.map_eq_some_iff.1 hs'
   rw [he, Option.elim_some] at h
   unfold aIxL at h
   split at h
   ·rename_i x' hx'
    have hv : AC.rel ι (.lst sz els) (a.eval x) := by have := R x; rw [hx] at this; exact this
    have hqv : a.eval ix = .int kd q := by have := R ix; rw [hq] at this; exact this
    refine runK_wp (s := Instr.indexAt t (a.eval x) (a.eval ix)) rfl ?_
    rw [hqv]
    exact runK_findex hs hv he h.1.1 h.1.2.1 h.1.2.2.1 h.1.2.2.2 hx' h.2
   ·exact h.elim
  ·exact h.elim
 case index t x ix =>
  simp only [aOp, aStr] at h
  split at h
  ·rename_i s kd q hx hq
   obtain ⟨⟨h1, h2, h3⟩, h4⟩ := h
   have h1 : P.underlying t = some .string := by
    unfold strT at h1
    split at h1
    ·assumption
    ·cases h1
   have hv : a.eval x = .string s := by have := R x; rw [hx] at this; exact this
   have hqv : a.eval ix = .int kd q := by have := R ix; rw [hq] at this; exact this
   refine runK_wp (s := Instr.index t (a.eval x) (a.eval ix)) rfl ?_
   rw [hqv, hv]
   have hlt : q.toNat < s.size := by omega
   have e : (s.data.toList.getD q.toNat 0) = s[q.toNat] := by
    have : q.toNat < s.data.toList.length := by simpa using hlt
    simp [List.getD, List.getElem?_eq_getElem this]
    rfl
   rw [e] at h4
   exact runK_same hs (v := .int .u8 s[q.toNat].toNat) (av := .c (.int .u8 s[q.toNat].toNat)) (by simp [Instr.index, asIntOf, run_underlying h1, h2, hlt]) rfl trivial h4
  ·exact h.elim
 case convert s d x =>
  simp only [aOp, aCv] at h
  split at h
  ·rename_i kd n hx
   unfold aCv2 at h
   split at h
   ·rename_i k hk
    have hk : P.underlying d = some (.int k) := by
     unfold intK at hk
     split at hk
     ·rename_i k' h1; injection hk with hk; subst hk; exact h1
     ·cases hk
    obtain ⟨ds, hds⟩ := Option.isSome_iff_exists.1 h.1
    have hv : a.eval x = .int kd n := by have := R x; rw [hx] at this; exact this
    refine runK_wp (s := convert s d (a.eval x)) rfl ?_
    rw [hv]
    exact runK_same hs (v := .int k (k.wrap n)) (av := .c (.int k (k.wrap n))) (run_convI hds hk) rfl trivial h.2
   ·have h1 := h.1
    have hd : P.underlying d = some .string := by
     have h2 := h1.2.1
     unfold strT at h2
     split at h2
     ·assumption
     ·cases h2
    obtain ⟨ds, hds⟩ := Option.isSome_iff_exists.1 h1.1
    have hv : a.eval x = .int kd n := by have := R x; rw [hx] at this; exact this
    refine runK_wp (s := convert s d (a.eval x)) rfl ?_
    rw [hv]
    exact runK_same hs (v := .string ⟨#[UInt8.ofNat n.toNat]⟩) (av := .c (.str ⟨#[UInt8.ofNat n.toNat]⟩)) (run_convR hds hd h1.2.2) rfl trivial h.2
  ·rename_i z hx
   have hv : a.eval x = .string z := by have := R x; rw [hx] at this; exact this
   unfold aCvS at h
   split at h
   ·rename_i hb
    obtain ⟨e, hd, he⟩ := bytesT_spec hb
    have h1 := h.1
    obtain ⟨ds, hds⟩ := Option.isSome_iff_exists.1 h1
    refine runK_wp (s := convert s d (a.eval x)) rfl ?_
    rw [hv]
    exact runK_bytes hs hds hd he h.2
   ·have hd : P.underlying d = some .string := by
     have h1 := h.1.2
     unfold strT at h1
     split at h1
     ·assumption
     ·cases h1
    obtain ⟨ds, hds⟩ := Option.isSome_iff_exists.1 h.1.1
    refine runK_wp (s := convert s d (a.eval x)) rfl ?_
    rw [hv]
    exact runK_same hs (v := .string z) (av := .c (.str z)) (run_convS hds hd) rfl trivial h.2
  ·rename_i sz els hx
   have hr : AC.rel ι (.lst sz els) (a.eval x) := by have := R x; rw [hx] at this; exact this
   unfold aCvB at h
   split at h
   ·rename_i l hl
    obtain ⟨e, hd, he⟩ := bytesT_spec h.1.1
    have hstr : P.underlying d = some .string := by
     have h1 := h.1.2
     unfold strT at h1
     split at h1
     ·assumption
     ·cases h1
    refine runK_wp (s := convert s d (a.eval x)) rfl ?_
    exact runK_unbyte hs hr hl hd he hstr h.2
   ·exact h.elim
  ·exact h.elim
 case makeMap t r =>
  simp only [aOp, aNewM] at h
  cases r with
  | none => exact runK_wp rfl (runK_makeMap hs h)
  | some _ => exact h.elim
 case range t x =>
  simp only [aOp, aRange] at h
  split at h
  ·rename_i i hm
   have hv : a.eval x = .map (some (ι i).block) := by have := R x; rw [hm] at this; exact this
   obtain ⟨hmt, h⟩ := h
   unfold aRange2 at h
   split at h
   ·rename_i bs vt es hi
    refine runK_wp (s := Instr.range t (a.eval x)) rfl ?_
    rw [hv]
    exact runK_range hs hi h.1 hmt h.2
   ·exact h.elim
  ·exact h.elim
 case next x s =>
  simp only [aOp, aNext] at h
  split at h
  ·rename_i r hm
   have hv : a.eval x = ptrOf ι (r, 0, 0) := by have := R x; rw [hm] at this; exact this
   unfold aNext2 at h
   split at h
   ·rename_i since last seen i q hr
    unfold aNext3 at h
    split at h
    ·rename_i bs vt es hi
     refine runK_wp (s := Instr.next (a.eval x) false ty) rfl ?_
     have hpt : ptrOf ι (r, 0, 0) = .pointer (some ⟨(ι r).block, 0, none⟩) := by
      have hb := (hs.obj r _ hr).1
      simp [ptrOf, Loc.at, hb]
     rw [hv, hpt]
     exact runK_next hs hr hi h.1 h.2
    ·exact h.elim
   ·exact h.elim
  ·exact h.elim
 case entry x =>
  simp only [aOp, aEnt] at h
  split at h
  ·rename_i r hm
   have hv : a.eval x = ptrOf ι (r, 0, 0) := by have := R x; rw [hm] at this; exact this
   unfold aEnt2 at h
   split at h
   ·rename_i since last seen i q hr
    unfold aEnt3 at h
    split at h
    ·rename_i bs vt es hi
     refine runK_wp (s := Instr.entry (a.eval x)) rfl ?_
     have hpt : ptrOf ι (r, 0, 0) = .pointer (some ⟨(ι r).block, 0, none⟩) := by
      have hb := (hs.obj r _ hr).1
      simp [ptrOf, Loc.at, hb]
     rw [hv, hpt]
     exact runK_entry hs hr hi h
    ·exact h.elim
   ·exact h.elim
  ·exact h.elim
 case makeSlice t x y =>
  simp only [aOp, aMkS] at h
  split at h
  ·rename_i k q k' q' e z hx hy he hz
   have hxv : a.eval x = .int k q := by have := R x; rw [hx] at this; exact this
   have hyv : a.eval y = .int k' q' := by have := R y; rw [hy] at this; exact this
   refine runK_wp (s := Instr.makeSlice t (a.eval x) (a.eval y)) rfl ?_
   rw [hxv, hyv]
   rw [he] at h hz
   simp only [Option.elim_some, Option.bind_some] at h hz
   obtain ⟨⟨rfl, g2, g3, g4, g5, g6⟩, g7⟩ := h
   exact runK_makeSlice hs he hz g2 g3 g4 g5 g6 g7
  ·exact h.elim
 case mapUpdate t m k x =>
  simp only [aOp, aMapUp] at h
  split at h
  ·rename_i i kt hm hkt
   obtain ⟨e, hu⟩ := mapK_und hkt
   have hv : a.eval m = .map (some (ι i).block) := by have := R m; rw [hm] at this; exact this
   unfold aMapUp2 at h
   split at h
   ·rename_i p q es hi
    obtain ⟨h1, h2⟩ := h
    unfold aPutM at h2
    split at h2
    ·rename_i es' hp
     obtain ⟨hq, h2⟩ := h2
     obtain ⟨w', h5, h6⟩ := run_mapUp (P := P) hs hi hq hu h1 hp (R k) (R x) (O k) (O x)
     refine wp_skp (w' := w') ?_ ⟨ι, _, .any, _, rfl, Agree.refl _ _, by simp, h6, trivial, trivial, h2⟩
     show (do Instr.mapUpdate t (a.eval m) (a.eval k) (a.eval x); pure Next.skip : Sem Next).run P w = _
     rw [hv]
     simp [h5]
    ·exact h2.elim
   ·exact h.elim
  ·exact h.elim
 case insert t m k x =>
  simp only [aOp, aMapUp] at h
  split at h
  ·rename_i i kt hm hkt
   obtain ⟨e, hu⟩ := mapK_und hkt
   have hv : a.eval m = .map (some (ι i).block) := by have := R m; rw [hm] at this; exact this
   unfold aMapUp2 at h
   split at h
   ·rename_i p q es hi
    obtain ⟨h1, h2⟩ := h
    unfold aPutM at h2
    split at h2
    ·rename_i es' hp
     obtain ⟨hq, h2⟩ := h2
     obtain ⟨w', h5, h6⟩ := run_mapUp (P := P) hs hi hq hu h1 hp (R k) (R x) (O k) (O x)
     refine wp_skp (w' := w') ?_ ⟨ι, _, .any, _, rfl, Agree.refl _ _, by simp, h6, trivial, trivial, h2⟩
     show (do Instr.mapUpdate t (a.eval m) (a.eval k) (a.eval x); pure Next.skip : Sem Next).run P w = _
     rw [hv]
     simp [h5]
    ·exact h2.elim
   ·exact h.elim
  ·exact h.elim
 case lookup t x ix ok =>
  have hu : ∀ {kt : TypeId}, mapK P t = some kt → ∃ e, P.underlying t = some (.map kt e) ∧ (mapE P t).bind (zeroA P) = zeroA P e := by
   intro kt hkt
   obtain ⟨e, hu⟩ := mapK_und hkt
   exact ⟨e, hu, by simp [mapE, hu]⟩
  simp only [aOp, aLook] at h
  split at h
  ·rename_i i kt hm hkt
   have hv : a.eval x = .map (some (ι i).block) := by have := R x; rw [hm] at this; exact this
   unfold aLook2 at h
   split at h
   ·rename_i p q es hi
    obtain ⟨⟨hq, h1⟩, h2⟩ := h
    unfold aGetM at h2
    split at h2
    ·rename_i v b hg
     obtain ⟨ents, clock, hvt, hb, hbs, hsz, hr⟩ := map_obj hs hi hq
     refine runK_wp (s := Instr.lookup t (a.eval x) (a.eval ix) ok) rfl ?_
     exact run_look hs (hu hkt) (.inr ⟨_, clock, hv, hb⟩) hr (hs.scope i _ hi) h1 (R ix) hg h2.1 h2.2
    ·exact h2.elim
   ·exact h.elim
  ·rename_i kt hm hkt
   have hv : a.eval x = .map none := by have := R x; rw [hm] at this; exact this
   obtain ⟨h1, h2⟩ := h
   unfold aGetM at h2
   split at h2
   ·rename_i v b hg
    refine runK_wp (s := Instr.lookup t (a.eval x) (a.eval ix) ok) rfl ?_
    exact run_look (es := []) (ms := #[]) hs (hu hkt) (.inl ⟨hv, rfl⟩) trivial (by intro p hp; simp at hp) h1 (R ix) (by simpa [mapGet] using hg) h2.1 h2.2
   ·exact h2.elim
  ·exact h.elim
 case makeInterface t x =>
  simp only [aOp, aIfc] at h
  split at h
  ·exact h.elim
  ·have hc := h.1
   have hrun : (Instr.makeInterface t (a.eval x)).run P w = .ok (.iface t (a.eval x)) w := by
    unfold conT at hc
    split at hc
    ·cases hc
    ·cases hc
    ·rename_i h1 h2
     cases hd : P.underlying t with
     | none => exact absurd hd h2
     | some ds => cases ds <;> first | exact absurd hd (h1 _) | simp [Instr.makeInterface, run_underlying hd]
   refine runK_wp (s := Instr.makeInterface t (a.eval x)) rfl ?_
   exact runK_same hs (v := .iface t (a.eval x)) (av := .c .ifc) hrun ⟨_, _, rfl⟩ trivial h.2
 case field s x f =>
  simp only [aOp, aFd] at h
  have hfld : ∀ (o n : Nat) (ag : Bool), fieldK P s f = some (o, n, ag) → ∃ fs y, P.underlying s = some (.struct fs) ∧ fs[f]? = some y ∧ (P.info? y.type).isSome = true ∧ (P.underlying y.type).isSome = true ∧ y.offset = o ∧ szT P y.type = n ∧ aggT P y.type = ag := by
   intro o n ag hf
   unfold fieldK at hf
   split at hf
   ·rename_i fs hfs
    split at hf
    ·rename_i y hy
     split at hf
     ·rename_i hc
      injection hf with hf
      injection hf with h1 h2
      injection h2 with h2 h3
      exact ⟨fs, y, hfs, hy, hc.1, hc.2, h1, h2, h3⟩
     ·cases hf
    ·cases hf
   ·cases hf
  split at h
  ·rename_i cs o n hx hf
   obtain ⟨fs, y, h1, h2, h3, h4, rfl, rfl, h7⟩ := hfld o n true hf
   have hv := R x
   rw [hx] at hv
   obtain ⟨us, hu, hr⟩ := hv
   have ho := O x
   rw [hx] at ho
   refine runK_wp (s := Instr.field s (a.eval x) f) rfl ?_
   rw [hu]
   refine runK_same hs (v := .agg ((us.drop y.offset).take (szT P y.type)).toArray) (av := .agg ((cs.drop y.offset).take (szT P y.type))) ?_ ⟨_, rfl, relL_take _ (relL_drop _ hr)⟩ (fun z hz => ho z (List.mem_of_mem_drop (List.mem_of_mem_take hz))) h.2
   simp only [Instr.field, Sem.run_bind, run_underlying h1, Result.andThen_ok, h2, asAgg, Sem.run_pure, part, run_isAgg h7, run_sizeOf h3, if_true]
   have := relL_len hr
   have h8 := h.1
   simp [List.extract_eq_take_drop]
  ·rename_i cs o n hx hf
   obtain ⟨fs, y, h1, h2, h3, h4, rfl, rfl, h7⟩ := hfld o n false hf
   have hv := R x
   rw [hx] at hv
   obtain ⟨us, hu, hr⟩ := hv
   have ho := O x
   rw [hx] at ho
   unfold aOf at h
   split at h
   ·rename_i z hz
    obtain ⟨u, h8, h9⟩ := relL_get hr _ _ hz
    refine runK_wp (s := Instr.field s (a.eval x) f) rfl ?_
    rw [hu]
    refine runK_same hs (v := u) (av := .c z) ?_ h9 (ho z (List.mem_of_getElem? hz)) h
    have hag := fun w => run_noAgg (P := P) h7 h4 w
    simp only [Instr.field, Sem.run_bind, run_underlying h1, Result.andThen_ok, h2, asAgg, Sem.run_pure, part, hag]
    simp [h8]
   ·exact h.elim
  ·exact h.elim
 case makeFunc fn fs cs =>
  simp only [aOp, aMk] at h
  split at h
  ·rename_i f ps qs h1 h2
   obtain ⟨h3, h4⟩ := ptrsOf_rel (ι := ι) (n := H.length) (a := a) (fun x _ => ⟨R x, O x⟩) h1
   obtain ⟨h5, h6⟩ := ptrsOf_rel (ι := ι) (n := H.length) (a := a) (fun x _ => ⟨R x, O x⟩) h2
   refine runK_wp (s := Instr.makeFunc (.func f) (fs.map a.eval) (cs.map a.eval)) rfl ?_
   refine runK_same hs (s := Instr.makeFunc (.func f) (fs.map a.eval) (cs.map a.eval)) (v := .func (.func f) (fs.map a.eval) (cs.map a.eval)) (av := .c (.fn f ps qs)) rfl ?_ ⟨h4, h6⟩ h
   show _ = _
   congr 1
   ·rw [← h3, ← Array.toList_map]
   ·rw [← h5, ← Array.toList_map]
  ·exact h.elim
 case extract x ix =>
  simp only [aOp, aExt, aExt2] at h
  split at h
  ·rename_i vs hx
   have hv := R x
   rw [hx] at hv
   obtain ⟨us, hu, hr⟩ := hv
   have ho := O x
   rw [hx] at ho
   split at h
   ·rename_i v hvx
    have key : ∀ {xs : List AV} {us : List Value}, rel1L ι xs us → ∀ (j : Nat) (y : AV), xs[j]? = some y → ∃ u, us[j]? = some u ∧ y.rel1 ι u := by
     intro xs
     induction xs with
     | nil => intro us _ j y hy; simp at hy
     | cons x xs ih =>
      intro us hr j y hy
      cases us with
      | nil => exact hr.elim
      | cons u us =>
       cases j with
       | zero => simp at hy; subst hy; exact ⟨u, rfl, hr.1⟩
       | succ j => simp at hy; exact ih hr.2 j y hy
    obtain ⟨u, h1, h2⟩ := key hr ix v hvx
    refine step_same hs (v := u) (av := v) ?_ ?_ ?_ h
    ·simp [execOp, hu, Instr.extract, h1]
    ·cases v with
     | tup ts => exact h2.elim
     | _ => exact h2
    ·have h3 := ho v (List.mem_of_getElem? hvx)
     cases v with
     | tup ts => exact h2.elim
     | _ => exact h3
   ·exact h.elim
  ·exact h.elim
 case slice t x lo hi mx =>
  have L := opt_rel hF lo
  have Hh := opt_rel hF hi
  cases mx with
  | some m =>
   have M := opt_rel hF (some m)
   by_cases hsl : ∃ r n, evC F x = .c (.sl r n)
   ·obtain ⟨r, n, hx⟩ := hsl
    have key : ∃ k q k2 q2, evC F m = .c (.int k q) ∧ hi.map (evC F) = some (.c (.int k2 q2)) := by
     simp only [aOp, Option.map_some, hx] at h
     generalize hi.map (evC F) = hv at h ⊢
     generalize evC F m = mv at h ⊢
     unfold mxV at h
     split at h
     ·rename_i h9; cases h9
     ·rename_i h9; cases h9
     ·exact ⟨_, _, _, _, Option.some.inj ‹some mv = some _›, rfl⟩
     ·simp [aSub] at h
    obtain ⟨k1, q, k2, q2, hm, hh⟩ := key
    have hhn : hi.map (evC F) ≠ none := by rw [hh]; simp
    have hmx : mxV (hi.map (evC F)) (some (evC F m)) (evC F x) = .tup [.c (.sl r n), .c (.int .i64 q)] := by rw [hm, hx, hh]; rfl
    simp only [aOp, Option.map_some] at h
    rw [hmx, show mxB (some (evC F m)) (evC F x) = true by rw [hx]; rfl] at h
    simp only [aSub] at h
    cases hlo : loOf (lo.map (evC F)) with
    | none => rw [hlo] at h; exact h.elim
    | some l =>
     rw [hlo] at h
     dsimp only at h
     split at h
     ·rename_i e q' he hhi
      obtain ⟨⟨h1, h2, h3, h4, h5, h6⟩, h7⟩ := h
      have hv : AC.rel ι (.sl r n) (a.eval x) := by have := R x; rw [hx] at this; exact this
      have hmv : a.eval m = .int k1 q := by have := R m; rw [hm] at this; exact this
      refine runK_wp (s := Instr.sliceAt t (a.eval x) (lo.map a.eval) (hi.map a.eval) (some (a.eval m))) rfl ?_
      rw [hmv]
      exact runK_sliceM hs hv he h1 hlo hhi L.1 L.2 Hh.1 Hh.2 h3 h4 h5 h6 hhn h7
     ·exact h.elim
   have key : ∃ k1 k2 q sz els, evC F m = .c (.int k1 q) ∧ hi.map (evC F) = some (.c (.int k2 q)) ∧ evC F x = .c (.lst sz els) ∧ mxV (hi.map (evC F)) (some (evC F m)) (evC F x) = .c (.lst sz els) := by
    simp only [aOp, Option.map_some] at h
    generalize hi.map (evC F) = hv at h ⊢
    generalize evC F m = mv at h ⊢
    generalize evC F x = xv at h hsl ⊢
    unfold mxV at h ⊢
    split at h
    ·rename_i h9; cases h9
    ·rename_i h9
     injection h9 with h9
     subst h9
     split at h
     ·rename_i h12
      subst h12
      exact ⟨_, _, _, _, _, rfl, rfl, rfl, by simp⟩
     ·simp [aSub] at h
    ·exact absurd ⟨_, _, rfl⟩ hsl
    ·simp [aSub] at h
   obtain ⟨k1, k2, q, sz, els, hm, hh, hx, hmx⟩ := key
   obtain ⟨hi', rfl⟩ : ∃ hi', hi = some hi' := by cases hi with | none => cases hh | some y => exact ⟨y, rfl⟩
   simp only [aOp, Option.map_some] at h
   rw [Option.map_some] at hmx
   rw [hmx, show mxB (some (evC F m)) (evC F x) = false by rw [hx]; rfl] at h
   simp only [aSub] at h
   split at h
   ·rename_i _ _ _ _ h9 h10 hlo
    cases h9
   ·rename_i _ _ _ _ h9 h10 hlo
    injection h9 with h9; injection h9 with h9 h11; subst h9; subst h11
    split at h
    ·rename_i e q' he hhi
     have hq : q' = q := by
      rw [Option.map_some] at hh
      injection hh with hh
      rw [hh] at hhi
      injection hhi with hhi
      exact hhi.symm
     subst hq
     obtain ⟨⟨h1, h2, h3, h4, h5⟩, h6⟩ := h
     have hv : AC.rel ι (.lst sz els) (a.eval x) := by have := R x; rw [hx] at this; exact this
     have hmv : a.eval m = .int k1 q' := by have := R m; rw [hm] at this; exact this
     refine runK_wp (s := Instr.sliceAt t (a.eval x) (lo.map a.eval) (some (a.eval hi')) (some (a.eval m))) rfl ?_
     rw [hmv]
     exact runK_fslice3 hs hv he h1 h2 hlo hhi L.1 L.2 Hh.1 Hh.2 h3 h4 h5 h6
    ·exact h.elim
   ·contradiction
   ·rename_i h9 _ _
    cases h9
   ·exact h.elim
  | none =>
  have hmx : ∀ v, mxV (hi.map (evC F)) none v = v := fun v => rfl
  have hmb : ∀ v, mxB none v = false := fun v => rfl
  simp only [aOp, Option.map_none, hmx, hmb, aSub] at h
  split at h
  ·rename_i r k l hx _ hlo
   split at h
   ·rename_i e q he hhi
    obtain ⟨⟨h1, h2, h3, h4, h5⟩, h6⟩ := h
    have hv := R x
    rw [hx] at hv
    have ho := O x
    rw [hx] at ho
    refine runK_wp (s := Instr.sliceAt t (a.eval x) (lo.map a.eval) (hi.map a.eval) none) rfl ?_
    refine runK_slice hs hv ho he h1 ?_ hlo hhi L.1 L.2 Hh.1 Hh.2 h3 h4 h5 h6
    intro i k hr
    subst hr
    unfold rowOk at h2
    dsimp only at h2
    split at h2
    ·rename_i ty' sz els own hi'
     exact ⟨ty', els, own, by rw [hi', h2]⟩
    ·exact h2.elim
   ·exact h.elim
  ·rename_i sz els l hx _ hlo
   split at h
   ·rename_i e q he hhi
    obtain ⟨⟨h1, h2, h3, h4, h5⟩, h6⟩ := h
    have hv : AC.rel ι (.lst sz els) (a.eval x) := by have := R x; rw [hx] at this; exact this
    exact runK_wp (s := Instr.sliceAt t (a.eval x) (lo.map a.eval) (hi.map a.eval) none) rfl (runK_fslice hs hv he h1 h2 hlo hhi L.1 L.2 Hh.1 Hh.2 h3 h4 h5 h6)
   ·exact h.elim
  ·contradiction
  ·rename_i s l hx _ hlo
   split at h
   ·rename_i q hhi
    obtain ⟨⟨h1, h2, h3, h4⟩, h5⟩ := h
    have h1 : P.underlying t = some .string := by
     unfold strT at h1
     split at h1
     ·assumption
     ·cases h1
    have hv : a.eval x = .string s := by have := R x; rw [hx] at this; exact this
    refine runK_wp (s := Instr.sliceAt t (a.eval x) (lo.map a.eval) (hi.map a.eval) none) rfl ?_
    rw [hv]
    have hb := run_bounds (P := P) (ι := ι) (b := false) (n := s.size) (c := s.size) hlo hhi L.1 L.2 Hh.1 Hh.2 h2 h3 h4 lRf w
    exact runK_same hs (v := .string (s.extract l.toNat q.toNat)) (av := .c (.str (s.extract l.toNat q.toNat))) (by simp [Instr.sliceAt, Instr.slice, run_underlying h1, hb]) rfl trivial h5
   ·exact h.elim
  ·exact h.elim
 case call c =>
  obtain ⟨callee, args, ats⟩ := c
  simp only [aOp] at h
  split at h
  ·rename_i b
   have hex : execOp a.eval ⟨dst, .call ⟨.builtin b, args, ats⟩, ty, pos, after, guard⟩ = builtin b ats ty (args.map fun | .const _ => true | _ => false) (args.map a.eval) := rfl
   have key : ∀ as : List AV, args.toList.map (evC F) = as → (∀ x ∈ as, noTup x = true) → ∃ l : List Value, args.map a.eval = l.toArray ∧ rel1L ι as l ∧ ∀ x ∈ as, x.ok1 H.length := by
    intro as has hno
    have hne : ∀ x ∈ args.toList, ∀ ts, evC F x ≠ .tup ts := by
     intro x hx ts he
     have := hno (evC F x) (by rw [← has]; exact List.mem_map.2 ⟨x, hx, rfl⟩)
     rw [he] at this; cases this
    obtain ⟨h1, h2⟩ := argsRel_of (l := args.toList) hF hne
    rw [has] at h1 h2
    exact ⟨args.toList.map a.eval, by rw [← Array.toList_map], h1, h2⟩
   have tys : ∀ l : List TypeId, ats.toList = l → ats = l.toArray := by intro l hl; rw [← hl]
   unfold aBuiltin at h
   split at h
   ·rename_i t r k hts has
    obtain ⟨l, h1, h2, _⟩ := key _ has (by simp [noTup])
    obtain ⟨v, rfl⟩ : ∃ v, l = [v] := by
     match l, h2 with
     | [v], _ => exact ⟨v, rfl⟩
    obtain ⟨e, he⟩ := Option.isSome_iff_exists.1 h.1
    have hv : ∃ ad c, v = .slice ad k c := by
     have := h2.1
     cases r with
     | none => obtain ⟨rfl, rfl⟩ := this; exact ⟨_, _, rfl⟩
     | some p => obtain ⟨ad, rfl, _⟩ := this; exact ⟨_, _, rfl⟩
    obtain ⟨ad, c, rfl⟩ := hv
    refine step_same hs (v := .int .i64 k) (av := .c (.int .i64 k)) ?_ rfl trivial h.2
    rw [hex, h1, tys _ hts]
    simp [builtin, Builtin.len_, run_underlying (elemT_und he), goInt]
   ·rename_i t sz els hts has
    obtain ⟨l, h1, h2, _⟩ := key _ has (by simp [noTup])
    obtain ⟨v, rfl⟩ : ∃ v, l = [v] := by
     match l, h2 with
     | [v], _ => exact ⟨v, rfl⟩
    obtain ⟨e, he⟩ := Option.isSome_iff_exists.1 h.1
    have hv : ∃ ad c, v = .slice ad els.length c := by
     have : AC.rel ι (.lst sz els) v := h2.1
     simp only [AC.rel, AC.relZ] at this
     obtain ⟨p, c, h3, _⟩ := this
     exact ⟨p, c, h3⟩
    obtain ⟨ad, c, rfl⟩ := hv
    refine step_same hs (v := .int .i64 els.length) (av := .c (.int .i64 els.length)) ?_ rfl trivial h.2
    rw [hex, h1, tys _ hts]
    simp [builtin, Builtin.len_, run_underlying (elemT_und he), goInt]
   ·rename_i t s hts has
    obtain ⟨l, h1, h2, _⟩ := key _ has (by simp [noTup])
    obtain ⟨v, rfl⟩ : ∃ v, l = [v] := by
     match l, h2 with
     | [v], _ => exact ⟨v, rfl⟩
    have hv : v = .string s := h2.1
    subst hv
    refine step_same hs (v := .int .i64 s.size) (av := .c (.int .i64 s.size)) ?_ rfl trivial h.2
    rw [hex, h1, tys _ hts]
    simp [builtin, Builtin.len_, run_underlying h.1, goInt]
   ·rename_i k x k2 y has
    obtain ⟨l, h1, h2, _⟩ := key _ has (by simp [noTup])
    obtain ⟨v, u, rfl⟩ : ∃ v u, l = [v, u] := by
     match l, h2 with
     | [v, u], _ => exact ⟨v, u, rfl⟩
    have hv : v = .int k x := h2.1
    have hu : u = .int k2 y := h2.2.1
    subst hv; subst hu
    refine step_same hs (v := .int k (if y < x then y else x)) (av := .c (.int k (if y < x then y else x))) ?_ rfl trivial h
    rw [hex, h1]
    simp [builtin, Builtin.min_, Builtin.min2]
   ·rename_i k x k2 y has
    obtain ⟨l, h1, h2, _⟩ := key _ has (by simp [noTup])
    obtain ⟨v, u, rfl⟩ : ∃ v u, l = [v, u] := by
     match l, h2 with
     | [v, u], _ => exact ⟨v, u, rfl⟩
    have hv : v = .int k x := h2.1
    have hu : u = .int k2 y := h2.2.1
    subst hv; subst hu
    refine step_same hs (v := .int k (if x < y then y else x)) (av := .c (.int k (if x < y then y else x))) ?_ rfl trivial h
    rw [hex, h1]
    simp [builtin, Builtin.max_, Builtin.max2]
   ·rename_i t t' r n0 r2 m0 hts has
    obtain ⟨rfl, h⟩ := h
    split at h
    ·rename_i e he
     obtain ⟨h4, hk0, hk1⟩ := h
     obtain ⟨l, h1, h2, h3⟩ := key _ has (by simp [noTup])
     obtain ⟨v, u, rfl⟩ : ∃ v u, l = [v, u] := by
      match l, h2 with
      | [v, u], _ => exact ⟨v, u, rfl⟩
     have hv : AC.rel ι (.sl r n0) v := h2.1
     have hu : AC.rel ι (.sl r2 m0) u := h2.2.1
     have hvo : (AC.sl r n0).ok H.length := h3 (.c (.sl r n0)) sMp
     have hex2 : execOp a.eval ⟨dst, .call ⟨.builtin .append, args, ats⟩, ty, pos, after, guard⟩ = (do pure (.value (← Builtin.append_ #[t, t] ty #[v, u]))) := by
      rw [hex, h1, tys _ hts]; rfl
     refine runK_wp hex2 ?_
     rcases Nat.eq_zero_or_pos m0 with hm | hm
     ·subst hm
      have hinfo : (P.info? e).isSome = true := by
       obtain ⟨z, hz, _⟩ := Option.map_eq_some_iff.1 h4
       exact zero_info (by rw [hz]; rfl)
      obtain ⟨inf, hinf⟩ := Option.isSome_iff_exists.1 hinfo
      refine runK_same hs (v := v) (av := .c (.sl r n0)) ?_ hv hvo (hk0 rfl)
      have hu' : ∃ ad2 c2, u = .slice ad2 0 c2 := by
       cases r2 with
       | none => obtain ⟨_, rfl⟩ := hu; exact ⟨_, _, rfl⟩
       | some p => obtain ⟨ad, rfl, _⟩ := hu; exact ⟨_, _, rfl⟩
      obtain ⟨ad2, c2, rfl⟩ := hu'
      have hv' : ∃ ad c, v = .slice ad n0 c ∧ n0 ≤ c := by
       cases r with
       | none => obtain ⟨rfl, rfl⟩ := hv; exact ⟨_, _, rfl, Nat.le_refl _⟩
       | some p => obtain ⟨ad, rfl, h7, _⟩ := hv; exact ⟨_, _, rfl, by omega⟩
      obtain ⟨ad, c, rfl, hc⟩ := hv'
      cases ad <;> cases ad2 <;> simp [Builtin.append_, run_underlying (elemT_und he), sizeOf, typeInfo, hinf, Builtin.lenOf, Builtin.firstCells, hc, loadCells, loadCellsFrom, storeCells]
     ·obtain ⟨els, new, h5, h6, h7, h8, h9, h10⟩ := hk1 hm
      obtain ⟨ad2, c2, rfl, hsrc⟩ := src_row hs hu h6 hm h7
      rcases h10 with h10 | ⟨p, rfl, h10, h11⟩
      ·exact runK_append hs hv hvo he h4 h5 hsrc hm h7 h8 h9 h10
      ·have hinfo : (P.info? e).isSome = true := by
        obtain ⟨z, hz, _⟩ := Option.map_eq_some_iff.1 h4
        exact zero_info (by rw [hz]; rfl)
       exact runK_appendIn hs hv he hinfo h5 hsrc h10 h11
    ·exact h.elim
   ·rename_i t t' r n0 sz new hts has
    obtain ⟨rfl, h⟩ := h
    split at h
    ·rename_i e he
     obtain ⟨h4, hk0, hk1⟩ := h
     obtain ⟨l, h1, h2, h3⟩ := key _ has (by simp [noTup])
     obtain ⟨v, u, rfl⟩ : ∃ v u, l = [v, u] := by
      match l, h2 with
      | [v, u], _ => exact ⟨v, u, rfl⟩
     have hv : AC.rel ι (.sl r n0) v := h2.1
     have hu : AC.rel ι (.lst sz new) u := h2.2.1
     have hvo : (AC.sl r n0).ok H.length := h3 (.c (.sl r n0)) sMp
     have hex2 : execOp a.eval ⟨dst, .call ⟨.builtin .append, args, ats⟩, ty, pos, after, guard⟩ = (do pure (.value (← Builtin.append_ #[t, t] ty #[v, u]))) := by
      rw [hex, h1, tys _ hts]; rfl
     refine runK_wp hex2 ?_
     rcases Nat.eq_zero_or_pos new.length with hm | hm
     ·have hinfo : (P.info? e).isSome = true := by
       obtain ⟨z, hz, _⟩ := Option.map_eq_some_iff.1 h4
       exact zero_info (by rw [hz]; rfl)
      obtain ⟨inf, hinf⟩ := Option.isSome_iff_exists.1 hinfo
      refine runK_same hs (v := v) (av := .c (.sl r n0)) ?_ hv hvo (hk0 hm)
      have hu' : ∃ ad2 c2, u = .slice ad2 0 c2 := by
       simp only [AC.rel, AC.relZ] at hu
       obtain ⟨p, c, h5, _⟩ := hu
       rw [hm] at h5
       exact ⟨p, c, h5⟩
      obtain ⟨ad2, c2, rfl⟩ := hu'
      have hv' : ∃ ad c, v = .slice ad n0 c ∧ n0 ≤ c := by
       cases r with
       | none => obtain ⟨rfl, rfl⟩ := hv; exact ⟨_, _, rfl, Nat.le_refl _⟩
       | some p => obtain ⟨ad, rfl, h7, _⟩ := hv; exact ⟨_, _, rfl, by omega⟩
      obtain ⟨ad, c, rfl, hc⟩ := hv'
      cases ad <;> cases ad2 <;> simp [Builtin.append_, run_underlying (elemT_und he), sizeOf, typeInfo, hinf, Builtin.lenOf, Builtin.firstCells, hc, loadCells, loadCellsFrom, storeCells]
     ·obtain ⟨els, h5, h6, h7, h8, h9, h10⟩ := hk1 hm
      obtain ⟨ad2, c2, rfl, hsrc⟩ := src_lst (P := P) (e := e) hs hu h6 hm h7
      exact runK_append hs hv hvo he h4 h5 hsrc hm h7 h8 h9 h10
    ·exact h.elim
   ·rename_i t t' r n0 s hts has
    obtain ⟨hstr, h⟩ := h
    split at h
    ·rename_i e he
     obtain ⟨h4, hsz1, hb1, hk0, hk1⟩ := h
     obtain ⟨l, h1, h2, h3⟩ := key _ has (by simp [noTup])
     obtain ⟨v, u, rfl⟩ : ∃ v u, l = [v, u] := by
      match l, h2 with
      | [v, u], _ => exact ⟨v, u, rfl⟩
     have hv : AC.rel ι (.sl r n0) v := h2.1
     have hu : u = .string s := h2.2.1
     subst hu
     have hvo : (AC.sl r n0).ok H.length := h3 (.c (.sl r n0)) sMp
     have hex2 : execOp a.eval ⟨dst, .call ⟨.builtin .append, args, ats⟩, ty, pos, after, guard⟩ = (do pure (.value (← Builtin.append_ #[t, t'] ty #[v, .string s]))) := by
      rw [hex, h1, tys _ hts]; rfl
     refine runK_wp hex2 ?_
     rcases Nat.eq_zero_or_pos s.size with hm | hm
     ·obtain ⟨inf, hinf, _⟩ := Option.bind_eq_some_iff.1 h4
      refine runK_same hs (v := v) (av := .c (.sl r n0)) ?_ hv hvo (hk0 hm)
      have hv' : ∃ ad c, v = .slice ad n0 c ∧ n0 ≤ c := by
       cases r with
       | none => obtain ⟨rfl, rfl⟩ := hv; exact ⟨_, _, rfl, Nat.le_refl _⟩
       | some p => obtain ⟨ad, rfl, h7, _⟩ := hv; exact ⟨_, _, rfl, by omega⟩
      obtain ⟨ad, c, rfl, hc⟩ := hv'
      have hf := Lib.run_firstCells_string (P := P) w inf.size s
      have hd : s.data = #[] := Array.eq_empty_of_size_eq_zero hm
      have hs0 : s = ⟨#[]⟩ := by cases s; simp_all
      subst hs0
      have hf0 : (Builtin.firstCells inf.size 0 (.string ⟨#[]⟩)).run P w = .ok #[] w := hf
      have hz0 : ({ data := #[] } : ByteArray).size = 0 := rfl
      cases ad <;> simp [Builtin.append_, run_underlying (elemT_und he), run_underlying hstr, sizeOf, typeInfo, hinf, Builtin.lenOf, hz0, hf0, hc, loadCells, loadCellsFrom, storeCells]
     ·obtain ⟨els, h5, h8, h10⟩ := hk1 hm
      exact runK_appStr hs hv he hstr h4 hsz1 hb1 h5 hm h8 h10
    ·exact h.elim
   ·rename_i t r n0 hts has
    obtain ⟨l, h1, h2, _⟩ := key _ has (by simp [noTup])
    obtain ⟨v, rfl⟩ : ∃ v, l = [v] := by
     match l, h2 with
     | [v], _ => exact ⟨v, rfl⟩
    have hex2 : execOp a.eval ⟨dst, .call ⟨.builtin .clear, args, ats⟩, ty, pos, after, guard⟩ = (do pure (.value (← Builtin.clear_ #[t] ty #[v]))) := by
     rw [hex, h1, tys _ hts]; rfl
    refine runK_wp hex2 ?_
    have hv : AC.rel ι (.sl r n0) v := h2.1
    cases he : elemT P t with
    | none => rw [he] at h; cases n0 <;> exact h.elim
    | some e =>
     rw [he] at h
     cases n0 with
     | zero =>
      have h : K (.tup []) H := h
      refine runK_same hs (v := .tuple #[]) (av := .tup []) ?_ ⟨[], rfl, trivial⟩ (by intro x hx; simp at hx) h
      have : ∃ ad c, v = .slice ad 0 c := by
       cases r with
       | none => exact ⟨none, 0, hv.2⟩
       | some p => obtain ⟨ad, h9, _⟩ := hv; exact ⟨_, _, h9⟩
      obtain ⟨ad, c, rfl⟩ := this
      cases ad <;> simp [Builtin.clear_, run_underlying (elemT_und he)]
     | succ n1 =>
      cases r with
      | none => exact h.elim
      | some p =>
       obtain ⟨i, k⟩ := p
       simp only [aClr] at h
       unfold aClr2 at h
       split at h
       ·rename_i ty' sz els hi
        obtain ⟨⟨g1, g2, g3⟩, g4⟩ := h
        rw [Option.elim_some] at g1
        rw [Option.bind_some] at g2
        obtain ⟨z, hz, hzl⟩ := Option.map_eq_some_iff.1 g2
        exact runK_clear hs hi he hz hzl g3 hv g4
       ·exact h.elim
   ·rename_i t r k hts has
    obtain ⟨rfl, h0, h⟩ := h
    obtain ⟨l, h1, h2, _⟩ := key _ has (by simp [noTup])
    obtain ⟨v, rfl⟩ : ∃ v, l = [v] := by
     match l, h2 with
     | [v], _ => exact ⟨v, rfl⟩
    obtain ⟨e, he⟩ := Option.isSome_iff_exists.1 h0
    obtain ⟨rfl, hv⟩ : k = 0 ∧ v = .slice none 0 0 := h2.1
    subst hv
    refine step_same hs (v := .int .i64 0) (av := .c (.int .i64 0)) ?_ rfl trivial h
    rw [hex, h1, tys _ hts]
    simp [builtin, Builtin.cap_, run_underlying (elemT_und he), goInt]
   ·rename_i t t' r n0 k m hts has
    obtain ⟨rfl, rfl, h0, h⟩ := h
    split at h
    ·rename_i e he
     split at h
     ·rename_i z hz1
      obtain ⟨h3, h4, h5, h6, h7, h8⟩ := h
      obtain ⟨l, h1, h2, _⟩ := key _ has (by simp [noTup])
      obtain ⟨v, u, rfl⟩ : ∃ v u, l = [v, u] := by
       match l, h2 with
       | [v, u], _ => exact ⟨v, u, rfl⟩
      obtain ⟨_, hv⟩ : 0 = 0 ∧ v = .slice none 0 0 := h2.1
      have hu : u = .int k m := h2.2.1
      subst hv; subst hu
      have hex2 : execOp a.eval ⟨dst, .call ⟨.builtin .append, args, ats⟩, ty, pos, after, guard⟩ = (do pure (.value (← Builtin.append_ #[t, t'] ty #[.slice none 0 0, .int k m]))) := by
       rw [hex, h1, tys _ hts]; rfl
      refine runK_wp hex2 ?_
      obtain ⟨q, rfl⟩ : ∃ q : Nat, m = q := ⟨m.toNat, by omega⟩
      obtain ⟨kn, hkn⟩ : ∃ kn, P.underlying t' = some (.int kn) := by
       unfold intT at h0
       split at h0
       ·exact ⟨_, by assumption⟩
       ·cases h0
      exact runK_appZeros hs he hkn hz1 h3 h4 oMg (by rw [← Int.natCast_mul] at h6; omega) oMg (by rw [Int.toNat_natCast] at h8; exact h8)
     ·exact h.elim
    ·exact h.elim
   ·rename_i t i hts has
    obtain ⟨l, h1, h2, _⟩ := key _ has (by simp [noTup])
    obtain ⟨v, rfl⟩ : ∃ v, l = [v] := by
     match l, h2 with
     | [v], _ => exact ⟨v, rfl⟩
    have hv : v = .map (some (ι i).block) := h2.1
    subst hv
    obtain ⟨kt, hkt⟩ := Option.isSome_iff_exists.1 h.1.2
    obtain ⟨e, hu⟩ := mapK_und hkt
    have h := h.2
    unfold aLenM at h
    split at h
    ·rename_i p q es hi
     obtain ⟨hq, h⟩ := h
     obtain ⟨ents, clock, _, hb, _, hsz, _⟩ := map_obj hs hi hq
     refine step_same hs (v := .int .i64 es.length) (av := .c (.int .i64 es.length)) ?_ rfl trivial h
     rw [hex, h1, tys _ hts]
     simp [builtin, Builtin.len_, run_underlying hu, run_getObj_m hb, hsz, goInt]
    ·exact h.elim
   ·rename_i t t2 i k n0 x hts has
    unfold aCp at h
    split at h
    ·rename_i e he
     obtain ⟨hinf, h⟩ := h
     unfold aCp2 at h
     split at h
     ·rename_i tt sz els new hi hx
      obtain ⟨⟨g1, g2, g3, g4, g5⟩, h⟩ := h
      obtain ⟨l, h1, h2, _⟩ := key _ has (by simp [noTup])
      obtain ⟨v, u, rfl⟩ : ∃ v u, l = [v, u] := by
       match l, h2 with
       | [v, u], _ => exact ⟨v, u, rfl⟩
      have hex2 : execOp a.eval ⟨dst, .call ⟨.builtin .copy, args, ats⟩, ty, pos, after, guard⟩ = (do pure (.value (← Builtin.copy_ #[t, t2] ty #[v, u]))) := by
       rw [hex, h1, tys _ hts]; rfl
      exact runK_wp hex2 (runK_copy hs hi he hinf g1 g2 g3 g4 g5 h2.1 h2.2.1 hx h)
     ·exact h.elim
    ·exact h.elim
   ·rename_i t t2 i k hts has
    unfold aDel at h
    split at h
    ·rename_i kt bs vt es hkt hi
     obtain ⟨⟨g1, g2, g3, g4⟩, h⟩ := h
     obtain ⟨l, h1, h2, _⟩ := key _ has (by intro z hz; simp only [List.mem_cons, List.not_mem_nil, or_false] at hz; rcases hz with rfl | rfl; (· rfl); exact g2)
     obtain ⟨m, kv, rfl⟩ : ∃ m kv, l = [m, kv] := by
      match l, h2 with
      | [m, kv], _ => exact ⟨m, kv, rfl⟩
     have hm : m = .map (some (ι i).block) := h2.1
     subst hm
     have hkv : k.rel ι kv := by cases k <;> first | exact h2.2.1 | cases g2
     obtain ⟨e, hu⟩ := mapK_und hkt
     have hex2 : execOp a.eval ⟨dst, .call ⟨.builtin .delete, args, ats⟩, ty, pos, after, guard⟩ = (do pure (.value (← Builtin.delete_ #[t, t2] ty #[.map (some (ι i).block), kv]))) := by
      rw [hex, h1, tys _ hts]; rfl
     cases hf : findA P kt k es with
     | none => rw [hf] at h; exact h.elim
     | some r => rw [hf] at h; exact runK_wp hex2 (runK_delete hs hi g1 hu g3 g4 hkv hf h)
    ·exact h.elim
   ·exact h.elim
  ·rename_i f
   unfold aCall at h
   split at h
   ·rename_i g fs cs hf
    obtain ⟨h2, h3⟩ := h
    have hv : a.eval f = .func (.func g) (fs.map (ptrOf ι)).toArray (cs.map (ptrOf ι)).toArray := by have := R f; rw [hf] at this; exact this
    have hof := O f
    rw [hf] at hof
    have hne : ∀ x ∈ args.toList, ∀ ts, evC F x ≠ .tup ts := by
     intro x hx ts he
     have := List.all_eq_true.1 h2 (evC F x) (List.mem_map.2 ⟨x, hx, rfl⟩)
     rw [he] at this; cases this
    obtain ⟨h4, h5⟩ := argsRel_of (l := args.toList) hF hne
    have h6 : argsRel ι (ptrs fs ++ args.toList.map (evC F) ++ ptrs cs) ((fs.map (ptrOf ι)).toArray ++ args.map a.eval ++ (cs.map (ptrOf ι)).toArray) := by
     unfold argsRel
     simp only [Array.toList_append, Array.toList_map]
     exact rel1L_append (rel1L_append (ptrs_rel fs) h4) (ptrs_rel cs)
    have h7 : ∀ x ∈ ptrs fs ++ args.toList.map (evC F) ++ ptrs cs, x.ok1 H.length := by
     intro x hx
     rcases List.mem_append.1 hx with hx | hx
     ·rcases List.mem_append.1 hx with hx | hx
      ·obtain ⟨p, hp, rfl⟩ := List.mem_map.1 hx; exact hof.1 p hp
      ·exact h5 x hx
     ·obtain ⟨p, hp, rfl⟩ := List.mem_map.1 hx; exact hof.2 p hp
    cases h1 : entersB P g with
    | true =>
     rw [h1] at h3
     have h8 := h3 B w0 ι w _ hs h6 h7
     unfold Oper.wp
     have hrun : (execOp a.eval ⟨dst, .call ⟨.value f, args, ats⟩, ty, pos, after, guard⟩).run P w = .ok (.enter g ((fs.map (ptrOf ι)).toArray ++ args.map a.eval ++ (cs.map (ptrOf ι)).toArray)) w := by
      simp only [execOp, resolve, hv, Deferred.ofValue, pure_bind, invoke]
      exact callFunc_run h1 _
     rw [hrun]
     exact call_upon h8
    | false =>
     rw [h1] at h3
     obtain ⟨e, ⟨fn, x1, x2, x3, x4, x5⟩, h8⟩ := h3
     obtain ⟨v, w', h9, ι', u, av, H', g1, g2, g3, g4, g5, g6, g7⟩ := h8 B w0 ι w _ hs h6 h7
     injection g1 with g1
     subst g1
     refine wp_val (v := v) (w' := w') ?_ ⟨ι', v, av, H', rfl, g2, g3, g4, g5, g6, g7⟩
     simp only [execOp, resolve, hv, Deferred.ofValue, pure_bind, invoke]
     rw [run_callFunc_extern x1 x2 x3 x4 x5, h9]
     rfl
   ·exact h.elim
  ·exact h.elim
end
end Go.Proofs.YtagoolooikpabaaGreatDoor
namespace Go.Proofs.YtagoolooikpabaaGreatDoor
open Go Go.RowKit
def clsA : Op → Bool
 | .binOp _ _ _ y _ => !isNilS y || isNilI y
 | .move _ | .assign _ | .pick .. | .unOp .. | .nilCheck _ | .fieldAddr .. | .extract .. | .build .. | .index .. | .convert .. | .field .. | .makeInterface .. => true
 | .call ⟨.builtin b, _, ats⟩ => match b with | .len => !(ats.toList.any isMapT) | .min | .max => true | _ => false
 | _ => false
def clsB : Op → Bool
 | .load .. | .indexAddr .. | .slice .. => true
 | _ => false
section
variable {P : Program} {op : Op} {ev ev' : Operand → AV} {H : Hp} {J J' : AV → Hp → Prop}
theorem aBin_det {b : BinOp} {x y : AV} {K : AV → Prop} (h : aBin b x y K) : ∃ v, aBin b x y (· = v) ∧ K v := by
 unfold aBin at h
 split at h <;> first
  | exact h.elim
  | exact ⟨_, ⟨h.1, rfl⟩, h.2⟩
  | exact ⟨_, ⟨h.1, h.2.1, rfl⟩, h.2.2⟩
  | exact ⟨_, rfl, h⟩
theorem aBin_mono {b : BinOp} {x y : AV} {K K' : AV → Prop} (hk : ∀ v, K v → K' v) (h : aBin b x y K) : aBin b x y K' := by
 unfold aBin at h ⊢
 split at h <;> first
  | exact h.elim
  | exact ⟨h.1, hk _ h.2⟩
  | exact ⟨h.1, h.2.1, hk _ h.2.2⟩
  | exact hk _ h
theorem aBinT_det {t : TypeId} {b : BinOp} {x y : AV} {K : AV → Prop} (h : aBinT P t b x y K) : ∃ v, aBinT P t b x y (· = v) ∧ K v := by
 unfold aBinT at h ⊢
 split at h <;> first
  | exact ⟨_, ⟨h.1, rfl⟩, h.2⟩
  | (obtain ⟨c, h1, h2⟩ := h; exact ⟨_, ⟨c, h1, rfl⟩, h2⟩)
  | exact aBin_det h
theorem aBinT_mono {t : TypeId} {b : BinOp} {x y : AV} {K K' : AV → Prop} (hk : ∀ v, K v → K' v) (h : aBinT P t b x y K) : aBinT P t b x y K' := by
 unfold aBinT at h ⊢
 split at h <;> first
  | exact ⟨h.1, hk _ h.2⟩
  | (obtain ⟨c, h1, h2⟩ := h; exact ⟨c, h1, hk _ h2⟩)
  | exact aBin_mono hk h
theorem aBinN_mono {t : TypeId} {b : BinOp} {x y : AV} {nl : Bool} {K K' : AV → Prop} (hk : ∀ v, K v → K' v) (h : aBinN P t b x y nl K) : aBinN P t b x y nl K' := by
 unfold aBinN at h ⊢
 split at h
 ·exact ⟨h.1, fun b hb => hk _ (h.2 b hb)⟩
 ·exact ⟨h.1, fun b hb => hk _ (h.2 b hb)⟩
 ·exact aBinT_mono hk h
theorem aNilI_mono {t : TypeId} {b : BinOp} {x : AV} {K K' : AV → Prop} (hk : ∀ v, K v → K' v) (h : aNilI P t b x K) : aNilI P t b x K' := by
 unfold aNilI at h ⊢
 split at h <;> first | exact ⟨h.1, hk _ h.2⟩ | exact h.elim
theorem aNilI_det {t : TypeId} {b : BinOp} {x : AV} {K : AV → Prop} (h : aNilI P t b x K) : ∃ v, aNilI P t b x (· = v) ∧ K v := by
 unfold aNilI at h ⊢
 split at h <;> first | exact ⟨_, ⟨h.1, rfl⟩, h.2⟩ | exact h.elim
theorem aBinO_mono {t : TypeId} {b : BinOp} {x y : AV} {nl ni : Bool} {K K' : AV → Prop} (hk : ∀ v, K v → K' v) (h : aBinO P t b x y nl ni K) : aBinO P t b x y nl ni K' := by
 cases ni
 ·exact aBinN_mono hk h
 ·exact aNilI_mono hk h
theorem aBinN_f (t : TypeId) (b : BinOp) (x y : AV) (K : AV → Prop) : aBinN P t b x y false K = aBinT P t b x y K := rfl
def RV (P : Program) (op : Op) (ev : Operand → AV) (H : Hp) (v : AV) : Prop := aOp P op ev H (fun u H' => u = v ∧ H' = H)
theorem quiet_det (hc : clsA op = true ∨ clsB op = true) (h : aOp P op ev H J) : ∃ v, RV P op ev H v ∧ J v H := by
 unfold RV
 cases op <;> first | (rcases hc with hc | hc <;> cases hc; done) | skip
 case move x => exact ⟨_, ⟨rfl, (by first | rfl | trivial)⟩, h⟩
 case assign x => exact ⟨_, ⟨rfl, (by first | rfl | trivial)⟩, h⟩
 case pick c x y =>
  simp only [aOp, aPick] at h ⊢
  split at h
  ·split at h
   ·exact ⟨_, ⟨rfl, (by first | rfl | trivial)⟩, h⟩
   ·exact ⟨_, ⟨rfl, (by first | rfl | trivial)⟩, h⟩
  ·exact h.elim
 case binOp b t x y t2 =>
  simp only [aOp] at h ⊢
  cases hi : isNilI y with
  | true =>
   rw [hi] at h
   obtain ⟨v, h1, h2⟩ := aNilI_det (show aNilI P t b (ev x) (fun v => J v H) from h)
   refine ⟨v, ?_, h2⟩
   have h3 := aNilI_mono (K' := fun u => u = v ∧ True) (fun u hu => ⟨hu, trivial⟩) h1
   exact h3
  | false =>
  rw [hi] at h
  have hn : isNilS y = false := by rcases hc with hc | hc <;> simpa [clsA, clsB, hi] using hc
  rw [hn] at h ⊢
  simp only [aBinO, aBinN_f] at h ⊢
  obtain ⟨v, h1, h2⟩ := aBinT_det h
  exact ⟨v, aBinT_mono (fun u hu => ⟨hu, (by first | rfl | trivial)⟩) h1, h2⟩
 case unOp u t x =>
  simp only [aOp, aUn] at h ⊢
  split at h
  ·exact ⟨_, ⟨rfl, (by first | rfl | trivial)⟩, h⟩
  ·exact ⟨_, ⟨rfl, (by first | rfl | trivial)⟩, h⟩
  ·exact h.elim
 case nilCheck x =>
  simp only [aOp, aNil] at h ⊢
  split at h
  ·exact ⟨_, ⟨rfl, (by first | rfl | trivial)⟩, h⟩
  ·exact ⟨_, ⟨rfl, (by first | rfl | trivial)⟩, h⟩
  ·exact h.elim
 case fieldAddr s x f =>
  simp only [aOp, aFld] at h ⊢
  split at h
  ·exact ⟨_, ⟨h.1, rfl, (by first | rfl | trivial)⟩, h.2⟩
  ·exact ⟨_, ⟨h.1, rfl, (by first | rfl | trivial)⟩, h.2⟩
  ·exact h.elim
 case extract x i =>
  simp only [aOp, aExt] at h ⊢
  split at h
  ·unfold aExt2 at h ⊢
   split at h
   ·exact ⟨_, ⟨rfl, (by first | rfl | trivial)⟩, h⟩
   ·exact h.elim
  ·exact h.elim
 case build t ps =>
  simp only [aOp, aBuild] at h ⊢
  split at h
  ·exact ⟨_, ⟨h.1, rfl, (by first | rfl | trivial)⟩, h.2⟩
  ·exact h.elim
 case index t x i =>
  simp only [aOp, aStr] at h ⊢
  split at h
  ·exact ⟨_, ⟨h.1, rfl, (by first | rfl | trivial)⟩, h.2⟩
  ·exact h.elim
 case convert s d x =>
  simp only [aOp, aCv] at h ⊢
  split at h
  ·unfold aCv2 at h ⊢
   split at h <;> exact ⟨_, ⟨h.1, rfl, (by first | rfl | trivial)⟩, h.2⟩
  ·unfold aCvS at h ⊢
   split at h <;> exact ⟨_, ⟨h.1, rfl, (by first | rfl | trivial)⟩, h.2⟩
  ·unfold aCvB at h ⊢
   split at h
   ·exact ⟨_, ⟨h.1, rfl, (by first | rfl | trivial)⟩, h.2⟩
   ·exact h.elim
  ·exact h.elim
 case makeInterface t x =>
  simp only [aOp, aIfc] at h ⊢
  split at h
  ·exact h.elim
  ·exact ⟨_, ⟨h.1, rfl, (by first | rfl | trivial)⟩, h.2⟩
 case field s x f =>
  simp only [aOp, aFd] at h ⊢
  split at h
  ·exact ⟨_, ⟨h.1, rfl, (by first | rfl | trivial)⟩, h.2⟩
  ·unfold aOf at h ⊢
   split at h
   ·exact ⟨_, ⟨rfl, (by first | rfl | trivial)⟩, h⟩
   ·exact h.elim
  ·exact h.elim
 case load t x =>
  simp only [aOp, aLoad] at h ⊢
  split at h
  ·unfold aLd at h ⊢
   split at h
   ·exact ⟨_, ⟨h.1, rfl, (by first | rfl | trivial)⟩, h.2⟩
   ·obtain ⟨h1, h2⟩ := h
    unfold aOf at h2 ⊢
    split at h2
    ·exact ⟨_, ⟨h1, rfl, (by first | rfl | trivial)⟩, h2⟩
    ·exact h2.elim
   ·exact h.elim
  ·unfold aLd at h ⊢
   split at h
   ·exact ⟨_, ⟨h.1, rfl, (by first | rfl | trivial)⟩, h.2⟩
   ·obtain ⟨h1, h2⟩ := h
    unfold aOf at h2 ⊢
    split at h2
    ·exact ⟨_, ⟨h1, rfl, (by first | rfl | trivial)⟩, h2⟩
    ·exact h2.elim
   ·exact h.elim
  ·exact h.elim
 case indexAddr t x i =>
  simp only [aOp, aIx] at h ⊢
  split at h
  ·unfold aIx2 at h ⊢
   split at h
   ·exact ⟨_, ⟨h.1, rfl, (by first | rfl | trivial)⟩, h.2⟩
   ·exact h.elim
  ·unfold aIxL at h ⊢
   split at h
   ·exact ⟨_, ⟨h.1, rfl, (by first | rfl | trivial)⟩, h.2⟩
   ·exact h.elim
  ·exact h.elim
 case slice t x lo hi mx =>
  simp only [aOp, aSub] at h ⊢
  split at h
  ·split at h
   ·exact ⟨_, ⟨h.1, rfl, (by first | rfl | trivial)⟩, h.2⟩
   ·exact h.elim
  ·split at h
   ·exact ⟨_, ⟨h.1, rfl, (by first | rfl | trivial)⟩, h.2⟩
   ·exact h.elim
  ·split at h
   ·exact ⟨_, ⟨h.1, rfl, (by first | rfl | trivial)⟩, h.2⟩
   ·exact h.elim
  ·split at h
   ·exact ⟨_, ⟨h.1, rfl, (by first | rfl | trivial)⟩, h.2⟩
   ·exact h.elim
  ·exact h.elim
 case call c =>
  obtain ⟨callee, args, ts⟩ := c
  cases callee with
  | value f => rcases hc with hc | hc <;> cases hc
  | invoke r m => rcases hc with hc | hc <;> cases hc
  | builtin b =>
   simp only [aOp] at h ⊢
   unfold aBuiltin at h ⊢
   split at h
   ·exact ⟨_, ⟨h.1, rfl, (by first | rfl | trivial)⟩, h.2⟩
   ·exact ⟨_, ⟨h.1, rfl, (by first | rfl | trivial)⟩, h.2⟩
   ·exact ⟨_, ⟨h.1, rfl, (by first | rfl | trivial)⟩, h.2⟩
   ·exact ⟨_, ⟨rfl, (by first | rfl | trivial)⟩, h⟩
   ·exact ⟨_, ⟨rfl, (by first | rfl | trivial)⟩, h⟩
   ·rcases hc with hc | hc <;> cases hc
   ·rcases hc with hc | hc <;> cases hc
   ·rcases hc with hc | hc <;> cases hc
   ·rcases hc with hc | hc <;> cases hc
   ·rcases hc with hc | hc <;> cases hc
   ·rcases hc with hc | hc <;> cases hc
   ·rename_i hts _
    rcases hc with hc | hc
    ·exact absurd hc (by simp [clsA, hts, h.1.1])
    ·cases hc
   ·rcases hc with hc | hc <;> cases hc
   ·rcases hc with hc | hc <;> cases hc
   ·exact h.elim
theorem aOp_mono (hk : ∀ v H', J v H' → J' v H') (h : aOp P op ev H J) : aOp P op ev H J' := by
 cases op <;> first | exact h.elim | skip
 case move x => exact hk _ _ h
 case assign x => exact hk _ _ h
 case pick c x y =>
  simp only [aOp, aPick] at h ⊢
  split at h
  ·split at h <;> exact hk _ _ h
  ·exact h.elim
 case binOp b t x y t2 =>
  have h : aBinO P t b (ev x) (ev y) (isNilS y) (isNilI y) (fun v => J v H) := h
  exact aBinO_mono (K' := fun v => J' v H) (fun u hu => hk u H hu) h
 case unOp u t x =>
  simp only [aOp, aUn] at h ⊢
  split at h <;> first | exact hk _ _ h | exact h.elim
 case alloc t =>
  simp only [aOp, aNew] at h ⊢
  split at h <;> first | exact hk _ _ h | exact h.elim
 case box t x =>
  simp only [aOp, aNew] at h ⊢
  split at h <;> first | exact hk _ _ h | exact h.elim
 case build t ps =>
  simp only [aOp, aBuild] at h ⊢
  split at h <;> first | exact ⟨h.1, hk _ _ h.2⟩ | exact h.elim
 case buildSlice t n ps =>
  simp only [aOp, aLit] at h ⊢
  split at h <;> first | exact ⟨h.1, h.2.1, h.2.2.1, h.2.2.2.1, hk _ _ h.2.2.2.2⟩ | exact h.elim
 case load t x =>
  simp only [aOp, aLoad] at h ⊢
  split at h
  ·unfold aLd at h ⊢
   split at h
   ·exact ⟨h.1, hk _ _ h.2⟩
   ·obtain ⟨h1, h2⟩ := h
    refine ⟨h1, ?_⟩
    unfold aOf at h2 ⊢
    split at h2 <;> first | exact hk _ _ h2 | exact h2.elim
   ·exact h.elim
  ·unfold aLd at h ⊢
   split at h
   ·exact ⟨h.1, hk _ _ h.2⟩
   ·obtain ⟨h1, h2⟩ := h
    refine ⟨h1, ?_⟩
    unfold aOf at h2 ⊢
    split at h2 <;> first | exact hk _ _ h2 | exact h2.elim
   ·exact h.elim
  ·exact h.elim
 case store t x y =>
  simp only [aOp, aSt] at h ⊢
  split at h
  ·unfold aSt2 at h ⊢
   split at h
   ·unfold aSt3 at h ⊢
    split at h <;> first | exact ⟨h.1, hk _ _ h.2⟩ | exact h.elim
   ·exact h.elim
  ·exact h.elim
 case nilCheck x =>
  simp only [aOp, aNil] at h ⊢
  split at h <;> first | exact hk _ _ h | exact h.elim
 case fieldAddr s x f =>
  simp only [aOp, aFld] at h ⊢
  split at h <;> first | exact ⟨h.1, hk _ _ h.2⟩ | exact h.elim
 case indexAddr t x i =>
  simp only [aOp, aIx] at h ⊢
  split at h
  ·unfold aIx2 at h ⊢
   split at h <;> first | exact ⟨h.1, hk _ _ h.2⟩ | exact h.elim
  ·unfold aIxL at h ⊢
   split at h <;> first | exact ⟨h.1, hk _ _ h.2⟩ | exact h.elim
  ·exact h.elim
 case index t x i =>
  simp only [aOp, aStr] at h ⊢
  split at h <;> first | exact ⟨h.1, hk _ _ h.2⟩ | exact h.elim
 case slice t x lo hi mx =>
  simp only [aOp, aSub] at h ⊢
  split at h
  ·split at h <;> first | exact ⟨h.1, hk _ _ h.2⟩ | exact h.elim
  ·split at h <;> first | exact ⟨h.1, hk _ _ h.2⟩ | exact h.elim
  ·split at h <;> first | exact ⟨h.1, hk _ _ h.2⟩ | exact h.elim
  ·split at h <;> first | exact ⟨h.1, hk _ _ h.2⟩ | exact h.elim
  ·exact h.elim
 case convert s d x =>
  simp only [aOp, aCv] at h ⊢
  split at h
  ·unfold aCv2 at h ⊢
   split at h <;> first | exact ⟨h.1, hk _ _ h.2⟩ | exact h.elim
  ·unfold aCvS at h ⊢
   split at h <;> exact ⟨h.1, hk _ _ h.2⟩
  ·unfold aCvB at h ⊢
   split at h <;> first | exact ⟨h.1, hk _ _ h.2⟩ | exact h.elim
  ·exact h.elim
 case makeInterface t x =>
  simp only [aOp, aIfc] at h ⊢
  split at h
  ·exact h.elim
  ·exact ⟨h.1, hk _ _ h.2⟩
 case makeMap t r =>
  simp only [aOp, aNewM] at h ⊢
  split at h <;> first | exact hk _ _ h | exact h.elim
 case range t x =>
  simp only [aOp, aRange] at h ⊢
  split at h
  ·refine ⟨h.1, ?_⟩
   have h := h.2
   unfold aRange2 at h ⊢
   split at h <;> first | exact ⟨h.1, hk _ _ h.2⟩ | exact h.elim
  ·exact h.elim
 case next x s =>
  simp only [aOp, aNext] at h ⊢
  split at h
  ·unfold aNext2 at h ⊢
   split at h
   ·unfold aNext3 at h ⊢
    split at h
    ·exact ⟨h.1, h.2.1, fun g => hk _ _ (h.2.2.1 g), fun j b k v h1 h2 h3 => ⟨(h.2.2.2 j b k v h1 h2 h3).1, hk _ _ (h.2.2.2 j b k v h1 h2 h3).2⟩⟩
    ·exact h.elim
   ·exact h.elim
  ·exact h.elim
 case entry x =>
  simp only [aOp, aEnt] at h ⊢
  split at h
  ·unfold aEnt2 at h ⊢
   split at h
   ·unfold aEnt3 at h ⊢
    split at h
    ·obtain ⟨j, b, s, k, v, h1, h2⟩ := h
     exact ⟨j, b, s, k, v, h1, hk _ _ h2⟩
    ·exact h.elim
   ·exact h.elim
  ·exact h.elim
 case makeSlice t x y =>
  simp only [aOp, aMkS] at h ⊢
  split at h <;> first | exact ⟨h.1, hk _ _ h.2⟩ | exact h.elim
 case mapUpdate t m k x =>
  simp only [aOp, aMapUp] at h ⊢
  split at h
  ·unfold aMapUp2 at h ⊢
   split at h
   ·refine ⟨h.1, ?_⟩
    have h := h.2
    unfold aPutM at h ⊢
    split at h <;> first | exact ⟨h.1, hk _ _ h.2⟩ | exact h.elim
   ·exact h.elim
  ·exact h.elim
 case insert t m k x =>
  simp only [aOp, aMapUp] at h ⊢
  split at h
  ·unfold aMapUp2 at h ⊢
   split at h
   ·refine ⟨h.1, ?_⟩
    have h := h.2
    unfold aPutM at h ⊢
    split at h <;> first | exact ⟨h.1, hk _ _ h.2⟩ | exact h.elim
   ·exact h.elim
  ·exact h.elim
 case lookup t x ix ok =>
  have get : ∀ {r : Option (AV × Bool)}, aGetM r ok H J → aGetM r ok H J' := by
   intro r h
   unfold aGetM at h ⊢
   split at h <;> first | exact ⟨h.1, hk _ _ h.2⟩ | exact h.elim
  simp only [aOp, aLook] at h ⊢
  split at h
  ·unfold aLook2 at h ⊢
   split at h
   ·exact ⟨h.1, get h.2⟩
   ·exact h.elim
  ·exact ⟨h.1, get h.2⟩
  ·exact h.elim
 case field s x f =>
  simp only [aOp, aFd] at h ⊢
  split at h
  ·exact ⟨h.1, hk _ _ h.2⟩
  ·unfold aOf at h ⊢
   split at h <;> first | exact hk _ _ h | exact h.elim
  ·exact h.elim
 case makeFunc fn fs cs =>
  simp only [aOp, aMk] at h ⊢
  split at h
  ·exact hk _ _ h
  ·exact h.elim
 case extract x i =>
  simp only [aOp, aExt] at h ⊢
  split at h
  ·unfold aExt2 at h ⊢
   split at h <;> first | exact hk _ _ h | exact h.elim
  ·exact h.elim
 case call c =>
  obtain ⟨callee, args, ts⟩ := c
  cases callee with
  | invoke r m => exact h.elim
  | value f =>
   simp only [aOp, aCall] at h ⊢
   split at h
   ·refine ⟨h.1, ?_⟩
    have h2 := h.2
    unfold aCallB at h2 ⊢
    split at h2
    ·exact h2.mono hk
    ·exact h2.mono hk
   ·exact h.elim
  | builtin b =>
   simp only [aOp] at h ⊢
   unfold aBuiltin at h ⊢
   split at h
   ·exact ⟨h.1, hk _ _ h.2⟩
   ·exact ⟨h.1, hk _ _ h.2⟩
   ·exact ⟨h.1, hk _ _ h.2⟩
   ·exact hk _ _ h
   ·exact hk _ _ h
   ·obtain ⟨h0, h⟩ := h
    refine ⟨h0, ?_⟩
    split at h
    ·obtain ⟨h1, h2, h3⟩ := h
     refine ⟨h1, fun e => hk _ _ (h2 e), fun e => ?_⟩
     obtain ⟨els, new, g1, g2, g3, g4, g5, g6⟩ := h3 e
     exact ⟨els, new, g1, g2, g3, g4, g5, g6.imp (fun g => hk _ _ g) (fun ⟨p, q1, q2, q3⟩ => ⟨p, q1, q2, hk _ _ q3⟩)⟩
    ·exact h.elim
   ·obtain ⟨h0, h⟩ := h
    refine ⟨h0, ?_⟩
    split at h
    ·obtain ⟨h1, h2, h3⟩ := h
     refine ⟨h1, fun e => hk _ _ (h2 e), fun e => ?_⟩
     obtain ⟨els, g1, g2, g3, g4, g5, g6⟩ := h3 e
     exact ⟨els, g1, g2, g3, g4, g5, hk _ _ g6⟩
    ·exact h.elim
   ·obtain ⟨h0, h⟩ := h
    refine ⟨h0, ?_⟩
    split at h
    ·obtain ⟨h1, h2, h2b, h2c, h3⟩ := h
     refine ⟨h1, h2, h2b, fun e => hk _ _ (h2c e), fun e => ?_⟩
     obtain ⟨els, g1, g5, g6⟩ := h3 e
     exact ⟨els, g1, g5, hk _ _ g6⟩
    ·exact h.elim
   ·unfold aClr at h ⊢
    split at h
    ·exact hk _ _ h
    ·split at h
     ·unfold aClr2 at h ⊢
      split at h
      ·exact ⟨h.1, hk _ _ h.2⟩
      ·exact h.elim
     ·exact h.elim
    ·exact h.elim
   ·exact ⟨h.1, h.2.1, hk _ _ h.2.2⟩
   ·obtain ⟨h0, h1, h2, h⟩ := h
    refine ⟨h0, h1, h2, ?_⟩
    split at h
    ·split at h
     ·obtain ⟨g1, g2, g3, g4, g5, g6⟩ := h
      exact ⟨g1, g2, g3, g4, g5, hk _ _ g6⟩
     ·exact h.elim
    ·exact h.elim
   ·refine ⟨h.1, ?_⟩
    have h := h.2
    unfold aLenM at h ⊢
    split at h <;> first | exact ⟨h.1, hk _ _ h.2⟩ | exact h.elim
   ·unfold aCp at h ⊢
    split at h
    ·refine ⟨h.1, ?_⟩
     have h := h.2
     unfold aCp2 at h ⊢
     split at h <;> first | exact ⟨h.1, hk _ _ h.2⟩ | exact h.elim
    ·exact h.elim
   ·unfold aDel at h ⊢
    split at h
    ·refine ⟨h.1, ?_⟩
     have h := h.2
     unfold aDel3 at h ⊢
     split at h <;> first | exact hk _ _ h | exact h.elim
    ·exact h.elim
   ·exact h.elim
theorem RV_run {v : AV} (h : RV P op ev H v) (k : J v H) : aOp P op ev H J := aOp_mono (by rintro u H' ⟨rfl, rfl⟩; exact k) h
theorem aOp_congr' (h : ∀ x ∈ op.operands, ev x = ev' x) : aOp P op ev H J = aOp P op ev' H J := by
 have pairs : ∀ ps : List (Nat × Operand), (∀ x ∈ (ps.map (·.2)), ev x = ev' x) → partsOf ps ev = partsOf ps ev' := by
  intro ps hp
  exact List.map_congr_left fun p hm => by rw [hp p.2 (List.mem_map.2 ⟨p, hm, rfl⟩)]
 have opts : ∀ o : Option Operand, (∀ x ∈ o.toArray, ev x = ev' x) → o.map ev = o.map ev' := by
  intro o ho
  cases o with
  | none => rfl
  | some x => simp [ho x sMp]
 cases op <;> simp only [Op.operands] at h <;> simp only [aOp]
 case move x => rw [h x sMp]
 case assign x => rw [h x sMp]
 case pick c x y => rw [h c sMp, h x sMp, h y sMp]
 case binOp b t x y t2 => rw [h x sMp, h y sMp]
 case unOp u t x => rw [h x sMp]
 case box t x => rw [h x sMp]
 case build t ps => rw [pairs ps.toList (fun x hx => h x (by simpa using hx))]
 case buildSlice t n ps => rw [pairs ps.toList (fun x hx => h x (by simpa using hx))]
 case load t x => rw [h x sMp]
 case store t x y => rw [h x sMp, h y sMp]
 case nilCheck x => rw [h x sMp]
 case fieldAddr s x f => rw [h x sMp]
 case indexAddr t x i => rw [h x sMp, h i sMp]
 case index t x i => rw [h x sMp, h i sMp]
 case slice t x lo hi mx => rw [h x sMp, opts lo (fun y hy => h y (by simp at hy ⊢; simp [hy])), opts hi (fun y hy => h y (by simp at hy ⊢; simp [hy])), opts mx (fun y hy => h y (by simp at hy ⊢; simp [hy]))]
 case makeFunc fn fs cs =>
  have e : ∀ l : List Operand, (∀ x ∈ l, x ∈ fs ++ cs) → l.map ev = l.map ev' := fun l hl => List.map_congr_left fun x hx => h x (hl x hx)
  rw [e fs.toList (by simp +contextual), e cs.toList (by simp +contextual)]
 case convert s d x => rw [h x sMp]
 case makeInterface t x => rw [h x sMp]
 case mapUpdate t m k x => rw [h m sMp, h k sMp, h x sMp]
 case insert t m k x => rw [h m sMp, h k sMp, h x sMp]
 case range t x => rw [h x sMp]
 case next x s => rw [h x sMp]
 case entry x => rw [h x sMp]
 case makeSlice t x y => rw [h x sMp, h y sMp]
 case lookup t x ix ok => rw [h x sMp, h ix sMp]
 case field s x f => rw [h x sMp]
 case extract x i => rw [h x sMp]
 case call c =>
  obtain ⟨callee, args, ts⟩ := c
  have ha : args.toList.map ev = args.toList.map ev' := List.map_congr_left fun x hx => h x (by simp [Call.operands]; exact .inr (by simpa using hx))
  cases callee with
  | builtin b => simp only [ha]
  | value f => simp only [ha]; rw [h f (by simp [Call.operands])]
  | invoke r m => rfl
end
end Go.Proofs.YtagoolooikpabaaGreatDoor
namespace Go.Proofs.YtagoolooikpabaaGreatDoor
open Go Go.RowKit
def fen (r : Option Nat) : Fence := { fn := fun _ => True, depth := none, alive := false, round := r }
theorem callsIn_fen {P : Program} {r : Option Nat} {n : Nat} {f : FuncId} {args : Array Value} {w : World} {R : Ending → World → Prop} (h : Calls P f args w R) : CallsIn (fen r) n P f args w R := by
 cases r with
 | none => exact callsIn_wide.2 h
 | some l => exact (callsIn_wide (n := n)).2 h
theorem stepsIn_fen {P : Program} {r : Option Nat} {m m' : Machine} (h : Steps P m m') : StepsIn (Machine.fenced P (fen r)) P m m' := by
 cases r with
 | none => exact stepsIn_wide.2 h
 | some l => exact stepsIn_wide.2 h
theorem wpIn_op {P : Program} {r : Option Nat} {o : Oper} {a : Act} {w : World} {next : Act → World → Prop} {Q : Exit → Act → World → Prop} (hd : ∀ c, o.op ≠ .defer c) (h : o.wp P a w next Q) : o.wpIn (fen r) 0 P a w next Q := by
 refine ⟨fun _ _ => trivial, ?_⟩
 rw [show o.semAt (fen r).round a.eval = execOp a.eval o from Oper.semAt_eq _ _ _ hd]
 unfold Oper.wp at h
 generalize (execOp a.eval o).run P w = x at h ⊢
 unfold Oper.upon at h
 split at h
 ·exact h
 ·exact h
 ·exact h
 ·exact ⟨by simp [fen], callsIn_fen h⟩
 ·refine ⟨by simp [fen], fun c cs _ => ?_⟩
  obtain ⟨v, w', h1, h2⟩ := h c cs
  exact ⟨v, w', h1, stepsIn_fen h2⟩
 ·exact h
 ·exact h.elim
theorem aOp_nodefer {P : Program} {op : Op} {ev : Operand → AV} {H : Hp} {K : AV → Hp → Prop} (h : aOp P op ev H K) : ∀ c, op ≠ .defer c := by
 intro c e
 subst e
 exact h
theorem wp_of_fen {P : Program} {c : Code} {Q : Exit → Act → World → Prop} {a : Act} {w : World} (h : c.wpIn (fen none) 0 P Q a w) : c.wp P Q a w := wpIn_wide.1 h
inductive AExit where
 | normal
 | exit (id : Nat)
 | ret
def aGuard (P : Program) (ops : Array Oper) (o : Oper) (K : Fr → Hp → Prop) (F : Fr) (H : Hp) : Prop :=
 match o.guard with
 | none => aOp P o.op (evC F) H (fun v H' => K (F.put o.dst v) H')
 | some (j, want) => match (ops[j]?).bind (·.dst) with
  | some t => match F t with
   | .c (.bool b) => (b = want → aOp P o.op (evC F) H (fun v H' => K (F.put o.dst v) H')) ∧ (b = !want → K (F.put o.dst (.tup [])) H)
   | .tup [] => K (F.put o.dst (.tup [])) H
   | _ => False
  | none => False
def aOps (P : Program) (ops : Array Oper) (K : Fr → Hp → Prop) : List Oper → Fr → Hp → Prop
 | [], F, H => K F H
 | o :: rest, F, H => aGuard P ops o (aOps P ops K rest) F H
def aIdx (P : Program) (ops : Array Oper) (K : Fr → Hp → Prop) (i : Nat) (F : Fr) (H : Hp) : Prop :=
 match ops[i]? with
 | some o => aGuard P ops o K F H
 | none => K F H
def aAny (P : Program) (ops : Array Oper) (K : Fr → Hp → Prop) : Nat → Array Bool → Fr → Hp → Prop
 | 0, listed, F, H => Region.ready .any ops listed = [] ∧ K F H
 | fuel + 1, listed, F, H => (Region.ready .any ops listed = [] → K F H) ∧ ∀ i ∈ Region.ready .any ops listed, aIdx P ops (aAny P ops K fuel (listed.setIfInBounds i true)) i F H
def HOk (H : Hp) : Prop := ∀ (i : Nat) (o : AObj), H[i]? = some o → o.okN H.length
def St (dd : List Deferred) (B : Nat → Prop) (w0 : World) (ι0 : En) (n N : Nat) (K : Fr → Hp → Prop) (a : Act) (w : World) : Prop :=
 ∃ ι F H, Agree n ι0 ι ∧ n ≤ H.length ∧ Sim B w0 ι H w ∧ FOk dd N ι H.length F a ∧ K F H
def CQ (dd : List Deferred) (B : Nat → Prop) (w0 : World) (ι0 : En) (n N : Nat) (Q : AExit → Fr → Hp → Prop) : Exit → Act → World → Prop
 | .normal, a, w => St dd B w0 ι0 n N (Q .normal) a w
 | .exit id, a, w => St dd B w0 ι0 n N (Q (.exit id)) a w
 | .ret, a, w => St dd B w0 ι0 n N (Q .ret) a w
 | _, _, _ => False
def asgOps (l : List Oper) : List Tmp := l.filterMap (·.dst)
def asg : Code → List Tmp
 | .seq x y => asg x ++ asg y
 | .cond _ x y => asg x ++ asg y
 | .block _ c => asg c
 | .loop c => asg c
 | .region _ ops _ => asgOps ops.toList
 | _ => []
def QF (L : List Tmp) (c : Code) (F0 : Fr) (Q : AExit → Fr → Hp → Prop) : AExit → Fr → Hp → Prop := fun e F H => Q e F H ∧ ∀ t ∈ L, t ∉ asg c → F t = F0 t
def SWp (P : Program) (n N : Nat) (L : List Tmp) (c : Code) (Q : AExit → Fr → Hp → Prop) (F : Fr) (H : Hp) : Prop :=
 ∀ rr dd B w0 ι0 ι a w, Agree n ι0 ι → n ≤ H.length → Sim B w0 ι H w → FOk dd N ι H.length F a → c.wpIn (fen rr) 0 P (CQ dd B w0 ι0 n N (QF L c F Q)) a w
def AWp (P : Program) (n N : Nat) (L : List Tmp) : Code → (AExit → Fr → Hp → Prop) → Fr → Hp → Prop
 | .skip, Q, F, H => Q .normal F H
 | .label _, Q, F, H => Q .normal F H
 | .seq x y, Q, F, H => AWp P n N L x (fun e F H => match e with | .normal => AWp P n N L y Q F H | e => Q e F H) F H
 | .cond c x y, Q, F, H => match evC F c with
  | .c (.bool b) => (b = true → AWp P n N L x Q F H) ∧ (b = false → AWp P n N L y Q F H)
  | _ => False
 | .block id c, Q, F, H => AWp P n N L c (fun e F H => match e with | .exit id' => (if id' = id then Q .normal F H else Q (.exit id') F H) | e => Q e F H) F H
 | .exit id, Q, F, H => Q (.exit id) F H
 | .ret, Q, F, H => Q .ret F H
 | .loop c, Q, F, H => SWp P n N L (.loop c) Q F H
 | .region _ ops false, Q, F, H => aOps P ops (Q .normal) ops.toList F H
 | .region _ ops true, Q, F, H => P.follows .mixedOrders = true ∧ aAny P ops (Q .normal) ops.size (Array.replicate ops.size false) F H
 | _, _, _, _ => False
def opsOk (N : Nat) (ops : Array Oper) : Bool := ops.all fun o => match o.dst with | some d => d < N | none => true
def codeOk (N : Nat) : Code → Bool
 | .seq x y => codeOk N x && codeOk N y
 | .cond _ x y => codeOk N x && codeOk N y
 | .block _ c => codeOk N c
 | .loop c => codeOk N c
 | .region _ ops _ => opsOk N ops
 | _ => true
section
variable {P : Program} {B : Nat → Prop} {rr : Option Nat} {dd : List Deferred} {w0 w w' : World} {ι ι' ι0 : En} {H : Hp} {F : Fr} {a : Act} {N n m : Nat} {L : List Tmp} {o : Oper}
theorem Sim.hok (h : Sim B w0 ι H w) : HOk H := h.scope
theorem stepK_next {K : Fr → Hp → Prop} {next : Act → World → Prop} {a' : Act} (hA : Agree n ι0 ι) (hn : n ≤ H.length) (hF : FOk dd N ι H.length F a) (hd : ∀ t, o.dst = some t → t < N)
  (hk : ∀ a w, St dd B w0 ι0 n N K a w → next a w) (h : StepK B w0 ι H.length a o.dst (fun v H' => K (F.put o.dst v) H') a' w') : next a' w' := by
 obtain ⟨ι', v, av, H', rfl, h1, h2, h3, h4, h5, h6⟩ := h
 exact hk _ _ ⟨ι', _, H', hA.trans h1 hn, by omega, h3, (hF.agree h1 h2).put hd h4 h5, h6⟩
theorem undef_rel : (AV.tup []).rel ι undef := ⟨[], rfl, trivial⟩
theorem aGuard_sound {ops : Array Oper} {K : Fr → Hp → Prop} {next : Act → World → Prop} {Q : Exit → Act → World → Prop} (hA : Agree n ι0 ι) (hn : n ≤ H.length) (hs : Sim B w0 ι H w) (hF : FOk dd N ι H.length F a) (hd : ∀ t, o.dst = some t → t < N)
  (hk : ∀ a w, St dd B w0 ι0 n N K a w → next a w) (h : aGuard P ops o K F H) :
  if Region.wanted o (yielded ops a.tmps) then o.wpIn (fen rr) 0 P a w next Q else next (a.put o.dst undef) w := by
 have hrun : aOp P o.op (evC F) H (fun v H' => K (F.put o.dst v) H') → o.wpIn (fen rr) 0 P a w next Q := fun h => wpIn_op (aOp_nodefer h) <|
  Oper.wp_mono (fun a' w' h' => stepK_next hA hn hF hd hk h') (aOp_sound (Q := Q) hs hF h)
 have hskip : K (F.put o.dst (.tup [])) H → next (a.put o.dst undef) w := fun h =>
  hk _ _ ⟨ι, _, H, hA, hn, hs, hF.put hd undef_rel (by intro x hx; cases hx), h⟩
 unfold aGuard at h
 split at h
 ·rename_i hg
  rw [if_pos (by simp [Region.wanted, hg])]
  exact hrun h
 ·rename_i j want hg
  have hwant : Region.wanted o (yielded ops a.tmps) = (yielded ops a.tmps j == some want) := by simp [Region.wanted, hg]
  rw [hwant]
  split at h
  ·rename_i t ht
   have hr := hF.rel t
   split at h
   ·rename_i b hb
    rw [hb] at hr
    have hv : a.tmps.getD t undef = .bool b := hr
    have hv2 : a.tmps[t]? = some (.bool b) := by
     rcases Nat.lt_or_ge t a.tmps.size with hlt | hge
     ·rw [Array.getElem?_eq_getElem hlt]; simp [Array.getD, hlt] at hv; rw [hv]
     ·have : ¬ t < a.tmps.size := Nat.not_lt.2 hge
      simp [Array.getD, this, undef] at hv
    have hy : yielded ops a.tmps j = some b := by simp [yielded, ht, hv2]
    rw [hy]
    by_cases hbw : b = want
    ·rw [if_pos (by simp [hbw])]; exact hrun (h.1 hbw)
    ·rw [if_neg (by simp [hbw])]; exact hskip (h.2 (by cases b <;> cases want <;> simp_all))
   ·rename_i hb
    rw [hb] at hr
    obtain ⟨vs, hv, hvs⟩ := hr
    have : vs = [] := by cases vs with | nil => rfl | cons _ _ => exact hvs.elim
    subst this
    have hne : ∀ b, a.tmps[t]? ≠ some (.bool b) := by
     intro b hb2
     rcases Nat.lt_or_ge t a.tmps.size with hlt | hge
     ·rw [Array.getElem?_eq_getElem hlt] at hb2
      simp [Array.getD, hlt] at hv
      rw [hv] at hb2; cases hb2
     ·rw [Array.getElem?_eq_none hge] at hb2; cases hb2
    have hy : yielded ops a.tmps j = none := by
     unfold yielded
     rw [ht, Option.bind_some]
     cases hq : a.tmps[t]? with
     | none => rfl
     | some v => cases v <;> first | rfl | exact absurd hq (hne _)
    rw [hy, if_neg sMp]
    exact hskip h
   ·exact h.elim
  ·exact h.elim
theorem aOps_sound {ops : Array Oper} {Q : AExit → Fr → Hp → Prop} : ∀ (l : List Oper), (∀ o ∈ l, ∀ t, o.dst = some t → t < N) → ∀ {a : Act} {w : World} {ι : En} {F : Fr} {H : Hp}, Agree n ι0 ι → n ≤ H.length → Sim B w0 ι H w → FOk dd N ι H.length F a →
  aOps P ops (Q .normal) l F H → wpListIn (fen rr) 0 P ops (CQ dd B w0 ι0 n N Q) l a w
 | [], _, a, w, ι, F, H, hA, hn, hs, hF, h => ⟨ι, F, H, hA, hn, hs, hF, h⟩
 | o :: rest, hd, a, w, ι, F, H, hA, hn, hs, hF, h => by
  have := aGuard_sound (rr := rr) (next := wpListIn (fen rr) 0 P ops (CQ dd B w0 ι0 n N Q) rest) (Q := CQ dd B w0 ι0 n N Q) hA hn hs hF (hd o sMp) (fun a w ⟨ι, F, H, h1, h2, h3, h4, h5⟩ => aOps_sound rest (fun o ho => hd o (by simp [ho])) h1 h2 h3 h4 h5) h
  unfold wpListIn
  split
  ·rename_i hw; rw [if_pos hw] at this; exact this
  ·rename_i hw; rw [if_neg hw] at this; exact ⟨fun _ _ => trivial, this⟩
theorem aAny_sound {ops : Array Oper} {Q : AExit → Fr → Hp → Prop} (hd : ∀ o ∈ ops, ∀ t, o.dst = some t → t < N) : ∀ (fuel : Nat) (listed : Array Bool) {a : Act} {w : World} {ι : En} {F : Fr} {H : Hp}, Agree n ι0 ι → n ≤ H.length → Sim B w0 ι H w → FOk dd N ι H.length F a →
  aAny P ops (Q .normal) fuel listed F H → wpAnyIn (fen rr) 0 P .any ops (CQ dd B w0 ι0 n N Q) fuel listed a w
 | 0, listed, a, w, ι, F, H, hA, hn, hs, hF, h => ⟨h.1, ι, F, H, hA, hn, hs, hF, h.2⟩
 | fuel + 1, listed, a, w, ι, F, H, hA, hn, hs, hF, h => by
  refine ⟨fun h0 => ⟨ι, F, H, hA, hn, hs, hF, h.1 h0⟩, fun i hi => ?_⟩
  have h1 := h.2 i hi
  unfold aIdx at h1
  unfold wpOpIn
  split at h1
  ·rename_i o ho
   rw [ho]
   have := aGuard_sound (rr := rr) (next := wpAnyIn (fen rr) 0 P .any ops (CQ dd B w0 ι0 n N Q) fuel (listed.setIfInBounds i true)) (Q := CQ dd B w0 ι0 n N Q) hA hn hs hF (hd o (Array.mem_of_getElem? ho)) (fun a w ⟨ι, F, H, h1, h2, h3, h4, h5⟩ => aAny_sound hd fuel _ h1 h2 h3 h4 h5) h1
   dsimp only
   split
   ·rename_i hw; rw [if_pos hw] at this; exact this
   ·rename_i hw; rw [if_neg hw] at this; exact ⟨fun _ _ => trivial, this⟩
  ·rename_i ho
   rw [ho]
   exact aAny_sound hd fuel _ hA hn hs hF h1
theorem opsOk_spec {ops : Array Oper} (h : opsOk N ops = true) : ∀ o ∈ ops, ∀ t, o.dst = some t → t < N := by
 intro o ho t ht
 have := Array.all_eq_true_iff_forall_mem.1 h o ho
 rw [ht] at this
 simpa using this
theorem aGuard_frame {ops : Array Oper} {K : Fr → Hp → Prop} (h : aGuard P ops o K F H) : aGuard P ops o (fun F' H' => K F' H' ∧ ∀ t, o.dst ≠ some t → F' t = F t) F H := by
 have hput : ∀ v t, o.dst ≠ some t → F.put o.dst v t = F t := by
  intro v t ht
  cases hd : o.dst with
  | none => rfl
  | some d =>
   have hne : t ≠ d := fun e => ht (by rw [hd, e])
   have : Nat.beq t d = false := Bool.eq_false_iff.2 (fun h => hne (Nat.eq_of_beq_eq_true h))
   simp only [Fr.put, this, cond_false]
 unfold aGuard at h ⊢
 split at h
 ·exact aOp_mono (fun v H' hk => ⟨hk, hput v⟩) h
 ·split at h
  ·split at h
   ·exact ⟨fun e => aOp_mono (fun v H' hk => ⟨hk, hput v⟩) (h.1 e), fun e => ⟨h.2 e, hput _⟩⟩
   ·exact ⟨h, hput _⟩
   ·exact h
  ·exact h
theorem aGuard_mono {ops : Array Oper} {K K' : Fr → Hp → Prop} (hk : ∀ F H, K F H → K' F H) (h : aGuard P ops o K F H) : aGuard P ops o K' F H := by
 unfold aGuard at h ⊢
 split at h
 ·exact aOp_mono (fun v H' => hk _ _) h
 ·split at h
  ·split at h
   ·exact ⟨fun e => aOp_mono (fun v H' => hk _ _) (h.1 e), fun e => hk _ _ (h.2 e)⟩
   ·exact hk _ _ h
   ·exact h.elim
  ·exact h.elim
theorem aOps_mono {ops : Array Oper} {K K' : Fr → Hp → Prop} (hk : ∀ F H, K F H → K' F H) : ∀ (l : List Oper) (F : Fr) (H : Hp), aOps P ops K l F H → aOps P ops K' l F H
 | [], F, H, h => hk F H h
 | o :: rest, F, H, h => aGuard_mono (fun F H => aOps_mono hk rest F H) h
theorem aOps_frame {ops : Array Oper} {K : Fr → Hp → Prop} : ∀ (l : List Oper) (F : Fr) (H : Hp), aOps P ops K l F H → aOps P ops (fun F' H' => K F' H' ∧ ∀ t, t ∉ asgOps l → F' t = F t) l F H
 | [], F, H, h => ⟨h, fun _ _ => rfl⟩
 | o :: rest, F, H, h => by
  refine aGuard_mono ?_ (aGuard_frame h)
  rintro F1 H1 ⟨h1, h2⟩
  refine aOps_mono ?_ rest F1 H1 (aOps_frame rest F1 H1 h1)
  rintro F2 H2 ⟨h3, h4⟩
  refine ⟨h3, fun t ht => ?_⟩
  simp only [asgOps, List.filterMap_cons] at ht h4
  cases hd : o.dst with
  | none => rw [hd] at ht; rw [h4 t ht, h2 t (by rw [hd]; simp)]
  | some d =>
   rw [hd] at ht
   simp only [List.mem_cons, not_or] at ht
   rw [h4 t ht.2, h2 t (by rw [hd]; intro e; injection e with e; exact ht.1 e.symm)]
theorem aIdx_frame {ops : Array Oper} {K : Fr → Hp → Prop} {i : Nat} (h : aIdx P ops K i F H) : aIdx P ops (fun F' H' => K F' H' ∧ ∀ t, t ∉ asgOps ops.toList → F' t = F t) i F H := by
 unfold aIdx at h ⊢
 split at h
 ·rename_i o ho
  refine aGuard_mono ?_ (aGuard_frame h)
  rintro F1 H1 ⟨h1, h2⟩
  refine ⟨h1, fun t ht => h2 t fun e => ht ?_⟩
  exact List.mem_filterMap.2 ⟨o, by simpa using Array.mem_of_getElem? ho, e⟩
 ·exact ⟨h, fun _ _ => rfl⟩
theorem aIdx_mono {ops : Array Oper} {K K' : Fr → Hp → Prop} {i : Nat} (hk : ∀ F H, K F H → K' F H) (h : aIdx P ops K i F H) : aIdx P ops K' i F H := by
 unfold aIdx at h ⊢
 split at h
 ·exact aGuard_mono hk h
 ·exact hk _ _ h
theorem aAny_mono {ops : Array Oper} {K K' : Fr → Hp → Prop} (hk : ∀ F H, K F H → K' F H) : ∀ (m : Nat) (S : Array Bool) (F : Fr) (H : Hp), aAny P ops K m S F H → aAny P ops K' m S F H
 | 0, S, F, H, h => ⟨h.1, hk _ _ h.2⟩
 | m + 1, S, F, H, h => ⟨fun e => hk _ _ (h.1 e), fun i hi => aIdx_mono (fun F H => aAny_mono hk m _ F H) (h.2 i hi)⟩
theorem aAny_frame {ops : Array Oper} {K : Fr → Hp → Prop} : ∀ (m : Nat) (S : Array Bool) (F : Fr) (H : Hp), aAny P ops K m S F H → aAny P ops (fun F' H' => K F' H' ∧ ∀ t, t ∉ asgOps ops.toList → F' t = F t) m S F H
 | 0, S, F, H, h => ⟨h.1, h.2, fun _ _ => rfl⟩
 | m + 1, S, F, H, h => ⟨fun e => ⟨h.1 e, fun _ _ => rfl⟩, fun i hi => by
  refine aIdx_mono ?_ (aIdx_frame (h.2 i hi))
  rintro F1 H1 ⟨h1, h2⟩
  refine aAny_mono ?_ m _ F1 H1 (aAny_frame m _ F1 H1 h1)
  rintro F2 H2 ⟨h3, h4⟩
  exact ⟨h3, fun t ht => (h4 t ht).trans (h2 t ht)⟩⟩
theorem CQ_mono {Q Q' : AExit → Fr → Hp → Prop} (hk : ∀ e F H, Q e F H → Q' e F H) {e : Exit} {a : Act} {w : World} (h : CQ dd B w0 ι0 n N Q e a w) : CQ dd B w0 ι0 n N Q' e a w := by
 cases e <;> first | exact h.elim | (obtain ⟨ι, F, H, h1, h2, h3, h4, h5⟩ := h; exact ⟨ι, F, H, h1, h2, h3, h4, hk _ _ _ h5⟩)
theorem SWp.mono {c : Code} {Q Q' : AExit → Fr → Hp → Prop} (h : SWp P n N L c Q F H) (hk : ∀ e F H, Q e F H → Q' e F H) : SWp P n N L c Q' F H :=
 fun rr dd B w0 ι0 ι a w hA hn hs hF => wpIn_mono (h rr dd B w0 ι0 ι a w hA hn hs hF) fun _ _ _ h => CQ_mono (fun _ _ _ h => ⟨hk _ _ _ h.1, h.2⟩) h
theorem awp_mono : ∀ {C : Code} {Q Q' : AExit → Fr → Hp → Prop} {F : Fr} {H : Hp}, (∀ e F H, Q e F H → Q' e F H) → AWp P n N L C Q F H → AWp P n N L C Q' F H
 | .skip, _, _, _, _, hq, h => hq _ _ _ h
 | .label _, _, _, _, _, hq, h => hq _ _ _ h
 | .seq x y, _, _, _, _, hq, h => by
  refine awp_mono (C := x) ?_ h
  intro e F H he
  cases e with
  | normal => exact awp_mono (C := y) hq he
  | _ => exact hq _ _ _ he
 | .cond c x y, _, _, F, _, hq, h => by
  unfold AWp at h ⊢
  split at h
  ·exact ⟨fun e => awp_mono (C := x) hq (h.1 e), fun e => awp_mono (C := y) hq (h.2 e)⟩
  ·exact h.elim
 | .block id c, _, _, _, _, hq, h => by
  refine awp_mono (C := c) ?_ h
  intro e F H he
  cases e with
  | exit i =>
   dsimp only at he ⊢
   by_cases hi : i = id
   ·rw [if_pos hi] at he ⊢; exact hq _ _ _ he
   ·rw [if_neg hi] at he ⊢; exact hq _ _ _ he
  | _ => exact hq _ _ _ he
 | .exit _, _, _, _, _, hq, h => hq _ _ _ h
 | .ret, _, _, _, _, hq, h => hq _ _ _ h
 | .loop c, _, _, _, _, hq, h => SWp.mono h hq
 | .region _ ops false, _, _, _, _, hq, h => aOps_mono (fun F H => hq _ F H) _ _ _ h
 | .region _ ops true, _, _, _, _, hq, h => ⟨h.1, aAny_mono (fun F H => hq _ F H) _ _ _ _ h.2⟩
theorem awp_frame : ∀ {C : Code} {Q : AExit → Fr → Hp → Prop} {F : Fr} {H : Hp}, AWp P n N L C Q F H → AWp P n N L C (QF L C F Q) F H
 | .skip, _, _, _, h => ⟨h, fun _ _ _ => rfl⟩
 | .label _, _, _, _, h => ⟨h, fun _ _ _ => rfl⟩
 | .seq x y, Q, F, _, h => by
  refine awp_mono (C := x) ?_ (awp_frame (C := x) h)
  rintro e F1 H1 ⟨he, hf⟩
  cases e with
  | normal =>
   refine awp_mono (C := y) ?_ (awp_frame (C := y) he)
   rintro e F2 H2 ⟨he2, hf2⟩
   refine ⟨he2, fun t hL ht => ?_⟩
   simp only [asg, List.mem_append, not_or] at ht
   exact (hf2 t hL ht.2).trans (hf t hL ht.1)
  | _ => exact ⟨he, fun t hL ht => hf t hL (by simp only [asg, List.mem_append, not_or] at ht; exact ht.1)⟩
 | .cond c x y, Q, F, _, h => by
  unfold AWp at h ⊢
  split at h
  ·exact ⟨fun e => awp_mono (C := x) (fun _ _ _ hh => ⟨hh.1, fun t hL ht => hh.2 t hL (by simp only [asg, List.mem_append, not_or] at ht; exact ht.1)⟩) (awp_frame (C := x) (h.1 e)),
    fun e => awp_mono (C := y) (fun _ _ _ hh => ⟨hh.1, fun t hL ht => hh.2 t hL (by simp only [asg, List.mem_append, not_or] at ht; exact ht.2)⟩) (awp_frame (C := y) (h.2 e))⟩
  ·exact h.elim
 | .block id c, Q, F, _, h => by
  refine awp_mono (C := c) ?_ (awp_frame (C := c) h)
  rintro e F1 H1 ⟨he, hf⟩
  cases e with
  | exit i =>
   dsimp only at he ⊢
   by_cases hi : i = id
   ·rw [if_pos hi] at he ⊢; exact ⟨he, hf⟩
   ·rw [if_neg hi] at he ⊢; exact ⟨he, hf⟩
  | _ => exact ⟨he, hf⟩
 | .exit _, _, _, _, h => ⟨h, fun _ _ _ => rfl⟩
 | .ret, _, _, _, h => ⟨h, fun _ _ _ => rfl⟩
 | .loop c, Q, F, _, h => by
  intro rr dd B w0 ι0 ι a w hA hn hs hF
  exact wpIn_mono (h rr dd B w0 ι0 ι a w hA hn hs hF) fun _ _ _ h => CQ_mono (fun _ _ _ h => ⟨⟨h.1, h.2⟩, h.2⟩) h
 | .region _ ops false, _, _, _, h => aOps_mono (fun _ _ h => ⟨h.1, fun t _ ht => h.2 t ht⟩) _ _ _ (aOps_frame _ _ _ h)
 | .region _ ops true, _, _, _, h => ⟨h.1, aAny_mono (fun _ _ h => ⟨h.1, fun t _ ht => h.2 t ht⟩) _ _ _ _ (aAny_frame _ _ _ _ h.2)⟩
theorem awp_sound : ∀ (c : Code) (Q : AExit → Fr → Hp → Prop) {a : Act} {w : World} {ι : En} {F : Fr} {H : Hp}, codeOk N c = true → Agree n ι0 ι → n ≤ H.length → Sim B w0 ι H w → FOk dd N ι H.length F a → AWp P n N L c Q F H → c.wpIn (fen rr) 0 P (CQ dd B w0 ι0 n N Q) a w := by
 intro c
 induction c with
 | skip => intro Q a w ι F H _ hA hn hs hF h; exact wpIn_skip ⟨ι, F, H, hA, hn, hs, hF, h⟩
 | label l => intro Q a w ι F H _ hA hn hs hF h; exact wpIn_label ⟨ι, F, H, hA, hn, hs, hF, h⟩
 | ret => intro Q a w ι F H _ hA hn hs hF h; exact wpIn_ret ⟨ι, F, H, hA, hn, hs, hF, h⟩
 | exit id => intro Q a w ι F H _ hA hn hs hF h; exact wpIn_exit ⟨ι, F, H, hA, hn, hs, hF, h⟩
 | seq x y ihx ihy =>
  intro Q a w ι F H hc hA hn hs hF h
  simp only [codeOk, Bool.and_eq_true] at hc
  refine wpIn_seq (wpIn_mono (ihx _ hc.1 hA hn hs hF h) ?_)
  intro e a' w' he
  cases e with
  | normal => obtain ⟨ι', F', H', h1, h2, h3, h4, h5⟩ := he; exact ihy Q hc.2 h1 h2 h3 h4 h5
  | _ => exact he
 | cond c x y ihx ihy =>
  intro Q a w ι F H hc hA hn hs hF h
  simp only [codeOk, Bool.and_eq_true] at hc
  simp only [AWp] at h
  split at h
  ·rename_i b hb
   have hv : a.eval c = .bool b := by have := evC_rel hF c; rw [hb] at this; exact this
   exact wpIn_cond_split hv (fun e => ihx Q hc.1 hA hn hs hF (h.1 e)) (fun e => ihy Q hc.2 hA hn hs hF (h.2 e))
  ·exact h.elim
 | block id c ih =>
  intro Q a w ι F H hc hA hn hs hF h
  refine wpIn_block (wpIn_mono (ih _ hc hA hn hs hF h) ?_)
  intro e a' w' he
  cases e with
  | exit id' =>
   obtain ⟨ι', F', H', h1, h2, h3, h4, h5⟩ := he
   show if id' = id then _ else _
   by_cases hid : id' = id
   ·rw [if_pos hid]; exact ⟨ι', F', H', h1, h2, h3, h4, by simpa [hid] using h5⟩
   ·rw [if_neg hid]; exact ⟨ι', F', H', h1, h2, h3, h4, by simpa [hid] using h5⟩
  | _ => exact he
 | loop c ih =>
  intro Q a w ι F H hc hA hn hs hF h
  exact wpIn_mono (h rr dd B w0 ι0 ι a w hA hn hs hF) fun _ _ _ h => CQ_mono (fun _ _ _ h => h.1) h
 | region id ops draw =>
  intro Q a w ι F H hc hA hn hs hF h
  have hd := opsOk_spec hc
  cases draw with
  | false => exact wpIn_region_list (aOps_sound ops.toList (fun o ho => hd o (by simpa using ho)) hA hn hs hF h)
  | true => exact wpIn_region_any h.1 (aAny_sound hd _ _ hA hn (hs.heap (w' := { w with drawn := w.drawn + 1 }) rfl rfl rfl rfl) hF h.2)
 | _ => intro Q a w ι F H hc hA hn hs hF h; exact h.elim
theorem SWp.of {c : Code} {Q : AExit → Fr → Hp → Prop} (hc : codeOk N c = true) (h : AWp P n N L c Q F H) : SWp P n N L c Q F H :=
 fun rr dd B w0 ι0 ι a w hA hn hs hF => awp_sound c _ hc hA hn hs hF (awp_frame h)
theorem SWp.seq {x y : Code} {Q : AExit → Fr → Hp → Prop} (h : SWp P n N L x (fun e F H => match e with | .normal => SWp P n N L y Q F H | e => Q e F H) F H) : SWp P n N L (.seq x y) Q F H := by
 intro rr dd B w0 ι0 ι a w hA hn hs hF
 refine wpIn_seq (wpIn_mono (h rr dd B w0 ι0 ι a w hA hn hs hF) ?_)
 intro e a' w' he
 cases e with
 | normal =>
  obtain ⟨ι', F', H', h1, h2, h3, h4, h5, h6⟩ := he
  refine wpIn_mono (h5 rr dd B w0 ι0 ι' a' w' h1 h2 h3 h4) fun _ _ _ hh => CQ_mono ?_ hh
  rintro e F2 H2 ⟨h7, h8⟩
  refine ⟨h7, fun t hL ht => ?_⟩
  simp only [asg, List.mem_append, not_or] at ht
  exact (h8 t hL ht.2).trans (h6 t hL ht.1)
 | exit id =>
  obtain ⟨ι', F', H', h1, h2, h3, h4, h5, h6⟩ := he
  exact ⟨ι', F', H', h1, h2, h3, h4, h5, fun t hL ht => h6 t hL (by simp only [asg, List.mem_append, not_or] at ht; exact ht.1)⟩
 | ret =>
  obtain ⟨ι', F', H', h1, h2, h3, h4, h5, h6⟩ := he
  exact ⟨ι', F', H', h1, h2, h3, h4, h5, fun t hL ht => h6 t hL (by simp only [asg, List.mem_append, not_or] at ht; exact ht.1)⟩
 | _ => exact he
theorem SWp.block {id : Nat} {c : Code} {Q : AExit → Fr → Hp → Prop} (h : SWp P n N L c (fun e F H => match e with | .exit id' => (if id' = id then Q .normal F H else Q (.exit id') F H) | e => Q e F H) F H) : SWp P n N L (.block id c) Q F H := by
 intro rr dd B w0 ι0 ι a w hA hn hs hF
 refine wpIn_block (wpIn_mono (h rr dd B w0 ι0 ι a w hA hn hs hF) ?_)
 intro e a' w' he
 cases e with
 | exit id' =>
  obtain ⟨ι', F', H', h1, h2, h3, h4, h5, h6⟩ := he
  show if id' = id then _ else _
  by_cases hid : id' = id
  ·rw [if_pos hid]; exact ⟨ι', F', H', h1, h2, h3, h4, by simpa [hid] using h5, h6⟩
  ·rw [if_neg hid]; exact ⟨ι', F', H', h1, h2, h3, h4, by simpa [hid] using h5, h6⟩
 | normal => exact he
 | ret => exact he
 | _ => exact he
end
end Go.Proofs.YtagoolooikpabaaGreatDoor
namespace Go.Proofs.YtagoolooikpabaaGreatDoor
open Go Go.RowKit
def relAL (ι : En) : List AV → List Value → Prop
 | [], [] => True
 | x :: xs, v :: vs => x.rel ι v ∧ relAL ι xs vs
 | _, _ => False
def WkL (m : Nat) (vs : List AV) (H : Hp) (vs' : List AV) (H' : Hp) : Prop :=
 ∀ B w0 ι w us, Sim B w0 ι H w → relAL ι vs us → (∀ x ∈ vs, x.ok H.length) → ∃ ι', Agree m ι ι' ∧ m ≤ H'.length ∧ Sim B w0 ι' H' w ∧ relAL ι' vs' us ∧ ∀ x ∈ vs', x.ok H'.length
section
variable {P : Program} {B : Nat → Prop} {rr : Option Nat} {dd : List Deferred} {w0 w w' : World} {ι ι' ι0 : En} {H H' H1 H2 : Hp} {F : Fr} {a : Act} {N n m : Nat} {L : List Tmp} {o : Oper} {vs vs' vs1 vs2 : List AV}
theorem WkL.trans (h : WkL m vs H vs1 H1) (k : WkL m vs1 H1 vs2 H2) : WkL m vs H vs2 H2 := by
 intro B w0 ι w us hs hr ho
 obtain ⟨ι1, h1, h2, h3, h4, h5⟩ := h B w0 ι w us hs hr ho
 obtain ⟨ι2, k1, k2, k3, k4, k5⟩ := k B w0 ι1 w us h3 h4 h5
 exact ⟨ι2, h1.trans k1 lRf, k2, k3, k4, k5⟩
theorem WkL.le {m' : Nat} (h : WkL m vs H vs1 H1) (hm : m' ≤ m) : WkL m' vs H vs1 H1 := by
 intro B w0 ι w us hs hr ho
 obtain ⟨ι1, h1, h2, h3, h4, h5⟩ := h B w0 ι w us hs hr ho
 exact ⟨ι1, h1.le hm, by omega, h3, h4, h5⟩
def LeV : List AV → List AV → Prop
 | [], [] => True
 | x :: xs, y :: ys => (y = .any ∨ x = y) ∧ LeV xs ys
 | _, _ => False
theorem LeV.refl : ∀ l : List AV, LeV l l
 | [] => trivial
 | _ :: l => ⟨.inr rfl, LeV.refl l⟩
theorem relAL_le : ∀ {xs ys : List AV} {us : List Value}, LeV xs ys → relAL ι xs us → relAL ι ys us
 | [], [], [], _, _ => trivial
 | x :: xs, y :: ys, u :: us, h, hr => ⟨by
  rcases h.1 with h | h
  ·subst h; trivial
  ·subst h; exact hr.1, relAL_le h.2 hr.2⟩
 | [], [], _ :: _, _, hr => hr.elim
 | _ :: _, _ :: _, [], _, hr => hr.elim
theorem leV_ok : ∀ {xs ys : List AV}, LeV xs ys → (∀ x ∈ xs, x.ok n) → ∀ y ∈ ys, y.ok n
 | [], [], _, _ => by simp
 | x :: xs, y :: ys, h, ho => by
  intro z hz
  rcases List.mem_cons.1 hz with rfl | hz
  ·rcases h.1 with h1 | h1 <;> subst h1
   ·trivial
   ·exact ho _ sMp
  ·exact leV_ok h.2 (fun x hx => ho x (by simp [hx])) z hz
theorem WkL.of_le (h : LeV vs vs') (hm : m ≤ H.length) : WkL m vs H vs' H :=
 fun B w0 ι w us hs hr ho => ⟨ι, Agree.refl _ _, hm, hs, relAL_le h hr, leV_ok h ho⟩
theorem WkL.refl (hm : m ≤ H.length) : WkL m vs H vs H := WkL.of_le (LeV.refl _) hm
/-! ### frames of which a part is known -/
def lookD : List (Tmp × AV) → Tmp → AV → AV
 | [], _, d => d
 | (t, v) :: l, t', d => bif Nat.beq t' t then v else lookD l t' d
def keepD (F : Fr) : List Tmp → Tmp → AV
 | [], _ => .any
 | t :: l, t' => bif Nat.beq t' t then F t else keepD F l t'
def Fr.only (F : Fr) (kl : List Tmp) (l : List (Tmp × AV)) : Fr := fun t => lookD l t (keepD F kl t)
theorem keepD_cases (F : Fr) : ∀ (kl : List Tmp) (t : Tmp), keepD F kl t = .any ∨ (t ∈ kl ∧ keepD F kl t = F t)
 | [], t => .inl rfl
 | x :: kl, t => by
  simp only [keepD]
  cases hb : Nat.beq t x with
  | true => have := Nat.eq_of_beq_eq_true hb; subst this; exact .inr ⟨by simp, rfl⟩
  | false =>
   rcases keepD_cases F kl t with h | ⟨h1, h2⟩
   ·exact .inl h
   ·exact .inr ⟨by simp [h1], h2⟩
theorem keepD_mem (F : Fr) : ∀ (kl : List Tmp) (t : Tmp), t ∈ kl → keepD F kl t = F t
 | x :: kl, t, h => by
  simp only [keepD]
  cases hb : Nat.beq t x with
  | true => have := Nat.eq_of_beq_eq_true hb; subst this; rfl
  | false =>
   have hne : t ≠ x := fun e => by subst e; simp at hb
   exact keepD_mem F kl t (by simpa [hne] using h)
theorem lookD_out : ∀ (l : List (Tmp × AV)) (t : Tmp) (d : AV), t ∉ l.map (·.1) → lookD l t d = d
 | [], _, _, _ => rfl
 | (x, v) :: l, t, d, h => by
  simp only [List.map_cons, List.mem_cons, not_or] at h
  have hb : Nat.beq t x = false := Bool.eq_false_iff.2 fun e => h.1 (Nat.eq_of_beq_eq_true e)
  simp only [lookD, hb, cond_false]
  exact lookD_out l t d h.2
theorem lookD_cases : ∀ (l : List (Tmp × AV)) (t : Tmp) (d : AV), lookD l t d = d ∨ ∃ v, (t, v) ∈ l ∧ lookD l t d = v
 | [], _, _ => .inl rfl
 | (x, v) :: l, t, d => by
  simp only [lookD]
  cases hb : Nat.beq t x with
  | true => have := Nat.eq_of_beq_eq_true hb; subst this; exact .inr ⟨v, by simp, rfl⟩
  | false =>
   rcases lookD_cases l t d with h | ⟨u, h1, h2⟩
   ·exact .inl h
   ·exact .inr ⟨u, by simp [h1], h2⟩
theorem relAL_mem : ∀ {l : List (Tmp × AV)}, relAL ι (l.map (·.2)) (l.map fun p => a.tmps.getD p.1 undef) → ∀ p ∈ l, p.2.rel ι (a.tmps.getD p.1 undef)
 | [], _, p, hp => by simp at hp
 | q :: l, h, p, hp => by
  rcases List.mem_cons.1 hp with rfl | hp
  ·exact h.1
  ·exact relAL_mem h.2 p hp
theorem FOk.only {F0 F1 : Fr} {kl : List Tmp} {l : List (Tmp × AV)} {k : Nat} (h0 : FOk dd N ι H.length F1 a) (hm : ∀ t ∈ kl, F1 t = F0 t) (ho : ∀ t ∈ kl, (F0 t).ok m)
  (hA : Agree m ι ι') (hmk : m ≤ k) (hr : relAL ι' (l.map (·.2)) (l.map fun p => a.tmps.getD p.1 undef)) (hok : ∀ x ∈ l.map (·.2), x.ok k) : FOk dd N ι' k (F0.only kl l) a := by
 have hd : ∀ t, (keepD F0 kl t).rel ι' (a.tmps.getD t undef) ∧ (keepD F0 kl t).ok k := by
  intro t
  rcases keepD_cases F0 kl t with h | ⟨h1, h2⟩
  ·rw [h]; exact ⟨trivial, trivial⟩
  ·rw [h2]
   have := h0.rel t
   rw [hm t h1] at this
   exact ⟨AV.rel_agree hA (ho t h1) this, AV.ok_mono hmk (ho t h1)⟩
 refine ⟨h0.size, h0.defers, fun t => ?_, fun t => ?_⟩
 ·show (lookD l t (keepD F0 kl t)).rel ι' _
  rcases lookD_cases l t (keepD F0 kl t) with h | ⟨v, h1, h2⟩
  ·rw [h]; exact (hd t).1
  ·rw [h2]; exact relAL_mem hr _ h1
 ·show (lookD l t (keepD F0 kl t)).ok k
  rcases lookD_cases l t (keepD F0 kl t) with h | ⟨v, h1, h2⟩
  ·rw [h]; exact (hd t).2
  ·rw [h2]; exact hok v (List.mem_map.2 ⟨_, h1, rfl⟩)
theorem relAL_frame (hF : FOk dd N ι n F a) : ∀ (l : List (Tmp × AV)), relAL ι (l.map fun p => F p.1) (l.map fun p => a.tmps.getD p.1 undef)
 | [] => trivial
 | p :: l => ⟨hF.rel p.1, relAL_frame hF l⟩
theorem ok_frame (hF : FOk dd N ι n F a) (l : List (Tmp × AV)) : ∀ x ∈ l.map (fun p => F p.1), x.ok n := by
 intro x hx
 obtain ⟨p, _, rfl⟩ := List.mem_map.1 hx
 exact hF.scope _
def listsOk (c : Code) (L kl ks : List Tmp) : Bool := ks.all (fun t => (asg c).contains t || (!kl.contains t && !L.contains t)) && kl.all (fun t => !(asg c).contains t) && L.all (fun t => (asg c).contains t || kl.contains t)
theorem listsOk_spec {c : Code} {L kl ks : List Tmp} (h : listsOk c L kl ks = true) : (∀ t ∈ ks, t ∈ asg c ∨ (t ∉ kl ∧ t ∉ L)) ∧ (∀ t ∈ kl, t ∉ asg c) ∧ ∀ t ∈ L, t ∉ asg c → t ∈ kl := by
 simp only [listsOk, Bool.and_eq_true, List.all_eq_true, List.contains_iff_mem, Bool.not_eq_true', Bool.or_eq_true] at h
 obtain ⟨⟨h1, h2⟩, h3⟩ := h
 refine ⟨fun t ht => ?_, fun t ht hm => ?_, fun t ht hm => ?_⟩
 ·rcases h1 t ht with h | ⟨h, h'⟩
  ·exact .inl h
  ·rw [← Bool.not_eq_true, List.contains_iff_mem] at h h'
   exact .inr ⟨h, h'⟩
 ·have := h2 t ht
  rw [← Bool.not_eq_true, List.contains_iff_mem] at this
  exact this hm
 ·rcases h3 t ht with h | h
  ·exact absurd h hm
  ·exact h
def Next {σ : Type} (inv : σ → Prop) (vals : σ → List (Tmp × AV)) (hp : σ → Hp) (m : Nat) (F : Fr) (H : Hp) : Prop := ∃ s, inv s ∧ WkL m ((vals s).map fun p => F p.1) H ((vals s).map (·.2)) (hp s)
def QN {σ : Type} (inv : σ → Prop) (vals : σ → List (Tmp × AV)) (hp : σ → Hp) (m : Nat) (Q : AExit → Fr → Hp → Prop) : AExit → Fr → Hp → Prop := fun e F H => match e with | .normal => Next inv vals hp m F H | e => Q e F H
theorem next_go {σ : Type} {inv : σ → Prop} {vals : σ → List (Tmp × AV)} {hp : σ → Hp} (hA : Agree m ι0 ι) (hm : m ≤ H1.length) {F0 F1 : Fr} {kl : List Tmp} (hs : Sim B w0 ι H1 w) (hF : FOk dd N ι H1.length F1 a) (h : Next inv vals hp m F1 H1)
  (h6 : ∀ t ∈ kl, F1 t = F0 t) (ho : ∀ t ∈ kl, (F0 t).ok m) : ∃ s ι2, inv s ∧ Agree m ι0 ι2 ∧ m ≤ (hp s).length ∧ Sim B w0 ι2 (hp s) w ∧ FOk dd N ι2 (hp s).length (F0.only kl (vals s)) a := by
 obtain ⟨s, hi, hw⟩ := h
 obtain ⟨ι2, k1, k2, k3, k4, k5⟩ := hw B w0 ι w _ hs (relAL_frame hF (vals s)) (ok_frame hF _)
 exact ⟨s, ι2, hi, hA.trans k1 lRf, k2, k3, FOk.only hF h6 ho k1 k2 k4 k5⟩
theorem only_out {kl : List Tmp} {l : List (Tmp × AV)} {t : Tmp} (h1 : t ∈ kl) (h2 : t ∉ l.map (·.1)) : F.only kl l t = F t := by
 show lookD l t (keepD F kl t) = F t
 rw [lookD_out _ _ _ h2, keepD_mem _ _ _ h1]
theorem SWp.cut {σ : Type} {x y : Code} {Q : AExit → Fr → Hp → Prop} (m : Nat) (kl ks : List Tmp) (inv : σ → Prop) (vals : σ → List (Tmp × AV)) (hp : σ → Hp) (hks : ∀ s, (vals s).map (·.1) = ks) (hl : listsOk x L kl ks = true) (hnm : n ≤ m) (hmH : m ≤ H.length)
  (hkl : ∀ t ∈ kl, (F t).ok m) (h : SWp P m N kl x (QN inv vals hp m Q) F H)
  (k : ∀ s, inv s → m ≤ (hp s).length → HOk (hp s) → SWp P n N L y Q (F.only kl (vals s)) (hp s)) : SWp P n N L (.seq x y) Q F H := by
 obtain ⟨l1, l2, l3⟩ := listsOk_spec hl
 intro rr dd B w0 ι0 ι a w hA hn hs hF
 refine wpIn_seq (wpIn_mono (h rr dd B w0 ι ι a w (Agree.refl _ _) hmH hs hF) ?_)
 intro e a' w' he
 have hLx : ∀ t ∈ L, t ∉ asg (.seq x y) → t ∈ kl ∧ t ∉ asg x ∧ t ∉ asg y := fun t ht hm => by
  simp only [asg, List.mem_append, not_or] at hm
  exact ⟨l3 t ht hm.1, hm.1, hm.2⟩
 cases e with
 | normal =>
  obtain ⟨ι', F', H', h1, h2, h3, h4, h5, h6⟩ := he
  obtain ⟨s, ι2, g1, g2, g3, g4, g5⟩ := next_go (F0 := F) h1 h2 h3 h4 h5 (fun t ht => h6 t ht (l2 t ht)) hkl
  refine wpIn_mono (k s g1 g3 g4.hok rr dd B w0 ι0 ι2 a' w' (hA.trans g2 hnm) oMg g4 g5) fun _ _ _ hh => CQ_mono ?_ hh
  rintro e F2 H2 ⟨h7, h8⟩
  refine ⟨h7, fun t ht hm => ?_⟩
  obtain ⟨q1, q2, q3⟩ := hLx t ht hm
  exact (h8 t ht q3).trans (only_out q1 (by rw [hks]; exact fun h => (l1 t h).elim q2 fun g => g.2 ht))
 | exit id =>
  obtain ⟨ι', F', H', h1, h2, h3, h4, h5, h6⟩ := he
  exact ⟨ι', F', H', hA.trans h1 hnm, by omega, h3, h4, h5, fun t ht hm => h6 t (hLx t ht hm).1 (hLx t ht hm).2.1⟩
 | ret =>
  obtain ⟨ι', F', H', h1, h2, h3, h4, h5, h6⟩ := he
  exact ⟨ι', F', H', hA.trans h1 hnm, by omega, h3, h4, h5, fun t ht hm => h6 t (hLx t ht hm).1 (hLx t ht hm).2.1⟩
 | _ => exact he
theorem SWp.loop {σ : Type} {c : Code} {Q : AExit → Fr → Hp → Prop} (m : Nat) (kl ks : List Tmp) (inv : σ → Prop) (vals : σ → List (Tmp × AV)) (hp : σ → Hp) (μ : σ → Nat) (hks : ∀ s, (vals s).map (·.1) = ks) (hl : listsOk c L kl ks = true) (hnm : n ≤ m) (hmH : m ≤ H.length)
  (hkl : ∀ t ∈ kl, (F t).ok m) (h0 : Next inv vals hp m F H)
  (h : ∀ s, inv s → m ≤ (hp s).length → HOk (hp s) → SWp P m N kl c (QN (fun s' => inv s' ∧ μ s' < μ s) vals hp m Q) (F.only kl (vals s)) (hp s)) : SWp P n N L (.loop c) Q F H := by
 obtain ⟨l1, l2, l3⟩ := listsOk_spec hl
 intro rr dd B w0 ι0 ι a w hA hn hs hF
 let R : Act → World → Nat → Prop := fun a w k => ∃ s ι2, inv s ∧ Agree m ι ι2 ∧ m ≤ (hp s).length ∧ Sim B w0 ι2 (hp s) w ∧ FOk dd N ι2 (hp s).length (F.only kl (vals s)) a ∧ μ s = k
 have hleast : ∀ a w, (∃ k, R a w k) → ∃ k, R a w k ∧ ∀ j, R a w j → k ≤ j := by
  rintro a w ⟨k, hk⟩
  induction k using Nat.strongRecOn with
  | _ k ih =>
   by_cases hex : ∃ j, j < k ∧ R a w j
   ·obtain ⟨j, hj, hR⟩ := hex; exact ih j hj hR
   ·exact ⟨k, hk, fun j hj => Nat.le_of_not_lt fun hlt => hex ⟨j, hlt, hj⟩⟩
 have hex : ∃ f : Act → World → Nat, ∀ a w, (∃ k, R a w k) → R a w (f a w) ∧ ∀ j, R a w j → f a w ≤ j := by
  have : ∀ p : Act × World, ∃ k, (∃ k, R p.1 p.2 k) → R p.1 p.2 k ∧ ∀ j, R p.1 p.2 j → k ≤ j := by
   intro p
   by_cases h : ∃ k, R p.1 p.2 k
   ·obtain ⟨k, hk⟩ := hleast p.1 p.2 h; exact ⟨k, fun _ => hk⟩
   ·exact ⟨0, fun h' => absurd h' h⟩
  obtain ⟨f, hf⟩ := Classical.axiomOfChoice this
  exact ⟨fun a w => f (a, w), fun a w => hf (a, w)⟩
 obtain ⟨f, hf⟩ := hex
 have hstart : ∃ k, R a w k := by
  obtain ⟨s, ι2, g1, g2, g3, g4, g5⟩ := next_go (F0 := F) (Agree.refl _ _) hmH hs hF h0 (fun _ _ => rfl) hkl
  exact ⟨_, s, ι2, g1, g2, g3, g4, g5, rfl⟩
 have hout : ∀ (s : σ) (F' : Fr), (∀ t ∈ kl, t ∉ asg c → F' t = F.only kl (vals s) t) → ∀ t ∈ kl, F' t = F t := fun s F' hf t ht => (hf t ht (l2 t ht)).trans (only_out ht (by rw [hks]; exact fun h => (l1 t h).elim (l2 t ht) fun g => g.1 ht))
 refine wpIn_loop (fun a w => ∃ k, R a w k) f hstart (fun a w hR => ?_)
 obtain ⟨⟨s, ι1, h1, h2, h3, h4, h5, h6⟩, _⟩ := hf a w hR
 refine wpIn_mono (h s h1 h3 h4.hok rr dd B w0 ι ι1 a w h2 h3 h4 h5) ?_
 intro e a' w' he
 cases e with
 | normal =>
  obtain ⟨ι', F', H', g1, g2, g3, g4, g5, g6⟩ := he
  obtain ⟨s', ι2, k1, k2, k3, k4, k5⟩ := next_go (F0 := F) g1 g2 g3 g4 g5 (hout s F' g6) hkl
  have hR' : R a' w' (μ s') := ⟨s', ι2, k1.1, k2, k3, k4, k5, rfl⟩
  have := (hf a' w' ⟨_, hR'⟩).2 _ hR'
  have := k1.2
  exact ⟨⟨_, hR'⟩, by omega⟩
 | exit id =>
  obtain ⟨ι', F', H', g1, g2, g3, g4, g5, g6⟩ := he
  exact ⟨ι', F', H', hA.trans g1 hnm, by omega, g3, g4, g5, fun t ht hm => hout s F' g6 t (l3 t ht hm)⟩
 | ret =>
  obtain ⟨ι', F', H', g1, g2, g3, g4, g5, g6⟩ := he
  exact ⟨ι', F', H', hA.trans g1 hnm, by omega, g3, g4, g5, fun t ht hm => hout s F' g6 t (l3 t ht hm)⟩
 | _ => exact he
/-! ### what may be forgotten: rows are frozen, names dropped or changed -/
def AC.frz (i sz : Nat) (els : List (List AC)) : AC → AC
 | .sl (some (j, k)) n => if j = i ∧ k + n ≤ els.length then .lst sz ((els.drop k).take n) else .sl (some (j, k)) n
 | x => x
def AV.frz1 (i sz : Nat) (els : List (List AC)) : AV → AV
 | .c x => .c (x.frz i sz els)
 | x => x
def AV.frz (i sz : Nat) (els : List (List AC)) : AV → AV
 | .tup vs => .tup (vs.map (AV.frz1 i sz els))
 | x => x.frz1 i sz els
theorem AC.frz_rel {i sz : Nat} {els : List (List AC)} {x : AC} {v : Value} (hA : Agree n ι ι') (ho : x.ok n) (hr : x.rel ι v)
  (hf : ∀ (k m : Nat) (v : Value), k + m ≤ els.length → AC.rel ι (.sl (some (i, k)) m) v → AC.rel ι' (.lst sz ((els.drop k).take m)) v) : (x.frz i sz els).rel ι' v ∧ (x.frz i sz els).ok n := by
 unfold AC.frz
 split
 ·rename_i j k m
  split
  ·rename_i h
   obtain ⟨rfl, h2⟩ := h
   exact ⟨hf _ _ _ h2 hr, trivial⟩
  ·exact ⟨AC.rel_agree hA ho hr, ho⟩
 ·exact ⟨AC.rel_agree hA ho hr, ho⟩
theorem AV.frz1_rel {i sz : Nat} {els : List (List AC)} {x : AV} {v : Value} (hA : Agree n ι ι') (ho : x.ok1 n) (hr : x.rel1 ι v)
  (hf : ∀ (k m : Nat) (v : Value), k + m ≤ els.length → AC.rel ι (.sl (some (i, k)) m) v → AC.rel ι' (.lst sz ((els.drop k).take m)) v) : (x.frz1 i sz els).rel1 ι' v ∧ (x.frz1 i sz els).ok1 n := by
 cases x with
 | c x => exact AC.frz_rel hA ho hr hf
 | agg cs => exact ⟨AV.rel1_agree hA ho hr, ho⟩
 | any => exact ⟨trivial, trivial⟩
 | tup ts => exact hr.elim
theorem AV.frz_rel {i sz : Nat} {els : List (List AC)} {x : AV} {v : Value} (hA : Agree n ι ι') (ho : x.ok n) (hr : x.rel ι v)
  (hf : ∀ (k m : Nat) (v : Value), k + m ≤ els.length → AC.rel ι (.sl (some (i, k)) m) v → AC.rel ι' (.lst sz ((els.drop k).take m)) v) : (x.frz i sz els).rel ι' v ∧ (x.frz i sz els).ok n := by
 cases x with
 | c x => exact AC.frz_rel hA ho hr hf
 | agg cs => exact ⟨AV.rel_agree (x := .agg cs) hA ho hr, ho⟩
 | any => exact ⟨trivial, trivial⟩
 | tup ts =>
  obtain ⟨us, rfl, hr⟩ := hr
  have key : ∀ (ts : List AV) (us : List Value), rel1L ι ts us → (∀ x ∈ ts, x.ok1 n) → rel1L ι' (ts.map (AV.frz1 i sz els)) us ∧ ∀ x ∈ ts.map (AV.frz1 i sz els), x.ok1 n := by
   intro ts
   induction ts with
   | nil => intro us h _; cases us with | nil => exact ⟨trivial, by simp⟩ | cons _ _ => exact h.elim
   | cons t ts ih =>
    intro us h ho
    cases us with
    | nil => exact h.elim
    | cons u us =>
     obtain ⟨h1, h2⟩ := ih us h.2 (fun x hx => ho x (by simp [hx]))
     obtain ⟨h3, h4⟩ := AV.frz1_rel hA (ho t sMp) h.1 hf
     exact ⟨⟨h3, h1⟩, fun x hx => by
      rcases List.mem_cons.1 hx with rfl | hx
      ·exact h4
      ·exact h2 x hx⟩
  obtain ⟨h1, h2⟩ := key ts us hr ho
  exact ⟨⟨us, rfl, h1⟩, h2⟩
def pureL (els : List (List AC)) : Bool := els.all fun e => e.all AC.pure
theorem pureL_spec {els : List (List AC)} (h : pureL els = true) {k n : Nat} : ∀ e ∈ (els.drop k).take n, ∀ x ∈ e, x.pure = true := by
 intro e he x hx
 exact List.all_eq_true.1 (List.all_eq_true.1 h e (List.mem_of_mem_drop (List.mem_of_mem_take he))) x hx
theorem Sim.frz {i ty sz : Nat} {els : List (List AC)} {own : Bool} (hs : Sim B w0 ι H w) (hi : H[i]? = some (.row ty sz els own)) (hp : pureL els = true) :
  ∃ ι', Agree H.length ι ι' ∧ Sim B w0 ι' (H.set i (.row ty sz els false)) w ∧ ∀ (k m : Nat) (v : Value), k + m ≤ els.length → AC.rel ι (.sl (some (i, k)) m) v → AC.rel ι' (.lst sz ((els.drop k).take m)) v := by
 obtain ⟨ι', h1, h2, h3⟩ := hs.freeze hi
 exact ⟨ι', h1, h2, fun k m v hk hr => h3 k m v (pureL_spec hp) hk hr⟩
theorem WkL.frz {i ty sz : Nat} {els : List (List AC)} {own : Bool} (hi : H[i]? = some (.row ty sz els own)) (hp : pureL els = true) (hm : m ≤ H.length) : WkL m vs H (vs.map (AV.frz i sz els)) (H.set i (.row ty sz els false)) := by
 intro B w0 ι w us hs hr ho
 obtain ⟨ι', h1, h2, h3⟩ := hs.frz hi hp
 refine ⟨ι', h1.le hm, by simpa using hm, h2, ?_⟩
 rw [List.length_set]
 have key : ∀ (vs : List AV) (us : List Value), relAL ι vs us → (∀ x ∈ vs, x.ok H.length) → relAL ι' (vs.map (AV.frz i sz els)) us ∧ ∀ x ∈ vs.map (AV.frz i sz els), x.ok H.length := by
  intro vs
  induction vs with
  | nil => intro us h _; cases us with | nil => exact ⟨trivial, by simp⟩ | cons _ _ => exact h.elim
  | cons t ts ih =>
   intro us h ho
   cases us with
   | nil => exact h.elim
   | cons u us =>
    obtain ⟨g1, g2⟩ := ih us h.2 (fun x hx => ho x (by simp [hx]))
    obtain ⟨g3, g4⟩ := AV.frz_rel h1 (ho t sMp) h.1 h3
    exact ⟨⟨g3, g1⟩, fun x hx => by
     rcases List.mem_cons.1 hx with rfl | hx
     ·exact g4
     ·exact g2 x hx⟩
 exact key vs us hr ho
theorem Sim.drop {A G : Hp} (hs : Sim B w0 ι (A ++ G) w) (hA : HOk A) : Sim B w0 ι A w := by
 have hget : ∀ {i : Nat} {o : AObj}, A[i]? = some o → (A ++ G)[i]? = some o := fun h => by rw [List.getElem?_append_left (getElem?_lt h)]; exact h
 exact ⟨hs.below, hs.big, hs.known, hA, fun i o hi => hs.obj i o (hget hi), fun i j o o' hij hi ho hj hl => hs.sep i j o o' hij (hget hi) ho (hget hj) hl, fun i o hi => hs.base i o (hget hi), hs.froz, fun i o hi => hs.apart i o (hget hi)⟩
theorem WkL.drop {A G : Hp} (hA : HOk A) (hm : m ≤ A.length) (ho : ∀ x ∈ vs, x.ok A.length) : WkL m vs (A ++ G) vs A :=
 fun B w0 ι w us hs hr _ => ⟨ι, Agree.refl _ _, hm, hs.drop hA, hr, ho⟩
theorem HOk.app {A : Hp} (h : HOk A) {o : AObj} (ho : o.okN (A.length + 1)) : HOk (A ++ [o]) := by
 intro i q hq
 rw [List.length_append, List.length_cons, List.length_nil]
 rcases Nat.lt_or_ge i A.length with hi | hi
 ·rw [List.getElem?_append_left hi] at hq; exact AObj.okN_mono oMg (h i q hq)
 ·have := getElem?_lt hq
  have e : i = A.length := by simp at this; omega
  subst e; simp at hq; subst hq; exact ho
theorem HOk.set {A : Hp} (h : HOk A) {i : Nat} {o : AObj} (ho : o.okN A.length) : HOk (A.set i o) := by
 intro j q hq
 rw [List.length_set]
 by_cases e : i = j
 ·subst e
  have := getElem?_lt hq
  rw [List.getElem?_set_self (by simpa using this)] at hq
  injection hq with hq; subst hq; exact ho
 ·rw [List.getElem?_set_ne e] at hq; exact h j q hq
theorem okN_pure {ty sz : Nat} {els : List (List AC)} {own : Bool} (h : pureL els = true) (hs : els.all (fun e => e.length == sz) = true) (n : Nat) : (AObj.row ty sz els own).okN n := by
 intro e he
 refine ⟨by simpa using List.all_eq_true.1 hs e he, fun x hx => AC.ok_of_pure (List.all_eq_true.1 (List.all_eq_true.1 h e he) x hx) n⟩
end
end Go.Proofs.YtagoolooikpabaaGreatDoor
namespace Go.Proofs.YtagoolooikpabaaGreatDoor
open Go Go.RowKit
/-! ### Other names for objects -/
def renP (σ : Nat → Nat) (p : Nat × Nat × Nat) : Nat × Nat × Nat := (σ p.1, p.2)
def AC.ren (σ : Nat → Nat) : AC → AC
 | .ptr (some p) => .ptr (some (renP σ p))
 | .sl (some p) n => .sl (some (σ p.1, p.2)) n
 | .map (some i) => .map (some (σ i))
 | .fn f fs cs => .fn f (fs.map (renP σ)) (cs.map (renP σ))
 | x => x
def AV.ren1 (σ : Nat → Nat) : AV → AV
 | .c x => .c (x.ren σ)
 | .agg cs => .agg (cs.map (AC.ren σ))
 | x => x
def AV.ren (σ : Nat → Nat) : AV → AV
 | .tup vs => .tup (vs.map (AV.ren1 σ))
 | x => x.ren1 σ
def AObj.ren (σ : Nat → Nat) : AObj → AObj
 | .row ty sz els own => .row ty sz (els.map fun e => e.map (AC.ren σ)) own
 | .map kt vt es => .map kt vt (es.map fun p => (p.1.ren σ, p.2.ren σ))
 | .dead => .dead
section
variable {P : Program} {B : Nat → Prop} {rr : Option Nat} {dd : List Deferred} {w0 w w' : World} {ι ι' ι0 : En} {H : Hp} {F : Fr} {a : Act} {N n m : Nat} {o : Oper} {σ : Nat → Nat}
def En.comp (ι : En) (σ : Nat → Nat) : En := ⟨fun i => ι (σ i), ι.fz⟩
theorem AC.rel_ren {x : AC} {v : Value} (h : (x.ren σ).rel ι v) : x.rel (ι.comp σ) v := by
 cases x with
 | ptr r => cases r <;> exact h
 | sl r k => cases r <;> exact h
 | map r => cases r <;> exact h
 | fn f fs cs =>
  simp only [AC.ren, AC.rel, List.map_map] at h ⊢
  exact h
 | _ => exact h
theorem relL_ren : ∀ {xs : List AC} {vs : List Value}, relL ι (xs.map (AC.ren σ)) vs → relL (ι.comp σ) xs vs
 | [], [], _ => trivial
 | [], _ :: _, h => h
 | _ :: _, [], h => h
 | _ :: _, _ :: _, h => ⟨AC.rel_ren h.1, relL_ren h.2⟩
theorem AV.rel1_ren {x : AV} {v : Value} (h : (x.ren1 σ).rel1 ι v) : x.rel1 (ι.comp σ) v := by
 cases x with
 | c x => exact AC.rel_ren h
 | agg cs => obtain ⟨vs, rfl, h2⟩ := h; exact ⟨vs, rfl, relL_ren h2⟩
 | any => trivial
 | tup ts => exact h
theorem rel1L_ren : ∀ {xs : List AV} {vs : List Value}, rel1L ι (xs.map (AV.ren1 σ)) vs → rel1L (ι.comp σ) xs vs
 | [], [], _ => trivial
 | [], _ :: _, h => h
 | _ :: _, [], h => h
 | _ :: _, _ :: _, h => ⟨AV.rel1_ren h.1, rel1L_ren h.2⟩
theorem AV.rel_ren {x : AV} {v : Value} (h : (x.ren σ).rel ι v) : x.rel (ι.comp σ) v := by
 cases x with
 | c x => exact AC.rel_ren h
 | agg cs => exact AV.rel1_ren (x := .agg cs) h
 | any => trivial
 | tup ts => obtain ⟨vs, rfl, h2⟩ := h; exact ⟨vs, rfl, rel1L_ren h2⟩
theorem AObj.holds_ren {ob : AObj} {L : Loc} (h : (ob.ren σ).holds ι w L) : ob.holds (ι.comp σ) w L := by
 cases ob with
 | dead => trivial
 | row ty sz els own =>
  obtain ⟨h1, h2, cur, fr, h3, h4, h5⟩ := h
  refine ⟨h1, by simpa using h2, cur, fr, h3, fun k e hk j x hj => ?_, h5⟩
  obtain ⟨u, h6, h7⟩ := h4 k (e.map (AC.ren σ)) (by simp [hk]) j (x.ren σ) (by simp [hj])
  exact ⟨u, h6, AC.rel_ren h7⟩
 | map kt vt es =>
  obtain ⟨h0, ob, h3, h4⟩ := h
  refine ⟨h0, ob, h3, ?_⟩
  cases vt with
  | zero =>
   obtain ⟨b, since, last, seen, h5, h6, p, hp, h8⟩ := h4
   obtain ⟨q, rfl⟩ : ∃ q, es = [q] := by
    have := congrArg List.length hp
    rw [List.length_map, List.length_singleton] at this
    exact List.length_eq_one_iff.1 this
   simp only [List.map_cons, List.map_nil, List.cons.injEq, and_true] at hp
   subst hp
   exact ⟨b, since, last, seen, h5, h6, q, rfl, AV.rel_ren h8⟩
  | succ c =>
   obtain ⟨en, h5, h6, h7, h8⟩ := h4
   refine ⟨en, h5, h6, by simpa using h7, fun i p hp => ?_⟩
   obtain ⟨m, hm, h9, h10⟩ := h8 i (p.1.ren σ, p.2.ren σ) (by simp [hp])
   exact ⟨m, hm, AV.rel_ren h9, AV.rel_ren h10⟩
theorem AObj.owned_ren (ob : AObj) : (ob.ren σ).owned = ob.owned := by cases ob <;> rfl
theorem AObj.live_ren (ob : AObj) : (ob.ren σ).live = ob.live := by cases ob <;> rfl
theorem WkL.renL {H' : Hp} {vs vs' : List AV} (σ : Nat → Nat) (h1 : ∀ i, i < m → σ i = i) (h2 : m ≤ H'.length) (h3 : ∀ (i : Nat) (ob : AObj), H'[i]? = some ob → ob.live = true → H[σ i]? = some (ob.ren σ))
  (h4 : ∀ (i j : Nat) (o o' : AObj), H'[i]? = some o → o.live = true → H'[j]? = some o' → o'.live = true → σ i = σ j → i = j) (h5 : vs = vs'.map (AV.ren σ)) (h6 : ∀ x ∈ vs', x.ok H'.length) (h7 : HOk H') : WkL m vs H vs' H' := by
 subst h5
 intro B w0 ι w us hs hr _
 have hlo : ∀ q : AObj, q.owned = true → q.live = true := by intro q; cases q <;> simp [AObj.owned, AObj.live]
 refine ⟨ι.comp σ, ⟨fun i hi => ?_, fun _ _ _ h => h⟩, h2, ⟨hs.below, hs.big, hs.known, h7, fun i ob hi => ?_, fun i j ob ob' hij hi ho hj hl => ?_, fun i ob hi ho => ?_, hs.froz, fun i ob hi ho => ?_⟩, ?_, h6⟩
 ·show ι (σ i) = _
  rw [h1 i hi]
 ·by_cases hl : ob.live = true
  ·exact AObj.holds_ren (hs.obj (σ i) _ (h3 i ob hi hl))
  ·cases ob <;> simp [AObj.live] at hl; trivial
 ·exact hs.sep (σ i) (σ j) _ _ (fun e => hij (h4 i j _ _ hi (hlo ob ho) hj hl e)) (h3 i ob hi (hlo ob ho)) (by rw [AObj.owned_ren]; exact ho) (h3 j ob' hj hl) (by rw [AObj.live_ren]; exact hl)
 ·exact hs.base (σ i) _ (h3 i ob hi (hlo ob ho)) (by rw [AObj.owned_ren]; exact ho)
 ·exact hs.apart (σ i) _ (h3 i ob hi (hlo ob ho)) (by rw [AObj.owned_ren]; exact ho)
 ·have key : ∀ (xs : List AV) (us : List Value), relAL ι (xs.map (AV.ren σ)) us → relAL (ι.comp σ) xs us := by
   intro xs
   induction xs with
   | nil => intro us h; cases us with | nil => trivial | cons _ _ => exact h.elim
   | cons x xs ih => intro us h; cases us with | nil => exact h.elim | cons u us => exact ⟨AV.rel_ren h.1, ih us h.2⟩
  exact key vs' us hr
theorem WkL.ren {H' : Hp} {vs vs' : List AV} (σ : Nat → Nat) (h1 : ∀ i, i < m → σ i = i) (h2 : m ≤ H'.length) (h3 : ∀ (i : Nat) (ob : AObj), H'[i]? = some ob → ob.live = true → H[σ i]? = some (ob.ren σ))
  (h4 : ∀ i j, i < H'.length → j < H'.length → σ i = σ j → i = j) (h5 : vs = vs'.map (AV.ren σ)) (h6 : ∀ x ∈ vs', x.ok H'.length) (h7 : HOk H') : WkL m vs H vs' H' :=
 WkL.renL σ h1 h2 h3 (fun i j _ _ hi _ hj _ => h4 i j (getElem?_lt hi) (getElem?_lt hj)) h5 h6 h7
def Ret (n : Nat) (v : AV) (H : Hp) (K : AV → Hp → Prop) : Prop := HOk H → v.ok H.length → ∃ (v' : AV) (H' : Hp), WkL n [v] H [v'] H' ∧ K v' H'
theorem Ret.sim {v : AV} {K : AV → Hp → Prop} {u : Value} (h : Ret n v H K) (hA : Agree n ι0 ι) (hs : Sim B w0 ι H w) (hr : v.rel ι u) (hv : v.ok H.length) :
  ∃ ι' av H', Agree n ι0 ι' ∧ n ≤ H'.length ∧ Sim B w0 ι' H' w ∧ AV.rel ι' av u ∧ av.ok H'.length ∧ K av H' := by
 obtain ⟨v', H', h1, h2⟩ := h hs.hok hv
 obtain ⟨ι', k1, k2, k3, k4, k5⟩ := h1 B w0 ι w [u] hs ⟨hr, trivial⟩ (by intro x hx; rw [List.mem_singleton] at hx; subst hx; exact hv)
 exact ⟨ι', v', H', hA.trans k1 lRf, k2, k3, k4.1, k5 v' sMp, h2⟩
/-! ### A call's beginning and end -/
def F0 (args : List AV) : Fr := fun t => match args[t]? with
 | some v => v
 | none => .tup []
def resM (e : Option (List AC)) (j : Nat) (ag : Bool) (sz : Nat) (i1 i2 : Bool) : Option AV := match e with
  | some e => if ag then (if i1 = true ∧ j + sz ≤ e.length then some (.agg ((e.drop j).take sz)) else none) else (if i2 = true then (e[j]?).map .c else none)
  | none => none
def resL (v : AV) (ag : Bool) (sz : Nat) (i1 i2 : Bool) (H : Hp) : Option AV := match v with
 | .c (.ptr (some (i, k, j))) => resM (elAt H i k) j ag sz i1 i2
 | _ => none
def resOne (P : Program) (F : Fr) (H : Hp) : ResultVar → Option AV
 | .tmp t => some (F t)
 | .cell x t => resL (F x) (aggT P t) (szT P t) (P.info? t).isSome (P.underlying t).isSome H
def resC (v : Option AV) (vs : Option (List AV)) : Option (List AV) := match v, vs with | some v, some vs => some (v :: vs) | _, _ => none
def resAll (P : Program) (F : Fr) (H : Hp) : List ResultVar → Option (List AV)
 | [] => some []
 | r :: rs => resC (resOne P F H r) (resAll P F H rs)
def resA (P : Program) (fn : Func) (F : Fr) (H : Hp) : Option AV :=
 match resAll P F H fn.results.toList with
 | some [v] => some v
 | some vs => if vs.all noTup then some (.tup vs) else none
 | none => none
theorem run_resOne {g : ResultVar → Sem Value} (hg1 : ∀ t, g (.tmp t) = pure (a.tmps.getD t undef)) (hg2 : ∀ x t, g (.cell x t) = (do loadVar t (← asAddr (a.tmps.getD x undef)))) {r : ResultVar} {v : AV} (hs : Sim B w0 ι H w) (hF : FOk dd N ι H.length F a) (h : resOne P F H r = some v) :
  ∃ u, (g r).run P w = .ok u w ∧ v.rel ι u ∧ v.ok H.length := by
 cases r with
 | tmp t =>
  rw [hg1]
  simp only [resOne, Option.some.injEq] at h
  subst h
  exact ⟨_, rfl, hF.rel t, hF.scope t⟩
 | cell x t =>
  rw [hg2]
  simp only [resOne, resL] at h
  split at h
  ·rename_i i k j hx
   have hv : a.tmps.getD x undef = ptrOf ι (i, k, j) := by have := hF.rel x; rw [hx] at this; exact this
   unfold elAt at h
   split at h
   ·rename_i ty sz els own hi
    cases hk : els[k]? with
    | none => rw [hk] at h; cases h
    | some e =>
     rw [hk] at h
     simp only [resM] at h
     have hsc := hs.scope i _ hi e (List.mem_of_getElem? hk)
     by_cases ht : aggT P t = true
     ·rw [if_pos ht] at h
      split at h
      ·rename_i hcond
       injection h with h
       subst h
       obtain ⟨vs, h4, h5⟩ := run_load_agg hs hi hk hcond.2 ht hcond.1
       refine ⟨.agg vs.toArray, ?_, ⟨vs, rfl, h5⟩, fun x hx => hsc.2 x (List.mem_of_mem_drop (List.mem_of_mem_take hx))⟩
       rw [hv]
       simp [ptrOf, asAddr, h4]
      ·cases h
     ·rw [if_neg ht] at h
      split at h
      ·rename_i hu
       cases hj : e[j]? with
       | none => rw [hj] at h; cases h
       | some y =>
        rw [hj] at h
        simp only [Option.map_some, Option.some.injEq] at h
        subst h
        obtain ⟨u, h2, h3⟩ := run_load_c hs hi hk hj (by simpa using ht) hu
        refine ⟨u, ?_, h3, hsc.2 y (List.mem_of_getElem? hj)⟩
        rw [hv]
        simp [ptrOf, asAddr, h2]
      ·cases h
   ·simp only [resM] at h; cases h
  ·cases h
theorem run_resAll {g : ResultVar → Sem Value} (hg1 : ∀ t, g (.tmp t) = pure (a.tmps.getD t undef)) (hg2 : ∀ x t, g (.cell x t) = (do loadVar t (← asAddr (a.tmps.getD x undef)))) (hs : Sim B w0 ι H w) (hF : FOk dd N ι H.length F a) : ∀ {rs : List ResultVar} {vs : List AV}, resAll P F H rs = some vs →
  ∃ us : List Value, (rs.mapM g).run P w = .ok us w ∧ us.length = vs.length ∧
   ∀ (i : Nat) (v : AV), vs[i]? = some v → ∃ u, us[i]? = some u ∧ v.rel ι u ∧ v.ok H.length
 | [], vs, h => by simp [resAll] at h; subst h; exact ⟨[], by simp, rfl, fun i v hi => by simp at hi⟩
 | r :: rs, vs, h => by
  unfold resAll resC at h
  split at h
  ·rename_i v vs' h1 h2
   injection h with h
   subst h
   obtain ⟨u, h3, h4, h5⟩ := run_resOne hg1 hg2 hs hF h1
   obtain ⟨us, h6, h7, h8⟩ := run_resAll hg1 hg2 hs hF h2
   refine ⟨u :: us, ?_, by simp [h7], fun i x hx => ?_⟩
   ·rw [List.mapM_cons, Sem.run_bind, h3]
    simp only [Result.andThen_ok, Sem.run_bind, h6, Sem.run_pure]
   ·cases i with
    | zero => simp at hx; subst hx; exact ⟨u, rfl, h4, h5⟩
    | succ i => simp at hx; exact h8 i x hx
  ·cases h
theorem rel1L_of {vs : List AV} {us : List Value} (hl : us.length = vs.length) (hno : vs.all noTup = true) (h : ∀ (i : Nat) (v : AV), vs[i]? = some v → ∃ u, us[i]? = some u ∧ v.rel ι u ∧ v.ok n) : rel1L ι vs us ∧ ∀ x ∈ vs, x.ok1 n := by
 induction vs generalizing us with
 | nil =>
  have : us = [] := List.eq_nil_of_length_eq_zero hl
  subst this
  exact ⟨trivial, by simp⟩
 | cons v vs ih =>
  cases us with
  | nil => simp at hl
  | cons u us =>
   simp only [List.all_cons, Bool.and_eq_true] at hno
   obtain ⟨u', h1, h2, h3⟩ := h 0 v rfl
   simp at h1
   subst h1
   obtain ⟨h4, h5⟩ := ih (us := us) (by simpa using hl) hno.2 (fun i x hx => by
    obtain ⟨u', h6, h7⟩ := h (i + 1) x (by simpa using hx)
    exact ⟨u', by simpa using h6, h7⟩)
   have e1 : v.rel1 ι u ∧ v.ok1 n := by
    cases v with
    | tup ts => simp [noTup] at hno
    | _ => exact ⟨h2, h3⟩
   exact ⟨⟨e1.1, h4⟩, fun x hx => by
    rcases List.mem_cons.1 hx with rfl | hx
    ·exact e1.2
    ·exact h5 x hx⟩
theorem run_resA {fn : Func} {v : AV} (hs : Sim B w0 ι H w) (hF : FOk dd N ι H.length F a) (h : resA P fn F H = some v) : ∃ u, (results fn a.tmps).run P w = .ok u w ∧ v.rel ι u ∧ v.ok H.length := by
 unfold resA at h
 cases hr : resAll P F H fn.results.toList with
 | none => rw [hr] at h; cases h
 | some vs =>
  rw [hr] at h
  obtain ⟨us, h1, h2, h3⟩ := run_resAll (g := fun | .tmp t => pure (a.tmps.getD t undef) | .cell x t => do loadVar t (← asAddr (a.tmps.getD x undef))) (fun _ => rfl) (fun _ _ => rfl) hs hF hr
  have hrun : (results fn a.tmps).run P w = .ok (if h : us.toArray.size = 1 then us.toArray[0] else .tuple us.toArray) w := by
   unfold results
   have e : fn.results = fn.results.toList.toArray := by simp
   rw [e, List.mapM_toArray, Sem.run_bind, Sem.run_map]
   have h1' := congrArg (fun r : Result (List Value) => (r.andThen fun l w' => Result.ok l.toArray w').andThen fun vs w' => (pure (if h : vs.size = 1 then vs[0] else .tuple vs) : Sem Value).run P w') h1
   exact h1'
  rw [hrun]
  match vs, h, h2, h3 with
  | [x], h, h2, h3 =>
   injection h with h
   subst h
   obtain ⟨u, h4, h5, h6⟩ := h3 0 x rfl
   match us, h2, h4 with
   | [u'], _, h4 =>
    simp at h4
    subst h4
    exact ⟨u', by simp, h5, h6⟩
  | [], h, h2, h3 =>
   have hv : v = .tup [] := by simpa using h.symm
   subst hv
   have : us = [] := List.eq_nil_of_length_eq_zero h2
   subst this
   exact ⟨_, rfl, ⟨[], by simp, trivial⟩, by intro x hx; cases hx⟩
  | x :: y :: zs, h, h2, h3 =>
   dsimp only at h
   split at h
   ·rename_i hno
    injection h with h
    subst h
    obtain ⟨h4, h5⟩ := rel1L_of h2 hno h3
    refine ⟨_, rfl, ⟨us, ?_, h4⟩, h5⟩
    rw [dif_neg]
    simp at h2 ⊢
    omega
   ·cases h
def aRet (P : Program) (fn : Func) (n : Nat) (K : AV → Hp → Prop) (F : Fr) (H : Hp) : Prop :=
 match resA P fn F H with
 | some v => Ret n v H K
 | none => False
def aEnd (P : Program) (fn : Func) (n : Nat) (K : AV → Hp → Prop) : AExit → Fr → Hp → Prop
 | .exit _, _, _ => False
 | _, F, H => aRet P fn n K F H
theorem f0_ok {args : List AV} {vs : Array Value} (hr : argsRel ι args vs) (ho : ∀ x ∈ args, x.ok1 n) (hN : args.length ≤ N) : FOk [] N ι n (F0 args) { tmps := vs ++ Array.replicate (N - vs.size) undef, defers := [] } := by
 have hlen : ∀ {xs : List AV} {us : List Value}, rel1L ι xs us → xs.length = us.length := by
  intro xs
  induction xs with
  | nil => intro us h; cases us with | nil => rfl | cons _ _ => exact h.elim
  | cons x xs ih => intro us h; cases us with | nil => exact h.elim | cons u us => simp [ih h.2]
 have hget : ∀ {xs : List AV} {us : List Value}, rel1L ι xs us → ∀ (j : Nat) (y : AV), xs[j]? = some y → ∃ u, us[j]? = some u ∧ y.rel1 ι u := by
  intro xs
  induction xs with
  | nil => intro us _ j y hy; simp at hy
  | cons x xs ih =>
   intro us hr j y hy
   cases us with
   | nil => exact hr.elim
   | cons u us =>
    cases j with
    | zero => simp at hy; subst hy; exact ⟨u, rfl, hr.1⟩
    | succ j => simp at hy; exact ih hr.2 j y hy
 have hl : args.length = vs.size := by rw [hlen hr]; simp
 refine ⟨by simp; omega, rfl, fun t => ?_, fun t => ?_⟩
 ·unfold F0
  cases ht : args[t]? with
  | none =>
   have hge : vs.size ≤ t := by rw [← hl]; exact List.getElem?_eq_none_iff.1 ht
   have e : (vs ++ Array.replicate (N - vs.size) undef).getD t undef = undef := by
    rw [Array.getD_eq_getD_getElem?, Array.getElem?_append_right hge]
    by_cases h : t - vs.size < N - vs.size
    ·simp [h]
    ·simp [h]
   rw [e]; exact undef_rel
  | some y =>
   obtain ⟨u, h1, h2⟩ := hget hr t y ht
   have hlt : t < vs.size := by rw [← hl]; exact getElem?_lt ht
   have e : (vs ++ Array.replicate (N - vs.size) undef).getD t undef = u := by
    rw [Array.getD_eq_getD_getElem?, Array.getElem?_append_left hlt]
    simp only [Array.getElem?_toList] at h1
    rw [h1]; rfl
   rw [e]
   cases y with
   | tup ts => exact h2.elim
   | _ => exact h2
 ·unfold F0
  cases ht : args[t]? with
  | none => intro x hx; cases hx
  | some y =>
   have h3 := ho y (List.mem_of_getElem? ht)
   obtain ⟨u, h1, h2⟩ := hget hr t y ht
   cases y with
   | tup ts => exact h2.elim
   | _ => exact h3
theorem acallsS {f : FuncId} {fn : Func} {c : Code} {args : List AV} {K : AV → Hp → Prop} (hf : P.funcs[f]? = some fn) (hb : fn.body = some c) (hN : args.length ≤ fn.ntmps)
  (h : HOk H → SWp P H.length fn.ntmps [] c (aEnd P fn H.length K) (F0 args) H) : ACalls P f args H K := by
 intro B w0 ι w vs hs hr ho
 refine calls_of_wp hf hb (wp_of_fen <| wpIn_mono (h hs.hok none [] B w0 ι ι _ w (Agree.refl _ _) lRf hs (f0_ok hr ho hN)) ?_)
 intro e a' w' he
 have fin : St [] B w0 ι H.length fn.ntmps (aRet P fn H.length K) a' w' → a'.defers = [] ∧ ∃ v, (results fn a'.tmps).run P w' = .ok v w' ∧ Done B w0 ι H.length K (.returned v) w' := by
  rintro ⟨ι', F', H', h1, h2, h3, h4, h5⟩
  refine ⟨h4.defers, ?_⟩
  unfold aRet at h5
  split at h5
  ·rename_i v hv
   obtain ⟨u, h6, h7, h8⟩ := run_resA h3 h4 hv
   obtain ⟨ι2, av, H2, g1, g2, g3, g4, g5, g6⟩ := h5.sim h1 h3 h7 h8
   exact ⟨u, h6, ι2, u, av, H2, rfl, g1, g2, g3, g4, g5, g6⟩
  ·exact h5.elim
 cases e with
 | normal => obtain ⟨ι', F', H', h1, h2, h3, h4, h5, _⟩ := he; exact fin ⟨ι', F', H', h1, h2, h3, h4, h5⟩
 | ret => obtain ⟨ι', F', H', h1, h2, h3, h4, h5, _⟩ := he; exact fin ⟨ι', F', H', h1, h2, h3, h4, h5⟩
 | exit id => obtain ⟨_, _, _, _, _, _, _, h5, _⟩ := he; exact h5.elim
 | _ => exact he.elim
theorem acalls {f : FuncId} {fn : Func} {c : Code} {args : List AV} {K : AV → Hp → Prop} (hf : P.funcs[f]? = some fn) (hb : fn.body = some c) (hc : codeOk fn.ntmps c = true) (hN : args.length ≤ fn.ntmps)
  (h : HOk H → AWp P H.length fn.ntmps [] c (aEnd P fn H.length K) (F0 args) H) : ACalls P f args H K := acallsS hf hb hN fun hH => SWp.of hc (h hH)
end
end Go.Proofs.YtagoolooikpabaaGreatDoor
