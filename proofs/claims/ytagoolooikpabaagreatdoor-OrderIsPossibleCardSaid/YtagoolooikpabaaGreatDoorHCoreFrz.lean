/- What never turns again, inside what is kept: slices of a row, pointers into it, fields. No condition. -/
import Derived.Test.YtagoolooikpabaaGreatDoorHCoreC
set_option linter.all false
namespace Go.Proofs.YtagoolooikpabaaGreatDoor
open Go Go.RowKit
section
variable {P : Program} {B : Nat → Prop} {w0 w : World} {ι ι' : En} {H : Hp} {n m : Nat}
def AC.frzX (i sz : Nat) (els : List (List AC)) : AC → AC
 | .sl (some (j, k)) n => if j = i ∧ k + n ≤ els.length then .lst sz ((els.drop k).take n) else .sl (some (j, k)) n
 | .ptr (some (j, k, o)) => if j = i then (match els[k]? with | some e => .fp (e.drop o) | none => .ptr (some (j, k, o))) else .ptr (some (j, k, o))
 | x => x
def AV.frzX1 (i sz : Nat) (els : List (List AC)) : AV → AV
 | .c x => .c (x.frzX i sz els)
 | .agg cs => .agg (cs.map (AC.frzX i sz els))
 | x => x
def AV.frzX (i sz : Nat) (els : List (List AC)) : AV → AV
 | .tup vs => .tup (vs.map (AV.frzX1 i sz els))
 | x => x.frzX1 i sz els
structure FrzR (ι ι' : En) (i sz : Nat) (els : List (List AC)) : Prop where
 sl : ∀ (k m : Nat) (v : Value), k + m ≤ els.length → AC.rel ι (.sl (some (i, k)) m) v → AC.rel ι' (.lst sz ((els.drop k).take m)) v
 pt : ∀ (k o : Nat) (e : List AC) (v : Value), els[k]? = some e → AC.rel ι (.ptr (some (i, k, o))) v → AC.rel ι' (.fp (e.drop o)) v
theorem AC.frzX_rel {i sz : Nat} {els : List (List AC)} {x : AC} {v : Value} (hA : Agree n ι ι') (ho : x.ok n) (hr : x.rel ι v) (hf : FrzR ι ι' i sz els) : (x.frzX i sz els).rel ι' v ∧ (x.frzX i sz els).ok n := by
 unfold AC.frzX
 split
 ·split
  ·rename_i h
   obtain ⟨rfl, h2⟩ := h
   exact ⟨hf.sl _ _ _ h2 hr, trivial⟩
  ·exact ⟨AC.rel_agree hA ho hr, ho⟩
 ·split
  ·rename_i h
   subst h
   split
   ·rename_i e he
    exact ⟨hf.pt _ _ _ _ he hr, trivial⟩
   ·exact ⟨AC.rel_agree hA ho hr, ho⟩
  ·exact ⟨AC.rel_agree hA ho hr, ho⟩
 ·exact ⟨AC.rel_agree hA ho hr, ho⟩
theorem relL_frzX {i sz : Nat} {els : List (List AC)} (hA : Agree n ι ι') (hf : FrzR ι ι' i sz els) : ∀ (xs : List AC) (us : List Value), relL ι xs us → (∀ x ∈ xs, x.ok n) → relL ι' (xs.map (AC.frzX i sz els)) us ∧ ∀ x ∈ xs.map (AC.frzX i sz els), x.ok n
 | [], [], _, _ => ⟨trivial, by simp⟩
 | [], _ :: _, h, _ => h.elim
 | _ :: _, [], h, _ => h.elim
 | x :: xs, u :: us, h, ho => by
  obtain ⟨h1, h2⟩ := relL_frzX hA hf xs us h.2 (fun y hy => ho y (by simp [hy]))
  obtain ⟨h3, h4⟩ := AC.frzX_rel hA (ho x (by simp)) h.1 hf
  exact ⟨⟨h3, h1⟩, fun y hy => by
   rcases List.mem_cons.1 hy with rfl | hy
   ·exact h4
   ·exact h2 y hy⟩
theorem AV.frzX1_rel {i sz : Nat} {els : List (List AC)} {x : AV} {v : Value} (hA : Agree n ι ι') (ho : x.ok1 n) (hr : x.rel1 ι v) (hf : FrzR ι ι' i sz els) : (x.frzX1 i sz els).rel1 ι' v ∧ (x.frzX1 i sz els).ok1 n := by
 cases x with
 | c x => exact AC.frzX_rel hA ho hr hf
 | agg cs =>
  obtain ⟨us, rfl, h⟩ := hr
  obtain ⟨h1, h2⟩ := relL_frzX hA hf cs us h ho
  exact ⟨⟨us, rfl, h1⟩, h2⟩
 | any => exact ⟨trivial, trivial⟩
 | tup ts => exact hr.elim
theorem AV.frzX_rel {i sz : Nat} {els : List (List AC)} {x : AV} {v : Value} (hA : Agree n ι ι') (ho : x.ok n) (hr : x.rel ι v) (hf : FrzR ι ι' i sz els) : (x.frzX i sz els).rel ι' v ∧ (x.frzX i sz els).ok n := by
 cases x with
 | c x => exact AC.frzX_rel hA ho hr hf
 | agg cs => exact AV.frzX1_rel (x := .agg cs) hA ho hr hf
 | any => exact ⟨trivial, trivial⟩
 | tup ts =>
  obtain ⟨us, rfl, hr⟩ := hr
  have key : ∀ (ts : List AV) (us : List Value), rel1L ι ts us → (∀ x ∈ ts, x.ok1 n) → rel1L ι' (ts.map (AV.frzX1 i sz els)) us ∧ ∀ x ∈ ts.map (AV.frzX1 i sz els), x.ok1 n := by
   intro ts
   induction ts with
   | nil => intro us h _; cases us with | nil => exact ⟨trivial, by simp⟩ | cons _ _ => exact h.elim
   | cons t ts ih =>
    intro us h ho
    cases us with
    | nil => exact h.elim
    | cons u us =>
     obtain ⟨h1, h2⟩ := ih us h.2 (fun x hx => ho x (by simp [hx]))
     obtain ⟨h3, h4⟩ := AV.frzX1_rel hA (ho t (by simp)) h.1 hf
     exact ⟨⟨h3, h1⟩, fun x hx => by
      rcases List.mem_cons.1 hx with rfl | hx
      ·exact h4
      ·exact h2 x hx⟩
  obtain ⟨h1, h2⟩ := key ts us hr ho
  exact ⟨⟨us, rfl, h1⟩, h2⟩
theorem relAL_frzX {i sz : Nat} {els : List (List AC)} (hA : Agree n ι ι') (hf : FrzR ι ι' i sz els) : ∀ (vs : List AV) (us : List Value), relAL ι vs us → (∀ x ∈ vs, x.ok n) → relAL ι' (vs.map (AV.frzX i sz els)) us ∧ ∀ x ∈ vs.map (AV.frzX i sz els), x.ok n
 | [], [], _, _ => ⟨trivial, by simp⟩
 | [], _ :: _, h, _ => h.elim
 | _ :: _, [], h, _ => h.elim
 | x :: xs, u :: us, h, ho => by
  obtain ⟨h1, h2⟩ := relAL_frzX hA hf xs us h.2 (fun y hy => ho y (by simp [hy]))
  obtain ⟨h3, h4⟩ := AV.frzX_rel hA (ho x (by simp)) h.1 hf
  exact ⟨⟨h3, h1⟩, fun y hy => by
   rcases List.mem_cons.1 hy with rfl | hy
   ·exact h4
   ·exact h2 y hy⟩
theorem Sim.frzX {i ty sz : Nat} {els : List (List AC)} {own : Bool} (hs : Sim B w0 ι H w) (hi : H[i]? = some (.row ty sz els own)) (hp : pureL els = true) :
  ∃ ι', Agree H.length ι ι' ∧ Sim B w0 ι' (H.set i (.row ty sz els false)) w ∧ FrzR ι ι' i sz els := by
 obtain ⟨ι', h1, h2, h3⟩ := hs.frz hi hp
 refine ⟨ι', h1, h2, h3, fun k o e v hk hr => ?_⟩
 obtain ⟨g1, g2, _⟩ := hs.obj i _ hi
 have hkl := getElem?_lt hk
 have hd : (els.drop k).take 1 = [e] := by
  rw [List.drop_eq_getElem_cons hkl, List.take_succ_cons, List.take_zero]
  rw [List.getElem?_eq_getElem hkl] at hk
  rw [Option.some.inj hk]
 have h4 := h3 k 1 (.slice (some ((ι i).at k 0)) 1 ((ι i).cap - k)) (by omega) ⟨(ι i).at k 0, rfl, by omega, fun _ => rfl⟩
 rw [hd] at h4
 simp only [AC.rel, AC.relZ] at h4
 obtain ⟨p, c, e1, _, _, _, h5⟩ := h4
 injection e1 with e1 e2 e3
 have h6 := (h5 _ e1.symm).2
 simp only [relRows] at h6
 have h7 := relCells_drop h6.1 o
 have hv : v = .pointer (some ((ι i).at k o)) := hr
 refine ⟨(ι i).block, (ι i).off + (k * sz + 0) + o, ?_, ?_⟩
 ·rw [hv]
  unfold Loc.at
  rw [g1, Nat.add_zero, Nat.add_assoc]
 ·have e : ((ι i).at k 0).off = (ι i).off + (k * sz + 0) := by unfold Loc.at; dsimp only; rw [g1]
  rw [e] at h7
  exact h7
theorem Sim.reobj {j ty sz : Nat} {els : List (List AC)} {own : Bool} (hs : Sim B w0 ι H w) (hj : H[j]? = some (.row ty sz els own)) (f : AC → AC) (hf : ∀ x v, x.ok H.length → x.rel ι v → (f x).rel ι v ∧ (f x).ok H.length) (hf0 : ∀ x, x.ok H.length → (∀ v, ¬ x.rel ι v) → (f x).ok H.length) :
  Sim B w0 ι (H.set j (.row ty sz (els.map fun e => e.map f) own)) w := by
 have hlt := getElem?_lt hj
 have key : ∀ (k : Nat) (q : AObj), (H.set j (.row ty sz (els.map fun e => e.map f) own))[k]? = some q → ∃ q0, H[k]? = some q0 ∧ q0.owned = q.owned ∧ q0.live = q.live := by
  intro k q hq
  by_cases e : j = k
  ·subst e
   rw [List.getElem?_set_self hlt] at hq
   injection hq with hq
   subst hq
   exact ⟨_, hj, rfl, rfl⟩
  ·rw [List.getElem?_set_ne e] at hq
   exact ⟨q, hq, rfl, rfl⟩
 have hfo : ∀ x, x.ok H.length → (f x).ok H.length := fun x hx => by
  by_cases h : ∃ v, x.rel ι v
  ·obtain ⟨v, hv⟩ := h
   exact (hf x v hx hv).2
  ·exact hf0 x hx (fun v hv => h ⟨v, hv⟩)
 refine ⟨hs.below, hs.big, hs.known, fun k q hq => ?_, fun k q hq => ?_, fun k1 k2 q q' hne hq hqo hq' hl => ?_, fun k q hq hqo => ?_, hs.froz, fun k q hq hqo => ?_⟩
 ·rw [List.length_set]
  by_cases e : j = k
  ·subst e
   rw [List.getElem?_set_self hlt] at hq
   injection hq with hq
   subst hq
   have h := hs.scope j _ hj
   intro e he
   obtain ⟨e0, h0, rfl⟩ := List.mem_map.1 he
   have h1 := h e0 h0
   refine ⟨by rw [List.length_map]; exact h1.1, fun x hx => ?_⟩
   obtain ⟨x0, hx0, rfl⟩ := List.mem_map.1 hx
   exact hfo x0 (h1.2 x0 hx0)
  ·rw [List.getElem?_set_ne e] at hq
   exact hs.scope k q hq
 ·by_cases e : j = k
  ·subst e
   rw [List.getElem?_set_self hlt] at hq
   injection hq with hq
   subst hq
   have h := hs.scope j _ hj
   obtain ⟨h1, h2, cur, fr, h3, h4, h5⟩ := hs.obj j _ hj
   refine ⟨h1, by rw [List.length_map]; exact h2, cur, fr, h3, fun k e hk jj x hx => ?_, h5⟩
   rw [List.getElem?_map] at hk
   obtain ⟨e0, he0, rfl⟩ := Option.map_eq_some_iff.1 hk
   rw [List.getElem?_map] at hx
   obtain ⟨x0, hx0, rfl⟩ := Option.map_eq_some_iff.1 hx
   obtain ⟨u, hu, hr⟩ := h4 k e0 he0 jj x0 hx0
   exact ⟨u, hu, (hf x0 u ((h e0 (List.mem_of_getElem? he0)).2 x0 (List.mem_of_getElem? hx0)) hr).1⟩
  ·rw [List.getElem?_set_ne e] at hq
   exact hs.obj k q hq
 ·obtain ⟨q0, h1, h2, h3⟩ := key k1 q hq
  obtain ⟨q1, g1, g2, g3⟩ := key k2 q' hq'
  exact hs.sep k1 k2 q0 q1 hne h1 (h2.trans hqo) g1 (g3.trans hl)
 ·obtain ⟨q0, h1, h2, h3⟩ := key k q hq
  exact hs.base k q0 h1 (h2.trans hqo)
 ·obtain ⟨q0, h1, h2, h3⟩ := key k q hq
  exact hs.apart k q0 h1 (h2.trans hqo)
theorem AC.frzX_ok {i sz : Nat} {els : List (List AC)} {x : AC} (ho : x.ok n) : (x.frzX i sz els).ok n := by
 unfold AC.frzX
 split
 ·split
  ·trivial
  ·exact ho
 ·split
  ·split
   ·trivial
   ·exact ho
  ·exact ho
 ·exact ho
variable {vs vs' : List AV}
theorem WkL.frzX {i ty sz : Nat} {els : List (List AC)} {own : Bool} (hi : H[i]? = some (.row ty sz els own)) (hp : pureL els = true) (hm : m ≤ H.length) : WkL m vs H (vs.map (AV.frzX i sz els)) (H.set i (.row ty sz els false)) := by
 intro B w0 ι w us hs hr ho
 obtain ⟨ι', h1, h2, h3⟩ := hs.frzX hi hp
 obtain ⟨h4, h5⟩ := relAL_frzX h1 h3 vs us hr ho
 refine ⟨ι', h1.le hm, by simpa using hm, h2, h4, ?_⟩
 rw [List.length_set]
 exact h5
theorem WkL.frzO {i j ty sz ty2 sz2 : Nat} {els els2 : List (List AC)} {own own2 : Bool} (hi : H[i]? = some (.row ty sz els own)) (hp : pureL els = true) (hm : m ≤ H.length) (hj : H[j]? = some (.row ty2 sz2 els2 own2)) (hne : i ≠ j) :
  WkL m vs H (vs.map (AV.frzX i sz els)) ((H.set i (.row ty sz els false)).set j (.row ty2 sz2 (els2.map fun e => e.map (AC.frzX i sz els)) own2)) := by
 intro B w0 ι w us hs hr ho
 obtain ⟨ι', h1, h2, h3⟩ := hs.frzX hi hp
 obtain ⟨h4, h5⟩ := relAL_frzX h1 h3 vs us hr ho
 have hloc : ι' i = ι i := h1.loc i (getElem?_lt hi)
 have h3' : FrzR ι' ι' i sz els := ⟨fun k m v hk hr => h3.sl k m v hk (by simp only [AC.rel] at hr ⊢; rw [← hloc]; exact hr), fun k o e v hk hr => h3.pt k o e v hk (by simp only [AC.rel, ptrOf] at hr ⊢; rw [← hloc]; exact hr)⟩
 have h6 := h2.reobj (j := j) (by rw [List.getElem?_set_ne hne]; exact hj) (AC.frzX i sz els) (fun x v hx hr => AC.frzX_rel (Agree.refl _ _) hx hr h3') (fun x hx _ => AC.frzX_ok hx)
 refine ⟨ι', h1.le hm, by simpa using hm, h6, h4, ?_⟩
 rw [List.length_set, List.length_set]
 exact h5
theorem WkL.node {A G : Hp} {ty1 sz1 ty2 sz2 : Nat} {els : List (List AC)} {cs cs' : List AC} {own1 own2 : Bool} (j1 j2 : Nat) (hA : HOk A) (hm : m ≤ A.length) (h1 : G[j1]? = some (.row ty1 sz1 els own1)) (hp : pureL els = true) (h2 : G[j2]? = some (.row ty2 sz2 [cs] own2)) (hne : j1 ≠ j2)
  (hc : cs.map (AC.frzX (A.length + j1) sz1 els) = cs') (hcp : pureL [cs'] = true) (e : (vs.map (AV.frzX (A.length + j1) sz1 els)).map (AV.frzX (A.length + j2) sz2 [cs']) = vs') (ho : ∀ x ∈ vs', x.ok A.length) : WkL m vs (A ++ G) vs' A := by
 have hl : A.length ≤ (A ++ G).length := by simp
 have hi1 : (A ++ G)[A.length + j1]? = some (.row ty1 sz1 els own1) := by rw [List.getElem?_append_right (by omega), Nat.add_sub_cancel_left]; exact h1
 have hi2 : (A ++ G)[A.length + j2]? = some (.row ty2 sz2 [cs] own2) := by rw [List.getElem?_append_right (by omega), Nat.add_sub_cancel_left]; exact h2
 have s1 := WkL.frzO (vs := vs) (m := m) hi1 hp (by omega) hi2 (by omega)
 rw [List.map_cons, List.map_nil, hc] at s1
 have hg : (((A ++ G).set (A.length + j1) (.row ty1 sz1 els false)).set (A.length + j2) (.row ty2 sz2 [cs'] own2))[A.length + j2]? = some (.row ty2 sz2 [cs'] own2) := List.getElem?_set_self (by rw [List.length_set]; exact getElem?_lt hi2)
 have s2 := WkL.frzX (vs := vs.map (AV.frzX (A.length + j1) sz1 els)) (m := m) hg hcp (by simp; omega)
 rw [e] at s2
 have hh : ∃ G', (((A ++ G).set (A.length + j1) (.row ty1 sz1 els false)).set (A.length + j2) (.row ty2 sz2 [cs'] own2)).set (A.length + j2) (.row ty2 sz2 [cs'] false) = A ++ G' := by
  rw [List.set_append_right _ _ (by omega), List.set_append_right _ _ (by omega), List.set_append_right _ _ (by omega)]
  exact ⟨_, rfl⟩
 obtain ⟨G', hh⟩ := hh
 rw [hh] at s2
 exact (s1.trans s2).trans (WkL.rest hA hm rfl ho)
theorem WkL.node1 {A G : Hp} {ty2 sz2 : Nat} {els : List (List AC)} {own2 : Bool} (j2 : Nat) (hA : HOk A) (hm : m ≤ A.length) (h2 : G[j2]? = some (.row ty2 sz2 els own2))
  (hcp : pureL els = true) (e : vs.map (AV.frzX (A.length + j2) sz2 els) = vs') (ho : ∀ x ∈ vs', x.ok A.length) : WkL m vs (A ++ G) vs' A := by
 have hi2 : (A ++ G)[A.length + j2]? = some (.row ty2 sz2 els own2) := by rw [List.getElem?_append_right (by omega), Nat.add_sub_cancel_left]; exact h2
 have s2 := WkL.frzX (vs := vs) (m := m) hi2 hcp (by simp; omega)
 rw [e, List.set_append_right _ _ (by omega)] at s2
 exact s2.trans (WkL.rest hA hm rfl ho)
theorem Ret.node {A G : Hp} {K : AV → Hp → Prop} {v v' : AV} {ty1 sz1 ty2 sz2 : Nat} {els : List (List AC)} {cs cs' : List AC} {own1 own2 : Bool} (j1 j2 : Nat) (hA : HOk A) (hn : n ≤ A.length) (h1 : G[j1]? = some (.row ty1 sz1 els own1)) (hp : pureL els = true) (h2 : G[j2]? = some (.row ty2 sz2 [cs] own2)) (hne : j1 ≠ j2)
  (hc : cs.map (AC.frzX (A.length + j1) sz1 els) = cs') (hcp : pureL [cs'] = true) (e : (v.frzX (A.length + j1) sz1 els).frzX (A.length + j2) sz2 [cs'] = v') (ho : v'.ok A.length) (hk : K v' A) : Ret n v (A ++ G) K :=
 Ret.wk (WkL.node j1 j2 hA hn h1 hp h2 hne hc hcp (by rw [List.map_cons, List.map_nil, List.map_cons, List.map_nil, e]) (by simpa using ho)) hk
theorem Ret.node1 {A G : Hp} {K : AV → Hp → Prop} {v v' : AV} {ty2 sz2 : Nat} {els : List (List AC)} {own2 : Bool} (j2 : Nat) (hA : HOk A) (hn : n ≤ A.length) (h2 : G[j2]? = some (.row ty2 sz2 els own2))
  (hcp : pureL els = true) (e : v.frzX (A.length + j2) sz2 els = v') (ho : v'.ok A.length) (hk : K v' A) : Ret n v (A ++ G) K :=
 Ret.wk (WkL.node1 j2 hA hn h2 hcp (by rw [List.map_cons, List.map_nil, e]) (by simpa using ho)) hk
end
end Go.Proofs.YtagoolooikpabaaGreatDoor
