/- Ends of calls, slices handed on, append. No condition. -/
import Derived.Test.YtkmkkjlfnobciaaGreatDoorCoreDraw
namespace Go.Proofs.YtkmkkjlfnobciaaGreatDoor
open Go Go.RowKit
set_option linter.all false

section
variable {P : Program} {H A G : Hp} {K : AV → Hp → Prop} {n : Nat} {v : AV}
theorem Ret.wk {v' : AV} {H' : Hp} (h : WkL n [v] H [v'] H') (hk : K v' H') : Ret n v H K := fun _ _ => ⟨v', H', h, hk⟩
theorem Ret.same (hn : n ≤ H.length) (hk : K v H) : Ret n v H K := Ret.wk (WkL.refl hn) hk
theorem Ret.sameI {n m : Int} {k : IntKind} (e : m = n) (hk : K (.c (.int k n)) H) : Ret H.length (.c (.int k m)) H K := by
  subst e; exact Ret.same (Nat.le_refl _) hk
theorem Ret.sameB {n m : Bool} (e : m = n) (hk : K (.c (.bool n)) H) : Ret H.length (.c (.bool m)) H K := by
  subst e; exact Ret.same (Nat.le_refl _) hk
/-- what was made is left behind; nothing of it is handed back -/
theorem Ret.drop (hA : HOk A) (hn : n ≤ A.length) (ho : v.ok A.length) (hk : K v A) : Ret n v (A ++ G) K :=
  Ret.wk (WkL.drop hA hn (by simpa using ho)) hk
theorem Ret.to {v' : AV} (e : v = v') (hk : Ret n v' H K) : Ret n v H K := by subst e; exact hk
/-- a row that was made is frozen and handed back -/
theorem Ret.frz {i ty sz : Nat} {els : List (List AC)} {own : Bool} (hi : H[i]? = some (.row ty sz els own)) (hp : pureL els = true) (hn : n ≤ H.length) (hk : Ret n (v.frz i sz els) (H.set i (.row ty sz els false)) K) : Ret n v H K := by
  intro hH hv
  have h6 := hH i _ hi
  have hH' : HOk (H.set i (.row ty sz els false)) := HOk.set hH h6
  have h1 := WkL.frz (m := n) (vs := [v]) hi hp hn
  have hok : (v.frz i sz els).ok (H.set i (.row ty sz els false)).length := by
    rw [List.length_set]
    have key : ∀ x : AC, x.ok H.length → (x.frz i sz els).ok H.length := by
      intro x hx
      unfold AC.frz
      split
      · split <;> first | trivial | exact hx
      · exact hx
    have key1 : ∀ x : AV, x.ok1 H.length → (x.frz1 i sz els).ok1 H.length := by
      intro x hx
      cases x <;> first | exact key _ hx | exact hx
    cases v with
    | c x => exact key x hv
    | agg cs => exact hv
    | any => exact hv
    | tup ts =>
      intro x hx
      obtain ⟨y, hy, rfl⟩ := List.mem_map.1 hx
      exact key1 y (hv y hy)
  obtain ⟨v', H', h2, h3⟩ := hk hH' hok
  exact ⟨v', H', h1.trans h2, h3⟩
attribute [go_sem] AV.frz AV.frz1 AC.frz
/-! ### an empty slice is read as one -/
def AC.nilz (sz : Nat) : AC → AC
  | .sl _ 0 => .lst sz []
  | x => x
def AV.nilz : List Nat → AV → AV
  | sz :: _, .c x => .c (x.nilz sz)
  | szs, .tup vs => .tup (go szs vs)
  | _, x => x
where go : List Nat → List AV → List AV
  | sz :: szs, .c x :: vs => .c (x.nilz sz) :: go szs vs
  | _ :: szs, x :: vs => x :: go szs vs
  | [], vs => vs
  | _, [] => []
theorem AC.nilz_rel {ι : En} {x : AC} {v : Value} (sz : Nat) (h : x.rel ι v) : (x.nilz sz).rel ι v := by
  unfold AC.nilz
  split
  · rename_i r
    show AC.rel ι (.lst sz []) v
    simp only [AC.rel, AC.relZ]
    cases r with
    | none => obtain ⟨_, rfl⟩ := h; exact ⟨none, 0, by simp, by simp, by simp, by simp, by simp⟩
    | some p => obtain ⟨a, rfl, _, _⟩ := h; exact ⟨some a, _, rfl, by simp, by simp, by simp, by simp [relRows]⟩
  · exact h
theorem AC.nilz_ok {x : AC} (sz : Nat) (h : x.ok n) : (x.nilz sz).ok n := by
  unfold AC.nilz
  split
  · trivial
  · exact h
theorem AV.nilz_rel {ι : En} {x : AV} {v : Value} (szs : List Nat) (h : x.rel ι v) (ho : x.ok n) : (x.nilz szs).rel ι v ∧ (x.nilz szs).ok n := by
  have key : ∀ (vs : List AV) (szs : List Nat) (us : List Value), rel1L ι vs us → (∀ x ∈ vs, x.ok1 n) → rel1L ι (AV.nilz.go szs vs) us ∧ ∀ x ∈ AV.nilz.go szs vs, x.ok1 n := by
    intro vs
    induction vs with
    | nil => intro szs us h ho; cases szs <;> exact ⟨h, ho⟩
    | cons x vs ih =>
      intro szs us h ho
      cases szs with
      | nil => exact ⟨h, ho⟩
      | cons sz szs =>
        cases us with
        | nil => exact h.elim
        | cons u us =>
          obtain ⟨h1, h2⟩ := ih szs us h.2 (fun y hy => ho y (by simp [hy]))
          cases x with
          | c x =>
            refine ⟨⟨AC.nilz_rel sz h.1, h1⟩, ?_⟩
            intro y hy
            rcases List.mem_cons.1 hy with rfl | hy
            · exact AC.nilz_ok sz (ho _ (List.mem_cons_self))
            · exact h2 y hy
          | _ =>
            refine ⟨⟨h.1, h1⟩, ?_⟩
            intro y hy
            rcases List.mem_cons.1 hy with rfl | hy
            · exact ho _ (List.mem_cons_self)
            · exact h2 y hy
  cases x with
  | c x =>
    cases szs with
    | nil => exact ⟨h, ho⟩
    | cons sz szs => exact ⟨AC.nilz_rel sz h, AC.nilz_ok sz ho⟩
  | tup vs =>
    obtain ⟨us, rfl, h⟩ := h
    obtain ⟨h1, h2⟩ := key vs szs us h ho
    cases szs <;> exact ⟨⟨us, rfl, h1⟩, h2⟩
  | agg cs => cases szs <;> exact ⟨h, ho⟩
  | any => cases szs <;> exact ⟨h, ho⟩
theorem Ret.nil (szs : List Nat) (hn : n ≤ H.length) (hk : Ret n (v.nilz szs) H K) : Ret n v H K := by
  intro hH hv
  have h1 : WkL n [v] H [v.nilz szs] H := by
    intro B w0 ι w us hs hr ho
    match us, hr with
    | [u], hr =>
      obtain ⟨h1, h2⟩ := AV.nilz_rel szs hr.1 (ho v (by simp))
      exact ⟨ι, Agree.refl _ _, hn, hs, ⟨h1, trivial⟩, by intro x hx; rw [List.mem_singleton] at hx; subst hx; exact h2⟩
  have hok : (v.nilz szs).ok H.length := by
    have key : ∀ (vs : List AV) (szs : List Nat), (∀ x ∈ vs, x.ok1 H.length) → ∀ x ∈ AV.nilz.go szs vs, x.ok1 H.length := by
      intro vs
      induction vs with
      | nil => intro szs ho; cases szs <;> exact ho
      | cons x vs ih =>
        intro szs ho
        cases szs with
        | nil => exact ho
        | cons sz szs =>
          have h2 := ih szs (fun y hy => ho y (by simp [hy]))
          cases x with
          | c x =>
            intro y hy
            rcases List.mem_cons.1 hy with rfl | hy
            · exact AC.nilz_ok sz (ho _ (List.mem_cons_self))
            · exact h2 y hy
          | _ =>
            intro y hy
            rcases List.mem_cons.1 hy with rfl | hy
            · exact ho _ (List.mem_cons_self)
            · exact h2 y hy
    cases v with
    | c x => cases szs with | nil => exact hv | cons sz szs => exact AC.nilz_ok sz hv
    | tup vs => cases szs <;> exact key vs _ hv
    | agg cs => cases szs <;> exact hv
    | any => cases szs <;> exact hv
  obtain ⟨v', H', h2, h3⟩ := hk hH hok
  exact ⟨v', H', h1.trans h2, h3⟩
attribute [go_sem] AC.nilz AV.nilz AV.nilz.go
/-! ### slices handed on -/
theorem ACalls.frz {f : FuncId} {args : List AV} {i ty sz : Nat} {els : List (List AC)} {own : Bool} (hi : H[i]? = some (.row ty sz els own)) (hp : pureL els = true)
    (h : ACalls P f (args.map (AV.frz1 i sz els)) (H.set i (.row ty sz els false)) K) : ACalls P f args H K := by
  intro B w0 ι w vs hs hr ho
  obtain ⟨ι', h1, h2, h3⟩ := hs.frz hi hp
  have key : ∀ (ts : List AV) (us : List Value), rel1L ι ts us → (∀ x ∈ ts, x.ok1 H.length) → rel1L ι' (ts.map (AV.frz1 i sz els)) us ∧ ∀ x ∈ ts.map (AV.frz1 i sz els), x.ok1 H.length := by
    intro ts
    induction ts with
    | nil => intro us h _; cases us with | nil => exact ⟨trivial, by simp⟩ | cons _ _ => exact h.elim
    | cons t ts ih =>
      intro us h ho
      cases us with
      | nil => exact h.elim
      | cons u us =>
        obtain ⟨g1, g2⟩ := ih us h.2 (fun x hx => ho x (by simp [hx]))
        obtain ⟨g3, g4⟩ := AV.frz1_rel h1 (ho t (by simp)) h.1 h3
        exact ⟨⟨g3, g1⟩, fun x hx => by
          rcases List.mem_cons.1 hx with rfl | hx
          · exact g4
          · exact g2 x hx⟩
  obtain ⟨g1, g2⟩ := key args vs.toList hr ho
  have h4 := h B w0 ι' w vs h2 g1 (by rw [List.length_set]; exact g2)
  rw [List.length_set] at h4
  refine h4.mono fun e w' he => ?_
  obtain ⟨ι2, v, av, H', k1, k2, k3, k4, k5, k6, k7⟩ := he
  exact ⟨ι2, v, av, H', k1, h1.trans k2 (Nat.le_refl _), k3, k4, k5, k6, k7⟩
def flatC : AC → Bool
  | .int _ _ | .bool _ | .str _ | .nilf => true
  | _ => false
def flatV1 : AV → Bool
  | .c x => flatC x
  | .agg cs => cs.all flatC
  | .any => true
  | .tup _ => false
def flatV : AV → Bool
  | .tup vs => vs.all flatV1
  | x => flatV1 x
theorem flatC_rel {ι ι' : En} {x : AC} {v : Value} (h : flatC x = true) (hr : x.rel ι v) : x.rel ι' v := by
  cases x <;> first | exact hr | cases h
theorem flat1_rel {ι ι' : En} {x : AV} {v : Value} (h : flatV1 x = true) (hr : x.rel1 ι v) : x.rel1 ι' v := by
  cases x with
  | c x => exact flatC_rel h hr
  | agg cs =>
    obtain ⟨vs, rfl, hr⟩ := hr
    refine ⟨vs, rfl, ?_⟩
    simp only [flatV1] at h
    induction cs generalizing vs with
    | nil => cases vs with | nil => trivial | cons _ _ => exact hr.elim
    | cons c cs ih =>
      cases vs with
      | nil => exact hr.elim
      | cons u us =>
        simp only [List.all_cons, Bool.and_eq_true] at h
        exact ⟨flatC_rel h.1 hr.1, ih h.2 _ hr.2⟩
  | any => trivial
  | tup ts => cases h
theorem flat_rel {ι ι' : En} {x : AV} {v : Value} (h : flatV x = true) (hr : x.rel ι v) : x.rel ι' v := by
  cases x with
  | c x => exact flatC_rel h hr
  | agg cs => exact flat1_rel (x := .agg cs) h hr
  | any => trivial
  | tup ts =>
    obtain ⟨us, rfl, hr⟩ := hr
    refine ⟨us, rfl, ?_⟩
    simp only [flatV] at h
    induction ts generalizing us with
    | nil => cases us with | nil => trivial | cons _ _ => exact hr.elim
    | cons c cs ih =>
      cases us with
      | nil => exact hr.elim
      | cons u us =>
        simp only [List.all_cons, Bool.and_eq_true] at h
        exact ⟨flat1_rel h.1 hr.1, ih h.2 _ hr.2⟩
theorem flatC_ok {x : AC} (h : flatC x = true) (n : Nat) : x.ok n := by cases x <;> first | trivial | cases h
theorem flat1_ok {x : AV} (h : flatV1 x = true) (n : Nat) : x.ok1 n := by
  cases x with
  | c x => exact flatC_ok h n
  | agg cs => exact fun y hy => flatC_ok (List.all_eq_true.1 h y hy) n
  | any => trivial
  | tup ts => cases h
theorem flat_ok {x : AV} (h : flatV x = true) (n : Nat) : x.ok n := by
  cases x with
  | c x => exact flatC_ok h n
  | agg cs => exact flat1_ok (x := .agg cs) h n
  | any => trivial
  | tup ts => exact fun y hy => flat1_ok (List.all_eq_true.1 h y hy) n
theorem Sim.none {B : Nat} {w0 w : World} {ι : En} (hs : Sim B w0 ι H w) : Sim w.heap.size w ι [] w :=
  ⟨⟨rfl, rfl, rfl, Nat.le_refl _, fun _ _ => rfl⟩, Nat.le_refl _, fun i o h => by simp at h, fun i o h => by simp at h, fun i j o o' _ h => by simp at h, fun i o h => by simp at h, hs.froz, fun i o h => by simp at h⟩
/-- A READER: it is lent a row, and hands back plain values -/
theorem ACalls.lend {f : FuncId} {args : List AV} {i ty sz : Nat} {els : List (List AC)} {own : Bool} (v : AV) (hi : H[i]? = some (.row ty sz els own)) (hp : pureL els = true) (hv : flatV v = true)
    (hn : ∀ x ∈ args.map (AV.frz1 i sz els), x.ok1 0) (h : ACalls P f (args.map (AV.frz1 i sz els)) [] (fun v' _ => v' = v)) (hk : K v H) : ACalls P f args H K := by
  intro B w0 ι w vs hs hr ho
  obtain ⟨ι', h1, h2, h3⟩ := hs.frz hi hp
  have key : ∀ (ts : List AV) (us : List Value), rel1L ι ts us → (∀ x ∈ ts, x.ok1 H.length) → rel1L ι' (ts.map (AV.frz1 i sz els)) us := by
    intro ts
    induction ts with
    | nil => intro us h _; cases us with | nil => trivial | cons _ _ => exact h.elim
    | cons t ts ih =>
      intro us h ho
      cases us with
      | nil => exact h.elim
      | cons u us => exact ⟨(AV.frz1_rel h1 (ho t (by simp)) h.1 h3).1, ih us h.2 (fun x hx => ho x (by simp [hx]))⟩
  refine (h w.heap.size w ι' w vs h2.none (key args vs.toList hr ho) (by simpa using hn)).mono fun e w' he => ?_
  obtain ⟨ι2, u, av, H', rfl, k2, k3, k4, k5, k6, hav⟩ := he
  rw [hav] at k5
  have hb := k4.below
  have hg : w.grownBy w' none := ⟨hb.os, hb.tape, hb.output, hb.size, fun k hk _ => hb.block k hk⟩
  exact ⟨ι, u, v, H, rfl, Agree.refl _ _, Nat.le_refl _, hs.grown hg, flat_rel hv k5, flat_ok hv _, hk⟩

/-! ### append -/
/-- some elements more -/
def aAppL (e sz bs : Nat) (r : Option (Nat × Nat)) (n : Nat) (new : List (List AC)) (H : Hp) (J : AV → Hp → Prop) : Prop := match new, r with
  | [], r => J (.c (.sl r n)) H
  | x :: xs, none => aIf (n = 0 ∧ 0 < sz ∧ (x :: xs).length * bs ≤ 140737488355328 ∧ (x :: xs).length ≤ 9223372036854775807) (.c (.sl (some (H.length, 0)) (x :: xs).length)) (H ++ [.row e sz (x :: xs) true]) J
  | x :: xs, some (i, k) => k = 0 ∧ match H[i]? with
    | some (.row e' sz' els true) => aIf (e' = e ∧ sz' = sz ∧ n ≤ els.length ∧ 0 < sz ∧ (n + (x :: xs).length) * bs ≤ 140737488355328 ∧ n + (x :: xs).length ≤ 9223372036854775807) (.c (.sl (some (H.length, 0)) (n + (x :: xs).length))) (H.set i .dead ++ [.row e sz (els.take n ++ (x :: xs)) true]) J
    | _ => False
def aAppO (tt : Prop) (e : Option Nat) (z : Option (List AC)) (sz bs : Nat) (r : Option (Nat × Nat)) (n : Nat) (new : Option (List (List AC))) (H : Hp) (J : AV → Hp → Prop) : Prop := match e, z, new with
  | some e, some z, some new => tt ∧ z.length = sz ∧ aAppL e sz bs r n new H J
  | _, _, _ => False
def srcO (ob : Option AObj) (sz k m : Nat) : Option (List (List AC)) := match ob with
  | some (.row _ sz' els _) => if sz' = sz ∧ k + m ≤ els.length then some ((els.drop k).take m) else none
  | _ => none
theorem app_of_L {t e : Nat} {r : Option (Nat × Nat)} {n m : Nat} {new : List (List AC)} {z : List AC} {J : AV → Hp → Prop} (he : elemT P t = some e) (hz : zeroT P e = some z) (hzl : z.length = szT P e) (hm : new.length = m)
    (h : aAppL e (szT P e) (P.bytesOf e) r n new H J) : (m = 0 → J (.c (.sl r n)) H) ∧ (0 < m → ∃ els : List (List AC), ownA P H e r n els ∧ 0 < szT P e ∧ (n + m) * P.bytesOf e ≤ 140737488355328 ∧ n + m ≤ 9223372036854775807 ∧
          J (.c (.sl (some (H.length, 0)) (n + m))) (killA r H ++ [.row e (szT P e) (els.take n ++ new) true])) := by
  subst hm
  unfold aAppL at h
  split at h
  · exact ⟨fun _ => h, fun h0 => by simp at h0⟩
  · refine ⟨fun h0 => by simp at h0, fun _ => ?_⟩
    obtain ⟨⟨rfl, h1, h2, h3⟩, h4⟩ := h
    exact ⟨[], ⟨rfl, rfl⟩, h1, by simpa using h2, by simpa using h3, by simpa [killA] using h4⟩
  · refine ⟨fun h0 => by simp at h0, fun _ => ?_⟩
    obtain ⟨rfl, h⟩ := h
    split at h
    · rename_i els hi
      obtain ⟨⟨rfl, rfl, h0, h1, h2, h3⟩, h4⟩ := h
      exact ⟨els, ⟨rfl, hi, h0⟩, h1, h2, h3, h4⟩
    · exact h.elim
theorem app_sl {t t' : TypeId} {r : Option (Nat × Nat)} {j k n m : Nat} {J : AV → Hp → Prop} (h : aAppO (t = t') (elemT P t) ((elemT P t).bind (zeroT P)) ((elemT P t).elim 0 (szT P)) ((elemT P t).elim 0 P.bytesOf) r n (srcO H[j]? ((elemT P t).elim 0 (szT P)) k m) H J) :
    aBuiltin P .append #[t, t'] [.c (.sl r n), .c (.sl (some (j, k)) m)] H J := by
  unfold aAppO at h
  split at h
  · rename_i e z new he hz hn
    obtain ⟨rfl, h1, h2⟩ := h
    rw [he] at hz hn h1 h2
    simp only [Option.bind_some, Option.elim_some] at hz hn h1 h2
    unfold srcO at hn
    split at hn
    · rename_i ty sz' els own hi
      split at hn
      · rename_i hc
        obtain ⟨rfl, hc⟩ := hc
        injection hn with hn
        have hm : new.length = m := by rw [← hn, List.length_take, List.length_drop]; omega
        obtain ⟨h3, h4⟩ := app_of_L he hz h1 hm h2
        show _ ∧ _
        refine ⟨rfl, ?_⟩
        rw [he]
        refine ⟨by rw [hz, Option.map_some, h1], h3, fun h0 => ?_⟩
        obtain ⟨els2, g1, g2, g3, g4, g5⟩ := h4 h0
        exact ⟨els2, new, g1, ⟨ty, els, own, hi, hc, hn.symm⟩, g2, g3, g4, g5⟩
      · cases hn
    · cases hn
  · exact h.elim
/-- zeros, as many as are told, behind nil -/
theorem app_zer {t t' : TypeId} {e m : Nat} {k : IntKind} {z : List AC} {J : AV → Hp → Prop} (hi : intT P t' = true) (he : elemT P t = some e) (hz : zeroT P e = some z) (hzl : z.length = szT P e) (hs : 0 < szT P e) (hm : 0 < m) (hb : (m : Int) * P.bytesOf e ≤ 140737488355328) (h63 : (m : Int) ≤ 9223372036854775807)
    (h : J (.c (.sl (some (H.length, 0)) m)) (H ++ [.row e (szT P e) (List.replicate m z) true])) : aBuiltin P .append #[t, t'] [.c (.sl none 0), .c (.int k m)] H J := by
  show _ ∧ _ ∧ _ ∧ _
  refine ⟨rfl, rfl, hi, ?_⟩
  rw [he]
  dsimp only
  rw [hz]
  exact ⟨hzl, hs, by omega, hb, h63, by rw [Int.toNat_natCast]; exact h⟩
def newO (a b : Nat) (new : List (List AC)) : Option (List (List AC)) := if a = b then some new else none
@[go_sem] theorem newO_same (a : Nat) (new : List (List AC)) : newO a a new = some new := if_pos rfl
theorem app_lst {t t' : TypeId} {sz : Nat} {r : Option (Nat × Nat)} {n : Nat} {new : List (List AC)} {J : AV → Hp → Prop} (h : aAppO (t = t') (elemT P t) ((elemT P t).bind (zeroT P)) ((elemT P t).elim 0 (szT P)) ((elemT P t).elim 0 P.bytesOf) r n (newO sz ((elemT P t).elim 0 (szT P)) new) H J) :
    aBuiltin P .append #[t, t'] [.c (.sl r n), .c (.lst sz new)] H J := by
  unfold aAppO at h
  split at h
  · rename_i e z new' he hz hn
    obtain ⟨rfl, h1, h2⟩ := h
    rw [he] at hz hn h1 h2
    simp only [Option.bind_some, Option.elim_some] at hz hn h1 h2
    by_cases hc : sz = szT P e
    · rw [newO, if_pos hc] at hn
      injection hn with hn
      subst hn
      obtain ⟨h3, h4⟩ := app_of_L he hz h1 rfl h2
      show _ ∧ _
      refine ⟨rfl, ?_⟩
      rw [he]
      refine ⟨by rw [hz, Option.map_some, h1], h3, fun h0 => ?_⟩
      obtain ⟨els2, g1, g2, g3, g4, g5⟩ := h4 h0
      exact ⟨els2, g1, hc, g2, g3, g4, g5⟩
    · rw [newO, if_neg hc] at hn; cases hn
  · exact h.elim
end
section
variable (P : Program) (H : Hp) (J : AV → Hp → Prop)
@[congr] theorem aappo_congr {t t' : Prop} {e e' : Option Nat} {z z' : Option (List AC)} {sz sz' bs bs' n n' : Nat} {r r' : Option (Nat × Nat)} {x x' : Option (List (List AC))} {H H' : Hp} (h1 : t = t') (h2 : e = e') (h3 : z = z') (h4 : sz = sz') (h5 : bs = bs') (h6 : r = r') (h7 : n = n') (h8 : x = x') (h10 : H = H') : aAppO t e z sz bs r n x H J = aAppO t' e' z' sz' bs' r' n' x' H' J := by rw [h1, h2, h3, h4, h5, h6, h7, h8, h10]
@[congr] theorem aappl_congr {e e' sz sz' bs bs' n n' : Nat} {r r' : Option (Nat × Nat)} {x x' : List (List AC)} {H H' : Hp} (h2 : e = e') (h4 : sz = sz') (h5 : bs = bs') (h6 : r = r') (h7 : n = n') (h8 : x = x') (h10 : H = H') : aAppL e sz bs r n x H J = aAppL e' sz' bs' r' n' x' H' J := by rw [h2, h4, h5, h6, h7, h8, h10]
@[go_sem] theorem appo_some (tt : Prop) (e sz bs n : Nat) (z : List AC) (r : Option (Nat × Nat)) (new : List (List AC)) : aAppO tt (some e) (some z) sz bs r n (some new) H J = (tt ∧ z.length = sz ∧ aAppL e sz bs r n new H J) := (rfl)
@[go_sem] theorem srco_row (ty sz' sz k m : Nat) (els : List (List AC)) (own : Bool) (h : sz' = sz ∧ k + m ≤ els.length) : srcO (some (.row ty sz' els own)) sz k m = some ((els.drop k).take m) := by simp only [srcO]; rw [if_pos h]
@[go_sem] theorem appl_nil (e sz bs n : Nat) (r : Option (Nat × Nat)) : aAppL e sz bs r n [] H J = J (.c (.sl r n)) H := by unfold aAppL; rfl
@[go_sem] theorem appl_none (e sz bs : Nat) (x : List AC) (xs : List (List AC)) : aAppL e sz bs none 0 (x :: xs) H J = aIf (0 < sz ∧ (x :: xs).length * bs ≤ 140737488355328 ∧ (x :: xs).length ≤ 9223372036854775807) (.c (.sl (some (H.length, 0)) (x :: xs).length)) (H ++ [.row e sz (x :: xs) true]) J := by simp [aAppL]
def aAppR (ob : Option AObj) (e sz bs i n : Nat) (new : List (List AC)) (H : Hp) (J : AV → Hp → Prop) : Prop := match ob with
    | some (.row e' sz' els true) => aIf (e' = e ∧ sz' = sz ∧ n ≤ els.length ∧ 0 < sz ∧ (n + new.length) * bs ≤ 140737488355328 ∧ n + new.length ≤ 9223372036854775807) (.c (.sl (some (H.length, 0)) (n + new.length))) (H.set i .dead ++ [.row e sz (els.take n ++ new) true]) J
    | _ => False
@[congr] theorem aappr_congr {ob ob' : Option AObj} {e e' sz sz' bs bs' i i' n n' : Nat} {x x' : List (List AC)} {H H' : Hp} (h1 : ob = ob') (h2 : e = e') (h4 : sz = sz') (h5 : bs = bs') (h6 : i = i') (h7 : n = n') (h8 : x = x') (h10 : H = H') : aAppR ob e sz bs i n x H J = aAppR ob' e' sz' bs' i' n' x' H' J := by rw [h1, h2, h4, h5, h6, h7, h8, h10]
@[go_sem] theorem appl_some (e sz bs i n : Nat) (x : List AC) (xs : List (List AC)) : aAppL e sz bs (some (i, 0)) n (x :: xs) H J = aAppR H[i]? e sz bs i n (x :: xs) H J := by
  simp only [aAppL, true_and]; rfl
@[go_sem] theorem appr_row (e sz bs i n : Nat) (els new : List (List AC)) : aAppR (some (.row e sz els true)) e sz bs i n new H J = aIf (n ≤ els.length ∧ 0 < sz ∧ (n + new.length) * bs ≤ 140737488355328 ∧ n + new.length ≤ 9223372036854775807) (.c (.sl (some (H.length, 0)) (n + new.length))) (H.set i .dead ++ [.row e sz (els.take n ++ new) true]) J := by simp [aAppR]
end
/-! ### a row that grows from nothing -/
def grV (i : Nat) {α : Type} (l : List α) : AC := match l with | [] => .sl none 0 | x :: xs => .sl (some (i, 0)) (x :: xs).length
def grO (e sz : Nat) (l : List (List AC)) : AObj := match l with | [] => .dead | x :: xs => .row e sz (x :: xs) true
theorem grV_nil (i : Nat) {α : Type} : grV i ([] : List α) = .sl none 0 := rfl
theorem grO_nil (e sz : Nat) : grO e sz [] = .dead := rfl
theorem grV_pos (i : Nat) {α : Type} {l : List α} (h : l ≠ []) : grV i l = .sl (some (i, 0)) l.length := by cases l with | nil => exact absurd rfl h | cons x xs => rfl
theorem grO_pos (e sz : Nat) {l : List (List AC)} (h : l ≠ []) : grO e sz l = .row e sz l true := by cases l with | nil => exact absurd rfl h | cons x xs => rfl
@[go_sem] theorem grV_snoc (i : Nat) {α : Type} (l : List α) (x : α) : grV i (l ++ [x]) = .sl (some (i, 0)) (l.length + 1) := by rw [grV_pos i (by simp)]; simp
@[go_sem] theorem grO_snoc (e sz : Nat) (l : List (List AC)) (x : List AC) : grO e sz (l ++ [x]) = .row e sz (l ++ [x]) true := grO_pos e sz (by simp)
section
variable {P : Program} {H : Hp} {J : AV → Hp → Prop}
theorem blt_len_gr {t i : Nat} {α : Type} {l : List α} (h : aIf ((elemT P t).isSome = true) (.c (.int .i64 l.length)) H J) : aBuiltin P .len #[t] [.c (grV i l)] H J := by
  cases l with
  | nil => exact h
  | cons x xs => exact h
/-- one element more, or the first -/
theorem appL_gr {e sz bs i : Nat} {l : List (List AC)} {x : List AC} (hi : H[i]? = some (grO e sz l)) (hs : 0 < sz) (hb : (l.length + 1) * bs ≤ 140737488355328) (hn : l.length + 1 ≤ 9223372036854775807)
    (h : J (.c (.sl (some (H.length, 0)) (l.length + 1))) (H.set i .dead ++ [.row e sz (l ++ [x]) true])) : ∀ (r : Option (Nat × Nat)) (n : Nat), grV i l = .sl r n → aAppL e sz bs r n [x] H J := by
  intro r n hr
  cases l with
  | nil =>
    injection hr with h1 h2
    subst h1; subst h2
    rw [appl_none]
    refine ⟨⟨hs, by simpa using hb, by simp⟩, ?_⟩
    have hd : H.set i .dead = H := by
      apply List.ext_getElem?
      intro j
      by_cases e : i = j
      · subst e; rw [List.getElem?_set_self (getElem?_lt hi), hi]; rfl
      · rw [List.getElem?_set_ne e]
    rw [hd] at h
    simpa using h
  | cons y ys =>
    injection hr with h1 h2
    subst h1; subst h2
    rw [appl_some, hi]
    show aAppR (some (.row e sz (y :: ys) true)) e sz bs i _ [x] H J
    rw [appr_row]
    refine ⟨⟨Nat.le_refl _, hs, by simpa using hb, by simpa using hn⟩, ?_⟩
    simpa using h
end
/-! ### objects chosen, the others left behind -/
def pickS (a : Nat) (ids : List Nat) (i : Nat) : Nat := if i < a then i else a + ids.getD (i - a) 0
def AObj.pureO : AObj → Bool
  | .row _ _ els _ => pureL els
  | .map _ _ _ => false
  | .dead => true
theorem pure_ren {σ : Nat → Nat} {x : AC} (h : x.pure = true) : x.ren σ = x := by
  cases x with
  | ptr r => cases r <;> first | rfl | cases h
  | sl r n => cases r <;> first | rfl | cases h
  | map r => cases r <;> first | rfl | cases h
  | fn f fs cs =>
    simp only [AC.pure, Bool.and_eq_true, List.isEmpty_iff] at h
    obtain ⟨rfl, rfl⟩ := h
    rfl
  | _ => rfl
theorem pureO_ren {σ : Nat → Nat} {o : AObj} (h : o.pureO = true) : o.ren σ = o := by
  cases o with
  | row ty sz els own =>
    simp only [AObj.ren]
    congr 1
    conv => rhs; rw [← List.map_id els]
    refine List.map_congr_left fun e he => ?_
    conv => rhs; rw [id, ← List.map_id e]
    exact List.map_congr_left fun x hx => pure_ren (List.all_eq_true.1 (List.all_eq_true.1 h e he) x hx)
  | map kt vt es => cases h
  | dead => rfl
section
variable {n m : Nat} {σ : Nat → Nat} (hσ : ∀ i, i < n → σ i = i)
include hσ
theorem AC.ren_id {x : AC} (h : x.ok n) : x.ren σ = x := by
  have hp : ∀ p : Nat × Nat × Nat, p.1 < n → renP σ p = p := fun p hp => by unfold renP; rw [hσ _ hp]
  cases x with
  | ptr r => cases r with | none => rfl | some p => simp only [AC.ren]; rw [hp p h]
  | sl r k => cases r with | none => rfl | some p => simp only [AC.ren]; rw [hσ _ h]
  | map r => cases r with | none => rfl | some p => simp only [AC.ren]; rw [hσ _ h]
  | fn f fs cs =>
    have e : ∀ l : List (Nat × Nat × Nat), (∀ p ∈ l, p.1 < n) → l.map (renP σ) = l := fun l hl => by
      conv => rhs; rw [← List.map_id l]
      exact List.map_congr_left fun p hp' => hp p (hl p hp')
    simp only [AC.ren]; rw [e fs h.1, e cs h.2]
  | _ => rfl
theorem AC.renL_id {l : List AC} (h : ∀ x ∈ l, x.ok n) : l.map (AC.ren σ) = l := by
  conv => rhs; rw [← List.map_id l]
  exact List.map_congr_left fun x hx => AC.ren_id hσ (h x hx)
theorem AV.ren1_id {x : AV} (h : x.ok1 n) : x.ren1 σ = x := by
  cases x with
  | c x => simp only [AV.ren1]; rw [AC.ren_id hσ h]
  | agg cs => simp only [AV.ren1]; rw [AC.renL_id hσ h]
  | _ => rfl
theorem AV.ren_id {x : AV} (h : x.ok n) : x.ren σ = x := by
  cases x with
  | c x => exact AV.ren1_id hσ (x := .c x) h
  | agg cs => exact AV.ren1_id hσ (x := .agg cs) h
  | any => rfl
  | tup ts =>
    simp only [AV.ren]
    congr 1
    conv => rhs; rw [← List.map_id ts]
    exact List.map_congr_left fun x hx => AV.ren1_id hσ (h x hx)
theorem AObj.ren_id {x : AObj} (h : x.okN n) : x.ren σ = x := by
  cases x with
  | row ty sz els own =>
    simp only [AObj.ren]
    congr 1
    conv => rhs; rw [← List.map_id els]
    exact List.map_congr_left fun e he => AC.renL_id hσ fun x hx => (h e he).2 x hx
  | map kt vt es =>
    simp only [AObj.ren]
    congr 1
    conv => rhs; rw [← List.map_id es]
    exact List.map_congr_left fun e he => by
      rw [AV.ren_id hσ (h e he).1, AV.ren_id hσ (h e he).2]; rfl
  | dead => rfl
end
theorem WkL.pick {A G L : Hp} {m : Nat} {vs vs' : List AV} (ids : List Nat) (hA : HOk A) (hm : m ≤ A.length) (hL : ids.map (fun j => G[j]?) = L.map some) (hd : ids.Nodup) (hp : L.all AObj.pureO = true)
    (hv : vs = vs'.map (AV.ren (pickS A.length ids))) (ho : ∀ x ∈ vs', x.ok (A.length + L.length)) : WkL m vs (A ++ G) vs' (A ++ L) := by
  have hlen : ids.length = L.length := by have := congrArg List.length hL; simpa using this
  have hget : ∀ (j : Nat) (o : AObj), L[j]? = some o → ∃ q, ids[j]? = some q ∧ G[q]? = some o := by
    intro j o hj
    have h1 : (L.map some)[j]? = some (some o) := by rw [List.getElem?_map, hj]; rfl
    rw [← hL, List.getElem?_map] at h1
    cases hq : ids[j]? with
    | none => rw [hq] at h1; cases h1
    | some q => rw [hq] at h1; exact ⟨q, rfl, by simpa using h1⟩
  have hlo : ∀ i, i < A.length → pickS A.length ids i = i := fun i hi => by simp [pickS, hi]
  intro B w0 ι w us hs hr hov
  have hok : HOk (A ++ L) := by
    intro i o hi
    rw [List.length_append]
    rcases Nat.lt_or_ge i A.length with h | h
    · rw [List.getElem?_append_left h] at hi; exact AObj.okN_mono (by omega) (hA i o hi)
    · rw [List.getElem?_append_right h] at hi
      obtain ⟨q, h1, h2⟩ := hget _ _ hi
      have h3 := hs.hok (A.length + q) o (by rw [List.getElem?_append_right (by omega)]; simpa using h2)
      have hpo := List.all_eq_true.1 hp o (List.mem_of_getElem? hi)
      cases o with
      | row ty sz els own => exact fun e he => ⟨(h3 e he).1, fun x hx => AC.ok_of_pure (List.all_eq_true.1 (List.all_eq_true.1 hpo e he) x hx) _⟩
      | map kt vt es => cases hpo
      | dead => trivial
  refine WkL.ren (m := m) (pickS A.length ids) (fun i hi => hlo i (by omega)) (by rw [List.length_append]; omega) (fun i o hi hl => ?_) (fun i j hi hj hij => ?_) hv (by rw [List.length_append]; exact ho) hok B w0 ι w us hs hr hov
  · rcases Nat.lt_or_ge i A.length with h | h
    · rw [List.getElem?_append_left h] at hi
      rw [hlo i h, AObj.ren_id (n := A.length) hlo (hA i o hi), List.getElem?_append_left h]; exact hi
    · rw [List.getElem?_append_right h] at hi
      obtain ⟨q, h1, h2⟩ := hget _ _ hi
      rw [pureO_ren (List.all_eq_true.1 hp o (List.mem_of_getElem? hi))]
      have : pickS A.length ids i = A.length + q := by
        unfold pickS
        rw [if_neg (by omega), List.getD_eq_getElem?_getD, h1]; rfl
      rw [this, List.getElem?_append_right (by omega)]
      simpa using h2
  · rw [List.length_append] at hi hj
    have key : ∀ k, A.length ≤ k → k < A.length + L.length → ∃ q, ids[k - A.length]? = some q ∧ pickS A.length ids k = A.length + q := by
      intro k h1 h2
      have : k - A.length < ids.length := by omega
      refine ⟨ids[k - A.length], List.getElem?_eq_getElem this, ?_⟩
      unfold pickS
      rw [if_neg (by omega), List.getD_eq_getElem?_getD, List.getElem?_eq_getElem this]; rfl
    rcases Nat.lt_or_ge i A.length with h1 | h1 <;> rcases Nat.lt_or_ge j A.length with h2 | h2
    · rw [hlo i h1, hlo j h2] at hij; exact hij
    · obtain ⟨q, _, h3⟩ := key j h2 hj
      rw [hlo i h1, h3] at hij; omega
    · obtain ⟨q, _, h3⟩ := key i h1 hi
      rw [hlo j h2, h3] at hij; omega
    · obtain ⟨q, h3, h4⟩ := key i h1 hi
      obtain ⟨q', h5, h6⟩ := key j h2 hj
      rw [h4, h6] at hij
      have : q = q' := by omega
      subst this
      obtain ⟨a1, a2⟩ := List.getElem?_eq_some_iff.1 h3
      obtain ⟨b1, b2⟩ := List.getElem?_eq_some_iff.1 h5
      have hpw := List.pairwise_iff_getElem.1 hd
      rcases Nat.lt_trichotomy (i - A.length) (j - A.length) with h7 | h7 | h7
      · exact absurd (a2.trans b2.symm) (hpw _ _ a1 b1 h7)
      · omega
      · exact absurd (b2.trans a2.symm) (hpw _ _ b1 a1 h7)

/-! ### ends, ready for use -/
section
variable {H A G : Hp} {K : AV → Hp → Prop} {n m : Nat} {v v' : AV} {vs vs' : List AV}
theorem WkL.eq (hm : m ≤ H.length) (e : vs = vs') : WkL m vs H vs' H := by subst e; exact WkL.refl hm
/-- what was made in a round is left behind -/
theorem WkL.rest (hA : HOk A) (hm : m ≤ A.length) (e : vs = vs') (ho : ∀ x ∈ vs', x.ok A.length) : WkL m vs (A ++ G) vs' A := by
  subst e; exact WkL.drop hA hm ho
theorem Ret.dropE (hA : HOk A) (hn : n ≤ A.length) (hk : K v' A) (ho : v'.ok A.length) (e : v = v') : Ret n v (A ++ G) K := by subst e; exact Ret.drop hA hn ho hk
theorem Ret.sameE (hn : n ≤ H.length) (hk : K v' H) (e : v = v') : Ret n v H K := by subst e; exact Ret.same hn hk
end

/-! ### what lies where -/
section
variable {A : Hp} {i : Nat} {x y z u v w : AObj} {L : Hp}
theorem at0 (h : i = A.length) : (A ++ x :: L)[i]? = some x := by subst h; simp
theorem at1 (h : i = A.length + 1) : (A ++ x :: y :: L)[i]? = some y := by subst h; simp
theorem at2 (h : i = A.length + 2) : (A ++ x :: y :: z :: L)[i]? = some z := by subst h; simp
theorem at3 (h : i = A.length + 3) : (A ++ x :: y :: z :: u :: L)[i]? = some u := by subst h; simp
theorem at4 (h : i = A.length + 4) : (A ++ x :: y :: z :: u :: v :: L)[i]? = some v := by subst h; simp
theorem at5 (h : i = A.length + 5) : (A ++ x :: y :: z :: u :: v :: w :: L)[i]? = some w := by subst h; simp
theorem atG (j : Nat) (h : i = A.length + j) (hj : L[j]? = some x) : (A ++ L)[i]? = some x := by subst h; rw [List.getElem?_append_right (by omega)]; simpa using hj
end
section
variable {P : Program} {H : Hp} {K : AV → Hp → Prop}
/-- a literal that is handed on, and then forgotten -/
theorem ACalls.lit {f : FuncId} {args args' : List AV} {i ty sz : Nat} {els : List (List AC)} {own : Bool} (hi : H[i]? = some (.row ty sz els own)) (hp : pureL els = true) (ha : args.map (AV.frz1 i sz els) = args')
    (h : ACalls P f args' (H.set i .dead) K) : ACalls P f args H K := by
  subst ha
  refine ACalls.frz hi hp ?_
  intro B w0 ι w vs hs hr ho
  have hlt := getElem?_lt hi
  have hdead : H.set i .dead = (H.set i (.row ty sz els false)).set i .dead := by rw [List.set_set]
  have hs' : Sim B w0 ι (H.set i .dead) w := by
    rw [hdead]
    have hlt' : i < (H.set i (AObj.row ty sz els false)).length := by simpa using hlt
    generalize H.set i (AObj.row ty sz els false) = G at hs hlt'
    refine ⟨hs.below, hs.big, HOk.set hs.hok trivial, fun j q hq => ?_, fun j k q q' hjk hq hqo hq' hl => ?_, fun j q hq hqo => ?_, hs.froz, fun j q hq hqo => ?_⟩
    · by_cases e : i = j
      · subst e; rw [List.getElem?_set_self hlt'] at hq; injection hq with hq; subst hq; trivial
      · rw [List.getElem?_set_ne e] at hq; exact hs.obj j q hq
    · have key : ∀ (j : Nat) (q : AObj), (G.set i .dead)[j]? = some q → q.live = true → G[j]? = some q := by
        intro j q hq hl
        by_cases e : i = j
        · subst e; rw [List.getElem?_set_self hlt'] at hq; injection hq with hq; subst hq; cases hl
        · rw [List.getElem?_set_ne e] at hq; exact hq
      have hlo : ∀ q : AObj, q.owned = true → q.live = true := by intro q; cases q <;> simp [AObj.owned, AObj.live]
      exact hs.sep j k q q' hjk (key j q hq (hlo q hqo)) hqo (key k q' hq' hl) hl
    · by_cases e : i = j
      · subst e; rw [List.getElem?_set_self hlt'] at hq; injection hq with hq; subst hq; cases hqo
      · rw [List.getElem?_set_ne e] at hq; exact hs.base j q hq hqo
    · by_cases e : i = j
      · subst e; rw [List.getElem?_set_self hlt'] at hq; injection hq with hq; subst hq; cases hqo
      · rw [List.getElem?_set_ne e] at hq; exact hs.apart j q hq hqo
  have h4 := h B w0 ι w vs hs' hr (by rw [List.length_set] at ho ⊢; exact ho)
  rw [List.length_set] at h4 ⊢
  exact h4
end

/-! ### copies -/
def clV (i sz : Nat) (l : List (List AC)) : AC := match l with | [] => .lst sz [] | x :: xs => .sl (some (i, 0)) (x :: xs).length
theorem clV_nil (i sz : Nat) : clV i sz [] = .lst sz [] := rfl
theorem clV_pos (i sz : Nat) {l : List (List AC)} (h : l ≠ []) : clV i sz l = .sl (some (i, 0)) l.length := by cases l with | nil => exact absurd rfl h | cons x xs => rfl
section
variable {H A G : Hp} {K : AV → Hp → Prop} {n m : Nat} {v v' : AV} {vs vs' : List AV}
theorem HOk.pad (h : HOk H) : HOk (H ++ [.dead]) := HOk.app h trivial
theorem WkL.pad (hm : m ≤ H.length) : WkL m vs H vs (H ++ [.dead]) := by
  intro B w0 ι w us hs hr ho
  have hok := HOk.pad hs.hok
  have key : ∀ (i : Nat) (o : AObj), (H ++ [AObj.dead])[i]? = some o → o.live = true → H[i]? = some o := by
    intro i o hi hl
    rcases Nat.lt_or_ge i H.length with h | h
    · rw [List.getElem?_append_left h] at hi; exact hi
    · rw [List.getElem?_append_right h] at hi
      rcases Nat.eq_zero_or_pos (i - H.length) with h0 | h0
      · rw [h0] at hi; simp at hi; subst hi; cases hl
      · have := getElem?_lt hi; simp at this; omega
  have hlo : ∀ q : AObj, q.owned = true → q.live = true := by intro q; cases q <;> simp [AObj.owned, AObj.live]
  refine ⟨ι, Agree.refl _ _, by simp; omega, ⟨hs.below, hs.big, hok, fun i o hi => ?_, fun i j o o' hij hi ho hj hl => ?_, fun i o hi ho => ?_, hs.froz, fun i o hi ho => ?_⟩, hr, fun x hx => ?_⟩
  · by_cases hl : o.live = true
    · exact hs.obj i o (key i o hi hl)
    · cases o <;> simp [AObj.live] at hl; trivial
  · exact hs.sep i j o o' hij (key i o hi (hlo o ho)) ho (key j o' hj hl) hl
  · exact hs.base i o (key i o hi (hlo o ho)) ho
  · exact hs.apart i o (key i o hi (hlo o ho)) ho
  · exact AV.ok_mono (by simp) (ho x hx)
theorem Ret.pad (hn : n ≤ H.length) (hk : Ret n v (H ++ [.dead]) K) : Ret n v H K := by
  intro hH hv
  obtain ⟨v', H', h1, h2⟩ := hk hH.pad (AV.ok_mono (by simp) hv)
  exact ⟨v', H', (WkL.pad hn).trans h1, h2⟩
theorem Ret.cut (hA : HOk A) (hn : n ≤ A.length) (ho : v.ok A.length) (hk : Ret n v A K) : Ret n v (A ++ G) K := by
  intro hH hv
  obtain ⟨v', H', h1, h2⟩ := hk hA ho
  exact ⟨v', H', (WkL.drop hA hn (by simpa using ho)).trans h1, h2⟩
theorem Ret.pick {L : Hp} (ids : List Nat) (hA : HOk A) (hn : n ≤ A.length) (hL : ids.map (fun j => G[j]?) = L.map some) (hd : ids.Nodup) (hp : L.all AObj.pureO = true)
    (hv : v = v'.ren (pickS A.length ids)) (ho : v'.ok (A.length + L.length)) (hk : K v' (A ++ L)) : Ret n v (A ++ G) K :=
  Ret.wk (WkL.pick ids hA hn hL hd hp (by simp [hv]) (by simpa using ho)) hk
end

/-- a row takes a new name -/
theorem WkL.move {H : Hp} {m i ty sz n : Nat} {els : List (List AC)} {own : Bool} (hi : H[i]? = some (.row ty sz els own)) (hp : pureL els = true) (hm : m ≤ H.length) (hH : HOk H) :
    WkL m [.c (.sl (some (i, 0)) n)] H [.c (.sl (some (H.length, 0)) n)] (H.set i .dead ++ [.row ty sz els own]) := by
  have hlt := getElem?_lt hi
  have hlo : ∀ j, j < H.length → (fun j => if j = H.length then i else j) j = j := fun j hj => by simp; omega
  have hlen : (H.set i .dead ++ [AObj.row ty sz els own]).length = H.length + 1 := by simp
  have hok : HOk (H.set i .dead ++ [.row ty sz els own]) := HOk.app (HOk.set hH (o := .dead) trivial) (fun e he => ⟨(hH i _ hi e he).1, fun x hx => AC.ok_of_pure (List.all_eq_true.1 (List.all_eq_true.1 hp e he) x hx) _⟩)
  refine WkL.renL (fun j => if j = H.length then i else j) (fun j hj => hlo j (by omega)) (by omega) (fun j o hj hl => ?_) (fun j k o o' hj hl hk hl' e => ?_) (by simp [AV.ren, AV.ren1, AC.ren]) (by intro x hx; simp at hx; subst hx; simp [AV.ok, AV.ok1, AC.ok]) hok
  · rcases Nat.lt_or_ge j H.length with h | h
    · rw [List.getElem?_append_left (by simpa using h)] at hj
      rw [if_neg (show ¬j = H.length by omega)]
      by_cases e : i = j
      · subst e; rw [List.getElem?_set_self hlt] at hj; injection hj with hj; subst hj; cases hl
      · rw [List.getElem?_set_ne e] at hj
        rw [AObj.ren_id (n := H.length) hlo (hH j o hj), hj]
    · obtain rfl : j = H.length := by have := getElem?_lt hj; omega
      rw [List.getElem?_append_right (by simp)] at hj
      simp at hj
      subst hj
      simp only [if_true]
      rw [pureO_ren (by exact hp)]; exact hi
  · have live : ∀ (q : Nat) (o : AObj), (H.set i .dead ++ [AObj.row ty sz els own])[q]? = some o → o.live = true → q ≠ i := by
      rintro q o hq hl rfl
      rw [List.getElem?_append_left (by simpa using hlt), List.getElem?_set_self hlt] at hq
      injection hq with hq; subst hq; cases hl
    have a1 := live j o hj hl
    have a2 := live k o' hk hl'
    have b1 := getElem?_lt hj
    have b2 := getElem?_lt hk
    split at e <;> split at e <;> omega
theorem Ret.move {H : Hp} {K : AV → Hp → Prop} {n i ty sz k : Nat} {els : List (List AC)} {own : Bool} (hi : H[i]? = some (.row ty sz els own)) (hp : pureL els = true) (hn : n ≤ H.length)
    (hk : K (.c (.sl (some (H.length, 0)) k)) (H.set i .dead ++ [.row ty sz els own])) : Ret n (.c (.sl (some (i, 0)) k)) H K :=
  fun hH _ => ⟨_, _, WkL.move hi hp hn hH, hk⟩
theorem asome_i {c : Bool → Prop} {H : Hp} {J : AV → Hp → Prop} (h : ∀ b, c b → J (.c (.bool b)) H) : aSome True c H J := ⟨trivial, h⟩

/-! ### what a call left is taken for something else -/
section
variable {P : Program} {H : Hp} {K K1 : AV → Hp → Prop}
theorem ACalls.post {f : FuncId} {args : List AV} (h : ACalls P f args H K1) (hk : HOk H → ∀ v H', K1 v H' → ∃ v2 H2, WkL H.length [v] H' [v2] H2 ∧ K v2 H2) : ACalls P f args H K := by
  intro B w0 ι w vs hs hr ho
  refine (h B w0 ι w vs hs hr ho).mono fun e w' he => ?_
  obtain ⟨ι2, u, av, H', rfl, k2, k3, k4, k5, k6, k7⟩ := he
  obtain ⟨v2, H2, h1, h2⟩ := hk hs.hok av H' k7
  obtain ⟨ι3, g1, g2, g3, g4, g5⟩ := h1 B w0 ι2 w' [u] k4 ⟨k5, trivial⟩ (by intro x hx; rw [List.mem_singleton] at hx; subst hx; exact k6)
  exact ⟨ι3, u, v2, H2, rfl, k2.trans g1 (Nat.le_refl _), g2, g3, g4.1, g5 v2 (by simp), h2⟩
end
/-- what grew is frozen -/
def AV.lstz (a sz : Nat) (l : List (List AC)) : AV → AV
  | .c (.sl (some (i, 0)) n) => if i = a ∧ n = l.length then .c (.lst sz l) else .c (.sl (some (i, 0)) n)
  | x => x
theorem WkL.frzTail {A : Hp} {n ty sz : Nat} {l : List (List AC)} {v : AV} (hA : HOk A) (hn : n ≤ A.length) (hp : pureL l = true) (ho : (v.frz A.length sz l).ok A.length) :
    WkL n [v] (A ++ [.row ty sz l true]) [v.frz A.length sz l] A := by
  have h1 := WkL.frz (m := n) (vs := [v]) (H := A ++ [.row ty sz l true]) (i := A.length) (ty := ty) (sz := sz) (els := l) (own := true) (by simp) hp (by simp; omega)
  have e : (A ++ [AObj.row ty sz l true]).set A.length (.row ty sz l false) = A ++ [.row ty sz l false] := by simp
  rw [e] at h1
  exact h1.trans (WkL.drop hA hn (by simpa using ho))
theorem WkL.frzCl1 {A : Hp} {n ty sz : Nat} {l : List (List AC)} (hA : HOk A) (hn : n ≤ A.length) (hp : pureL l = true) : WkL n [.c (clV A.length sz l)] (A ++ [grO ty sz l]) [.c (.lst sz l)] A := by
  cases l with
  | nil => exact WkL.drop hA hn (by simp [clV, AV.ok, AV.ok1, AC.ok])
  | cons x xs =>
    have h := WkL.frzTail (n := n) (ty := ty) (sz := sz) (l := x :: xs) (v := .c (.sl (some (A.length, 0)) (x :: xs).length)) hA hn hp (by simp [AV.frz, AV.frz1, AC.frz, AV.ok, AV.ok1, AC.ok])
    simpa [AV.frz, AV.frz1, AC.frz, clV, grO] using h
def tailOk : List AV → Bool
  | [] => true
  | x :: xs => flatV1 x && tailOk xs
theorem tail_frz {i sz : Nat} {l : List (List AC)} : ∀ {ts : List AV}, tailOk ts = true → ts.map (AV.frz1 i sz l) = ts
  | [], _ => rfl
  | x :: xs, h => by
    simp only [tailOk, Bool.and_eq_true] at h
    rw [List.map_cons, tail_frz h.2]
    congr 1
    cases x with
    | c y => cases y <;> first | rfl | (simp [flatV1, flatC] at h)
    | _ => rfl
theorem tail_ok1 : ∀ {ts : List AV} (n : Nat), tailOk ts = true → ∀ x ∈ ts, x.ok1 n
  | [], _, _ => by simp
  | x :: xs, n, h => by
    simp only [tailOk, Bool.and_eq_true] at h
    intro y hy
    rcases List.mem_cons.1 hy with rfl | hy
    · exact flat1_ok h.1 n
    · exact tail_ok1 n h.2 y hy
theorem WkL.frzCl {A : Hp} {n ty sz : Nat} {l : List (List AC)} {ts : List AV} (hA : HOk A) (hn : n ≤ A.length) (hp : pureL l = true) (ht : tailOk ts = true) : WkL n [.tup (.c (clV A.length sz l) :: ts)] (A ++ [grO ty sz l]) [.tup (.c (.lst sz l) :: ts)] A := by
  cases l with
  | nil => exact WkL.drop hA hn (by
      intro x hx
      rw [List.mem_singleton] at hx; subst hx
      intro y hy
      rcases List.mem_cons.1 hy with rfl | hy
      · trivial
      · exact tail_ok1 _ ht y hy)
  | cons x xs =>
    have e : (AV.tup (.c (.sl (some (A.length, 0)) (x :: xs).length) :: ts)).frz A.length sz (x :: xs) = .tup (.c (.lst sz (x :: xs)) :: ts) := by
      simp only [AV.frz, List.map_cons, tail_frz ht]
      simp [AV.frz1, AC.frz]
    have h := WkL.frzTail (n := n) (ty := ty) (sz := sz) (l := x :: xs) (v := .tup (.c (.sl (some (A.length, 0)) (x :: xs).length) :: ts)) hA hn hp (by
      rw [e]
      intro y hy
      rcases List.mem_cons.1 hy with rfl | hy
      · trivial
      · exact tail_ok1 _ ht y hy)
    rw [e] at h
    exact h

section
variable {H A G : Hp} {K : AV → Hp → Prop} {n : Nat} {v v' v1 : AV}
/-- a row that was made is handed back, frozen; all else is left behind -/
theorem Ret.frzAt {ty sz : Nat} {els : List (List AC)} {own : Bool} (j : Nat) (hA : HOk A) (hn : n ≤ A.length) (hk : K v' A) (hj : G[j]? = some (.row ty sz els own)) (hp : pureL els = true) (ho : v'.ok A.length) (e : v.frz (A.length + j) sz els = v') : Ret n v (A ++ G) K := by
  subst e
  refine Ret.frz (i := A.length + j) (ty := ty) (sz := sz) (els := els) (own := own) (by rw [List.getElem?_append_right (by omega)]; simpa using hj) hp (by simp; omega) ?_
  rw [List.set_append_right _ _ (by omega)]
  exact Ret.drop hA hn ho hk
theorem Ret.frzAt2 {ty sz ty2 sz2 : Nat} {els els2 : List (List AC)} {own own2 : Bool} (j j2 : Nat) (hA : HOk A) (hn : n ≤ A.length) (hk : K v' A) (hj : G[j]? = some (.row ty sz els own)) (hj2 : G[j2]? = some (.row ty2 sz2 els2 own2)) (hne : j ≠ j2) (hp : pureL els = true) (hp2 : pureL els2 = true) (ho : v'.ok A.length) (e : (v.frz (A.length + j) sz els).frz (A.length + j2) sz2 els2 = v') : Ret n v (A ++ G) K := by
  refine Ret.frz (i := A.length + j) (ty := ty) (sz := sz) (els := els) (own := own) (by rw [List.getElem?_append_right (by omega)]; simpa using hj) hp (by simp; omega) ?_
  rw [List.set_append_right _ _ (by omega)]
  exact Ret.frzAt j2 hA hn hk (by rw [Nat.add_sub_cancel_left, List.getElem?_set_ne hne]; exact hj2) hp2 ho e
end

/-- the first objects behind H stay, the others are left behind -/
theorem WkL.keep {H L L' : Hp} {m : Nat} {vs vs' : List AV} (k : Nat) (hH : HOk H) (hL : L.take k = L') (hm : m ≤ H.length + k) (hk : k ≤ L.length) (e : vs = vs') (ho : ∀ o ∈ L', o.okN (H.length + k)) (hv : ∀ x ∈ vs', x.ok (H.length + k)) : WkL m vs (H ++ L) vs' (H ++ L') := by
  subst hL e
  have hl : (H ++ L.take k).length = H.length + k := by rw [List.length_append, List.length_take]; omega
  have hA : HOk (H ++ L.take k) := by
    intro i q hq
    rw [hl]
    rcases Nat.lt_or_ge i H.length with h | h
    · rw [List.getElem?_append_left h] at hq; exact AObj.okN_mono (by omega) (hH i q hq)
    · rw [List.getElem?_append_right h] at hq; exact ho q (List.mem_of_getElem? hq)
  have := WkL.drop (m := m) (G := L.drop k) hA (by rw [hl]; exact hm) (vs := vs) (by rw [hl]; exact hv)
  rwa [List.append_assoc, List.take_append_drop] at this
theorem WkL.keepL {H L L' : Hp} {m : Nat} {vs vs' : List AV} (hH : HOk H) (hL : L.take L'.length = L') (hm : m ≤ H.length + L'.length) (e : vs = vs') (ho : ∀ o ∈ L', o.okN (H.length + L'.length)) (hv : ∀ x ∈ vs', x.ok (H.length + L'.length)) : WkL m vs (H ++ L) vs' (H ++ L') :=
  WkL.keep L'.length hH hL hm (by have := congrArg List.length hL; rw [List.length_take] at this; omega) e ho hv
theorem okN_map {α : Type} {enc : α → List AC} {ty sz : Nat} {l : List α} {own : Bool} {n : Nat} (h : ∀ x, (enc x).length = sz ∧ (enc x).all AC.pure = true) : (AObj.row ty sz (l.map enc) own).okN n := by
  intro e he
  obtain ⟨x, _, rfl⟩ := List.mem_map.1 he
  exact ⟨(h x).1, fun y hy => AC.ok_of_pure (List.all_eq_true.1 (h x).2 y hy) n⟩
theorem okN_grO {α : Type} {enc : α → List AC} {ty sz : Nat} {l : List α} {n : Nat} (h : ∀ x, (enc x).length = sz ∧ (enc x).all AC.pure = true) : (grO ty sz (l.map enc)).okN n := by
  cases l with
  | nil => trivial
  | cons x xs => exact okN_map (l := x :: xs) h
theorem pureL_map {α : Type} {enc : α → List AC} (l : List α) (h : ∀ x, (enc x).all AC.pure = true) : pureL (l.map enc) = true := by
  simp only [pureL, List.all_map]
  exact List.all_eq_true.2 fun x _ => h x
end Go.Proofs.YtkmkkjlfnobciaaGreatDoor
