/- Rows that grow: short rules. No condition. -/
import Derived.Test.YtkmkkjlfnobciaaGreatDoorVStream
namespace Go.Proofs.YtkmkkjlfnobciaaGreatDoor
open Go Go.RowKit
set_option maxRecDepth 100000
set_option linter.all false
set_option maxHeartbeats 1000000
theorem grV_ren (σ : Nat → Nat) (i : Nat) {α : Type} (l : List α) : (grV i l).ren σ = grV (σ i) l := by cases l <;> rfl
theorem av_ren_gr (σ : Nat → Nat) (i : Nat) {α : Type} (l : List α) : (AV.c (grV i l)).ren σ = .c (grV (σ i) l) := congrArg AV.c (grV_ren σ i l)
theorem av_ren1_gr (σ : Nat → Nat) (i : Nat) {α : Type} (l : List α) : (AV.c (grV i l)).ren1 σ = .c (grV (σ i) l) := congrArg AV.c (grV_ren σ i l)
theorem grV_ok {n i : Nat} (h : i < n) {α : Type} (l : List α) : (grV i l).ok n := by
  cases l with
  | nil => trivial
  | cons x xs => exact h
theorem pureO_gr {e sz : Nat} {l : List (List AC)} (h : pureL l = true) : (grO e sz l).pureO = true := by
  cases l with
  | nil => rfl
  | cons x xs => exact h
theorem map_grV {α β : Type} (enc : α → β) (i : Nat) (l : List α) : grV i (l.map enc) = grV i l := by cases l <;> simp [grV]
theorem WkL.pickAt {A G L : Hp} {m : Nat} {vs vs' : List AV} (P : Hp) (ids : List Nat) (hA : HOk A) (hP : ∀ o ∈ P, o.okN (A.length + P.length)) (hm : m ≤ A.length + P.length) (hL : ids.map (fun j => G[j]?) = L.map some) (hd : ids.Nodup) (hp : L.all AObj.pureO = true)
    (hv : vs = vs'.map (AV.ren (pickS (A.length + P.length) ids))) (ho : ∀ x ∈ vs', x.ok (A.length + P.length + L.length)) : WkL m vs (A ++ (P ++ G)) vs' (A ++ (P ++ L)) := by
  have hAP : HOk (A ++ P) := by
    intro i q hq
    rw [List.length_append]
    rcases Nat.lt_or_ge i A.length with h | h
    · rw [List.getElem?_append_left h] at hq; exact AObj.okN_mono (by omega) (hA i q hq)
    · rw [List.getElem?_append_right h] at hq; exact hP q (List.mem_of_getElem? hq)
  rw [← List.append_assoc, ← List.append_assoc]
  exact WkL.pick ids hAP (by rw [List.length_append]; exact hm) hL hd hp (by rw [List.length_append]; exact hv) (by rw [List.length_append]; exact ho)
theorem WkL.padP {A : Hp} {m : Nat} {vs : List AV} (P : Hp) (hm : m ≤ A.length + P.length) : WkL m vs (A ++ P) vs (A ++ (P ++ [.dead])) := by
  rw [← List.append_assoc]
  exact WkL.pad (by rw [List.length_append]; exact hm)
section
variable (P : Program) (H : Hp) (J : AV → Hp → Prop)
@[go_sem] theorem blt_lenG (t i : Nat) {α : Type} (l : List α) : aBuiltin P .len #[t] [.c (grV i l)] H J = aIf ((elemT P t).isSome = true) (.c (.int .i64 l.length)) H J := by cases l <;> rfl
@[go_sem] theorem aix_gr (i s : Nat) {α : Type} (l : List α) (kd : IntKind) (q : Int) (i1 : Bool) (h : 0 ≤ q ∧ q < l.length) : aIx (.c (grV i l)) (.c (.int kd q)) (some s) i1 H J = aIx2 H[i]? i 0 l.length q s i1 H J := by
  cases l with
  | nil => simp at h; omega
  | cons x xs => rfl
@[go_sem] theorem aix2_gr (ty sz i k n s : Nat) (els : List (List AC)) (q : Int) (h : 0 < els.length) : aIx2 (some (grO ty sz els)) i k n q s true H J = aIf (s = sz ∧ 0 ≤ q ∧ q < n) (.c (.ptr (some (i, k + q.toNat, 0)))) H J := by
  cases els with
  | nil => simp at h
  | cons x xs => simp [aIx2, grO]
@[go_sem] theorem elOf_gr (ty sz k : Nat) (els : List (List AC)) : elOf (some (grO ty sz els)) k = els[k]? := by
  cases els <;> simp [elOf, grO]
@[go_sem] theorem ast2_gr (ty sz i k j szt : Nat) (cs : List AC) (els : List (List AC)) (i1 : Bool) (h : 0 < els.length) : aSt2 (some (grO ty sz els)) i k j cs i1 szt H J = aSt3 els[k]? ty sz els i k j cs i1 szt H J := by
  cases els with
  | nil => simp at h
  | cons x xs => rfl
end
section
variable {P : Program} {H A G : Hp} {K J : AV → Hp → Prop} {n : Nat}
/-- one element more -/
theorem app_gr {α : Type} {t i j k e sz bs m : Nat} {enc : α → List AC} {z : List AC} (l : List α) (x : α) (he : elemT P t = some e) (hz : zeroT P e = some z) (hsz : szT P e = sz) (hbs : P.bytesOf e = bs) (hi : H[i]? = some (grO e sz (l.map enc))) (hx : srcO H[j]? sz k 1 = some [enc x]) (hzl : z.length = sz) (hs : 0 < sz)
    (hb : (l.length + 1) * bs ≤ 140737488355328) (hn : l.length + 1 ≤ 9223372036854775807) (hm : m = 1)
    (h : J (.c (grV H.length (l ++ [x]))) (H.set i .dead ++ [grO e sz ((l ++ [x]).map enc)])) : aBuiltin P .append #[t, t] [.c (grV i l), .c (.sl (some (j, k)) m)] H J := by
  subst hsz; subst hbs; subst hm
  have key : ∀ (r : Option (Nat × Nat)) (n : Nat), grV i (l.map enc) = .sl r n → aBuiltin P .append #[t, t] [.c (.sl r n), .c (.sl (some (j, k)) 1)] H J := by
    intro r n hr
    refine app_sl ?_
    rw [he]
    simp only [Option.bind_some, Option.elim_some, hz, hx]
    refine ⟨trivial, hzl, ?_⟩
    refine appL_gr hi hs (by simpa using hb) (by simpa using hn) ?_ r n hr
    have e1 : grV H.length (l ++ [x]) = .sl (some (H.length, 0)) ((l.map enc).length + 1) := by rw [grV_snoc]; simp
    have e2 : grO e (szT P e) ((l ++ [x]).map enc) = .row e (szT P e) (l.map enc ++ [enc x]) true := by simp [grO_snoc]
    rw [e1, e2] at h
    exact h
  rw [← map_grV enc i l]
  cases h0 : l.map enc with
  | nil => rw [h0] at key; exact key _ _ rfl
  | cons y ys => rw [h0] at key; exact key _ _ rfl
/-- what grew is handed back, frozen -/
theorem Ret.frzGr {ty sz : Nat} {l : List (List AC)} {x : AC} (j : Nat) (hA : HOk A) (hn : n ≤ A.length) (hj : G[j]? = some (grO ty sz l)) (hp : pureL l = true) (hx : x = grV (A.length + j) l) (hk : K (.c (.lst sz l)) A) : Ret n (.c x) (A ++ G) K := by
  subst hx
  cases l with
  | nil => exact Ret.nil [sz] (by simp; omega) (Ret.drop hA hn (by simp [grV, AV.nilz, AC.nilz, AV.ok, AV.ok1, AC.ok]) hk)
  | cons y ys => exact Ret.frzAt j hA hn hk hj hp (by simp [AV.ok, AV.ok1, AC.ok]) (by simp [AV.frz, AV.frz1, AC.frz, grV])
theorem Ret.frzRow {ty sz m : Nat} {l : List (List AC)} {own : Bool} {i : Nat} (j : Nat) (hA : HOk A) (hn : n ≤ A.length) (hj : G[j]? = some (.row ty sz l own)) (hp : pureL l = true) (hi : i = A.length + j) (hm : m = l.length) (hk : K (.c (.lst sz l)) A) : Ret n (.c (.sl (some (i, 0)) m)) (A ++ G) K := by
  subst hi; subst hm
  exact Ret.frzAt j hA hn hk hj hp (by simp [AV.ok, AV.ok1, AC.ok]) (by simp [AV.frz, AV.frz1, AC.frz])
theorem Ret.frzGrT {ty sz : Nat} {l : List (List AC)} {x : AC} {ts : List AV} (j : Nat) (hA : HOk A) (hn : n ≤ A.length) (hj : G[j]? = some (grO ty sz l)) (hp : pureL l = true) (ht : tailOk ts = true) (hx : x = grV (A.length + j) l) (hk : K (.tup (.c (.lst sz l) :: ts)) A) : Ret n (.tup (.c x :: ts)) (A ++ G) K := by
  subst hx
  have ho : (AV.tup (.c (.lst sz l) :: ts)).ok A.length := by
    intro y hy
    rcases List.mem_cons.1 hy with rfl | hy
    · trivial
    · exact tail_ok1 _ ht y hy
  cases l with
  | nil =>
    refine Ret.nil [sz] (by simp; omega) ?_
    have e : (AV.tup (.c (grV (A.length + j) ([] : List (List AC))) :: ts)).nilz [sz] = .tup (.c (.lst sz []) :: ts) := by
      simp [AV.nilz, AV.nilz.go, grV, AC.nilz]
    rw [e]
    exact Ret.drop hA hn ho hk
  | cons y ys =>
    refine Ret.frzAt j hA hn hk hj hp ho ?_
    simp only [AV.frz, List.map_cons, tail_frz ht]
    simp [AV.frz1, AC.frz, grV]
/-- nothing is handed back for a list -/
theorem Ret.nilT {sz : Nat} {ts : List AV} (hA : HOk A) (hn : n ≤ A.length) (ht : tailOk ts = true) (hk : K (.tup (.c (.lst sz []) :: ts)) A) : Ret n (.tup (.c (.sl none 0) :: ts)) (A ++ G) K := by
  refine Ret.nil [sz] (by simp; omega) ?_
  have e : (AV.tup (.c (.sl none 0) :: ts)).nilz [sz] = .tup (.c (.lst sz []) :: ts) := by simp [AV.nilz, AV.nilz.go, AC.nilz]
  rw [e]
  refine Ret.drop hA hn ?_ hk
  intro y hy
  rcases List.mem_cons.1 hy with rfl | hy
  · trivial
  · exact tail_ok1 _ ht y hy
/-- an empty slice handed on is read as one -/
theorem ACalls.nilz {P : Program} {f : FuncId} {args : List AV} {H : Hp} {K : AV → Hp → Prop} (szs : List Nat) (hs : szs ≠ []) (h : ACalls P f (AV.nilz.go szs args) H K) : ACalls P f args H K := by
  intro B w0 ι w vs hm hr ho
  have e : (AV.tup args).nilz szs = .tup (AV.nilz.go szs args) := by cases szs with | nil => exact absurd rfl hs | cons _ _ => rfl
  obtain ⟨h1, h2⟩ := AV.nilz_rel (n := H.length) (x := .tup args) (v := .tuple vs.toList.toArray) szs ⟨_, rfl, hr⟩ ho
  rw [e] at h1 h2
  obtain ⟨us, h3, h4⟩ := h1
  injection h3 with h3
  have h5 : vs.toList = us := by have := congrArg Array.toList h3; simpa using this
  subst h5
  exact h B w0 ι w vs hm h4 h2
theorem set_same {H : Hp} {i : Nat} {o : AObj} (hi : H[i]? = some o) : H.set i o = H := by
  have hlt := getElem?_lt hi
  apply List.ext_getElem?
  intro j
  by_cases e : i = j
  · subst e; rw [List.getElem?_set_self hlt, hi]
  · rw [List.getElem?_set_ne e]
/-- what grew is handed on, and then forgotten -/
theorem ACalls.litGr {P : Program} {f : FuncId} {rest : List AV} {H : Hp} {K : AV → Hp → Prop} {i ty sz : Nat} {α : Type} {l : List α} {els : List (List AC)} (hi : H[i]? = some (grO ty sz els)) (hl : l.length = els.length) (hp : pureL els = true) (hr : rest.map (AV.frz1 i sz els) = rest)
    (h : ACalls P f (.c (.lst sz els) :: rest) (H.set i .dead) K) : ACalls P f (.c (grV i l) :: rest) H K := by
  cases els with
  | nil =>
    have h0 : l = [] := List.length_eq_zero_iff.1 hl
    subst h0
    rw [set_same (o := .dead) hi] at h
    refine ACalls.nilz [sz] (by simp) ?_
    exact h
  | cons y ys =>
    have h0 : l ≠ [] := by rintro rfl; simp at hl
    rw [grV_pos _ h0]
    refine ACalls.lit (i := i) (ty := ty) (sz := sz) (els := y :: ys) (own := true) hi hp (args' := .c (.lst sz (y :: ys)) :: rest) ?_ h
    rw [List.map_cons, hr]
    simp [AV.frz1, AC.frz, hl]
/-- what a call left is turned as at an end -/
theorem ACalls.postR {P : Program} {f : FuncId} {args : List AV} {H : Hp} {K K1 : AV → Hp → Prop} (h : ACalls P f args H K1) (hk : HOk H → ∀ v H', K1 v H' → Ret H.length v H' K) : ACalls P f args H K := by
  intro B w0 ι w vs hs hr ho
  refine (h B w0 ι w vs hs hr ho).mono fun e w' he => ?_
  obtain ⟨ι2, u, av, H', rfl, k2, k3, k4, k5, k6, k7⟩ := he
  obtain ⟨v2, H2, h1, h2⟩ := hk hs.hok av H' k7 k4.hok k6
  obtain ⟨ι3, g1, g2, g3, g4, g5⟩ := h1 B w0 ι2 w' [u] k4 ⟨k5, trivial⟩ (by intro x hx; rw [List.mem_singleton] at hx; subst hx; exact k6)
  exact ⟨ι3, u, v2, H2, rfl, k2.trans g1 (Nat.le_refl _), g2, g3, g4.1, g5 v2 (by simp), h2⟩
theorem Ret.nilS {sz : Nat} {ts : List AV} (hn : n ≤ A.length) (ht : tailOk ts = true) (hk : K (.tup (.c (.lst sz []) :: ts)) A) : Ret n (.tup (.c (.sl none 0) :: ts)) A K := by
  refine Ret.nil [sz] hn ?_
  have e : (AV.tup (.c (.sl none 0) :: ts)).nilz [sz] = .tup (.c (.lst sz []) :: ts) := by simp [AV.nilz, AV.nilz.go, AC.nilz]
  rw [e]
  exact Ret.same hn hk
end
/-- a reader is lent what grew -/
theorem ACalls.lendGr {P : Program} {f : FuncId} {rest : List AV} {H : Hp} {K : AV → Hp → Prop} {i ty sz : Nat} {l : List (List AC)} (v : AV) (hi : H[i]? = some (grO ty sz l)) (hp : pureL l = true) (hv : flatV v = true) (hr : rest.map (AV.frz1 i sz l) = rest) (hz : AV.nilz.go [sz] (.c (.sl none 0) :: rest) = .c (.lst sz []) :: rest)
    (hn : ∀ x ∈ rest, x.ok1 0) (h : ∀ (G : Hp) (J : AV → Hp → Prop), J v G → ACalls P f (.c (.lst sz l) :: rest) G J) (hk : K v H) : ACalls P f (.c (grV i l) :: rest) H K := by
  cases l with
  | nil =>
    refine ACalls.nilz [sz] (by simp) ?_
    show ACalls P f (AV.nilz.go [sz] (.c (.sl none 0) :: rest)) H K
    rw [hz]
    exact h H K hk
  | cons y ys =>
    refine ACalls.lend v hi hp hv ?_ ?_ hk
    · rw [List.map_cons, hr]
      intro x hx
      rcases List.mem_cons.1 hx with rfl | hx
      · simp [grV, AV.frz1, AC.frz, AV.ok1, AC.ok]
      · exact hn x hx
    · rw [List.map_cons, hr]
      simp [grV, AV.frz1, AC.frz]
      exact h [] _ rfl
end Go.Proofs.YtkmkkjlfnobciaaGreatDoor
