/- Several texts in one: The program's parser: a sign that must be there, what is behind a minus, a shift, what is between brackets, and what follows. No condition. -/
import Derived.Test.YtagoolooikpabaaGreatDoorHVPrsA
set_option linter.all false
namespace Go.Proofs.YtagoolooikpabaaGreatDoor
open Go Go.RowKit
set_option maxRecDepth 100000
set_option maxHeartbeats 2000000
variable {H : Hp} {K : AV → Hp → Prop}
theorem takeP_ok {i : Nat} {l : List UInt8} {t : Tok} {T : List Tok} {d dp : Int} (c : UInt8) (s : ByteArray) (hs : s = tB [c]) (hl : l.length ≤ 1000) (hT : Tl l (t :: T)) (hc : (sgT t [c]).isSome = true) (hi : H[i]? = some (psO l (t :: T) d dp)) (hk : K (.tup []) (H.set i (psO l T d (deepF d dp t)))) : ACalls Tryz.prog 308 [.c (.ptr (some (i, 0, 0))), (.c (.str s))] H K := by
 have hil := getElem?_lt hi
 have hi' := hi
 have hk3 := sgT_is hc
 rw [psO_cons] at hi
 unfold psJ at hi
 refine acalls Tryz.func308 rfl (by kernel_rfl) (by simp (disch := first | omega | (simp only [go_sem]; try omega)) only [go_sem]) (fun hH => ?_)
 simp (disch := first | omega | (simp only [go_sem]; try omega)) only [go_sem, hi]
 refine isT_a c s hs hT.ok hi' ?_
 rw [hc]
 simp (disch := first | omega | (simp only [go_sem]; try omega)) only [go_sem]
 refine nextP_a hl hT (by omega) hi' ?_
 simp (disch := first | omega | (simp only [go_sem]; try omega)) only [go_sem]
 exact Ret.same (by simp) hk
theorem takeP_no {i : Nat} {l : List UInt8} {t : Tok} {T : List Tok} {d dp : Int} (c : UInt8) (s : ByteArray) (hs : s = tB [c]) (hT : tkOk l t) (hc : (sgT t [c]).isSome = false) (hi : H[i]? = some (psO l (t :: T) d dp)) (hk : K (.tup []) (H.set i (psJ l (prK t) t.o (tB t.x) d dp t.o))) : ACalls Tryz.prog 308 [.c (.ptr (some (i, 0, 0))), (.c (.str s))] H K := by
 have hil := getElem?_lt hi
 have hi' := hi
 rw [psO_cons] at hi
 unfold psJ at hi
 refine acalls Tryz.func308 rfl (by kernel_rfl) (by simp (disch := first | omega | (simp only [go_sem]; try omega)) only [go_sem]) (fun hH => ?_)
 simp (disch := first | omega | (simp only [go_sem]; try omega)) only [go_sem, hi]
 refine isT_a c s hs hT hi' ?_
 rw [hc]
 simp (disch := first | omega | (simp only [go_sem]; try omega)) only [go_sem]
 refine failP_a (by rw [psO_cons] at hi'; exact hi') ?_
 rw [if_pos (by decide)]
 simp (disch := first | omega | (simp only [go_sem]; try omega)) only [go_sem]
 exact Ret.same (by simp) hk
theorem takeP_bad {i : Nat} {l : List UInt8} {k a d dp : Int} {x : ByteArray} {e : Nat} (s : ByteArray) (hi : H[i]? = some (psJ l k a x d dp e)) (hk : K (.tup []) H) : ACalls Tryz.prog 308 [.c (.ptr (some (i, 0, 0))), (.c (.str s))] H K := by
 have hil := getElem?_lt hi
 have hi' := hi
 unfold psJ at hi
 refine acalls Tryz.func308 rfl (by kernel_rfl) (by simp (disch := first | omega | (simp only [go_sem]; try omega)) only [go_sem]) (fun hH => ?_)
 simp (disch := first | omega | (simp only [go_sem]; try omega)) only [go_sem, hi]
 refine failP_a hi' ?_
 rw [if_neg (by omega), set_same hi']
 simp (disch := first | omega | (simp only [go_sem]; try omega)) only [go_sem]
 exact Ret.same (Nat.le_refl _) hk
theorem Ret.un {A : Hp} {m n : Nat} {ty1 ty2 : Nat} {s : ByteArray} {x : List AC} {o1 o2 : Bool} (hA : HOk A) (hm : m = A.length) (hn : n = A.length) (hk : K (.c (.fp [.str s, .int .i64 0, .str ⟨#[]⟩, .lst 1 [[.fp x]], .bool false])) A) : Ret m (.c (.ptr (some (n + 1, 0, 0)))) (A ++ [.row ty1 1 [[.fp x]] o1, .row ty2 5 [[.str s, .int .i64 0, .str ⟨#[]⟩, .sl (some (n, 0)) 1, .bool false]] o2]) K := by
 subst hn
 refine Ret.node (els := [[.fp x]]) (cs' := [.str s, .int .i64 0, .str ⟨#[]⟩, .lst 1 [[.fp x]], .bool false]) 0 1 hA (by omega) rfl rfl rfl (by decide) ?_ rfl ?_ ?_ hk
 ·simp [AC.frzX]
 ·simp [AV.frzX, AV.frzX1, AC.frzX]
 ·trivial
theorem psO_ok {l : List UInt8} {T : List Tok} {d dp : Int} (n : Nat) : (psO l T d dp).okN n := psJ_ok n
theorem minusP_a {l : List UInt8} (hl : l.length ≤ 1000) {n : Nat} {d : Int} (hd : 0 ≤ d ∧ d ≤ 100000) {rd : List Tok → Int → PR Ex} (hrd : RdC 275 l n (d + 1) rd) {i : Nat} {t : Tok} {T : List Tok} {dp : Int} (hT : Tl l (t :: T)) (hn : T.length ≤ n) (hc : t.k = 3) (hi : H[i]? = some (psO l (t :: T) d dp))
  (hk1 : ∀ x T' dp', rd T (deepF d dp t) = .ok (x, T', dp') → K (.c (.fp (encNd (.neg x)))) (H.set i (psO l T' d dp')))
  (hk2 : ∀ (e : Nat) (k a : Int) (s : ByteArray) (d' dp' : Int) (cs : List AC), rd T (deepF d dp t) = .error e → K (.c (.fp cs)) (H.set i (psJ l k a s d' dp' e))) : ACalls Tryz.prog 293 [.c (.ptr (some (i, 0, 0)))] H K := by
 have hil := getElem?_lt hi
 have hTt : Tl l T := (hT.next (by omega)).1
 obtain ⟨u, T2, hu, _⟩ := hTt.head
 have hw1 : IntKind.i64.wrap (d + 1) = d + 1 := by rw [IntKind.wrap_i64]; omega
 have hw2 : IntKind.i64.wrap (d + 1 - 1) = d := by rw [IntKind.wrap_i64]; omega
 refine acalls Tryz.func293 rfl (by kernel_rfl) (by simp (disch := first | omega | (simp only [go_sem]; try omega)) only [go_sem]) (fun hH => ?_)
 simp (disch := first | omega | (simp only [go_sem]; try omega)) only [go_sem]
 refine nextP_a hl hT (by omega) hi ?_
 rw [hu, psO_cons]
 unfold psJ
 simp (disch := first | omega | (simp only [go_sem]; try omega)) only [go_sem, hw1]
 refine hrd i _ _ T (deepF d dp t) (by rw [List.getElem?_set_self (by simpa using hil), hu]; rfl) hTt hn (fun x T' dp' h1 => ?_) (fun e k a s d' dp' cs h1 => ?_)
 ·have hk := hk1 x T' dp' h1
  unfold psO psJ at hk ⊢
  simp (disch := first | omega | (simp only [go_sem]; try omega)) only [go_sem, hw2]
  exact Ret.un (HOk.psJ hH) (by simp) (by simp) hk
 ·have hk := hk2 e k a s (IntKind.i64.wrap (d' - 1)) dp' [.str ⟨#[109, 105, 110, 117, 115]⟩, .int .i64 0, .str ⟨#[]⟩, .lst 1 [[.fp cs]], .bool false] h1
  unfold psJ at hk ⊢
  simp (disch := first | omega | (simp only [go_sem]; try omega)) only [go_sem]
  exact Ret.un (HOk.psJ hH) (by simp) (by simp) hk
theorem num_atoi {x : List UInt8} {v : Int} (h : numF x 9 = some v) : Lib.atoi x = some v := by
 rw [numF_eq] at h
 split at h
 ·cases h
 ·split at h
  ·cases h
  ·split at h
   ·exact h
   ·cases h
theorem prK_1 {t : Tok} (hk : t.k = 1) (hd : ∀ c ∈ t.x, isDg c = true) (hx : t.x ≠ []) : prK t = if (numF t.x 9).isSome = true then 1 else 4 := by
 have hb := digs_all hd
 have hh : t.x.head? ≠ some 45 := (dig_head hb).1
 have hs := strip_pos hh
 unfold prK
 rw [if_pos hk]
 by_cases h9 : 9 < t.x.length
 ·have e : numF t.x 9 = none := by rw [numF_eq, hs, if_pos (.inr h9)]
  rw [if_pos (.inl h9), e]; rfl
 ·by_cases h0 : 1 < t.x.length ∧ t.x.head? = some 48
  ·have e : numF t.x 9 = none := by rw [numF_eq, hs, if_neg (fun h => h.elim hx h9), if_pos ⟨h0.2, .inl h0.1⟩]
   rw [if_pos (.inr h0), e]; rfl
  ·obtain ⟨u, g1, g2⟩ := atoi_dig (l := t.x) (by rw [hs]; exact hb) (by rw [hs]; exact hx)
   have e : numF t.x 9 = some (if t.x.head? = some 45 then -(u : Int) else u) := by rw [numF_eq, hs, if_neg (fun h => h.elim hx h9), if_neg (fun h => h0 ⟨h.2.resolve_right (by omega), h.1⟩), if_pos hb]; exact g2
   rw [if_neg (fun h => h.elim h9 h0), e]; rfl
theorem prK_k {l : List UInt8} {t : Tok} (h : tkOk l t) : (prK t = 1 ↔ t.k = 1 ∧ (numF t.x 9).isSome = true) ∧ (prK t = 2 ↔ t.k = 2 ∧ t.x.length ≤ 40) ∧ (prK t = 3 ↔ t.k = 3) ∧ (prK t = 0 ↔ t.k = 0) := by
 rcases h.2.2 with h | h | h | h | h
 ·unfold prK; rw [h.1]; simp
 ·have h1 := prK_1 h.1 h.2.2 h.2.1
  rw [h1, h.1]
  split <;> simp_all
 ·unfold prK; rw [h.1, if_neg (show ¬ (2 : Nat) = 1 by decide), if_pos rfl]
  split
  ·rename_i h2
   simp
   omega
  ·rename_i h2
   simp
   omega
 ·unfold prK; rw [h.1]; simp
 ·unfold prK; rw [h.1]; simp
theorem atoiTok_a (x : List UInt8) (hx : x.length ≤ 1000) (hk : ∀ (v : Int) (e : AC), (∀ n, numF x 9 = some n → v = n) → (e = .nili ∨ e = .ifc) → K (.tup [(.c (.int .i64 v)), .c e]) H) : ACalls Tryz.prog 294 [(.c (.str (tB x)))] H K := by
 by_cases hs : ∃ n, numF x 9 = some n
 ·obtain ⟨n, hn⟩ := hs
  have hlen : x.length ≤ 10 := by
   rw [numF_eq] at hn
   have := (strip_le x).2
   split at hn
   ·cases hn
   ·rename_i h; omega
  exact atoi_a (tB x) n (by rw [tB_size]; omega) (by rw [show (tB x).data.toList = x from tL_tB x]; exact num_atoi hn) (hk n .nili (fun m hm => by rw [hn] at hm; exact Option.some.inj hm) (.inl rfl))
 ·have hno : ∀ v n, numF x 9 = some n → v = n := fun v n hn => absurd ⟨n, hn⟩ hs
  exact atoiAny_a (tB x) (by rw [tB_size]; omega) (fun v _ => hk v .nili (hno v) (.inl rfl)) (fun _ v => hk v .ifc (hno v) (.inr rfl))
theorem shiftedP_a {l : List UInt8} (hl : l.length ≤ 1000) {d dp : Int} (x : List UInt8) {i j : Nat} (hij : i ≠ j) {T : List Tok} (hT : Tl l T) (hi : H[i]? = some (psO l T d dp)) (hj : H[j]? = some (.row 233 5 [[.str ⟨#[116, 97, 103]⟩, .int .i64 0, .str (tB x), .sl none 0, .bool false]] true))
  (hk1 : ∀ y T' dp', shfF x d T dp = .ok (y, T', dp') → K (.c (.ptr (some (j, 0, 0)))) ((H.set i (psO l T' d dp')).set j (.row 233 5 [encNd y] true)))
  (hk2 : ∀ (e : Nat) (k a : Int) (s : ByteArray) (d' dp' : Int) (cs : List AC), shfF x d T dp = .error e → K (.c (.fp cs)) (H.set i (psJ l k a s d' dp' e))) : ACalls Tryz.prog 296 [.c (.ptr (some (i, 0, 0))), .c (.ptr (some (j, 0, 0)))] H K := by
 have hil := getElem?_lt hi
 have hjl := getElem?_lt hj
 have hjg : H[j] = .row 233 5 [[.str ⟨#[116, 97, 103]⟩, .int .i64 0, .str (tB x), .sl none 0, .bool false]] true := by
  rw [List.getElem?_eq_getElem hjl] at hj
  exact Option.some.inj hj
 obtain ⟨u, T2, rfl, hu, _⟩ := hT.head
 unfold shfF at hk1 hk2
 dsimp only at hk1 hk2
 refine acalls Tryz.func296 rfl (by kernel_rfl) (by simp (disch := first | omega | (simp only [go_sem]; try omega)) only [go_sem]) (fun hH => ?_)
 simp (disch := first | omega | (simp only [go_sem]; try omega)) only [go_sem]
 refine isT_a 64 _ rfl hu hi ?_
 by_cases hsg : (sgT u [64]).isSome = true
 ·rw [if_pos hsg] at hk1 hk2
  rw [hsg]
  have hk3 := sgT_is hsg
  have hT2 := (hT.next (by omega)).1
  obtain ⟨v, T3, rfl, hv, _⟩ := hT2.head
  dsimp only at hk1 hk2
  simp (disch := first | omega | (simp only [go_sem]; try omega)) only [go_sem]
  refine nextP_a hl hT (by omega) hi ?_
  rw [psO_cons]
  unfold psJ
  have hvx : v.x.length ≤ 1000 := by have := hv.1; omega
  simp (disch := first | omega | (simp only [go_sem]; try omega)) only [go_sem]
  refine atoiTok_a v.x hvx (fun n e hn he => ?_)
  have hkind := prK_k hv
  by_cases h1 : prK v = 1
  ·obtain ⟨h2, h3⟩ := hkind.1.1 h1
   obtain ⟨q, hq⟩ := Option.isSome_iff_exists.1 h3
   have hnq := hn q hq
   subst hnq
   rw [if_pos h2, hq] at hk1 hk2
   dsimp only at hk1 hk2
   by_cases h4 : n ≤ 86400000
   ·rw [if_pos h4] at hk1
    have hk := hk1 _ _ _ rfl
    have h4' : ¬ 86400000 < n := by omega
    have hT3 := (hT2.next (by omega)).1
    obtain ⟨w, T4, rfl, hw, _⟩ := hT3.head
    simp (disch := first | omega | (simp only [go_sem]; try omega)) only [go_sem, h1, h4', hjg]
    refine nextP_a (t := v) (T := w :: T4) (d := d) (dp := deepF d dp u) hl hT2 (by omega) (by rw [List.getElem?_set_ne (Ne.symm hij), List.getElem?_set_self hil, psO_cons, h1]; rfl) ?_
    simp (disch := first | omega | (simp only [go_sem]; try omega)) only [go_sem]
    rw [show ∀ A B C : AObj, ((H.set i A).set j B).set i C = (H.set i C).set j B from fun A B C => by rw [List.set_comm _ _ hij, List.set_set, List.set_comm _ _ (Ne.symm hij)]]
    exact Ret.same (by simp) hk
   ·rw [if_neg h4] at hk2
    have h4' : 86400000 < n := by omega
    have hk := hk2 v.o (prK v) v.o (tB v.x) d (deepF d dp u) ndE0 rfl
    rw [h1] at hk
    simp (disch := first | omega | (simp only [go_sem]; try omega)) only [go_sem, h1, h4']
    refine failP_a (l := l) (k := 1) (a := v.o) (x := tB v.x) (d := d) (dp := deepF d dp u) (bad := -1) (List.getElem?_set_self hil) ?_
    rw [if_pos (by decide)]
    simp (disch := first | omega | (simp only [go_sem]; try omega)) only [go_sem]
    exact Ret.same (by simp) hk
  ·have hno : ¬ (v.k = 1 ∧ (numF v.x 9).isSome = true) := fun h => h1 (hkind.1.2 h)
   have hk : K (.c (.fp ndE0)) (H.set i (psJ l (prK v) v.o (tB v.x) d (deepF d dp u) v.o)) := by
    refine hk2 v.o (prK v) v.o (tB v.x) d (deepF d dp u) ndE0 ?_
    by_cases h2 : v.k = 1
    ·rw [if_pos h2]
     cases hq : numF v.x 9 with
     | none => rfl
     | some q => exact absurd ⟨h2, by rw [hq]; rfl⟩ hno
    ·rw [if_neg h2]
   simp (disch := first | omega | (simp only [go_sem]; try omega)) only [go_sem, h1]
   refine failP_a (l := l) (k := prK v) (a := v.o) (x := tB v.x) (d := d) (dp := deepF d dp u) (bad := -1) (List.getElem?_set_self hil) ?_
   rw [if_pos (by decide)]
   simp (disch := first | omega | (simp only [go_sem]; try omega)) only [go_sem]
   exact Ret.same (by simp) hk
 ·rw [if_neg hsg] at hk1 hk2
  have hsg' : (sgT u [64]).isSome = false := by simpa using hsg
  have hk := hk1 _ _ _ rfl
  rw [set_same hi] at hk
  have hjg2 : H.set j (.row 233 5 [encNd (.tag x none)] true) = H := set_same hj
  rw [hjg2] at hk
  rw [hsg']
  simp (disch := first | omega | (simp only [go_sem]; try omega)) only [go_sem]
  exact Ret.same (Nat.le_refl _) hk
end Go.Proofs.YtagoolooikpabaaGreatDoor
namespace Go.Proofs.YtagoolooikpabaaGreatDoor
open Go Go.RowKit
set_option maxRecDepth 100000
set_option maxHeartbeats 2000000
variable {H : Hp} {K : AV → Hp → Prop}
@[go_sem] def encFp (x : List AC) : List AC := [.fp x]
theorem appFp {i q ty : Nat} {own : Bool} {J : AV → Hp → Prop} (l : List (List AC)) (x : List AC) (l2 : List (List AC)) (e : l2 = l ++ [x]) (hi : H[i]? = some (grO 83 1 (l.map encFp))) (hj : H[q]? = some (.row ty 1 [[.fp x]] own)) (hb : l.length ≤ 1000000000)
  (h : J (.c (grV H.length l2)) (H.set i .dead ++ [grO 83 1 (l2.map encFp)])) : aBuiltin Tryz.prog .append #[231, 231] [.c (grV i l), .c (.sl (some (q, 0)) 1)] H J := by
 subst e
 exact app_grR (enc := encFp) (e := 83) (sz := 1) (bs := 8) (z := [.ptr none]) l [x] (by kernel_rfl) (by kernel_rfl) (by kernel_rfl) (by kernel_rfl) hi (by rw [hj]; rfl) (by simp) rfl (by decide) (by simp; omega) (by simp; omega) h
theorem encFp_pure (l : List (List AC)) : pureL (l.map encFp) = true := pureL_map _ (fun x => by simp [go_sem, AC.pure])
structure ES where
 j : Nat
 acc : List (List AC)
 st : (List Ex × List Tok × Int) ⊕ JE
def eO (l : List UInt8) (d : Int) : (List Ex × List Tok × Int) ⊕ JE → AObj
 | .inl q => psO l q.2.1 d q.2.2
 | .inr q => psJ l q.k q.a q.s q.d q.dp q.e
theorem psO_row (l : List UInt8) (t : Tok) (T : List Tok) (d dp : Int) : psO l (t :: T) d dp = .row 216 7 [[.str (tB l), .int .i64 (prK t), .int .i64 t.o, .str (tB t.x), .int .i64 d, .int .i64 dp, .int .i64 (-1)]] true := rfl
theorem psJ_row (l : List UInt8) (k a : Int) (x : ByteArray) (d dp bad : Int) : psJ l k a x d dp bad = .row 216 7 [[.str (tB l), .int .i64 k, .int .i64 a, .str x, .int .i64 d, .int .i64 dp, .int .i64 bad]] true := rfl
theorem eO_l (l : List UInt8) (L : List Ex) (T : List Tok) (d dp : Int) : eO l d (.inl (L, T, dp)) = psO l T d dp := rfl
theorem eO_r (l : List UInt8) (e : Nat) (cs : List AC) (k a : Int) (s : ByteArray) (d d' dp' : Int) : eO l d (.inr ⟨e, cs, k, a, s, d', dp'⟩) = psJ l k a s d' dp' e := rfl
def eI (l : List UInt8) (rd : List Tok → Int → PR Ex) (d : Int) (many N : Nat) (res : PR (List Ex)) (s : ES) : Prop := s.j ≤ many ∧ s.acc.length ≤ s.j ∧ match s.st with
 | .inl q => argF rd d (many - s.j) q.1 q.2.1 q.2.2 = res ∧ Tl l q.2.1 ∧ q.2.1.length ≤ N ∧ q.1.length = s.j ∧ s.acc = q.1.map encNd
 | .inr q => res = .error q.e
theorem eO_ok {l : List UInt8} {d : Int} (s : (List Ex × List Tok × Int) ⊕ JE) (n : Nat) : (eO l d s).okN n := by
 cases s with
 | inl q => exact psO_ok n
 | inr q => exact psJ_ok n
theorem WkL.grew {A : Hp} {m j1 : Nat} {x : List (List AC)} {G : Hp} (r : Int) (hA : HOk A) (hm : m ≤ A.length) (k : Nat) (hk : j1 = A.length + k) (hG : G[k]? = some (grO 83 1 (x.map encFp))) : WkL m [(.c (.int .i64 r)), .c (grV j1 x)] (A ++ G) [(.c (.int .i64 r)), .c (grV A.length x)] (A ++ [grO 83 1 (x.map encFp)]) := by
 subst hk
 refine WkL.pick [k] hA hm (by simp [hG]) (by simp) ?_ ?_ ?_
 ·simp only [List.all_cons, List.all_nil, Bool.and_true]
  exact pureO_gr (encFp_pure x)
 ·simp only [List.map_cons, List.map_nil, av_ren_gr]
  simp [AV.ren, AV.ren1, AC.ren, pickS]
 ·intro z hz
  simp only [List.mem_cons, List.not_mem_nil, or_false] at hz
  rcases hz with rfl | rfl
  ·trivial
  ·exact grV_ok (by simp) _
theorem enclosedP_a {l : List UInt8} (hl : l.length ≤ 1000) {n : Nat} {d : Int} (hd : 0 ≤ d ∧ d ≤ 100000) {rd : List Tok → Int → PR Ex} (hrd : RdC 153 l n (d + 1) rd) (hg : RdG l rd) (many : Nat) (hmany : many ≤ 3) {i : Nat} {T : List Tok} {dp : Int} (hT : Tl l T) (hn : T.length ≤ n + 1) (hi : H[i]? = some (psO l T d dp))
  (hk1 : ∀ L T' dp', encF rd d many T dp = .ok (L, T', dp') → K (.c (.lst 1 (L.map fun x => [.fp (encNd x)]))) (H.set i (psO l T' d dp')))
  (hk2 : ∀ (e : Nat) (k a : Int) (s : ByteArray) (d' dp' : Int), encF rd d many T dp = .error e → K (.c (.lst 1 [])) (H.set i (psJ l k a s d' dp' e))) : ACalls Tryz.prog 295 [.c (.ptr (some (i, 0, 0))), (.c (.int .i64 many))] H K := by
 have hil := getElem?_lt hi
 obtain ⟨t, T1, rfl, ht, _⟩ := hT.head
 unfold encF at hk1 hk2
 dsimp only at hk1 hk2
 have hw1 : IntKind.i64.wrap (d + 1) = d + 1 := by rw [IntKind.wrap_i64]; omega
 have hw2 : IntKind.i64.wrap (d + 1 - 1) = d := by rw [IntKind.wrap_i64]; omega
 refine acalls Tryz.func295 rfl (by kernel_rfl) (by simp (disch := first | omega | (simp only [go_sem]; try omega)) only [go_sem]) (fun hH => ?_)
 simp (disch := first | omega | (simp only [go_sem]; try omega)) only [go_sem]
 refine isT_a 40 _ rfl ht hi ?_
 by_cases hsg : (sgT t [40]).isSome = true
 ·rw [if_pos hsg] at hk1 hk2
  rw [hsg]
  have hk3 := sgT_is hsg
  have hT1 := (hT.next (by omega)).1
  obtain ⟨u, T2, hu, hut, _⟩ := hT1.head
  rw [List.length_cons] at hn
  simp (disch := first | omega | (simp only [go_sem]; try omega)) only [go_sem]
  refine nextP_a hl hT (by omega) hi ?_
  obtain ⟨dp1, hdp1⟩ : ∃ dp1, dp1 = deepF d dp t := ⟨_, rfl⟩
  rw [← hdp1] at hk1 hk2 ⊢
  obtain ⟨res, hres⟩ : ∃ res, res = argF rd (d + 1) many [] T1 dp1 := ⟨_, rfl⟩
  rw [← hres] at hk1 hk2
  have hps : ∀ q : Int, psO l T1 q dp1 = .row 216 7 [[.str (tB l), .int .i64 (prK u), .int .i64 u.o, .str (tB u.x), .int .i64 q, .int .i64 dp1, .int .i64 (-1)]] true := fun q => by rw [hu]; rfl
  rw [hps d]
  simp (disch := first | omega | (simp only [go_sem]; try omega)) only [go_sem, hw1]
  refine AWp.loop (H.length) [0, 21] [22, 5] (fun (s : ES) => eI l rd (d + 1) many T1.length res s) (fun (s : ES) => [(22, (.c (.int .i64 (s.j)))), (5, .c (grV H.length s.acc))]) (fun (s : ES) => H.set i (eO l (d + 1) s.st) ++ [grO 83 1 (s.acc.map encFp)]) (fun (s : ES) => many - s.j) (by kernel_rfl) (fun _ => rfl) (by kernel_rfl) (by first | (simp; done) | omega) (by first | (simp; done) | (simp; omega) | omega) kl ?_ (fun s q _ _ => ?_)
  ·refine Next.mk ⟨0, [], .inl ([], T1, dp1)⟩ ⟨Nat.zero_le _, Nat.le_refl _, hres.symm, hT1, Nat.le_refl _, rfl, rfl⟩ ?_
   dsimp only [eO]
   rw [hps (d + 1)]
   exact WkL.pad (by simp)
  have hat : ∀ (X : AObj) (G : Hp), (H.set i X ++ G)[i]? = some X := fun X G => by rw [List.getElem?_append_left (by simpa using hil), List.getElem?_set_self hil]
  have hset : ∀ (X Y : AObj) (G : Hp), (H.set i X ++ G).set i Y = H.set i Y ++ G := fun X Y G => by rw [List.set_append_left _ _ (by simpa using hil), List.set_set]
  have hokA : ∀ s : (List Ex × List Tok × Int) ⊕ JE, HOk (H.set i (eO l (d + 1) s)) := fun s => HOk.set hH (eO_ok s _)
  clear hu hut hps hres
  obtain ⟨j, acc, st⟩ := s
  obtain ⟨q0, q1, q2⟩ := q
  dsimp only at q0 q1 q2 ⊢
  by_cases hj : j < many
  ·have hj' : (j : Int) < (many : Int) := by omega
   have hend : ∀ (w : List AC) (st' : (List Ex × List Tok × Int) ⊕ JE) (G : Hp) (k : Nat), G[k]? = some (grO 83 1 ((acc ++ [w]).map encFp)) → WkL H.length [(.c (.int .i64 ((j : Int) + 1))), .c (.sl (some (H.length + k, 0)) (acc.length + 1))] (H.set i (eO l (d + 1) st') ++ G) [(.c (.int .i64 (((j + 1 : Nat) : Int)))), .c (.sl (some (H.length, 0)) (acc.length + 1))] (H.set i (eO l (d + 1) st') ++ [grO 83 1 ((acc ++ [w]).map encFp)]) := fun w st' G k hG => by
    have := WkL.grew (m := H.length) (j1 := H.length + k) (x := acc ++ [w]) (G := G) ((j : Int) + 1) (hokA st') (by simp) k (by simp) hG
    have hgv : ∀ p : Nat, (grV p (acc ++ [w]) : AC) = .sl (some (p, 0)) (acc.length + 1) := fun p => by rw [grV_pos _ (by simp)]; simp
    rw [List.length_set, hgv, hgv] at this
    rw [show (((j + 1 : Nat) : Int)) = (j : Int) + 1 by omega]
    exact this
   rcases st with ⟨L, T, dp⟩ | ⟨e, cs, k, a, s, d', dp'⟩
   ·obtain ⟨r1, r2, r3, r4, r5⟩ := q2
    dsimp only at r1 r2 r3 r4 r5
    obtain ⟨v, T3, rfl, hv, _⟩ := r2.head
    rw [show many - j = (many - j - 1) + 1 by omega] at r1
    unfold argF at r1
    rw [eO_l, psO_row]
    have hcmp : ∀ (G : Hp) (x : Ex) (T4 : List Tok) (dp4 : Int), (argF rd (d + 1) (many - j - 1) (L ++ [x]) T4 dp4 = res ∧ Tl l T4 ∧ T4.length ≤ T1.length) → eI l rd (d + 1) many T1.length res ⟨j + 1, acc ++ [encNd x], .inl (L ++ [x], T4, dp4)⟩ ∧ many - (j + 1) < many - j := fun G x T4 dp4 h =>
     ⟨⟨by dsimp only; omega, by simp; omega, by dsimp only; rw [show many - (j + 1) = many - j - 1 by omega]; exact h.1, h.2.1, h.2.2, by simp [r4], by rw [r5]; simp⟩, by omega⟩
    have hbad : ∀ (w : List AC) (e : Nat) (cs : List AC) (k a : Int) (s : ByteArray) (d' dp' : Int), res = .error e → eI l rd (d + 1) many T1.length res ⟨j + 1, acc ++ [w], .inr ⟨e, cs, k, a, s, d', dp'⟩⟩ ∧ many - (j + 1) < many - j := fun w e cs k a s d' dp' h =>
     ⟨⟨by dsimp only; omega, by simp; omega, h⟩, by omega⟩
    by_cases hj0 : j = 0
    ·have hL : L = [] := List.length_eq_zero_iff.1 (by omega)
     rw [if_pos hL] at r1
     dsimp only at r1
     have hj0' : ¬ (0 : Int) < (j : Int) := by omega
     simp (disch := first | omega | (simp only [go_sem]; try omega)) only [go_sem, hj', hj0']
     refine hrd i _ _ (v :: T3) dp (hat _ _) r2 (by omega) (fun x T4 dp4 hx => ?_) (fun e k a s d' dp' cs hx => ?_)
     ·rw [hx] at r1
      dsimp only at r1
      obtain ⟨s1, s2, s3⟩ := hg _ _ _ _ _ r2 hx
      rw [hset]
      simp (disch := first | omega | (simp only [go_sem]; try omega)) only [go_sem]
      refine appFp acc (encNd x) _ rfl (by first | ((repeat first | exact at0 (by simp) | refine atS ?_); done) | assumption) (by first | ((repeat first | exact at0 (by simp) | refine atS ?_); done) | assumption) (by omega) ?_
      simp (disch := first | omega | (simp only [go_sem]; try omega)) only [go_sem]
      refine Next.mk ⟨j + 1, acc ++ [encNd x], .inl (L ++ [x], T4, dp4)⟩ (hcmp [] x T4 dp4 ⟨r1, s2, by omega⟩) ?_
      simp (disch := first | omega | (simp only [go_sem]; try omega)) only [go_sem]
      refine hend (encNd x) (.inl (L ++ [x], T4, dp4)) _ 2 ?_
      rfl
     ·rw [hx] at r1
      dsimp only at r1
      rw [hset]
      simp (disch := first | omega | (simp only [go_sem]; try omega)) only [go_sem]
      refine appFp acc cs _ rfl (by first | ((repeat first | exact at0 (by simp) | refine atS ?_); done) | assumption) (by first | ((repeat first | exact at0 (by simp) | refine atS ?_); done) | assumption) (by omega) ?_
      simp (disch := first | omega | (simp only [go_sem]; try omega)) only [go_sem]
      refine Next.mk ⟨j + 1, acc ++ [cs], .inr ⟨e, [], k, a, s, d', dp'⟩⟩ (hbad cs e [] k a s d' dp' r1.symm) ?_
      simp (disch := first | omega | (simp only [go_sem]; try omega)) only [go_sem]
      refine hend cs (.inr ⟨e, [], k, a, s, d', dp'⟩) _ 2 ?_
      rfl
    ·have hL : ¬ L = [] := fun h => by rw [h] at r4; exact hj0 r4.symm
     rw [if_neg hL] at r1
     dsimp only at r1
     have hj0' : (0 : Int) < (j : Int) := by omega
     by_cases hc : (sgT v [44]).isSome = true
     ·have hk3v := sgT_is hc
      have hT3 := (r2.next (by omega)).1
      obtain ⟨w, T5, rfl, hw, _⟩ := hT3.head
      rw [if_pos hc] at r1
      dsimp only at r1
      rw [List.length_cons] at r3
      simp (disch := first | omega | (simp only [go_sem]; try omega)) only [go_sem, hj', hj0']
      refine takeP_ok 44 _ rfl hl r2 hc (hat _ _) ?_
      rw [hset, psO_row]
      simp (disch := first | omega | (simp only [go_sem]; try omega)) only [go_sem]
      refine hrd i _ _ (w :: T5) (deepF (d + 1) dp v) (hat _ _) hT3 (by omega) (fun x T4 dp4 hx => ?_) (fun e k a s d' dp' cs hx => ?_)
      ·rw [hx] at r1
       dsimp only at r1
       obtain ⟨s1, s2, s3⟩ := hg _ _ _ _ _ hT3 hx
       rw [hset]
       simp (disch := first | omega | (simp only [go_sem]; try omega)) only [go_sem]
       refine appFp acc (encNd x) _ rfl (by first | ((repeat first | exact at0 (by simp) | refine atS ?_); done) | assumption) (by first | ((repeat first | exact at0 (by simp) | refine atS ?_); done) | assumption) (by omega) ?_
       simp (disch := first | omega | (simp only [go_sem]; try omega)) only [go_sem]
       refine Next.mk ⟨j + 1, acc ++ [encNd x], .inl (L ++ [x], T4, dp4)⟩ (hcmp [] x T4 dp4 ⟨r1, s2, by omega⟩) ?_
       simp (disch := first | omega | (simp only [go_sem]; try omega)) only [go_sem]
       refine hend (encNd x) (.inl (L ++ [x], T4, dp4)) _ 2 ?_
       rfl
      ·rw [hx] at r1
       dsimp only at r1
       rw [hset]
       simp (disch := first | omega | (simp only [go_sem]; try omega)) only [go_sem]
       refine appFp acc cs _ rfl (by first | ((repeat first | exact at0 (by simp) | refine atS ?_); done) | assumption) (by first | ((repeat first | exact at0 (by simp) | refine atS ?_); done) | assumption) (by omega) ?_
       simp (disch := first | omega | (simp only [go_sem]; try omega)) only [go_sem]
       refine Next.mk ⟨j + 1, acc ++ [cs], .inr ⟨e, [], k, a, s, d', dp'⟩⟩ (hbad cs e [] k a s d' dp' r1.symm) ?_
       simp (disch := first | omega | (simp only [go_sem]; try omega)) only [go_sem]
       refine hend cs (.inr ⟨e, [], k, a, s, d', dp'⟩) _ 2 ?_
       rfl
     ·have hc' : (sgT v [44]).isSome = false := by simpa using hc
      rw [if_neg hc] at r1
      dsimp only at r1
      simp (disch := first | omega | (simp only [go_sem]; try omega)) only [go_sem, hj', hj0']
      refine takeP_no (T := T3) 44 _ rfl hv hc' (hat _ _) ?_
      rw [hset, psJ_row]
      simp (disch := first | omega | (simp only [go_sem]; try omega)) only [go_sem]
      refine Next.mk ⟨j + 1, acc, .inr ⟨v.o, [], prK v, v.o, tB v.x, d + 1, dp⟩⟩ ⟨⟨by dsimp only; omega, by dsimp only; omega, r1.symm⟩, by dsimp only; omega⟩ ?_
      simp (disch := first | omega | (simp only [go_sem]; try omega)) only [go_sem]
      rw [show (j : Int) + 1 = ((j + 1 : Nat) : Int) by omega]
      exact WkL.refl (by simp)
   ·rw [eO_r, psJ_row]
    by_cases hj0 : j = 0
    ·have hj0' : ¬ (0 : Int) < (j : Int) := by omega
     simp (disch := first | omega | (simp only [go_sem]; try omega)) only [go_sem, hj', hj0']
     refine Next.mk ⟨j + 1, acc, .inr ⟨e, [], k, a, s, d', dp'⟩⟩ ⟨⟨by dsimp only; omega, by dsimp only; omega, q2⟩, by dsimp only; omega⟩ ?_
     simp (disch := first | omega | (simp only [go_sem]; try omega)) only [go_sem]
     rw [show (j : Int) + 1 = ((j + 1 : Nat) : Int) by omega]
     exact WkL.refl (by simp)
    ·have hj0' : (0 : Int) < (j : Int) := by omega
     simp (disch := first | omega | (simp only [go_sem]; try omega)) only [go_sem, hj', hj0']
     refine takeP_bad (e := e) _ (hat _ _) ?_
     simp (disch := first | omega | (simp only [go_sem]; try omega)) only [go_sem]
     refine Next.mk ⟨j + 1, acc, .inr ⟨e, [], k, a, s, d', dp'⟩⟩ ⟨⟨by dsimp only; omega, by dsimp only; omega, q2⟩, by dsimp only; omega⟩ ?_
     simp (disch := first | omega | (simp only [go_sem]; try omega)) only [go_sem]
     rw [show (j : Int) + 1 = ((j + 1 : Nat) : Int) by omega]
     exact WkL.refl (by simp)
  ·have hj' : ¬ (j : Int) < (many : Int) := by omega
   rcases st with ⟨L, T, dp⟩ | ⟨e, cs, k, a, s, d', dp'⟩
   ·obtain ⟨r1, r2, r3, r4, r5⟩ := q2
    dsimp only at r1 r2 r3 r4 r5
    obtain ⟨v, T3, rfl, hv, _⟩ := r2.head
    rw [show many - j = 0 by omega] at r1
    unfold argF at r1
    rw [← r1] at hk1 hk2
    dsimp only at hk1 hk2
    rw [eO_l, psO_row]
    simp (disch := first | omega | (simp only [go_sem]; try omega)) only [go_sem, hj']
    refine isT_a (T := T3) 41 _ rfl hv (hat _ _) ?_
    by_cases hc : (sgT v [41]).isSome = true
    ·rw [if_pos hc] at hk1
     have hk := hk1 _ _ _ rfl
     have hk3v := sgT_is hc
     have hT3 := (r2.next (by omega)).1
     obtain ⟨w, T5, rfl, hw, _⟩ := hT3.head
     rw [hc]
     simp (disch := first | omega | (simp only [go_sem]; try omega)) only [go_sem]
     refine nextP_a hl r2 (by omega) (hat _ _) ?_
     rw [hset, psO_row]
     simp (disch := first | omega | (simp only [go_sem]; try omega)) only [go_sem, hw2]
     have hA : HOk (H.set i (psO l (w :: T5) d (deepF (d + 1) dp v))) := HOk.set hH (psO_ok _)
     exact Ret.frzGr (l := acc.map encFp) 0 hA (by simp) rfl (encFp_pure acc) (by simp [map_grV]) (by rw [r5, List.map_map]; exact hk)
    ·rw [if_neg hc] at hk2
     have hc' : (sgT v [41]).isSome = false := by simpa using hc
     have hk := hk2 v.o (prK v) v.o (tB v.x) (d + 1) dp rfl
     rw [hc']
     simp (disch := first | omega | (simp only [go_sem]; try omega)) only [go_sem]
     refine failP_a (l := l) (k := prK v) (a := v.o) (x := tB v.x) (d := d + 1) (dp := dp) (bad := -1) (hat _ _) ?_
     rw [if_pos (by decide), hset]
     simp (disch := first | omega | (simp only [go_sem]; try omega)) only [go_sem]
     exact Ret.nil [1] (by simp) (Ret.drop (HOk.psJ hH) (by simp) trivial hk)
   ·have hq : res = .error e := q2
    rw [hq] at hk2
    have hk := hk2 e k a s d' dp' rfl
    rw [eO_r, psJ_row]
    simp (disch := first | omega | (simp only [go_sem]; try omega)) only [go_sem, hj']
    refine failP_a (l := l) (k := k) (a := a) (x := s) (d := d') (dp := dp') (bad := e) (hat _ _) ?_
    rw [if_neg (by omega), hset]
    simp (disch := first | omega | (simp only [go_sem]; try omega)) only [go_sem]
    exact Ret.nil [1] (by simp) (Ret.drop (HOk.psJ hH) (by simp) trivial hk)
 ·rw [if_neg hsg] at hk2
  have hsg' : (sgT t [40]).isSome = false := by simpa using hsg
  have hk := hk2 t.o (prK t) t.o (tB t.x) d dp rfl
  rw [hsg']
  simp (disch := first | omega | (simp only [go_sem]; try omega)) only [go_sem]
  refine failP_a (l := l) (k := prK t) (a := t.o) (x := tB t.x) (d := d) (dp := dp) (bad := -1) (by rw [psO_cons] at hi; exact hi) ?_
  rw [if_pos (by decide)]
  simp (disch := first | omega | (simp only [go_sem]; try omega)) only [go_sem]
  exact Ret.nil [1] (by simp) (Ret.same (by simp) hk)
end Go.Proofs.YtagoolooikpabaaGreatDoor
