/- The program's parser: a sign that must be there, what is behind a minus, a shift, what is between brackets. Condition: the text is not long. -/
import Derived.Test.YtlnfiflbpmicgaaGreatDoorHVPrsA
set_option linter.all false
namespace Go.Proofs.YtlnfiflbpmicgaaGreatDoor
open Go Go.RowKit
set_option maxRecDepth 100000
set_option maxHeartbeats 2000000
variable {H : Hp} {K : AV → Hp → Prop}
theorem takeP_ok {i : Nat} {l : List UInt8} {t : Tok} {T : List Tok} {d dp : Int} (c : UInt8) (s : ByteArray) (hs : s = tB [c]) (hl : l.length ≤ 1000) (hT : Tl l (t :: T)) (hc : (sgT t [c]).isSome = true) (hi : H[i]? = some (psO l (t :: T) d dp)) (hk : K (.tup []) (H.set i (psO l T d (deepF d dp t)))) : ACalls Tryz.prog 343 [.c (.ptr (some (i, 0, 0))), (.c (.str s))] H K := by
  have hil := getElem?_lt hi
  have hi' := hi
  have hk3 := sgT_is hc
  rw [psO_cons] at hi
  unfold psJ at hi
  refine acalls Tryz.func343 rfl (by kernel_rfl) (by simp (disch := first | omega | (simp only [go_sem]; try omega)) only [go_sem]) (fun hH => ?_)
  simp (disch := first | omega | (simp only [go_sem]; try omega)) only [go_sem, hi]
  refine isT_a c s hs hT.ok hi' ?_
  rw [hc]
  simp (disch := first | omega | (simp only [go_sem]; try omega)) only [go_sem]
  refine nextP_a hl hT (by omega) hi' ?_
  simp (disch := first | omega | (simp only [go_sem]; try omega)) only [go_sem]
  exact Ret.same (by simp) hk
theorem takeP_no {i : Nat} {l : List UInt8} {t : Tok} {T : List Tok} {d dp : Int} (c : UInt8) (s : ByteArray) (hs : s = tB [c]) (hT : tkOk l t) (hc : (sgT t [c]).isSome = false) (hi : H[i]? = some (psO l (t :: T) d dp)) (hk : K (.tup []) (H.set i (psJ l (prK t) t.o (tB t.x) d dp t.o))) : ACalls Tryz.prog 343 [.c (.ptr (some (i, 0, 0))), (.c (.str s))] H K := by
  have hil := getElem?_lt hi
  have hi' := hi
  rw [psO_cons] at hi
  unfold psJ at hi
  refine acalls Tryz.func343 rfl (by kernel_rfl) (by simp (disch := first | omega | (simp only [go_sem]; try omega)) only [go_sem]) (fun hH => ?_)
  simp (disch := first | omega | (simp only [go_sem]; try omega)) only [go_sem, hi]
  refine isT_a c s hs hT hi' ?_
  rw [hc]
  simp (disch := first | omega | (simp only [go_sem]; try omega)) only [go_sem]
  refine failP_a (by rw [psO_cons] at hi'; exact hi') ?_
  rw [if_pos (by decide)]
  simp (disch := first | omega | (simp only [go_sem]; try omega)) only [go_sem]
  exact Ret.same (by simp) hk
theorem takeP_bad {i : Nat} {l : List UInt8} {k a d dp : Int} {x : ByteArray} {e : Nat} (s : ByteArray) (hi : H[i]? = some (psJ l k a x d dp e)) (hk : K (.tup []) H) : ACalls Tryz.prog 343 [.c (.ptr (some (i, 0, 0))), (.c (.str s))] H K := by
  have hil := getElem?_lt hi
  have hi' := hi
  unfold psJ at hi
  refine acalls Tryz.func343 rfl (by kernel_rfl) (by simp (disch := first | omega | (simp only [go_sem]; try omega)) only [go_sem]) (fun hH => ?_)
  simp (disch := first | omega | (simp only [go_sem]; try omega)) only [go_sem, hi]
  refine failP_a hi' ?_
  rw [if_neg (by omega), set_same hi']
  simp (disch := first | omega | (simp only [go_sem]; try omega)) only [go_sem]
  exact Ret.same (Nat.le_refl _) hk
theorem Ret.un {A : Hp} {m n : Nat} {ty1 ty2 : Nat} {s : ByteArray} {x : List AC} {o1 o2 : Bool} (hA : HOk A) (hm : m = A.length) (hn : n = A.length) (hk : K (.c (.fp [.str s, .int .i64 0, .str ⟨#[]⟩, .lst 1 [[.fp x]], .bool false])) A) : Ret m (.c (.ptr (some (n + 1, 0, 0)))) (A ++ [.row ty1 1 [[.fp x]] o1, .row ty2 5 [[.str s, .int .i64 0, .str ⟨#[]⟩, .sl (some (n, 0)) 1, .bool false]] o2]) K := by
  subst hn
  refine Ret.node (els := [[.fp x]]) (cs' := [.str s, .int .i64 0, .str ⟨#[]⟩, .lst 1 [[.fp x]], .bool false]) 0 1 hA (by omega) rfl rfl rfl (by decide) ?_ rfl ?_ ?_ hk
  · simp [AC.frzX]
  · simp [AV.frzX, AV.frzX1, AC.frzX]
  · trivial
theorem psO_ok {l : List UInt8} {T : List Tok} {d dp : Int} (n : Nat) : (psO l T d dp).okN n := psJ_ok n
theorem minusP_a {l : List UInt8} (hl : l.length ≤ 1000) {n : Nat} {d : Int} (hd : 0 ≤ d ∧ d ≤ 100000) {rd : List Tok → Int → PR Ex} (hrd : RdC 301 l n (d + 1) rd) {i : Nat} {t : Tok} {T : List Tok} {dp : Int} (hT : Tl l (t :: T)) (hn : T.length ≤ n) (hc : t.k = 3) (hi : H[i]? = some (psO l (t :: T) d dp))
    (hk1 : ∀ x T' dp', rd T (deepF d dp t) = .ok (x, T', dp') → K (.c (.fp (encNd (.neg x)))) (H.set i (psO l T' d dp')))
    (hk2 : ∀ (e : Nat) (k a : Int) (s : ByteArray) (d' dp' : Int) (cs : List AC), rd T (deepF d dp t) = .error e → K (.c (.fp cs)) (H.set i (psJ l k a s d' dp' e))) : ACalls Tryz.prog 323 [.c (.ptr (some (i, 0, 0)))] H K := by
  have hil := getElem?_lt hi
  have hTt : Tl l T := (hT.next (by omega)).1
  obtain ⟨u, T2, hu, _⟩ := hTt.head
  have hw1 : IntKind.i64.wrap (d + 1) = d + 1 := by rw [IntKind.wrap_i64]; omega
  have hw2 : IntKind.i64.wrap (d + 1 - 1) = d := by rw [IntKind.wrap_i64]; omega
  refine acalls Tryz.func323 rfl (by kernel_rfl) (by simp (disch := first | omega | (simp only [go_sem]; try omega)) only [go_sem]) (fun hH => ?_)
  simp (disch := first | omega | (simp only [go_sem]; try omega)) only [go_sem]
  refine nextP_a hl hT (by omega) hi ?_
  rw [hu, psO_cons]
  unfold psJ
  simp (disch := first | omega | (simp only [go_sem]; try omega)) only [go_sem, hw1]
  refine hrd i _ _ T (deepF d dp t) (by rw [List.getElem?_set_self (by simpa using hil), hu]; rfl) hTt hn (fun x T' dp' h1 => ?_) (fun e k a s d' dp' cs h1 => ?_)
  · have hk := hk1 x T' dp' h1
    unfold psO psJ at hk ⊢
    simp (disch := first | omega | (simp only [go_sem]; try omega)) only [go_sem, hw2]
    exact Ret.un (HOk.psJ hH) (by simp) (by simp) hk
  · have hk := hk2 e k a s (IntKind.i64.wrap (d' - 1)) dp' [.str ⟨#[109, 105, 110, 117, 115]⟩, .int .i64 0, .str ⟨#[]⟩, .lst 1 [[.fp cs]], .bool false] h1
    unfold psJ at hk ⊢
    simp (disch := first | omega | (simp only [go_sem]; try omega)) only [go_sem]
    exact Ret.un (HOk.psJ hH) (by simp) (by simp) hk
theorem num_atoi {x : List UInt8} {v : Int} (h : numF x 9 = some v) : Lib.atoi x = some v := by
  rw [numF_eq] at h
  split at h
  · cases h
  · split at h
    · cases h
    · split at h
      · exact h
      · cases h
theorem prK_1 {t : Tok} (hk : t.k = 1) (hd : ∀ c ∈ t.x, isDg c = true) (hx : t.x ≠ []) : prK t = if (numF t.x 9).isSome = true then 1 else 4 := by
  have hb := digs_all hd
  have hh : t.x.head? ≠ some 45 := (dig_head hb).1
  have hs := strip_pos hh
  unfold prK
  rw [if_pos hk]
  by_cases h9 : 9 < t.x.length
  · have e : numF t.x 9 = none := by rw [numF_eq, hs, if_pos (.inr h9)]
    rw [if_pos (.inl h9), e]; rfl
  · by_cases h0 : 1 < t.x.length ∧ t.x.head? = some 48
    · have e : numF t.x 9 = none := by rw [numF_eq, hs, if_neg (fun h => h.elim hx h9), if_pos ⟨h0.2, .inl h0.1⟩]
      rw [if_pos (.inr h0), e]; rfl
    · obtain ⟨u, g1, g2⟩ := atoi_dig (l := t.x) (by rw [hs]; exact hb) (by rw [hs]; exact hx)
      have e : numF t.x 9 = some (if t.x.head? = some 45 then -(u : Int) else u) := by rw [numF_eq, hs, if_neg (fun h => h.elim hx h9), if_neg (fun h => h0 ⟨h.2.resolve_right (by omega), h.1⟩), if_pos hb]; exact g2
      rw [if_neg (fun h => h.elim h9 h0), e]; rfl
theorem prK_k {l : List UInt8} {t : Tok} (h : tkOk l t) : (prK t = 1 ↔ t.k = 1 ∧ (numF t.x 9).isSome = true) ∧ (prK t = 2 ↔ t.k = 2 ∧ t.x.length ≤ 40) ∧ (prK t = 3 ↔ t.k = 3) ∧ (prK t = 0 ↔ t.k = 0) := by
  rcases h.2.2 with h | h | h | h | h
  · unfold prK; rw [h.1]; simp
  · have h1 := prK_1 h.1 h.2.2 h.2.1
    rw [h1, h.1]
    split <;> simp_all
  · unfold prK; rw [h.1, if_neg (show ¬ (2 : Nat) = 1 by decide), if_pos rfl]
    split
    · rename_i h2
      simp
      omega
    · rename_i h2
      simp
      omega
  · unfold prK; rw [h.1]; simp
  · unfold prK; rw [h.1]; simp
theorem atoiTok_a (x : List UInt8) (hx : x.length ≤ 1000) (hk : ∀ (v : Int) (e : AC), (∀ n, numF x 9 = some n → v = n) → (e = .nili ∨ e = .ifc) → K (.tup [(.c (.int .i64 v)), .c e]) H) : ACalls Tryz.prog 324 [(.c (.str (tB x)))] H K := by
  by_cases hs : ∃ n, numF x 9 = some n
  · obtain ⟨n, hn⟩ := hs
    have hlen : x.length ≤ 10 := by
      rw [numF_eq] at hn
      have := (strip_le x).2
      split at hn
      · cases hn
      · rename_i h; omega
    exact atoi_a (tB x) n (by rw [tB_size]; omega) (by rw [show (tB x).data.toList = x from tL_tB x]; exact num_atoi hn) (hk n .nili (fun m hm => by rw [hn] at hm; exact Option.some.inj hm) (.inl rfl))
  · have hno : ∀ v n, numF x 9 = some n → v = n := fun v n hn => absurd ⟨n, hn⟩ hs
    exact atoiAny_a (tB x) (by rw [tB_size]; omega) (fun v _ => hk v .nili (hno v) (.inl rfl)) (fun _ v => hk v .ifc (hno v) (.inr rfl))
theorem shiftedP_a {l : List UInt8} (hl : l.length ≤ 1000) {d dp : Int} (x : List UInt8) {i j : Nat} (hij : i ≠ j) {T : List Tok} (hT : Tl l T) (hi : H[i]? = some (psO l T d dp)) (hj : H[j]? = some (.row 201 5 [[.str ⟨#[116, 97, 103]⟩, .int .i64 0, .str (tB x), .sl none 0, .bool false]] true))
    (hk1 : ∀ y T' dp', shfF x d T dp = .ok (y, T', dp') → K (.c (.ptr (some (j, 0, 0)))) ((H.set i (psO l T' d dp')).set j (.row 201 5 [encNd y] true)))
    (hk2 : ∀ (e : Nat) (k a : Int) (s : ByteArray) (d' dp' : Int) (cs : List AC), shfF x d T dp = .error e → K (.c (.fp cs)) (H.set i (psJ l k a s d' dp' e))) : ACalls Tryz.prog 326 [.c (.ptr (some (i, 0, 0))), .c (.ptr (some (j, 0, 0)))] H K := by
  have hil := getElem?_lt hi
  have hjl := getElem?_lt hj
  have hjg : H[j] = .row 201 5 [[.str ⟨#[116, 97, 103]⟩, .int .i64 0, .str (tB x), .sl none 0, .bool false]] true := by
    rw [List.getElem?_eq_getElem hjl] at hj
    exact Option.some.inj hj
  obtain ⟨u, T2, rfl, hu, _⟩ := hT.head
  unfold shfF at hk1 hk2
  dsimp only at hk1 hk2
  refine acalls Tryz.func326 rfl (by kernel_rfl) (by simp (disch := first | omega | (simp only [go_sem]; try omega)) only [go_sem]) (fun hH => ?_)
  simp (disch := first | omega | (simp only [go_sem]; try omega)) only [go_sem]
  refine isT_a 64 _ rfl hu hi ?_
  by_cases hsg : (sgT u [64]).isSome = true
  · rw [if_pos hsg] at hk1 hk2
    rw [hsg]
    have hk3 := sgT_is hsg
    have hT2 := (hT.next (by omega)).1
    obtain ⟨v, T3, rfl, hv, _⟩ := hT2.head
    dsimp only at hk1 hk2
    simp (disch := first | omega | (simp only [go_sem]; try omega)) only [go_sem]
    refine nextP_a hl hT (by omega) hi ?_
    rw [psO_cons]
    unfold psJ
    have hvx : v.x.length ≤ 1000 := by have := hv.1; omega
    simp (disch := first | omega | (simp only [go_sem]; try omega)) only [go_sem]
    refine atoiTok_a v.x hvx (fun n e hn he => ?_)
    have hkind := prK_k hv
    by_cases h1 : prK v = 1
    · obtain ⟨h2, h3⟩ := hkind.1.1 h1
      obtain ⟨q, hq⟩ := Option.isSome_iff_exists.1 h3
      have hnq := hn q hq
      subst hnq
      rw [if_pos h2, hq] at hk1 hk2
      dsimp only at hk1 hk2
      by_cases h4 : n ≤ 86400000
      · rw [if_pos h4] at hk1
        have hk := hk1 _ _ _ rfl
        have h4' : ¬ 86400000 < n := by omega
        have hT3 := (hT2.next (by omega)).1
        obtain ⟨w, T4, rfl, hw, _⟩ := hT3.head
        simp (disch := first | omega | (simp only [go_sem]; try omega)) only [go_sem, h1, h4', hjg]
        refine nextP_a (t := v) (T := w :: T4) (d := d) (dp := deepF d dp u) hl hT2 (by omega) (by rw [List.getElem?_set_ne (Ne.symm hij), List.getElem?_set_self hil, psO_cons, h1]; rfl) ?_
        simp (disch := first | omega | (simp only [go_sem]; try omega)) only [go_sem]
        rw [show ∀ A B C : AObj, ((H.set i A).set j B).set i C = (H.set i C).set j B from fun A B C => by rw [List.set_comm _ _ hij, List.set_set, List.set_comm _ _ (Ne.symm hij)]]
        exact Ret.same (by simp) hk
      · rw [if_neg h4] at hk2
        have h4' : 86400000 < n := by omega
        have hk := hk2 v.o (prK v) v.o (tB v.x) d (deepF d dp u) ndE0 rfl
        rw [h1] at hk
        simp (disch := first | omega | (simp only [go_sem]; try omega)) only [go_sem, h1, h4']
        refine failP_a (l := l) (k := 1) (a := v.o) (x := tB v.x) (d := d) (dp := deepF d dp u) (bad := -1) (List.getElem?_set_self hil) ?_
        rw [if_pos (by decide)]
        simp (disch := first | omega | (simp only [go_sem]; try omega)) only [go_sem]
        exact Ret.same (by simp) hk
    · have hno : ¬ (v.k = 1 ∧ (numF v.x 9).isSome = true) := fun h => h1 (hkind.1.2 h)
      have hk : K (.c (.fp ndE0)) (H.set i (psJ l (prK v) v.o (tB v.x) d (deepF d dp u) v.o)) := by
        refine hk2 v.o (prK v) v.o (tB v.x) d (deepF d dp u) ndE0 ?_
        by_cases h2 : v.k = 1
        · rw [if_pos h2]
          cases hq : numF v.x 9 with
          | none => rfl
          | some q => exact absurd ⟨h2, by rw [hq]; rfl⟩ hno
        · rw [if_neg h2]
      simp (disch := first | omega | (simp only [go_sem]; try omega)) only [go_sem, h1]
      refine failP_a (l := l) (k := prK v) (a := v.o) (x := tB v.x) (d := d) (dp := deepF d dp u) (bad := -1) (List.getElem?_set_self hil) ?_
      rw [if_pos (by decide)]
      simp (disch := first | omega | (simp only [go_sem]; try omega)) only [go_sem]
      exact Ret.same (by simp) hk
  · rw [if_neg hsg] at hk1 hk2
    have hsg' : (sgT u [64]).isSome = false := by simpa using hsg
    have hk := hk1 _ _ _ rfl
    rw [set_same hi] at hk
    have hjg2 : H.set j (.row 201 5 [encNd (.tag x none)] true) = H := set_same hj
    rw [hjg2] at hk
    rw [hsg']
    simp (disch := first | omega | (simp only [go_sem]; try omega)) only [go_sem]
    exact Ret.same (Nat.le_refl _) hk
end Go.Proofs.YtlnfiflbpmicgaaGreatDoor
