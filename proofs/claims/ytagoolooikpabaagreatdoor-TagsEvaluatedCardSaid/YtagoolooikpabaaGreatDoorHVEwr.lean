/- Several texts in one: What a document's tree comes to: logref2, and what follows. No condition. -/
import Derived.Test.YtagoolooikpabaaGreatDoorHVEwl
import Derived.Test.YtagoolooikpabaaGreatDoorHVEvn
set_option linter.all false
namespace Go.Proofs.YtagoolooikpabaaGreatDoor
open Go Go.RowKit
set_option maxRecDepth 100000
set_option maxHeartbeats 4000000
def LookOkR (A : Hp) (f : FuncId) (fs cs : List (Nat × Nat × Nat)) (look : List UInt8 → Int → Vl) : Prop :=
 entersB Tryz.prog f = true ∧ (∀ p ∈ fs ++ cs, p.1 < A.length) ∧ ∀ (G : Hp) (K : AV → Hp → Prop) (x : List UInt8) (m : Int), x.length ≤ 40 → -1000000000 ≤ m → m ≤ 1000000000000 → K (.agg (encV (look x m))) (A ++ G) → ACalls Tryz.prog f (fs.map (fun p => AV.c (.ptr (some p))) ++ (.c (.str (tB x))) :: (.c (.int .i64 m)) :: cs.map (fun p => AV.c (.ptr (some p)))) (A ++ G) K
theorem LookOkR.app {A : Hp} {f : FuncId} {fs cs : List (Nat × Nat × Nat)} {look : List UInt8 → Int → Vl} (h : LookOkR A f fs cs look) (G : Hp) : LookOkR (A ++ G) f fs cs look := by
 refine ⟨h.1, fun p hp => by have := h.2.1 p hp; simp; omega, fun G2 K x m h1 h2 h3 hk => ?_⟩
 rw [List.append_assoc] at hk
 have := h.2.2 (G ++ G2) K x m h1 h2 h3 hk
 rw [List.append_assoc]
 exact this
theorem LookOkR.at {A : Hp} {f : FuncId} {fs cs : List (Nat × Nat × Nat)} {look : List UInt8 → Int → Vl} (h : LookOkR A f fs cs look) (G : Hp) {K : AV → Hp → Prop} (x : List UInt8) (m : Int) (h1 : x.length ≤ 40) (h2 : -1000000000 ≤ m) (h3 : m ≤ 1000000000000) (hk : K (.agg (encV (look x m))) (A ++ G)) : ACalls Tryz.prog f (fs.map (fun p => AV.c (.ptr (some p))) ++ (.c (.str (tB x))) :: (.c (.int .i64 m)) :: cs.map (fun p => AV.c (.ptr (some p)))) (A ++ G) K := h.2.2 G K x m h1 h2 h3 hk
@[go_sem] theorem kdz_good : decide (({ data := #[] } : ByteArray) = { data := #[103, 111, 111, 100] }) = false := (by decide)
@[go_sem] theorem kdz_if : decide (({ data := #[] } : ByteArray) = { data := #[105, 102] }) = false := (by decide)
theorem pureL_encV2 (a b : Vl) : pureL [encV a, encV b] = true := rfl
theorem pureL_encV1 (a : Vl) : pureL [encV a] = true := rfl
def wqV (l : List Vl) : Int := l.foldl (fun w v => max w v.q) 0
theorem wqV_snoc (l : List Vl) (v : Vl) : wqV (l ++ [v]) = max (wqV l) v.q := by unfold wqV; rw [List.foldl_append]; rfl
theorem lit1V {H : Hp} {K : AV → Hp → Prop} {f : FuncId} {i : Nat} {c : UInt8} {x : ByteArray} {ks : List (List AC)} {a : Vl} (hi : H[i]? = some (.row 126 2 [encV a] true)) (h : ACalls Tryz.prog f [.agg (trC c x ks), .c (.lst 2 [encV a])] (H.set i .dead) K) : ACalls Tryz.prog f [.agg (trC c x ks), .c (.sl (some (i, 0)) 1)] H K :=
 ACalls.lit hi (pureL_encV1 a) (by simp [AV.frz1, AC.frz, encV, trC]) h
theorem lit2V {H : Hp} {K : AV → Hp → Prop} {f : FuncId} {i : Nat} {c : UInt8} {x : ByteArray} {ks : List (List AC)} {a b : Vl} (hi : H[i]? = some (.row 126 2 [encV a, encV b] true)) (h : ACalls Tryz.prog f [.agg (trC c x ks), .c (.lst 2 [encV a, encV b])] (H.set i .dead) K) : ACalls Tryz.prog f [.agg (trC c x ks), .c (.sl (some (i, 0)) 2)] H K :=
 ACalls.lit hi (pureL_encV2 a b) (by simp [AV.frz1, AC.frz, encV, trC]) h
end Go.Proofs.YtagoolooikpabaaGreatDoor
namespace Go.Proofs.YtagoolooikpabaaGreatDoor
open Go Go.RowKit
set_option maxRecDepth 100000
set_option maxHeartbeats 4000000
theorem evalQS_a {P : ByteArray → Prop} {f : FuncId} {fs cs : List (Nat × Nat × Nat)} {look : List UInt8 → Int → Vl} (hlv : ∀ x m, VlOk (look x m)) (m : Int) (hm : 0 ≤ m ∧ m ≤ 1000000000000) : ∀ (N : Nat) (e : Ex) {T : Hp → Prop} {X : Hp} {K : AV → Hp → Prop}, LookSt (-1000000000) T f fs cs look P → T X → szE e ≤ N → ExOk e → (∀ p ∈ leafE e, P (tB p.1)) → (∀ Y, T Y → K (.agg (encV (evR look m e))) Y) → ACalls Tryz.prog 139 [.agg (encT e), (.c (.int .i64 m)), .c (.fn f fs cs)] X K
 | 0, e, T, X, K, hl, hX, hs, he, hP, hk => by have := hgt_sz e; omega
 | N + 1, .num n, T, X, K, hl, hX, hs, he, hP, hk => by
  unfold encT
  refine acalls Tryz.func139 rfl kRf gT (fun hH => ?_)
  refine gO ?_
  exact Ret.drop hH lRf oKs (hk _ hX)
 | N + 1, .tag x s, T, X, K, hl, hX, hs, he, hP, hk => by
  have hx := he.1.2.1
  have hent := hl.ent
  have hsb : -1 ≤ s.getD (-1) ∧ s.getD (-1) ≤ 86400000 := by
   cases s with
   | none => exact ⟨by decide, by decide⟩
   | some n => have := he.2 n rfl; exact ⟨by show -1 ≤ n; omega, by show n ≤ _; omega⟩
  have hk : ∀ Y, T Y → K (.agg (encV (look x (m - max 0 (s.getD (-1)))))) Y := hk
  unfold encT
  refine acalls Tryz.func139 rfl kRf gT (fun hH => ?_)
  refine gO1 hent ?_
  refine hl.ask X _ _ x (m - max 0 (s.getD (-1))) hX (hP (x, s.getD 0) (List.mem_singleton.2 rfl)) hx oMg oMg (fun Y hY => ?_)
  rw [← (hl.sim X Y hX hY).1]
  replace hH := hl.okd hX hY hH
  replace hX := hY
  refine gO ?_
  exact Ret.drop hH lRf oKs (hk _ hX)
 | N + 1, .neg a, T, X, K, hl, hX, hs, he, hP, hk => by
  simp only [szE] at hs
  have hk : ∀ Y, T Y → K (.agg (encV (if (evR look m a).q = 2 then badV else bdV (-(evR look m a).n) (evR look m a).q 1000000000000))) Y := hk
  have va := evR_ok hlv m a he
  have iha := fun {X G : Hp} {K : AV → Hp → Prop} (hX : T X) (hk : ∀ Y, T Y → K (.agg (encV (evR look m a))) (Y ++ G)) => evalQS_a hlv m hm N a (hl.app G) ⟨X, hX, rfl⟩ oMg he hP (by rintro _ ⟨Y, hY, rfl⟩; exact hk Y hY)
  have hent := hl.ent
  unfold encT
  have hvs : ∀ (k : Nat) (h : k < ([a]).length) {X G : Hp} {K : AV → Hp → Prop}, T X → (∀ Y, T Y → K (.agg (encV (evR look m ([a])[k]))) (Y ++ G)) → ACalls Tryz.prog 139 [.agg (encT ([a])[k]), (.c (.int .i64 m)), .c (.fn f fs cs)] (X ++ G) K := fun k h {X G} {K} hX hk => by
   match k, h with
   | 0, _ => exact iha hX hk
  obtain ⟨L, hL⟩ : ∃ L : List Ex, L = [a] := ⟨_, rfl⟩
  rw [← hL] at hvs
  have hLe : (.lst 5 [encT a] : AC) = .lst 5 (L.map encT) := by rw [hL]; rfl
  obtain ⟨vs, hV⟩ : ∃ vs : List Vl, vs = L.map (evR look m) := ⟨_, rfl⟩
  have hvl : vs.length = L.length := by rw [hV, List.length_map]
  have hvo : ∀ v ∈ vs, VlOk v := fun v hv => by
   rw [hV] at hv
   obtain ⟨e, he', rfl⟩ := List.mem_map.1 hv
   rw [hL] at he'
   simp only [List.mem_cons, List.not_mem_nil, or_false] at he'
   rcases he' with rfl
   all_goals first | exact va
  have hLn : L.length = 1 := by rw [hL]; rfl
  rw [hLe]
  refine acalls Tryz.func139 rfl kRf gT (fun hH => ?_)
  refine gO1 hent ?_
  have hfs : ∀ p ∈ fs, p.fst < X.length + 2 := fun p hp => by have := hl.ptr X hX p (List.mem_append_left _ hp); omega
  have hcs : ∀ p ∈ cs, p.fst < X.length + 2 := fun p hp => by have := hl.ptr X hX p (List.mem_append_right _ hp); omega
  refine AWp.loop (X.length + 2) [1, 2, 3, 6, 34, 35] [7, 8, 36] (fun (s : Nat × Hp) => s.1 ≤ L.length ∧ T s.2 ∧ s.2.length = X.length) (fun (s : Nat × Hp) => [(7, .c (grV (X.length + 2) (vs.take s.1))), (8, (.c (.int .i64 (wqV (vs.take s.1))))), (36, (.c (.int .i64 (s.1))))]) (fun (s : Nat × Hp) => s.2 ++ [.row 173 5 [[.int .u8 109, .str ⟨#[]⟩, .int .i64 0, .lst 5 (L.map encT), .int .i64 0]] true, .row 126 2 [[.int .i64 0, .int .i64 0]] true, grO 126 2 ((vs.take s.1).map encV)]) (fun (s : Nat × Hp) => L.length - s.1) kRf (fun _ => rfl) kRf sOo sOm kl ?_ (fun s hk1 _ _ => ?_)
  ·refine Next.mk (0, X) ⟨by simp, hX, rfl⟩ ?_
   exact WkL.padP [_, _] sMp
  obtain ⟨k, X⟩ := s
  obtain ⟨hk1, hX2, hle⟩ := hk1
  dsimp only at hk1 hX2 hle ⊢
  rw [← hle]
  replace hH := hl.okd hX hX2 hH
  replace hX := hX2
  clear hX2 hle hfs hcs
  have hfs : ∀ p ∈ fs, p.fst < X.length + 2 := fun p hp => by have := hl.ptr X hX p (List.mem_append_left _ hp); omega
  have hcs : ∀ p ∈ cs, p.fst < X.length + 2 := fun p hp => by have := hl.ptr X hX p (List.mem_append_right _ hp); omega
  by_cases hlt : k < L.length
  ·have htk : vs.take (k + 1) = vs.take k ++ [vs[k]'oMg] := by rw [List.take_succ_eq_append_getElem oMg]
   have hvk : vs[k]'oMg = evR look m L[k] := by simp only [hV, List.getElem_map]
   simp (disch := first | omega | (simp only [go_sem]; try omega)) only [go_sem, hlt, encT_l, encT_t]
   have hul : (vs.take k).length = k := by rw [List.length_take]; omega
   refine hvs k hlt hX (fun X hX2 => ?_)
   have hle := (hl.sim _ _ hX hX2).1
   rw [← hle]
   replace hH := hl.okd hX hX2 hH
   replace hX := hX2
   clear hX2 hle hfs hcs
   have hfs : ∀ p ∈ fs, p.fst < X.length + 2 := fun p hp => by have := hl.ptr X hX p (List.mem_append_left _ hp); omega
   have hcs : ∀ p ∈ cs, p.fst < X.length + 2 := fun p hp => by have := hl.ptr X hX p (List.mem_append_right _ hp); omega
   rw [← hvk]
   generalize vs[k]'oMg = v at *
   generalize vs.take k = us at *
   refine gO2 encT_l encT_t ?_
   refine w_tree (.one 0 (.one 1 (.one 4 (.one 5 (.two 2 (.two 3 (.one 6 (.one 7 (.one 8 (.one 9 .done)))) 6 (.one 7 (.one 3 (.one 8 (.one 9 .done))))) 6 (.one 7 (.one 2 (.one 3 (.one 8 (.one 9 .done)))))))))) kRf dKn ?_
   refine gO ?_
   repeat' apply And.intro
   all_goals ((refine app_gr (enc := encV) (e := 126) (sz := 2) (bs := 16) (z := [.int .i64 0, .int .i64 0]) (us) (v) kRf kRf kRf kRf aTT (by first | (refine gO ?_; done) | (refine gO ?_; rfl) | (refine gO ?_; simp [go_sem]; done) | (refine gO ?_; simp [*]; done)) rfl (by decide) oMg oMg (by rfl) ?_))
   all_goals (refine gO ?_)
   all_goals refine Next.mk (k + 1, X) ⟨⟨by dsimp only; omega, hX, rfl⟩, by dsimp only; omega⟩ ?_
   all_goals dsimp only
   all_goals rw [htk, wqV_snoc]
   all_goals (((try refine gO ?_); (first | refine WkL.pickAt [_, _] [0] ?_ ?_ ?_ rfl ?_ ?_ ?_ ?_ | refine WkL.pickAt [_, _] [1] ?_ ?_ ?_ rfl ?_ ?_ ?_ ?_ | refine WkL.pickAt [_, _] [2] ?_ ?_ ?_ rfl ?_ ?_ ?_ ?_ | refine WkL.pickAt [_, _] [3] ?_ ?_ ?_ rfl ?_ ?_ ?_ ?_ | refine WkL.pickAt [_, _] [4] ?_ ?_ ?_ rfl ?_ ?_ ?_ ?_ | refine WkL.pickAt [_, _] [5] ?_ ?_ ?_ rfl ?_ ?_ ?_ ?_ | refine WkL.pickAt [_, _] [6] ?_ ?_ ?_ rfl ?_ ?_ ?_ ?_ | refine WkL.pickAt [_, _] [7] ?_ ?_ ?_ rfl ?_ ?_ ?_ ?_ | refine WkL.pickAt [_, _] [8] ?_ ?_ ?_ rfl ?_ ?_ ?_ ?_) <;> exact cLs))
  ·have hke : k = L.length := by omega
   subst hke
   have hv1 : vs = [evR look m a] := by rw [hV, hL]; rfl
   have htl : vs.take L.length = vs := List.take_of_length_le oMg
   rw [htl, hv1, grV_pos _ sMp, grO_pos _ _ sMp]
   clear hvs hvo htl hv1 hV hvl hk1 hlt
   clear iha
   generalize evR look m a = A at *
   obtain ⟨a1, a2, a3⟩ := va
   have oa : VlOk A := ⟨a1, a2, a3⟩
   have hwq : wqV [A] = A.q := by unfold wqV; simp only [List.foldl_cons, List.foldl_nil]; omega
   rw [hwq]
   by_cases hq : A.q = 2
   ·simp only [if_pos hq] at hk
    refine gO1 hq ?_
    repeat' first | (refine badD_a ?_; refine gO ?_) | (exact Ret.drop hH lRf oKs (hk _ hX)) | apply And.intro
   ·simp only [if_neg hq] at hk
    refine gO1 hq ?_
    repeat' first | (refine lit1V (c := 109) (x := ⟨#[]⟩) (ks := L.map encT) (a := A) (by simp [encV]) (reckonM_a (L.map encT) A oa ?_); refine gO1 hq ?_) | (refine boundD_a _ _ _ (by decide) ?_; refine gO ?_) | (exact Ret.drop hH lRf oKs (hk _ hX)) | apply And.intro
 | N + 1, .f1 g a, T, X, K, hl, hX, hs, he, hP, hk => by
  simp only [szE] at hs
  have va := evR_ok hlv m a he.2
  have iha := fun {X G : Hp} {K : AV → Hp → Prop} (hX : T X) (hk : ∀ Y, T Y → K (.agg (encV (evR look m a))) (Y ++ G)) => evalQS_a hlv m hm N a (hl.app G) ⟨X, hX, rfl⟩ oMg he.2 (fun p hp => hP p (by simp [leafE, hp])) (by rintro _ ⟨Y, hY, rfl⟩; exact hk Y hY)
  have hent := hl.ent
  have hg := he.1
  have hgs : g = wAbs ∨ g = wGd := fn1 hg
  have hk : ∀ Y, T Y → K (.agg (encV (if g = wGd then ⟨oneV ((evR look m a).q = 0), 0⟩ else if (evR look m a).q = 2 then badV else bdV (if (evR look m a).n < 0 then -(evR look m a).n else (evR look m a).n) (evR look m a).q 1000000000000))) Y := hk
  unfold encT
  have hvs : ∀ (k : Nat) (h : k < ([a]).length) {X G : Hp} {K : AV → Hp → Prop}, T X → (∀ Y, T Y → K (.agg (encV (evR look m ([a])[k]))) (Y ++ G)) → ACalls Tryz.prog 139 [.agg (encT ([a])[k]), (.c (.int .i64 m)), .c (.fn f fs cs)] (X ++ G) K := fun k h {X G} {K} hX hk => by
   match k, h with
   | 0, _ => exact iha hX hk
  obtain ⟨L, hL⟩ : ∃ L : List Ex, L = [a] := ⟨_, rfl⟩
  rw [← hL] at hvs
  have hLe : (.lst 5 [encT a] : AC) = .lst 5 (L.map encT) := by rw [hL]; rfl
  obtain ⟨vs, hV⟩ : ∃ vs : List Vl, vs = L.map (evR look m) := ⟨_, rfl⟩
  have hvl : vs.length = L.length := by rw [hV, List.length_map]
  have hvo : ∀ v ∈ vs, VlOk v := fun v hv => by
   rw [hV] at hv
   obtain ⟨e, he', rfl⟩ := List.mem_map.1 hv
   rw [hL] at he'
   simp only [List.mem_cons, List.not_mem_nil, or_false] at he'
   rcases he' with rfl
   all_goals first | exact va
  have hLn : L.length = 1 := by rw [hL]; rfl
  rw [hLe]
  refine acalls Tryz.func139 rfl kRf gT (fun hH => ?_)
  refine gO1 hent ?_
  have hfs : ∀ p ∈ fs, p.fst < X.length + 2 := fun p hp => by have := hl.ptr X hX p (List.mem_append_left _ hp); omega
  have hcs : ∀ p ∈ cs, p.fst < X.length + 2 := fun p hp => by have := hl.ptr X hX p (List.mem_append_right _ hp); omega
  refine AWp.loop (X.length + 2) [1, 2, 3, 6, 34, 35] [7, 8, 36] (fun (s : Nat × Hp) => s.1 ≤ L.length ∧ T s.2 ∧ s.2.length = X.length) (fun (s : Nat × Hp) => [(7, .c (grV (X.length + 2) (vs.take s.1))), (8, (.c (.int .i64 (wqV (vs.take s.1))))), (36, (.c (.int .i64 (s.1))))]) (fun (s : Nat × Hp) => s.2 ++ [.row 173 5 [[.int .u8 102, .str (tB g), .int .i64 0, .lst 5 (L.map encT), .int .i64 0]] true, .row 126 2 [[.int .i64 0, .int .i64 0]] true, grO 126 2 ((vs.take s.1).map encV)]) (fun (s : Nat × Hp) => L.length - s.1) kRf (fun _ => rfl) kRf sOo sOm kl ?_ (fun s hk1 _ _ => ?_)
  ·refine Next.mk (0, X) ⟨by simp, hX, rfl⟩ ?_
   exact WkL.padP [_, _] sMp
  obtain ⟨k, X⟩ := s
  obtain ⟨hk1, hX2, hle⟩ := hk1
  dsimp only at hk1 hX2 hle ⊢
  rw [← hle]
  replace hH := hl.okd hX hX2 hH
  replace hX := hX2
  clear hX2 hle hfs hcs
  have hfs : ∀ p ∈ fs, p.fst < X.length + 2 := fun p hp => by have := hl.ptr X hX p (List.mem_append_left _ hp); omega
  have hcs : ∀ p ∈ cs, p.fst < X.length + 2 := fun p hp => by have := hl.ptr X hX p (List.mem_append_right _ hp); omega
  by_cases hlt : k < L.length
  ·have htk : vs.take (k + 1) = vs.take k ++ [vs[k]'oMg] := by rw [List.take_succ_eq_append_getElem oMg]
   have hvk : vs[k]'oMg = evR look m L[k] := by simp only [hV, List.getElem_map]
   simp (disch := first | omega | (simp only [go_sem]; try omega)) only [go_sem, hlt, encT_l, encT_t]
   have hul : (vs.take k).length = k := by rw [List.length_take]; omega
   refine hvs k hlt hX (fun X hX2 => ?_)
   have hle := (hl.sim _ _ hX hX2).1
   rw [← hle]
   replace hH := hl.okd hX hX2 hH
   replace hX := hX2
   clear hX2 hle hfs hcs
   have hfs : ∀ p ∈ fs, p.fst < X.length + 2 := fun p hp => by have := hl.ptr X hX p (List.mem_append_left _ hp); omega
   have hcs : ∀ p ∈ cs, p.fst < X.length + 2 := fun p hp => by have := hl.ptr X hX p (List.mem_append_right _ hp); omega
   rw [← hvk]
   generalize vs[k]'oMg = v at *
   generalize vs.take k = us at *
   refine gO2 encT_l encT_t ?_
   refine w_tree (.one 0 (.one 1 (.one 4 (.one 5 (.two 2 (.two 3 (.one 6 (.one 7 (.one 8 (.one 9 .done)))) 6 (.one 7 (.one 3 (.one 8 (.one 9 .done))))) 6 (.one 7 (.one 2 (.one 3 (.one 8 (.one 9 .done)))))))))) kRf dKn ?_
   refine gO ?_
   repeat' apply And.intro
   all_goals ((refine app_gr (enc := encV) (e := 126) (sz := 2) (bs := 16) (z := [.int .i64 0, .int .i64 0]) (us) (v) kRf kRf kRf kRf aTT (by first | (refine gO ?_; done) | (refine gO ?_; rfl) | (refine gO ?_; simp [go_sem]; done) | (refine gO ?_; simp [*]; done)) rfl (by decide) oMg oMg (by rfl) ?_))
   all_goals (refine gO ?_)
   all_goals refine Next.mk (k + 1, X) ⟨⟨by dsimp only; omega, hX, rfl⟩, by dsimp only; omega⟩ ?_
   all_goals dsimp only
   all_goals rw [htk, wqV_snoc]
   all_goals (((try refine gO ?_); (first | refine WkL.pickAt [_, _] [0] ?_ ?_ ?_ rfl ?_ ?_ ?_ ?_ | refine WkL.pickAt [_, _] [1] ?_ ?_ ?_ rfl ?_ ?_ ?_ ?_ | refine WkL.pickAt [_, _] [2] ?_ ?_ ?_ rfl ?_ ?_ ?_ ?_ | refine WkL.pickAt [_, _] [3] ?_ ?_ ?_ rfl ?_ ?_ ?_ ?_ | refine WkL.pickAt [_, _] [4] ?_ ?_ ?_ rfl ?_ ?_ ?_ ?_ | refine WkL.pickAt [_, _] [5] ?_ ?_ ?_ rfl ?_ ?_ ?_ ?_ | refine WkL.pickAt [_, _] [6] ?_ ?_ ?_ rfl ?_ ?_ ?_ ?_ | refine WkL.pickAt [_, _] [7] ?_ ?_ ?_ rfl ?_ ?_ ?_ ?_ | refine WkL.pickAt [_, _] [8] ?_ ?_ ?_ rfl ?_ ?_ ?_ ?_) <;> exact cLs))
  ·have hke : k = L.length := by omega
   subst hke
   have hv1 : vs = [evR look m a] := by rw [hV, hL]; rfl
   have htl : vs.take L.length = vs := List.take_of_length_le oMg
   rw [htl, hv1, grV_pos _ sMp, grO_pos _ _ sMp]
   clear hvs hvo htl hv1 hV hvl hk1 hlt
   clear iha
   generalize evR look m a = A at *
   obtain ⟨a1, a2, a3⟩ := va
   have oa : VlOk A := ⟨a1, a2, a3⟩
   have hwq : wqV [A] = A.q := by unfold wqV; simp only [List.foldl_cons, List.foldl_nil]; omega
   rw [hwq]
   rcases hgs with rfl | rfl
   ·simp only [if_neg (by decide : ¬ wAbs = wGd)] at hk
    by_cases hq : A.q = 2
    ·simp only [if_pos hq] at hk
     refine gO1 hq ?_
     repeat' first | (refine badD_a ?_; refine gO ?_) | (exact Ret.drop hH lRf oKs (hk _ hX)) | apply And.intro
    ·simp only [if_neg hq] at hk
     refine gO1 hq ?_
     repeat' first | (refine lit1V (c := 102) (x := tB wAbs) (ks := L.map encT) (a := A) (by simp [encV]) (reckonA_a (L.map encT) A oa ?_); refine gO1 hq ?_) | (refine boundD_a _ _ _ (by decide) ?_; refine gO ?_) | (exact Ret.drop hH lRf oKs (hk _ hX)) | apply And.intro
   ·simp only [if_pos rfl] at hk
    refine gO ?_
    repeat' first | (refine oneD_a (A.q = 0) ?_; refine gO ?_) | (exact Ret.drop hH lRf oKs (hk _ hX)) | apply And.intro
 | N + 1, .bin c a b, T, X, K, hl, hX, hs, he, hP, hk => by
  simp only [szE] at hs
  simp only [evR_bin] at hk
  have va := evR_ok hlv m a he.2.1
  have vb := evR_ok hlv m b he.2.2
  have iha := fun {X G : Hp} {K : AV → Hp → Prop} (hX : T X) (hk : ∀ Y, T Y → K (.agg (encV (evR look m a))) (Y ++ G)) => evalQS_a hlv m hm N a (hl.app G) ⟨X, hX, rfl⟩ oMg he.2.1 (fun p hp => hP p (by simp [leafE, hp])) (by rintro _ ⟨Y, hY, rfl⟩; exact hk Y hY)
  have ihb := fun {X G : Hp} {K : AV → Hp → Prop} (hX : T X) (hk : ∀ Y, T Y → K (.agg (encV (evR look m b))) (Y ++ G)) => evalQS_a hlv m hm N b (hl.app G) ⟨X, hX, rfl⟩ oMg he.2.2 (fun p hp => hP p (by simp [leafE, hp])) (by rintro _ ⟨Y, hY, rfl⟩; exact hk Y hY)
  have hc : c ∈ ops6 := he.1
  have hent := hl.ent
  have hcn : ¬ ((c.toNat : Int) = 110) ∧ ¬ ((c.toNat : Int) = 119) := by
   have : ∀ c ∈ ops6, ¬ ((c.toNat : Int) = 110) ∧ ¬ ((c.toNat : Int) = 119) := by decide
   exact this c hc
  obtain ⟨hc1, hc2⟩ := hcn
  unfold encT
  have hvs : ∀ (k : Nat) (h : k < ([a, b]).length) {X G : Hp} {K : AV → Hp → Prop}, T X → (∀ Y, T Y → K (.agg (encV (evR look m ([a, b])[k]))) (Y ++ G)) → ACalls Tryz.prog 139 [.agg (encT ([a, b])[k]), (.c (.int .i64 m)), .c (.fn f fs cs)] (X ++ G) K := fun k h {X G} {K} hX hk => by
   match k, h with
   | 0, _ => exact iha hX hk
   | 1, _ => exact ihb hX hk
  obtain ⟨L, hL⟩ : ∃ L : List Ex, L = [a, b] := ⟨_, rfl⟩
  rw [← hL] at hvs
  have hLe : (.lst 5 [encT a, encT b] : AC) = .lst 5 (L.map encT) := by rw [hL]; rfl
  obtain ⟨vs, hV⟩ : ∃ vs : List Vl, vs = L.map (evR look m) := ⟨_, rfl⟩
  have hvl : vs.length = L.length := by rw [hV, List.length_map]
  have hvo : ∀ v ∈ vs, VlOk v := fun v hv => by
   rw [hV] at hv
   obtain ⟨e, he', rfl⟩ := List.mem_map.1 hv
   rw [hL] at he'
   simp only [List.mem_cons, List.not_mem_nil, or_false] at he'
   rcases he' with rfl | rfl
   all_goals first | exact va | exact vb
  have hLn : L.length = 2 := by rw [hL]; rfl
  rw [hLe]
  refine acalls Tryz.func139 rfl kRf gT (fun hH => ?_)
  refine gO3 hent hc1 hc2 ?_
  have hfs : ∀ p ∈ fs, p.fst < X.length + 2 := fun p hp => by have := hl.ptr X hX p (List.mem_append_left _ hp); omega
  have hcs : ∀ p ∈ cs, p.fst < X.length + 2 := fun p hp => by have := hl.ptr X hX p (List.mem_append_right _ hp); omega
  refine AWp.loop (X.length + 2) [1, 2, 3, 6, 34, 35] [7, 8, 36] (fun (s : Nat × Hp) => s.1 ≤ L.length ∧ T s.2 ∧ s.2.length = X.length) (fun (s : Nat × Hp) => [(7, .c (grV (X.length + 2) (vs.take s.1))), (8, (.c (.int .i64 (wqV (vs.take s.1))))), (36, (.c (.int .i64 (s.1))))]) (fun (s : Nat × Hp) => s.2 ++ [.row 173 5 [[.int .u8 c.toNat, .str ⟨#[]⟩, .int .i64 0, .lst 5 (L.map encT), .int .i64 0]] true, .row 126 2 [[.int .i64 0, .int .i64 0]] true, grO 126 2 ((vs.take s.1).map encV)]) (fun (s : Nat × Hp) => L.length - s.1) kRf (fun _ => rfl) kRf sOo sOm kl ?_ (fun s hk1 _ _ => ?_)
  ·refine Next.mk (0, X) ⟨by simp, hX, rfl⟩ ?_
   exact WkL.padP [_, _] sMp
  obtain ⟨k, X⟩ := s
  obtain ⟨hk1, hX2, hle⟩ := hk1
  dsimp only at hk1 hX2 hle ⊢
  rw [← hle]
  replace hH := hl.okd hX hX2 hH
  replace hX := hX2
  clear hX2 hle hfs hcs
  have hfs : ∀ p ∈ fs, p.fst < X.length + 2 := fun p hp => by have := hl.ptr X hX p (List.mem_append_left _ hp); omega
  have hcs : ∀ p ∈ cs, p.fst < X.length + 2 := fun p hp => by have := hl.ptr X hX p (List.mem_append_right _ hp); omega
  by_cases hlt : k < L.length
  ·have htk : vs.take (k + 1) = vs.take k ++ [vs[k]'oMg] := by rw [List.take_succ_eq_append_getElem oMg]
   have hvk : vs[k]'oMg = evR look m L[k] := by simp only [hV, List.getElem_map]
   simp (disch := first | omega | (simp only [go_sem]; try omega)) only [go_sem, hlt, encT_l, encT_t]
   have hul : (vs.take k).length = k := by rw [List.length_take]; omega
   refine hvs k hlt hX (fun X hX2 => ?_)
   have hle := (hl.sim _ _ hX hX2).1
   rw [← hle]
   replace hH := hl.okd hX hX2 hH
   replace hX := hX2
   clear hX2 hle hfs hcs
   have hfs : ∀ p ∈ fs, p.fst < X.length + 2 := fun p hp => by have := hl.ptr X hX p (List.mem_append_left _ hp); omega
   have hcs : ∀ p ∈ cs, p.fst < X.length + 2 := fun p hp => by have := hl.ptr X hX p (List.mem_append_right _ hp); omega
   rw [← hvk]
   generalize vs[k]'oMg = v at *
   generalize vs.take k = us at *
   refine gO2 encT_l encT_t ?_
   refine w_tree (.one 0 (.one 1 (.one 4 (.one 5 (.two 2 (.two 3 (.one 6 (.one 7 (.one 8 (.one 9 .done)))) 6 (.one 7 (.one 3 (.one 8 (.one 9 .done))))) 6 (.one 7 (.one 2 (.one 3 (.one 8 (.one 9 .done)))))))))) kRf dKn ?_
   refine gO ?_
   repeat' apply And.intro
   all_goals ((refine app_gr (enc := encV) (e := 126) (sz := 2) (bs := 16) (z := [.int .i64 0, .int .i64 0]) (us) (v) kRf kRf kRf kRf aTT (by first | (refine gO ?_; done) | (refine gO ?_; rfl) | (refine gO ?_; simp [go_sem]; done) | (refine gO ?_; simp [*]; done)) rfl (by decide) oMg oMg (by rfl) ?_))
   all_goals (refine gO ?_)
   all_goals refine Next.mk (k + 1, X) ⟨⟨by dsimp only; omega, hX, rfl⟩, by dsimp only; omega⟩ ?_
   all_goals dsimp only
   all_goals rw [htk, wqV_snoc]
   all_goals (((try refine gO ?_); (first | refine WkL.pickAt [_, _] [0] ?_ ?_ ?_ rfl ?_ ?_ ?_ ?_ | refine WkL.pickAt [_, _] [1] ?_ ?_ ?_ rfl ?_ ?_ ?_ ?_ | refine WkL.pickAt [_, _] [2] ?_ ?_ ?_ rfl ?_ ?_ ?_ ?_ | refine WkL.pickAt [_, _] [3] ?_ ?_ ?_ rfl ?_ ?_ ?_ ?_ | refine WkL.pickAt [_, _] [4] ?_ ?_ ?_ rfl ?_ ?_ ?_ ?_ | refine WkL.pickAt [_, _] [5] ?_ ?_ ?_ rfl ?_ ?_ ?_ ?_ | refine WkL.pickAt [_, _] [6] ?_ ?_ ?_ rfl ?_ ?_ ?_ ?_ | refine WkL.pickAt [_, _] [7] ?_ ?_ ?_ rfl ?_ ?_ ?_ ?_ | refine WkL.pickAt [_, _] [8] ?_ ?_ ?_ rfl ?_ ?_ ?_ ?_) <;> exact cLs))
  ·have hke : k = L.length := by omega
   subst hke
   have hv1 : vs = [evR look m a, evR look m b] := by rw [hV, hL]; rfl
   have htl : vs.take L.length = vs := List.take_of_length_le oMg
   rw [htl, hv1, grV_pos _ sMp, grO_pos _ _ sMp]
   clear hvs hvo htl hv1 hV hvl hk1 hlt
   clear iha
   clear ihb
   generalize evR look m a = A at *
   generalize evR look m b = B at *
   obtain ⟨a1, a2, a3⟩ := va
   obtain ⟨b1, b2, b3⟩ := vb
   have oa : VlOk A := ⟨a1, a2, a3⟩
   have ob : VlOk B := ⟨b1, b2, b3⟩
   have hwq : wqV [A, B] = max A.q B.q := by unfold wqV; simp only [List.foldl_cons, List.foldl_nil]; omega
   rw [hwq]
   have hrk := fun {H : Hp} {K : AV → Hp → Prop} (hk : K (.tup [(.c (.int .i64 ((rkB c A.n B.n).1))), (.c (.bool ((rkB c A.n B.n).2)))]) H) => reckonB_a (H := H) (K := K) c hc (L.map encT) (fun k hk => by
    obtain ⟨e, _, rfl⟩ := List.mem_map.1 hk
    exact ⟨(encT_ok e).2, (encT_ok e).1⟩) A B oa ob hk
   generalize rkB c A.n B.n = R at *
   obtain ⟨R1, R2⟩ := R
   dsimp only at hk hrk
   by_cases hq : max A.q B.q = 2
   ·simp only [if_pos hq] at hk
    refine gO1 hq ?_
    repeat' first | (refine badD_a ?_; refine gO ?_) | (exact Ret.drop hH lRf oKs (hk _ hX)) | apply And.intro
   ·simp only [if_neg hq] at hk
    refine gO1 hq ?_
    cases R2 with
    | false =>
     simp only [Bool.false_eq_true, if_false] at hk
     repeat' first | (refine lit2V (c := c) (x := ⟨#[]⟩) (ks := L.map encT) (a := A) (b := B) (by simp [encV]) (hrk ?_); refine gO1 hq ?_) | (refine badD_a ?_; refine gO ?_) | (exact Ret.drop hH lRf oKs (hk _ hX)) | apply And.intro
    | true =>
     simp only [if_true] at hk
     repeat' first | (refine lit2V (c := c) (x := ⟨#[]⟩) (ks := L.map encT) (a := A) (b := B) (by simp [encV]) (hrk ?_); refine gO1 hq ?_) | (refine boundD_a _ _ _ (by decide) ?_; refine gO ?_) | (exact Ret.drop hH lRf oKs (hk _ hX)) | apply And.intro
 | N + 1, .f2 g a b, T, X, K, hl, hX, hs, he, hP, hk => by
  simp only [szE] at hs
  have va := evR_ok hlv m a he.2.1
  have vb := evR_ok hlv m b he.2.2
  have iha := fun {X G : Hp} {K : AV → Hp → Prop} (hX : T X) (hk : ∀ Y, T Y → K (.agg (encV (evR look m a))) (Y ++ G)) => evalQS_a hlv m hm N a (hl.app G) ⟨X, hX, rfl⟩ oMg he.2.1 (fun p hp => hP p (by simp [leafE, hp])) (by rintro _ ⟨Y, hY, rfl⟩; exact hk Y hY)
  have ihb := fun {X G : Hp} {K : AV → Hp → Prop} (hX : T X) (hk : ∀ Y, T Y → K (.agg (encV (evR look m b))) (Y ++ G)) => evalQS_a hlv m hm N b (hl.app G) ⟨X, hX, rfl⟩ oMg he.2.2 (fun p hp => hP p (by simp [leafE, hp])) (by rintro _ ⟨Y, hY, rfl⟩; exact hk Y hY)
  have hent := hl.ent
  have hgs : g = wMin ∨ g = wMax := fn2 he.1
  have hk : ∀ Y, T Y → K (.agg (encV (if max (evR look m a).q (evR look m b).q = 2 then badV else bdV (if g = wMin then min (evR look m a).n (evR look m b).n else max (evR look m a).n (evR look m b).n) (max (evR look m a).q (evR look m b).q) 1000000000000))) Y := hk
  unfold encT
  have hvs : ∀ (k : Nat) (h : k < ([a, b]).length) {X G : Hp} {K : AV → Hp → Prop}, T X → (∀ Y, T Y → K (.agg (encV (evR look m ([a, b])[k]))) (Y ++ G)) → ACalls Tryz.prog 139 [.agg (encT ([a, b])[k]), (.c (.int .i64 m)), .c (.fn f fs cs)] (X ++ G) K := fun k h {X G} {K} hX hk => by
   match k, h with
   | 0, _ => exact iha hX hk
   | 1, _ => exact ihb hX hk
  obtain ⟨L, hL⟩ : ∃ L : List Ex, L = [a, b] := ⟨_, rfl⟩
  rw [← hL] at hvs
  have hLe : (.lst 5 [encT a, encT b] : AC) = .lst 5 (L.map encT) := by rw [hL]; rfl
  obtain ⟨vs, hV⟩ : ∃ vs : List Vl, vs = L.map (evR look m) := ⟨_, rfl⟩
  have hvl : vs.length = L.length := by rw [hV, List.length_map]
  have hvo : ∀ v ∈ vs, VlOk v := fun v hv => by
   rw [hV] at hv
   obtain ⟨e, he', rfl⟩ := List.mem_map.1 hv
   rw [hL] at he'
   simp only [List.mem_cons, List.not_mem_nil, or_false] at he'
   rcases he' with rfl | rfl
   all_goals first | exact va | exact vb
  have hLn : L.length = 2 := by rw [hL]; rfl
  rw [hLe]
  refine acalls Tryz.func139 rfl kRf gT (fun hH => ?_)
  refine gO1 hent ?_
  have hfs : ∀ p ∈ fs, p.fst < X.length + 2 := fun p hp => by have := hl.ptr X hX p (List.mem_append_left _ hp); omega
  have hcs : ∀ p ∈ cs, p.fst < X.length + 2 := fun p hp => by have := hl.ptr X hX p (List.mem_append_right _ hp); omega
  refine AWp.loop (X.length + 2) [1, 2, 3, 6, 34, 35] [7, 8, 36] (fun (s : Nat × Hp) => s.1 ≤ L.length ∧ T s.2 ∧ s.2.length = X.length) (fun (s : Nat × Hp) => [(7, .c (grV (X.length + 2) (vs.take s.1))), (8, (.c (.int .i64 (wqV (vs.take s.1))))), (36, (.c (.int .i64 (s.1))))]) (fun (s : Nat × Hp) => s.2 ++ [.row 173 5 [[.int .u8 102, .str (tB g), .int .i64 0, .lst 5 (L.map encT), .int .i64 0]] true, .row 126 2 [[.int .i64 0, .int .i64 0]] true, grO 126 2 ((vs.take s.1).map encV)]) (fun (s : Nat × Hp) => L.length - s.1) kRf (fun _ => rfl) kRf sOo sOm kl ?_ (fun s hk1 _ _ => ?_)
  ·refine Next.mk (0, X) ⟨by simp, hX, rfl⟩ ?_
   exact WkL.padP [_, _] sMp
  obtain ⟨k, X⟩ := s
  obtain ⟨hk1, hX2, hle⟩ := hk1
  dsimp only at hk1 hX2 hle ⊢
  rw [← hle]
  replace hH := hl.okd hX hX2 hH
  replace hX := hX2
  clear hX2 hle hfs hcs
  have hfs : ∀ p ∈ fs, p.fst < X.length + 2 := fun p hp => by have := hl.ptr X hX p (List.mem_append_left _ hp); omega
  have hcs : ∀ p ∈ cs, p.fst < X.length + 2 := fun p hp => by have := hl.ptr X hX p (List.mem_append_right _ hp); omega
  by_cases hlt : k < L.length
  ·have htk : vs.take (k + 1) = vs.take k ++ [vs[k]'oMg] := by rw [List.take_succ_eq_append_getElem oMg]
   have hvk : vs[k]'oMg = evR look m L[k] := by simp only [hV, List.getElem_map]
   simp (disch := first | omega | (simp only [go_sem]; try omega)) only [go_sem, hlt, encT_l, encT_t]
   have hul : (vs.take k).length = k := by rw [List.length_take]; omega
   refine hvs k hlt hX (fun X hX2 => ?_)
   have hle := (hl.sim _ _ hX hX2).1
   rw [← hle]
   replace hH := hl.okd hX hX2 hH
   replace hX := hX2
   clear hX2 hle hfs hcs
   have hfs : ∀ p ∈ fs, p.fst < X.length + 2 := fun p hp => by have := hl.ptr X hX p (List.mem_append_left _ hp); omega
   have hcs : ∀ p ∈ cs, p.fst < X.length + 2 := fun p hp => by have := hl.ptr X hX p (List.mem_append_right _ hp); omega
   rw [← hvk]
   generalize vs[k]'oMg = v at *
   generalize vs.take k = us at *
   refine gO2 encT_l encT_t ?_
   refine w_tree (.one 0 (.one 1 (.one 4 (.one 5 (.two 2 (.two 3 (.one 6 (.one 7 (.one 8 (.one 9 .done)))) 6 (.one 7 (.one 3 (.one 8 (.one 9 .done))))) 6 (.one 7 (.one 2 (.one 3 (.one 8 (.one 9 .done)))))))))) kRf dKn ?_
   refine gO ?_
   repeat' apply And.intro
   all_goals ((refine app_gr (enc := encV) (e := 126) (sz := 2) (bs := 16) (z := [.int .i64 0, .int .i64 0]) (us) (v) kRf kRf kRf kRf aTT (by first | (refine gO ?_; done) | (refine gO ?_; rfl) | (refine gO ?_; simp [go_sem]; done) | (refine gO ?_; simp [*]; done)) rfl (by decide) oMg oMg (by rfl) ?_))
   all_goals (refine gO ?_)
   all_goals refine Next.mk (k + 1, X) ⟨⟨by dsimp only; omega, hX, rfl⟩, by dsimp only; omega⟩ ?_
   all_goals dsimp only
   all_goals rw [htk, wqV_snoc]
   all_goals (((try refine gO ?_); (first | refine WkL.pickAt [_, _] [0] ?_ ?_ ?_ rfl ?_ ?_ ?_ ?_ | refine WkL.pickAt [_, _] [1] ?_ ?_ ?_ rfl ?_ ?_ ?_ ?_ | refine WkL.pickAt [_, _] [2] ?_ ?_ ?_ rfl ?_ ?_ ?_ ?_ | refine WkL.pickAt [_, _] [3] ?_ ?_ ?_ rfl ?_ ?_ ?_ ?_ | refine WkL.pickAt [_, _] [4] ?_ ?_ ?_ rfl ?_ ?_ ?_ ?_ | refine WkL.pickAt [_, _] [5] ?_ ?_ ?_ rfl ?_ ?_ ?_ ?_ | refine WkL.pickAt [_, _] [6] ?_ ?_ ?_ rfl ?_ ?_ ?_ ?_ | refine WkL.pickAt [_, _] [7] ?_ ?_ ?_ rfl ?_ ?_ ?_ ?_ | refine WkL.pickAt [_, _] [8] ?_ ?_ ?_ rfl ?_ ?_ ?_ ?_) <;> exact cLs))
  ·have hke : k = L.length := by omega
   subst hke
   have hv1 : vs = [evR look m a, evR look m b] := by rw [hV, hL]; rfl
   have htl : vs.take L.length = vs := List.take_of_length_le oMg
   rw [htl, hv1, grV_pos _ sMp, grO_pos _ _ sMp]
   clear hvs hvo htl hv1 hV hvl hk1 hlt
   clear iha
   clear ihb
   generalize evR look m a = A at *
   generalize evR look m b = B at *
   obtain ⟨a1, a2, a3⟩ := va
   obtain ⟨b1, b2, b3⟩ := vb
   have oa : VlOk A := ⟨a1, a2, a3⟩
   have ob : VlOk B := ⟨b1, b2, b3⟩
   have hwq : wqV [A, B] = max A.q B.q := by unfold wqV; simp only [List.foldl_cons, List.foldl_nil]; omega
   rw [hwq]
   rcases hgs with rfl | rfl
   ·simp only [if_pos (rfl : wMin = wMin)] at hk
    by_cases hq : max A.q B.q = 2
    ·simp only [if_pos hq] at hk
     refine gO1 hq ?_
     repeat' first | (refine badD_a ?_; refine gO ?_) | (exact Ret.drop hH lRf oKs (hk _ hX)) | apply And.intro
    ·simp only [if_neg hq] at hk
     refine gO1 hq ?_
     repeat' first | (refine lit2V (c := 102) (x := tB wMin) (ks := L.map encT) (a := A) (b := B) (by simp [encV]) (reckonN_a (L.map encT) A B ?_); refine gO1 hq ?_) | (refine boundD_a _ _ _ (by decide) ?_; refine gO ?_) | (exact Ret.drop hH lRf oKs (hk _ hX)) | apply And.intro
   ·simp only [if_neg (by decide : ¬ wMax = wMin)] at hk
    by_cases hq : max A.q B.q = 2
    ·simp only [if_pos hq] at hk
     refine gO1 hq ?_
     repeat' first | (refine badD_a ?_; refine gO ?_) | (exact Ret.drop hH lRf oKs (hk _ hX)) | apply And.intro
    ·simp only [if_neg hq] at hk
     refine gO1 hq ?_
     repeat' first | (refine lit2V (c := 102) (x := tB wMax) (ks := L.map encT) (a := A) (b := B) (by simp [encV]) (reckonX_a (L.map encT) A B ?_); refine gO1 hq ?_) | (refine boundD_a _ _ _ (by decide) ?_; refine gO ?_) | (exact Ret.drop hH lRf oKs (hk _ hX)) | apply And.intro
 | N + 1, .f3 g a b c, T, X, K, hl, hX, hs, he, hP, hk => by
  simp only [szE] at hs
  have va := evR_ok hlv m a he.2.1
  have vb := evR_ok hlv m b he.2.2.1
  have vc := evR_ok hlv m c he.2.2.2
  have iha := fun {X G : Hp} {K : AV → Hp → Prop} (hX : T X) (hk : ∀ Y, T Y → K (.agg (encV (evR look m a))) (Y ++ G)) => evalQS_a hlv m hm N a (hl.app G) ⟨X, hX, rfl⟩ oMg he.2.1 (fun p hp => hP p (by simp [leafE, hp])) (by rintro _ ⟨Y, hY, rfl⟩; exact hk Y hY)
  have ihb := fun {X G : Hp} {K : AV → Hp → Prop} (hX : T X) (hk : ∀ Y, T Y → K (.agg (encV (evR look m b))) (Y ++ G)) => evalQS_a hlv m hm N b (hl.app G) ⟨X, hX, rfl⟩ oMg he.2.2.1 (fun p hp => hP p (by simp [leafE, hp])) (by rintro _ ⟨Y, hY, rfl⟩; exact hk Y hY)
  have ihc := fun {X G : Hp} {K : AV → Hp → Prop} (hX : T X) (hk : ∀ Y, T Y → K (.agg (encV (evR look m c))) (Y ++ G)) => evalQS_a hlv m hm N c (hl.app G) ⟨X, hX, rfl⟩ oMg he.2.2.2 (fun p hp => hP p (by simp [leafE, hp])) (by rintro _ ⟨Y, hY, rfl⟩; exact hk Y hY)
  have hent := hl.ent
  obtain rfl := fn3 he.1
  have hk : ∀ Y, T Y → K (.agg (encV (bdV (if (evR look m a).n = 0 then (evR look m c).n else (evR look m b).n) (max (if (evR look m a).n = 0 then (evR look m c).q else (evR look m b).q) (evR look m a).q) 1000000000000))) Y := hk
  unfold encT
  have hvs : ∀ (k : Nat) (h : k < ([a, b, c]).length) {X G : Hp} {K : AV → Hp → Prop}, T X → (∀ Y, T Y → K (.agg (encV (evR look m ([a, b, c])[k]))) (Y ++ G)) → ACalls Tryz.prog 139 [.agg (encT ([a, b, c])[k]), (.c (.int .i64 m)), .c (.fn f fs cs)] (X ++ G) K := fun k h {X G} {K} hX hk => by
   match k, h with
   | 0, _ => exact iha hX hk
   | 1, _ => exact ihb hX hk
   | 2, _ => exact ihc hX hk
  obtain ⟨L, hL⟩ : ∃ L : List Ex, L = [a, b, c] := ⟨_, rfl⟩
  rw [← hL] at hvs
  have hLe : (.lst 5 [encT a, encT b, encT c] : AC) = .lst 5 (L.map encT) := by rw [hL]; rfl
  obtain ⟨vs, hV⟩ : ∃ vs : List Vl, vs = L.map (evR look m) := ⟨_, rfl⟩
  have hvl : vs.length = L.length := by rw [hV, List.length_map]
  have hvo : ∀ v ∈ vs, VlOk v := fun v hv => by
   rw [hV] at hv
   obtain ⟨e, he', rfl⟩ := List.mem_map.1 hv
   rw [hL] at he'
   simp only [List.mem_cons, List.not_mem_nil, or_false] at he'
   rcases he' with rfl | rfl | rfl
   all_goals first | exact va | exact vb | exact vc
  have hLn : L.length = 3 := by rw [hL]; rfl
  rw [hLe]
  refine acalls Tryz.func139 rfl kRf gT (fun hH => ?_)
  refine gO1 hent ?_
  have hfs : ∀ p ∈ fs, p.fst < X.length + 2 := fun p hp => by have := hl.ptr X hX p (List.mem_append_left _ hp); omega
  have hcs : ∀ p ∈ cs, p.fst < X.length + 2 := fun p hp => by have := hl.ptr X hX p (List.mem_append_right _ hp); omega
  refine AWp.loop (X.length + 2) [1, 2, 3, 6, 34, 35] [7, 8, 36] (fun (s : Nat × Hp) => s.1 ≤ L.length ∧ T s.2 ∧ s.2.length = X.length) (fun (s : Nat × Hp) => [(7, .c (grV (X.length + 2) (vs.take s.1))), (8, (.c (.int .i64 (wqV (vs.take s.1))))), (36, (.c (.int .i64 (s.1))))]) (fun (s : Nat × Hp) => s.2 ++ [.row 173 5 [[.int .u8 102, .str (tB wIf), .int .i64 0, .lst 5 (L.map encT), .int .i64 0]] true, .row 126 2 [[.int .i64 0, .int .i64 0]] true, grO 126 2 ((vs.take s.1).map encV)]) (fun (s : Nat × Hp) => L.length - s.1) kRf (fun _ => rfl) kRf sOo sOm kl ?_ (fun s hk1 _ _ => ?_)
  ·refine Next.mk (0, X) ⟨by simp, hX, rfl⟩ ?_
   exact WkL.padP [_, _] sMp
  obtain ⟨k, X⟩ := s
  obtain ⟨hk1, hX2, hle⟩ := hk1
  dsimp only at hk1 hX2 hle ⊢
  rw [← hle]
  replace hH := hl.okd hX hX2 hH
  replace hX := hX2
  clear hX2 hle hfs hcs
  have hfs : ∀ p ∈ fs, p.fst < X.length + 2 := fun p hp => by have := hl.ptr X hX p (List.mem_append_left _ hp); omega
  have hcs : ∀ p ∈ cs, p.fst < X.length + 2 := fun p hp => by have := hl.ptr X hX p (List.mem_append_right _ hp); omega
  by_cases hlt : k < L.length
  ·have htk : vs.take (k + 1) = vs.take k ++ [vs[k]'oMg] := by rw [List.take_succ_eq_append_getElem oMg]
   have hvk : vs[k]'oMg = evR look m L[k] := by simp only [hV, List.getElem_map]
   simp (disch := first | omega | (simp only [go_sem]; try omega)) only [go_sem, hlt, encT_l, encT_t]
   have hul : (vs.take k).length = k := by rw [List.length_take]; omega
   refine hvs k hlt hX (fun X hX2 => ?_)
   have hle := (hl.sim _ _ hX hX2).1
   rw [← hle]
   replace hH := hl.okd hX hX2 hH
   replace hX := hX2
   clear hX2 hle hfs hcs
   have hfs : ∀ p ∈ fs, p.fst < X.length + 2 := fun p hp => by have := hl.ptr X hX p (List.mem_append_left _ hp); omega
   have hcs : ∀ p ∈ cs, p.fst < X.length + 2 := fun p hp => by have := hl.ptr X hX p (List.mem_append_right _ hp); omega
   rw [← hvk]
   generalize vs[k]'oMg = v at *
   generalize vs.take k = us at *
   refine gO2 encT_l encT_t ?_
   refine w_tree (.one 0 (.one 1 (.one 4 (.one 5 (.two 2 (.two 3 (.one 6 (.one 7 (.one 8 (.one 9 .done)))) 6 (.one 7 (.one 3 (.one 8 (.one 9 .done))))) 6 (.one 7 (.one 2 (.one 3 (.one 8 (.one 9 .done)))))))))) kRf dKn ?_
   refine gO ?_
   repeat' apply And.intro
   all_goals ((refine app_gr (enc := encV) (e := 126) (sz := 2) (bs := 16) (z := [.int .i64 0, .int .i64 0]) (us) (v) kRf kRf kRf kRf aTT (by first | (refine gO ?_; done) | (refine gO ?_; rfl) | (refine gO ?_; simp [go_sem]; done) | (refine gO ?_; simp [*]; done)) rfl (by decide) oMg oMg (by rfl) ?_))
   all_goals (refine gO ?_)
   all_goals refine Next.mk (k + 1, X) ⟨⟨by dsimp only; omega, hX, rfl⟩, by dsimp only; omega⟩ ?_
   all_goals dsimp only
   all_goals rw [htk, wqV_snoc]
   all_goals (((try refine gO ?_); (first | refine WkL.pickAt [_, _] [0] ?_ ?_ ?_ rfl ?_ ?_ ?_ ?_ | refine WkL.pickAt [_, _] [1] ?_ ?_ ?_ rfl ?_ ?_ ?_ ?_ | refine WkL.pickAt [_, _] [2] ?_ ?_ ?_ rfl ?_ ?_ ?_ ?_ | refine WkL.pickAt [_, _] [3] ?_ ?_ ?_ rfl ?_ ?_ ?_ ?_ | refine WkL.pickAt [_, _] [4] ?_ ?_ ?_ rfl ?_ ?_ ?_ ?_ | refine WkL.pickAt [_, _] [5] ?_ ?_ ?_ rfl ?_ ?_ ?_ ?_ | refine WkL.pickAt [_, _] [6] ?_ ?_ ?_ rfl ?_ ?_ ?_ ?_ | refine WkL.pickAt [_, _] [7] ?_ ?_ ?_ rfl ?_ ?_ ?_ ?_ | refine WkL.pickAt [_, _] [8] ?_ ?_ ?_ rfl ?_ ?_ ?_ ?_) <;> exact cLs))
  ·have hke : k = L.length := by omega
   subst hke
   have hv1 : vs = [evR look m a, evR look m b, evR look m c] := by rw [hV, hL]; rfl
   have htl : vs.take L.length = vs := List.take_of_length_le oMg
   rw [htl, hv1, grV_pos _ sMp, grO_pos _ _ sMp]
   clear hvs hvo htl hv1 hV hvl hk1 hlt
   clear iha
   clear ihb
   clear ihc
   generalize evR look m a = A at *
   generalize evR look m b = B at *
   generalize evR look m c = C at *
   obtain ⟨a1, a2, a3⟩ := va
   obtain ⟨b1, b2, b3⟩ := vb
   obtain ⟨c1, c2, c3⟩ := vc
   have oa : VlOk A := ⟨a1, a2, a3⟩
   have ob : VlOk B := ⟨b1, b2, b3⟩
   have oc : VlOk C := ⟨c1, c2, c3⟩
   have hwq : wqV [A, B, C] = max (max A.q B.q) C.q := by unfold wqV; simp only [List.foldl_cons, List.foldl_nil]; omega
   rw [hwq]
   by_cases hq : A.n = 0
   ·simp only [if_pos hq, if_pos hq] at hk
    refine gO1 hq ?_
    repeat' first | (refine w_tree (.one 0 (.one 1 (.one 2 (.one 3 (.one 4 (.one 5 (.one 6 (.one 7 (.one 8 .done))))))))) kRf dKn ?_; refine gO1 hq ?_) | (refine boundD_a _ _ _ (by decide) ?_; refine gO ?_) | (exact Ret.drop hH lRf oKs (hk _ hX)) | apply And.intro
   ·simp only [if_neg hq, if_neg hq] at hk
    refine gO1 hq ?_
    repeat' first | (refine w_tree (.one 0 (.one 1 (.one 2 (.one 3 (.one 4 (.one 5 (.one 6 (.one 7 (.one 8 .done))))))))) kRf dKn ?_; refine gO1 hq ?_) | (refine boundD_a _ _ _ (by decide) ?_; refine gO ?_) | (exact Ret.drop hH lRf oKs (hk _ hX)) | apply And.intro
end Go.Proofs.YtagoolooikpabaaGreatDoor
