/- Several texts in one: The document's parser: rows of operands, and what follows. No condition. -/
import Derived.Test.YtagoolooikpabaaGreatDoorHVQrsB
set_option linter.all false
namespace Go.Proofs.YtagoolooikpabaaGreatDoor
open Go Go.RowKit
set_option maxRecDepth 100000
set_option maxHeartbeats 2000000
variable {H : Hp} {K : AV → Hp → Prop}
def encT : Ex → List AC
 | .num n => [.int .u8 110, .str ⟨#[]⟩, .int .i64 n, .sl none 0, .int .i64 0]
 | .tag x s => [.int .u8 119, .str (tB x), .int .i64 0, .sl none 0, .int .i64 (s.getD (-1))]
 | .neg a => [.int .u8 109, .str ⟨#[]⟩, .int .i64 0, .lst 5 [encT a], .int .i64 0]
 | .bin c a b => [.int .u8 c.toNat, .str ⟨#[]⟩, .int .i64 0, .lst 5 [encT a, encT b], .int .i64 0]
 | .f1 f a => [.int .u8 102, .str (tB f), .int .i64 0, .lst 5 [encT a], .int .i64 0]
 | .f2 f a b => [.int .u8 102, .str (tB f), .int .i64 0, .lst 5 [encT a, encT b], .int .i64 0]
 | .f3 f a b c => [.int .u8 102, .str (tB f), .int .i64 0, .lst 5 [encT a, encT b, encT c], .int .i64 0]
def okT (cs : List AC) : Prop := cs.length = 5 ∧ cs.all AC.pure = true
theorem encT_ok (e : Ex) : okT (encT e) := by cases e <;> exact ⟨rfl, rfl⟩
theorem okT.cells {cs : List AC} (h : okT cs) : ∃ a b c d e, cs = [a, b, c, d, e] ∧ a.pure = true ∧ b.pure = true ∧ c.pure = true ∧ d.pure = true ∧ e.pure = true := by
 obtain ⟨h1, h2⟩ := h
 match cs, h1 with
 | [a, b, c, d, e], _ =>
  simp only [List.all_cons, List.all_nil, Bool.and_true, Bool.and_eq_true] at h2
  exact ⟨a, b, c, d, e, rfl, h2.1, h2.2.1, h2.2.2.1, h2.2.2.2.1, h2.2.2.2.2⟩
theorem okT.ok {cs : List AC} (h : okT cs) (n : Nat) : (AV.agg cs).ok n := fun x hx => AC.ok_of_pure (List.all_eq_true.1 h.2 x hx) n
theorem okT.row {cs : List AC} (h : okT cs) (n : Nat) (ty : Nat) (own : Bool) : (AObj.row ty 5 [cs] own).okN n := by
 intro e he
 rw [List.mem_singleton] at he
 subst he
 exact ⟨h.1, fun x hx => AC.ok_of_pure (List.all_eq_true.1 h.2 x hx) n⟩
def RdQ (l : List UInt8) (f : FuncId) (args : List AV) (i : Nat) (side : Hp → Prop) (n : Nat) (d : Int) (rd : List Tok → Int → PR Ex) : Prop :=
 ∀ (H : Hp) (K : AV → Hp → Prop) (T : List Tok) (dp : Int), H[i]? = some (psQ T d dp (-1)) → side H → Tl l T → T.length ≤ n →
  (∀ x T' dp', rd T dp = .ok (x, T', dp') → K (.agg (encT x)) (H.set i (psQ T' d dp' (-1)))) →
  (∀ (e : Nat) (T' : List Tok) (d' dp' : Int) (cs : List AC), rd T dp = .error e → okT cs → K (.agg cs) (H.set i (psQ T' d' dp' e))) →
  ACalls Tryz.prog f args H K
structure QEr where
 e : Nat
 cs : List AC
 T : List Tok
 d : Int
 dp : Int
def qV : JS ⊕ QEr → List AC
 | .inl q => encT q.x
 | .inr q => q.cs
def qO (d : Int) : JS ⊕ QEr → AObj
 | .inl q => psQ q.T d q.dp (-1)
 | .inr q => psQ q.T q.d q.dp q.e
def qI (l : List UInt8) (ops : List UInt8) (rd : List Tok → Int → PR Ex) (d : Int) (N : Nat) (res : PR Ex) : JS ⊕ QEr → Prop
 | .inl q => rowF ops rd d q.m q.x q.T q.dp = res ∧ Tl l q.T ∧ q.T.length ≤ N ∧ q.T.length ≤ q.m
 | .inr q => res = .error q.e ∧ okT q.cs
def qM : JS ⊕ QEr → Nat
 | .inl q => q.T.length + 1
 | .inr _ => 0
@[go_sem] def zT : List AC := [.int .u8 0, .str ⟨#[]⟩, .int .i64 0, .sl none 0, .int .i64 0]
theorem WkL.binT {A : Hp} {m n p ty ty2 ty3 : Nat} {c : UInt8} {x y z b : List AC} {o1 o2 o3 o4 : Bool} (hA : HOk A) (hz : okT z) (hx : okT x) (hy : okT y) (hm : m ≤ A.length + 2) (hn : n = A.length + 3) :
  WkL m [] (A ++ [.row ty 5 [z] o1, .row ty2 5 [[.int .u8 c.toNat, .str ⟨#[]⟩, .int .i64 0, .sl (some (n, 0)) 2, .int .i64 0]] o2, .row ty3 5 [b] o3, .row p 5 [x, y] o4]) [] (A ++ [.row ty 5 [z] o1, .row ty2 5 [[.int .u8 c.toNat, .str ⟨#[]⟩, .int .i64 0, .lst 5 [x, y], .int .i64 0]] o2]) := by
 subst hn
 have hp : pureL [x, y] = true := by
  unfold pureL
  simp only [List.all_cons, List.all_nil, Bool.and_true, Bool.and_eq_true]
  exact ⟨hx.2, hy.2⟩
 refine (WkL.frzO (i := A.length + 3) (j := A.length + 1) (ty := p) (sz := 5) (els := [x, y]) (own := o4) (ty2 := ty2) (sz2 := 5) (els2 := [[.int .u8 c.toNat, .str ⟨#[]⟩, .int .i64 0, .sl (some (A.length + 3, 0)) 2, .int .i64 0]]) (own2 := o2) (by simp) hp (by simp; omega) (by simp) (by omega)).trans ?_
 rw [List.set_append_right _ _ (by omega), List.set_append_right _ _ (by omega)]
 simp only [Nat.add_sub_cancel_left, List.set_cons_succ, List.set_cons_zero, List.map_cons, List.map_nil, AC.frzX, if_true, List.length_cons, List.length_nil]
 refine WkL.keepL hA rfl (by simpa using hm) rfl ?_ (by simp)
 intro o ho
 simp only [List.mem_cons, List.not_mem_nil, or_false] at ho
 rcases ho with rfl | rfl
 ·exact hz.row _ _ _
 ·intro e he
  rw [List.mem_singleton] at he
  subst he
  refine ⟨rfl, fun w hw => ?_⟩
  simp only [List.mem_cons, List.not_mem_nil, or_false] at hw
  rcases hw with rfl | rfl | rfl | rfl | rfl <;> simp [AC.ok]
theorem lit2 {x y : List AC} (hx : x.length = 5) (hy : y.length = 5) : litEls 5 0 [(0, AV.agg x), (1, AV.agg y)] = some [x, y] := by simp [litEls, AV.cells, hx, hy]
theorem lit1 {x : List AC} (hx : x.length = 5) : litEls 5 0 [(0, AV.agg x)] = some [x] := by simp [litEls, AV.cells, hx]
theorem zT_ok : okT zT := ⟨rfl, rfl⟩
theorem row_a {l : List UInt8} (hl : l.length ≤ 1000) {f : FuncId} {fs cs : List (Nat × Nat × Nat)} {i : Nat} {side : Hp → Prop} {n : Nat} {d : Int} {rd : List Tok → Int → PR Ex} (hent : entersB Tryz.prog f = true) (hrd : RdQ l f (fs.map (fun p => AV.c (.ptr (some p))) ++ cs.map (fun p => AV.c (.ptr (some p)))) i side n d rd) (hg : RdG l rd) (ops : List UInt8) (ho : ∀ c ∈ ops, c ∈ sgnL) (T : List Tok) (dp : Int)
  (hi : H[i]? = some (psQ T d dp (-1))) (hsd : ∀ (X : AObj) (G : Hp), side (H.set i X ++ G)) (hsd0 : ∀ G : Hp, side (H ++ G)) (hT : Tl l T) (hn : T.length ≤ n) (hfs : ∀ p ∈ fs, p.1 < H.length) (hcs : ∀ p ∈ cs, p.1 < H.length)
  (hk1 : ∀ x T' dp', joinF ops true rd d T dp = .ok (x, T', dp') → K (.agg (encT x)) (H.set i (psQ T' d dp' (-1))))
  (hk2 : ∀ (e : Nat) (T' : List Tok) (d' dp' : Int) (cs : List AC), joinF ops true rd d T dp = .error e → okT cs → K (.agg cs) (H.set i (psQ T' d' dp' e))) :
  ACalls Tryz.prog 221 [.c (.ptr (some (i, 0, 0))), (.c (.str (tB ops))), .c (.fn f fs cs)] H K := by
 have hil := getElem?_lt hi
 have hat0 : ∀ G : Hp, (H ++ G)[i]? = some (psQ T d dp (-1)) := fun G => by rw [List.getElem?_append_left hil]; exact hi
 have hset0 : ∀ (X : AObj) (G : Hp), (H ++ G).set i X = H.set i X ++ G := fun X G => by rw [List.set_append_left _ _ hil]
 have hat : ∀ (X : AObj) (G : Hp), (H.set i X ++ G)[i]? = some X := fun X G => by rw [List.getElem?_append_left (by simpa using hil), List.getElem?_set_self hil]
 have hset : ∀ (X Y : AObj) (G : Hp), (H.set i X ++ G).set i Y = H.set i Y ++ G := fun X Y G => by rw [List.set_append_left _ _ (by simpa using hil), List.set_set]
 refine acalls Tryz.func221 rfl (by kernel_rfl) (by simp (disch := first | omega | (simp only [go_sem]; try omega)) only [go_sem]) (fun hH => ?_)
 simp (disch := first | omega | (simp only [go_sem]; try omega)) only [go_sem, hent]
 refine hrd _ _ T dp (hat0 _) (hsd0 _) hT hn (fun x T1 dp1 h1 => ?_) (fun e T' d' dp' cs h1 hcs => ?_)
 ·obtain ⟨g1, g2, g3⟩ := hg _ _ _ _ _ hT h1
  have hj : joinF ops true rd d T dp = rowF ops rd d T1.length x T1 dp1 := by unfold joinF; rw [h1]; rfl
  rw [hj] at hk1 hk2
  obtain ⟨res, hres⟩ : ∃ res, res = rowF ops rd d T1.length x T1 dp1 := ⟨_, rfl⟩
  rw [← hres] at hk1 hk2
  have hex : ∀ x, (encT x).length = 5 := fun x => (encT_ok x).1
  have hte : ∀ x, (encT x).take 5 = encT x := fun x => List.take_of_length_le (by rw [hex]; exact Nat.le_refl _)
  have hde : ∀ x, (encT x).drop 5 = [] := fun x => List.drop_eq_nil_of_le (by rw [hex]; exact Nat.le_refl _)
  have hokO : ∀ s : JS ⊕ QEr, HOk (H.set i (qO d s)) := fun s => HOk.set hH (by cases s <;> exact psQ_ok _)
  have hvO : ∀ s : JS ⊕ QEr, qI l ops rd d T1.length res s → okT (qV s) := fun s hs => by
   cases s with
   | inl q => exact encT_ok _
   | inr q => exact hs.2
  have hfs2 : ∀ p ∈ fs, p.1 < H.length + 2 := fun p hp => by have := hfs p hp; omega
  have hcs2 : ∀ p ∈ cs, p.1 < H.length + 2 := fun p hp => by have := hcs p hp; omega
  rw [hset0]
  simp (disch := first | omega | (simp only [go_sem]; try omega)) only [go_sem, hex]
  refine AWp.loop (H.length + 2) [0, 1, 2, 6, 7] [] (fun (s : JS ⊕ QEr) => qI l ops rd d T1.length res s) (fun (s : JS ⊕ QEr) => []) (fun (s : JS ⊕ QEr) => H.set i (qO d s) ++ [.row 173 5 [zT] true, .row 173 5 [qV s] true]) (fun (s : JS ⊕ QEr) => qM s) (by kernel_rfl) (fun _ => rfl) (by kernel_rfl) (by first | (simp; done) | omega) (by first | (simp; done) | (simp; omega) | omega) kl ?_ (fun s q _ _ => ?_)
  ·refine Next.mk (.inl ⟨x, T1, dp1, T1.length⟩) ⟨hres.symm, g2, Nat.le_refl _, Nat.le_refl _⟩ ?_
   exact WkL.refl (by simp)
  have hq5 := (hvO s q).1
  rcases s with ⟨x, T, dp, m⟩ | ⟨e, cs, T', d', dp'⟩
  ·obtain ⟨q1, q2, q3, q4⟩ := q
   dsimp only at q1 q2 q3 q4
   obtain ⟨t, T2, rfl, htk, _⟩ := q2.head
   obtain ⟨m', rfl⟩ : ∃ m', m = m' + 1 := ⟨m - 1, by rw [List.length_cons] at q4; omega⟩
   have hstep : rowF ops rd d (m' + 1) x (t :: T2) dp = match sgT t ops with
    | none => .ok (x, t :: T2, dp)
    | some c => match rd T2 (deepF d dp t) with
     | .error e => .error e
     | .ok (y, T3, dp3) => rowF ops rd d m' (.bin c x y) T3 dp3 := rfl
   rw [q1] at hstep
   have hqk := qK_k htk
   rw [show qO d (.inl ⟨x, t :: T2, dp, m' + 1⟩) = .row 243 4 [[.lst 3 ((t :: T2).map encQ), .int .i64 d, .int .i64 (-1), .int .i64 dp]] true from rfl, show qV (.inl ⟨x, t :: T2, dp, m' + 1⟩) = encT x from rfl]
   simp (disch := first | omega | (simp only [go_sem]; try omega)) only [go_sem, hent]
   refine nextQ_a (t := t) (T := T2) (d := d) (dp := dp) (bad := -1) (hat _ _) ?_
   simp (disch := first | omega | (simp only [go_sem]; try omega)) only [go_sem]
   refine ixb_a (tB ops) ops rfl (qB t) ?_
   simp (disch := first | omega | (simp only [go_sem]; try omega)) only [go_sem]
   rw [ix_mem, hqk.2.2.2 ops ho]
   cases hsg : sgT t ops with
   | some c =>
    rw [hsg] at hstep
    dsimp only at hstep
    obtain ⟨s1, s2, s3⟩ := sgT_some hsg
    have hT2 : Tl l T2 := (q2.next (by omega)).1
    have hqc : qK t = c.toNat := by unfold qK qB; rw [s1, s2]; rfl
    simp (disch := first | omega | (simp only [go_sem]; try omega)) only [go_sem]
    refine takeQ_a (t := t) (T := T2) (d := d) (dp := dp) (tl_ne q2 (by omega)) (fun h => by have := hqk.1.1 h; omega) (hat _ _) ?_
    rw [hset]
    rw [List.length_cons] at q3 q4
    simp (disch := first | omega | (simp only [go_sem]; try omega)) only [go_sem, hent, hqc]
    refine hrd _ _ T2 (deepF d dp t) (hat _ _) (hsd _ _) hT2 (by omega) (fun y T3 dp3 hy => ?_) (fun e T' d' dp' cs hy hcs => ?_)
    ·rw [hy] at hstep
     dsimp only at hstep
     obtain ⟨r1, r2, r3⟩ := hg _ _ _ _ _ hT2 hy
     rw [hset]
     have hlit := lit2 (hex x) (hex y)
     simp (disch := first | omega | (simp only [go_sem]; try omega)) only [go_sem, hex, hte, hde, hlit]
     refine Next.mk (.inl ⟨.bin c x y, T3, dp3, m'⟩) ⟨⟨hstep.symm, r2, by dsimp only; omega, by dsimp only; omega⟩, ?_⟩ ?_
     ·show T3.length + 1 < (t :: T2).length + 1
      rw [List.length_cons]
      omega
     ·have := WkL.binT (m := H.length + 2) (n := H.length + 3) (c := c) (o1 := true) (o2 := true) (o3 := true) (o4 := true) (ty := 173) (ty2 := 173) (ty3 := 173) (p := 173) (b := encT y) (hokO (Sum.inl (JS.mk (.bin c x y) T3 dp3 m'))) zT_ok (encT_ok x) (encT_ok y) (by simp) (by simp)
      simp (disch := first | omega | (simp only [go_sem]; try omega)) only [go_sem]
      exact this
    ·rw [hy] at hstep
     dsimp only at hstep
     have hc5 := hcs.1
     have htc : cs.take 5 = cs := List.take_of_length_le (by rw [hc5]; exact Nat.le_refl _)
     rw [hset]
     have hlit := lit2 (hex x) hc5
     simp (disch := first | omega | (simp only [go_sem]; try omega)) only [go_sem, hex, hte, hde, hc5, htc, hlit]
     refine Next.mk (.inr ⟨e, [.int .u8 c.toNat, .str ⟨#[]⟩, .int .i64 0, .lst 5 [encT x, cs], .int .i64 0], T', d', dp'⟩) ⟨⟨hstep, rfl, rfl⟩, ?_⟩ ?_
     ·show 0 < (t :: T2).length + 1
      omega
     ·have := WkL.binT (m := H.length + 2) (n := H.length + 3) (c := c) (o1 := true) (o2 := true) (o3 := true) (o4 := true) (ty := 173) (ty2 := 173) (ty3 := 173) (p := 173) (b := cs) (hokO (Sum.inr (QEr.mk e [.int .u8 c.toNat, .str ⟨#[]⟩, .int .i64 0, .lst 5 [encT x, cs], .int .i64 0] T' d' dp'))) zT_ok (encT_ok x) hcs (by simp) (by simp)
      simp (disch := first | omega | (simp only [go_sem]; try omega)) only [go_sem]
      exact this
   | none =>
    rw [hsg] at hstep
    have hk := hk1 _ _ _ hstep
    simp (disch := first | omega | (simp only [go_sem]; try omega)) only [go_sem, hex, hte]
    exact Ret.drop (HOk.psQ (T := t :: T2) (d := d) (dp := dp) (bad := -1) hH) (by simp) ((encT_ok x).ok _) hk
  ·obtain ⟨hr, hcs⟩ := q
   have hcs : okT cs := hcs
   have hk := hk2 e T' d' dp' cs hr hcs
   rw [show qO d (.inr ⟨e, cs, T', d', dp'⟩) = .row 243 4 [[.lst 3 (T'.map encQ), .int .i64 d', .int .i64 e, .int .i64 dp']] true from rfl, show qV (.inr ⟨e, cs, T', d', dp'⟩) = cs from rfl]
   have hc5 := hcs.1
   have htc : cs.take 5 = cs := List.take_of_length_le (by rw [hc5]; exact Nat.le_refl _)
   simp (disch := first | omega | (simp only [go_sem]; try omega)) only [go_sem, hc5, htc]
   exact Ret.drop (HOk.psQ (T := T') (d := d') (dp := dp') (bad := e) hH) (by simp) (hcs.ok _) hk
 ·have hj : joinF ops true rd d T dp = .error e := by unfold joinF; rw [h1]
  have hk := hk2 e T' d' dp' cs hj hcs
  obtain ⟨a0, a1, a2, a3, a4, rfl, _⟩ := hcs.cells
  rw [hset0]
  unfold psQ at hk ⊢
  simp (disch := first | omega | (simp only [go_sem]; try omega)) only [go_sem]
  refine AWp.rounds 0 (by kernel_rfl) ?_
  simp (disch := first | omega | (simp only [go_sem]; try omega)) only [go_sem]
  exact Ret.drop (HOk.psQ hH) (by simp) (hcs.ok _) hk
end Go.Proofs.YtagoolooikpabaaGreatDoor
namespace Go.Proofs.YtagoolooikpabaaGreatDoor
open Go Go.RowKit
set_option maxRecDepth 100000
set_option maxHeartbeats 2000000
variable {H : Hp} {K : AV → Hp → Prop}
def noSide : Hp → Prop := fun _ => True
def cellP (i : Nat) : AObj := .row 239 1 [[.ptr (some (i, 0, 0))]] true
def sideC (c i : Nat) : Hp → Prop := fun H => H[c]? = some (cellP i)
theorem prodQ1_a {l : List UInt8} (hl : l.length ≤ 1000) {i c n : Nat} (hci : c ≠ i) {d : Int} {fc : Int → List Tok → Int → PR Ex} (hf : RdQ l 223 [.c (.ptr (some (i, 0, 0)))] i noSide n d (fc d)) (hg : RdG l (fc d)) : RdQ l 222 [.c (.ptr (some (c, 0, 0)))] i (sideC c i) n d (prodG fc d) := by
 intro H K T dp hi hs hT hn hk1 hk2
 have hil := getElem?_lt hi
 have hcl := getElem?_lt hs
 have hset0 : ∀ (X : AObj) (G : Hp), (H ++ G).set i X = H.set i X ++ G := fun X G => by rw [List.set_append_left _ _ hil]
 have hs' : H[c]? = some (.row 239 1 [[.ptr (some (i, 0, 0))]] true) := hs
 refine acalls Tryz.func222 rfl (by kernel_rfl) (by simp (disch := first | omega | (simp only [go_sem]; try omega)) only [go_sem]) (fun hH => ?_)
 simp (disch := first | omega | (simp only [go_sem]; try omega)) only [go_sem, hs']
 refine row_a hl (fs := [(i, 0, 0)]) (cs := []) (side := noSide) (by kernel_rfl) hf hg [42, 47] (by decide) T dp (by rw [List.getElem?_append_left hil]; exact hi) (fun _ _ => trivial) (fun _ => trivial) hT hn (by simp; omega) (by simp) (fun x T' dp' h => ?_) (fun e T' d' dp' cs h hcs => ?_)
 ·have hk := hk1 x T' dp' h
  have h5 := (encT_ok x).1
  have h6 : (encT x).take 5 = encT x := List.take_of_length_le (by omega)
  rw [hset0]
  simp (disch := first | omega | (simp only [go_sem]; try omega)) only [go_sem, h5, h6]
  exact Ret.drop (HOk.psQ hH) (by simp) ((encT_ok x).ok _) hk
 ·have hk := hk2 e T' d' dp' cs h hcs
  have h5 := hcs.1
  have h6 : cs.take 5 = cs := List.take_of_length_le (by omega)
  rw [hset0]
  simp (disch := first | omega | (simp only [go_sem]; try omega)) only [go_sem, h5, h6]
  exact Ret.drop (HOk.psQ hH) (by simp) (hcs.ok _) hk
theorem prodQ2_a {l : List UInt8} (hl : l.length ≤ 1000) {i c n : Nat} (hci : c ≠ i) {d : Int} {fc : Int → List Tok → Int → PR Ex} (hf : RdQ l 223 [.c (.ptr (some (i, 0, 0)))] i noSide n d (fc d)) (hg : RdG l (fc d)) : RdQ l 225 [.c (.ptr (some (c, 0, 0)))] i (sideC c i) n d (prodG fc d) := by
 intro H K T dp hi hs hT hn hk1 hk2
 have hil := getElem?_lt hi
 have hcl := getElem?_lt hs
 have hset0 : ∀ (X : AObj) (G : Hp), (H ++ G).set i X = H.set i X ++ G := fun X G => by rw [List.set_append_left _ _ hil]
 have hs' : H[c]? = some (.row 239 1 [[.ptr (some (i, 0, 0))]] true) := hs
 refine acalls Tryz.func225 rfl (by kernel_rfl) (by simp (disch := first | omega | (simp only [go_sem]; try omega)) only [go_sem]) (fun hH => ?_)
 simp (disch := first | omega | (simp only [go_sem]; try omega)) only [go_sem, hs']
 refine row_a hl (fs := [(i, 0, 0)]) (cs := []) (side := noSide) (by kernel_rfl) hf hg [42, 47] (by decide) T dp (by rw [List.getElem?_append_left hil]; exact hi) (fun _ _ => trivial) (fun _ => trivial) hT hn (by simp; omega) (by simp) (fun x T' dp' h => ?_) (fun e T' d' dp' cs h hcs => ?_)
 ·have hk := hk1 x T' dp' h
  have h5 := (encT_ok x).1
  have h6 : (encT x).take 5 = encT x := List.take_of_length_le (by omega)
  rw [hset0]
  simp (disch := first | omega | (simp only [go_sem]; try omega)) only [go_sem, h5, h6]
  exact Ret.drop (HOk.psQ hH) (by simp) ((encT_ok x).ok _) hk
 ·have hk := hk2 e T' d' dp' cs h hcs
  have h5 := hcs.1
  have h6 : cs.take 5 = cs := List.take_of_length_le (by omega)
  rw [hset0]
  simp (disch := first | omega | (simp only [go_sem]; try omega)) only [go_sem, h5, h6]
  exact Ret.drop (HOk.psQ hH) (by simp) (hcs.ok _) hk
theorem Ret.tree {A G : Hp} {n m k j ty : Nat} {els : List (List AC)} {own : Bool} {u : Int} {s : ByteArray} {v w : Int} (hA : HOk A) (hn : n = A.length) (hj : G[j]? = some (.row ty 5 els own)) (hp : pureL els = true) (hm : m = els.length) (hk2 : k = A.length + j) (hk : K (.agg [.int .u8 u, .str s, .int .i64 v, .lst 5 els, .int .i64 w]) A) : Ret n (.agg [.int .u8 u, .str s, .int .i64 v, .sl (some (k, 0)) m, .int .i64 w]) (A ++ G) K := by
 subst hn hm hk2
 refine Ret.node1 (v' := .agg [.int .u8 u, .str s, .int .i64 v, .lst 5 els, .int .i64 w]) (els := els) j hA (Nat.le_refl _) hj hp ?_ ?_ hk
 ·simp [AV.frzX, AV.frzX1, AC.frzX]
 ·intro x hx
  simp only [List.mem_cons, List.not_mem_nil, or_false] at hx
  rcases hx with rfl | rfl | rfl | rfl | rfl <;> simp [AC.ok]
theorem pureT2 {x y : List AC} (hx : okT x) (hy : okT y) : pureL [x, y] = true := by
 unfold pureL
 simp only [List.all_cons, List.all_nil, Bool.and_true, Bool.and_eq_true]
 exact ⟨hx.2, hy.2⟩
theorem pureT1 {x : List AC} (hx : okT x) : pureL [x] = true := by
 unfold pureL
 simp only [List.all_cons, List.all_nil, Bool.and_true]
 exact hx.2
theorem compareQ_a {l : List UInt8} (hl : l.length ≤ 1000) {i n : Nat} {d : Int} {fc : Int → List Tok → Int → PR Ex} (hf : RdQ l 223 [.c (.ptr (some (i, 0, 0)))] i noSide n d (fc d)) (hg : RdG l (fc d)) : RdQ l 170 [.c (.ptr (some (i, 0, 0)))] i noSide n d (compG fc d) := by
 intro H K T dp hi hs hT hn hk1 hk2
 have hil := getElem?_lt hi
 have hset0 : ∀ (X : AObj) (G : Hp), (H ++ G).set i X = H.set i X ++ G := fun X G => by rw [List.set_append_left _ _ hil]
 have hat0 : ∀ G : Hp, (H ++ G)[i]? = some (psQ T d dp (-1)) := fun G => by rw [List.getElem?_append_left hil]; exact hi
 have hset : ∀ (X Y : AObj) (G : Hp), (H.set i X ++ G).set i Y = H.set i Y ++ G := fun X Y G => by rw [List.set_append_left _ _ (by simpa using hil), List.set_set]
 have hat : ∀ (X : AObj) (G : Hp), (H.set i X ++ G)[i]? = some X := fun X G => by rw [List.getElem?_append_left (by simpa using hil), List.getElem?_set_self hil]
 have hsd : ∀ (X : AObj) (G : Hp), sideC H.length i (H.set i X ++ (cellP i :: G)) := fun X G => by
  unfold sideC
  rw [List.getElem?_append_right (by simp)]
  simp
 have hsd0 : ∀ G : Hp, sideC H.length i (H ++ (cellP i :: G)) := fun G => by
  unfold sideC
  rw [List.getElem?_append_right (by simp)]
  simp
 refine acalls Tryz.func170 rfl (by kernel_rfl) (by simp (disch := first | omega | (simp only [go_sem]; try omega)) only [go_sem]) (fun hH => ?_)
 simp (disch := first | omega | (simp only [go_sem]; try omega)) only [go_sem]
 refine row_a hl (fs := []) (cs := [(H.length, 0, 0)]) (side := sideC H.length i) (by kernel_rfl) (prodQ1_a hl (by omega) hf hg) (prod_good d hg) [43, 45] (by decide) T dp (hat0 _) (fun X G => by rw [hset0, List.append_assoc]; exact hsd X _) (fun G => by rw [List.append_assoc]; exact hsd0 _) hT hn (by simp) (by simp) (fun x T1 dp1 h1 => ?_) (fun e T' d' dp' cs h1 hcs => ?_)
 ·obtain ⟨g1, g2, g3⟩ := sum_good d hg _ _ _ _ _ hT h1
  have hj : compG fc d T dp = rowF [60, 61] (sumG fc d) d 1 x T1 dp1 := by unfold compG joinF; rw [show sumG fc d T dp = .ok (x, T1, dp1) from h1]; rfl
  rw [hj] at hk1 hk2
  obtain ⟨t, T2, rfl, htk, _⟩ := g2.head
  unfold rowF at hk1 hk2
  dsimp only at hk1 hk2
  have h5 := (encT_ok x).1
  have h6 : (encT x).take 5 = encT x := List.take_of_length_le (by omega)
  have hqk := qK_k htk
  have hq2 := hqk.2.2.2 [60, 61] (by decide)
  rw [hset0]
  rw [show ∀ G : Hp, H.set i (psQ (t :: T2) d dp1 (-1)) ++ G = H.set i (.row 243 4 [[.lst 3 ((t :: T2).map encQ), .int .i64 d, .int .i64 (-1), .int .i64 dp1]] true) ++ G from fun G => rfl]
  simp (disch := first | omega | (simp only [go_sem]; try omega)) only [go_sem, h5, h6]
  refine nextQ_a (t := t) (T := T2) (d := d) (dp := dp1) (bad := -1) (hat _ _) ?_
  cases hsg : sgT t [60, 61] with
  | none =>
   rw [hsg] at hk1 hq2
   have hk := hk1 _ _ _ rfl
   have hno : ¬ qK t = 60 ∧ ¬ qK t = 61 := by
    have : qB t ∉ ([60, 61] : List UInt8) := by simpa using hq2
    simp only [List.mem_cons, List.not_mem_nil, or_false, not_or] at this
    unfold qK
    refine ⟨fun h => this.1 ?_, fun h => this.2 ?_⟩
    ·apply UInt8.toNat_inj.1
     have : (60 : UInt8).toNat = 60 := rfl
     omega
    ·apply UInt8.toNat_inj.1
     have : (61 : UInt8).toNat = 61 := rfl
     omega
   simp (disch := first | omega | (simp only [go_sem]; try omega)) only [go_sem, hno.1]
   refine nextQ_a (t := t) (T := T2) (d := d) (dp := dp1) (bad := -1) (hat _ _) ?_
   simp (disch := first | omega | (simp only [go_sem]; try omega)) only [go_sem, hno.2, h5, h6]
   exact Ret.drop (HOk.psQ (T := t :: T2) (d := d) (dp := dp1) (bad := -1) hH) (by simp) ((encT_ok x).ok _) hk
  | some c =>
   rw [hsg] at hk1 hk2
   dsimp only at hk1 hk2
   obtain ⟨s1, s2, s3⟩ := sgT_some hsg
   have hT2 : Tl l T2 := (g2.next (by omega)).1
   have hqc : qK t = c.toNat := by unfold qK qB; rw [s1, s2]; rfl
   have h36 : ¬ qK t = 36 := fun h => by have := hqk.1.1 h; omega
   rw [List.length_cons] at g3
   simp only [List.mem_cons, List.not_mem_nil, or_false] at s3
   rcases s3 with rfl | rfl
   case' inl =>
    have hq : qK t = 60 := hqc
    have hq0 : True := trivial
    simp (disch := first | omega | (simp only [go_sem]; try omega)) only [go_sem, hq]
    refine takeQ_a (t := t) (T := T2) (d := d) (dp := dp1) (tl_ne g2 (by omega)) h36 (by rw [← hq]; exact hat _ _) ?_
   case' inr =>
    have hq : qK t = 61 := hqc
    have hq0 : ¬ (61 : Int) = 60 := by decide
    simp (disch := first | omega | (simp only [go_sem]; try omega)) only [go_sem, hq]
    refine nextQ_a (t := t) (T := T2) (d := d) (dp := dp1) (bad := -1) (by rw [← hq]; exact hat _ _) ?_
    simp (disch := first | omega | (simp only [go_sem]; try omega)) only [go_sem, hq]
    refine takeQ_a (t := t) (T := T2) (d := d) (dp := dp1) (tl_ne g2 (by omega)) h36 (by rw [← hq]; exact hat _ _) ?_
   all_goals
    rw [hset]
    simp (disch := first | omega | (simp only [go_sem]; try omega)) only [go_sem, hq]
    refine row_a hl (fs := []) (cs := [(H.length, 0, 0)]) (side := sideC H.length i) (by kernel_rfl) (prodQ2_a hl (by omega) hf hg) (prod_good d hg) [43, 45] (by decide) T2 (deepF d dp1 t) (hat _ _) (fun X G => by rw [hset, List.append_assoc]; exact hsd X _) (fun G => by rw [List.append_assoc]; exact hsd _ _) hT2 (by omega) (by simp) (by simp) (fun y T3 dp3 hy => ?_) (fun e T' d' dp' cs hy hcs => ?_)
    ·have hy' : sumG fc d T2 (deepF d dp1 t) = .ok (y, T3, dp3) := hy
     rw [hy'] at hk1
     have hk := hk1 _ _ _ rfl
     have h7 := (encT_ok y).1
     have h8 : (encT y).take 5 = encT y := List.take_of_length_le (by omega)
     have hlit := lit2 h5 h7
     rw [hset]
     simp (disch := first | omega | (simp only [go_sem]; try omega)) only [go_sem, h5, h6, h7, h8, hlit, hq]
     exact Ret.tree (els := [encT x, encT y]) (j := 4) (HOk.psQ hH) (by simp) rfl (pureT2 (encT_ok x) (encT_ok y)) rfl (by simp) hk
    ·have hy' : sumG fc d T2 (deepF d dp1 t) = .error e := hy
     rw [hy'] at hk2
     have h7 := hcs.1
     have h8 : cs.take 5 = cs := List.take_of_length_le (by omega)
     have hlit := lit2 h5 h7
     have hk := hk2 e T' d' dp' [.int .u8 (qK t), .str ⟨#[]⟩, .int .i64 0, .lst 5 [encT x, cs], .int .i64 0] rfl ⟨rfl, rfl⟩
     rw [hq] at hk
     rw [hset]
     simp (disch := first | omega | (simp only [go_sem]; try omega)) only [go_sem, h5, h6, h7, h8, hlit, hq]
     exact Ret.tree (els := [encT x, cs]) (j := 4) (HOk.psQ hH) (by simp) rfl (pureT2 (encT_ok x) hcs) rfl (by simp) hk
 ·have hj : compG fc d T dp = .error e := by unfold compG joinF; rw [show sumG fc d T dp = .error e from h1]
  have hk := hk2 e T' d' dp' cs hj hcs
  have h5 := hcs.1
  have h6 : cs.take 5 = cs := List.take_of_length_le (by omega)
  rw [hset0]
  unfold psQ at hk ⊢
  simp (disch := first | omega | (simp only [go_sem]; try omega)) only [go_sem, h5, h6]
  exact Ret.drop (HOk.psQ hH) (by simp) (hcs.ok _) hk
end Go.Proofs.YtagoolooikpabaaGreatDoor
