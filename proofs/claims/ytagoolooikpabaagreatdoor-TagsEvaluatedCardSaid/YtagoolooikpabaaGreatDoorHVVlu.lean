/- What the program's evaluator says of a tag: by a memo. Condition: the calculated tags and the series are right, and there is an order. -/
import Derived.Test.YtagoolooikpabaaGreatDoorHVMem
import Derived.Test.YtagoolooikpabaaGreatDoorHVTre
import Derived.Test.YtagoolooikpabaaGreatDoorHVEvT
set_option linter.all false
namespace Go.Proofs.YtagoolooikpabaaGreatDoor
open Go Go.RowKit
set_option maxRecDepth 100000
set_option maxHeartbeats 4000000
@[go_sem] theorem mapK_ps : mapK Tryz.prog 113 = some 182 := kRf
@[go_sem] theorem mapZ_ps : (mapE Tryz.prog 113).bind (zeroA Tryz.prog) = some (.agg [.int .i64 0, .int .i64 0, .int .i64 0]) := kRf
theorem fields_ps : fieldsK Tryz.prog 182 = some [(0, 3), (1, 1)] := kRf
theorem keyT_ps (k : Ky) : keyT Tryz.prog 182 (.agg [.str k.1, .int .i64 k.2]) = true := kRf
def svP (cs : List Cal) (ss : List Ser) (k : Ky) : AV := .agg (encS ⟨k.2, (valL cs (lkF ss) (tL k.1) k.2).n, (valL cs (lkF ss) (tL k.1) k.2).q⟩)
theorem svP_ok (cs : List Cal) (ss : List Ser) (k : Ky) (n : Nat) : (svP cs ss k).ok n := by
 intro c hc; simp [encS] at hc; rcases hc with rfl | rfl | rfl <;> trivial
structure EvAt (cs : List Cal) (ss : List Ser) (A C : Hp) (a s v : Nat) : Prop where
 ord : ∃ o, orderG (nmC cs) (kidC cs) = some o
 cal : clF cs = 0
 ser : slF ss = 0
 tre : ∀ M, (memT A C (svP cs ss) M)[a]? = some (trO cs)
 ses : ∀ M, (memT A C (svP cs ss) M)[s]? = some (.row 42 1 [[.lst 2 (ss.map encSr)]] true)
 evr : ∀ M, (memT A C (svP cs ss) M)[v]? = some (.row 115 3 [[.map (some a), .fn 127 [] [(s, 0, 0)], .map (some A.length)]] true)
def evT (cs : List Cal) (ss : List Ser) (A C : Hp) : Hp → Prop := fun X => ∃ M, X = memT A C (svP cs ss) M
theorem LookSt.imp {lo : Int} {T : Hp → Prop} {f : FuncId} {fs cs : List (Nat × Nat × Nat)} {look : List UInt8 → Int → Vl} {P P2 : ByteArray → Prop} (h : LookSt lo T f fs cs look P) (hP : ∀ t, P2 t → P t) : LookSt lo T f fs cs look P2 :=
 ⟨h.ent, h.ptr, h.sim, fun X G K x m h1 h2 h3 h4 h5 hk => h.ask X G K x m h1 (hP _ h2) h3 h4 h5 hk⟩
theorem value_step {cs : List Cal} {ss : List Ser} {A C : Hp} {a s v : Nat} (hE : EvAt cs ss A C a s v) {P : ByteArray → Prop} (hl : LookSt 0 (evT cs ss A C) 79 [(v, 0, 0)] [] (valL cs (lkF ss)) P) : LookSt 0 (evT cs ss A C) 79 [(v, 0, 0)] [] (valL cs (lkF ss)) (fun t => t ∉ nmC cs ∨ (t ∈ nmC cs ∧ ∀ p ∈ leafE (exT cs t), P (tB p.1))) := by
 obtain ⟨o, ho⟩ := hE.ord
 have hF := hE.cal
 have hlv : ∀ x m, VlOk (valL cs (lkF ss) x m) := fun x m => valL_ok hF (fun x m => lookP_ok hE.ser _ _) x m
 have hvl : v < A.length + 1 + C.length := by have := getElem?_lt (hE.evr []); rwa [memT_len] at this
 have hal : a < A.length + 1 + C.length := by have := getElem?_lt (hE.tre []); rwa [memT_len] at this
 have hsl : s < A.length + 1 + C.length := by have := getElem?_lt (hE.ses []); rwa [memT_len] at this
 refine ⟨hl.ent, hl.ptr, hl.sim, ?_⟩
 rintro _ G K x m ⟨M, rfl⟩ hP hx hm0 hm1 hk
 obtain ⟨Z, hZ⟩ : ∃ Z, Z = memT A C (svP cs ss) M ++ G := ⟨_, rfl⟩
 have hZl : Z.length = A.length + 1 + C.length + G.length := by rw [hZ, List.length_append, memT_len]
 have up : ∀ (M2 : List Ky) j, j < A.length + 1 + C.length → (memT A C (svP cs ss) M2 ++ G)[j]? = (memT A C (svP cs ss) M2)[j]? := fun M2 j hj => by rw [List.getElem?_append_left (by rw [memT_len]; exact hj)]
 have hZa : Z[a]? = some (trO cs) := by rw [hZ]; exact (up M _ hal).trans (hE.tre M)
 have hZs := (up M _ hsl).trans (hE.ses M)
 rw [← hZ] at hZs
 have hZv := (up M _ hvl).trans (hE.evr M)
 rw [← hZ] at hZv
 have hZd : Z[A.length]? = some (mpO (M.map (memE (svP cs ss)))) := by rw [hZ]; exact (up M _ oMg).trans (memT_at _ _ _ _)
 have hk0 : K (.agg (encV (valL cs (lkF ss) x m))) Z := hZ ▸ hk _ ⟨M, rfl⟩
 rw [← hZ]
 have hg := get_tr (tB x) cs
 unfold trO at hZa
 by_cases hc : tB x ∈ nmC cs
 ·have hleaf : ∀ p ∈ leafE (exT cs (tB x)), P (tB p.1) := by
   rcases hP with h | h
   ·exact absurd hc h
   ·exact h.2
  obtain ⟨c, hcm, _, hf⟩ := find_some hc hF
  have hex : exT cs (tB x) = exC c := by unfold exT; rw [hf]
  have hval := valL_calc hF ho m hc (rec := lkF ss)
  rw [hex] at hleaf hval
  have hok := exC_ok hF hcm
  rw [hf] at hg
  have hgm := get_mem fields_ps (tB x, m) (keyT_ps _) (svP cs ss) (.agg [.int .i64 0, .int .i64 0, .int .i64 0]) M
  refine acalls Tryz.func79 rfl kRf gT (fun hH => ?_)
  refine gO2 hZv hZa ?_
  refine look_mp kRf hg rfl ?_
  refine gO1 hZv ?_
  by_cases hM : (tB x, m) ∈ M
  ·rw [if_pos hM] at hgm
   refine w_tree (.one 0 (.one 1 (.one 2 (.one 3 (.one 4 (.two 5 (.one 6 (.one 7 (.one 8 (.one 9 (.one 10 (.one 11 .done)))))) 9 (.one 5 (.one 6 (.one 7 (.one 8 (.one 10 (.one 11 .done)))))))))))) kRf dKn ?_
   refine gO2 hZv hZd ?_
   unfold svP at hgm
   rw [tL_tB] at hgm
   generalize valL cs (lkF ss) x m = u at *
   repeat' first | (refine look_mp kRf hgm rfl ?_; refine gO2 hZv hZd ?_) | (exact Ret.drop hH lRf oKs hk0) | apply And.intro
  ·rw [if_neg hM] at hgm
   refine w_tree (.one 0 (.one 1 (.one 2 (.one 3 (.one 4 (.two 5 (.one 6 (.one 7 (.one 8 (.one 9 (.one 10 (.one 11 .done)))))) 9 (.one 5 (.one 6 (.one 7 (.one 8 (.one 10 (.one 11 .done)))))))))))) kRf dKn ?_
   refine gO2 hZv hZd ?_
   refine And.intro ?_ ?_
   all_goals (
    refine look_mp kRf hgm rfl ?_
    refine gO3 hZv hZd hl.ent ?_
    refine evalS_a (lo := 0) (by decide) hlv m ⟨hm0, hm1⟩ 1000 (exC c) (hl.app (G ++ _)) ⟨_, ⟨M, rfl⟩, by rw [hZ, List.append_assoc]⟩ oMg hok.1 hleaf ?_
    rintro _ ⟨_, ⟨M2, rfl⟩, rfl⟩
    rw [← List.append_assoc]
    obtain ⟨Z2, hZ2⟩ : ∃ Z2, Z2 = memT A C (svP cs ss) M2 ++ G := ⟨_, rfl⟩
    have hZ2l : Z2.length = Z.length := by rw [hZ2, List.length_append, memT_len, hZl]
    have hZ2v := (up M2 _ hvl).trans (hE.evr M2)
    have hZ2d := (up M2 A.length oMg).trans (memT_at _ _ _ _)
    obtain ⟨Z3, hZ3⟩ : ∃ Z3, Z3 = memT A C (svP cs ss) (addK M2 (tB x, m)) ++ G := ⟨_, rfl⟩
    have hZ3l : Z3.length = Z.length := by rw [hZ3, List.length_append, memT_len, hZl]
    have hset : ∀ R, (Z2 ++ R).set A.length (mpO ((addK M2 (tB x, m)).map (memE (svP cs ss)))) = Z3 ++ R := fun R => by
     rw [hZ2, hZ3, List.append_assoc, memT_set, List.append_assoc]
    have hok3 : HOk Z3 := by
     rw [hZ] at hH
     rw [hZ3]
     exact memT_ok (svP_ok cs ss) hH
    have hk3 : K (.agg (encV (valL cs (lkF ss) x m))) Z3 := hZ3 ▸ hk _ ⟨_, rfl⟩
    rw [← hZ2] at hZ2v hZ2d ⊢
    rw [← hZ2l] at hZ3l ⊢
    have hpm := put_mem fields_ps (tB x, m) (keyT_ps _) (svP cs ss) M2
    have hsv : svP cs ss (tB x, m) = .agg [.int .i64 m, .int .i64 (valL cs (lkF ss) x m).n, .int .i64 (valL cs (lkF ss) x m).q] := by unfold svP; rw [tL_tB]; rfl
    rw [hsv] at hpm
    have hfin : finV (evP (valL cs (lkF ss)) m (exC c)) m = ⟨m, (valL cs (lkF ss) x m).n, (valL cs (lkF ss) x m).q⟩ := by rw [hval]; rfl
    refine gO ?_
    refine finalE_a _ _ ?_
    rw [hfin]
    clear hfin hsv hgm hval hlv
    generalize valL cs (lkF ss) x m = u at *
    refine gO2 hZ2v hZ2d ?_
    refine w_tree (.one 0 (.one 1 (.one 2 (.one 3 (.one 4 (.one 5 (.one 6 .done))))))) kRf dKn ?_
    refine gO2 hZ2v hZ2d ?_
    repeat' first | (refine mup_mp kRf hpm ?_; rw [hset, ← hZ3l]; refine gO ?_) | (exact Ret.drop hok3 oMg oKs hk3) | apply And.intro)
 ·rw [find_none hc] at hg
  rw [valL_rec hc] at hk0
  refine acalls Tryz.func79 rfl kRf gT (fun hH => ?_)
  refine gO2 hZv hZa ?_
  refine look_mp kRf hg rfl ?_
  refine gO1 hZv ?_
  refine lookE_a ss (tB x) m hE.ser ⟨hm0, hm1⟩ (by rw [List.getElem?_append_left oMg]; exact hZs) ?_
  have hk0 : K (.agg (encV (lookP ss (tB x) m))) Z := hk0
  generalize lookP ss (tB x) m = u at *
  refine gO ?_
  exact Ret.drop hH lRf oKs hk0
theorem value_rank {cs : List Cal} {ss : List Ser} {A C : Hp} {a s v : Nat} (hE : EvAt cs ss A C a s v) {o : List Nme} (ho : orderG (nmC cs) (kidC cs) = some o) : ∀ r, LookSt 0 (evT cs ss A C) 79 [(v, 0, 0)] [] (valL cs (lkF ss)) (fun t => t ∉ nmC cs ∨ ∃ i, ∃ h : i < o.length, i < r ∧ o[i] = t) := by
 have hvl : v < A.length + 1 + C.length := by have := getElem?_lt (hE.evr []); rwa [memT_len] at this
 obtain ⟨⟨k1, k2, k3⟩, k4⟩ := orderG_ok ho
 have h0 : LookSt 0 (evT cs ss A C) 79 [(v, 0, 0)] [] (valL cs (lkF ss)) (fun _ => False) := by
  refine ⟨by kernel_rfl, ?_, ?_, fun _ _ _ _ _ _ h => h.elim⟩
  ·rintro _ ⟨M, rfl⟩ p hp
   simp only [List.append_nil, List.mem_singleton] at hp
   subst hp
   rw [memT_len]
   exact hvl
  ·rintro _ _ ⟨M, rfl⟩ ⟨M2, rfl⟩
   exact ⟨by rw [memT_len, memT_len], fun G hG => memT_ok (svP_ok cs ss) hG⟩
 intro r
 induction r with
 | zero =>
  refine (value_step hE h0).imp (fun t ht => ?_)
  rcases ht with h | ⟨i, _, h, _⟩
  ·exact .inl h
  ·omega
 | succ r ih =>
  refine (value_step hE ih).imp (fun t ht => ?_)
  rcases ht with h | ⟨i, hi, h, e⟩
  ·exact .inl h
  ·refine .inr ⟨e ▸ k2 _ (List.getElem_mem hi), fun p hp => ?_⟩
   by_cases hc : tB p.1 ∈ nmC cs
   ·have hk := leaf_kid (e ▸ k2 _ (List.getElem_mem hi)) hE.cal hp hc
    rw [← e] at hk
    obtain ⟨q, hq, e2⟩ := List.getElem_of_mem (k3 i hi _ hk)
    rw [List.length_take] at hq
    rw [List.getElem_take] at e2
    exact .inr ⟨q, by omega, by omega, e2⟩
   ·exact .inl hc
theorem valueE_a {cs : List Cal} {ss : List Ser} {A C : Hp} {a s v : Nat} (hE : EvAt cs ss A C a s v) : LookSt 0 (evT cs ss A C) 79 [(v, 0, 0)] [] (valL cs (lkF ss)) (fun _ => True) := by
 obtain ⟨o, ho⟩ := hE.ord
 obtain ⟨⟨k1, k2, k3⟩, k4⟩ := orderG_ok ho
 have hall := nodup_all k1 k2 oMg
 refine (value_rank hE ho o.length).imp (fun t _ => ?_)
 by_cases hc : t ∈ nmC cs
 ·obtain ⟨i, hi, e⟩ := List.getElem_of_mem (hall t hc)
  exact .inr ⟨i, hi, hi, e⟩
 ·exact .inl hc
end Go.Proofs.YtagoolooikpabaaGreatDoor
