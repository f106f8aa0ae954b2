/- What the document's server says of a tag: by a memo. Condition: the calculated tags and the series are right, and there is an order. -/
import Derived.Test.YtagoolooikpabaaGreatDoorHVVlu
import Derived.Test.YtagoolooikpabaaGreatDoorHVEwd
set_option linter.all false
namespace Go.Proofs.YtagoolooikpabaaGreatDoor
open Go Go.RowKit
set_option maxRecDepth 100000
set_option maxHeartbeats 4000000
@[go_sem] theorem mapK_qs : mapK Tryz.prog 122 = some 192 := kRf
@[go_sem] theorem mapZ_qs : (mapE Tryz.prog 122).bind (zeroA Tryz.prog) = some (.agg [.int .i64 0, .int .i64 0]) := kRf
theorem fields_qs : fieldsK Tryz.prog 192 = some [(0, 3), (1, 1)] := kRf
theorem keyT_qs (k : Ky) : keyT Tryz.prog 192 (.agg [.str k.1, .int .i64 k.2]) = true := kRf
def svQ (cs : List Cal) (ss : List Ser) (k : Ky) : AV := .agg (encV (valL cs (lkF ss) (tL k.1) k.2))
theorem svQ_ok (cs : List Cal) (ss : List Ser) (k : Ky) (n : Nat) : (svQ cs ss k).ok n := by
 intro c hc; simp [encV] at hc; rcases hc with rfl | rfl <;> trivial
def valQ (cs : List Cal) (ss : List Ser) (x : List UInt8) (m : Int) : Vl := if m < 0 then badV else valL cs (lkF ss) x m
structure SvAt (cs : List Cal) (ss : List Ser) (A C : Hp) (v : Nat) : Prop where
 ord : ∃ o, orderG (nmC cs) (kidC cs) = some o
 cal : clF cs = 0
 fine : ∀ x ∈ cs, x.fine
 ser : slF ss = 0
 srv : ∀ M, (memT A C (svQ cs ss) M)[v]? = some (.row 124 3 [[.lst 2 (cs.map encCl), .lst 2 (ss.map encSr), .map (some A.length)]] true)
def svT (cs : List Cal) (ss : List Ser) (A C : Hp) : Hp → Prop := fun X => ∃ M, X = memT A C (svQ cs ss) M
theorem serveQ_step {cs : List Cal} {ss : List Ser} {A C : Hp} {v : Nat} (hE : SvAt cs ss A C v) {P : ByteArray → Prop} (hl : LookSt (-1000000000) (svT cs ss A C) 85 [(v, 0, 0)] [] (valQ cs ss) P) : LookSt (-1000000000) (svT cs ss A C) 85 [(v, 0, 0)] [] (valQ cs ss) (fun t => t ∉ nmC cs ∨ (t ∈ nmC cs ∧ ∀ p ∈ leafE (exT cs t), P (tB p.1))) := by
 obtain ⟨o, ho⟩ := hE.ord
 have hF := hE.cal
 have hcl := (clF_ok hF).1
 obtain ⟨hs1, hs2, hs3⟩ := slF_ok hE.ser
 have hsl : ∀ x ∈ ss, x.l.length ≤ 1000000000 := fun x hx => by
  have := (hs2 x hx).1
  unfold serF at this
  split at this
  ·cases this
  ·omega
 have hlv : ∀ x m, VlOk (valL cs (lkF ss) x m) := fun x m => valL_ok hF (fun x m => lookP_ok hE.ser _ _) x m
 have hlq : ∀ x m, VlOk (valQ cs ss x m) := fun x m => by
  unfold valQ
  split
  ·exact badV_ok
  ·exact hlv _ _
 have hvl : v < A.length + 1 + C.length := by have := getElem?_lt (hE.srv []); rwa [memT_len] at this
 refine ⟨hl.ent, hl.ptr, hl.sim, ?_⟩
 rintro _ G K x m ⟨M, rfl⟩ hP hx hm0 hm1 hk
 obtain ⟨Z, hZ⟩ : ∃ Z, Z = memT A C (svQ cs ss) M ++ G := ⟨_, rfl⟩
 have hZl : Z.length = A.length + 1 + C.length + G.length := by rw [hZ, List.length_append, memT_len]
 have up : ∀ (M2 : List Ky) j, j < A.length + 1 + C.length → (memT A C (svQ cs ss) M2 ++ G)[j]? = (memT A C (svQ cs ss) M2)[j]? := fun M2 j hj => by rw [List.getElem?_append_left (by rw [memT_len]; exact hj)]
 have hZv := (up M _ hvl).trans (hE.srv M)
 rw [← hZ] at hZv
 have hZd : Z[A.length]? = some (mpO (M.map (memE (svQ cs ss)))) := by rw [hZ]; exact (up M _ oMg).trans (memT_at _ _ _ _)
 have hk0 : K (.agg (encV (valQ cs ss x m))) Z := hZ ▸ hk _ ⟨M, rfl⟩
 rw [← hZ]
 by_cases hc : tB x ∈ nmC cs
 ·have hleaf : ∀ p ∈ leafE (exT cs (tB x)), P (tB p.1) := by
   rcases hP with h | h
   ·exact absurd hc h
   ·exact h.2
  refine acalls Tryz.func85 rfl kRf gT (fun hH => ?_)
  refine gO1 hZv ?_
  refine calAt_a cs (tB x) oMg (fun hn => ?_) (fun i hi1 hi2 hi3 => ?_)
  ·obtain ⟨y, hy, e⟩ := List.mem_map.1 hc
   exact absurd e (hn y hy)
  have hf := find_at hF hi1
  rw [hi2] at hf
  have hex : exT cs (tB x) = exC cs[i] := by unfold exT; rw [hf]
  have hval := valL_calc hF ho m hc (rec := lkF ss)
  rw [hex] at hleaf hval
  have hok := exC_ok hF (List.getElem_mem hi1)
  by_cases hneg : m < 0
  ·have e : valQ cs ss x m = badV := if_pos hneg
   rw [e] at hk0
   refine gO1 hneg ?_
   refine badD_a ?_
   refine gO ?_
   exact Ret.drop hH lRf oKs hk0
  have e : valQ cs ss x m = valL cs (lkF ss) x m := if_neg hneg
  rw [e] at hk0
  have hgm := get_mem fields_qs (tB x, m) (keyT_qs _) (svQ cs ss) (.agg [.int .i64 0, .int .i64 0]) M
  refine gO2 hneg hZv ?_
  by_cases hM : (tB x, m) ∈ M
  ·rw [if_pos hM] at hgm
   refine w_tree (.one 0 (.one 1 (.one 2 (.one 3 (.one 4 (.two 5 (.one 6 (.one 7 (.one 8 (.one 9 (.one 10 (.one 11 .done)))))) 9 (.one 5 (.one 6 (.one 7 (.one 8 (.one 10 (.one 11 .done)))))))))))) kRf dKn ?_
   refine gO2 hZv hZd ?_
   unfold svQ at hgm
   rw [tL_tB] at hgm
   generalize valL cs (lkF ss) x m = u at *
   repeat' first | (refine look_mp kRf hgm rfl ?_; refine gO2 hZv hZd ?_) | (exact Ret.drop hH lRf oKs hk0) | apply And.intro
  ·rw [if_neg hM] at hgm
   obtain ⟨ex, he⟩ : ∃ ex, cs[i].ex = tB ex := ⟨tL cs[i].ex, rfl⟩
   have hp := ((clF_ok hF).2.1 _ (List.getElem_mem hi1)).2
   have hfn := (hE.fine _ (List.getElem_mem hi1)).2
   rw [he, tL_tB] at hp
   rw [he, tB_size] at hfn
   refine w_tree (.one 0 (.one 1 (.one 2 (.one 3 (.one 4 (.two 5 (.one 6 (.one 7 (.one 8 (.one 9 (.one 10 (.one 11 .done)))))) 9 (.one 5 (.one 6 (.one 7 (.one 8 (.one 10 (.one 11 .done)))))))))))) kRf dKn ?_
   refine gO2 hZv hZd ?_
   refine And.intro ?_ ?_
   all_goals (
    refine look_mp kRf hgm rfl ?_
    refine gO3 hZv hZd he ?_
    refine parsedQ_a ex hfn (fun e' he' => ?_) (fun a c h => by rw [hp] at h; cases h)
    rw [hp] at he'
    injection he' with he'
    subst he'
    refine gO3 encT_l encT_t hl.ent ?_
    refine evalQS_a hlq m oMg 1000 (exC cs[i]) (hl.app (G ++ _)) ⟨_, ⟨M, rfl⟩, by rw [hZ, List.append_assoc]⟩ oMg hok.1 hleaf ?_
    rintro _ ⟨_, ⟨M2, rfl⟩, rfl⟩
    rw [← List.append_assoc]
    obtain ⟨Z2, hZ2⟩ : ∃ Z2, Z2 = memT A C (svQ cs ss) M2 ++ G := ⟨_, rfl⟩
    have hZ2l : Z2.length = Z.length := by rw [hZ2, List.length_append, memT_len, hZl]
    have hZ2v := (up M2 _ hvl).trans (hE.srv M2)
    have hZ2d := (up M2 A.length oMg).trans (memT_at _ _ _ _)
    obtain ⟨Z3, hZ3⟩ : ∃ Z3, Z3 = memT A C (svQ cs ss) (addK M2 (tB x, m)) ++ G := ⟨_, rfl⟩
    have hZ3l : Z3.length = Z.length := by rw [hZ3, List.length_append, memT_len, hZl]
    have hset : ∀ R, (Z2 ++ R).set A.length (mpO ((addK M2 (tB x, m)).map (memE (svQ cs ss)))) = Z3 ++ R := fun R => by
     rw [hZ2, hZ3, List.append_assoc, memT_set, List.append_assoc]
    have hok3 : HOk Z3 := by
     rw [hZ] at hH
     rw [hZ3]
     exact memT_ok (svQ_ok cs ss) hH
    have hk3 : K (.agg (encV (valL cs (lkF ss) x m))) Z3 := by
     rw [← e, hZ3]
     exact hk _ ⟨_, rfl⟩
    rw [← hZ2] at hZ2v hZ2d ⊢
    rw [← hZ2l] at hZ3l ⊢
    have hpm := put_mem fields_qs (tB x, m) (keyT_qs _) (svQ cs ss) M2
    have hsv : svQ cs ss (tB x, m) = .agg [.int .i64 (valL cs (lkF ss) x m).n, .int .i64 (valL cs (lkF ss) x m).q] := by unfold svQ; rw [tL_tB]; rfl
    rw [hsv] at hpm
    have hev : evR (valQ cs ss) m (exC cs[i]) = evP (valL cs (lkF ss)) m (exC cs[i]) := evR_eq hlv m (fun x k hk => if_neg oMg) (fun x k hk => if_pos hk) (exC cs[i]) hok.1
    rw [hev]
    refine gO ?_
    refine boundD_a _ _ _ (by decide) ?_
    rw [show bdV (evP (valL cs (lkF ss)) m (exC cs[i])).n (evP (valL cs (lkF ss)) m (exC cs[i])).q 1000000 = valL cs (lkF ss) x m from hval.symm]
    clear hev hsv hgm hval hlv hlq
    generalize valL cs (lkF ss) x m = u at *
    refine gO2 hZ2v hZ2d ?_
    refine w_tree (.one 0 (.one 1 (.one 2 (.one 3 (.one 4 (.one 5 (.one 6 .done))))))) kRf dKn ?_
    refine gO2 hZ2v hZ2d ?_
    repeat' first | (refine mup_mp kRf hpm ?_; rw [hset, ← hZ3l]; refine gO ?_) | (exact Ret.drop hok3 oMg oKs hk3) | apply And.intro)
 ·have hn : nC cs (tB x) := fun y hy e => hc (List.mem_map.2 ⟨y, hy, e⟩)
  have hk0 : K (.agg (encV (lookP ss (tB x) m))) Z := by
   have e : valQ cs ss x m = lookP ss (tB x) m := by
    unfold valQ
    split
    ·rename_i h
     exact (lookP_neg hE.ser _ _ h).symm
    ·exact valL_rec hc m
   rw [← e]
   exact hk0
  refine acalls Tryz.func85 rfl kRf gT (fun hH => ?_)
  refine gO1 hZv ?_
  refine calAt_a cs (tB x) oMg (fun _ => ?_) (fun i hi1 hi2 hi3 => absurd hi2 (hn _ (List.getElem_mem hi1)))
  refine gO1 hZv ?_
  refine recorded_a ss (tB x) m oMg hsl ?_
  generalize lookP ss (tB x) m = u at *
  refine gO ?_
  exact Ret.drop hH lRf oKs hk0
theorem serveQ_rank {cs : List Cal} {ss : List Ser} {A C : Hp} {v : Nat} (hE : SvAt cs ss A C v) {o : List Nme} (ho : orderG (nmC cs) (kidC cs) = some o) : ∀ r, LookSt (-1000000000) (svT cs ss A C) 85 [(v, 0, 0)] [] (valQ cs ss) (fun t => t ∉ nmC cs ∨ ∃ i, ∃ h : i < o.length, i < r ∧ o[i] = t) := by
 have hvl : v < A.length + 1 + C.length := by have := getElem?_lt (hE.srv []); rwa [memT_len] at this
 obtain ⟨⟨k1, k2, k3⟩, k4⟩ := orderG_ok ho
 have h0 : LookSt (-1000000000) (svT cs ss A C) 85 [(v, 0, 0)] [] (valQ cs ss) (fun _ => False) := by
  refine ⟨by kernel_rfl, ?_, ?_, fun _ _ _ _ _ _ h => h.elim⟩
  ·rintro _ ⟨M, rfl⟩ p hp
   simp only [List.append_nil, List.mem_singleton] at hp
   subst hp
   rw [memT_len]
   exact hvl
  ·rintro _ _ ⟨M, rfl⟩ ⟨M2, rfl⟩
   exact ⟨by rw [memT_len, memT_len], fun G hG => memT_ok (svQ_ok cs ss) hG⟩
 intro r
 induction r with
 | zero =>
  refine (serveQ_step hE h0).imp (fun t ht => ?_)
  rcases ht with h | ⟨i, _, h, _⟩
  ·exact .inl h
  ·omega
 | succ r ih =>
  refine (serveQ_step hE ih).imp (fun t ht => ?_)
  rcases ht with h | ⟨i, hi, h, e⟩
  ·exact .inl h
  ·refine .inr ⟨e ▸ k2 _ (List.getElem_mem hi), fun p hp => ?_⟩
   by_cases hc : tB p.1 ∈ nmC cs
   ·have hk := leaf_kid (e ▸ k2 _ (List.getElem_mem hi)) hE.cal hp hc
    rw [← e] at hk
    obtain ⟨q, hq, e2⟩ := List.getElem_of_mem (k3 i hi _ hk)
    rw [List.length_take] at hq
    rw [List.getElem_take] at e2
    exact .inr ⟨q, by omega, by omega, e2⟩
   ·exact .inl hc
theorem serveQ_a {cs : List Cal} {ss : List Ser} {A C : Hp} {v : Nat} (hE : SvAt cs ss A C v) : LookSt (-1000000000) (svT cs ss A C) 85 [(v, 0, 0)] [] (valQ cs ss) (fun _ => True) := by
 obtain ⟨o, ho⟩ := hE.ord
 obtain ⟨⟨k1, k2, k3⟩, k4⟩ := orderG_ok ho
 have hnl : (nmC cs).length = cs.length := by unfold nmC; rw [List.length_map]
 have hall := nodup_all k1 k2 oMg
 refine (serveQ_rank hE ho o.length).imp (fun t _ => ?_)
 by_cases hc : t ∈ nmC cs
 ·obtain ⟨i, hi, e⟩ := List.getElem_of_mem (hall t hc)
  exact .inr ⟨i, hi, hi, e⟩
 ·exact .inl hc
end Go.Proofs.YtagoolooikpabaaGreatDoor
