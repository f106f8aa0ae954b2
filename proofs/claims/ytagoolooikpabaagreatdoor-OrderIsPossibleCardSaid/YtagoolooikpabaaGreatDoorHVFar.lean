/- Several texts in one: expr, and what follows. No condition. -/
import Derived.Test.YtagoolooikpabaaGreatDoorHVOrT
import Derived.Test.YtagoolooikpabaaGreatDoorHVFrM
set_option linter.all false
namespace Go.Proofs.YtagoolooikpabaaGreatDoor
open Go Go.RowKit
set_option maxRecDepth 100000
set_option maxHeartbeats 4000000
variable {H : Hp} {K : AV → Hp → Prop}
attribute [local irreducible] muW
def eW (p : Wy) : AV × AV := (.c (.str p.1), (.c (.int .i64 (p.2))))
def wyO (l : List Wy) : AObj := mpO (l.map eW)
theorem wyO_okN (l : List Wy) (n : Nat) : (wyO l).okN n := by
 intro p hp
 obtain ⟨x, _, rfl⟩ := List.mem_map.1 hp
 exact ⟨trivial, trivial⟩
attribute [simp] wyO_okN
@[go_sem] theorem mapK_wy : mapK Tryz.prog 79 = some 9 := (by kernel_rfl)
@[go_sem] theorem mapZ_wy : (mapE Tryz.prog 79).bind (zeroA Tryz.prog) = some (.c (.int .i64 0)) := (by kernel_rfl)
theorem get_wy (t : ByteArray) (l : List Wy) : ∃ ok, mapGet Tryz.prog 9 (.c (.str t)) (some (.c (.int .i64 0))) (l.map eW) = some ((.c (.int .i64 (lkW l t))), ok) := by
 rw [get_of (e := eW) (p := wyK t) (by kernel_rfl) (findA_str t (fun x : Wy => x.1) (fun x : Wy => (.c (.int .i64 (x.2)))) l)]
 unfold lkW
 cases l.find? (wyK t) with
 | none => exact ⟨_, rfl⟩
 | some p => exact ⟨_, rfl⟩
theorem put_wy (s : ByteArray) (n : Nat) (l : List Wy) : mapPut Tryz.prog 9 (.c (.str s)) (.c (.int .i64 n)) (l.map eW) = some ((upsert (wyK s) (s, n) l).map eW) :=
 put_of (e := eW) (p := wyK s) (x := (s, n)) (by kernel_rfl) (findA_str s (fun x : Wy => x.1) (fun x : Wy => (.c (.int .i64 (x.2)))) l) rfl
theorem far_a {cs : List Cal} (hF : clF cs = 0) (hs : ∀ x ∈ cs, x.fine) (to : ByteArray) {a : Nat} (ha : H[a]? = some (trO cs)) (hk : ∀ l, FarOk (kidC cs) to (nmC cs) l → K (.c (.map (some H.length))) (H ++ [wyO l])) : ACalls Tryz.prog 48 [.c (.map (some a)), (.c (.str to))] H K := by
 have hal := getElem?_lt ha
 have hlen : (nmC cs).length ≤ 100 := by have := (clF_ok hF).1; unfold nmC; rw [List.length_map]; exact this
 have ha1 : ∀ G : Hp, (H ++ G)[a]? = some (trO cs) := fun G => by rw [List.getElem?_append_left hal]; exact ha
 have hkm : ∀ s ∈ nmC cs, ∀ k ∈ kidC cs s, k ∈ nmC cs := fun s _ k hk => kidC_mem hk
 refine acalls Tryz.func48 rfl (by kernel_rfl) (by simp (disch := first | omega | (simp only [go_sem]; try omega)) only [go_sem]) (fun hH => ?_)
 simp (disch := first | omega | (simp only [go_sem]; try omega)) only [go_sem]
 refine mkeysT_a a ?_
 simp (disch := first | omega | (simp only [go_sem]; try omega)) only [go_sem]
 refine namesT_a hF hs (ha1 _) (j := H.length + 1) (t := 76) (by simp) ?_
 obtain ⟨N, hN⟩ : ∃ N, N = nmC cs := ⟨_, rfl⟩
 rw [← hN] at hk hlen hkm ⊢
 simp (disch := first | omega | (simp only [go_sem]; try omega)) only [go_sem]
 refine AWp.loop (H.length + 2) [0, 1, 5, 6] [7] (fun (s : List Wy × Bool) => WyOk (kidC cs) to N s.1 ∧ (s.2 = false → ∀ x ∈ N, rlW (kidC cs) to s.1 x = s.1)) (fun (s : List Wy × Bool) => [(7, (.c (.bool (s.2))))]) (fun (s : List Wy × Bool) => H ++ [wyO s.1, .row 76 1 [[.map (some a)]] true]) (fun (s : List Wy × Bool) => 2 * muW N s.1 + (if s.2 = true then 1 else 0)) (by kernel_rfl) (fun _ => rfl) (by kernel_rfl) (by first | (simp; done) | omega) (by first | (simp; done) | (simp; omega) | omega) kl ?_ (fun s hs1 _ _ => ?_)
 ·exact Next.mk ([], true) ⟨⟨List.nodup_nil, by simp⟩, fun h => by cases h⟩ wk
 obtain ⟨l, b⟩ := s
 dsimp only at hs1 ⊢
 obtain ⟨ho, hfx⟩ := hs1
 cases b with
 | false =>
  have hfar := far_ok hkm ho (hfx rfl)
  simp (disch := first | omega | (simp only [go_sem]; try omega)) only [go_sem]
  rw [List.append_cons]
  exact Ret.cut (HOk.app hH (wyO_okN _ _)) (by simp) (by simp [AV.ok, AV.ok1, AC.ok]) (Ret.same (by simp) (hk l hfar))
 | true =>
  simp (disch := first | omega | (simp only [go_sem]; try omega)) only [go_sem]
  refine AWp.loop (H.length + 2) [0, 1, 5, 6, 19, 20] [7, 21] (fun (k : Nat) => k ≤ N.length) (fun (k : Nat) => [(7, (.c (.bool (decide (muW N (paW (kidC cs) to (N.take k) l) < muW N l))))), (21, (.c (.int .i64 k)))]) (fun (k : Nat) => H ++ [wyO (paW (kidC cs) to (N.take k) l), .row 76 1 [[.map (some a)]] true]) (fun (k : Nat) => N.length - k) (by kernel_rfl) (fun _ => rfl) (by kernel_rfl) (by first | (simp; done) | omega) (by first | (simp; done) | (simp; omega) | omega) kl ?_ (fun k hk1 _ _ => ?_)
  ·refine Next.mk 0 (by simp) ?_
   rw [show paW (kidC cs) to (N.take 0) l = l from rfl, show decide (muW N l < muW N l) = false by simp]
   exact wk
  by_cases hlt : k < N.length
  ·obtain ⟨x, hx⟩ : ∃ x, x = N[k] := ⟨_, rfl⟩
   have hxk : N[k]'hlt = x := hx.symm
   have hxN : x ∈ N := by rw [hx]; exact List.getElem_mem hlt
   have hnx := paW_next (kidC cs) to l hlt
   rw [hxk] at hnx
   obtain ⟨hok, hmu⟩ := paW_ok (by omega) (N.take k) l (fun s h => List.mem_of_mem_take h) ho
   generalize paW (kidC cs) to (N.take k) l = m at *
   have hup : (¬ ltN x to ∧ 0 < bsW to m (kidC cs x) ∧ (lkW m x = 0 ∨ bsW to m (kidC cs x) < lkW m x)) → muW N (upsert (wyK x) (x, bsW to m (kidC cs x)) m) < muW N m := fun hc => by
    rcases (rlW_ok (by omega) hok hxN).2 with e | e
    ·have := fix_ok hok hxN hc.1 e (bsW to m (kidC cs x)) hc.2.1 ⟨hc.2.1, Nat.le_refl _⟩
     omega
    ·unfold rlW at e
     rwa [if_pos hc] at e
   have hml : muW N m ≤ muW N l := by
    rcases hmu with ⟨e, _⟩ | e
    ·exact Nat.le_of_eq (by rw [e])
    ·omega
   simp (disch := first | omega | (simp only [go_sem]; try omega)) only [go_sem, hlt, hxk]
   refine kids_a hF (ha1 _) x (by rw [← hN]; exact hxN) ?_
   have hkl := kidC_len hF x
   unfold rlW at hnx
   generalize kidC cs x = ks at *
   simp (disch := first | omega | (simp only [go_sem]; try omega)) only [go_sem]
   refine AWp.loop (H.length + 2) [0, 1, 5, 6, 7, 9, 19, 20, 21, 27, 28] [10, 29] (fun (j : Nat) => j ≤ ks.length) (fun (j : Nat) => [(10, (.c (.int .i64 (bsW to m (ks.take j))))), (29, (.c (.int .i64 j)))]) (fun (j : Nat) => H ++ [wyO m, .row 76 1 [[.map (some a)]] true]) (fun (j : Nat) => ks.length - j) (by kernel_rfl) (fun _ => rfl) (by kernel_rfl) (by first | (simp; done) | omega) (by first | (simp; done) | (simp; omega) | omega) kl ?_ (fun j hj1 _ _ => ?_)
   ·refine Next.mk 0 (Nat.zero_le _) ?_
    rw [show bsW to m (ks.take 0) = 0 from rfl]
    clear hup hml hnx hmu
    simp (disch := first | omega | (simp only [go_sem]; try omega)) only [go_sem]
    exact WkL.eq (by simp) rfl
   by_cases hjt : j < ks.length
   ·obtain ⟨y, hy⟩ : ∃ y, y = ks[j] := ⟨_, rfl⟩
    have hyk : ks[j]'hjt = y := hy.symm
    have hnj := bsW_next to m hjt
    rw [hyk] at hnj
    generalize bsW to m (ks.take j) = bb at *
    unfold stW at hnj
    by_cases hyt : y = to
    ·rw [if_pos hyt] at hnj
     simp (disch := first | omega | (simp only [go_sem]; try omega)) only [go_sem, hjt, hyk, hyt]
     exact Next.mk (j + 1) ⟨by omega, by omega⟩ (by rw [hnj]; exact wk)
    rw [if_neg hyt] at hnj
    have hc1 : Op.bytesLess (ByteArray.toList y) (ByteArray.toList to) = !decide (ltN to y) := by
     have h1 := ordS_flip y to
     have h2 := ordS_eq y to
     have h3 : ¬ ordS y to = 0 := fun e => hyt (h2.1 e)
     rw [lt_ord, Bool.eq_iff_iff, Bool.not_eq_true', decide_eq_false_iff_not, decide_eq_true_eq]
     unfold ltN
     omega
    obtain ⟨okb, hg⟩ := get_wy y m
    have hnb : lkW m y ≤ 1000 := by
     rcases Nat.eq_zero_or_pos (lkW m y) with h | h
     ·omega
     ·have h1 := hok.2 _ (lkW_mem h)
      have h2 := nodup_len hok.1 (b := N) (fun x hx => by obtain ⟨p, hp, rfl⟩ := List.mem_map.1 hx; exact (hok.2 p hp).1)
      rw [List.length_map] at h2
      have h3 := h1.2.2.1
      dsimp only at h3
      omega
    generalize lkW m y = n at *
    simp (disch := first | omega | (simp only [go_sem]; try omega)) only [go_sem, hjt, hyk, hyt]
    refine look_mp (by kernel_rfl) hg rfl ?_
    clear hg
    by_cases c1 : 0 < n
    ·by_cases c2 : ltN to y
     ·simp only [c2, decide_true, Bool.not_true] at hc1
      by_cases c3 : bb = 0
      ·rw [if_pos ⟨c1, c2, .inl c3⟩] at hnj
       simp (disch := first | omega | (simp only [go_sem]; try omega)) only [go_sem, c1, hc1, c3]
       refine Next.mk (j + 1) ⟨by omega, by omega⟩ ?_
       rw [hnj]
       exact wk
      ·by_cases c4 : n + 1 < bb
       ·rw [if_pos ⟨c1, c2, .inr c4⟩] at hnj
        simp (disch := first | omega | (simp only [go_sem]; try omega)) only [go_sem, c1, hc1, c3, c4]
        refine Next.mk (j + 1) ⟨by omega, by omega⟩ ?_
        rw [hnj]
        exact wk
       ·rw [if_neg (by omega)] at hnj
        simp (disch := first | omega | (simp only [go_sem]; try omega)) only [go_sem, c1, hc1, c3, c4]
        refine Next.mk (j + 1) ⟨by omega, by omega⟩ ?_
        rw [hnj]
        exact wk
     ·rw [if_neg (fun h => c2 h.2.1)] at hnj
      simp only [c2, decide_false, Bool.not_false] at hc1
      simp (disch := first | omega | (simp only [go_sem]; try omega)) only [go_sem, c1, hc1]
      refine Next.mk (j + 1) ⟨by omega, by omega⟩ ?_
      rw [hnj]
      exact wk
    ·rw [if_neg (fun h => c1 h.1)] at hnj
     simp (disch := first | omega | (simp only [go_sem]; try omega)) only [go_sem, c1]
     refine Next.mk (j + 1) ⟨by omega, by omega⟩ ?_
     rw [hnj]
     exact wk
   ·have hjl : j = ks.length := by omega
    subst hjl
    rw [List.take_length]
    have hc1 : Op.bytesLess (ByteArray.toList x) (ByteArray.toList to) = decide (ltN x to) := lt_ord x to
    obtain ⟨okb, hg⟩ := get_wy x m
    have hpt := put_wy x (bsW to m ks) m
    generalize bsW to m ks = n at *
    generalize lkW m x = v at *
    by_cases d1 : ltN x to
    ·rw [if_neg (fun h => h.1 d1)] at hnx
     simp only [d1, decide_true] at hc1
     simp (disch := first | omega | (simp only [go_sem]; try omega)) only [go_sem, hc1]
     refine Next.mk (k + 1) ⟨by omega, by omega⟩ ?_
     rw [hnx]
     exact wk
    simp only [d1, decide_false] at hc1
    by_cases d2 : 0 < n
    ·simp (disch := first | omega | (simp only [go_sem]; try omega)) only [go_sem, hc1, d2]
     refine look_mp (by kernel_rfl) hg rfl ?_
     by_cases d3 : v = 0
     ·rw [if_pos ⟨d1, d2, .inl d3⟩] at hnx
      have hup := hup ⟨d1, d2, .inl d3⟩
      simp (disch := first | omega | (simp only [go_sem]; try omega)) only [go_sem, d3]
      refine mup_mp (by kernel_rfl) hpt ?_
      simp (disch := first | omega | (simp only [go_sem]; try omega)) only [go_sem]
      refine Next.mk (k + 1) ⟨by omega, by omega⟩ ?_
      rw [hnx, decide_eq_true (show muW N (upsert (wyK x) (x, n) m) < muW N l by omega)]
      clear hup hml hnx hmu hpt
      exact wk
     ·by_cases d4 : n < v
      ·rw [if_pos ⟨d1, d2, .inr d4⟩] at hnx
       have hup := hup ⟨d1, d2, .inr d4⟩
       simp (disch := first | omega | (simp only [go_sem]; try omega)) only [go_sem, d3, hg]
       refine look_mp (by kernel_rfl) hg rfl ?_
       simp (disch := first | omega | (simp only [go_sem]; try omega)) only [go_sem, d4]
       refine mup_mp (by kernel_rfl) hpt ?_
       simp (disch := first | omega | (simp only [go_sem]; try omega)) only [go_sem]
       refine Next.mk (k + 1) ⟨by omega, by omega⟩ ?_
       rw [hnx, decide_eq_true (show muW N (upsert (wyK x) (x, n) m) < muW N l by omega)]
       clear hup hml hnx hmu hpt
       exact wk
      ·rw [if_neg (by omega)] at hnx
       simp (disch := first | omega | (simp only [go_sem]; try omega)) only [go_sem, d3]
       refine look_mp (by kernel_rfl) hg rfl ?_
       simp (disch := first | omega | (simp only [go_sem]; try omega)) only [go_sem, d4]
       refine Next.mk (k + 1) ⟨by omega, by omega⟩ ?_
       rw [hnx]
       clear hup hml hnx hmu hpt
       exact wk
    ·rw [if_neg (fun h => d2 h.2.1)] at hnx
     simp (disch := first | omega | (simp only [go_sem]; try omega)) only [go_sem, hc1, d2]
     refine Next.mk (k + 1) ⟨by omega, by omega⟩ ?_
     rw [hnx]
     exact wk
  ·have hkl : k = N.length := by omega
   subst hkl
   rw [List.take_length]
   obtain ⟨g1, g2⟩ := paW_ok (by omega) N l (fun s h => h) ho
   simp (disch := first | omega | (simp only [go_sem]; try omega)) only [go_sem]
   refine Next.mk (paW (kidC cs) to N l, decide (muW N (paW (kidC cs) to N l) < muW N l)) ⟨⟨g1, fun hd => ?_⟩, ?_⟩ wk
   ·rw [decide_eq_false_iff_not] at hd
    rcases g2 with ⟨e, g3⟩ | g2
    ·dsimp only
     rw [e]; exact g3
    ·exact absurd g2 hd
   ·dsimp only
    rcases g2 with ⟨e, g3⟩ | g2
    ·rw [e]; simp
    ·rw [decide_eq_true g2]; simp only [if_true]; omega
end Go.Proofs.YtagoolooikpabaaGreatDoor
namespace Go.Proofs.YtagoolooikpabaaGreatDoor
open Go Go.RowKit
set_option maxRecDepth 100000
set_option maxHeartbeats 4000000
variable {H : Hp} {K : AV → Hp → Prop}
def cyS (H : Hp) (cs : List Cal) (fr : ByteArray) (wp : Option Nat) (G : Hp) : Hp := H ++ (trO cs :: .row 9 1 [[.str fr]] true :: .row 79 1 [[.map wp]] true :: G)
theorem cyS_0 (H : Hp) (cs : List Cal) (fr : ByteArray) (wp : Option Nat) (G : Hp) : (cyS H cs fr wp G)[H.length]? = some (trO cs) := by unfold cyS; simp
theorem cyS_1 (H : Hp) (cs : List Cal) (fr : ByteArray) (wp : Option Nat) (G : Hp) : (cyS H cs fr wp G)[H.length + 1]? = some (.row 9 1 [[.str fr]] true) := by unfold cyS; simp
theorem cyS_2 (H : Hp) (cs : List Cal) (fr : ByteArray) (wp : Option Nat) (G : Hp) : (cyS H cs fr wp G)[H.length + 2]? = some (.row 79 1 [[.map wp]] true) := by unfold cyS; simp
theorem cyS_len (H : Hp) (cs : List Cal) (fr : ByteArray) (wp : Option Nat) (G : Hp) : (cyS H cs fr wp G).length = H.length + 3 + G.length := by unfold cyS; simp; omega
theorem cyS_app (H : Hp) (cs : List Cal) (fr : ByteArray) (wp : Option Nat) (G L : Hp) : cyS H cs fr wp G ++ L = cyS H cs fr wp (G ++ L) := by unfold cyS; simp
theorem cyS_at (H : Hp) (cs : List Cal) (fr : ByteArray) (wp : Option Nat) (G : Hp) (j : Nat) : (cyS H cs fr wp G)[H.length + 3 + j]? = G[j]? := by
 unfold cyS
 rw [List.getElem?_append_right (by omega), show H.length + 3 + j - H.length = j + 1 + 1 + 1 by omega]
 rfl
theorem cyS_set (H : Hp) (cs : List Cal) (fr fr2 : ByteArray) (wp wp2 : Option Nat) (G : Hp) : ((cyS H cs fr wp G).set (H.length + 1) (.row 9 1 [[.str fr2]] true)).set (H.length + 2) (.row 79 1 [[.map wp2]] true) = cyS H cs fr2 wp2 G := by
 unfold cyS
 rw [List.set_append_right _ _ (by omega), List.set_append_right _ _ (by omega), show H.length + 1 - H.length = 1 by omega, show H.length + 2 - H.length = 2 by omega]
 rfl
theorem cyS_set2 (H : Hp) (cs : List Cal) (fr fr2 : ByteArray) (wp wp2 : Option Nat) (G : Hp) : ((cyS H cs fr wp G).set (H.length + 2) (.row 79 1 [[.map wp2]] true)).set (H.length + 1) (.row 9 1 [[.str fr2]] true) = cyS H cs fr2 wp2 G := by
 rw [List.set_comm _ _ (by omega)]
 exact cyS_set ..
def CyIn (H : Hp) (cs : List Cal) (k b : Nat) (fr : ByteArray) (wp : Option Nat) (G : Hp) (W : List Wy) : Prop :=
 k ≤ cs.length ∧ b ≤ 1000 ∧ CyAt (kidC cs) (nmC cs) k b fr W ∧ (0 < b → ∃ p, wp = some p ∧ H.length + 3 ≤ p ∧ (cyS H cs fr wp G)[p]? = some (wyO W))
theorem cy1_a (fr : ByteArray) (W : List Wy) (n : Nat) {f w p i : Nat} (h1 : H[f]? = some (.row 9 1 [[.str fr]] true)) (h2 : H[w]? = some (.row 79 1 [[.map (some p)]] true)) (h3 : H[p]? = some (wyO W)) (h4 : H[i]? = some (.row 3 1 [[.int .i64 n]] true)) (k : ByteArray) (hk : K (.c (.bool (decide (ltN fr k) && wyB W n k))) H) : ACalls Tryz.prog 51 [(.c (.str k)), .c (.ptr (some (f, 0, 0))), .c (.ptr (some (w, 0, 0))), .c (.ptr (some (i, 0, 0)))] H K := by
 have hc1 : leS k fr = !decide (ltN fr k) := by
  have := ordS_flip k fr
  rw [leS_ord, Bool.eq_iff_iff, Bool.not_eq_true', decide_eq_false_iff_not, decide_eq_true_eq]
  unfold ltN
  omega
 obtain ⟨ok, hg⟩ := get_wy k W
 unfold wyB at hk
 by_cases hm : ltN fr k
 ·simp only [hm, decide_true, Bool.not_true, Bool.true_and] at hc1 hk
  refine acalls Tryz.func51 rfl (by kernel_rfl) (by simp (disch := first | omega | (simp only [go_sem]; try omega)) only [go_sem]) (fun hH => ?_)
  simp (disch := first | omega | (simp only [go_sem]; try omega)) only [go_sem, h1, h2, h3, h4, hc1]
  refine look_mp (by kernel_rfl) hg rfl ?_
  simp (disch := first | omega | (simp only [go_sem]; try omega)) only [go_sem, h4]
  exact Ret.same (Nat.le_refl _) hk
 ·simp only [hm, decide_false, Bool.not_false, Bool.false_and] at hc1 hk
  refine acalls Tryz.func51 rfl (by kernel_rfl) (by simp (disch := first | omega | (simp only [go_sem]; try omega)) only [go_sem]) (fun hH => ?_)
  simp (disch := first | omega | (simp only [go_sem]; try omega)) only [go_sem, h1, h2, h3, h4, hc1]
  exact Ret.same (Nat.le_refl _) hk
theorem cycle_a (cs : List Cal) (hl : cs.length ≤ 1000) (hs : ∀ x ∈ cs, x.fine) (hk0 : clF cs ≠ 0 → K (.tup [.c (.lst 1 []), (.c (.int .i64 (clF cs)))]) H) (hk : clF cs = 0 → K (.tup [.c (.lst 1 ((cycG (nmC cs) (kidC cs)).map encSs)), (.c (.int .i64 0))]) H) : ACalls Tryz.prog 9 [.c (.lst 2 (cs.map encCl))] H K := by
 refine acalls Tryz.func9 rfl (by kernel_rfl) (by simp (disch := first | omega | (simp only [go_sem]; try omega)) only [go_sem]) (fun hH => ?_)
 simp (disch := first | omega | (simp only [go_sem]; try omega)) only [go_sem]
 refine checkCalcs_a cs (by omega) hs ?_
 by_cases hF : clF cs = 0
 ·rw [hF]
  have hk := hk hF
  have hcl := (clF_ok hF).1
  have hnl : (nmC cs).length = cs.length := by unfold nmC; rw [List.length_map]
  have hgl : ∀ k (h : k < (nmC cs).length) (h2 : k < cs.length), (nmC cs)[k] = cs[k].tg := fun k h h2 => by simp only [nmC, List.getElem_map]
  simp (disch := first | omega | (simp only [go_sem]; try omega)) only [go_sem]
  refine parsed_a cs hF hs ?_
  simp (disch := first | omega | (simp only [go_sem]; try omega)) only [go_sem]
  refine AWp.loop (H.length + 3) [5, 7, 8, 24, 25] [6, 26] (fun (s : Nat × Nat × ByteArray × Option Nat × Hp × List Wy) => CyIn H cs s.1 s.2.1 s.2.2.1 s.2.2.2.1 s.2.2.2.2.1 s.2.2.2.2.2) (fun (s : Nat × Nat × ByteArray × Option Nat × Hp × List Wy) => [(6, (.c (.int .i64 (s.2.1)))), (26, (.c (.int .i64 (s.1))))]) (fun (s : Nat × Nat × ByteArray × Option Nat × Hp × List Wy) => cyS H cs s.2.2.1 s.2.2.2.1 s.2.2.2.2.1) (fun (s : Nat × Nat × ByteArray × Option Nat × Hp × List Wy) => cs.length - s.1) (by kernel_rfl) (fun _ => rfl) (by kernel_rfl) (by first | (simp; done) | omega) (by first | (simp; done) | (simp; omega) | omega) kl ?_ (fun s hs1 _ hH2 => ?_)
  ·refine Next.mk (0, 0, .empty, none, [], []) ⟨by simp, by simp, CyAt.zero _ _, fun h => by simp at h⟩ ?_
   exact WkL.eq (by simp) rfl
  obtain ⟨k, b, fr, wp, G, W⟩ := s
  obtain ⟨i1, i2, i3, i4⟩ := hs1
  have h0 := cyS_0 H cs fr wp G
  have h1 := cyS_1 H cs fr wp G
  have h2 := cyS_2 H cs fr wp G
  have hln := cyS_len H cs fr wp G
  dsimp only at i1 i2 i3 i4 ⊢
  by_cases hlt : k < cs.length
  ·obtain ⟨x, hx⟩ : ∃ x, x = cs[k] := ⟨_, rfl⟩
   have hxk : cs[k]'hlt = x := hx.symm
   have hN : (nmC cs)[k]'(by omega) = x.tg := by rw [hgl k (by omega) hlt, hxk]
   simp (disch := first | omega | (simp only [go_sem]; try omega)) only [go_sem, hlt, hxk]
   refine far_a hF hs x.tg (by rw [List.getElem?_append_left (by rw [hln]; omega)]; exact h0) (fun l hfl => ?_)
   have hst := i3.step (l := l) (by omega) (by rw [hN]; exact hfl)
   rw [hN] at hst
   obtain ⟨L, hL⟩ : ∃ L, L = [AObj.row 60 2 [[.str x.tg, .str x.ex]] true, wyO l] := ⟨_, rfl⟩
   have eX : cyS H cs fr wp G ++ [AObj.row 60 2 [[.str x.tg, .str x.ex]] true] ++ [wyO l] = cyS H cs fr wp (G ++ L) := by rw [hL, ← cyS_app]; simp
   have eN : (cyS H cs fr wp G ++ [AObj.row 60 2 [[.str x.tg, .str x.ex]] true]).length = H.length + 3 + (G.length + 1) := by rw [List.length_append, hln]; simp; omega
   rw [eX, eN]
   have g3 : (cyS H cs fr wp (G ++ L))[H.length + 3 + (G.length + 1)]? = some (wyO l) := by rw [cyS_at, hL, List.getElem?_append_right (by omega)]; simp
   have g4 : (cyS H cs fr wp (G ++ L))[H.length + 3 + G.length]? = some (.row 60 2 [[.str x.tg, .str x.ex]] true) := by rw [cyS_at, hL, List.getElem?_append_right (by omega)]; simp
   have g1 := cyS_1 H cs fr wp (G ++ L)
   have g2 := cyS_2 H cs fr wp (G ++ L)
   have gln := cyS_len H cs fr wp (G ++ L)
   have hGL : (G ++ L).length = G.length + 2 := by rw [hL]; simp
   have i4b : 0 < b → ∃ p, wp = some p ∧ H.length + 3 ≤ p ∧ (cyS H cs fr wp (G ++ L))[p]? = some (wyO W) := fun hb => by
    obtain ⟨p, e, hp1, hp2⟩ := i4 hb
    refine ⟨p, e, hp1, ?_⟩
    rw [← cyS_app, List.getElem?_append_left (getElem?_lt hp2)]
    exact hp2
   obtain ⟨okb, hg⟩ := get_wy x.tg l
   have hnb : lkW l x.tg ≤ 1000 := by
    rcases Nat.eq_zero_or_pos (lkW l x.tg) with h | h
    ·omega
    ·have e1 := hfl.1.2 _ (lkW_mem h)
     have e2 := nodup_len hfl.1.1 (b := nmC cs) (fun x hx => by obtain ⟨p, hp, rfl⟩ := List.mem_map.1 hx; exact (hfl.1.2 p hp).1)
     rw [List.length_map] at e2
     have e3 := e1.2.2.1
     dsimp only at e3
     omega
   generalize lkW l x.tg = n at *
   rw [hln]
   have g3b : ∀ fr wp, (cyS H cs fr wp (G ++ L))[H.length + 3 + (G.length + 1)]? = some (wyO l) := fun fr wp => by rw [cyS_at, hL, List.getElem?_append_right (by omega)]; simp
   have s1 := cyS_set H cs fr x.tg wp (some (H.length + 3 + (G.length + 1))) (G ++ L)
   have s2 := cyS_set2 H cs fr x.tg wp (some (H.length + 3 + (G.length + 1))) (G ++ L)
   have hgood : 0 < n ∧ (b = 0 ∨ n < b) → CyIn H cs (k + 1) n x.tg (some (H.length + 3 + (G.length + 1))) (G ++ L) l := fun hc => ⟨by omega, hnb, hst.1 hc, fun _ => ⟨_, rfl, by omega, g3b _ _⟩⟩
   have hbad : ¬ (0 < n ∧ (b = 0 ∨ n < b)) → CyIn H cs (k + 1) b fr wp (G ++ L) W := fun hc => ⟨by omega, i2, hst.2 hc, i4b⟩
   simp (disch := first | omega | (simp only [go_sem]; try omega)) only [go_sem, g3, g4]
   refine look_mp (by kernel_rfl) hg rfl ?_
   clear hg g3 hst i3 i4 i4b hfl
   by_cases c1 : 0 < n
   ·by_cases c3 : b = 0
    ·have hgood := hgood ⟨c1, .inl c3⟩
     simp (disch := first | omega | (simp only [go_sem]; try omega)) only [go_sem, c1, c3]
     refine w_tree (.one 0 (.one 1 (.one 2 (.one 3 (.one 4 (.one 5 (.one 6 .done))))))) (by kernel_rfl) (by decide +kernel) ?_
     simp (disch := first | omega | (simp only [go_sem]; try omega)) only [go_sem, g1, g2, g4]
     all_goals (refine Next.mk (k + 1, n, x.tg, some (H.length + 3 + (G.length + 1)), G ++ L, l) ⟨hgood, by dsimp only; omega⟩ ?_; dsimp only; first | (rw [← s1]; simp (disch := first | omega | (simp only [go_sem]; try omega)) only [go_sem]; exact WkL.eq (by rw [List.length_set, List.length_set, gln]; omega) rfl) | (rw [← s2]; simp (disch := first | omega | (simp only [go_sem]; try omega)) only [go_sem]; exact WkL.eq (by rw [List.length_set, List.length_set, gln]; omega) rfl))
    ·by_cases c4 : n < b
     ·have hgood := hgood ⟨c1, .inr c4⟩
      simp (disch := first | omega | (simp only [go_sem]; try omega)) only [go_sem, c1, c3, c4]
      refine w_tree (.one 0 (.one 1 (.one 2 (.one 3 (.one 4 (.one 5 (.one 6 .done))))))) (by kernel_rfl) (by decide +kernel) ?_
      simp (disch := first | omega | (simp only [go_sem]; try omega)) only [go_sem, g1, g2, g4]
      all_goals (refine Next.mk (k + 1, n, x.tg, some (H.length + 3 + (G.length + 1)), G ++ L, l) ⟨hgood, by dsimp only; omega⟩ ?_; dsimp only; first | (rw [← s1]; simp (disch := first | omega | (simp only [go_sem]; try omega)) only [go_sem]; exact WkL.eq (by rw [List.length_set, List.length_set, gln]; omega) rfl) | (rw [← s2]; simp (disch := first | omega | (simp only [go_sem]; try omega)) only [go_sem]; exact WkL.eq (by rw [List.length_set, List.length_set, gln]; omega) rfl))
     ·have hbad := hbad (by omega)
      simp (disch := first | omega | (simp only [go_sem]; try omega)) only [go_sem, c1, c3, c4]
      refine Next.mk (k + 1, b, fr, wp, G ++ L, W) ⟨hbad, by dsimp only; omega⟩ ?_
      simp (disch := first | omega | (simp only [go_sem]; try omega)) only [go_sem]
      exact WkL.eq (by rw [gln]; omega) rfl
   ·have hbad := hbad (by omega)
    simp (disch := first | omega | (simp only [go_sem]; try omega)) only [go_sem, c1]
    refine Next.mk (k + 1, b, fr, wp, G ++ L, W) ⟨hbad, by dsimp only; omega⟩ ?_
    simp (disch := first | omega | (simp only [go_sem]; try omega)) only [go_sem]
    exact WkL.eq (by rw [gln]; omega) rfl
  ·obtain rfl : k = cs.length := by omega
   have hkm : ∀ s ∈ nmC cs, ∀ k ∈ kidC cs s, k ∈ nmC cs := fun s _ k hk => kidC_mem hk
   have hke : ∀ s, s ∉ nmC cs → kidC cs s = [] := fun s h => by unfold kidC; rw [find_none h]
   have hend := cy_end hkm hke (by rw [hnl]; exact i3)
   by_cases hb : b = 0
   ·rw [hend.1 hb] at hk
    simp (disch := first | omega | (simp only [go_sem]; try omega)) only [go_sem, hb]
    unfold cyS
    exact Ret.nilT hH (Nat.le_refl _) rfl hk
   ·obtain ⟨p, hp0, hp1, hp2⟩ := i4 (by omega)
    obtain ⟨i, hi, _, hfr, hfar, hlk, _, _⟩ := i3.2 (by omega)
    rw [hend.2 (by omega)] at hk
    subst hp0
    simp (disch := first | omega | (simp only [go_sem]; try omega)) only [go_sem, hb, h1]
    generalize hX : cyS H cs fr (some p) G = X at *
    have hXl : H.length + 3 ≤ X.length := by rw [hln]; omega
    have h0b := h0
    have hR : ∃ R, R = wayG (kidC cs) fr (wyB W) (b - 1) [fr] fr := ⟨_, rfl⟩
    obtain ⟨R, hR⟩ := hR
    rw [← hR] at hk
    have hfN : fr ∈ nmC cs := by rw [hfr]; exact List.getElem_mem hi
    refine AWp.loop (X.length) [5, 7, 8] [13, 14] (fun (s : Nat × List Nme × Nme × Hp × Nat × Nat) => wayG (kidC cs) fr (wyB W) s.1 (s.2.1 ++ [s.2.2.1]) s.2.2.1 = R ∧ s.2.2.1 ∈ nmC cs ∧ ¬ ltN s.2.2.1 fr ∧ lkW W s.2.2.1 = s.1 + 1 ∧ s.2.1.length + s.1 ≤ 1000 ∧ s.2.2.2.1[s.2.2.2.2.1]? = some (.row 9 1 ((s.2.1 ++ [s.2.2.1]).map encSs) true) ∧ s.2.2.2.1[s.2.2.2.2.2]? = some (.row 3 1 [[.int .i64 s.1]] true)) (fun (s : Nat × List Nme × Nme × Hp × Nat × Nat) => [(13, .c (.sl (some (X.length + s.2.2.2.2.1, 0)) (s.2.1.length + 1))), (14, .c (.ptr (some (X.length + s.2.2.2.2.2, 0, 0))))]) (fun (s : Nat × List Nme × Nme × Hp × Nat × Nat) => X ++ s.2.2.2.1) (fun (s : Nat × List Nme × Nme × Hp × Nat × Nat) => s.1) (by kernel_rfl) (fun _ => rfl) (by kernel_rfl) (by first | (simp; done) | omega) (by first | (simp; done) | (simp; omega) | omega) kl ?_ (fun s hs1 _ _ => ?_)
    ·refine Next.mk (b - 1, [], fr, [AObj.row 9 1 [[.str fr]] true, AObj.row 3 1 [[.int .i64 ((b - 1 : Nat) : Int)]] true], 0, 1) ⟨hR.symm, hfN, ltN_irr _, by rw [hlk]; dsimp only; omega, by simp; omega, rfl, rfl⟩ ?_
     rw [show ((b - 1 : Nat) : Int) = (b : Int) - 1 by omega]
     simp (disch := first | omega | (simp only [go_sem]; try omega)) only [go_sem]
     exact WkL.eq (by simp) rfl
    obtain ⟨m, r0, last, Gx, ia, ib⟩ := s
    obtain ⟨j1, j2, j3, j4, j5, j6, j7⟩ := hs1
    dsimp only at j1 j2 j3 j4 j5 j6 j7 ⊢
    have up : ∀ q (h : q < X.length), (X ++ Gx)[q]? = X[q]? := fun q h => List.getElem?_append_left h
    have e6 : (X ++ Gx)[X.length + ia]? = some (.row 9 1 ((r0 ++ [last]).map encSs) true) := by rw [List.getElem?_append_right (by omega), Nat.add_sub_cancel_left]; exact j6
    have e7 : (X ++ Gx)[X.length + ib]? = some (.row 3 1 [[.int .i64 m]] true) := by rw [List.getElem?_append_right (by omega), Nat.add_sub_cancel_left]; exact j7
    have hz : ((r0.length + 1 : Nat) - 1 : Int).toNat = r0.length := by omega
    by_cases hm : 0 < m
    ·simp (disch := first | omega | (simp only [go_sem]; try omega)) only [go_sem, e6, e7, hm, hz]
     simp only [List.getElem_concat_length]
     refine kids_a hF (by rw [up _ (by omega)]; exact h0) last j2 ?_
     obtain ⟨y0, hy1, hy2, hy3⟩ := wy_next hkm hfar j2 j3 (n := m) hm j4
     have hkl := kidC_len hF last
     have hkN := hkm last j2
     have hws : ∀ y, (kidC cs last).find? (fun k => decide (ltN fr k) && wyB W m k) = some y → wayG (kidC cs) fr (wyB W) (m - 1) (r0 ++ [last] ++ [y]) y = R := fun y hy => by
      obtain ⟨q, rfl⟩ : ∃ q, m = q + 1 := ⟨m - 1, by omega⟩
      unfold wayG at j1
      rw [hy] at j1
      exact j1
     generalize kidC cs last = ks at *
     simp (disch := first | omega | (simp only [go_sem]; try omega)) only [go_sem, e7]
     refine indexLstSx_a _ [(H.length + 1, 0, 0), (H.length + 2, 0, 0), (X.length + ib, 0, 0)] (fun k => decide (ltN fr k) && wyB W m k) (by kernel_rfl) (by intro p q r h; simp at h; simp; have := getElem?_lt j7; omega) ks (fun k K hk1 hK => cy1_a fr W m (by rw [up _ (by omega)]; exact h1) (by rw [up _ (by omega)]; exact h2) (by rw [up _ (getElem?_lt hp2)]; exact hp2) e7 k hK) (by omega) (fun hn => ?_) (fun k hk1 hk2 hk3 => ?_)
     ·have := List.any_eq_false.1 hn y0 hy1
      simp [wyB, hy2, hy3] at this
     ·obtain ⟨y, hy⟩ : ∃ y, y = ks[k] := ⟨_, rfl⟩
      have hyk : ks[k]'hk1 = y := hy.symm
      have hfy := hws y (by rw [List.find?_eq_some_iff_getElem]; exact ⟨by rw [← hyk]; exact hk2, k, hk1, hyk, fun j hj => by rw [hk3 j (by omega) hj]; rfl⟩)
      rw [hyk] at hk2
      simp only [wyB, Bool.and_eq_true, decide_eq_true_eq] at hk2
      have hne : ib ≠ ia := by rintro rfl; rw [j6] at j7; simp at j7
      have hial := getElem?_lt j6
      have hibl := getElem?_lt j7
      obtain ⟨Gy, hGy⟩ : ∃ Gy, Gy = (Gx ++ [AObj.row 9 1 [[.str y]] true]).set ia .dead ++ [.row 9 1 ((r0 ++ [last] ++ [y]).map encSs) true] := ⟨_, rfl⟩
      have fl : Gy.length = Gx.length + 2 := by rw [hGy]; simp
      have f6 : Gy[Gx.length + 1]? = some (.row 9 1 ((r0 ++ [last] ++ [y]).map encSs) true) := by rw [hGy, List.getElem?_append_right (by simp)]; simp
      have f7 : Gy[ib]? = some (.row 3 1 [[.int .i64 m]] true) := by
       rw [hGy, List.getElem?_append_left (by simp; omega), List.getElem?_set_ne (Ne.symm hne), List.getElem?_append_left hibl]
       exact j7
      have f7b : (X ++ Gy)[X.length + ib]? = some (.row 3 1 [[.int .i64 m]] true) := by rw [List.getElem?_append_right (by omega), Nat.add_sub_cancel_left]; exact f7
      have eG : (X ++ (Gx ++ [AObj.row 9 1 [[.str y]] true])).set (X.length + ia) .dead ++ [grO 9 1 ((r0 ++ [last] ++ [y]).map encSs)] = X ++ Gy := by
       rw [List.set_append_right _ _ (by omega), Nat.add_sub_cancel_left, grO_pos _ _ (by simp), hGy, List.append_assoc]
      simp (disch := first | omega | (simp only [go_sem]; try omega)) only [go_sem, hyk, hk1]
      rw [show AC.sl (some (X.length + ia, 0)) (r0.length + 1) = grV (X.length + ia) (r0 ++ [last]) from (grV_snoc _ _ _).symm]
      refine appSs (r0 ++ [last]) y _ rfl (ty := 9) (own := true) (by rw [List.getElem?_append_right (by omega), Nat.add_sub_cancel_left, List.getElem?_append_left hial, grO_pos _ _ (by simp)]; exact j6) (by rw [List.getElem?_append_right (by omega), Nat.add_sub_cancel_left]; simp) (by simp; omega) ?_
      rw [eG]
      clear hGy eG
      simp (disch := first | omega | (simp only [go_sem]; try omega)) only [go_sem, f7b]
      have hm1 : ((m - 1 : Nat) : Int) = (m : Int) - 1 := by omega
      refine Next.mk (m - 1, r0 ++ [last], y, Gy ++ [AObj.row 3 1 [[.int .i64 ((m : Int) - 1)]] true], Gx.length + 1, Gy.length) ⟨⟨hfy, hkN y (by rw [hy]; exact List.getElem_mem hk1), fun e => ltN_irr _ (ltN_trans hk2.1 e), by dsimp only; omega, by simp; omega, ?_, ?_⟩, by dsimp only; omega⟩ ?_
      ·dsimp only
       rw [List.getElem?_append_left (by omega)]
       exact f6
      ·dsimp only
       rw [List.getElem?_append_right (Nat.le_refl _), Nat.sub_self, hm1]
       rfl
      ·clear hws hfy f6 f7 f7b j1 hk
       simp (disch := first | omega | (simp only [go_sem]; try omega)) only [go_sem]
       refine WkL.eq (by simp) ?_
       simp
       rw [grV_pos _ (by simp)]
       simp
    ·obtain rfl : m = 0 := by omega
     simp (disch := first | omega | (simp only [go_sem]; try omega)) only [go_sem, e7]
     have hRr : r0 ++ [last] = R := j1
     have eH : X ++ Gx = H ++ ((trO cs :: .row 9 1 [[.str fr]] true :: .row 79 1 [[.map (some p)]] true :: G) ++ Gx) := by rw [← hX]; unfold cyS; rw [List.append_assoc]
     rw [← hRr] at hk
     have e6b : ((trO cs :: AObj.row 9 1 [[.str fr]] true :: .row 79 1 [[.map (some p)]] true :: G) ++ Gx)[X.length - H.length + ia]? = some (.row 9 1 ((r0 ++ [last]).map encSs) true) := by
      rw [eH, List.getElem?_append_right (by omega)] at e6
      rw [show X.length - H.length + ia = X.length + ia - H.length by omega]
      exact e6
     rw [eH]
     refine Ret.frzAt (X.length - H.length + ia) hH (Nat.le_refl _) hk e6b (pureL_map _ (fun x => by simp [go_sem, AC.pure])) (by simp [AV.ok, AV.ok1, AC.ok]) ?_
     have e8 : H.length + (X.length - H.length + ia) = X.length + ia := by omega
     simp [AV.frz, AV.frz1, AC.frz, e8]
     exact List.take_of_length_le (by simp)
 ·simp (disch := first | omega | (simp only [go_sem]; try omega)) only [go_sem, hF]
  exact Ret.nilS (Nat.le_refl _) rfl (hk0 hF)
end Go.Proofs.YtagoolooikpabaaGreatDoor
