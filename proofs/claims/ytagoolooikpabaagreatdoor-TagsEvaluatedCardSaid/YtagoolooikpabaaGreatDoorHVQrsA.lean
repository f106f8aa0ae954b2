/- The document's tokens. Condition: the text is not long. -/
import Derived.Test.YtagoolooikpabaaGreatDoorHVTxtS
set_option linter.all false
namespace Go.Proofs.YtagoolooikpabaaGreatDoor
open Go Go.RowKit
set_option maxRecDepth 100000
set_option maxHeartbeats 2000000
variable {H : Hp} {K : AV → Hp → Prop}
def qB (t : Tok) : UInt8 := if t.k = 0 then 36 else if t.k = 1 then 110 else if t.k = 2 then 119 else if t.k = 3 then t.x.headD 0 else 63
def qK (t : Tok) : Int := ((qB t).toNat : Int)
def qX (t : Tok) : List UInt8 := if t.k = 4 then [] else t.x
def encQ (t : Tok) : List AC := [.int .u8 (qK t), .str (tB (qX t)), .int .i64 t.o]
attribute [go_sem] encQ
theorem appTk {i q ty : Nat} {own : Bool} {J : AV → Hp → Prop} (l : List Tok) (x : Tok) (l2 : List Tok) (e : l2 = l ++ [x]) (hi : H[i]? = some (grO 293 3 (l.map encQ))) (hj : H[q]? = some (.row ty 3 [encQ x] own)) (hb : l.length ≤ 1000000000)
  (h : J (.c (grV H.length l2)) (H.set i .dead ++ [grO 293 3 (l2.map encQ)])) : aBuiltin Tryz.prog .append #[240, 240] [.c (grV i l), .c (.sl (some (q, 0)) 1)] H J := by
 subst e
 exact app_grR (enc := encQ) (e := 293) (sz := 3) (bs := 32) (z := [.int .u8 0, .str .empty, .int .i64 0]) l [x] kRf kRf kRf kRf hi (by rw [hj]; rfl) sMp rfl (by decide) (by simp; omega) (by simp; omega) h
theorem encQ_pure (l : List Tok) : pureL (l.map encQ) = true := pureL_map _ (fun x => by simp [encQ, AC.pure])
def digQ : List UInt8 := [48, 49, 50, 51, 52, 53, 54, 55, 56, 57]
def smlQ : List UInt8 := [97, 98, 99, 100, 101, 102, 103, 104, 105, 106, 107, 108, 109, 110, 111, 112, 113, 114, 115, 116, 117, 118, 119, 120, 121, 122]
def wrdQ : List UInt8 := [97, 98, 99, 100, 101, 102, 103, 104, 105, 106, 107, 108, 109, 110, 111, 112, 113, 114, 115, 116, 117, 118, 119, 120, 121, 122, 48, 49, 50, 51, 52, 53, 54, 55, 56, 57, 95]
theorem dig_ix (c : UInt8) : decide (0 ≤ Lib.indexByte digQ c) = isDg c := by
 have key : ∀ c : Fin 256, decide (0 ≤ Lib.indexByte digQ c.val.toUInt8) = isDg c.val.toUInt8 := by decide +kernel
 have := key ⟨c.toNat, c.toNat_lt⟩
 simpa using this
theorem sml_ix (c : UInt8) : decide (0 ≤ Lib.indexByte smlQ c) = isSm c := by
 have key : ∀ c : Fin 256, decide (0 ≤ Lib.indexByte smlQ c.val.toUInt8) = isSm c.val.toUInt8 := by decide +kernel
 have := key ⟨c.toNat, c.toNat_lt⟩
 simpa using this
theorem wrd_ix (c : UInt8) : decide (0 ≤ Lib.indexByte wrdQ c) = isWd c := by
 have key : ∀ c : Fin 256, decide (0 ≤ Lib.indexByte wrdQ c.val.toUInt8) = isWd c.val.toUInt8 := by decide +kernel
 have := key ⟨c.toNat, c.toNat_lt⟩
 simpa using this
theorem ixb_a (s : ByteArray) (L : List UInt8) (hs : s = tB L) (c : UInt8) (hk : K (.c (.int .i64 (Lib.indexByte L c))) H) : ACalls Tryz.prog 167 [(.c (.str s)), .c (.int .u8 c.toNat)] H K := by
 subst hs
 refine indexByte_a _ _ ?_
 rw [show (tB L).data.toList = L from tL_tB L, show ((c.toNat : Int)).toNat.toUInt8 = c by simp]
 exact hk
theorem sm_97 {c : UInt8} (h : isDg c = true ∨ isSm c = true) : decide ((97 : Int) ≤ (c.toNat : Int)) = isSm c := by
 unfold isDg isSm at *
 rw [decide_eq_true_eq, decide_eq_true_eq] at h
 congr 1
 rw [eq_iff_iff]
 omega
theorem sgn_class {c : UInt8} (h : c ∈ sgnL) : isDg c = false ∧ isSm c = false := by
 have key : ∀ c ∈ sgnL, isDg c = false ∧ isSm c = false := by decide
 exact key c h
theorem tw_tok (p : UInt8 → Bool) (l : List UInt8) (k e : Nat) (hk : k < l.length) (hke : k ≤ e) (he : e ≤ l.length) (hall : ∀ i (h : i < l.length), k ≤ i → i < e → p l[i] = true) (hp : p l[k] = true) (hex : ∀ h : e < l.length, p l[e] = false) :
  (l.drop k).take (e - k) = l[k] :: (l.drop (k + 1)).takeWhile p ∧ e = k + 1 + ((l.drop (k + 1)).takeWhile p).length ∧ (l.drop (k + 1)).dropWhile p = l.drop e := by
 have hlt : k + 1 ≤ e := by
  rcases Nat.lt_or_ge k e with h | h
  ·exact h
  ·obtain rfl : e = k := by omega
   have := hex hk
   rw [hp] at this
   cases this
 have htw : (l.drop (k + 1)).takeWhile p = (l.drop (k + 1)).take (e - (k + 1)) := tw_at p _ _ (fun i h h1 => by
  rw [List.getElem_drop]
  exact hall _ _ oMg oMg) (by rw [List.length_drop]; omega) (fun h => by
  rw [List.length_drop] at h
  rw [List.getElem_drop]
  have h5 : e < l.length := by omega
  rw [← hex h5]
  congr 2
  omega)
 have hlen : ((l.drop (k + 1)).takeWhile p).length = e - (k + 1) := by rw [htw, List.length_take, List.length_drop]; omega
 refine ⟨?_, by omega, ?_⟩
 ·rw [htw, List.drop_eq_getElem_cons hk, show e - k = (e - (k + 1)) + 1 by omega, List.take_succ_cons]
 ·rw [drop_tw, hlen, List.drop_drop, show k + 1 + (e - (k + 1)) = e by omega]
theorem tokensQ_a (l : List UInt8) (hl : l.length ≤ 1000) (hk : K (.c (.lst 3 ((tokF l 0).map encQ))) H) : ACalls Tryz.prog 169 [(.c (.str (tB l)))] H K := by
 have hsz := tB_size l
 have hTl := (tokF_len l 0).2
 refine acalls Tryz.func169 rfl kRf gT (fun hH => ?_)
 refine gO ?_
 refine AWp.loop (H.length) [0] [4, 3] (fun (q : Nat × List Tok) => q.1 ≤ l.length ∧ q.2 ++ tokF (l.drop q.1) q.1 = tokF l 0) (fun (q : Nat × List Tok) => [(4, (.c (.int .i64 (q.1)))), (3, .c (grV H.length q.2))]) (fun (q : Nat × List Tok) => H ++ [grO 293 3 (q.2.map encQ)]) (fun (q : Nat × List Tok) => l.length - q.1) kRf (fun _ => rfl) kRf sOo sOm kl ?_ (fun q hq _ _ => ?_)
 ·refine Next.mk (0, []) ⟨Nat.zero_le _, by rw [List.drop_zero, List.nil_append]⟩ ?_
  exact WkL.pad oMg
 obtain ⟨k, L⟩ := q
 obtain ⟨q1, q3⟩ := hq
 dsimp only at q1 q3 ⊢
 have hLl : L.length ≤ 2000 := by
  have := congrArg List.length q3
  rw [List.length_append] at this
  omega
 by_cases hlt : k < l.length
 ·have hd : l.drop k = l[k] :: l.drop (k + 1) := List.drop_eq_getElem_cons hlt
  have hb := byte_at hlt
  rw [hd, tokF_cons] at q3
  obtain ⟨c, hc⟩ : ∃ c, c = l[k] := ⟨_, rfl⟩
  rw [← hc] at hb q3 hd
  have hcb := c.toNat_lt
  by_cases h32 : c = 32
  ·have h32' : (c.toNat : Int) = 32 := (toNat_32 c).2 h32
   rw [if_pos h32] at q3
   refine gO4 hsz hlt hb h32' ?_
   exact Next.mk (k + 1, L) ⟨⟨by dsimp only; omega, q3⟩, by dsimp only; omega⟩ wk
  ·have h32' : ¬ (c.toNat : Int) = 32 := fun h => h32 ((toNat_32 c).1 h)
   rw [if_neg h32] at q3
   refine gO4 hsz hlt hb h32' ?_
   refine ixb_a _ sgnL rfl c ?_
   refine gO ?_
   rw [sgn_ix c]
   have hsl1 : (tB l).extract k (k + 1) = tB [c] := by
    rw [ext_tB, hd, show k + 1 - k = 1 by omega]
    rfl
   have e1 : ((k : Int) + 1).toNat = k + 1 := by omega
   have hke : (k : Int) ≤ (k : Int) + 1 := by omega
   have hel : (k : Int) + 1 ≤ (l.length : Int) := by omega
   by_cases hsg : c ∈ sgnL
   ·obtain ⟨hnd, hns⟩ := sgn_class hsg
    rw [if_neg (by simp [hnd]), if_neg (by simp [hns]), if_pos hsg] at q3
    rw [decide_eq_true hsg]
    refine gO ?_
    refine w_draw kRf dKn ?_
    simp (disch := first | omega | (simp only [go_sem]; try omega)) only [go_sem, hsz, hlt, hb, hsl1, e1, hke, hel]
    refine appTk L ⟨3, [c], k⟩ _ rfl aTT aTT oMg ?_
    refine gO ?_
    refine Next.mk (k + 1, L ++ [⟨3, [c], k⟩]) ⟨⟨by dsimp only; omega, by dsimp only; rw [List.append_assoc]; exact q3⟩, by dsimp only; omega⟩ ?_
    exact ow
   ·rw [decide_eq_false hsg]
    refine gO3 hsz hlt hb ?_
    refine ixb_a _ digQ rfl c ?_
    refine gO ?_
    rw [dig_ix c]
    by_cases hdg : isDg c = true
    ·rw [if_pos hdg] at q3
     have h97 : decide ((97 : Int) ≤ (c.toNat : Int)) = false := by
      rw [sm_97 (.inl hdg)]
      cases h : isSm c with
      | false => rfl
      | true =>
       unfold isDg isSm at *
       rw [decide_eq_true_eq] at hdg h
       omega
     rw [hdg]
     refine gO4 hsz hlt hb h97 ?_
     refine AWp.loop (H.length + 1) [0, 3, 4, 5, 6] [7] (fun (e : Nat) => k ≤ e ∧ e ≤ l.length ∧ ∀ i (h : i < l.length), k ≤ i → i < e → isDg l[i] = true) (fun (e : Nat) => [(7, (.c (.int .i64 e)))]) (fun (e : Nat) => H ++ [grO 293 3 (L.map encQ)]) (fun (e : Nat) => l.length - e) kRf (fun _ => rfl) kRf sOo sOm kl ?_ (fun e q _ _ => ?_)
     ·refine Next.mk k ⟨by omega, by omega, fun i h h1 h2 => by omega⟩ ?_
      exact wk
     obtain ⟨g1, g2, g3⟩ := q
     by_cases hgo : ∃ h : e < l.length, isDg l[e] = true
     ·obtain ⟨hle, hde⟩ := hgo
      have hbe := byte_at hle
      refine gO3 hsz hle hbe ?_
      refine ixb_a _ digQ rfl l[e] ?_
      refine gO ?_
      rw [dig_ix l[e], hde]
      refine gO ?_
      refine Next.mk (e + 1) ⟨⟨by omega, by omega, fun i h h1 h2 => ?_⟩, by omega⟩ wk
      rcases Nat.lt_or_ge i e with h3 | h3
      ·exact g3 i h h1 h3
      ·obtain rfl : i = e := by omega
       exact hde
     ·have hex : ∀ h : e < l.length, isDg l[e] = false := fun h => by
       cases h7 : isDg l[e] with
       | false => rfl
       | true => exact absurd ⟨h, h7⟩ hgo
      obtain ⟨t1, t2, t3⟩ := tw_tok isDg l k e hlt g1 g2 g3 (by rw [← hc]; exact hdg) hex
      rw [← hc] at t1
      rw [t3, ← t2] at q3
      have hsl : (tB l).extract k e = tB (c :: (l.drop (k + 1)).takeWhile isDg) := by rw [ext_tB, t1]
      have hnext : (e ≤ l.length ∧ (L ++ [⟨1, c :: (l.drop (k + 1)).takeWhile isDg, k⟩]) ++ tokF (l.drop e) e = tokF l 0) ∧ l.length - e < l.length - k := ⟨⟨by omega, by rw [List.append_assoc]; exact q3⟩, by omega⟩
      clear t1 t2 t3 g3
      generalize c :: (l.drop (k + 1)).takeWhile isDg = X at *
      have hke' : (k : Int) ≤ (e : Int) := by omega
      have hel' : (e : Int) ≤ (l.length : Int) := by omega
      rcases Nat.lt_or_ge e l.length with hle | hle
      ·have hbe := byte_at hle
       have hde := hex hle
       refine gO3 hsz hle hbe ?_
       refine ixb_a _ digQ rfl l[e] ?_
       refine gO ?_
       rw [dig_ix l[e], hde]
       refine gO4 hsz hsl hke' hel' ?_
       refine appTk L ⟨1, X, k⟩ _ rfl aTT aTT oMg ?_
       refine gO ?_
       refine Next.mk (e, L ++ [⟨1, X, k⟩]) hnext ?_
       exact ow
      ·have hle2 : ¬ e < l.length := by omega
       simp (disch := first | omega | (simp only [go_sem]; try omega)) only [go_sem, hsz, hle2, hsl, hke', hel']
       refine appTk L ⟨1, X, k⟩ _ rfl aTT aTT oMg ?_
       refine gO ?_
       refine Next.mk (e, L ++ [⟨1, X, k⟩]) hnext ?_
       exact ow
    ·have hdg' : isDg c = false := by simpa using hdg
     rw [if_neg hdg] at q3
     rw [hdg']
     refine gO3 hsz hlt hb ?_
     refine ixb_a _ smlQ rfl c ?_
     refine gO ?_
     rw [sml_ix c]
     by_cases hsm : isSm c = true
     ·rw [if_pos hsm] at q3
      have h97 : decide ((97 : Int) ≤ (c.toNat : Int)) = true := by rw [sm_97 (.inr hsm), hsm]
      rw [hsm]
      refine gO4 hsz hlt hb h97 ?_
      refine AWp.loop (H.length + 1) [0, 3, 4, 5, 6] [7] (fun (e : Nat) => k ≤ e ∧ e ≤ l.length ∧ ∀ i (h : i < l.length), k ≤ i → i < e → isWd l[i] = true) (fun (e : Nat) => [(7, (.c (.int .i64 e)))]) (fun (e : Nat) => H ++ [grO 293 3 (L.map encQ)]) (fun (e : Nat) => l.length - e) kRf (fun _ => rfl) kRf sOo sOm kl ?_ (fun e q _ _ => ?_)
      ·refine Next.mk k ⟨by omega, by omega, fun i h h1 h2 => by omega⟩ ?_
       exact wk
      obtain ⟨g1, g2, g3⟩ := q
      by_cases hgo : ∃ h : e < l.length, isWd l[e] = true
      ·obtain ⟨hle, hde⟩ := hgo
       have hbe := byte_at hle
       refine gO3 hsz hle hbe ?_
       refine ixb_a _ wrdQ rfl l[e] ?_
       refine gO ?_
       rw [wrd_ix l[e], hde]
       refine gO ?_
       refine Next.mk (e + 1) ⟨⟨by omega, by omega, fun i h h1 h2 => ?_⟩, by omega⟩ wk
       rcases Nat.lt_or_ge i e with h3 | h3
       ·exact g3 i h h1 h3
       ·obtain rfl : i = e := by omega
        exact hde
      ·have hex : ∀ h : e < l.length, isWd l[e] = false := fun h => by
        cases h7 : isWd l[e] with
        | false => rfl
        | true => exact absurd ⟨h, h7⟩ hgo
       obtain ⟨t1, t2, t3⟩ := tw_tok isWd l k e hlt g1 g2 g3 (by rw [← hc]; exact isSm_wd hsm) hex
       rw [← hc] at t1
       rw [t3, ← t2] at q3
       have hsl : (tB l).extract k e = tB (c :: (l.drop (k + 1)).takeWhile isWd) := by rw [ext_tB, t1]
       have hnext : (e ≤ l.length ∧ (L ++ [⟨2, c :: (l.drop (k + 1)).takeWhile isWd, k⟩]) ++ tokF (l.drop e) e = tokF l 0) ∧ l.length - e < l.length - k := ⟨⟨by omega, by rw [List.append_assoc]; exact q3⟩, by omega⟩
       clear t1 t2 t3 g3
       generalize c :: (l.drop (k + 1)).takeWhile isWd = X at *
       have hke' : (k : Int) ≤ (e : Int) := by omega
       have hel' : (e : Int) ≤ (l.length : Int) := by omega
       rcases Nat.lt_or_ge e l.length with hle | hle
       ·have hbe := byte_at hle
        have hde := hex hle
        refine gO3 hsz hle hbe ?_
        refine ixb_a _ wrdQ rfl l[e] ?_
        refine gO ?_
        rw [wrd_ix l[e], hde]
        refine gO4 hsz hsl hke' hel' ?_
        refine appTk L ⟨2, X, k⟩ _ rfl aTT aTT oMg ?_
        refine gO ?_
        refine Next.mk (e, L ++ [⟨2, X, k⟩]) hnext ?_
        exact ow
       ·have hle2 : ¬ e < l.length := by omega
        simp (disch := first | omega | (simp only [go_sem]; try omega)) only [go_sem, hsz, hle2, hsl, hke', hel']
        refine appTk L ⟨2, X, k⟩ _ rfl aTT aTT oMg ?_
        refine gO ?_
        refine Next.mk (e, L ++ [⟨2, X, k⟩]) hnext ?_
        exact ow
     ·have hsm' : isSm c = false := by simpa using hsm
      rw [if_neg hsm, if_neg hsg] at q3
      rw [hsm']
      refine gO3 hsz hlt hb ?_
      refine appTk L ⟨4, [c], k⟩ _ rfl aTT aTT oMg ?_
      rw [q3]
      refine gO ?_
      exact Ret.frzGr (l := (tokF l 0).map encQ) 2 hH sMp rfl (encQ_pure _) (by simp [map_grV]) hk
 ·have hkl : k = l.length := by omega
  subst hkl
  rw [List.drop_length, tokF_nil] at q3
  refine gO1 hsz ?_
  refine appTk L ⟨0, [], l.length⟩ _ rfl aTT aTT oMg ?_
  rw [q3]
  refine gO ?_
  exact Ret.frzGr (l := (tokF l 0).map encQ) 2 hH sMp rfl (encQ_pure _) (by simp [map_grV]) hk
end Go.Proofs.YtagoolooikpabaaGreatDoor
