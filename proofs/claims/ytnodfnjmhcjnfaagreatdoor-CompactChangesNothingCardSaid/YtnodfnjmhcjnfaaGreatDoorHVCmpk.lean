/- Compact: the program and the document. Condition: the bytes fit. -/
import Derived.Test.YtnodfnjmhcjnfaaGreatDoorHVBlkA
import Derived.Test.YtnodfnjmhcjnfaaGreatDoorHVArrE
namespace Go.Proofs.YtnodfnjmhcjnfaaGreatDoor
open Go Go.RowKit
set_option maxRecDepth 100000
set_option linter.all false
set_option maxHeartbeats 2000000
variable {H : Hp} {K : AV → Hp → Prop}
theorem qryF_mem {ps : List Pc} {t : ByteArray} {a b : Int} {y : Smp} (h : y ∈ qryF ps t a b) : ∃ x ∈ ps, y ∈ flatQ t a b x := by
  have h2 := pfS_sub _ _ (serM_mem h)
  obtain ⟨x, hx, hy⟩ := List.mem_flatMap.1 h2
  exact ⟨x, hx, hy⟩
theorem tagF_mem {ps : List Pc} {t : ByteArray} (h : t ∈ tagF ps) : ∃ x ∈ ps, x.b.tag = t := by
  unfold tagF at h
  have h2 := srtS_mem.1 (cplF_mem.1 h)
  obtain ⟨x, hx, e⟩ := List.mem_map.1 h2
  exact ⟨x, hx, e⟩
def allQ (ps : List Pc) (t : ByteArray) : List Smp := qryF ps t 0 345686400000
def cpcF (ps : List Pc) : List ByteArray → List UInt8 → Option (List UInt8)
  | [], out => some out
  | t :: ts, out => if 5000 < (allQ ps t).length then none else cpcF ps ts (out ++ chB t (allQ ps t) false (List.range (nch (allQ ps t))))
def cpcR (l : List UInt8) : List UInt8 × Int := if (par l).2.2 ≠ 0 then ([], (par l).2.2) else match cpcF (par l).1 (tagF (par l).1) [] with
  | none => ([], 2)
  | some out => if 200000 < out.length then ([], 12) else (out, 0)
theorem headB_40 (tag : ByteArray) (n : Nat) (o : Bool) (ht : tag.size ≤ 40) (hn : n ≤ 1000) : (headB tag n o).length ≤ 60 := by
  have h1 := vb6 (n := tag.size) ⟨by omega, by omega⟩
  have h2 := vb6 (n := n) ⟨by omega, by omega⟩
  have h3 : tag.data.toList.length = tag.size := Array.length_toList
  simp only [headB, List.length_append, List.length_cons, List.length_nil]
  omega
theorem blockB_40 (tag : ByteArray) (l : List Smp) (o : Bool) (ht2 : tag.size ≤ 40) (hl : l.length ≤ 100) (hs : ∀ s ∈ l, smlS s) : (blockB tag l o).length ≤ 2000 := by
  have h1 := headB_40 tag l.length o ht2 (by omega)
  have h2 := smpsB_len l ⟨0, 0, 0⟩ (by simp [smlS]) hs
  simp only [blockB, bodyB, List.length_append, List.length_cons, List.length_nil]
  omega
theorem chB_40 (tag : ByteArray) (l : List Smp) (o : Bool) (ht2 : tag.size ≤ 40) (hs : ∀ s ∈ l, smlS s) : ∀ ks : List Nat, (chB tag l o ks).length ≤ 2000 * ks.length
  | [] => by simp [chB]
  | k :: ks => by
    have h1 := blockB_40 tag (parts 100 l k) o ht2 (parts_len 100 l k) (fun s h => hs s (parts_mem h))
    have h2 := chB_40 tag l o ht2 hs ks
    simp only [chB, List.flatMap_cons, List.length_append, List.length_cons] at h2 ⊢
    omega
theorem appUg {i : Nat} {J : AV → Hp → Prop} (l m l2 : List UInt8) (e2 : l2 = l ++ m) (hi : H[i]? = some (grO 5 1 (l.map encU))) (hb : l.length + m.length ≤ 100000000000)
    (h1 : l2 = l → J (.c (grV i l)) H) (h2 : J (.c (grV H.length l2)) (H.set i .dead ++ [grO 5 1 (l2.map encU)])) : aBuiltin Tryz.prog .append #[64, 64] [.c (grV i l), .c (.lst 1 (m.map encU))] H J := by
  by_cases hm : m = []
  · subst hm
    have h1 := h1 (by rw [e2, List.append_nil])
    rw [List.map_nil]
    cases l with
    | nil => refine app_lst ?_; simp (disch := first | omega | (simp only [go_sem]; first | done | omega)) only [go_sem]; exact h1
    | cons x xs => rw [grV_pos _ (by simp)] at h1 ⊢; refine app_lst ?_; simp (disch := first | omega | (simp only [go_sem]; first | done | omega)) only [go_sem]; exact h1
  · subst e2
    exact appU l m hi hm hb h2
theorem compact_a (l : List UInt8) (hl : l.length ≤ 100000000) (hk : K (.tup [.c (.lst 1 ((cpcR l).1.map encU)), (.c (.int .i64 ((cpcR l).2)))]) H) : ACalls Tryz.prog 70 [.c (.lst 1 (l.map encU))] H K := by
  unfold cpcR at hk
  refine acalls Tryz.func70 rfl (by kernel_rfl) (by simp (disch := first | omega | (simp only [go_sem]; first | done | omega)) only [go_sem]) (fun hH => ?_)
  simp (disch := first | omega | (simp only [go_sem]; first | done | omega)) only [go_sem]
  refine walkB_a l hl (fun h => ?_) (fun h => ?_)
  · rw [if_pos h] at hk
    simp (disch := first | omega | (simp only [go_sem]; first | done | omega)) only [go_sem, h]
    exact Ret.nilS (Nat.le_refl _) rfl hk
  obtain ⟨g1, g2, g3, g4⟩ := par_good h
  have g5 := par_smOk h
  rw [if_neg (by rw [h]; decide)] at hk
  simp (disch := first | omega | (simp only [go_sem]; first | done | omega)) only [go_sem]
  refine tags_a (j := H.length + 2) (m := H.length) (p := (par l).2.1) l (par l).1 (by omega) (by first | exact at1 (by simp) | exact at1 (by omega)) (by first | exact at2 (by simp) | exact at2 (by omega)) ?_
  have htl : (tagF (par l).1).length ≤ 200000 := by
    unfold tagF
    have h1 := cplF_le (srtS ((par l).1.map fun x => x.b.tag))
    rw [srtS_len, List.length_map] at h1
    omega
  have htk : ∀ t ∈ tagF (par l).1, isKey t := fun t ht => by
    obtain ⟨x, hx, e⟩ := tagF_mem ht
    rw [← e]
    exact (g4 x hx).2.1
  have hsm : ∀ (t : ByteArray) (a b : Int), ∀ y ∈ qryF (par l).1 t a b, smlS y := fun t a b y hy => by
    obtain ⟨x, hx, hq⟩ := qryF_mem hy
    exact serF_sml (g4 x hx).1 y (flatQ_sub.subset hq)
  have hqb : ∀ (t : ByteArray) (a b : Int), (qryF (par l).1 t a b).length ≤ 200000 := fun t a b => by
    unfold qryF
    rw [serM_len]
    have h1 := puts_len ((par l).1.flatMap (flatQ t a b)) []
    have h2 := flatm_len (flatQ t a b) (fun x : Pc => x.ss) (fun x => flatQ_sub) (par l).1
    have h3 : (pfS ((par l).1.flatMap (flatQ t a b))).length ≤ ((par l).1.flatMap (flatQ t a b)).length := by simpa [pfS] using h1
    unfold ssL at g2
    omega
  have g2b : ((par l).1.flatMap (fun x => x.ss)).length ≤ 200000 := by unfold ssL at g2; omega
  generalize hts : tagF (par l).1 = ts at *
  generalize hC : cpcF (par l).1 ts [] = C at hk
  generalize (par l).2.1 = p at *
  generalize (par l).1 = ps at *
  simp (disch := first | omega | (simp only [go_sem]; first | done | omega)) only [go_sem]
  refine AWp.loop (H.length + 3) [4, 19, 20] [21, 6] (fun (s : Nat × List UInt8) => s.1 ≤ ts.length ∧ s.2.length ≤ 150000 * s.1 ∧ C = cpcF ps (ts.drop s.1) s.2) (fun (s : Nat × List UInt8) => [(21, (.c (.int .i64 (s.1)))), (6, .c (grV (H.length + 3) s.2))]) (fun (s : Nat × List UInt8) => H ++ [lastMp ps, wlk 180 l p (H.length + 2) H.length ps, grO 215 8 (ps.map encPc), grO 5 1 (s.2.map encU)]) (fun (s : Nat × List UInt8) => ts.length - s.1) (by kernel_rfl) (fun _ => rfl) (by kernel_rfl) (by first | (simp; done) | omega) (by first | (simp; done) | (simp; omega) | omega) kl ?_ (fun s hs _ _ => ?_)
  · refine Next.mk (0, []) ⟨Nat.zero_le _, by simp, hC.symm⟩ ?_
    (try simp (disch := first | omega | (simp only [go_sem]; first | done | omega)) only [go_sem])
    exact WkL.padP [_, _, _] (by simp)
  obtain ⟨k, out⟩ := s
  obtain ⟨q1, q2, q3⟩ := hs
  dsimp only at q1 q2 q3 ⊢
  by_cases hlt : k < ts.length
  · obtain ⟨t, ht⟩ : ∃ t, t = ts[k] := ⟨_, rfl⟩
    rw [List.drop_eq_getElem_cons hlt, ← ht, cpcF] at q3
    obtain ⟨X, hX⟩ : ∃ X, X = qryF ps t 0 345686400000 := ⟨_, rfl⟩
    have eX : allQ ps t = X := hX.symm
    have hXb : X.length ≤ 200000 := hX ▸ hqb t 0 345686400000
    have hXs : ∀ y ∈ X, smlS y := hX ▸ hsm t 0 345686400000
    have hky := htk t (ht ▸ List.getElem_mem hlt)
    rw [eX] at q3
    simp (disch := first | omega | (simp only [go_sem]; first | done | omega)) only [go_sem, hlt, ← ht]
    refine query_a (j := H.length + 2) (m := H.length) (p := p) l ps t ⟨0, 345686400000⟩ (by omega) (by omega) g5 (by first | exact at1 (by simp) | exact at1 (by omega)) (by first | exact at2 (by simp) | exact at2 (by omega)) ?_
    rw [← hX]
    by_cases h5 : 5000 < X.length
    · rw [if_pos h5] at q3
      rw [q3] at hk
      have h5' : (5000 : Int) < X.length := by omega
      simp (disch := first | omega | (simp only [go_sem]; first | done | omega)) only [go_sem, h5']
      exact Ret.nilT hH (Nat.le_refl _) rfl hk
    rw [if_neg h5] at q3
    have h5' : ¬ (5000 : Int) < X.length := by omega
    simp (disch := first | omega | (simp only [go_sem]; first | done | omega)) only [go_sem, h5']
    have hk1 : 0 < t.size := by have := hky.1; omega
    have hk2 : t.size ≤ 40 := hky.2.1
    refine blocks_a t X false hk1 (by omega) (by omega) hXs ?_
    have hml := chB_40 t X false hk2 hXs (List.range (nch X))
    rw [List.length_range] at hml
    have hnc : nch X ≤ 51 := by unfold nch; omega
    generalize chB t X false (List.range (nch X)) = m at *
    obtain ⟨out2, ho2⟩ : ∃ o, o = out ++ m := ⟨_, rfl⟩
    rw [← ho2] at q3
    have hol : out2.length = out.length + m.length := by rw [ho2, List.length_append]
    clear hk
    simp (disch := first | omega | (simp only [go_sem]; first | done | omega)) only [go_sem]
    refine appUg out m out2 ho2 (by first | exact at3 (by simp) | exact at3 (by omega)) (by omega) (fun e => ?_) ?_
    · simp (disch := first | omega | (simp only [go_sem]; first | done | omega)) only [go_sem]
      refine Next.mk (k + 1, out2) ⟨⟨by dsimp only; omega, by dsimp only; omega, q3⟩, by dsimp only; omega⟩ ?_
      dsimp only
      rw [e]
      exact wk
    · simp (disch := first | omega | (simp only [go_sem]; first | done | omega)) only [go_sem]
      refine Next.mk (k + 1, out2) ⟨⟨by dsimp only; omega, by dsimp only; omega, q3⟩, by dsimp only; omega⟩ ?_
      (try simp (disch := first | omega | (simp only [go_sem]; first | done | omega)) only [go_sem])
      refine WkL.pickAt [lastMp ps, wlk 180 l p (H.length + 2) H.length ps, grO 215 8 (ps.map encPc)] [1] (L := [grO 5 1 (out2.map encU)]) hH ?_ ?_ ?_ (by simp) ?_ ?_ ?_
      · intro o ho
        simp only [List.mem_cons, List.not_mem_nil, or_false] at ho
        rcases ho with rfl | rfl | rfl
        · exact lastMp_ok ps _
        · exact wlk_ok l p ps (by simp) (by simp)
        · exact prt_ok ps _
      · simp
      · rfl
      · simp only [List.all_cons, List.all_nil, Bool.and_true]
        exact pureO_gr (pureL_U _)
      · simp only [List.map_cons, List.map_nil, av_ren_gr]
        simp [AV.ren, AV.ren1, AC.ren, pickS]
      · simp only [List.forall_mem_cons, List.not_mem_nil, false_implies, implies_true, and_true]
        exact ⟨trivial, grV_ok (by simp) _⟩
  · have hke : k = ts.length := by omega
    subst hke
    rw [List.drop_length, cpcF] at q3
    rw [q3] at hk
    dsimp only at hk
    by_cases h6 : 200000 < out.length
    · rw [if_pos h6] at hk
      have h6' : (200000 : Int) < out.length := by omega
      simp (disch := first | omega | (simp only [go_sem]; first | done | omega)) only [go_sem, h6']
      exact Ret.nilT hH (Nat.le_refl _) rfl hk
    · rw [if_neg h6] at hk
      have h6' : ¬ (200000 : Int) < out.length := by omega
      simp (disch := first | omega | (simp only [go_sem]; first | done | omega)) only [go_sem, h6']
      exact Ret.frzGrT 3 hH (Nat.le_refl _) rfl (pureL_U _) rfl (map_grV _ _ _).symm hk
end Go.Proofs.YtnodfnjmhcjnfaaGreatDoor
