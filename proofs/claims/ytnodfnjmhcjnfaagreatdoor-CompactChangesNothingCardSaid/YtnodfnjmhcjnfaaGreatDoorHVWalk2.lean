/- Package block's own walks through a file. Condition: the bytes fit. -/
import Derived.Test.YtnodfnjmhcjnfaaGreatDoorHVWalk
import Derived.Shelf.SlicesE.Delete
import Derived.Shelf.Spec.SlicesInsertGrow
import Derived.Test.YtnodfnjmhcjnfaaGreatDoorProg
import Derived.Test.YtnodfnjmhcjnfaaGreatDoorHCoreC
import Derived.Test.YtnodfnjmhcjnfaaGreatDoorHVArrE
import Derived.Test.YtnodfnjmhcjnfaaGreatDoorHVGC
import Derived.Test.YtnodfnjmhcjnfaaGreatDoorHVBytes
namespace Go.Proofs.YtnodfnjmhcjnfaaGreatDoor
open Go Go.RowKit
set_option maxRecDepth 100000
set_option linter.all false
set_option maxHeartbeats 2000000
variable {H : Hp} {K : AV → Hp → Prop}
theorem lastMp_nil : mpO [] = lastMp [] := rfl
theorem wstep_a (l : List UInt8) (p : Nat) (acc : List Pc) (hp : p ≤ l.length) (hl : l.length ≤ 200000) (ha : acc.length ≤ 1000000)
    (hk1 : (decTop l p).2.2 ≠ 0 → K (.c (.int .i64 ((decTop l p).2.2))) (H ++ [lastMp acc, wlk 180 l p (H.length + 2) H.length acc, grO 215 8 (acc.map encPc)])) (hk2 : (decTop l p).2.2 = 0 → foll acc (decTop l p).1 = false → K (.c (.int .i64 7)) (H ++ [lastMp acc, wlk 180 l p (H.length + 2) H.length acc, grO 215 8 (acc.map encPc)]))
    (hk3 : (decTop l p).2.2 = 0 → foll acc (decTop l p).1 = true → K (.c (.int .i64 0)) (H ++ [lastMp (acc ++ [pcOf (decTop l p)]), wlk 180 l (p + (decTop l p).1.long.toNat) (H.length + 3) H.length (acc ++ [pcOf (decTop l p)]), .dead, grO 215 8 ((acc ++ [pcOf (decTop l p)]).map encPc)])) :
    ACalls Tryz.prog 127 [.c (.ptr (some (H.length + 1, 0, 0)))] (H ++ [lastMp acc, wlk 180 l p (H.length + 2) H.length acc, grO 215 8 (acc.map encPc)]) K := by
  rw [decTop_in hl hp] at hk1 hk2 hk3
  refine step_a (c := H.length + 1) (j := H.length + 2) (m := H.length) l p acc hp hl ha (by first | ((repeat first | exact at0 (by simp) | refine atS ?_); done) | assumption) (by first | ((repeat first | exact at0 (by simp) | refine atS ?_); done) | assumption) (by first | ((repeat first | exact at0 (by simp) | refine atS ?_); done) | assumption) (by omega) (by omega) (by omega) hk1 hk2 (fun h1 h2 => ?_)
  have := hk3 h1 h2
  simpa [List.set_append, List.append_assoc] using this
theorem lastMp_ren (ps : List Pc) (σ : Nat → Nat) : (lastMp ps).ren σ = lastMp ps := by
  unfold lastMp mpO
  simp only [AObj.ren, List.length_map, List.map_map]
  congr 1
theorem wlk_ok {n j m : Nat} (l : List UInt8) (q : Nat) (acc : List Pc) (hj : j < n) (hm : m < n) : (wlk 180 l q j m acc).okN n := by
  intro e he
  simp only [wlk, List.mem_singleton] at he
  subst he
  refine ⟨rfl, ?_⟩
  simp only [List.forall_mem_cons, List.not_mem_nil, false_implies, implies_true, and_true]
  exact ⟨trivial, trivial, grV_ok hj _, hm⟩
theorem wlk_ren (l : List UInt8) (q j m : Nat) (acc : List Pc) (σ : Nat → Nat) : (wlk 180 l q j m acc).ren σ = wlk 180 l q (σ j) (σ m) acc := by
  simp only [wlk, row_ren, List.map_cons, List.map_nil, grV_ren]
  rfl
theorem prt_ok (acc : List Pc) (n : Nat) : (grO 215 8 (acc.map encPc)).okN n := okN_grO (fun x => by simp [encPc, AC.pure])
theorem prt_ren (acc : List Pc) (σ : Nat → Nat) : (grO 215 8 (acc.map encPc)).ren σ = grO 215 8 (acc.map encPc) := grO_ren _ _ _ (pureL_Pc acc)
theorem WkL.walker {G : Hp} {vs vs' : List AV} {m : Nat} (k : Nat) (l : List UInt8) (q : Nat) (acc : List Pc) (L : Hp) (ids : List Nat) (hH : HOk H) (hm : m ≤ H.length + 2)
    (hG : G[k]? = some (grO 215 8 (acc.map encPc))) (hL : ids.map (fun j => G[j]?) = L.map some) (hpL : L.all AObj.pureO = true) (hk : k ∉ ids) (hnd : ids.Nodup) (hok : ∀ o ∈ L, o.okN (H.length + 3 + L.length))
    (hv : vs = vs'.map (AV.ren (pickS H.length (0 :: 1 :: (k + 2) :: ids.map (· + 2))))) (ho : ∀ x ∈ vs', x.ok (H.length + 3 + L.length)) :
    WkL m vs (H ++ lastMp acc :: wlk 180 l q (H.length + (k + 2)) H.length acc :: G) vs' (H ++ lastMp acc :: wlk 180 l q (H.length + 2) H.length acc :: grO 215 8 (acc.map encPc) :: L) := by
  have e2 : pickS H.length (0 :: 1 :: (k + 2) :: ids.map (· + 2)) (H.length + 2) = H.length + (k + 2) := by rw [pickS_add]; rfl
  have e0 : pickS H.length (0 :: 1 :: (k + 2) :: ids.map (· + 2)) H.length = H.length := by rw [pickS_zero]; rfl
  refine WkL.pickR (0 :: 1 :: (k + 2) :: ids.map (· + 2)) 2 hH hm (by simp) ?_ ?_ ?_ ?_ hv (fun x hx => by have := ho x hx; simpa [Nat.add_assoc, Nat.add_comm, Nat.add_left_comm] using this)
  · intro j hj
    match j, hj with
    | 0, _ => rfl
    | 1, _ => rfl
  · simp only [List.map_cons, List.getElem?_cons_zero, List.getElem?_cons_succ, lastMp_ren, wlk_ren, prt_ren, e2, e0, hG, List.map_map]
    congr 3
    have : (ids.map (fun j => G[j]?)) = L.map fun o => some (o.ren (pickS H.length (0 :: 1 :: (k + 2) :: ids.map (· + 2)))) := by
      rw [hL]
      refine List.map_congr_left fun o ho => ?_
      rw [pureO_ren (List.all_eq_true.1 hpL o ho)]
    rw [← this]
    rfl
  · rw [List.nodup_cons, List.nodup_cons, List.nodup_cons]
    refine ⟨by simp, by simp, fun h => ?_, ?_⟩
    · obtain ⟨j, hj, e⟩ := List.mem_map.1 h
      obtain rfl : j = k := by omega
      exact hk hj
    · show List.Pairwise _ _
      rw [List.pairwise_map]
      exact hnd.imp (fun h e => h (by omega))
  · intro o ho
    have e : (lastMp acc :: wlk 180 l q (H.length + 2) H.length acc :: grO 215 8 (acc.map encPc) :: L).length = L.length + 3 := by simp
    rw [e]
    simp only [List.mem_cons] at ho
    rcases ho with rfl | rfl | rfl | ho
    · exact lastMp_ok acc _
    · exact wlk_ok l q acc (by omega) (by omega)
    · exact prt_ok acc _
    · have := hok o ho; rw [show H.length + (L.length + 3) = H.length + 3 + L.length by omega]; exact this
theorem walk_a (l : List UInt8) (hl : l.length ≤ 200000) (hk0 : (par l).2.2 ≠ 0 → K (.tup [.c (.ptr none), (.c (.int .i64 ((par l).2.2)))]) H)
    (hk1 : (par l).2.2 = 0 → K (.tup [.c (.ptr (some (H.length + 1, 0, 0))), (.c (.int .i64 0))]) (H ++ [lastMp (par l).1, wlk 180 l (par l).2.1 (H.length + 2) H.length (par l).1, grO 215 8 ((par l).1.map encPc)])) : ACalls Tryz.prog 153 [.c (.lst 1 (l.map encU))] H K := by
  have hT := par_G hl
  generalize par l = T at *
  have e0 : ((200000 : Int) < l.length) = False := by simp; omega
  refine acalls Tryz.func153 rfl (by kernel_rfl) (by simp (disch := first | omega | (simp only [go_sem]; first | done | omega)) only [go_sem]) (fun hH => ?_)
  simp (disch := first | omega | (simp only [go_sem]; first | done | omega)) only [go_sem, e0]
  refine newWalker_a l ?_
  simp (disch := first | omega | (simp only [go_sem]; first | done | omega)) only [go_sem]
  refine AWp.loop (H.length + 2) [0, 4] [] (fun (s : Nat × List Pc) => s.1 ≤ l.length ∧ s.2.length ≤ s.1 ∧ T = parG l s.1 s.2) (fun (s : Nat × List Pc) => []) (fun (s : Nat × List Pc) => H ++ [lastMp s.2, wlk 180 l s.1 (H.length + 2) H.length s.2, grO 215 8 (s.2.map encPc)]) (fun (s : Nat × List Pc) => l.length - s.1) (by kernel_rfl) (fun _ => rfl) (by kernel_rfl) (by first | (simp; done) | omega) (by first | (simp; done) | (simp; omega) | omega) kl ?_ (fun s hs _ _ => ?_)
  · refine Next.mk (0, []) ⟨by simp, by simp, hT⟩ ?_
    rw [← lastMp_nil]
    simp (disch := first | omega | (simp only [go_sem]; first | done | omega)) only [go_sem]
    exact WkL.padP [_, _] (by simp)
  obtain ⟨p, acc⟩ := s
  obtain ⟨hp, ha, hr⟩ := hs
  dsimp only at hp ha hr ⊢
  by_cases hlt : p < l.length
  · rw [parG_step acc hlt] at hr
    simp (disch := first | omega | (simp only [go_sem]; first | done | omega)) only [go_sem]
    refine wstep_a l p acc hp hl (by omega) (fun h1 => ?_) (fun h1 h2 => ?_) (fun h1 h2 => ?_)
    · rw [if_pos h1] at hr
      rw [hr] at hk0
      simp (disch := first | omega | (simp only [go_sem]; first | done | omega)) only [go_sem, h1]
      exact Ret.drop hH (Nat.le_refl _) (by simp [AV.ok, AV.ok1, AC.ok]) (hk0 h1)
    · rw [if_neg (by simpa using h1), if_pos h2] at hr
      rw [hr] at hk0
      simp (disch := first | omega | (simp only [go_sem]; first | done | omega)) only [go_sem]
      exact Ret.drop hH (Nat.le_refl _) (by simp [AV.ok, AV.ok1, AC.ok]) (hk0 (show (7 : Int) ≠ 0 by decide))
    · rw [if_neg (by simpa using h1), if_neg (by rw [h2]; decide)] at hr
      have hok := decTop_ok h1
      have hq : 1 ≤ (decTop l p).1.long.toNat ∧ p + (decTop l p).1.long.toNat ≤ l.length := by omega
      unfold pcOf
      generalize (decTop l p).1.long.toNat = q at *
      generalize hacc : acc ++ [({ b := (decTop l p).1, ss := (decTop l p).2.1 } : Pc)] = acc' at *
      have hal : acc'.length = acc.length + 1 := by rw [← hacc]; simp
      simp (disch := first | omega | (simp only [go_sem]; first | done | omega)) only [go_sem]
      refine Next.mk (p + q, acc') ⟨⟨by dsimp only; omega, by dsimp only; omega, hr⟩, by dsimp only; omega⟩ ?_
      dsimp only
      exact WkL.walker (vs := []) (vs' := []) 1 l (p + q) acc' [] [] hH (by omega) rfl rfl rfl (by simp) (by simp) (by simp) rfl (by simp)
  · have : p = l.length := by omega
    subst this
    rw [parG_end acc (Nat.le_refl _)] at hr
    rw [hr] at hk1
    simp (disch := first | omega | (simp only [go_sem]; first | done | omega)) only [go_sem]
    exact Ret.same (by simp) (hk1 rfl)
def idxB (l : List UInt8) : List Blk := if (par l).2.2 ≠ 0 then [] else (par l).1.map (·.b)
theorem index_a (l : List UInt8) (hl : l.length ≤ 200000) (hk : K (.tup [.c (.lst 7 ((idxB l).map encBk)), (.c (.int .i64 ((par l).2.2)))]) H) : ACalls Tryz.prog 59 [.c (.lst 1 (l.map encU))] H K := by
  have hpl := par_len l
  unfold idxB at hk
  refine acalls Tryz.func59 rfl (by kernel_rfl) (by simp (disch := first | omega | (simp only [go_sem]; first | done | omega)) only [go_sem]) (fun hH => ?_)
  simp (disch := first | omega | (simp only [go_sem]; first | done | omega)) only [go_sem]
  refine walk_a l hl (fun h => ?_) (fun h => ?_)
  · rw [if_pos h] at hk
    simp (disch := first | omega | (simp only [go_sem]; first | done | omega)) only [go_sem, h]
    exact Ret.nil [7] (by simp) (Ret.same (by simp) hk)
  rw [if_neg (by rw [h]; decide), h] at hk
  generalize (par l).2.1 = p at *
  generalize (par l).1 = ps at *
  simp (disch := first | omega | (simp only [go_sem]; first | done | omega)) only [go_sem]
  refine AWp.loop (H.length + 3) [20, 21] [22, 6] (fun (k : Nat) => k ≤ ps.length) (fun (k : Nat) => [(22, (.c (.int .i64 k))), (6, .c (grV (H.length + 3) ((ps.take k).map (·.b))))]) (fun (k : Nat) => H ++ [lastMp ps, wlk 180 l p (H.length + 2) H.length ps, grO 215 8 (ps.map encPc), grO 106 7 (((ps.take k).map (·.b)).map encBk)]) (fun (k : Nat) => ps.length - k) (by kernel_rfl) (fun _ => rfl) (by kernel_rfl) (by first | (simp; done) | omega) (by first | (simp; done) | (simp; omega) | omega) kl ?_ (fun k hk1 _ _ => ?_)
  · refine Next.mk 0 (by omega) ?_
    (try simp (disch := first | omega | (simp only [go_sem]; first | done | omega)) only [go_sem])
    exact WkL.padP [_, _, _] (by simp)
  by_cases hlt : k < ps.length
  · have hnx : (ps.take (k + 1)).map (fun x => x.b) = (ps.take k).map (fun x => x.b) ++ [ps[k].b] := by rw [List.take_succ_eq_append_getElem hlt, List.map_append]; rfl
    have hTl : ((ps.take k).map (fun x => x.b)).length ≤ k := by simp; omega
    generalize (ps.take k).map (fun x => x.b) = T at *
    obtain ⟨T2, hT2⟩ : ∃ T2, T2 = T ++ [ps[k].b] := ⟨_, rfl⟩
    rw [← hT2] at hnx
    simp (disch := first | omega | (simp only [go_sem]; first | done | omega)) only [go_sem]
    (refine app_gr (enc := encBk) (e := 106) (sz := 7) (bs := 64) (z := [.int .i64 0, .int .i64 0, .str ⟨#[]⟩, .int .i64 0, .int .i64 0, .int .i64 0, .bool false]) (T) (ps[k].b) (by kernel_rfl) (by kernel_rfl) (by kernel_rfl) (by kernel_rfl) (by first | ((repeat first | exact at0 (by simp) | refine atS ?_); done) | assumption) (by first | (simp (disch := first | omega | (simp only [go_sem]; first | done | omega)) only [go_sem]; done) | (simp (disch := first | omega | (simp only [go_sem]; first | done | omega)) only [go_sem]; rfl) | (simp (disch := first | omega | (simp only [go_sem]; first | done | omega)) only [go_sem]; simp [go_sem]; done) | (simp (disch := first | omega | (simp only [go_sem]; first | done | omega)) only [go_sem]; simp [*]; done)) rfl (by decide) (by omega) (by omega) (by rfl) ?_)
    rw [← hT2]
    simp (disch := first | omega | (simp only [go_sem]; first | done | omega)) only [go_sem]
    refine Next.mk (k + 1) ⟨by omega, by omega⟩ ?_
    rw [hnx]
    (try simp (disch := first | omega | (simp only [go_sem]; first | done | omega)) only [go_sem])
    refine WkL.pickAt [lastMp ps, wlk 180 l p (H.length + 2) H.length ps, grO 215 8 (ps.map encPc)] [3] (L := [grO 106 7 (T2.map encBk)]) hH ?_ ?_ ?_ (by simp) ?_ ?_ ?_
    · intro o ho
      simp only [List.mem_cons, List.not_mem_nil, or_false] at ho
      rcases ho with rfl | rfl | rfl
      · exact lastMp_ok ps _
      · exact wlk_ok l p ps (by simp) (by simp)
      · exact prt_ok ps _
    · simp
    · rfl
    · simp only [List.all_cons, List.all_nil, Bool.and_true]
      exact pureO_gr (pureL_map _ (fun x => by simp [encBk, AC.pure]))
    · simp only [List.map_cons, List.map_nil, av_ren_gr]
      simp [AV.ren, AV.ren1, AC.ren, pickS]
    · simp only [List.forall_mem_cons, List.not_mem_nil, false_implies, implies_true, and_true]
      exact ⟨trivial, grV_ok (by simp) _⟩
  · rw [List.take_of_length_le (by omega)]
    simp (disch := first | omega | (simp only [go_sem]; first | done | omega)) only [go_sem]
    exact Ret.frzGrT 3 hH (Nat.le_refl _) rfl (pureL_map _ (fun x => by simp [encBk, AC.pure])) rfl (map_grV _ _ _).symm hk
end Go.Proofs.YtnodfnjmhcjnfaaGreatDoor
