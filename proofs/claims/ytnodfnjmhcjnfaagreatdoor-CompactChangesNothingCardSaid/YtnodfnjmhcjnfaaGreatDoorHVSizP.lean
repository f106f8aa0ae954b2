/- Size: the program. Condition: names are not longer than a machine holds. -/
import Derived.Test.YtnodfnjmhcjnfaaGreatDoorHVFileF
namespace Go.Proofs.YtnodfnjmhcjnfaaGreatDoor
open Go Go.RowKit
set_option maxRecDepth 100000
set_option linter.all false
set_option maxHeartbeats 20000000
variable {H : Hp} {K : AV → Hp → Prop}
def tab (n k : Nat) (f : Nat → Int) : List Int := (List.range n).map fun i => if i < k then f i else 0
theorem tab_len (n k : Nat) (f : Nat → Int) : (tab n k f).length = n := by simp [tab]
theorem tab_at {n k : Nat} {f : Nat → Int} {i : Nat} (h : i < (tab n k f).length) : (tab n k f)[i] = if i < k then f i else 0 := by simp [tab]
theorem tab_0 (n : Nat) (f : Nat → Int) : (tab n 0 f).map encI = List.replicate n [.int .i64 0] := by
  apply List.ext_getElem
  · simp [tab]
  · intro i h1 h2
    simp [tab, encI]
theorem tab_set {n k : Nat} (f : Nat → Int) : (tab n k f).set k (f k) = tab n (k + 1) f := by
  apply List.ext_getElem
  · simp [tab]
  · intro i h1 h2
    rw [List.getElem_set]
    simp only [tab, List.getElem_map, List.getElem_range]
    by_cases h : k = i
    · subst h; simp
    · rw [if_neg h]
      by_cases h3 : i < k
      · rw [if_pos h3, if_pos (by omega)]
      · rw [if_neg h3, if_neg (by omega)]
theorem tab_skip {n k : Nat} {f : Nat → Int} (h : f k = 0) : tab n k f = tab n (k + 1) f := by
  apply List.ext_getElem
  · simp [tab]
  · intro i h1 h2
    simp only [tab, List.getElem_map, List.getElem_range]
    by_cases h3 : i < k
    · rw [if_pos h3, if_pos (by omega)]
    · rw [if_neg h3]
      by_cases h4 : i < k + 1
      · rw [if_pos h4, show i = k by omega, h]
      · rw [if_neg h4]
def f1L (l : List Smp) (i : Nat) : Int := (fstL (l.getD i ⟨0, 0, 0⟩) : Int)
def f2L (l : List Smp) (i : Nat) : Int := if i = 0 then 0 else (nxtL (l.getD (i - 1) ⟨0, 0, 0⟩) (l.getD i ⟨0, 0, 0⟩) : Int)
theorem size_a (tag : ByteArray) (l : List Smp) (ht : tag.size ≤ 1099511627776) (hl : l.length ≤ 1099511627776) (hk0 : sizE tag l ≠ 0 → K (.tup [(.c (.int .i64 0)), (.c (.int .i64 (sizE tag l)))]) H)
    (hk1 : sizE tag l = 0 → ∀ m, IsMin (cB tag l) 0 l.length m → K (.tup [(.c (.int .i64 m)), (.c (.int .i64 0))]) H) : ACalls Tryz.prog 74 [(.c (.str tag)), .c (.lst 3 (l.map encS))] H K := by
  unfold sizE at hk0 hk1
  refine acallsS Tryz.func74 rfl (by simp (disch := first | omega | (simp only [go_sem]; first | done | omega)) only [go_sem]) (fun hH => ?_)
  (refine SWp.go (by kernel_rfl) ?_; simp (disch := first | omega | (simp only [go_sem]; first | done | omega)) only [go_sem])
  refine SWp.cut (H.length) [0, 1] [] (fun (u : Unit) => isKey tag) (fun (u : Unit) => []) (fun (u : Unit) => H) (fun _ => rfl) (by kernel_rfl) (by first | (simp; done) | omega) (by first | (simp; done) | (simp; omega) | omega) kl ?_ (fun u hky _ _ => ?_)
  · refine SWp.of (by kernel_rfl) ?_
    simp (disch := first | omega | (simp only [go_sem]; first | done | omega)) only [go_sem]
    refine key_a tag ht ?_
    by_cases hky : isKey tag
    · rw [decide_eq_true hky]
      simp (disch := first | omega | (simp only [go_sem]; first | done | omega)) only [go_sem]
      exact Next.mk () hky wk
    · rw [if_neg hky] at hk0
      have hk := hk0 (by decide)
      rw [decide_eq_false hky]
      simp (disch := first | omega | (simp only [go_sem]; first | done | omega)) only [go_sem]
      exact Ret.same (by simp) hk
  rw [if_pos hky] at hk0 hk1
  refine SWp.cut (H.length) [0, 1] [] (fun (u : Unit) => serF l = 0) (fun (u : Unit) => []) (fun (u : Unit) => H) (fun _ => rfl) (by kernel_rfl) (by first | (simp; done) | omega) (by first | (simp; done) | (simp; omega) | omega) kl ?_ (fun u hs _ _ => ?_)
  · refine SWp.of (by kernel_rfl) ?_
    simp (disch := first | omega | (simp only [go_sem]; first | done | omega)) only [go_sem]
    refine checkSeries_a l hl ?_
    by_cases hs : serF l = 0
    · simp (disch := first | omega | (simp only [go_sem]; first | done | omega)) only [go_sem, hs]
      exact Next.mk () trivial wk
    · have hk := hk0 hs
      simp (disch := first | omega | (simp only [go_sem]; first | done | omega)) only [go_sem, hs]
      exact Ret.same (by simp) hk
  have hk := hk1 hs
  clear hk0 hk1
  have hl5 := ((serP_iff l).1 hs).1
  have hsm := serF_sml hs
  have hk40 : tag.size ≤ 40 := hky.2.1
  have hv0 : (vb (zig (tag.size : Int))).length ≤ 6 := vb6 ⟨by omega, by omega⟩
  obtain ⟨fx, hfx⟩ : ∃ fx, fx = fixL tag := ⟨_, rfl⟩
  have hfx2 : (4 + (vb (zig (tag.size : Int))).length + tag.size : Int) = (fx : Int) := by rw [hfx]; unfold fixL vl; omega
  have hfxb : fx ≤ 60 := by omega
  refine SWp.cut (H.length) [0, 1] [7] (fun (u : Unit) => True) (fun (u : Unit) => [(7, (.c (.int .i64 fx)))]) (fun (u : Unit) => H) (fun _ => rfl) (by kernel_rfl) (by first | (simp; done) | omega) (by first | (simp; done) | (simp; omega) | omega) kl ?_ (fun u hs _ _ => ?_)
  · refine SWp.of (by kernel_rfl) ?_
    simp (disch := first | omega | (simp only [go_sem]; first | done | omega)) only [go_sem]
    refine varint_a tag.size (by omega) (by omega) ?_
    simp (disch := first | omega | (simp only [go_sem]; first | done | omega)) only [go_sem]
    refine Next.mk () trivial ?_
    rw [hfx2]
    exact wk
  refine SWp.cut (H.length) [0, 1, 7] [8, 9] (fun (u : Unit) => True) (fun (u : Unit) => [(8, .c (.sl (some (H.length, 0)) l.length)), (9, .c (.sl (some (H.length + 1, 0)) l.length))]) (fun (u : Unit) => H ++ [.row 3 1 ((tab l.length 0 (f1L l)).map encI) true, .row 3 1 ((tab l.length 0 (f2L l)).map encI) true]) (fun _ => rfl) (by kernel_rfl) (by first | (simp; done) | omega) (by first | (simp; done) | (simp; omega) | omega) kl ?_ (fun u hs _ _ => ?_)
  · refine SWp.of (by kernel_rfl) ?_
    rw [tab_0, tab_0]
    repeat' (first | ((first | refine acond_d ?_ ?_ | refine acond_b ?_ ?_ | refine ag_d ?_ ?_ | refine ag_n ?_ ?_ | refine ag_bt ?_ ?_ | refine ag_bf ?_ ?_ | refine agt_d ?_ ?_ | refine agt_n ?_ ?_ | refine agt_bt ?_ ?_ | refine agt_bf ?_ ?_) <;> intro c <;> try simp (disch := first | omega | (simp only [go_sem]; first | done | omega)) only [go_sem, c]) | ((first | refine w_draw (by kernel_rfl) (by decide +kernel) ?_ | refine w_tree (.one 0 (.one 1 (.one 3 (.one 4 (.two 2 (.one 6 (.one 5 (.one 7 .done))) 5 (.one 2 (.one 6 (.one 7 .done)))))))) (by kernel_rfl) (by decide +kernel) ?_) <;> try simp (disch := first | omega | (simp only [go_sem]; first | done | omega)) only [go_sem]) | (refine And.intro ?_ ?_ <;> try simp (disch := first | omega | (simp only [go_sem]; first | done | omega)) only [go_sem]))
    · refine Next.mk () trivial ?_
      exact wk
    · refine Next.mk () trivial ?_
      simp (disch := first | omega | (simp only [go_sem]; first | done | omega)) only [go_sem]
      refine WkL.pick [1, 0] hH (by simp) rfl (by simp) (by simp [AObj.pureO, pureL, AC.pure]) ?_ ?_
      · simp [AV.ren, AV.ren1, AC.ren, pickS]
      · simp only [List.forall_mem_cons, List.not_mem_nil, false_implies, implies_true, and_true]
        simp [AV.ok, AV.ok1, AC.ok]
  refine SWp.cut (H.length + 2) [1, 7, 8, 9] [] (fun (u : Unit) => True) (fun (u : Unit) => []) (fun (u : Unit) => H ++ [.row 3 1 ((tab l.length l.length (f1L l)).map encI) true, .row 3 1 ((tab l.length l.length (f2L l)).map encI) true]) (fun _ => rfl) (by kernel_rfl) (by first | (simp; done) | omega) (by first | (simp; done) | (simp; omega) | omega) kl ?_ (fun u _ _ _ => ?_)
  · (refine SWp.go (by kernel_rfl) ?_; simp (disch := first | omega | (simp only [go_sem]; first | done | omega)) only [go_sem])
    refine SWp.inB ?_
    refine SWp.loop (H.length + 2) [1, 7, 8, 9, 39, 40] [41] (fun (k : Nat) => k ≤ l.length) (fun (k : Nat) => [(41, (.c (.int .i64 k)))]) (fun (k : Nat) => H ++ [.row 3 1 ((tab l.length k (f1L l)).map encI) true, .row 3 1 ((tab l.length k (f2L l)).map encI) true]) (fun (k : Nat) => l.length - k) (fun _ => rfl) (by kernel_rfl) (by first | (simp; done) | omega) (by first | (simp; done) | (simp; omega) | omega) kl ?_ (fun k hkl _ _ => ?_)
    · exact Next.mk 0 (Nat.zero_le _) wk
    by_cases hlt : k < l.length
    · obtain ⟨x, hx⟩ : ∃ x, x = l[k] := ⟨_, rfl⟩
      have hxs := hsm x (hx ▸ List.getElem_mem hlt)
      have hset1 : ∀ v, v = f1L l k → ((tab l.length k (f1L l)).map encI).set k [.int .i64 v] = (tab l.length (k + 1) (f1L l)).map encI := fun v hv => by
        rw [← tab_set, List.map_set, hv]; rfl
      have hset2 : ∀ v, v = f2L l k → ((tab l.length k (f2L l)).map encI).set k [.int .i64 v] = (tab l.length (k + 1) (f2L l)).map encI := fun v hv => by
        rw [← tab_set, List.map_set, hv]; rfl
      have hx2 : l.getD k ⟨0, 0, 0⟩ = x := by rw [List.getD_eq_getElem?_getD, List.getElem?_eq_getElem hlt, hx]; rfl
      have htl1 := tab_len l.length k (f1L l)
      have htl2 := tab_len l.length k (f2L l)
      obtain ⟨⟨b1, b2⟩, ⟨b3, b4⟩, b5, b6⟩ := hxs
      have c1 : (vb (zig x.t)).length ≤ 6 := vb6 ⟨by omega, by omega⟩
      have c2 : (vb (zig x.v)).length ≤ 6 := vb6 ⟨by omega, by omega⟩
      have c3 : (vb (zig x.q)).length ≤ 6 := vb6 ⟨by omega, by omega⟩
      refine SWp.go (by kernel_rfl) ?_
      simp (disch := first | omega | (simp only [go_sem]; first | done | omega)) only [go_sem, hlt, ← hx]
      refine SWp.go (by kernel_rfl) ?_
      simp (disch := first | omega | (simp only [go_sem]; first | done | omega)) only [go_sem]
      refine SWp.cut (H.length + 2) [1, 7, 8, 9, 39, 40, 41] [] (fun (u : Unit) => True) (fun (u : Unit) => []) (fun (u : Unit) => H ++ [.row 3 1 ((tab l.length (k + 1) (f1L l)).map encI) true, .row 3 1 ((tab l.length (k + 1) (f2L l)).map encI) true]) (fun _ => rfl) (by kernel_rfl) (by first | (simp; done) | omega) (by first | (simp; done) | (simp; omega) | omega) kl ?_ (fun u _ _ _ => ?_)
      · refine SWp.inB ?_
        refine SWp.go (by kernel_rfl) ?_
        simp (disch := first | omega | (simp only [go_sem]; first | done | omega)) only [go_sem, ← hx]
        refine SWp.cut (H.length + 3) [1, 7, 8, 9, 39, 40, 41, 10, 11] [] (fun (u : Unit) => True) (fun (u : Unit) => []) (fun (u : Unit) => H ++ [.row 3 1 ((tab l.length (k + 1) (f1L l)).map encI) true, .row 3 1 ((tab l.length k (f2L l)).map encI) true, .row 38 3 [encS x] true]) (fun _ => rfl) (by kernel_rfl) (by first | (simp; done) | omega) (by first | (simp; done) | (simp; omega) | omega) kl ?_ (fun u _ _ _ => ?_)
        · refine SWp.of (by kernel_rfl) ?_
          repeat' (first | ((first | refine acond_d ?_ ?_ | refine acond_b ?_ ?_ | refine ag_d ?_ ?_ | refine ag_n ?_ ?_ | refine ag_bt ?_ ?_ | refine ag_bf ?_ ?_ | refine agt_d ?_ ?_ | refine agt_n ?_ ?_ | refine agt_bt ?_ ?_ | refine agt_bf ?_ ?_) <;> intro c <;> try simp (disch := first | omega | (simp only [go_sem]; first | done | omega)) only [go_sem, c]) | ((first | refine w_draw (by kernel_rfl) (by decide +kernel) ?_ | refine varint_a _ (by omega) (by omega) ?_ | refine w_tree (.one 0 (.one 1 (.one 2 (.one 3 (.one 6 (.one 11 (.three 4 (.one 5 (.one 7 (.two 8 (.one 9 (.one 10 (.one 12 (.one 13 (.one 14 (.one 15 (.one 16 (.one 17 .done)))))))) 12 (.one 8 (.one 9 (.one 10 (.one 13 (.one 14 (.one 15 (.one 16 (.one 17 .done))))))))))) 7 (.two 4 (.one 5 (.two 8 (.one 9 (.one 10 (.one 12 (.one 13 (.one 14 (.one 15 (.one 16 (.one 17 .done)))))))) 12 (.one 8 (.one 9 (.one 10 (.one 13 (.one 14 (.one 15 (.one 16 (.one 17 .done)))))))))) 12 (.one 4 (.one 5 (.one 8 (.one 9 (.one 10 (.one 13 (.one 14 (.one 15 (.one 16 (.one 17 .done))))))))))) 12 (.two 4 (.one 5 (.one 7 (.one 8 (.one 9 (.one 10 (.one 13 (.one 14 (.one 15 (.one 16 (.one 17 .done)))))))))) 7 (.one 4 (.one 5 (.one 8 (.one 9 (.one 10 (.one 13 (.one 14 (.one 15 (.one 16 (.one 17 .done)))))))))))))))))) (by kernel_rfl) (by decide +kernel) ?_) <;> try simp (disch := first | omega | (simp only [go_sem]; first | done | omega)) only [go_sem]) | (refine And.intro ?_ ?_ <;> try simp (disch := first | omega | (simp only [go_sem]; first | done | omega)) only [go_sem]))
          all_goals
            refine Next.mk () trivial ?_
            simp (disch := first | omega | (simp only [go_sem]; first | done | omega)) only [go_sem]
            rw [hset1 _ (by unfold f1L fstL vl; rw [hx2]; omega)]
            exact wk
        by_cases hk0 : k = 0
        · have hsk := tab_skip (n := l.length) (k := k) (f := f2L l) (by unfold f2L; rw [if_pos hk0])
          have hk0' : ¬ (0 < (k : Int)) := by omega
          rw [hsk]
          refine SWp.of (by kernel_rfl) ?_
          simp (disch := first | omega | (simp only [go_sem]; first | done | omega)) only [go_sem, hk0']
          exact Next.mk () trivial wk
        · obtain ⟨y, hy⟩ : ∃ y, y = l[k - 1] := ⟨_, rfl⟩
          have hys := hsm y (hy ▸ List.getElem_mem (by omega : k - 1 < l.length))
          obtain ⟨⟨e1, e2⟩, ⟨e3, e4⟩, e5, e6⟩ := hys
          have hk0' : (0 < (k : Int)) := by omega
          have hsub : ((k : Int) - 1).toNat = k - 1 := by omega
          have hy2 : l.getD (k - 1) ⟨0, 0, 0⟩ = y := by rw [List.getD_eq_getElem?_getD, List.getElem?_eq_getElem (by omega), hy]; rfl
          have d1 : (vb (zig (x.t - y.t))).length ≤ 6 := vb6 ⟨by omega, by omega⟩
          have d2 : (vb (zig (x.v - y.v))).length ≤ 6 := vb6 ⟨by omega, by omega⟩
          refine SWp.of (by kernel_rfl) ?_
          simp (disch := first | omega | (simp only [go_sem]; first | done | omega)) only [go_sem, hk0']
          repeat' (first | ((first | refine acond_d ?_ ?_ | refine acond_b ?_ ?_ | refine ag_d ?_ ?_ | refine ag_n ?_ ?_ | refine ag_bt ?_ ?_ | refine ag_bf ?_ ?_ | refine agt_d ?_ ?_ | refine agt_n ?_ ?_ | refine agt_bt ?_ ?_ | refine agt_bf ?_ ?_) <;> intro c <;> try simp (disch := first | omega | (simp only [go_sem]; first | done | omega)) only [go_sem, c, hsub, ← hy]) | ((first | refine w_draw (by kernel_rfl) (by decide +kernel) ?_ | refine varint_a _ (by omega) (by omega) ?_ | refine w_tree (.one 0 (.one 1 (.one 2 (.one 3 (.one 4 (.one 5 (.one 6 (.one 7 (.one 8 (.one 9 (.one 10 (.one 13 (.one 15 (.one 16 (.one 17 (.one 25 (.four 11 (.one 12 (.one 14 (.one 18 (.one 19 (.one 20 (.one 21 (.two 22 (.one 23 (.one 24 (.one 26 (.one 27 (.one 28 (.one 29 (.one 30 (.one 31 .done)))))))) 26 (.one 22 (.one 23 (.one 24 (.one 27 (.one 28 (.one 29 (.one 30 (.one 31 .done))))))))))))))) 14 (.three 11 (.one 12 (.one 18 (.one 19 (.one 20 (.one 21 (.two 22 (.one 23 (.one 24 (.one 26 (.one 27 (.one 28 (.one 29 (.one 30 (.one 31 .done)))))))) 26 (.one 22 (.one 23 (.one 24 (.one 27 (.one 28 (.one 29 (.one 30 (.one 31 .done)))))))))))))) 18 (.one 19 (.three 11 (.one 12 (.one 20 (.one 21 (.two 22 (.one 23 (.one 24 (.one 26 (.one 27 (.one 28 (.one 29 (.one 30 (.one 31 .done)))))))) 26 (.one 22 (.one 23 (.one 24 (.one 27 (.one 28 (.one 29 (.one 30 (.one 31 .done)))))))))))) 20 (.one 21 (.two 11 (.one 12 (.two 22 (.one 23 (.one 24 (.one 26 (.one 27 (.one 28 (.one 29 (.one 30 (.one 31 .done)))))))) 26 (.one 22 (.one 23 (.one 24 (.one 27 (.one 28 (.one 29 (.one 30 (.one 31 .done)))))))))) 26 (.one 11 (.one 12 (.one 22 (.one 23 (.one 24 (.one 27 (.one 28 (.one 29 (.one 30 (.one 31 .done)))))))))))) 26 (.two 11 (.one 12 (.one 20 (.one 21 (.one 22 (.one 23 (.one 24 (.one 27 (.one 28 (.one 29 (.one 30 (.one 31 .done))))))))))) 20 (.one 21 (.one 11 (.one 12 (.one 22 (.one 23 (.one 24 (.one 27 (.one 28 (.one 29 (.one 30 (.one 31 .done)))))))))))))) 26 (.two 11 (.one 12 (.one 18 (.one 19 (.one 20 (.one 21 (.one 22 (.one 23 (.one 24 (.one 27 (.one 28 (.one 29 (.one 30 (.one 31 .done))))))))))))) 18 (.one 19 (.two 11 (.one 12 (.one 20 (.one 21 (.one 22 (.one 23 (.one 24 (.one 27 (.one 28 (.one 29 (.one 30 (.one 31 .done))))))))))) 20 (.one 21 (.one 11 (.one 12 (.one 22 (.one 23 (.one 24 (.one 27 (.one 28 (.one 29 (.one 30 (.one 31 .done))))))))))))))) 18 (.one 19 (.four 11 (.one 12 (.one 14 (.one 20 (.one 21 (.two 22 (.one 23 (.one 24 (.one 26 (.one 27 (.one 28 (.one 29 (.one 30 (.one 31 .done)))))))) 26 (.one 22 (.one 23 (.one 24 (.one 27 (.one 28 (.one 29 (.one 30 (.one 31 .done))))))))))))) 14 (.three 11 (.one 12 (.one 20 (.one 21 (.two 22 (.one 23 (.one 24 (.one 26 (.one 27 (.one 28 (.one 29 (.one 30 (.one 31 .done)))))))) 26 (.one 22 (.one 23 (.one 24 (.one 27 (.one 28 (.one 29 (.one 30 (.one 31 .done)))))))))))) 20 (.one 21 (.two 11 (.one 12 (.two 22 (.one 23 (.one 24 (.one 26 (.one 27 (.one 28 (.one 29 (.one 30 (.one 31 .done)))))))) 26 (.one 22 (.one 23 (.one 24 (.one 27 (.one 28 (.one 29 (.one 30 (.one 31 .done)))))))))) 26 (.one 11 (.one 12 (.one 22 (.one 23 (.one 24 (.one 27 (.one 28 (.one 29 (.one 30 (.one 31 .done)))))))))))) 26 (.two 11 (.one 12 (.one 20 (.one 21 (.one 22 (.one 23 (.one 24 (.one 27 (.one 28 (.one 29 (.one 30 (.one 31 .done))))))))))) 20 (.one 21 (.one 11 (.one 12 (.one 22 (.one 23 (.one 24 (.one 27 (.one 28 (.one 29 (.one 30 (.one 31 .done))))))))))))) 20 (.three 11 (.one 12 (.one 14 (.one 21 (.two 22 (.one 23 (.one 24 (.one 26 (.one 27 (.one 28 (.one 29 (.one 30 (.one 31 .done)))))))) 26 (.one 22 (.one 23 (.one 24 (.one 27 (.one 28 (.one 29 (.one 30 (.one 31 .done)))))))))))) 14 (.one 21 (.two 11 (.one 12 (.two 22 (.one 23 (.one 24 (.one 26 (.one 27 (.one 28 (.one 29 (.one 30 (.one 31 .done)))))))) 26 (.one 22 (.one 23 (.one 24 (.one 27 (.one 28 (.one 29 (.one 30 (.one 31 .done)))))))))) 26 (.one 11 (.one 12 (.one 22 (.one 23 (.one 24 (.one 27 (.one 28 (.one 29 (.one 30 (.one 31 .done)))))))))))) 26 (.two 11 (.one 12 (.one 14 (.one 21 (.one 22 (.one 23 (.one 24 (.one 27 (.one 28 (.one 29 (.one 30 (.one 31 .done))))))))))) 14 (.one 21 (.one 11 (.one 12 (.one 22 (.one 23 (.one 24 (.one 27 (.one 28 (.one 29 (.one 30 (.one 31 .done))))))))))))) 26 (.three 11 (.one 12 (.one 14 (.one 20 (.one 21 (.one 22 (.one 23 (.one 24 (.one 27 (.one 28 (.one 29 (.one 30 (.one 31 .done)))))))))))) 14 (.two 11 (.one 12 (.one 20 (.one 21 (.one 22 (.one 23 (.one 24 (.one 27 (.one 28 (.one 29 (.one 30 (.one 31 .done))))))))))) 20 (.one 21 (.one 11 (.one 12 (.one 22 (.one 23 (.one 24 (.one 27 (.one 28 (.one 29 (.one 30 (.one 31 .done)))))))))))) 20 (.two 11 (.one 12 (.one 14 (.one 21 (.one 22 (.one 23 (.one 24 (.one 27 (.one 28 (.one 29 (.one 30 (.one 31 .done))))))))))) 14 (.one 21 (.one 11 (.one 12 (.one 22 (.one 23 (.one 24 (.one 27 (.one 28 (.one 29 (.one 30 (.one 31 .done))))))))))))))) 26 (.three 11 (.one 12 (.one 14 (.one 18 (.one 19 (.one 20 (.one 21 (.one 22 (.one 23 (.one 24 (.one 27 (.one 28 (.one 29 (.one 30 (.one 31 .done)))))))))))))) 14 (.two 11 (.one 12 (.one 18 (.one 19 (.one 20 (.one 21 (.one 22 (.one 23 (.one 24 (.one 27 (.one 28 (.one 29 (.one 30 (.one 31 .done))))))))))))) 18 (.one 19 (.two 11 (.one 12 (.one 20 (.one 21 (.one 22 (.one 23 (.one 24 (.one 27 (.one 28 (.one 29 (.one 30 (.one 31 .done))))))))))) 20 (.one 21 (.one 11 (.one 12 (.one 22 (.one 23 (.one 24 (.one 27 (.one 28 (.one 29 (.one 30 (.one 31 .done)))))))))))))) 18 (.one 19 (.three 11 (.one 12 (.one 14 (.one 20 (.one 21 (.one 22 (.one 23 (.one 24 (.one 27 (.one 28 (.one 29 (.one 30 (.one 31 .done)))))))))))) 14 (.two 11 (.one 12 (.one 20 (.one 21 (.one 22 (.one 23 (.one 24 (.one 27 (.one 28 (.one 29 (.one 30 (.one 31 .done))))))))))) 20 (.one 21 (.one 11 (.one 12 (.one 22 (.one 23 (.one 24 (.one 27 (.one 28 (.one 29 (.one 30 (.one 31 .done)))))))))))) 20 (.two 11 (.one 12 (.one 14 (.one 21 (.one 22 (.one 23 (.one 24 (.one 27 (.one 28 (.one 29 (.one 30 (.one 31 .done))))))))))) 14 (.one 21 (.one 11 (.one 12 (.one 22 (.one 23 (.one 24 (.one 27 (.one 28 (.one 29 (.one 30 (.one 31 .done)))))))))))))))))))))))))))))))) (by kernel_rfl) (by decide +kernel) ?_) <;> try simp (disch := first | omega | (simp only [go_sem]; first | done | omega)) only [go_sem, hsub, ← hy]) | (refine And.intro ?_ ?_ <;> try simp (disch := first | omega | (simp only [go_sem]; first | done | omega)) only [go_sem, hsub, ← hy]))
          all_goals
            refine Next.mk () trivial ?_
            simp (disch := first | omega | (simp only [go_sem]; first | done | omega)) only [go_sem]
            rw [hset2 _ (by unfold f2L nxtL vl; rw [if_neg hk0, hx2, hy2]; omega)]
            exact wk
      refine SWp.of (by kernel_rfl) ?_
      simp (disch := first | omega | (simp only [go_sem]; first | done | omega)) only [go_sem]
      exact Next.mk (k + 1) ⟨by omega, by omega⟩ wk
    have hkn : k = l.length := by omega
    subst hkn
    refine SWp.of (by kernel_rfl) ?_
    simp (disch := first | omega | (simp only [go_sem]; first | done | omega)) only [go_sem, hlt]
    exact Next.mk () trivial wk
  generalize hF1 : tab l.length l.length (f1L l) = F1
  generalize hF2 : tab l.length l.length (f2L l) = F2
  have hl1 : F1.length = l.length := by rw [← hF1, tab_len]
  have hl2 : F2.length = l.length := by rw [← hF2, tab_len]
  have ha1 : ∀ i (h : i < F1.length), F1[i] = f1L l i := by
    subst hF1
    intro i h
    rw [tab_at h, if_pos (by rw [hl1] at h; exact h)]
  have ha2 : ∀ i (h : i < F2.length), F2[i] = f2L l i := by
    subst hF2
    intro i h
    rw [tab_at h, if_pos (by rw [hl2] at h; exact h)]
  clear hF1 hF2
  have hfb : ∀ i, i < l.length → 0 ≤ f1L l i ∧ f1L l i ≤ 18 ∧ 0 ≤ f2L l i ∧ f2L l i ≤ 18 := fun i hi => by
    have hg : ∀ j, j < l.length → smlS (l.getD j ⟨0, 0, 0⟩) := fun j hj => by
      rw [List.getD_eq_getElem?_getD, List.getElem?_eq_getElem hj]
      exact hsm _ (List.getElem_mem hj)
    have h1 := fst_le (hg i hi)
    unfold f1L f2L
    split
    · omega
    · have h2 := nxt_le (hg (i - 1) (by omega)) (hg i hi)
      omega
  refine SWp.of (by kernel_rfl) ?_
  simp (disch := first | omega | (simp only [go_sem]; first | done | omega)) only [go_sem]
  have hcle : ∀ i j, j ≤ i + 100 → cB tag l i j ≤ 2000 := fun i j h => cB_le hk40 hsm h
  have hcnn := cB_nn tag l
  have hbd : ∀ k m, k ≤ l.length → IsMin (cB tag l) k l.length m → 0 ≤ m ∧ m ≤ 10000000 := fun k m h1 h2 => by
    have := isMin_bd hcnn (fun i hi => hcle i (i + 1) (by omega)) h1 h2
    omega
  have hce : ∀ i j, j ≤ l.length → cB tag l i j = (fx : Int) + vl ((j - i : Nat) : Int) + smL l i j := fun i j h => by rw [hfx]; exact cB_eq tag h
  have hlt1 : ((l.length : Int) + 1).toNat = l.length + 1 := by omega
  rw [hlt1]
  have hrep : List.replicate (l.length + 1) [AC.int IntKind.i64 0] = (List.replicate (l.length + 1) (0 : Int)).map encI := by rw [List.map_replicate]; rfl
  rw [hrep]
  refine AWp.loop (H.length + 3) [1, 7, 8, 9, 12] [13] (fun (s : Nat × List Int) => s.1 ≤ l.length ∧ s.2.length = l.length + 1 ∧ ∀ k, s.1 ≤ k → k ≤ l.length → IsMin (cB tag l) k l.length (s.2.getD k 0)) (fun (s : Nat × List Int) => [(13, (.c (.int .i64 ((s.1 : Int) - 1))))]) (fun (s : Nat × List Int) => H ++ [.row 3 1 (F1.map encI) true, .row 3 1 (F2.map encI) true, .row 3 1 (s.2.map encI) true]) (fun (s : Nat × List Int) => s.1) (by kernel_rfl) (fun _ => rfl) (by kernel_rfl) (by first | (simp; done) | omega) (by first | (simp; done) | (simp; omega) | omega) kl ?_ (fun s hs _ _ => ?_)
  · refine Next.mk (l.length, List.replicate (l.length + 1) 0) ⟨Nat.le_refl _, by simp, fun k h1 h2 => ?_⟩ wk
    have : k = l.length := by omega
    subst this
    rw [List.getD_eq_getElem?_getD, List.getElem?_replicate]
    simp only [Nat.lt_succ_self, if_true]
    exact isMin_refl _ _
  obtain ⟨i1, B⟩ := s
  obtain ⟨s1, s2, s3⟩ := hs
  dsimp only at s1 s2 s3 ⊢
  by_cases hi0 : i1 = 0
  · subst hi0
    have h0 := s3 0 (Nat.le_refl _) (Nat.zero_le _)
    have hb0 := hbd 0 _ (Nat.zero_le _) h0
    have hB0 : B[0]'(by omega) = B.getD 0 0 := by rw [List.getD_eq_getElem?_getD, List.getElem?_eq_getElem (by omega)]; rfl
    have hk := hk _ h0
    generalize B.getD 0 0 = m at *
    simp (disch := first | omega | (simp only [go_sem]; first | done | omega)) only [go_sem, hB0]
    exact Ret.drop hH (Nat.le_refl _) (by simp [AV.ok, AV.ok1, AC.ok]) hk
  obtain ⟨i, rfl⟩ : ∃ i, i1 = i + 1 := ⟨i1 - 1, by omega⟩
  have hii : (((i + 1 : Nat) : Int) - 1) = (i : Int) := by omega
  have hin : i < l.length := by omega
  obtain ⟨f, hf⟩ : ∃ f, f = f1L l i := ⟨_, rfl⟩
  have hf2 : F1[i]'(by omega) = f := by rw [ha1, hf]
  have hfb1 := hfb i hin
  rw [← hf] at hfb1
  have hs1 : smL l i (i + 1) = f.toNat := by
    rw [smL_one hin, hf]
    unfold f1L
    rw [List.getD_eq_getElem?_getD, List.getElem?_eq_getElem hin]
    simp
  simp (disch := first | omega | (simp only [go_sem]; first | done | omega)) only [go_sem, hii, hf2]
  refine SWp.loop (H.length + 3) [1, 7, 8, 9, 12, 13] [14, 15] (fun (q : Nat × List Int) => (i + 1 ≤ q.1 ∧ q.1 ≤ l.length + 1 ∧ q.1 ≤ i + 101) ∧ q.2.length = l.length + 1 ∧ (∀ m, m ≠ i → q.2.getD m 0 = B.getD m 0) ∧ (i + 1 < q.1 → ∃ m, i < m ∧ m < q.1 ∧ m ≤ l.length ∧ m ≤ i + 100 ∧ q.2.getD i 0 = cB tag l i m + B.getD m 0) ∧ ∀ m, i < m → m < q.1 → m ≤ l.length → m ≤ i + 100 → q.2.getD i 0 ≤ cB tag l i m + B.getD m 0) (fun (q : Nat × List Int) => [(14, (.c (.int .i64 ((fx : Int) + smL l i (min q.1 l.length))))), (15, (.c (.int .i64 (q.1))))]) (fun (q : Nat × List Int) => H ++ [.row 3 1 (F1.map encI) true, .row 3 1 (F2.map encI) true, .row 3 1 (q.2.map encI) true]) (fun (q : Nat × List Int) => l.length + 1 - q.1) (fun _ => rfl) (by kernel_rfl) (by first | (simp; done) | omega) (by first | (simp; done) | (simp; omega) | omega) kl ?_ (fun q hq _ _ => ?_)
  · refine Next.mk (i + 1, B) ⟨⟨Nat.le_refl _, by dsimp only; omega, by dsimp only; omega⟩, s2, fun m _ => rfl, fun h => absurd h (Nat.lt_irrefl _), fun m h1 h2 => by dsimp only at h2; omega⟩ ?_
    dsimp only
    rw [show min (i + 1) l.length = i + 1 by omega, hs1]
    have hft : ((f.toNat : Nat) : Int) = f := by omega
    rw [hft]
    exact wk
  obtain ⟨k, B2⟩ := q
  obtain ⟨⟨q1, q2, q3⟩, q4, q5, q6, q7⟩ := hq
  dsimp only at q1 q2 q3 q4 q5 q6 q7 ⊢
  by_cases hck : k ≤ l.length ∧ k ≤ i + 100
  · obtain ⟨hc1, hc2⟩ := hck
    have hcond : (k : Int) ≤ min (l.length : Int) ((i : Int) + 100) := by omega
    obtain ⟨y, hy⟩ : ∃ y, y = B2.getD k 0 := ⟨_, rfl⟩
    have hyB : y = B.getD k 0 := by rw [hy, q5 k (by omega)]
    have hy2 : B2[k]'(by omega) = y := by rw [hy, List.getD_eq_getElem?_getD, List.getElem?_eq_getElem (by omega)]; rfl
    have hyb := hbd k _ hc1 (s3 k (by omega) hc1)
    rw [← hyB] at hyb
    obtain ⟨x, hx⟩ : ∃ x, x = B2.getD i 0 := ⟨_, rfl⟩
    have hx2 : B2[i]'(by omega) = x := by rw [hx, List.getD_eq_getElem?_getD, List.getElem?_eq_getElem (by omega)]; rfl
    rw [← hx] at q6 q7
    obtain ⟨w, hw⟩ : ∃ w, w = smL l i k := ⟨_, rfl⟩
    obtain ⟨v, hv⟩ : ∃ v, v = vl ((k - i : Nat) : Int) := ⟨_, rfl⟩
    have hv2 : (vb (zig ((k : Int) - i))).length = v := by rw [hv]; unfold vl; rw [show ((k - i : Nat) : Int) = (k : Int) - i by omega]
    have hc := hce i k hc1
    have hcl := hcle i k hc2
    rw [← hw, ← hv] at hc
    rw [show min k l.length = k by omega, ← hw]
    have hst : ∀ a, (B2.map encI).set i [AC.int .i64 a] = (B2.set i a).map encI := fun a => by rw [List.map_set]; rfl
    have hall : (fx : Int) + w + v + y = cB tag l i k + B.getD k 0 := by rw [hc, ← hyB]; omega
    -- what is kept when the new sum is taken, and when it is not
    have htake : (k = i + 1 ∨ (fx : Int) + w + v + y < x) → (i + 1 ≤ k + 1 ∧ k + 1 ≤ l.length + 1 ∧ k + 1 ≤ i + 101) ∧ (B2.set i ((fx : Int) + w + v + y)).length = l.length + 1 ∧ (∀ m, m ≠ i → (B2.set i ((fx : Int) + w + v + y)).getD m 0 = B.getD m 0) ∧ (i + 1 < k + 1 → ∃ m, i < m ∧ m < k + 1 ∧ m ≤ l.length ∧ m ≤ i + 100 ∧ (B2.set i ((fx : Int) + w + v + y)).getD i 0 = cB tag l i m + B.getD m 0) ∧ ∀ m, i < m → m < k + 1 → m ≤ l.length → m ≤ i + 100 → (B2.set i ((fx : Int) + w + v + y)).getD i 0 ≤ cB tag l i m + B.getD m 0 := by
      intro ht
      have e : (B2.set i ((fx : Int) + w + v + y)).getD i 0 = (fx : Int) + w + v + y := by
        rw [List.getD_eq_getElem?_getD, List.getElem?_set_self (by omega)]; rfl
      rw [e]
      refine ⟨by omega, by simpa using q4, fun m hm => ?_, fun _ => ⟨k, by omega, by omega, hc1, hc2, hall⟩, fun m h1 h2 h3 h4 => ?_⟩
      · rw [List.getD_eq_getElem?_getD, List.getElem?_set_ne (by omega), ← List.getD_eq_getElem?_getD, q5 m hm]
      · by_cases hmk : m = k
        · subst hmk; omega
        · have := q7 m h1 (by omega) h3 h4
          omega
    have hskip : ¬ (k = i + 1 ∨ (fx : Int) + w + v + y < x) → (i + 1 ≤ k + 1 ∧ k + 1 ≤ l.length + 1 ∧ k + 1 ≤ i + 101) ∧ B2.length = l.length + 1 ∧ (∀ m, m ≠ i → B2.getD m 0 = B.getD m 0) ∧ (i + 1 < k + 1 → ∃ m, i < m ∧ m < k + 1 ∧ m ≤ l.length ∧ m ≤ i + 100 ∧ B2.getD i 0 = cB tag l i m + B.getD m 0) ∧ ∀ m, i < m → m < k + 1 → m ≤ l.length → m ≤ i + 100 → B2.getD i 0 ≤ cB tag l i m + B.getD m 0 := by
      intro ht
      rw [← hx]
      refine ⟨by omega, q4, q5, fun _ => ?_, fun m h1 h2 h3 h4 => ?_⟩
      · obtain ⟨m, g1, g2, g3⟩ := q6 (by omega)
        exact ⟨m, g1, by omega, g3⟩
      · by_cases hmk : m = k
        · subst hmk; omega
        · exact q7 m h1 (by omega) h3 h4
    have hnext : k < l.length → (fx : Int) + w + f2L l k = (fx : Int) + smL l i (min (k + 1) l.length) := fun h => by
      rw [show min (k + 1) l.length = k + 1 by omega, smL_next (by omega) h, ← hw]
      unfold f2L
      rw [if_neg (by omega), List.getD_eq_getElem?_getD, List.getD_eq_getElem?_getD, List.getElem?_eq_getElem h, List.getElem?_eq_getElem (by omega)]
      simp only [Option.getD_some]
      omega
    have hlastn : ¬ k < l.length → (fx : Int) + w = (fx : Int) + smL l i (min (k + 1) l.length) := fun h => by
      rw [show min (k + 1) l.length = k by omega, ← hw]
    clear q6 q7
    have hwb : w ≤ 2000 ∧ v ≤ 2000 := by omega
    refine SWp.go (by kernel_rfl) ?_
    simp (disch := first | omega | (simp only [go_sem]; first | done | omega)) only [go_sem, hcond]
    obtain ⟨T, hT⟩ : ∃ T : Prop, T ↔ (k = i + 1 ∨ (fx : Int) + w + v + y < x) := ⟨_, Iff.rfl⟩
    rw [← hT] at htake hskip
    refine SWp.cut (H.length + 3) [1, 7, 8, 9, 12, 13, 15] [14] (fun (u : Int × List Int) => ((u.2 = B2.set i ((fx : Int) + w + v + y) ∧ T) ∨ (u.2 = B2 ∧ ¬ T)) ∧ u.1 = (fx : Int) + smL l i (min (k + 1) l.length)) (fun (u : Int × List Int) => [(14, (.c (.int .i64 (u.1))))]) (fun (u : Int × List Int) => H ++ [.row 3 1 (F1.map encI) true, .row 3 1 (F2.map encI) true, .row 3 1 (u.2.map encI) true]) (fun _ => rfl) (by kernel_rfl) (by first | (simp; done) | omega) (by first | (simp; done) | (simp; omega) | omega) kl ?_ (fun u hu _ _ => ?_)
    · refine SWp.inB ?_
      refine SWp.then ?_
      refine SWp.cut (H.length + 3) [1, 7, 8, 9, 12, 13, 14, 15] [16] (fun (u : Unit) => True) (fun (u : Unit) => [(16, (.c (.int .i64 ((fx : Int) + w + v + y))))]) (fun (u : Unit) => H ++ [.row 3 1 (F1.map encI) true, .row 3 1 (F2.map encI) true, .row 3 1 (B2.map encI) true]) (fun _ => rfl) (by kernel_rfl) (by first | (simp; done) | omega) (by first | (simp; done) | (simp; omega) | omega) kl ?_ (fun u _ _ _ => ?_)
      · refine SWp.of (by kernel_rfl) ?_
        repeat' (first | ((first | refine acond_d ?_ ?_ | refine acond_b ?_ ?_ | refine ag_d ?_ ?_ | refine ag_n ?_ ?_ | refine ag_bt ?_ ?_ | refine ag_bf ?_ ?_ | refine agt_d ?_ ?_ | refine agt_n ?_ ?_ | refine agt_bt ?_ ?_ | refine agt_bf ?_ ?_) <;> intro c <;> try simp (disch := first | omega | (simp only [go_sem]; first | done | omega)) only [go_sem, c, hv2, hy2]) | ((first | refine w_draw (by kernel_rfl) (by decide +kernel) ?_ | refine varint_a _ (by omega) (by omega) ?_ | refine w_tree (.one 0 (.one 1 (.one 2 (.one 3 (.one 7 (.one 8 (.two 4 (.one 5 (.one 6 (.one 9 (.one 10 (.one 11 (.one 12 .done)))))) 9 (.two 4 (.one 5 (.one 6 (.one 10 (.one 11 (.one 12 .done))))) 10 (.one 4 (.one 5 (.one 6 (.one 11 (.one 12 .done))))))))))))) (by kernel_rfl) (by decide +kernel) ?_) <;> try simp (disch := first | omega | (simp only [go_sem]; first | done | omega)) only [go_sem, hv2, hy2]) | (refine And.intro ?_ ?_ <;> try simp (disch := first | omega | (simp only [go_sem]; first | done | omega)) only [go_sem, hv2, hy2]))
        all_goals
          refine Next.mk () trivial ?_
          simp (disch := first | omega | (simp only [go_sem]; first | done | omega)) only [go_sem, hv2, hy2]
          exact wk
      clear htake hskip
      by_cases h3 : k < l.length
      · have h3' : (k : Int) < l.length := by omega
        have hF2k : F2[k]'(by omega) = f2L l k := ha2 k (by omega)
        have hF2b := (hfb k h3).2.2
        have hn := hnext h3
        by_cases h1 : k = i + 1
        · have h1' : ((k : Int) = (i : Int) + 1) = True := by simp; omega
          refine SWp.of (by kernel_rfl) ?_
          simp (disch := first | omega | (simp only [go_sem]; first | done | omega)) only [go_sem, h1', h3', hF2k]
          refine SWp.of (by kernel_rfl) ?_
          simp (disch := first | omega | (simp only [go_sem]; first | done | omega)) only [go_sem, h1', h3', hF2k]
          refine Next.mk (_, B2.set i ((fx : Int) + w + v + y)) ⟨.inl ⟨rfl, hT.2 (.inl h1)⟩, hn⟩ ?_
          simp (disch := first | omega | (simp only [go_sem]; first | done | omega)) only [go_sem]
          rw [hst]
          exact wk
        · have h1' : ((k : Int) = (i : Int) + 1) = False := by simp; omega
          by_cases h2 : (fx : Int) + w + v + y < x
          · have h2' : ((fx : Int) + w + v + y < x) = True := eq_true h2
            refine SWp.of (by kernel_rfl) ?_
            simp (disch := first | omega | (simp only [go_sem]; first | done | omega)) only [go_sem, hx2, h1', h2', h3', hF2k]
            refine SWp.of (by kernel_rfl) ?_
            simp (disch := first | omega | (simp only [go_sem]; first | done | omega)) only [go_sem, hx2, h1', h2', h3', hF2k]
            refine Next.mk (_, B2.set i ((fx : Int) + w + v + y)) ⟨.inl ⟨rfl, hT.2 (.inr h2)⟩, hn⟩ ?_
            simp (disch := first | omega | (simp only [go_sem]; first | done | omega)) only [go_sem]
            rw [hst]
            exact wk
          · have h2' : ((fx : Int) + w + v + y < x) = False := eq_false h2
            refine SWp.of (by kernel_rfl) ?_
            simp (disch := first | omega | (simp only [go_sem]; first | done | omega)) only [go_sem, hx2, h1', h2', h3', hF2k]
            refine SWp.of (by kernel_rfl) ?_
            simp (disch := first | omega | (simp only [go_sem]; first | done | omega)) only [go_sem, hx2, h1', h2', h3', hF2k]
            refine Next.mk (_, B2) ⟨.inr ⟨rfl, fun h => by have := hT.1 h; omega⟩, hn⟩ ?_
            simp (disch := first | omega | (simp only [go_sem]; first | done | omega)) only [go_sem]
            exact wk
      · have h3' : ¬ (k : Int) < l.length := by omega
        have hn := hlastn h3
        by_cases h1 : k = i + 1
        · have h1' : ((k : Int) = (i : Int) + 1) = True := by simp; omega
          refine SWp.of (by kernel_rfl) ?_
          simp (disch := first | omega | (simp only [go_sem]; first | done | omega)) only [go_sem, h1', h3']
          refine SWp.of (by kernel_rfl) ?_
          simp (disch := first | omega | (simp only [go_sem]; first | done | omega)) only [go_sem, h1', h3']
          refine Next.mk (_, B2.set i ((fx : Int) + w + v + y)) ⟨.inl ⟨rfl, hT.2 (.inl h1)⟩, hn⟩ ?_
          simp (disch := first | omega | (simp only [go_sem]; first | done | omega)) only [go_sem]
          rw [hst]
          exact wk
        · have h1' : ((k : Int) = (i : Int) + 1) = False := by simp; omega
          by_cases h2 : (fx : Int) + w + v + y < x
          · have h2' : ((fx : Int) + w + v + y < x) = True := eq_true h2
            refine SWp.of (by kernel_rfl) ?_
            simp (disch := first | omega | (simp only [go_sem]; first | done | omega)) only [go_sem, hx2, h1', h2', h3']
            refine SWp.of (by kernel_rfl) ?_
            simp (disch := first | omega | (simp only [go_sem]; first | done | omega)) only [go_sem, hx2, h1', h2', h3']
            refine Next.mk (_, B2.set i ((fx : Int) + w + v + y)) ⟨.inl ⟨rfl, hT.2 (.inr h2)⟩, hn⟩ ?_
            simp (disch := first | omega | (simp only [go_sem]; first | done | omega)) only [go_sem]
            rw [hst]
            exact wk
          · have h2' : ((fx : Int) + w + v + y < x) = False := eq_false h2
            refine SWp.of (by kernel_rfl) ?_
            simp (disch := first | omega | (simp only [go_sem]; first | done | omega)) only [go_sem, hx2, h1', h2', h3']
            refine SWp.of (by kernel_rfl) ?_
            simp (disch := first | omega | (simp only [go_sem]; first | done | omega)) only [go_sem, hx2, h1', h2', h3']
            refine Next.mk (_, B2) ⟨.inr ⟨rfl, fun h => by have := hT.1 h; omega⟩, hn⟩ ?_
            simp (disch := first | omega | (simp only [go_sem]; first | done | omega)) only [go_sem]
            exact wk
    obtain ⟨n2, B3⟩ := u
    obtain ⟨hu1, hu2⟩ := hu
    dsimp only at hu1 hu2 ⊢
    refine SWp.of (by kernel_rfl) ?_
    simp (disch := first | omega | (simp only [go_sem]; first | done | omega)) only [go_sem]
    rcases hu1 with ⟨rfl, hu1⟩ | ⟨rfl, hu1⟩
    · refine Next.mk (k + 1, B2.set i ((fx : Int) + w + v + y)) ⟨htake hu1, by dsimp only; omega⟩ ?_
      dsimp only
      rw [← hu2]
      exact wk
    · refine Next.mk (k + 1, B3) ⟨hskip hu1, by dsimp only; omega⟩ ?_
      dsimp only
      rw [← hu2]
      exact wk
  · have hcond : ¬ (k : Int) ≤ min (l.length : Int) ((i : Int) + 100) := by omega
    refine SWp.of (by kernel_rfl) ?_
    simp (disch := first | omega | (simp only [go_sem]; first | done | omega)) only [go_sem, hcond]
    refine Next.mk (i, B2) ⟨⟨by dsimp only; omega, q4, fun m h1 h2 => ?_⟩, by dsimp only; omega⟩ wk
    dsimp only at h1 ⊢
    by_cases hm : m = i
    · subst hm
      refine isMin_from hin (fun m => B.getD m 0) (fun k h1 h2 => s3 k h1 h2) ⟨?_, fun m h1 h2 h3 => q7 m h1 (by omega) h2 h3⟩
      obtain ⟨m2, g1, g2, g3, g4, g5⟩ := q6 (by omega)
      exact ⟨m2, g1, g3, g4, g5⟩
    · rw [q5 m hm]
      exact s3 m (by omega) h2
end Go.Proofs.YtnodfnjmhcjnfaaGreatDoor
