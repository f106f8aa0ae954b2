/- Several texts in one: Equality of lists of blocks and of names; Index at any length; AppendOf, its bytes frozen, and what follows. No condition. -/
import Derived.Test.YtnodfnjmhcjnfaaGreatDoorHVBlkA
import Derived.Test.YtnodfnjmhcjnfaaGreatDoorHVStr
import Derived.Test.YtnodfnjmhcjnfaaGreatDoorHVGA
import Derived.Test.YtnodfnjmhcjnfaaGreatDoorHVGC
import Derived.Test.YtnodfnjmhcjnfaaGreatDoorHVAppend
/- Equality of lists of blocks and of names; Index at any length; AppendOf, its bytes frozen. Condition: lengths below a machine's bounds. -/
namespace Go.Proofs.YtnodfnjmhcjnfaaGreatDoor
open Go Go.RowKit
set_option maxRecDepth 100000
set_option linter.all false
set_option maxHeartbeats 2000000
variable {H : Hp} {K : AV → Hp → Prop}
instance blkDec : DecidableEq Blk := fun a b =>
  if h : a.at_ = b.at_ ∧ a.long = b.long ∧ a.tag = b.tag ∧ a.first = b.first ∧ a.last = b.last ∧ a.count = b.count ∧ a.over = b.over then isTrue (by cases a; cases b; simp_all) else isFalse (by rintro rfl; simp at h)
theorem indexB_a (l : List UInt8) (hl : l.length ≤ 100000000) (hk : K (.tup [.c (.lst 7 ((idxB l).map encBk)), (.c (.int .i64 ((par l).2.2)))]) H) : ACalls Tryz.prog 59 [.c (.lst 1 (l.map encU))] H K := by
  by_cases h : l.length ≤ 200000
  · exact index_a l h hk
  · have e : par l = ([], 0, 2) := by unfold par; rw [if_pos (by omega)]
    refine acalls Tryz.func59 rfl (by kernel_rfl) (by simp (disch := first | omega | (simp only [go_sem]; first | done | omega)) only [go_sem]) (fun hH => ?_)
    simp (disch := first | omega | (simp only [go_sem]; first | done | omega)) only [go_sem]
    refine walkB_a l hl (fun h => ?_) (fun h => ?_)
    · unfold idxB at hk
      rw [if_pos h] at hk
      simp (disch := first | omega | (simp only [go_sem]; first | done | omega)) only [go_sem, h]
      exact Ret.nil [7] (by simp) (Ret.same (by simp) hk)
    · rw [e] at h
      cases h
end Go.Proofs.YtnodfnjmhcjnfaaGreatDoor
/- Holds that are drawn. No condition. -/
namespace Go.Proofs.YtnodfnjmhcjnfaaGreatDoor
open Go Go.RowKit
set_option maxRecDepth 100000
set_option linter.all false
set_option maxHeartbeats 1000000
variable {H : Hp} {K : AV → Hp → Prop}
def encT (s : ByteArray) : List AC := [.str s]
attribute [go_sem] encT
theorem some_a (s : Nat) (zs : List Int) (k : Int) (l : List ByteArray) (hs : Str H s zs k) (h0 : 0 < l.length) (h1 : l.length ≤ 1000)
    (hk : ∀ r : ByteArray, r ∈ l → K (.c (.str r)) (H.set s (strO zs (k + 1)))) : ACalls Tryz.prog 95 [.c (.ptr (some (s, 0, 0))), .c (.lst 1 (l.map encT))] H K := by
  refine acalls Tryz.func95 rfl (by kernel_rfl) (by simp (disch := first | omega | (simp only [go_sem]; first | done | omega)) only [go_sem]) (fun hH => ?_)
  simp (disch := first | omega | (simp only [go_sem]; first | done | omega)) only [go_sem]
  repeat' (first | ((first | refine acond_d ?_ ?_ | refine acond_b ?_ ?_ | refine ag_d ?_ ?_ | refine ag_n ?_ ?_ | refine ag_bt ?_ ?_ | refine ag_bf ?_ ?_) <;> intro c <;> try simp (disch := first | omega | (simp only [go_sem]; first | done | omega)) only [go_sem, c]) | ((first | refine w_draw (by kernel_rfl) (by decide +kernel) ?_ | refine next_a s _ _ _ hs (by omega) (by omega) (fun r _ _ => ?_)) <;> try simp (disch := first | omega | (simp only [go_sem]; first | done | omega)) only [go_sem]))
  exact Ret.same (by simp) (hk _ (List.getElem_mem _))
theorem some_lit (s : Nat) (zs : List Int) (k : Int) (l : List ByteArray) {i ty n : Nat} {els : List (List AC)} {own : Bool} (hi : H[i]? = some (.row ty 1 els own)) (he : els = l.map encT) (hn : n = l.length) (hs : Str H s zs k) (hne : i ≠ s) (h0 : 0 < l.length) (h1 : l.length ≤ 1000)
    (hk : ∀ r : ByteArray, r ∈ l → K (.c (.str r)) ((H.set i .dead).set s (strO zs (k + 1)))) : ACalls Tryz.prog 95 [.c (.ptr (some (s, 0, 0))), .c (.sl (some (i, 0)) n)] H K := by
  subst he hn
  refine ACalls.lit hi (by simp [pureL, encT, AC.pure]) (args' := [.c (.ptr (some (s, 0, 0))), .c (.lst 1 (l.map encT))]) ?_ (some_a s zs k l ⟨hs.1, hs.2.1, hs.2.2.1, ?_⟩ h0 h1 hk)
  · simp [AV.frz1, AC.frz]
    rw [List.take_of_length_le (by simp)]
  · rw [List.getElem?_set_ne hne]; exact hs.2.2.2
end Go.Proofs.YtnodfnjmhcjnfaaGreatDoor
/- Files that are drawn. No condition. -/
namespace Go.Proofs.YtnodfnjmhcjnfaaGreatDoor
open Go Go.RowKit
set_option maxRecDepth 100000
set_option linter.all false
set_option maxHeartbeats 2000000
variable {H : Hp} {K : AV → Hp → Prop}
theorem rightSamplesF_a (s : Nat) (zs : List Int) (j most : Int) (hs : Str H s zs j) (hj : j ≤ 1090000000000) (hm0 : 0 ≤ most) (hm1 : most ≤ 100)
    (hk : ∀ (l : List Smp) (j' : Int), j ≤ j' → j' ≤ j + 2 + 3 * most → drawnS most l → K (.c (.lst 3 (l.map encS))) (H.set s (strO zs j'))) :
    ACalls Tryz.prog 54 [.c (.ptr (some (s, 0, 0))), (.c (.int .i64 most))] H K := by
  refine ACalls.postR (rightSamples_o s zs j most hs hj hm0 hm1 (K := fun v G => ∃ (l : List Smp) (j' : Int), j ≤ j' ∧ j' ≤ j + 2 + 3 * most ∧ drawnS most l ∧ v = .c (grV H.length l) ∧ G = H.set s (strO zs j') ++ [grO 38 3 (l.map encS)]) (fun l j' h1 h2 h3 => ⟨l, j', h1, h2, h3, rfl, rfl⟩)) ?_
  rintro hH v G ⟨l, j', h1, h2, h3, rfl, rfl⟩
  exact Ret.frzGr 0 (HOk.str hH) (by simp) rfl (pureL_map _ (fun x => by simp [go_sem, AC.pure])) (by simp [map_grV]) (hk l j' h1 h2 h3)
theorem manySamples_a (s : Nat) (zs : List Int) (j : Int) (hs : Str H s zs j) (hj : j ≤ 1000000000)
    (hk : ∀ (l : List Smp) (j' : Int), j ≤ j' → j' ≤ j + 500 → l.length ≤ 205 → K (.c (.lst 3 (l.map encS))) (H.set s (strO zs j'))) :
    ACalls Tryz.prog 37 [.c (.ptr (some (s, 0, 0)))] H K := by
  have hlt := hs.lt
  have hpos := hs.pos
  have hne : H.length ≠ s := by omega
  refine acalls Tryz.func37 rfl (by kernel_rfl) (by simp (disch := first | omega | (simp only [go_sem]; first | done | omega)) only [go_sem]) (fun hH => ?_)
  simp (disch := first | omega | (simp only [go_sem]; first | done | omega)) only [go_sem]
  refine range_a s zs j 0 50 (by first | exact hs | exact hs.app _ | exact hs.set (by omega) (by omega) | exact (hs.set (by omega) (by omega)).app _) (by omega) (by omega) (by omega) (fun a0 ha0 ha1 => ?_)
  simp (disch := first | omega | (simp only [go_sem]; first | done | omega)) only [go_sem]
  refine pick_lit s zs (j + 1) [99, 100, 101, 205] (by first | ((repeat first | exact at0 (by simp) | refine atS ?_); done) | assumption) rfl rfl (by first | exact hs | exact hs.app _ | exact hs.set (by omega) (by omega) | exact (hs.set (by omega) (by omega)).app _) (by omega) (by simp) (by simp) (fun r hr => ?_)
  simp only [List.mem_cons, List.not_mem_nil, or_false] at hr
  simp (disch := first | omega | (simp only [go_sem]; first | done | omega)) only [go_sem]
  refine AWp.loop (H.length) [0, 9] [10, 3, 4] (fun (q : Nat × List Smp × Int × Int) => (q.1 : Int) ≤ r ∧ q.2.1.length = q.1 ∧ 0 ≤ q.2.2.1 ∧ q.2.2.1 ≤ 50 + 100 * q.1 ∧ j + 2 ≤ q.2.2.2 ∧ q.2.2.2 ≤ j + 2 + 2 * q.1) (fun (q : Nat × List Smp × Int × Int) => [(10, (.c (.int .i64 (q.1)))), (3, .c (grV H.length q.2.1)), (4, (.c (.int .i64 (q.2.2.1))))]) (fun (q : Nat × List Smp × Int × Int) => H.set s (strO zs q.2.2.2) ++ [grO 38 3 (q.2.1.map encS)]) (fun (q : Nat × List Smp × Int × Int) => r.toNat - q.1) (by kernel_rfl) (fun _ => rfl) (by kernel_rfl) (by first | (simp; done) | omega) (by first | (simp; done) | (simp; omega) | omega) kl ?_ (fun q hq _ _ => ?_)
  · refine Next.mk (0, [], a0, j + 1 + 1) ⟨by dsimp only; omega, rfl, by dsimp only; omega, by dsimp only; omega, by dsimp only; omega, by dsimp only; omega⟩ ?_
    simp (disch := first | omega | (simp only [go_sem]; first | done | omega)) only [go_sem]
    exact WkL.refl (by simp)
  obtain ⟨k, l, t, j2⟩ := q
  obtain ⟨q1, q2, q5, q6, q7, q8⟩ := hq
  dsimp only at q1 q2 q5 q6 q7 q8
  by_cases hkr : (k : Int) < r
  · simp (disch := first | omega | (simp only [go_sem]; first | done | omega)) only [go_sem]
    refine pick_lit s zs j2 [1, 2, 500] (by first | ((repeat first | exact at0 (by simp) | refine atS ?_); done) | assumption) rfl rfl (by first | exact hs | exact hs.app _ | exact hs.set (by omega) (by omega) | exact (hs.set (by omega) (by omega)).app _) (by omega) (by simp) (by simp) (fun v hv => ?_)
    simp only [List.mem_cons, List.not_mem_nil, or_false] at hv
    simp (disch := first | omega | (simp only [go_sem]; first | done | omega)) only [go_sem]
    (refine app_gr (enc := encS) (e := 38) (sz := 3) (bs := 24) (z := [.int .i64 0, .int .i64 0, .int .i64 0]) (l) (⟨t, v, 0⟩) (by kernel_rfl) (by kernel_rfl) (by kernel_rfl) (by kernel_rfl) (by first | ((repeat first | exact at0 (by simp) | refine atS ?_); done) | assumption) (by first | (simp (disch := first | omega | (simp only [go_sem]; first | done | omega)) only [go_sem]; done) | (simp (disch := first | omega | (simp only [go_sem]; first | done | omega)) only [go_sem]; rfl) | (simp (disch := first | omega | (simp only [go_sem]; first | done | omega)) only [go_sem]; simp [go_sem]; done) | (simp (disch := first | omega | (simp only [go_sem]; first | done | omega)) only [go_sem]; simp [*]; done)) rfl (by decide) (by omega) (by omega) (by rfl) ?_)
    simp (disch := first | omega | (simp only [go_sem]; first | done | omega)) only [go_sem]
    refine pick_lit s zs (j2 + 1) [1, 2, 100] (by first | ((repeat first | exact at0 (by simp) | refine atS ?_); done) | assumption) rfl rfl (by first | exact hs | exact hs.app _ | exact hs.set (by omega) (by omega) | exact (hs.set (by omega) (by omega)).app _) (by omega) (by simp) (by simp) (fun d hd => ?_)
    simp only [List.mem_cons, List.not_mem_nil, or_false] at hd
    simp (disch := first | omega | (simp only [go_sem]; first | done | omega)) only [go_sem]
    refine Next.mk (k + 1, l ++ [⟨t, v, 0⟩], t + d, j2 + 1 + 1) ?_ ?_
    · exact ⟨⟨by dsimp only; omega, by simp [q2], by dsimp only; omega, by dsimp only; omega, by dsimp only; omega, by dsimp only; omega⟩, by dsimp only; omega⟩
    · exact ow
  · simp (disch := first | omega | (simp only [go_sem]; first | done | omega)) only [go_sem]
    exact Ret.frzGr 0 (HOk.str hH) (by simp) rfl (pureL_map _ (fun x => by simp [go_sem, AC.pure])) (by simp [map_grV]) (hk l j2 (by omega) (by omega) (by omega))
theorem Ret.anyT {x : AC} {n : Nat} (hn : n ≤ H.length) (hk : K (.tup [.any, .c x]) H) : Ret n (.tup [.c (.sl none 0), .c x]) H K := by
  refine Ret.wk (fun B w0 ι w us hs hr ho => ⟨ι, Agree.refl _ _, hn, hs, ?_, ?_⟩) hk
  · match us, hr with
    | [u], ⟨⟨ts, h1, h2⟩, _⟩ =>
      refine ⟨⟨ts, h1, ?_⟩, trivial⟩
      match ts, h2 with
      | [a, b], ⟨_, h3, _⟩ => exact ⟨trivial, h3, trivial⟩
  · intro v hv
    simp only [List.mem_singleton] at hv
    subst hv
    have := ho (.tup [.c (.sl none 0), .c x]) (by simp)
    intro y hy
    simp only [List.mem_cons, List.not_mem_nil, or_false] at hy
    rcases hy with rfl | rfl
    · trivial
    · exact this _ (by simp)
theorem append_bad {i : Nat} (f : List UInt8) (tag : ByteArray) (l : List Smp) (hf : f.length ≤ 100000000) (ht : tag.size ≤ 1000) (hl : l.length ≤ 5000) (hi : H[i]? = some (grO 5 1 (f.map encU))) (he : (appRes f tag l).2 ≠ 0) (hk : K (.tup [.any, (.c (.int .i64 ((appRes f tag l).2)))]) H) :
    ACalls Tryz.prog 152 [.c (grV i f), (.c (.str tag)), .c (.lst 3 (l.map encS))] H K := by
  rw [← map_grV encU i f]
  exact ACalls.lendGr (.tup [.any, (.c (.int .i64 ((appRes f tag l).2)))]) hi (pureL_U _) rfl rfl rfl (by simp [AV.ok1, AC.ok]) (fun G J hJ => ACalls.postR (appendOf_a f tag l hf ht hl (K := fun v G' => v = .tup [.c (.sl none 0), (.c (.int .i64 ((appRes f tag l).2)))] ∧ G' = G) (fun _ => ⟨rfl, rfl⟩) (fun h => absurd h he)) (fun hH v G' h => by obtain ⟨rfl, rfl⟩ := h; exact Ret.anyT (Nat.le_refl _) hJ)) hk
theorem append_good {i : Nat} (f : List UInt8) (tag : ByteArray) (l : List Smp) (hf : f.length ≤ 100000000) (ht : tag.size ≤ 1000) (hl : l.length ≤ 5000) (hi : H[i]? = some (grO 5 1 (f.map encU))) (he : (appRes f tag l).2 = 0) (hk : K (.tup [.c (grV H.length (appRes f tag l).1), (.c (.int .i64 0))]) (H.set i .dead ++ [grO 5 1 ((appRes f tag l).1.map encU)])) :
    ACalls Tryz.prog 152 [.c (grV i f), (.c (.str tag)), .c (.lst 3 (l.map encS))] H K := by
  refine ACalls.litGr hi (by simp) (pureL_U _) rfl ?_
  exact appendOf_a f tag l hf ht hl (fun h => absurd he h) (fun _ => by simpa using hk)
end Go.Proofs.YtnodfnjmhcjnfaaGreatDoor
