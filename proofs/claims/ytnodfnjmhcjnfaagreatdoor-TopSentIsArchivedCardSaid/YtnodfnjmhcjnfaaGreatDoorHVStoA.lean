/- Stored: the program's answer. Condition: names' sizes; at most 12 arrivals. -/
import Derived.Test.YtnodfnjmhcjnfaaGreatDoorHVCpkM
import Derived.Test.YtnodfnjmhcjnfaaGreatDoorHVGL
namespace Go.Proofs.YtnodfnjmhcjnfaaGreatDoor
open Go Go.RowKit
set_option maxRecDepth 100000
set_option linter.all false
set_option maxHeartbeats 2000000
variable {H : Hp} {K : AV → Hp → Prop}
theorem insertionSm_a (f : FuncId) (cf : Smp → Smp → Int) (lt : Smp → Smp → Bool) (P : Smp → Prop) (he : entersB Tryz.prog f = true) (hc : ∀ x y, P x → P y → (cf x y < 0 ↔ lt x y = true)) (hf : ∀ (x y : Smp) (H : Hp) (K : AV → Hp → Prop), P x → P y → K (.c (.int .i64 (cf x y))) H → ACalls Tryz.prog f [.agg (encS x), .agg (encS y)] H K)
    {i n : Nat} (l : List Smp) (hi : H[i]? = some (.row 38 3 (l.map encS) true)) (hn : n = l.length) (hP : ∀ x ∈ l, P x) (hlen : l.length ≤ 1000000) (hk : K (.tup []) (H.set i (.row 38 3 ((isortG lt l).map encS) true))) :
    ACalls Tryz.prog 240 [.c (.sl (some (i, 0)) n), (.c (.int .i64 0)), (.c (.int .i64 n)), .c (.fn f [] [])] H K := by
  subst hn
  have hlt := getElem?_lt hi
  refine acalls Tryz.func240 rfl (by kernel_rfl) (by simp (disch := first | omega | (simp only [go_sem]; first | done | omega)) only [go_sem]) (fun hH => ?_)
  simp (disch := first | omega | (simp only [go_sem]; first | done | omega)) only [go_sem]
  refine AWp.loop (H.length) [0, 1, 2, 3] [8] (fun (q : Nat × List Smp) => 1 ≤ q.1 ∧ (q.1 ≤ l.length ∨ q.1 = 1) ∧ q.2.length = l.length ∧ (∀ x ∈ q.2, P x) ∧ isortGoG lt (l.length - q.1) q.1 q.2 = isortG lt l) (fun (q : Nat × List Smp) => [(8, (.c (.int .i64 (q.1))))]) (fun (q : Nat × List Smp) => H.set i (.row 38 3 (q.2.map encS) true)) (fun (q : Nat × List Smp) => l.length - q.1) (by kernel_rfl) (fun _ => rfl) (by kernel_rfl) (by first | (simp; done) | omega) (by first | (simp; done) | (simp; omega) | omega) kl ?_ (fun q hq _ _ => ?_)
  · refine Next.mk (1, l) ⟨by simp, by simp, rfl, hP, rfl⟩ ?_
    have e : H.set i (.row 38 3 (l.map encS) true) = H := by
      apply List.ext_getElem?
      intro j
      by_cases h : i = j
      · subst h; rw [List.getElem?_set_self hlt, hi]
      · rw [List.getElem?_set_ne h]
    dsimp only
    rw [e]
    exact wk
  obtain ⟨k, cur⟩ := q
  obtain ⟨hk1, hk2, hcl, hcP, hcE⟩ := hq
  dsimp only at hk1 hk2 hcl hcP hcE
  by_cases hkl : k < l.length
  · simp (disch := first | omega | (simp only [go_sem]; first | done | omega)) only [go_sem]
    refine AWp.loop (H.length) [0, 1, 2, 3, 8] [9] (fun (q : Nat × List Smp) => q.1 ≤ k ∧ q.2.length = l.length ∧ (∀ x ∈ q.2, P x) ∧ sinkG lt q.1 q.2 = sinkG lt k cur) (fun (q : Nat × List Smp) => [(9, (.c (.int .i64 (q.1))))]) (fun (q : Nat × List Smp) => H.set i (.row 38 3 (q.2.map encS) true)) (fun (q : Nat × List Smp) => q.1) (by kernel_rfl) (fun _ => rfl) (by kernel_rfl) (by first | (simp; done) | omega) (by first | (simp; done) | (simp; omega) | omega) kl ?_ (fun q hq _ _ => ?_)
    · exact Next.mk (k, cur) ⟨Nat.le_refl _, hcl, hcP, rfl⟩ wk
    obtain ⟨j, cu⟩ := q
    obtain ⟨hj1, hj2, hjP, hjE⟩ := hq
    dsimp only at hj1 hj2 hjP hjE
    have hdone : sinkG lt j cu = cu → WkL H.length [(.c (.int .i64 ((k + 1 : Nat))))] (H.set i (.row 38 3 (cu.map encS) true)) [(.c (.int .i64 ((k + 1 : Nat))))] (H.set i (.row 38 3 ((sinkG lt k cur).map encS) true)) := fun h => by
      rw [← hjE, h]; exact WkL.refl (by simp)
    have hnx : sinkG lt j cu = cu → (1 ≤ k + 1 ∧ (k + 1 ≤ l.length ∨ k + 1 = 1) ∧ (sinkG lt k cur).length = l.length ∧ (∀ x ∈ sinkG lt k cur, P x) ∧ isortGoG lt (l.length - (k + 1)) (k + 1) (sinkG lt k cur) = isortG lt l) ∧ l.length - (k + 1) < l.length - k := fun h => by
      refine ⟨⟨by omega, .inl (by omega), by rw [← hjE, h]; exact hj2, by rw [← hjE, h]; exact hjP, ?_⟩, by omega⟩
      rw [← hcE, show l.length - k = (l.length - (k + 1)) + 1 by omega]; rfl
    rcases j with _ | j
    · simp (disch := first | omega | (simp only [go_sem]; first | done | omega)) only [go_sem]
      repeat' (first | ((first | refine acond_d ?_ ?_ | refine acond_b ?_ ?_ | refine ag_d ?_ ?_ | refine ag_n ?_ ?_ | refine ag_bt ?_ ?_ | refine ag_bf ?_ ?_) <;> intro c <;> try simp (disch := first | omega | (simp only [go_sem]; first | done | omega)) only [go_sem, c]) | ((first | refine w_draw (by kernel_rfl) (by decide +kernel) ?_) <;> try simp (disch := first | omega | (simp only [go_sem]; first | done | omega)) only [go_sem]))
      exact Next.mk (k + 1, sinkG lt k cur) (hnx rfl) (hdone rfl)
    · have hjl : j + 1 < cu.length := by omega
      have hst := sinkG_step lt j cu hjl
      have hx : cu[(((j + 1 : Nat) : Int) - 1).toNat]'(by omega) = cu[j] := by congr 1; omega
      simp (disch := first | omega | (simp only [go_sem]; first | done | omega)) only [go_sem]
      repeat' (first | ((first | refine acond_d ?_ ?_ | refine acond_b ?_ ?_ | refine ag_d ?_ ?_ | refine ag_n ?_ ?_ | refine ag_bt ?_ ?_ | refine ag_bf ?_ ?_) <;> intro c <;> try simp (disch := first | omega | (simp only [go_sem]; first | done | omega)) only [go_sem, c, he, hx]) | ((first | refine w_draw (by kernel_rfl) (by decide +kernel) ?_ | refine hf cu[j + 1] cu[j] _ _ (hjP _ (List.getElem_mem _)) (hjP _ (List.getElem_mem _)) ?_) <;> try simp (disch := first | omega | (simp only [go_sem]; first | done | omega)) only [go_sem, he, hx]))
      · have lt := (hc _ _ (hjP _ (List.getElem_mem _)) (hjP _ (List.getElem_mem _))).1 c
        have hmp : ∀ q, q = j → ((cu.map encS).set (j + 1) (encS cu[j])).set q (encS cu[j + 1]) = (((cu.set (j + 1) cu[j]).set j cu[j + 1])).map encS := by
          rintro q rfl; simp [List.map_set, -encS]
        have hmp := hmp (((j + 1 : Nat) : Int) - 1).toNat (by omega)
        refine Next.mk (j, (cu.set (j + 1) cu[j]).set j cu[j + 1]) ⟨⟨by omega, by simpa using hj2, fun x hx' => ?_, by rw [← hjE, hst, if_pos lt]⟩, by dsimp only; omega⟩ ?_
        · rcases List.mem_or_eq_of_mem_set hx' with h | rfl
          · rcases List.mem_or_eq_of_mem_set h with h | rfl
            · exact hjP x h
            · exact hjP _ (List.getElem_mem _)
          · exact hjP _ (List.getElem_mem _)
        · dsimp only
          rw [← hmp]
          exact wk
      · have ge : ¬lt cu[j + 1] cu[j] = true := fun h => c ((hc _ _ (hjP _ (List.getElem_mem _)) (hjP _ (List.getElem_mem _))).2 h)
        have h : sinkG lt (j + 1) cu = cu := by rw [hst, if_neg ge]
        exact Next.mk (k + 1, sinkG lt k cur) (hnx h) (hdone h)
  · simp (disch := first | omega | (simp only [go_sem]; first | done | omega)) only [go_sem]
    have e : cur = isortG lt l := by rw [← hcE, show l.length - k = 0 by omega]; rfl
    rw [e]
    exact Ret.same (by simp) hk
theorem pdq12Sm_a (f : FuncId) (cf : Smp → Smp → Int) (lt : Smp → Smp → Bool) (P : Smp → Prop) (he : entersB Tryz.prog f = true) (hc : ∀ x y, P x → P y → (cf x y < 0 ↔ lt x y = true)) (hf : ∀ (x y : Smp) (H : Hp) (K : AV → Hp → Prop), P x → P y → K (.c (.int .i64 (cf x y))) H → ACalls Tryz.prog f [.agg (encS x), .agg (encS y)] H K)
    {i n : Nat} (lim : Int) (l : List Smp) (hi : H[i]? = some (.row 38 3 (l.map encS) true)) (hn : n = l.length) (hP : ∀ x ∈ l, P x) (hlen : l.length ≤ 12) (hk : K (.tup []) (H.set i (.row 38 3 ((isortG lt l).map encS) true))) :
    ACalls Tryz.prog 155 [.c (.sl (some (i, 0)) n), (.c (.int .i64 0)), (.c (.int .i64 n)), (.c (.int .i64 lim)), .c (.fn f [] [])] H K := by
  subst hn
  have hlt := getElem?_lt hi
  refine acalls Tryz.func155 rfl (by kernel_rfl) (by simp (disch := first | omega | (simp only [go_sem]; first | done | omega)) only [go_sem]) (fun hH => ?_)
  simp (disch := first | omega | (simp only [go_sem]; first | done | omega)) only [go_sem]
  refine AWp.loop (H.length) [0, 4] [1, 2, 3, 10, 11] (fun (q : Unit) => True) (fun (q : Unit) => [(1, (.c (.int .i64 0))), (2, (.c (.int .i64 (l.length)))), (3, (.c (.int .i64 lim))), (10, (.c (.bool true))), (11, (.c (.bool true)))]) (fun (q : Unit) => H) (fun (q : Unit) => 0) (by kernel_rfl) (fun _ => rfl) (by kernel_rfl) (by first | (simp; done) | omega) (by first | (simp; done) | (simp; omega) | omega) kl ?_ (fun q hq _ _ => ?_)
  · exact Next.mk () trivial wk
  simp (disch := first | omega | (simp only [go_sem]; first | done | omega)) only [go_sem]
  refine insertionSm_a f cf lt P he hc hf l hi rfl hP (by omega) ?_
  simp (disch := first | omega | (simp only [go_sem]; first | done | omega)) only [go_sem]
  exact Ret.same (by simp) hk
theorem insNil12Sm_a (f : FuncId) (hk : K (.tup []) H) : ACalls Tryz.prog 240 [.c (.sl none 0), (.c (.int .i64 0)), (.c (.int .i64 0)), .c (.fn f [] [])] H K := by
  refine acalls Tryz.func240 rfl (by kernel_rfl) (by simp (disch := first | omega | (simp only [go_sem]; first | done | omega)) only [go_sem]) (fun hH => ?_)
  simp (disch := first | omega | (simp only [go_sem]; first | done | omega)) only [go_sem]
  refine AWp.loop (H.length) [0, 1, 2, 3] [8] (fun (q : Unit) => True) (fun (q : Unit) => [(8, (.c (.int .i64 1)))]) (fun (q : Unit) => H) (fun (q : Unit) => 0) (by kernel_rfl) (fun _ => rfl) (by kernel_rfl) (by first | (simp; done) | omega) (by first | (simp; done) | (simp; omega) | omega) kl ?_ (fun q hq _ _ => ?_)
  · exact Next.mk () trivial wk
  simp (disch := first | omega | (simp only [go_sem]; first | done | omega)) only [go_sem]
  exact Ret.same (by simp) hk
theorem pdqNil12Sm_a (f : FuncId) (lim : Int) (hk : K (.tup []) H) : ACalls Tryz.prog 155 [.c (.sl none 0), (.c (.int .i64 0)), (.c (.int .i64 0)), (.c (.int .i64 lim)), .c (.fn f [] [])] H K := by
  refine acalls Tryz.func155 rfl (by kernel_rfl) (by simp (disch := first | omega | (simp only [go_sem]; first | done | omega)) only [go_sem]) (fun hH => ?_)
  simp (disch := first | omega | (simp only [go_sem]; first | done | omega)) only [go_sem]
  refine AWp.loop (H.length) [0, 4] [1, 2, 3, 10, 11] (fun (q : Unit) => True) (fun (q : Unit) => [(1, (.c (.int .i64 0))), (2, (.c (.int .i64 0))), (3, (.c (.int .i64 lim))), (10, (.c (.bool true))), (11, (.c (.bool true)))]) (fun (q : Unit) => H) (fun (q : Unit) => 0) (by kernel_rfl) (fun _ => rfl) (by kernel_rfl) (by first | (simp; done) | omega) (by first | (simp; done) | (simp; omega) | omega) kl ?_ (fun q hq _ _ => ?_)
  · exact Next.mk () trivial wk
  simp (disch := first | omega | (simp only [go_sem]; first | done | omega)) only [go_sem]
  refine insNil12Sm_a f ?_
  simp (disch := first | omega | (simp only [go_sem]; first | done | omega)) only [go_sem]
  exact Ret.same (by simp) hk
theorem lenq64Sm_a (n : Nat) (hn : n ≤ 12) (hk : ∀ r : Int, K (.c (.int .i64 r)) H) : ACalls Tryz.prog 249 [.c (.int .u64 n)] H K := by
  have hn' : n = 0 ∨ n = 1 ∨ n = 2 ∨ n = 3 ∨ n = 4 ∨ n = 5 ∨ n = 6 ∨ n = 7 ∨ n = 8 ∨ n = 9 ∨ n = 10 ∨ n = 11 ∨ n = 12 := by omega
  obtain ⟨r, hr⟩ : ∃ r : Int, r = ([0, 1, 2, 2, 3, 3, 3, 3, 4, 4, 4, 4, 4] : List Int).getD n 0 := ⟨_, rfl⟩
  refine acalls Tryz.func249 rfl (by kernel_rfl) (by simp (disch := first | omega | (simp only [go_sem]; first | done | omega)) only [go_sem]) (fun hH => ?_)
  simp (disch := first | omega | (simp only [go_sem]; first | done | omega)) only [go_sem]
  refine aIf_valS (v' := .c (.int .u8 r)) ?_ ?_ ?_
  · rcases hn' with rfl | rfl | rfl | rfl | rfl | rfl | rfl | rfl | rfl | rfl | rfl | rfl | rfl <;> decide +kernel
  · subst hr
    rcases hn' with rfl | rfl | rfl | rfl | rfl | rfl | rfl | rfl | rfl | rfl | rfl | rfl | rfl <;> exact congrArg (fun z => AV.c (.int .u8 z)) (by decide +kernel)
  simp (disch := first | omega | (simp only [go_sem]; first | done | omega)) only [go_sem]
  exact Ret.same (Nat.le_refl _) (hk _)
theorem lenqSm_a (n : Nat) (hn : n ≤ 12) (hk : ∀ r : Int, K (.c (.int .i64 r)) H) : ACalls Tryz.prog 156 [.c (.int .u64 n)] H K := by
  refine acalls Tryz.func156 rfl (by kernel_rfl) (by simp (disch := first | omega | (simp only [go_sem]; first | done | omega)) only [go_sem]) (fun hH => ?_)
  simp (disch := first | omega | (simp only [go_sem]; first | done | omega)) only [go_sem]
  refine lenq64Sm_a n hn (fun r => ?_)
  simp (disch := first | omega | (simp only [go_sem]; first | done | omega)) only [go_sem]
  exact Ret.same (Nat.le_refl _) (hk r)
theorem sort12Sm_a (f : FuncId) (cf : Smp → Smp → Int) (lt : Smp → Smp → Bool) (P : Smp → Prop) (he : entersB Tryz.prog f = true) (hc : ∀ x y, P x → P y → (cf x y < 0 ↔ lt x y = true)) (hf : ∀ (x y : Smp) (H : Hp) (K : AV → Hp → Prop), P x → P y → K (.c (.int .i64 (cf x y))) H → ACalls Tryz.prog f [.agg (encS x), .agg (encS y)] H K)
    {i : Nat} (l : List Smp) (hi : H[i]? = some (grO 38 3 (l.map encS))) (hP : ∀ x ∈ l, P x) (hlen : l.length ≤ 12) (hk : K (.tup []) (H.set i (grO 38 3 ((isortG lt l).map encS)))) :
    ACalls Tryz.prog 65 [.c (grV i l), .c (.fn f [] [])] H K := by
  by_cases h : l = []
  · subst h
    have hk : K (.tup []) (H.set i .dead) := hk
    rw [set_same (o := .dead) hi] at hk
    simp only [grV]
    refine acalls Tryz.func65 rfl (by kernel_rfl) (by simp (disch := first | omega | (simp only [go_sem]; first | done | omega)) only [go_sem]) (fun hH => ?_)
    simp (disch := first | omega | (simp only [go_sem]; first | done | omega)) only [go_sem]
    have hw : IntKind.u64.wrap 0 = ((0 : Nat) : Int) := by decide
    try rw [hw]
    refine lenqSm_a 0 (by omega) (fun r => ?_)
    simp (disch := first | omega | (simp only [go_sem]; first | done | omega)) only [go_sem]
    refine pdqNil12Sm_a f r ?_
    simp (disch := first | omega | (simp only [go_sem]; first | done | omega)) only [go_sem]
    exact Ret.same (by simp) hk
  · have h2 : l.map encS ≠ [] := by simpa using h
    have h3 : (isortG lt l).map encS ≠ [] := by intro h4; have := congrArg List.length h4; simp [isortG_len] at this; exact h this
    rw [grO_pos _ _ h2] at hi
    rw [grO_pos _ _ h3] at hk
    rw [grV_pos _ h]
    refine acalls Tryz.func65 rfl (by kernel_rfl) (by simp (disch := first | omega | (simp only [go_sem]; first | done | omega)) only [go_sem]) (fun hH => ?_)
    simp (disch := first | omega | (simp only [go_sem]; first | done | omega)) only [go_sem]
    have hw : IntKind.u64.wrap (l.length : Int) = l.length := by
      have : ∀ m : Fin 13, IntKind.u64.wrap (m.val : Int) = m.val := by decide
      exact this ⟨l.length, by omega⟩
    try rw [hw]
    refine lenqSm_a l.length hlen (fun r => ?_)
    simp (disch := first | omega | (simp only [go_sem]; first | done | omega)) only [go_sem]
    refine pdq12Sm_a f cf lt P he hc hf r l hi rfl hP hlen ?_
    simp (disch := first | omega | (simp only [go_sem]; first | done | omega)) only [go_sem]
    exact Ret.same (by simp) hk
def tC (x y : Smp) : Int := if x.t < y.t then -1 else if y.t < x.t then 1 else 0
theorem tC_lt (x y : Smp) : tC x y < 0 ↔ tLt x y = true := by
  unfold tC tLt
  rw [decide_eq_true_eq]
  split
  · simp; assumption
  · split <;> (simp; omega)
theorem stoCmp_a (x y : Smp) (hk : K (.c (.int .i64 (tC x y))) H) : ACalls Tryz.prog 150 [.agg (encS x), .agg (encS y)] H K := by
  refine acalls Tryz.func150 rfl (by kernel_rfl) (by simp (disch := first | omega | (simp only [go_sem]; first | done | omega)) only [go_sem]) (fun hH => ?_)
  simp (disch := first | omega | (simp only [go_sem]; first | done | omega)) only [go_sem]
  refine compare_a x.t y.t ?_
  rw [show (if x.t < y.t then (-1 : Int) else if y.t < x.t then 1 else 0) = tC x y from rfl]
  simp (disch := first | omega | (simp only [go_sem]; first | done | omega)) only [go_sem]
  exact Ret.drop hH (Nat.le_refl _) trivial hk
@[go_sem] theorem mapK_sc : mapK Tryz.prog 206 = some 9 := (by kernel_rfl)
@[go_sem] theorem mapZ_sc : (mapE Tryz.prog 206).bind (zeroA Tryz.prog) = some (.c (.sl none 0)) := (by kernel_rfl)
def encCm (x : NCl) : AV × AV := (.c (.str x.nd), .c (.lst 2 (x.c.map encK)))
theorem okN_cm (S : List NCl) (n : Nat) : (mpO (S.map encCm)).okN n := by
  unfold mpO AObj.okN
  intro p hp
  obtain ⟨x, _, rfl⟩ := List.mem_map.1 hp
  exact ⟨trivial, trivial⟩
theorem put_clk (x : NCl) (S : List NCl) (hne : ∀ y ∈ S, y.nd ≠ x.nd) {kt : TypeId} (ht : keyT Tryz.prog kt (.c (.str x.nd)) = true) : mapPut Tryz.prog kt (.c (.str x.nd)) (.c (.lst 2 (x.c.map encK))) (S.map encCm) = some ((S ++ [x]).map encCm) := by
  have h1 := put_of (P := Tryz.prog) (e := encCm) (p := fun y => decide (x.nd = y.nd)) (x := x) (l := S) ht (findA_str x.nd (fun y : NCl => y.nd) (fun y : NCl => .c (.lst 2 (y.c.map encK))) S) rfl
  have h2 : upsert (fun y : NCl => decide (x.nd = y.nd)) x S = S ++ [x] := by
    unfold upsert
    rw [List.findIdx?_eq_none_iff.2 (by
      intro y hy
      have := hne y hy
      simp
      exact fun e => this e.symm)]
  rw [h2] at h1
  exact h1
theorem get_clk (n : ByteArray) (S : List NCl) {kt : TypeId} (ht : keyT Tryz.prog kt (.c (.str n)) = true) : mapGet Tryz.prog kt (.c (.str n)) (some (.c (.sl none 0))) (S.map encCm) = some (match S.find? (fun y => decide (n = y.nd)) with | some x => (.c (.lst 2 (x.c.map encK)), true) | none => (.c (.sl none 0), false)) := by
  rw [get_of (z := .c (.sl none 0)) (e := encCm) (p := fun y => decide (n = y.nd)) ht (findA_str n (fun y : NCl => y.nd) (fun y : NCl => .c (.lst 2 (y.c.map encK))) S)]
  cases List.find? (fun y : NCl => decide (n = y.nd)) S <;> rfl
theorem addE_new {l : List Int} {x : Int} (h : x ∉ l) : addE l x = l ++ [x] := by unfold addE; rw [if_neg h]
theorem Ret.frzGr2 {A G : Hp} {n ty1 s1 ty2 s2 : Nat} {l1 l2 : List (List AC)} {x y : AC} {ts : List AV} (j1 j2 : Nat) (hne : j1 ≠ j2) (hA : HOk A) (hn : n ≤ A.length) (h1 : G[j1]? = some (grO ty1 s1 l1)) (h2 : G[j2]? = some (grO ty2 s2 l2)) (hp1 : pureL l1 = true) (hp2 : pureL l2 = true) (ht : tailOk ts = true)
    (hx : x = grV (A.length + j1) l1) (hy : y = grV (A.length + j2) l2) (hk : K (.tup (.c (.lst s1 l1) :: .c (.lst s2 l2) :: ts)) A) : Ret n (.tup (.c x :: .c y :: ts)) (A ++ G) K := by
  subst hx hy
  have ho : (AV.tup (.c (.lst s1 l1) :: .c (.lst s2 l2) :: ts)).ok A.length := by
    intro y hy
    rcases List.mem_cons.1 hy with rfl | hy
    · trivial
    rcases List.mem_cons.1 hy with rfl | hy
    · trivial
    · exact tail_ok1 _ ht y hy
  cases l1 with
  | nil =>
    cases l2 with
    | nil =>
      refine Ret.nil [s1, s2] (by simp; omega) ?_
      have e : (AV.tup (.c (grV (A.length + j1) ([] : List (List AC))) :: .c (grV (A.length + j2) ([] : List (List AC))) :: ts)).nilz [s1, s2] = .tup (.c (.lst s1 []) :: .c (.lst s2 []) :: ts) := by simp [AV.nilz, AV.nilz.go, grV, AC.nilz]
      rw [e]
      exact Ret.drop hA hn ho hk
    | cons z zs =>
      refine Ret.nil [s1] (by simp; omega) ?_
      have e : (AV.tup (.c (grV (A.length + j1) ([] : List (List AC))) :: .c (grV (A.length + j2) (z :: zs)) :: ts)).nilz [s1] = .tup (.c (.lst s1 []) :: .c (grV (A.length + j2) (z :: zs)) :: ts) := by simp [AV.nilz, AV.nilz.go, grV, AC.nilz]
      rw [e]
      refine Ret.frzAt j2 hA hn hk h2 hp2 ho ?_
      simp only [AV.frz, List.map_cons, tail_frz ht]
      simp [AV.frz1, AC.frz, grV]
  | cons w ws =>
    cases l2 with
    | nil =>
      refine Ret.nil [0, s2] (by simp; omega) ?_
      have e : (AV.tup (.c (grV (A.length + j1) (w :: ws)) :: .c (grV (A.length + j2) ([] : List (List AC))) :: ts)).nilz [0, s2] = .tup (.c (grV (A.length + j1) (w :: ws)) :: .c (.lst s2 []) :: ts) := by simp [AV.nilz, AV.nilz.go, grV, AC.nilz]
      rw [e]
      refine Ret.frzAt j1 hA hn hk h1 hp1 ho ?_
      simp only [AV.frz, List.map_cons, tail_frz ht]
      simp [AV.frz1, AC.frz, grV]
    | cons z zs =>
      refine Ret.frzAt2 j1 j2 hA hn hk h1 h2 hne hp1 hp2 ho ?_
      simp only [AV.frz, List.map_cons, tail_frz ht]
      have hne' : j2 ≠ j1 := fun h => hne h.symm
      simp [AV.frz1, AC.frz, grV, hne']
theorem corrV_a (cs : List NCl) (nm : ByteArray) (t : Int) {v : AV} (hv : v = .c (.lst 2 ((ckOf cs nm).map encK)) ∨ (v = .c (.sl none 0) ∧ ckOf cs nm = [])) (hc : nkF cs = 0) (h0 : 0 ≤ t) (h1 : t ≤ 345686399999) (hk : K (.c (.int .i64 (corrF (ckOf cs nm) t))) H) : ACalls Tryz.prog 149 [v, (.c (.int .i64 t))] H K := by
  have hck := ckOf_ok hc nm
  rcases hv with rfl | ⟨rfl, he⟩
  · exact corrected_a _ t hck h0 h1 hk
  · rw [he] at hk
    exact ACalls.nilz [2] (by simp) (corrected_a [] t rfl h0 h1 hk)
def stT (l : List Arr) (cs : List NCl) (tag : ByteArray) : List Smp × List Int × Int := if firstE [arF l, nkF cs] ≠ 0 then ([], [], firstE [arF l, nkF cs]) else if isKey tag then ((stR l cs tag).1, (stR l cs tag).2, 0) else ([], [], 5)
theorem stored_b (l : List Arr) (cs : List NCl) (tag : ByteArray) (hn : tag.size ≤ 1099511627776) (hsz : ∀ x ∈ l, x.nd.size ≤ 1099511627776 ∧ x.p.tag.size ≤ 1099511627776) (hl : l.length ≤ 1000) (h12 : (stP l cs tag l.length).1.length ≤ 12) (hcl : cs.length ≤ 1099511627776) (hcs : ∀ x ∈ cs, x.fine)
    (hk : K (.tup [.c (.lst 3 ((stT l cs tag).1.map encS)), .c (.lst 1 ((stT l cs tag).2.1.map encI)), (.c (.int .i64 ((stT l cs tag).2.2)))]) H) : ACalls Tryz.prog 57 [.c (.lst 7 (l.map encAr)), .c (.lst 2 (cs.map encC)), (.c (.str tag))] H K := by
  refine acalls Tryz.func57 rfl (by kernel_rfl) (by simp (disch := first | omega | (simp only [go_sem]; first | done | omega)) only [go_sem]) (fun hH => ?_)
  simp (disch := first | omega | (simp only [go_sem]; first | done | omega)) only [go_sem]
  refine checkArrivals_a l hsz (by omega) ?_
  simp (disch := first | omega | (simp only [go_sem]; first | done | omega)) only [go_sem]
  refine clocksFault_a cs hcl hcs ?_
  simp (disch := first | omega | (simp only [go_sem]; first | done | omega)) only [go_sem]
  refine first2A (arF l) (nkF cs) (by first | ((repeat first | exact at0 (by simp) | refine atS ?_); done) | assumption) rfl rfl ?_
  unfold stT at hk
  by_cases he : firstE [arF l, nkF cs] = 0
  · rw [if_neg (by simp [he])] at hk
    have he1 : arF l = 0 ∧ nkF cs = 0 := by
      simp only [firstE] at he
      by_cases c : arF l = 0
      · rw [if_pos c] at he
        by_cases c2 : nkF cs = 0
        · exact ⟨c, c2⟩
        · rw [if_neg c2] at he; exact absurd he c2
      · rw [if_neg c] at he; exact absurd he c
    obtain ⟨ha, hc⟩ := he1
    simp (disch := first | omega | (simp only [go_sem]; first | done | omega)) only [go_sem, he]
    refine key_a tag hn ?_
    by_cases hky : isKey tag
    · rw [if_pos hky] at hk
      rw [decide_eq_true hky]
      simp (disch := first | omega | (simp only [go_sem]; first | done | omega)) only [go_sem]
      have hap := nkF_apart hc
      refine AWp.loop (H.length + 2) [0, 2, 10, 33, 34] [35] (fun (k : Nat) => k ≤ cs.length) (fun (k : Nat) => [(35, (.c (.int .i64 k)))]) (fun (k : Nat) => H ++ [.dead, mpO ((cs.take k).map encCm)]) (fun (k : Nat) => cs.length - k) (by kernel_rfl) (fun _ => rfl) (by kernel_rfl) (by first | (simp; done) | omega) (by first | (simp; done) | (simp; omega) | omega) kl ?_ (fun k q1 _ _ => ?_)
      · refine Next.mk 0 (Nat.zero_le _) ?_
        exact wk
      · by_cases hlt : k < cs.length
        · obtain ⟨x, hx⟩ : ∃ x, x = cs[k] := ⟨_, rfl⟩
          have htk : cs.take (k + 1) = cs.take k ++ [x] := by rw [List.take_succ_eq_append_getElem hlt, ← hx]
          have hne : ∀ y ∈ cs.take k, y.nd ≠ x.nd := by
            intro y hy
            obtain ⟨i, hi, rfl⟩ := List.getElem_of_mem hy
            rw [List.getElem_take, hx]
            rw [List.length_take] at hi
            exact (List.pairwise_iff_getElem.1 hap) i k (by omega) hlt (by omega)
          have hpt := fun {kt : TypeId} => put_clk x (cs.take k) hne (kt := kt)
          rw [← htk] at hpt
          generalize cs.take k = S at *
          simp (disch := first | omega | (simp only [go_sem]; first | done | omega)) only [go_sem, hlt, ← hx]
          refine mup_mp (by kernel_rfl) (hpt (by kernel_rfl)) ?_
          simp (disch := first | omega | (simp only [go_sem]; first | done | omega)) only [go_sem]
          refine Next.mk (k + 1) ⟨by omega, by omega⟩ ?_
          refine WkL.keepL hH rfl (by simp) rfl ?_ ?_
          · intro o ho
            simp only [List.mem_cons, List.not_mem_nil, or_false] at ho
            rcases ho with rfl | rfl
            · trivial
            · exact okN_cm _ _
          · intro v hv
            simp only [newV, List.map_cons, List.map_nil, List.mem_cons, List.not_mem_nil, or_false] at hv
            subst hv
            trivial
        · rw [List.take_of_length_le (by omega)]
          simp (disch := first | omega | (simp only [go_sem]; first | done | omega)) only [go_sem, hlt]
          refine firsts_a l (by omega) ?_
          have hfl := fsF_len l
          simp (disch := first | omega | (simp only [go_sem]; first | done | omega)) only [go_sem, hfl]
          refine AWp.loop (H.length + 3) [2, 10, 13, 16, 48, 49] [50, 14, 15] (fun (k : Nat) => k ≤ l.length) (fun (k : Nat) => [(50, (.c (.int .i64 k))), (14, .c (grV (H.length + 3) (stP l cs tag k).1)), (15, .c (grV (H.length + 4) (stP l cs tag k).2))]) (fun (k : Nat) => H ++ [.dead, mpO (cs.map encCm), mpO (((stP l cs tag k).1.map (fun y => y.t)).map encEv), grO 38 3 ((stP l cs tag k).1.map encS), grO 3 1 ((stP l cs tag k).2.map encI)]) (fun (k : Nat) => l.length - k) (by kernel_rfl) (fun _ => rfl) (by kernel_rfl) (by first | (simp; done) | omega) (by first | (simp; done) | (simp; omega) | omega) kl ?_ (fun k q1 _ _ => ?_)
          · refine Next.mk 0 (Nat.zero_le _) ?_
            exact WkL.trans (WkL.padP [_, _, _] (by simp)) (WkL.padP [_, _, _, _] (by simp))
          by_cases hlt : k < l.length
          · obtain ⟨x, hx⟩ : ∃ x, x = l[k] := ⟨_, rfl⟩
            have hnx := stP_next l cs tag k
            have hln := stP_len l cs tag k
            have hg : ∀ h, (fsF l)[k]'h = !isD l k := fun h => fsF_get l k h
            have hb2 := smpErr_bd (arrErr_smp (arF_all ha x (hx ▸ List.getElem_mem hlt)))
            have hst : stS l cs tag (stP l cs tag k) k = if x.p.tag ≠ tag then stP l cs tag k else if (stP l cs tag k).1.any (fun y => decide (y.t = (stX cs x).t)) = true then ((stP l cs tag k).1, (stP l cs tag k).2 ++ [(k : Int)]) else ((stP l cs tag k).1 ++ [stX cs x], (stP l cs tag k).2) := by
              unfold stS; rw [List.getElem?_eq_getElem hlt, ← hx]
            rw [hst] at hnx
            clear hst
            generalize stP l cs tag k = st at *
            obtain ⟨o, f⟩ := st
            dsimp only at hnx hln ⊢
            have hP : ∀ (L : List Int), ∀ q ∈ [AObj.dead, mpO (cs.map encCm), mpO (L.map encEv)], q.okN (H.length + [AObj.dead, mpO (cs.map encCm), mpO (L.map encEv)].length) := by
              intro L q hq
              simp only [List.mem_cons, List.not_mem_nil, or_false] at hq
              rcases hq with rfl | rfl | rfl
              · trivial
              · exact okN_cm _ _
              · exact okN_ev _ _
            have hP0 := hP (o.map (fun y => y.t))
            by_cases htg : x.p.tag = tag
            · cases hd : isD l k with
              | true =>
                rw [hd, if_pos rfl] at hnx
                simp (disch := first | omega | (simp only [go_sem]; first | done | omega)) only [go_sem, hlt, ← hx]
                repeat' (first | ((first | refine acond_d ?_ ?_ | refine acond_b ?_ ?_ | refine ag_d ?_ ?_ | refine ag_n ?_ ?_ | refine ag_bt ?_ ?_ | refine ag_bf ?_ ?_) <;> intro c <;> try simp (disch := first | omega | (simp only [go_sem]; first | done | omega)) only [go_sem, c, htg, hfl, hlt, ← hx]) | ((first | refine w_draw (by kernel_rfl) (by decide +kernel) ?_) <;> try simp (disch := first | omega | (simp only [go_sem]; first | done | omega)) only [go_sem, htg, hfl, hlt, ← hx]))
                all_goals first
                  | (exfalso; rw [hg, hd] at c; simp at c; done)
                  | (refine Next.mk (k + 1) ?_ ?_
                     · exact ⟨by omega, by omega⟩
                     · rw [hnx]
                       ((try simp (disch := first | omega | (simp only [go_sem]; first | done | omega)) only [go_sem]); (refine WkL.pickAt [_, _, _] [0, 1] ?_ ?_ ?_ rfl ?_ ?_ ?_ ?_) <;> first | (simp only [List.map_cons, List.map_nil, av_ren_gr]; (try simp only [AV.ren, AV.ren1, AC.ren, renP]); (try simp only [pickS_add, pickS_zero]); rfl) | (simp only [List.all_cons, List.all_nil, Bool.and_true, Bool.and_eq_true]; (repeat' apply And.intro) <;> first | exact pureO_gr (pureL_map _ (fun x => by simp [go_sem, AC.pure])) | (simp [AObj.pureO, pureL, go_sem, AC.pure]; done)) | assumption | exact HOk.str (by assumption) | (simp; done) | (simp; omega) | (simp [pureO_gr, AObj.pureO, pureL, go_sem, AC.pure]; done) | (simp only [List.all_cons, List.all_nil, Bool.and_true]; exact pureO_gr (pureL_map _ (fun x => by simp [go_sem, AC.pure]))) | ((try simp only [List.map_cons, List.map_nil, av_ren_gr]); simp [AV.ren, AV.ren1, AC.ren, renP, pickS]; first | done | omega) | (simp only [List.forall_mem_cons, List.not_mem_nil, false_implies, implies_true, and_true]; (repeat' apply And.intro) <;> first | trivial | exact grV_ok (by simp) _ | exact okN_grO (fun x => by simp [go_sem, AC.pure]) | exact okN_map (fun x => by simp [go_sem, AC.pure]) | (simp [AV.ok, AV.ok1, AC.ok]; done) | (simp [AV.ok, AV.ok1, AC.ok]; omega) | (simp [AObj.okN, AC.ok]; done)) | (simp [AObj.okN]; done)))
              | false =>
                rw [hd, if_neg (show ¬ (false = true) by simp), if_neg (show ¬ (x.p.tag ≠ tag) by simp [htg])] at hnx
                simp (disch := first | omega | (simp only [go_sem]; first | done | omega)) only [go_sem, hlt, ← hx]
                repeat' (first | ((first | refine acond_d ?_ ?_ | refine acond_b ?_ ?_ | refine ag_d ?_ ?_ | refine ag_n ?_ ?_ | refine ag_bt ?_ ?_ | refine ag_bf ?_ ?_) <;> intro c <;> try simp (disch := first | omega | (simp only [go_sem]; first | done | omega)) only [go_sem, c, htg, hfl, hlt, ← hx]) | ((first | refine w_draw (by kernel_rfl) (by decide +kernel) ?_) <;> try simp (disch := first | omega | (simp only [go_sem]; first | done | omega)) only [go_sem, htg, hfl, hlt, ← hx]))
                · have hgk := fun {kt : TypeId} => get_clk (kt := kt) x.nd cs
                  have hv : ∃ v b, (match cs.find? (fun y => decide (x.nd = y.nd)) with | some x => (AV.c (.lst 2 (x.c.map encK)), true) | none => (AV.c (.sl none 0), false)) = (v, b) ∧ noTup v = true ∧ (v = .c (.lst 2 ((ckOf cs x.nd).map encK)) ∨ (v = .c (.sl none 0) ∧ ckOf cs x.nd = [])) := by
                    unfold ckOf
                    cases cs.find? (fun y => decide (x.nd = y.nd)) with
                    | none => exact ⟨_, _, rfl, rfl, Or.inr ⟨rfl, rfl⟩⟩
                    | some y => exact ⟨_, _, rfl, rfl, Or.inl rfl⟩
                  obtain ⟨v, b, e1, e2, e3⟩ := hv
                  rw [e1] at hgk
                  have hX : stX cs x = ⟨corrF (ckOf cs x.nd) x.p.s.t, x.p.s.v, x.p.s.q⟩ := rfl
                  rw [hX] at hnx
                  refine look_mp (by kernel_rfl) (hgk (by kernel_rfl)) e2 ?_
                  simp (disch := first | omega | (simp only [go_sem]; first | done | omega)) only [go_sem]
                  refine ⟨e2, ?_⟩
                  refine corrV_a cs x.nd x.p.s.t e3 hc hb2.1 hb2.2 ?_
                  generalize corrF (ckOf cs x.nd) x.p.s.t = T at *
                  dsimp only at hnx
                  have hany : o.any (fun y => decide (y.t = T)) = decide (T ∈ o.map (fun y => y.t)) := by
                    rw [Bool.eq_iff_iff, List.any_eq_true, decide_eq_true_eq, List.mem_map]
                    simp only [decide_eq_true_eq]
                  rw [hany] at hnx
                  simp (disch := first | omega | (simp only [go_sem]; first | done | omega)) only [go_sem]
                  refine look_mp (by kernel_rfl) (get_ever T (o.map (fun y => y.t)) (by kernel_rfl)) rfl ?_
                  by_cases hm : T ∈ o.map (fun y => y.t)
                  · rw [decide_eq_true hm, if_pos rfl] at hnx
                    simp (disch := first | omega | (simp only [go_sem]; first | done | omega)) only [go_sem, decide_eq_true hm]
                    obtain ⟨f2, hf2⟩ : ∃ f2, f2 = f ++ [(k : Int)] := ⟨_, rfl⟩
                    rw [← hf2] at hnx
                    refine appI f (k : Int) f2 hf2 (by first | ((repeat first | exact at0 (by simp) | refine atS ?_); done) | assumption) (by first | ((repeat first | exact at0 (by simp) | refine atS ?_); done) | assumption) (by omega) ?_
                    simp (disch := first | omega | (simp only [go_sem]; first | done | omega)) only [go_sem]
                    refine Next.mk (k + 1) ⟨by omega, by omega⟩ ?_
                    rw [hnx]
                    ((try simp (disch := first | omega | (simp only [go_sem]; first | done | omega)) only [go_sem]); (refine WkL.pickAt [_, _, _] [0, 5] ?_ ?_ ?_ rfl ?_ ?_ ?_ ?_) <;> first | (simp only [List.map_cons, List.map_nil, av_ren_gr]; (try simp only [AV.ren, AV.ren1, AC.ren, renP]); (try simp only [pickS_add, pickS_zero]); rfl) | (simp only [List.all_cons, List.all_nil, Bool.and_true, Bool.and_eq_true]; (repeat' apply And.intro) <;> first | exact pureO_gr (pureL_map _ (fun x => by simp [go_sem, AC.pure])) | (simp [AObj.pureO, pureL, go_sem, AC.pure]; done)) | assumption | exact HOk.str (by assumption) | (simp; done) | (simp; omega) | (simp [pureO_gr, AObj.pureO, pureL, go_sem, AC.pure]; done) | (simp only [List.all_cons, List.all_nil, Bool.and_true]; exact pureO_gr (pureL_map _ (fun x => by simp [go_sem, AC.pure]))) | ((try simp only [List.map_cons, List.map_nil, av_ren_gr]); simp [AV.ren, AV.ren1, AC.ren, renP, pickS]; first | done | omega) | (simp only [List.forall_mem_cons, List.not_mem_nil, false_implies, implies_true, and_true]; (repeat' apply And.intro) <;> first | trivial | exact grV_ok (by simp) _ | exact okN_grO (fun x => by simp [go_sem, AC.pure]) | exact okN_map (fun x => by simp [go_sem, AC.pure]) | (simp [AV.ok, AV.ok1, AC.ok]; done) | (simp [AV.ok, AV.ok1, AC.ok]; omega) | (simp [AObj.okN, AC.ok]; done)) | (simp [AObj.okN]; done))
                  · rw [decide_eq_false hm, if_neg (by simp)] at hnx
                    simp (disch := first | omega | (simp only [go_sem]; first | done | omega)) only [go_sem, decide_eq_false hm]
                    refine mup_mp (by kernel_rfl) (put_ever T (o.map (fun y => y.t)) (by kernel_rfl)) ?_
                    rw [addE_new hm]
                    simp (disch := first | omega | (simp only [go_sem]; first | done | omega)) only [go_sem]
                    (refine app_gr (enc := encS) (e := 38) (sz := 3) (bs := 24) (z := [.int .i64 0, .int .i64 0, .int .i64 0]) (o) (⟨T, x.p.s.v, x.p.s.q⟩) (by kernel_rfl) (by kernel_rfl) (by kernel_rfl) (by kernel_rfl) (by first | ((repeat first | exact at0 (by simp) | refine atS ?_); done) | assumption) (by first | (simp (disch := first | omega | (simp only [go_sem]; first | done | omega)) only [go_sem]; done) | (simp (disch := first | omega | (simp only [go_sem]; first | done | omega)) only [go_sem]; rfl) | (simp (disch := first | omega | (simp only [go_sem]; first | done | omega)) only [go_sem]; simp [go_sem]; done) | (simp (disch := first | omega | (simp only [go_sem]; first | done | omega)) only [go_sem]; simp [*]; done)) rfl (by decide) (by omega) (by omega) (by rfl) ?_)
                    simp (disch := first | omega | (simp only [go_sem]; first | done | omega)) only [go_sem]
                    refine Next.mk (k + 1) ⟨by omega, by omega⟩ ?_
                    rw [hnx]
                    have e5 : (o ++ [(⟨T, x.p.s.v, x.p.s.q⟩ : Smp)]).map (fun y : Smp => y.t) = o.map (fun y => y.t) ++ [T] := by simp
                    have hP1 := hP (o.map (fun y => y.t) ++ [T])
                    dsimp only
                    rw [e5]
                    ((try simp (disch := first | omega | (simp only [go_sem]; first | done | omega)) only [go_sem]); (refine WkL.pickAt [_, _, _] [5, 1] ?_ ?_ ?_ rfl ?_ ?_ ?_ ?_) <;> first | (simp only [List.map_cons, List.map_nil, av_ren_gr]; (try simp only [AV.ren, AV.ren1, AC.ren, renP]); (try simp only [pickS_add, pickS_zero]); rfl) | (simp only [List.all_cons, List.all_nil, Bool.and_true, Bool.and_eq_true]; (repeat' apply And.intro) <;> first | exact pureO_gr (pureL_map _ (fun x => by simp [go_sem, AC.pure])) | (simp [AObj.pureO, pureL, go_sem, AC.pure]; done)) | assumption | exact HOk.str (by assumption) | (simp; done) | (simp; omega) | (simp [pureO_gr, AObj.pureO, pureL, go_sem, AC.pure]; done) | (simp only [List.all_cons, List.all_nil, Bool.and_true]; exact pureO_gr (pureL_map _ (fun x => by simp [go_sem, AC.pure]))) | ((try simp only [List.map_cons, List.map_nil, av_ren_gr]); simp [AV.ren, AV.ren1, AC.ren, renP, pickS]; first | done | omega) | (simp only [List.forall_mem_cons, List.not_mem_nil, false_implies, implies_true, and_true]; (repeat' apply And.intro) <;> first | trivial | exact grV_ok (by simp) _ | exact okN_grO (fun x => by simp [go_sem, AC.pure]) | exact okN_map (fun x => by simp [go_sem, AC.pure]) | (simp [AV.ok, AV.ok1, AC.ok]; done) | (simp [AV.ok, AV.ok1, AC.ok]; omega) | (simp [AObj.okN, AC.ok]; done)) | (simp [AObj.okN]; done))
                · exfalso; rw [hg, hd] at c; simp at c
            · rw [if_pos htg, ite_self] at hnx
              simp (disch := first | omega | (simp only [go_sem]; first | done | omega)) only [go_sem, hlt, ← hx]
              repeat' (first | ((first | refine acond_d ?_ ?_ | refine acond_b ?_ ?_ | refine ag_d ?_ ?_ | refine ag_n ?_ ?_ | refine ag_bt ?_ ?_ | refine ag_bf ?_ ?_) <;> intro c <;> try simp (disch := first | omega | (simp only [go_sem]; first | done | omega)) only [go_sem, c, htg, hfl, hlt, ← hx]) | ((first | refine w_draw (by kernel_rfl) (by decide +kernel) ?_) <;> try simp (disch := first | omega | (simp only [go_sem]; first | done | omega)) only [go_sem, htg, hfl, hlt, ← hx]))
              refine Next.mk (k + 1) ⟨by omega, by omega⟩ ?_
              rw [hnx]
              ((try simp (disch := first | omega | (simp only [go_sem]; first | done | omega)) only [go_sem]); (refine WkL.pickAt [_, _, _] [0, 1] ?_ ?_ ?_ rfl ?_ ?_ ?_ ?_) <;> first | (simp only [List.map_cons, List.map_nil, av_ren_gr]; (try simp only [AV.ren, AV.ren1, AC.ren, renP]); (try simp only [pickS_add, pickS_zero]); rfl) | (simp only [List.all_cons, List.all_nil, Bool.and_true, Bool.and_eq_true]; (repeat' apply And.intro) <;> first | exact pureO_gr (pureL_map _ (fun x => by simp [go_sem, AC.pure])) | (simp [AObj.pureO, pureL, go_sem, AC.pure]; done)) | assumption | exact HOk.str (by assumption) | (simp; done) | (simp; omega) | (simp [pureO_gr, AObj.pureO, pureL, go_sem, AC.pure]; done) | (simp only [List.all_cons, List.all_nil, Bool.and_true]; exact pureO_gr (pureL_map _ (fun x => by simp [go_sem, AC.pure]))) | ((try simp only [List.map_cons, List.map_nil, av_ren_gr]); simp [AV.ren, AV.ren1, AC.ren, renP, pickS]; first | done | omega) | (simp only [List.forall_mem_cons, List.not_mem_nil, false_implies, implies_true, and_true]; (repeat' apply And.intro) <;> first | trivial | exact grV_ok (by simp) _ | exact okN_grO (fun x => by simp [go_sem, AC.pure]) | exact okN_map (fun x => by simp [go_sem, AC.pure]) | (simp [AV.ok, AV.ok1, AC.ok]; done) | (simp [AV.ok, AV.ok1, AC.ok]; omega) | (simp [AObj.okN, AC.ok]; done)) | (simp [AObj.okN]; done))
          · have hkl : k = l.length := by omega
            subst hkl
            have hln := stP_len l cs tag l.length
            unfold stR at hk
            generalize stP l cs tag l.length = st at *
            obtain ⟨o, f⟩ := st
            dsimp only at hln h12 hk ⊢
            simp (disch := first | omega | (simp only [go_sem]; first | done | omega)) only [go_sem]
            refine sort12Sm_a 150 tC tLt (fun _ => True) (by kernel_rfl) (fun x y _ _ => tC_lt x y) (fun x y H K _ _ hk => stoCmp_a x y hk) o (by first | ((repeat first | exact at0 (by simp) | refine atS ?_); done) | assumption) (fun _ _ => trivial) (by omega) ?_
            simp (disch := first | omega | (simp only [go_sem]; first | done | omega)) only [go_sem]
            have e : grV (H.length + 3) o = grV (H.length + 3) ((isortG tLt o).map encS) := by rw [map_grV]; exact grV_lenA _ _ _ (isortG_len tLt o).symm
            rw [e]
            exact Ret.frzGr2 3 4 (by omega) hH (Nat.le_refl _) rfl rfl (pureL_map _ (fun x => by simp [go_sem, AC.pure])) (pureL_map _ (fun x => by simp [go_sem, AC.pure])) rfl rfl (by rw [map_grV]) hk
    · rw [if_neg hky] at hk
      rw [decide_eq_false hky]
      simp (disch := first | omega | (simp only [go_sem]; first | done | omega)) only [go_sem]
      exact Ret.nil [3, 1, 0] (by simp) (Ret.drop hH (by simp) (show AV.ok _ (.tup [.c (.lst 3 []), .c (.lst 1 []), (.c (.int .i64 _))]) from by simp [AV.ok, AV.ok1, AC.ok]) hk)
  · rw [if_pos he] at hk
    simp (disch := first | omega | (simp only [go_sem]; first | done | omega)) only [go_sem, he]
    exact Ret.nil [3, 1, 0] (by simp) (Ret.drop hH (by simp) (show AV.ok _ (.tup [.c (.lst 3 []), .c (.lst 1 []), (.c (.int .i64 _))]) from by simp [AV.ok, AV.ok1, AC.ok]) hk)
end Go.Proofs.YtnodfnjmhcjnfaaGreatDoor
