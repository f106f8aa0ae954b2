/- What is left of a series: the program. Condition: few holds, numbers as those of levels. -/
import Derived.Test.YtkmkkjlfnobciaaGreatVPurgeC
import Derived.Test.YtkmkkjlfnobciaaGreatVDraw
namespace Go.Proofs.YtkmkkjlfnobciaaGreat
open Go Go.RowKit
set_option maxRecDepth 100000
set_option linter.all false
set_option maxHeartbeats 1000000
variable {H : Hp} {K : AV → Hp → Prop}
def encB (b : List Bin) : List AC := [.lst 6 (b.map encN)]
attribute [go_sem] encB
theorem pureL_encB (l : List (List Bin)) : pureL (l.map encB) = true := by simp [pureL, encB, AC.pure]
/-- two slices handed back, the second grew -/
theorem Ret.frzGrT2 {P G : Hp} {n ty sz : Nat} {l : List (List AC)} {x y : AC} {ts : List AV} (j : Nat) (hA : HOk P) (hn : n ≤ P.length) (hj : G[j]? = some (grO ty sz l)) (hp : pureL l = true) (ht : tailOk ts = true) (hy : ∃ a b, y = .lst a b) (hx : x = grV (P.length + j) l) (hk : K (.tup (.c y :: .c (.lst sz l) :: ts)) P) : Ret n (.tup (.c y :: .c x :: ts)) (P ++ G) K := by
  subst hx
  obtain ⟨a, b, rfl⟩ := hy
  have ho : (AV.tup (.c (.lst a b) :: .c (.lst sz l) :: ts)).ok P.length := by
    intro y hy
    rcases List.mem_cons.1 hy with rfl | hy
    · trivial
    rcases List.mem_cons.1 hy with rfl | hy
    · trivial
    · exact tail_ok1 _ ht y hy
  cases l with
  | nil =>
    refine Ret.nil [0, sz] (by simp; omega) ?_
    have e : (AV.tup (.c (.lst a b) :: .c (grV (P.length + j) ([] : List (List AC))) :: ts)).nilz [0, sz] = .tup (.c (.lst a b) :: .c (.lst sz []) :: ts) := by
      simp [AV.nilz, AV.nilz.go, grV, AC.nilz]
    rw [e]
    exact Ret.drop hA hn ho hk
  | cons z zs =>
    refine Ret.frzAt j hA hn hk hj hp ho ?_
    simp only [AV.frz, List.map_cons, tail_frz ht]
    simp [AV.frz1, AC.frz, grV]
theorem Ret.nilT2 {P G : Hp} {n sz sz2 : Nat} {ts : List AV} (hA : HOk P) (hn : n ≤ P.length) (ht : tailOk ts = true) (hk : K (.tup (.c (.lst sz []) :: .c (.lst sz2 []) :: ts)) P) : Ret n (.tup (.c (.sl none 0) :: .c (.sl none 0) :: ts)) (P ++ G) K := by
  refine Ret.nil [sz, sz2] (by simp; omega) ?_
  have e : (AV.tup (.c (.sl none 0) :: .c (.sl none 0) :: ts)).nilz [sz, sz2] = .tup (.c (.lst sz []) :: .c (.lst sz2 []) :: ts) := by simp [AV.nilz, AV.nilz.go, AC.nilz]
  rw [e]
  refine Ret.drop hA hn ?_ hk
  intro y hy
  rcases List.mem_cons.1 hy with rfl | hy
  · trivial
  rcases List.mem_cons.1 hy with rfl | hy
  · trivial
  · exact tail_ok1 _ ht y hy
def upTo (s : List Smp) (t : Int) : List Smp := s.filter (fun x => !decide (t < x.t))
def leftF (kp : Int → Bool) (s : List Smp) : List Smp := s.filter (fun x => kp x.t)
def binsLeft (kp : Int → Bool) (step : Int) (s : List Smp) : List Bin := (binsF step s).filter (fun b => kp b.a)
def purgeE (l : List Level) (h : List Hold) (tag : ByteArray) (s : List Smp) (t : Int) : Int := firstE [firstE [lvF l, hdF h, tagE tag], serF s, if 0 ≤ t ∧ t ≤ 345686399999 then 0 else 1]
def purgeS (kp : Level → Int → Bool) (l : List Level) (s : List Smp) (t : Int) : List Smp := leftF (kp (l.headD ⟨0, 0⟩)) (upTo s t)
def purgeB (kp : Level → Int → Bool) (l : List Level) (s : List Smp) (t : Int) : List (List Bin) := l.tail.map fun x => binsLeft (kp x) x.step (upTo s t)
def restF (kp : Level → Int → Bool) (ls : List Level) (U : List Smp) : List (List Bin) := ls.map fun x => binsLeft (kp x) x.step U
theorem restF_len (kp : Level → Int → Bool) (ls : List Level) (U : List Smp) : (restF kp ls U).length = ls.length := by simp [restF]
theorem restF_next (kp : Level → Int → Bool) (ls : List Level) (U : List Smp) {k : Nat} (h : k < ls.length) : restF kp (ls.take (k + 1)) U = restF kp (ls.take k) U ++ [binsLeft (kp ls[k]) ls[k].step U] := by
  rw [List.take_succ_eq_append_getElem h, restF, List.map_append]; rfl
def purgeRes (l : List Level) (h : List Hold) (tag : ByteArray) (s : List Smp) (t : Int) : List Smp × List (List Bin) × Int :=
  if purgeE l h tag s t ≠ 0 then ([], [], purgeE l h tag s t) else (purgeS (fun x m => keepB x (ofF h tag) m t) l s t, purgeB (fun x m => keepB x (ofF h tag) m t) l s t, 0)
theorem lvF_step {x0 : Level} {ls : List Level} (h : lvF (x0 :: ls) = 0) : ∀ x ∈ ls, 1 ≤ x.step ∧ x.step ≤ 86400000 := by
  intro x hx
  have h1 : errGo lvErr 0 ⟨0, 0⟩ (x0 :: ls) = 0 := by
    unfold lvF at h
    split at h
    · cases h
    · split at h
      · cases h
      · exact h
  obtain ⟨k, hk, rfl⟩ := List.getElem_of_mem hx
  have h2 := errGo_pair lvErr _ _ h1 (k + 1) (by simpa using hk)
  rw [List.getElem_cons_succ] at h2
  generalize prv (⟨0, 0⟩ : Level) (x0 :: ls) (k + 1) = p at h2
  unfold lvErr at h2
  split at h2
  · cases h2
  · rename_i g1
    split at h2
    · cases h2
    · rename_i g2
      have g3 : ls[k].step ≠ 0 := fun e => g2 (.inr ⟨by omega, e⟩)
      have g4 : isStep ls[k].step := Classical.byContradiction fun e => g1 (.inl ⟨g3, e⟩)
      exact ⟨g4.1, g4.2.1⟩
theorem filter_incS {l : List Smp} (h : incS l) (p : Smp → Bool) : incS (l.filter p) := by
  have h1 : l.Pairwise (fun x y => x.t < y.t) := List.pairwise_iff_getElem.2 fun i j hi hj hij => h i j hj hij
  have h2 := h1.filter p
  intro i j hj hij
  exact List.pairwise_iff_getElem.1 h2 i j (by omega) hj hij
theorem binOf_a (step : Int) (x : Smp) : (binOf step x).a = x.t / step * step := by unfold binOf; split <;> rfl
theorem binsF_a (step : Int) (lo hi : Int) : ∀ (l : List Smp) (r : List Bin), (∀ x ∈ l, lo ≤ x.t / step * step ∧ x.t / step * step ≤ hi) → (∀ b ∈ r, lo ≤ b.a ∧ b.a ≤ hi) → ∀ b ∈ l.foldl (fun r x => putB r (binOf step x)) r, lo ≤ b.a ∧ b.a ≤ hi
  | [], r, _, hr => hr
  | x :: l, r, hl, hr => by
    rw [List.foldl_cons]
    refine binsF_a step lo hi l _ (fun y hy => hl y (by simp [hy])) ?_
    have hx := hl x (by simp)
    rw [← binOf_a] at hx
    intro b hb
    unfold putB at hb
    split at hb
    · simp at hb; subst hb; exact hx
    · rename_i z hz
      have hz2 := hr z (List.mem_of_getLast? hz)
      split at hb
      · rcases List.mem_append.1 hb with h | h
        · exact hr b (List.dropLast_subset _ h)
        · simp at h; subst h; exact hz2
      · rcases List.mem_append.1 hb with h | h
        · exact hr b h
        · simp at h; subst h; exact hx
theorem purge_a (l : List Level) (h : List Hold) (tag : ByteArray) (s : List Smp) (t : Int) (hl : l.length ≤ 1000) (hlen : h.length ≤ 12) (hs : ∀ x ∈ h, x.short) (hn : ∀ y ∈ h, y.near) (ht : tag.size ≤ 1000) (hsl : s.length ≤ 1099511627776)
    (hk : K (.tup [.c (.lst 3 ((purgeRes l h tag s t).1.map encS)), .c (.lst 1 ((purgeRes l h tag s t).2.1.map encB)), (.c (.int .i64 ((purgeRes l h tag s t).2.2)))]) H) : ACalls Tryz.prog 13 [.c (.lst 2 (l.map encL)), .c (.lst 6 (h.map encH)), (.c (.str tag)), .c (.lst 3 (s.map encS)), (.c (.int .i64 t))] H K := by
  refine acalls Tryz.func13 rfl (by kernel_rfl) (by simp (disch := first | omega | (simp only [go_sem]; first | done | omega)) only [go_sem]) (fun hH => ?_)
  simp (disch := first | omega | (simp only [go_sem]; first | done | omega)) only [go_sem]
  refine fault_a l h tag hl (by omega) hs ht ?_
  simp (disch := first | omega | (simp only [go_sem]; first | done | omega)) only [go_sem]
  refine checkSeries_a s (by omega) ?_
  simp (disch := first | omega | (simp only [go_sem]; first | done | omega)) only [go_sem]
  refine first2_lit (firstE [lvF l, hdF h, tagE tag]) (serF s) (by first | exact at0 (by simp) | exact at1 (by simp) | exact at2 (by simp) | exact at3 (by simp) | exact at4 (by simp) | exact at5 (by simp) | exact atG 6 (by simp) rfl | exact atG 7 (by simp) rfl | exact atG 8 (by simp) rfl | exact atG 9 (by simp) rfl | exact atG 10 (by simp) rfl | assumption) rfl rfl ?_
  simp (disch := first | omega | (simp only [go_sem]; first | done | omega)) only [go_sem]
  refine acond_d (fun c => ?_) (fun c => ?_)
  rotate_left
  · have e : purgeE l h tag s t = firstE [firstE [lvF l, hdF h, tagE tag], serF s] := by
      unfold purgeE
      generalize firstE [lvF l, hdF h, tagE tag] = a at *
      generalize serF s = b at *
      simp only [firstE] at c ⊢
      grind
    rw [show purgeRes l h tag s t = ([], [], purgeE l h tag s t) by unfold purgeRes; rw [if_pos (by rw [e]; exact c)], e] at hk
    simp (disch := first | omega | (simp only [go_sem]; first | done | omega)) only [go_sem]
    exact Ret.nilT2 hH (Nat.le_refl _) rfl hk
  obtain ⟨c1, c2⟩ := firstE_two c
  obtain ⟨c3, c4, c5⟩ := firstE_three c1
  simp (disch := first | omega | (simp only [go_sem]; first | done | omega)) only [go_sem]
  refine moment_a _ _ _ ?_
  simp (disch := first | omega | (simp only [go_sem]; first | done | omega)) only [go_sem]
  refine acond_b (fun c6 => ?_) (fun c6 => ?_)
  rotate_left
  · have e : purgeE l h tag s t = 1 := by
      unfold purgeE
      rw [c1, c2, if_neg (by simpa using c6)]
      rfl
    rw [show purgeRes l h tag s t = ([], [], purgeE l h tag s t) by unfold purgeRes; rw [if_pos (by rw [e]; decide)], e] at hk
    simp (disch := first | omega | (simp only [go_sem]; first | done | omega)) only [go_sem]
    exact Ret.nilT2 hH (Nat.le_refl _) rfl hk
  have c7 : 0 ≤ t ∧ t ≤ 345686399999 := by simpa using c6
  have e : purgeE l h tag s t = 0 := by
    unfold purgeE
    rw [c1, c2, if_pos c7]
    rfl
  rw [show purgeRes l h tag s t = (purgeS (fun x m => keepB x (ofF h tag) m t) l s t, purgeB (fun x m => keepB x (ofF h tag) m t) l s t, 0) by unfold purgeRes; rw [if_neg (by rw [e]; decide)]] at hk
  obtain ⟨hx, h6, h0⟩ := lvF_ok c3
  obtain ⟨s1, s2⟩ := serF_ok c2
  have hol := ofF_len h tag
  have hon : ∀ y ∈ ofF h tag, y.near := fun y hy => hn y (List.mem_filter.1 hy).1
  simp (disch := first | omega | (simp only [go_sem]; first | done | omega)) only [go_sem]
  refine of_a h tag (by omega) ?_
  simp (disch := first | omega | (simp only [go_sem]; first | done | omega)) only [go_sem]
  refine cloneS_a s (by omega) ?_
  obtain ⟨x0, ls, rfl⟩ : ∃ x0 ls, l = x0 :: ls := by
    cases l with
    | nil => simp at h0
    | cons x xs => exact ⟨x, xs, rfl⟩
  have hst := lvF_step c3
  simp (disch := first | omega | (simp only [go_sem]; first | done | omega)) only [go_sem]
  refine deleteClS_a 64 [(H.length + 2, 0, 0)] (fun x => decide (t < x.t)) (by kernel_rfl) (by intro a b c hm; simp at hm; (try simp); omega) (by intro a b c hm; simp at hm; (try simp); omega) s (by first | exact at0 (by simp) | exact at1 (by simp) | exact at2 (by simp) | exact at3 (by simp) | exact at4 (by simp) | exact at5 (by simp) | exact atG 6 (by simp) rfl | exact atG 7 (by simp) rfl | exact atG 8 (by simp) rfl | exact atG 9 (by simp) rfl | exact atG 10 (by simp) rfl | assumption) (fun G x K hG _ hK => purge1_a x t ((hG _ _ _ (List.Mem.head _)).trans (by first | exact at0 (by simp) | exact at1 (by simp) | exact at2 (by simp) | exact at3 (by simp) | exact at4 (by simp) | exact at5 (by simp) | exact atG 6 (by simp) rfl | exact atG 7 (by simp) rfl | exact atG 8 (by simp) rfl | exact atG 9 (by simp) rfl | exact atG 10 (by simp) rfl | assumption)) hK) (by omega) ?_
  obtain ⟨U, hU⟩ : ∃ U, U = upTo s t := ⟨_, rfl⟩
  have hUl : U.length ≤ s.length := by rw [hU]; exact List.length_filter_le _ _
  have hUs : ∀ x ∈ U, 0 ≤ x.t ∧ x.t ≤ 345686399999 ∧ -1000000 ≤ x.v ∧ x.v ≤ 1000000 := fun x hx => by
    rw [hU] at hx
    have := smp_ok (s2 x (List.mem_filter.1 hx).1)
    omega
  rw [show s.filter (fun x => !decide (t < x.t)) = U from hU.symm]
  generalize hkp : (fun (x : Level) (m : Int) => keepB x (ofF h tag) m t) = kp at *
  simp (disch := first | omega | (simp only [go_sem]; first | done | omega)) only [go_sem]
  refine AWp.loop (H.length + 3) [3, 5, 6, 9, 41, 42] [43, 14] (fun (k : Nat) => k ≤ ls.length) (fun (k : Nat) => [(43, (.c (.int .i64 k))), (14, .c (grV (H.length + 4) (restF kp (ls.take k) U)))]) (fun (k : Nat) => H ++ [.row 26 1 [[.lst 2 (encL x0 :: ls.map encL)]] true, .row 28 1 [[.lst 6 ((ofF h tag).map encH)]] true, .row 3 1 [[.int .i64 t]] true, .dead, grO 59 1 ((restF kp (ls.take k) U).map encB)]) (fun (k : Nat) => ls.length - k) (by kernel_rfl) (fun _ => rfl) (by kernel_rfl) (by simp) (by first | (simp; done) | (simp; omega)) (by (try simp only [List.forall_mem_cons, List.not_mem_nil, false_implies, implies_true, and_true]); (try simp (disch := first | omega | (simp only [go_sem]; first | done | omega)) only [go_sem]); first | trivial | (simp [AV.ok, AV.ok1, AC.ok]; done) | (simp [AV.ok, AV.ok1, AC.ok]; omega) | (simp [AV.ok, AV.ok1, AC.ok]; assumption) | ((repeat' apply And.intro) <;> first | trivial | (simp [AV.ok, AV.ok1, AC.ok]; done) | (simp [AV.ok, AV.ok1, AC.ok]; omega) | (simp [AV.ok, AV.ok1, AC.ok]; assumption) | (refine grV_ok ?_ _; first | (simp; done) | (simp; omega) | omega))) ?_ (fun k hkb _ _ => ?_)
  · exact Next.mk 0 (by omega) (by (try simp (disch := first | omega | (simp only [go_sem]; first | done | omega)) only [go_sem]); (first | refine WkL.eq ?_ ?_ | refine WkL.rest (by assumption) ?_ ?_ ?_ | refine WkL.keepL (by assumption) rfl ?_ ?_ ?_ ?_) <;> first | rfl | (simp; done) | (simp; omega) | (simp only [List.cons.injEq, AV.c.injEq, AC.int.injEq, AC.bool.injEq, AC.str.injEq, and_true, true_and, Int.natCast_add, Int.natCast_one, Int.cast_ofNat_Int]; omega) | (simp [AV.ok, AV.ok1, AC.ok]; done) | (simp [AV.ok, AV.ok1, AC.ok]; omega) | (simp only [List.forall_mem_cons, List.not_mem_nil, false_implies, implies_true, and_true]; (repeat' apply And.intro) <;> first | exact okN_map (fun x => by simp [go_sem, AC.pure]) | exact okN_grO (fun x => by simp [go_sem, AC.pure]) | (simp [AObj.okN, AC.ok]; done) | (simp [AObj.okN, AC.ok]; omega)) | (simp [*]; done) | grind)
  have htk : (restF kp (ls.take k) U).length ≤ ls.length := by rw [restF_len, List.length_take]; omega
  have h6' : ls.length ≤ 5 := by simpa using h6
  by_cases hlt : k < ls.length
  · have hxk := hx ls[k] (by simp)
    obtain ⟨g1, g2⟩ := hst ls[k] (List.getElem_mem hlt)
    have hbl := binsF_len ls[k].step U
    have hnx := restF_next kp ls U hlt
    have hba : ∀ b ∈ binsF ls[k].step U, 0 ≤ b.a ∧ b.a ≤ 400000000000 := binsF_a _ _ _ U [] (fun x hx => by
      have := hUs x hx
      have t0 : 0 ≤ x.t / ls[k].step := Int.ediv_nonneg (by omega) (by omega)
      have t1 : x.t / ls[k].step * ls[k].step ≤ x.t := Int.ediv_mul_le _ (by omega)
      have t2 : 0 ≤ x.t / ls[k].step * ls[k].step := Int.mul_nonneg t0 (by omega)
      omega) (by simp)
    simp (disch := first | omega | (simp only [go_sem]; first | done | omega)) only [go_sem]
    refine bins_o U ls[k].step (by omega) g1 g2 hUs ?_
    simp (disch := first | omega | (simp only [go_sem]; first | done | omega)) only [go_sem]
    refine deleteGrN_a 67 [(H.length + 5, 0, 0), (H.length + 1, 0, 0), (H.length + 2, 0, 0)] (fun b => !kp ls[k] b.a) (by kernel_rfl) (by intro a b c hm; simp at hm; (try simp); omega) (by intro a b c hm; simp at hm; (try simp); omega) (binsF ls[k].step U) (by first | exact at0 (by simp) | exact at1 (by simp) | exact at2 (by simp) | exact at3 (by simp) | exact at4 (by simp) | exact at5 (by simp) | exact atG 6 (by simp) rfl | exact atG 7 (by simp) rfl | exact atG 8 (by simp) rfl | exact atG 9 (by simp) rfl | exact atG 10 (by simp) rfl | assumption) (fun G b K hG hb hK => purge2_a ls[k] (ofF h tag) t b ((hG _ _ _ (List.Mem.head _)).trans (by first | exact at0 (by simp) | exact at1 (by simp) | exact at2 (by simp) | exact at3 (by simp) | exact at4 (by simp) | exact at5 (by simp) | exact atG 6 (by simp) rfl | exact atG 7 (by simp) rfl | exact atG 8 (by simp) rfl | exact atG 9 (by simp) rfl | exact atG 10 (by simp) rfl | assumption)) ((hG _ _ _ (List.Mem.tail _ (List.Mem.head _))).trans (by first | exact at0 (by simp) | exact at1 (by simp) | exact at2 (by simp) | exact at3 (by simp) | exact at4 (by simp) | exact at5 (by simp) | exact atG 6 (by simp) rfl | exact atG 7 (by simp) rfl | exact atG 8 (by simp) rfl | exact atG 9 (by simp) rfl | exact atG 10 (by simp) rfl | assumption)) ((hG _ _ _ (List.Mem.tail _ (List.Mem.tail _ (List.Mem.head _)))).trans (by first | exact at0 (by simp) | exact at1 (by simp) | exact at2 (by simp) | exact at3 (by simp) | exact at4 (by simp) | exact at5 (by simp) | exact atG 6 (by simp) rfl | exact atG 7 (by simp) rfl | exact atG 8 (by simp) rfl | exact atG 9 (by simp) rfl | exact atG 10 (by simp) rfl | assumption)) hxk (by omega) hon (hba b hb).1 (hba b hb).2 (by subst hkp; exact hK)) (by omega) ?_
    simp (disch := first | omega | (simp only [go_sem]; first | done | omega)) only [go_sem]
    (refine app_gr (enc := encB) (e := 59) (sz := 1) (bs := 24) (z := [.sl none 0]) (_) (binsLeft (kp ls[k]) ls[k].step U) (by kernel_rfl) (by kernel_rfl) (by kernel_rfl) (by kernel_rfl) (by first | exact at0 (by simp) | exact at1 (by simp) | exact at2 (by simp) | exact at3 (by simp) | exact at4 (by simp) | exact at5 (by simp) | exact atG 6 (by simp) rfl | exact atG 7 (by simp) rfl | exact atG 8 (by simp) rfl | exact atG 9 (by simp) rfl | exact atG 10 (by simp) rfl | assumption) (by first | (simp (disch := first | omega | (simp only [go_sem]; first | done | omega)) only [go_sem]; done) | (simp (disch := first | omega | (simp only [go_sem]; first | done | omega)) only [go_sem]; rfl) | (simp (disch := first | omega | (simp only [go_sem]; first | done | omega)) only [go_sem]; simp [go_sem]; done) | (simp (disch := first | omega | (simp only [go_sem]; first | done | omega)) only [go_sem]; simp [*]; done)) rfl (by decide) (by omega) (by omega) (by rfl) ?_)
    simp (disch := first | omega | (simp only [go_sem]; first | done | omega)) only [go_sem]
    exact Next.mk (k + 1) ⟨by omega, by omega⟩ (by rw [hnx]; ((try simp (disch := first | omega | (simp only [go_sem]; first | done | omega)) only [go_sem]); (first | refine WkL.pickAt [_, _, _, _] [0] ?_ ?_ ?_ rfl ?_ ?_ ?_ ?_ | refine WkL.pickAt [_, _, _, _] [1] ?_ ?_ ?_ rfl ?_ ?_ ?_ ?_ | refine WkL.pickAt [_, _, _, _] [2] ?_ ?_ ?_ rfl ?_ ?_ ?_ ?_ | refine WkL.pickAt [_, _, _, _] [3] ?_ ?_ ?_ rfl ?_ ?_ ?_ ?_ | refine WkL.pickAt [_, _, _, _] [4] ?_ ?_ ?_ rfl ?_ ?_ ?_ ?_ | refine WkL.pickAt [_, _, _, _] [5] ?_ ?_ ?_ rfl ?_ ?_ ?_ ?_ | refine WkL.pickAt [_, _, _, _] [6] ?_ ?_ ?_ rfl ?_ ?_ ?_ ?_ | refine WkL.pickAt [_, _, _, _] [7] ?_ ?_ ?_ rfl ?_ ?_ ?_ ?_ | refine WkL.pickAt [_, _, _, _] [8] ?_ ?_ ?_ rfl ?_ ?_ ?_ ?_ | refine WkL.pickAt [_, _, _, _] [9] ?_ ?_ ?_ rfl ?_ ?_ ?_ ?_ | refine WkL.pickAt [_, _, _, _] [10] ?_ ?_ ?_ rfl ?_ ?_ ?_ ?_ | refine WkL.pickAt [_, _, _, _] [11] ?_ ?_ ?_ rfl ?_ ?_ ?_ ?_ | refine WkL.pickAt [_, _, _, _] [12] ?_ ?_ ?_ rfl ?_ ?_ ?_ ?_ | refine WkL.pickAt [_, _, _, _] [13] ?_ ?_ ?_ rfl ?_ ?_ ?_ ?_ | refine WkL.pickAt [_, _, _, _] [14] ?_ ?_ ?_ rfl ?_ ?_ ?_ ?_ | refine WkL.pickAt [_, _, _, _] [15] ?_ ?_ ?_ rfl ?_ ?_ ?_ ?_ | refine WkL.pickAt [_, _, _, _] [16] ?_ ?_ ?_ rfl ?_ ?_ ?_ ?_ | refine WkL.pickAt [_, _, _, _] [17] ?_ ?_ ?_ rfl ?_ ?_ ?_ ?_) <;> first | assumption | exact HOk.str (by assumption) | (simp; done) | (simp; omega) | (simp [pureO_gr, AObj.pureO, pureL, go_sem, AC.pure]; done) | (simp only [List.all_cons, List.all_nil, Bool.and_true]; exact pureO_gr (pureL_map _ (fun x => by simp [go_sem, AC.pure]))) | ((try simp only [List.map_cons, List.map_nil, av_ren_gr]); simp [AV.ren, AV.ren1, AC.ren, pickS]; first | done | omega) | (simp only [List.forall_mem_cons, List.not_mem_nil, false_implies, implies_true, and_true]; (repeat' apply And.intro) <;> first | trivial | exact grV_ok (by simp) _ | exact okN_grO (fun x => by simp [go_sem, AC.pure]) | exact okN_map (fun x => by simp [go_sem, AC.pure]) | (simp [AV.ok, AV.ok1, AC.ok]; done) | (simp [AV.ok, AV.ok1, AC.ok]; omega) | (simp [AObj.okN, AC.ok]; done)) | (simp [AObj.okN]; done)))
  · have hke : k = ls.length := by omega
    subst hke
    rw [List.take_length]
    simp (disch := first | omega | (simp only [go_sem]; first | done | omega)) only [go_sem]
    refine cloneS_a U (by omega) ?_
    simp (disch := first | omega | (simp only [go_sem]; first | done | omega)) only [go_sem]
    refine deleteClS_a 68 [(H.length, 0, 0), (H.length + 1, 0, 0), (H.length + 2, 0, 0)] (fun x => !kp x0 x.t) (by kernel_rfl) (by intro a b c hm; simp at hm; (try simp); omega) (by intro a b c hm; simp at hm; (try simp); omega) U (by first | exact at0 (by simp) | exact at1 (by simp) | exact at2 (by simp) | exact at3 (by simp) | exact at4 (by simp) | exact at5 (by simp) | exact atG 6 (by simp) rfl | exact atG 7 (by simp) rfl | exact atG 8 (by simp) rfl | exact atG 9 (by simp) rfl | exact atG 10 (by simp) rfl | assumption) (fun G x K hG hx1 hK => purge3_a x0 (ls.map encL) (ofF h tag) t x ((hG _ _ _ (List.Mem.head _)).trans (by first | exact at0 (by simp) | exact at1 (by simp) | exact at2 (by simp) | exact at3 (by simp) | exact at4 (by simp) | exact at5 (by simp) | exact atG 6 (by simp) rfl | exact atG 7 (by simp) rfl | exact atG 8 (by simp) rfl | exact atG 9 (by simp) rfl | exact atG 10 (by simp) rfl | assumption)) ((hG _ _ _ (List.Mem.tail _ (List.Mem.head _))).trans (by first | exact at0 (by simp) | exact at1 (by simp) | exact at2 (by simp) | exact at3 (by simp) | exact at4 (by simp) | exact at5 (by simp) | exact atG 6 (by simp) rfl | exact atG 7 (by simp) rfl | exact atG 8 (by simp) rfl | exact atG 9 (by simp) rfl | exact atG 10 (by simp) rfl | assumption)) ((hG _ _ _ (List.Mem.tail _ (List.Mem.tail _ (List.Mem.head _)))).trans (by first | exact at0 (by simp) | exact at1 (by simp) | exact at2 (by simp) | exact at3 (by simp) | exact at4 (by simp) | exact at5 (by simp) | exact atG 6 (by simp) rfl | exact atG 7 (by simp) rfl | exact atG 8 (by simp) rfl | exact atG 9 (by simp) rfl | exact atG 10 (by simp) rfl | assumption)) (hx x0 (by simp)) (by omega) hon (hUs x hx1).1 (by have := hUs x hx1; omega) (by subst hkp; exact hK)) (by omega) ?_
    simp (disch := first | omega | (simp only [go_sem]; first | done | omega)) only [go_sem]
    exact Ret.frzGrT2 4 hH (Nat.le_refl _) rfl (pureL_encB _) rfl ⟨_, _, rfl⟩ (map_grV _ _ _).symm (by subst hU; exact hk)
end Go.Proofs.YtkmkkjlfnobciaaGreat
