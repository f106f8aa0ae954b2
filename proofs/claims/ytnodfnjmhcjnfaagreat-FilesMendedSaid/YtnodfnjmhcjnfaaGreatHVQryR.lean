/- The document's query: from the last block on, each moment once, in order. Condition: moments are not huge. -/
import Derived.Test.YtnodfnjmhcjnfaaGreatHVBlkA
import Derived.Test.YtnodfnjmhcjnfaaGreatHVBackP
namespace Go.Proofs.YtnodfnjmhcjnfaaGreat
open Go Go.RowKit Go.Shelf
set_option maxRecDepth 100000
set_option linter.all false
set_option maxHeartbeats 4000000
variable {H : Hp} {K : AV → Hp → Prop}
def ByS (g : FuncId) : Prop := (∀ args w, (callFunc g args).run Tryz.prog w = .ok (.enter g args) w) ∧ ∀ (x y : Smp) (W : World), smOk x → smOk y → Calls Tryz.prog g #[.agg (encV encS x).toArray, .agg (encV encS y).toArray] W fun e w' => e = .returned (.int .i64 (if x.t - y.t < 0 then -1 else if 0 < x.t - y.t then 1 else 0)) ∧ ∃ q os', w' = Go.Sort.grow (W.drewN q) os'
theorem signQ (n : Int) (W : World) : Calls Tryz.prog 70 #[.int .i64 n] W fun e w' => e = .returned (.int .i64 (if n < 0 then -1 else if 0 < n then 1 else 0)) ∧ w' = W := by
  rcases Int.lt_trichotomy n 0 with h | h | h
  · rw [if_pos h]
    go_enter Tryz.func70, Tryz.ntmps70
    go_wp2
    go_ret
    exact ⟨rfl, rfl⟩
  · subst h
    rw [if_neg (by omega), if_neg (by omega)]
    go_enter Tryz.func70, Tryz.ntmps70
    go_wp2
    go_ret
    exact ⟨rfl, rfl⟩
  · have h2 : ¬ n < 0 := by omega
    rw [if_neg h2, if_pos h]
    go_enter Tryz.func70, Tryz.ntmps70
    go_wp2
    go_ret
    exact ⟨rfl, rfl⟩
theorem qofSubW : ByS 69 := by
  refine ⟨fun args w => enters_of Tryz.func69 (by kernel_rfl) rfl args w, fun x y W hx hy => ?_⟩
  have w1 := wrapT hx hy
  show Calls _ _ #[.agg #[.int .i64 x.t, .int .i64 x.v, .int .i64 x.q], .agg #[.int .i64 y.t, .int .i64 y.v, .int .i64 y.q]] _ _
  have sg := signQ (x.t - y.t)
  generalize (if x.t - y.t < 0 then (-1 : Int) else if 0 < x.t - y.t then 1 else 0) = r at *
  go_enter Tryz.func69, Tryz.ntmps69
  go_wp2_with (go_at_call 70; refine (sg _).mono ?_; rintro e w' ⟨rfl, rfl⟩)
  go_ret
  exact ⟨rfl, 0, _, alloc2T _ _ _⟩
theorem swoSg : Go.Sort.SWO (ltOf fun x y : {x // smOk x} => if x.1.t - y.1.t < 0 then (-1 : Int) else if 0 < x.1.t - y.1.t then 1 else 0) where
  irrefl := fun x => by unfold ltOf; simp
  trans := fun x y z h1 h2 => by unfold ltOf at *; simp only [decide_eq_true_eq] at *; grind
  ntrans := fun x y z h1 h2 => by unfold ltOf at *; simp only [decide_eq_false_iff_not] at *; grind
theorem sortS2_a {g : FuncId} (hg : ByS g) {i : Nat} (l : List Smp) (hi : H[i]? = some (grO 52 3 (l.map encS))) (hP : ∀ x ∈ l, smOk x) (hlen : l.length ≤ 1000000)
    (hk : ∀ l' : List Smp, l'.Perm l → l'.Pairwise (fun x y => ¬ y.t < x.t) → K (.tup []) (H.set i (grO 52 3 (l'.map encS)))) :
    ACalls Tryz.prog 58 [.c (grV i l), .c (.fn g [] [])] H K := by
  by_cases h : l = []
  · subst h
    have this : K (.tup []) (H.set i .dead) := hk [] (List.Perm.refl _) List.Pairwise.nil
    rw [set_same (o := .dead) hi] at this
    exact sortNilT_a this
  · have h2 : l.map encS ≠ [] := by simpa using h
    rw [grO_pos _ _ h2] at hi
    rw [grV_pos _ h]
    refine sortP_a sfLaySm (fun w => by kernel_rfl) (fun w => by kernel_rfl) encS_flat (by omega) smOk (fun x y => if x.t - y.t < 0 then (-1 : Int) else if 0 < x.t - y.t then 1 else 0) swoSg hg.1 hg.2 l hi rfl h hP hlen (fun l' h3 h4 => ?_)
    have h5 : l' ≠ [] := by
      intro e
      subst e
      exact h (List.perm_nil.1 h3.symm)
    have := hk l' h3 (h4.imp fun h => by grind)
    rwa [grO_pos _ _ (by simpa using h5)] at this
def eH (y : Smp) : AV × AV := (.c (.int .i64 y.t), .c (.bool true))
theorem get_H {P : Program} {kt : TypeId} (t : Int) (l : List Smp) (ht : keyT P kt (.c (.int .i64 t)) = true) : mapGet P kt (.c (.int .i64 t)) (some (.c (.bool false))) (l.map eH) = some (.c (.bool (l.any fun z => decide (t = z.t))), l.any fun z => decide (t = z.t)) := by
  rw [get_of (e := eH) (p := fun z : Smp => decide (t = z.t)) ht (findA_int .i64 t (fun z : Smp => z.t) (fun _ : Smp => .c (.bool true)) l), ← find_any]
  cases l.find? (fun z => decide (t = z.t)) <;> rfl
theorem put_H {P : Program} {kt : TypeId} (y : Smp) (l : List Smp) (ht : keyT P kt (.c (.int .i64 y.t)) = true) (h : (l.any fun z => decide (y.t = z.t)) = false) : mapPut P kt (.c (.int .i64 y.t)) (.c (.bool true)) (l.map eH) = some ((l ++ [y]).map eH) := by
  have h1 := put_of (P := P) (e := eH) (p := fun z : Smp => decide (y.t = z.t)) (x := y) (l := l) ht (findA_int .i64 y.t (fun z : Smp => z.t) (fun _ : Smp => .c (.bool true)) l) rfl
  have h2 : upsert (fun z : Smp => decide (y.t = z.t)) y l = l ++ [y] := by
    unfold upsert
    rw [List.findIdx?_eq_none_iff.2 (fun z hz => by simpa using List.any_eq_false.1 h z hz)]
  rw [h2] at h1
  exact h1
theorem eH_okN (l : List Smp) (n : Nat) : (mpO (l.map eH)).okN n := by
  intro p hp
  obtain ⟨x, _, rfl⟩ := List.mem_map.1 hp
  exact ⟨trivial, trivial⟩
attribute [simp] eH_okN
theorem backwardP_a (ps : List Pc)
    (hk : K (.c (.fn 88 [] [(H.length, 0, 0)])) (H ++ [.row 71 1 [[.lst 8 (ps.map encPc)]] false])) :
    ACalls Tryz.prog 68 [.c (.lst 8 (ps.map encPc))] H K := by
  refine acalls Tryz.func68 rfl (by kernel_rfl) (by simp (disch := first | omega | (simp only [go_sem]; first | done | omega)) only [go_sem]) (fun hH => ?_)
  simp (disch := first | omega | (simp only [go_sem]; first | done | omega)) only [go_sem]
  refine Ret.frz (i := H.length) (by first | ((repeat first | exact at0 (by simp) | refine atS ?_); done) | assumption) (by simp [pureL, AC.pure]) (by simp) ?_
  rw [List.set_append_right _ _ (Nat.le_refl _), Nat.sub_self, List.set_cons_zero]
  exact Ret.same (by simp) hk
theorem ser_ndQ {l : List Smp} (h : serF l = 0) : (l.map (·.t)).Nodup := by
  have h1 := serInc h
  refine (List.pairwise_iff_getElem.2 (fun i j hi hj hij => ?_) : (l.map (·.t)).Pairwise (fun a b => a < b)).imp (fun h e => by omega)
  rw [List.getElem_map, List.getElem_map]
  exact h1 i j (by simpa using hj) hij
def tkQ (ps : List Pc) (tag : ByteArray) (a b : Int) (ks : List Nat) : List Smp := ((ks.map (pcAt ps)).flatMap (flatQ tag a b)).foldl addF []
theorem tkQ_snoc (ps : List Pc) (tag : ByteArray) (a b : Int) (ks : List Nat) (k : Nat) : tkQ ps tag a b (ks ++ [k]) = (flatQ tag a b (pcAt ps k)).foldl addF (tkQ ps tag a b ks) := by
  unfold tkQ
  rw [List.map_append, List.flatMap_append, List.foldl_append]
  simp
theorem tkQ_all (ps : List Pc) (tag : ByteArray) (a b : Int) : tkQ ps tag a b (List.range ps.length) = (ps.reverse.flatMap (flatQ tag a b)).foldl addF [] := by
  unfold tkQ
  have e : (List.range ps.length).map (pcAt ps) = ps.reverse := by
    apply List.ext_getElem
    · simp
    · intro i h1 h2
      rw [List.length_map, List.length_range] at h1
      rw [List.getElem_map, List.getElem_range, List.getElem_reverse]
      unfold pcAt
      rw [List.getD_eq_getElem?_getD, List.getElem?_eq_getElem (by omega)]
      rfl
  rw [e]
theorem obQ_ok {n r i0 : Nat} (tag : ByteArray) (w : Win) (T1 : List Smp) (ps : List Pc) (h2 : i0 < n) (hr : r < n) : ∀ o ∈ [.row 9 1 [[.str tag]] true, .row 66 2 [encW w] true, mpO (T1.map eH), .row 110 1 [[.map (some i0)]] true, .row 30 1 [[grV r T1]] true, .row 71 1 [[.lst 8 (ps.map encPc)]] false], AObj.okN n o := by
  intro o ho
  simp only [List.mem_cons, List.not_mem_nil, or_false] at ho
  rcases ho with rfl | rfl | rfl | rfl | rfl | rfl
  · simp [AObj.okN, AC.ok]
  · exact okN_map (l := [w]) (fun x => by simp [go_sem, AC.pure])
  · exact eH_okN _ _
  · simpa [AObj.okN, AC.ok] using h2
  · have := grV_ok hr T1
    simpa [AObj.okN] using this
  · simp [AObj.okN, AC.ok]
theorem xQ_ok {n : Nat} (x : Pc) : AObj.okN n (.row 80 8 [encPc x] true) := okN_map (l := [x]) (fun x => by simp [encPc, AC.pure])
theorem eH_ren (l : List Smp) (σ : Nat → Nat) : (mpO (l.map eH)).ren σ = mpO (l.map eH) := by
  unfold mpO
  simp only [AObj.ren, List.length_map, List.map_map]
  congr 1
theorem deadR_ren (σ : Nat → Nat) : AObj.dead.ren σ = .dead := rfl
theorem tagR_ren (tag : ByteArray) (σ : Nat → Nat) : (.row 9 1 [[.str tag]] true : AObj).ren σ = .row 9 1 [[.str tag]] true := rfl
theorem winR_ren (w : Win) (σ : Nat → Nat) : (.row 66 2 [encW w] true : AObj).ren σ = .row 66 2 [encW w] true := rfl
theorem xR_ren (x : Pc) (σ : Nat → Nat) : (.row 80 8 [encPc x] true : AObj).ren σ = .row 80 8 [encPc x] true := rfl
theorem backR_ren (ps : List Pc) (σ : Nat → Nat) : (.row 71 1 [[.lst 8 (ps.map encPc)]] false : AObj).ren σ = .row 71 1 [[.lst 8 (ps.map encPc)]] false := rfl
theorem haveR_ren (n : Nat) (σ : Nat → Nat) : (.row 110 1 [[.map (some (n))]] true : AObj).ren σ = .row 110 1 [[.map (some (σ n))]] true := rfl
theorem outR_ren (r : Nat) (T : List Smp) (σ : Nat → Nat) : (.row 30 1 [[grV r T]] true : AObj).ren σ = .row 30 1 [[grV (σ r) T]] true := by cases T <;> rfl
theorem gS_ren (T : List Smp) (σ : Nat → Nat) : (grO 52 3 (T.map encS)).ren σ = grO 52 3 (T.map encS) := grO_ren _ _ _ (pureL_map _ (fun x => by simp [go_sem, AC.pure]))
theorem gQ_ok {n : Nat} (T1 : List Smp) : AObj.okN n (grO 52 3 (T1.map encS)) := okN_grO (fun x => by simp [go_sem, AC.pure])
theorem flatQ_next (tag : ByteArray) (a b : Int) (x : Pc) {i : Nat} (h : i < x.ss.length) : flatQ tag a b ⟨x.b, x.ss.take (i + 1)⟩ = flatQ tag a b ⟨x.b, x.ss.take i⟩ ++ (if x.b.tag = tag ∧ a ≤ x.ss[i].t ∧ x.ss[i].t < b then [x.ss[i]] else []) := by
  unfold flatQ
  dsimp only
  by_cases c : x.b.tag = tag
  · rw [if_pos c, if_pos c, List.take_succ_eq_append_getElem h, List.filter_append]
    congr 1
    by_cases c2 : a ≤ x.ss[i].t ∧ x.ss[i].t < b
    · rw [if_pos ⟨c, c2⟩]; simp [c2]
    · rw [if_neg (fun h => c2 h.2)]; simp [c2]
  · rw [if_neg c, if_neg c, if_neg (fun h => c h.1)]
    rfl
theorem pcAt_rev (ps : List Pc) {n : Nat} (hn : n ≤ ps.length) : (List.range n).map (pcAt ps) = ps.reverse.take n := by
  apply List.ext_getElem
  · simp; omega
  · intro i h1 h2
    rw [List.length_map, List.length_range] at h1
    rw [List.getElem_map, List.getElem_range, List.getElem_take, List.getElem_reverse]
    unfold pcAt
    rw [List.getD_eq_getElem?_getD, List.getElem?_eq_getElem (by omega)]
    rfl
theorem ssL_rev : ∀ ps : List Pc, ssL ps.reverse = ssL ps
  | [] => rfl
  | x :: r => by
    have h1 := ssL_rev r
    rw [List.reverse_cons, ssL_app, h1, ssL_one]
    have : ssL (x :: r) = x.ss.length + ssL r := by unfold ssL; simp
    omega
theorem adds_len : ∀ (l o : List Smp), (l.foldl addF o).length ≤ o.length + l.length
  | [], o => by simp
  | x :: r, o => by
    have h1 := adds_len r (addF o x)
    have h2 : (addF o x).length ≤ o.length + 1 := by unfold addF; split <;> simp
    rw [List.foldl_cons, List.length_cons]
    omega
theorem tkQ_len (ps : List Pc) (tag : ByteArray) (a b : Int) {n : Nat} (hn : n ≤ ps.length) : (tkQ ps tag a b (List.range n)).length ≤ ssL ps := by
  unfold tkQ
  rw [pcAt_rev ps hn]
  have h1 := adds_len ((ps.reverse.take n).flatMap (flatQ tag a b)) []
  have h2 := flatm_len (flatQ tag a b) (fun x : Pc => x.ss) (fun x => flatQ_sub) (ps.reverse.take n)
  have h3 : ssL (ps.reverse.take n) + ssL (ps.reverse.drop n) = ssL ps := by rw [← ssL_app, List.take_append_drop, ssL_rev]
  have h4 : ssL (ps.reverse.take n) = ((ps.reverse.take n).flatMap fun x => x.ss).length := rfl
  simp only [List.length_nil, Nat.zero_add] at h1
  omega
theorem queries_same {ps : List Pc} (tag : ByteArray) (a b : Int) (hs : ∀ x ∈ ps, serF x.ss = 0) {l' : List Smp} (hp : l'.Perm (tkQ ps tag a b (List.range ps.length))) (hso : l'.Pairwise (fun x y => ¬ y.t < x.t)) : l' = qryF ps tag a b := by
  have hnd : ∀ x : Pc, serF x.ss = 0 → ((flatQ tag a b x).map (·.t)).Nodup := fun x hx => (ser_ndQ hx).sublist (flatQ_sub.map _)
  have h1 : ∀ t, fnd t ((ps.reverse.flatMap (flatQ tag a b)).foldl addF []) = fnd t (pfS (ps.flatMap (flatQ tag a b))) := by
    intro t
    rw [adds_fnd, pfS_fnd]
    have key : ∀ qs : List Pc, (∀ x ∈ qs, serF x.ss = 0) → fnd t (qs.flatMap (flatQ tag a b)).reverse = fnd t (qs.reverse.flatMap (flatQ tag a b)) := by
      intro qs
      induction qs with
      | nil => intro _; rfl
      | cons x r ih =>
        intro h
        rw [List.flatMap_cons, List.reverse_append, fnd_app, ih (fun y hy => h y (by simp [hy])), List.reverse_cons, List.flatMap_append, fnd_app, fnd_rev (hnd x (h x (by simp)))]
        simp
    rw [key ps hs]
    simp [fnd]
  rw [tkQ_all] at hp
  exact sorted_ser hp hso (adds_nd _ _ (by simp)) (pfS_nd _) h1
theorem queryOf_a (l : List UInt8) (tag : ByteArray) (w : Win) (hl : l.length ≤ 1000000) (hE : (par l).2.2 = 0)
    (hk : K (.tup [.c (.lst 3 ((if 5000 < (qryF (par l).1 tag w.a w.b).length then [] else qryF (par l).1 tag w.a w.b).map encS)), (.c (.int .i64 (if 5000 < (qryF (par l).1 tag w.a w.b).length then 2 else 0)))]) H) : ACalls Tryz.prog 43 [.c (.lst 1 (l.map encU)), (.c (.str tag)), .agg (encW w)] H K := by
  obtain ⟨g1, g2, g3, g4⟩ := par_good hE
  have g5 := par_smOk hE
  have hQ : ∀ {l' : List Smp}, l'.Perm (tkQ (par l).1 tag w.a w.b (List.range (par l).1.length)) → l'.Pairwise (fun x y => ¬ y.t < x.t) → l' = qryF (par l).1 tag w.a w.b := fun h1 h2 => queries_same tag w.a w.b (fun x hx => (g4 x hx).1) h1 h2
  refine acallsT Tryz.func43 rfl (by simp (disch := first | omega | (simp only [go_sem]; first | done | omega)) only [go_sem]) (fun hH => ?_)
  refine TWp.go (by kernel_rfl) ?_
  simp (disch := first | omega | (simp only [go_sem]; first | done | omega)) only [go_sem]
  refine TWp.go (by kernel_rfl) ?_
  simp (disch := first | omega | (simp only [go_sem]; first | done | omega)) only [go_sem]
  refine parse_a l (by omega) ?_
  generalize (par l).1 = ps at *
  generalize (par l).2.1 = pe at *
  generalize (par l).2.2 = ee at *
  clear g1 hE
  simp (disch := first | omega | (simp only [go_sem]; first | done | omega)) only [go_sem]
  refine TWp.go (by kernel_rfl) ?_
  simp (disch := first | omega | (simp only [go_sem]; first | done | omega)) only [go_sem]
  refine TWp.go (by kernel_rfl) ?_
  simp (disch := first | omega | (simp only [go_sem]; first | done | omega)) only [go_sem]
  refine TWp.then ?_
  refine TWp.go (by kernel_rfl) ?_
  simp (disch := first | omega | (simp only [go_sem]; first | done | omega)) only [go_sem]
  refine backwardP_a ps ?_
  simp (disch := first | omega | (simp only [go_sem]; first | done | omega)) only [go_sem]
  refine TWp.inB ?_
  refine TWp.range (hp := fun ks => H ++ [.row 9 1 [[.str tag]] true, .row 66 2 [encW w] true, mpO ((tkQ ps tag w.a w.b ks).map eH), .row 110 1 [[.map (some (H.length + 2))]] true, .row 30 1 [[grV (H.length + 6) (tkQ ps tag w.a w.b ks)]] true, .row 71 1 [[.lst 8 (ps.map encPc)]] false, grO 52 3 ((tkQ ps tag w.a w.b ks).map encS)]) (inv := fun ks => ks = List.range ks.length ∧ ks.length ≤ ps.length) (by simp (disch := first | omega | (simp only [go_sem]; first | done | omega)) only [go_sem]) (by kernel_rfl) (backP_iter (H.length + 5) ps 71 (by omega) (by first | ((repeat first | exact at0 (by simp) | refine atS ?_); done) | assumption)) (fun _ => rfl) (by simp) (by simp [AV.ok1, AC.ok, encPc]) (by simp) ⟨rfl, by simp⟩ ?_ (fun pre k hinv hN _ _ => ?_) (fun xs hS hinv _ _ => ?_)
  · simp (disch := first | omega | (simp only [go_sem]; first | done | omega)) only [go_sem]
    exact WkL.padP [_, _, _, _, _, _] (by simp)
  · obtain ⟨hN1, hN2⟩ := hN
    obtain ⟨hI1, hI2⟩ := hinv
    have hb := tkQ_len ps tag w.a w.b hI2
    rw [← hI1] at hb
    have hinv2 : pre ++ [k] = List.range (pre ++ [k]).length ∧ (pre ++ [k]).length ≤ ps.length := by
      rw [List.length_append, List.length_singleton, List.range_succ, ← hI1, hN1]
      exact ⟨rfl, by omega⟩
    obtain ⟨x, hx⟩ : ∃ x, x = pcAt ps k := ⟨_, rfl⟩
    have hT := tkQ_snoc ps tag w.a w.b pre k
    rw [← hx] at hT
    have hxm : x ∈ ps := by
      rw [hx]
      unfold pcAt
      rw [List.getD_eq_getElem?_getD, List.getElem?_eq_getElem (by omega)]
      exact List.getElem_mem _
    have hxl : x.ss.length ≤ ssL ps := by
      obtain ⟨u, v, e⟩ := List.append_of_mem hxm
      rw [e, ssL_app]
      have : ssL (x :: v) = x.ss.length + ssL v := by unfold ssL; simp
      omega
    rw [← hx]
    rw [hT]
    clear hT hx hN1 hN2
    generalize tkQ ps tag w.a w.b pre = T at *
    refine SWp.of (by kernel_rfl) ?_
    simp (disch := first | omega | (simp only [go_sem]; first | done | omega)) only [go_sem]
    refine SWp.of (by kernel_rfl) ?_
    simp (disch := first | omega | (simp only [go_sem]; first | done | omega)) only [go_sem]
    refine AWp.loop (H.length + 8) [4, 5, 11, 12, 14, 29, 30] [31] (fun (u : Nat × List Smp × Bool) => u.1 ≤ x.ss.length ∧ u.2.1 = (flatQ tag w.a w.b ⟨x.b, x.ss.take u.1⟩).foldl addF T ∧ u.2.1.length ≤ T.length + u.1) (fun (u : Nat × List Smp × Bool) => [(31, (.c (.int .i64 (u.1))))]) (fun (u : Nat × List Smp × Bool) => if u.2.2 = true then H ++ [.row 9 1 [[.str tag]] true, .row 66 2 [encW w] true, mpO ((u.2.1).map eH), .row 110 1 [[.map (some (H.length + 2))]] true, .row 30 1 [[grV (H.length + 8) (u.2.1)]] true, .row 71 1 [[.lst 8 (ps.map encPc)]] false, .dead, .row 80 8 [encPc x] true, grO 52 3 ((u.2.1).map encS)] else H ++ [.row 9 1 [[.str tag]] true, .row 66 2 [encW w] true, mpO ((u.2.1).map eH), .row 110 1 [[.map (some (H.length + 2))]] true, .row 30 1 [[grV (H.length + 6) (u.2.1)]] true, .row 71 1 [[.lst 8 (ps.map encPc)]] false, grO 52 3 ((u.2.1).map encS), .row 80 8 [encPc x] true, .dead]) (fun (u : Nat × List Smp × Bool) => x.ss.length - u.1) (by kernel_rfl) (fun _ => rfl) (by kernel_rfl) (by first | (simp; done) | omega) (by first | (simp; done) | (simp; omega) | omega) kl ?_ (fun u hu _ _ => ?_)
    · refine Next.mk (0, T, false) ⟨Nat.zero_le _, by simp [flatQ], by simp⟩ ?_
      dsimp only
      rw [if_neg (by decide)]
      simp (disch := first | omega | (simp only [go_sem]; first | done | omega)) only [go_sem]
      exact WkL.padP [_, _, _, _, _, _, _, _] (by simp)
    obtain ⟨i, T1, mv⟩ := u
    obtain ⟨u1, u2, u3⟩ := hu
    dsimp only at u1 u2 u3 ⊢
    cases mv with
    | false =>
      rw [if_neg (by decide)]
      have hok9 : ∀ o ∈ [.row 9 1 [[.str tag]] true, .row 66 2 [encW w] true, mpO (T1.map eH), .row 110 1 [[.map (some (H.length + 2))]] true, .row 30 1 [[grV (H.length + 6) T1]] true, .row 71 1 [[.lst 8 (ps.map encPc)]] false] ++ [grO 52 3 (T1.map encS), .row 80 8 [encPc x] true, .dead], AObj.okN (H.length + 9) o := by
        intro o ho
        rcases List.mem_append.1 ho with h | h
        · exact obQ_ok tag w T1 ps (by omega) (by omega) o h
        · simp only [List.mem_cons, List.not_mem_nil, or_false] at h
          rcases h with rfl | rfl | rfl
          all_goals first | exact xQ_ok x | exact gQ_ok T1 | trivial
      have hkeep : ∀ G : Hp, WkL (H.length + 8) [(.c (.int .i64 ((i : Int) + 1)))] (H ++ (([.row 9 1 [[.str tag]] true, .row 66 2 [encW w] true, mpO (T1.map eH), .row 110 1 [[.map (some (H.length + 2))]] true, .row 30 1 [[grV (H.length + 6) T1]] true, .row 71 1 [[.lst 8 (ps.map encPc)]] false] ++ [grO 52 3 (T1.map encS), .row 80 8 [encPc x] true, .dead]) ++ G)) [(.c (.int .i64 ((i : Int) + 1)))] (H ++ ([.row 9 1 [[.str tag]] true, .row 66 2 [encW w] true, mpO (T1.map eH), .row 110 1 [[.map (some (H.length + 2))]] true, .row 30 1 [[grV (H.length + 6) T1]] true, .row 71 1 [[.lst 8 (ps.map encPc)]] false] ++ [grO 52 3 (T1.map encS), .row 80 8 [encPc x] true, .dead])) := fun G =>
        WkL.keepL hH (by simp) (by simp) rfl hok9 (by simp [AV.ok, AV.ok1, AC.ok])
      by_cases hlt : i < x.ss.length
      · obtain ⟨y, hy⟩ : ∃ y, y = x.ss[i] := ⟨_, rfl⟩
        have hnx := congrArg (List.foldl addF T) (flatQ_next tag w.a w.b x hlt)
        rw [List.foldl_append, ← u2, ← hy] at hnx
        by_cases c1 : x.b.tag = tag
        rotate_left
        · rw [if_neg (fun h => c1 h.1), List.foldl_nil] at hnx
          simp (disch := first | omega | (simp only [go_sem]; first | done | omega)) only [go_sem, hlt, ← hy, c1]
          refine Next.mk (i + 1, T1, false) ⟨⟨by dsimp only; omega, by dsimp only; rw [hnx], by dsimp only; omega⟩, by dsimp only; omega⟩ ?_
          dsimp only
          rw [if_neg (by decide)]
          simp (disch := first | omega | (simp only [go_sem]; first | done | omega)) only [go_sem]
          exact hkeep _
        subst c1
        by_cases c2 : w.a ≤ y.t
        rotate_left
        · rw [if_neg (fun h => c2 h.2.1), List.foldl_nil] at hnx
          simp (disch := first | omega | (simp only [go_sem]; first | done | omega)) only [go_sem, hlt, ← hy, c2]
          refine Next.mk (i + 1, T1, false) ⟨⟨by dsimp only; omega, by dsimp only; rw [hnx], by dsimp only; omega⟩, by dsimp only; omega⟩ ?_
          dsimp only
          rw [if_neg (by decide)]
          simp (disch := first | omega | (simp only [go_sem]; first | done | omega)) only [go_sem]
          exact hkeep _
        by_cases c3 : y.t < w.b
        rotate_left
        · rw [if_neg (fun h => c3 h.2.2), List.foldl_nil] at hnx
          simp (disch := first | omega | (simp only [go_sem]; first | done | omega)) only [go_sem, hlt, ← hy, c2, c3]
          refine Next.mk (i + 1, T1, false) ⟨⟨by dsimp only; omega, by dsimp only; rw [hnx], by dsimp only; omega⟩, by dsimp only; omega⟩ ?_
          dsimp only
          rw [if_neg (by decide)]
          simp (disch := first | omega | (simp only [go_sem]; first | done | omega)) only [go_sem]
          exact hkeep _
        rw [if_pos ⟨rfl, c2, c3⟩] at hnx
        have hnx : List.foldl addF T (flatQ x.b.tag w.a w.b ⟨x.b, x.ss.take (i + 1)⟩) = addF T1 y := hnx
        have hg := get_H (P := Tryz.prog) (kt := 3) y.t T1 (by kernel_rfl)
        simp (disch := first | omega | (simp only [go_sem]; first | done | omega)) only [go_sem, hlt, ← hy, c2, c3]
        refine look_mp (by kernel_rfl) hg rfl ?_
        cases c4 : T1.any fun z => decide (y.t = z.t) with
        | true =>
          rw [show addF T1 y = T1 by unfold addF; rw [if_pos c4]] at hnx
          simp (disch := first | omega | (simp only [go_sem]; first | done | omega)) only [go_sem]
          refine Next.mk (i + 1, T1, false) ⟨⟨by dsimp only; omega, by dsimp only; rw [hnx], by dsimp only; omega⟩, by dsimp only; omega⟩ ?_
          dsimp only
          rw [if_neg (by decide)]
          simp (disch := first | omega | (simp only [go_sem]; first | done | omega)) only [go_sem]
          exact hkeep _
        | false =>
          rw [show addF T1 y = T1 ++ [y] by unfold addF; rw [if_neg (by simp [c4])]] at hnx
          have hp := put_H (P := Tryz.prog) (kt := 3) y T1 (by kernel_rfl) c4
          obtain ⟨T2, hT2⟩ : ∃ T2, T2 = T1 ++ [y] := ⟨_, rfl⟩
          rw [← hT2] at hnx hp
          have hTl : T2.length = T1.length + 1 := by rw [hT2]; simp
          simp (disch := first | omega | (simp only [go_sem]; first | done | omega)) only [go_sem]
          refine mup_mp (by kernel_rfl) hp ?_
          simp (disch := first | omega | (simp only [go_sem]; first | done | omega)) only [go_sem]
          refine appSm T1 y T2 hT2 (atG 6 (by simp) rfl) (atG 10 (by simp) rfl) (by omega) ?_
          simp (disch := first | omega | (simp only [go_sem]; first | done | omega)) only [go_sem]
          refine Next.mk (i + 1, T2, true) ⟨⟨by dsimp only; omega, by dsimp only; rw [hnx], by dsimp only; omega⟩, by dsimp only; omega⟩ ?_
          dsimp only
          rw [if_pos rfl]
          simp (disch := first | omega | (simp only [go_sem]; first | done | omega)) only [go_sem]
          refine WkL.pickR [0, 1, 2, 3, 4, 5, 6, 7, 11] 8 (L := [.row 9 1 [[.str x.b.tag]] true, .row 66 2 [encW w] true, mpO (T2.map eH), .row 110 1 [[.map (some (H.length + 2))]] true, .row 30 1 [[grV (H.length + 8) T2]] true, .row 71 1 [[.lst 8 (ps.map encPc)]] false] ++ [.dead, .row 80 8 [encPc x] true, grO 52 3 (T2.map encS)]) hH (by simp) (by simp) (by decide) ?_ (by decide) ?_ ?_ ?_
          · simp only [List.map_cons, List.map_nil, List.cons_append, List.nil_append, tagR_ren, winR_ren, eH_ren, xR_ren, backR_ren, haveR_ren, outR_ren, gS_ren, deadR_ren, pickS_add]
            rfl
          · intro o ho
            rcases List.mem_append.1 ho with h | h
            · exact obQ_ok _ w T2 ps (by simp) (by simp) o h
            · simp only [List.mem_cons, List.not_mem_nil, or_false] at h
              rcases h with rfl | rfl | rfl
              all_goals first | exact xQ_ok x | exact gQ_ok T2 | trivial
          · simp [AV.ren, AV.ren1, AC.ren]
          · simp [AV.ok, AV.ok1, AC.ok]
      · have hil : i = x.ss.length := by omega
        subst hil
        rw [List.take_length] at u2
        have e : (flatQ tag w.a w.b x).foldl addF T = T1 := u2.symm
        rw [e]
        simp (disch := first | omega | (simp only [go_sem]; first | done | omega)) only [go_sem]
        refine ⟨by simpa [List.range_succ] using hinv2, ?_⟩
        refine WkL.pickR [0, 1, 2, 3, 4, 5, 6] 6 (L := [.row 9 1 [[.str tag]] true, .row 66 2 [encW w] true, mpO (T1.map eH), .row 110 1 [[.map (some (H.length + 2))]] true, .row 30 1 [[grV (H.length + 6) T1]] true, .row 71 1 [[.lst 8 (ps.map encPc)]] false] ++ [grO 52 3 (T1.map encS)]) hH (by simp) (by simp) (by decide) ?_ (by decide) ?_ ?_ ?_
        · simp only [List.map_cons, List.map_nil, List.cons_append, List.nil_append, tagR_ren, winR_ren, eH_ren, xR_ren, backR_ren, haveR_ren, outR_ren, gS_ren, deadR_ren, pickS_add]
          rfl
        · intro o ho
          rcases List.mem_append.1 ho with h | h
          · exact obQ_ok _ w T1 ps (by simp) (by simp) o h
          · simp only [List.mem_singleton] at h
            subst h
            exact gQ_ok T1
        · rfl
        · simp
    | true =>
      rw [if_pos rfl]
      have hok9 : ∀ o ∈ [.row 9 1 [[.str tag]] true, .row 66 2 [encW w] true, mpO (T1.map eH), .row 110 1 [[.map (some (H.length + 2))]] true, .row 30 1 [[grV (H.length + 8) T1]] true, .row 71 1 [[.lst 8 (ps.map encPc)]] false] ++ [.dead, .row 80 8 [encPc x] true, grO 52 3 (T1.map encS)], AObj.okN (H.length + 9) o := by
        intro o ho
        rcases List.mem_append.1 ho with h | h
        · exact obQ_ok tag w T1 ps (by omega) (by omega) o h
        · simp only [List.mem_cons, List.not_mem_nil, or_false] at h
          rcases h with rfl | rfl | rfl
          all_goals first | exact xQ_ok x | exact gQ_ok T1 | trivial
      have hkeep : ∀ G : Hp, WkL (H.length + 8) [(.c (.int .i64 ((i : Int) + 1)))] (H ++ (([.row 9 1 [[.str tag]] true, .row 66 2 [encW w] true, mpO (T1.map eH), .row 110 1 [[.map (some (H.length + 2))]] true, .row 30 1 [[grV (H.length + 8) T1]] true, .row 71 1 [[.lst 8 (ps.map encPc)]] false] ++ [.dead, .row 80 8 [encPc x] true, grO 52 3 (T1.map encS)]) ++ G)) [(.c (.int .i64 ((i : Int) + 1)))] (H ++ ([.row 9 1 [[.str tag]] true, .row 66 2 [encW w] true, mpO (T1.map eH), .row 110 1 [[.map (some (H.length + 2))]] true, .row 30 1 [[grV (H.length + 8) T1]] true, .row 71 1 [[.lst 8 (ps.map encPc)]] false] ++ [.dead, .row 80 8 [encPc x] true, grO 52 3 (T1.map encS)])) := fun G =>
        WkL.keepL hH (by simp) (by simp) rfl hok9 (by simp [AV.ok, AV.ok1, AC.ok])
      by_cases hlt : i < x.ss.length
      · obtain ⟨y, hy⟩ : ∃ y, y = x.ss[i] := ⟨_, rfl⟩
        have hnx := congrArg (List.foldl addF T) (flatQ_next tag w.a w.b x hlt)
        rw [List.foldl_append, ← u2, ← hy] at hnx
        by_cases c1 : x.b.tag = tag
        rotate_left
        · rw [if_neg (fun h => c1 h.1), List.foldl_nil] at hnx
          simp (disch := first | omega | (simp only [go_sem]; first | done | omega)) only [go_sem, hlt, ← hy, c1]
          refine Next.mk (i + 1, T1, true) ⟨⟨by dsimp only; omega, by dsimp only; rw [hnx], by dsimp only; omega⟩, by dsimp only; omega⟩ ?_
          dsimp only
          rw [if_pos rfl]
          simp (disch := first | omega | (simp only [go_sem]; first | done | omega)) only [go_sem]
          exact hkeep _
        subst c1
        by_cases c2 : w.a ≤ y.t
        rotate_left
        · rw [if_neg (fun h => c2 h.2.1), List.foldl_nil] at hnx
          simp (disch := first | omega | (simp only [go_sem]; first | done | omega)) only [go_sem, hlt, ← hy, c2]
          refine Next.mk (i + 1, T1, true) ⟨⟨by dsimp only; omega, by dsimp only; rw [hnx], by dsimp only; omega⟩, by dsimp only; omega⟩ ?_
          dsimp only
          rw [if_pos rfl]
          simp (disch := first | omega | (simp only [go_sem]; first | done | omega)) only [go_sem]
          exact hkeep _
        by_cases c3 : y.t < w.b
        rotate_left
        · rw [if_neg (fun h => c3 h.2.2), List.foldl_nil] at hnx
          simp (disch := first | omega | (simp only [go_sem]; first | done | omega)) only [go_sem, hlt, ← hy, c2, c3]
          refine Next.mk (i + 1, T1, true) ⟨⟨by dsimp only; omega, by dsimp only; rw [hnx], by dsimp only; omega⟩, by dsimp only; omega⟩ ?_
          dsimp only
          rw [if_pos rfl]
          simp (disch := first | omega | (simp only [go_sem]; first | done | omega)) only [go_sem]
          exact hkeep _
        rw [if_pos ⟨rfl, c2, c3⟩] at hnx
        have hnx : List.foldl addF T (flatQ x.b.tag w.a w.b ⟨x.b, x.ss.take (i + 1)⟩) = addF T1 y := hnx
        have hg := get_H (P := Tryz.prog) (kt := 3) y.t T1 (by kernel_rfl)
        simp (disch := first | omega | (simp only [go_sem]; first | done | omega)) only [go_sem, hlt, ← hy, c2, c3]
        refine look_mp (by kernel_rfl) hg rfl ?_
        cases c4 : T1.any fun z => decide (y.t = z.t) with
        | true =>
          rw [show addF T1 y = T1 by unfold addF; rw [if_pos c4]] at hnx
          simp (disch := first | omega | (simp only [go_sem]; first | done | omega)) only [go_sem]
          refine Next.mk (i + 1, T1, true) ⟨⟨by dsimp only; omega, by dsimp only; rw [hnx], by dsimp only; omega⟩, by dsimp only; omega⟩ ?_
          dsimp only
          rw [if_pos rfl]
          simp (disch := first | omega | (simp only [go_sem]; first | done | omega)) only [go_sem]
          exact hkeep _
        | false =>
          rw [show addF T1 y = T1 ++ [y] by unfold addF; rw [if_neg (by simp [c4])]] at hnx
          have hp := put_H (P := Tryz.prog) (kt := 3) y T1 (by kernel_rfl) c4
          obtain ⟨T2, hT2⟩ : ∃ T2, T2 = T1 ++ [y] := ⟨_, rfl⟩
          rw [← hT2] at hnx hp
          have hTl : T2.length = T1.length + 1 := by rw [hT2]; simp
          simp (disch := first | omega | (simp only [go_sem]; first | done | omega)) only [go_sem]
          refine mup_mp (by kernel_rfl) hp ?_
          simp (disch := first | omega | (simp only [go_sem]; first | done | omega)) only [go_sem]
          refine appSm T1 y T2 hT2 (atG 8 (by simp) rfl) (atG 10 (by simp) rfl) (by omega) ?_
          simp (disch := first | omega | (simp only [go_sem]; first | done | omega)) only [go_sem]
          refine Next.mk (i + 1, T2, true) ⟨⟨by dsimp only; omega, by dsimp only; rw [hnx], by dsimp only; omega⟩, by dsimp only; omega⟩ ?_
          dsimp only
          rw [if_pos rfl]
          simp (disch := first | omega | (simp only [go_sem]; first | done | omega)) only [go_sem]
          refine WkL.pickR [0, 1, 2, 3, 4, 5, 6, 7, 11] 8 (L := [.row 9 1 [[.str x.b.tag]] true, .row 66 2 [encW w] true, mpO (T2.map eH), .row 110 1 [[.map (some (H.length + 2))]] true, .row 30 1 [[grV (H.length + 8) T2]] true, .row 71 1 [[.lst 8 (ps.map encPc)]] false] ++ [.dead, .row 80 8 [encPc x] true, grO 52 3 (T2.map encS)]) hH (by simp) (by simp) (by decide) ?_ (by decide) ?_ ?_ ?_
          · simp only [List.map_cons, List.map_nil, List.cons_append, List.nil_append, tagR_ren, winR_ren, eH_ren, xR_ren, backR_ren, haveR_ren, outR_ren, gS_ren, deadR_ren, pickS_add]
            rfl
          · intro o ho
            rcases List.mem_append.1 ho with h | h
            · exact obQ_ok _ w T2 ps (by simp) (by simp) o h
            · simp only [List.mem_cons, List.not_mem_nil, or_false] at h
              rcases h with rfl | rfl | rfl
              all_goals first | exact xQ_ok x | exact gQ_ok T2 | trivial
          · simp [AV.ren, AV.ren1, AC.ren]
          · simp [AV.ok, AV.ok1, AC.ok]
      · have hil : i = x.ss.length := by omega
        subst hil
        rw [List.take_length] at u2
        have e : (flatQ tag w.a w.b x).foldl addF T = T1 := u2.symm
        rw [e]
        simp (disch := first | omega | (simp only [go_sem]; first | done | omega)) only [go_sem]
        refine ⟨by simpa [List.range_succ] using hinv2, ?_⟩
        refine WkL.pickR [0, 1, 2, 3, 4, 5, 8] 6 (L := [.row 9 1 [[.str tag]] true, .row 66 2 [encW w] true, mpO (T1.map eH), .row 110 1 [[.map (some (H.length + 2))]] true, .row 30 1 [[grV (H.length + 6) T1]] true, .row 71 1 [[.lst 8 (ps.map encPc)]] false] ++ [grO 52 3 (T1.map encS)]) hH (by simp) (by simp) (by decide) ?_ (by decide) ?_ ?_ ?_
        · simp only [List.map_cons, List.map_nil, List.cons_append, List.nil_append, tagR_ren, winR_ren, eH_ren, xR_ren, backR_ren, haveR_ren, outR_ren, gS_ren, deadR_ren, pickS_add]
          rfl
        · intro o ho
          rcases List.mem_append.1 ho with h | h
          · exact obQ_ok _ w T1 ps (by simp) (by simp) o h
          · simp only [List.mem_singleton] at h
            subst h
            exact gQ_ok T1
        · rfl
        · simp
  · subst hS
    have hb := tkQ_len ps tag w.a w.b (Nat.le_refl ps.length)
    have hqm : ∀ y ∈ tkQ ps tag w.a w.b (List.range ps.length), smOk y := by
      intro y hy
      rw [tkQ_all] at hy
      have key : ∀ (l o : List Smp), ∀ y ∈ l.foldl addF o, y ∈ o ∨ y ∈ l := by
        intro l
        induction l with
        | nil => intro o y hy; exact .inl hy
        | cons z r ih =>
          intro o y hy
          rcases ih _ y hy with h | h
          · unfold addF at h
            split at h
            · exact .inl h
            · rcases List.mem_append.1 h with h | h
              · exact .inl h
              · simp only [List.mem_singleton] at h
                subst h
                exact .inr (by simp)
          · exact .inr (by simp [h])
      rcases key _ _ y hy with h | h
      · cases h
      · obtain ⟨x, hx, hy⟩ := List.mem_flatMap.1 h
        exact g5 x (List.mem_reverse.1 hx) y (flatQ_sub.subset hy)
    have hlen : (qryF ps tag w.a w.b).length = (tkQ ps tag w.a w.b (List.range ps.length)).length := by
      have hm : ((tkQ ps tag w.a w.b (List.range ps.length)).mergeSort fun x y => decide (x.t ≤ y.t)).Perm (tkQ ps tag w.a w.b (List.range ps.length)) := List.mergeSort_perm _ _
      have hs := List.pairwise_mergeSort (le := fun x y : Smp => decide (x.t ≤ y.t)) (fun a b c h1 h2 => by simp only [decide_eq_true_eq] at *; omega) (fun a b => by simp only [Bool.or_eq_true, decide_eq_true_eq]; omega) (tkQ ps tag w.a w.b (List.range ps.length))
      rw [← hQ hm (hs.imp fun h => by simp only [decide_eq_true_eq] at h; omega), hm.length_eq]
    rw [hlen] at hk
    generalize tkQ ps tag w.a w.b (List.range ps.length) = T at *
    simp (disch := first | omega | (simp only [go_sem]; first | done | omega)) only [go_sem]
    refine TWp.go (by kernel_rfl) ?_
    simp (disch := first | omega | (simp only [go_sem]; first | done | omega)) only [go_sem]
    refine acond_b (fun c5 => ?_) (fun c5 => ?_)
    · have c5 : 5000 < T.length := by
        have := of_decide_eq_true c5
        omega
      rw [if_pos c5, if_pos c5] at hk
      simp (disch := first | omega | (simp only [go_sem]; first | done | omega)) only [go_sem]
      exact Ret.nilT hH (Nat.le_refl _) rfl hk
    · have c5 : ¬ 5000 < T.length := by
        have := of_decide_eq_false c5
        omega
      rw [if_neg c5, if_neg c5] at hk
      simp (disch := first | omega | (simp only [go_sem]; first | done | omega)) only [go_sem]
      refine TWp.end (by kernel_rfl) ?_
      simp (disch := first | omega | (simp only [go_sem]; first | done | omega)) only [go_sem]
      refine sortS2_a qofSubW T (by first | exact at6 (by simp) | exact atG 6 (by simp) rfl) hqm (by omega) (fun l' h3 h4 => ?_)
      rw [← hQ h3 h4] at hk
      simp (disch := first | omega | (simp only [go_sem]; first | done | omega)) only [go_sem]
      exact Ret.frzGrT 6 hH (Nat.le_refl _) rfl (pureL_map _ (fun x => by simp [go_sem, AC.pure])) rfl (grV_lenQ _ _ _ (by rw [List.length_map, h3.length_eq])) hk
end Go.Proofs.YtnodfnjmhcjnfaaGreat
