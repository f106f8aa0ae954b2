/- Package block's own walk through a file: one step. Condition: the bytes fit. -/
import Derived.Test.YtnodfnjmhcjnfaaGreatDoorHVBlkM
import Derived.Test.YtnodfnjmhcjnfaaGreatDoorHVPickC
namespace Go.Proofs.YtnodfnjmhcjnfaaGreatDoor
open Go Go.RowKit
set_option maxRecDepth 100000
set_option linter.all false
set_option maxHeartbeats 2000000
variable {H : Hp} {K : AV → Hp → Prop}
def kq (t : ByteArray) (x : ByteArray × Int) : Bool := decide (t = x.1)
def encE (x : ByteArray × Int) : AV × AV := (.c (.str x.1), .c (.int .i64 x.2))
def lookT (es : List (ByteArray × Int)) (t : ByteArray) : Option Int := (es.find? (kq t)).map (·.2)
theorem upsert_cons {α : Type} (p : α → Bool) (x y : α) (l : List α) : upsert p x (y :: l) = if p y = true then x :: l else y :: upsert p x l := by
  unfold upsert
  rw [List.findIdx?_cons]
  by_cases h : p y = true
  · simp [h]
  · simp only [h, if_false]
    cases l.findIdx? p <;> simp
theorem lookT_ups (t t' : ByteArray) (v : Int) : ∀ es : List (ByteArray × Int), lookT (upsert (kq t) (t, v) es) t' = if t' = t then some v else lookT es t'
  | [] => by
    show ((upsert (kq t) (t, v) []).find? (kq t')).map _ = _
    by_cases h : t' = t <;> simp [upsert, kq, lookT, h]
  | y :: l => by
    have ih := lookT_ups t t' v l
    rw [upsert_cons]
    unfold lookT at ih ⊢
    by_cases h : t = y.1
    · rw [if_pos (by simp [kq, h])]
      by_cases h2 : t' = t
      · simp [kq, h2]
      · have h3 : ¬ t' = y.1 := by rw [← h]; exact h2
        simp [kq, h2, h3]
    · rw [if_neg (by simp [kq, h])]
      by_cases h3 : t' = y.1
      · have h2 : ¬ t' = t := by rintro rfl; exact h h3
        simp [kq, h2, h3]
        intro h4; exact absurd (h4.symm) h
      · rw [List.find?_cons_of_neg (by simp [kq, h3]), ih]
        rw [List.find?_cons_of_neg (by simp [kq, h3])]
def putT (es : List (ByteArray × Int)) (x : Pc) : List (ByteArray × Int) := if x.b.over = true then es else upsert (kq x.b.tag) (x.b.tag, x.b.last) es
def lastE (ps : List Pc) : List (ByteArray × Int) := ps.foldl putT []
theorem lastE_snoc (ps : List Pc) (x : Pc) : lastE (ps ++ [x]) = putT (lastE ps) x := by unfold lastE; rw [List.foldl_append]; rfl
theorem lastE_O (t : ByteArray) (ps : List Pc) : (lookT (lastE ps) t).getD (-1) = lastO ps t := by
  have key : ∀ n (ps : List Pc), ps.length = n → (lookT (lastE ps) t).getD (-1) = lastO ps t := by
    intro n
    induction n with
    | zero => intro ps h; obtain rfl : ps = [] := List.length_eq_zero_iff.1 h; rfl
    | succ n ih =>
      intro ps h
      rcases List.eq_nil_or_concat ps with rfl | ⟨q, x, rfl⟩
      · simp at h
      · rw [List.concat_eq_append] at h ⊢
        have := ih q (by simpa using h)
        rw [lastE_snoc, lastO_snoc]
        unfold putT
        by_cases ho : x.b.over = true
        · rw [if_pos ho, if_neg (by rw [ho]; rintro ⟨_, h⟩; cases h)]
          exact this
        · rw [if_neg ho, lookT_ups]
          by_cases ht : t = x.b.tag
          · rw [if_pos ht, if_pos ⟨ht.symm, by simpa using ho⟩]; rfl
          · rw [if_neg ht, if_neg (fun h => ht h.1.symm)]; exact this
  exact key _ ps rfl
theorem foll_iff {ps : List Pc} {b : Blk} (hf : 0 ≤ b.first) : foll ps b = !(match lookT (lastE ps) b.tag with | some v => !b.over && decide (b.first ≤ v) | none => false) := by
  have h := lastE_O b.tag ps
  unfold foll
  cases hl : lookT (lastE ps) b.tag with
  | none =>
    rw [hl] at h
    have h : -1 = lastO ps b.tag := h
    rw [decide_eq_true (by omega)]
    simp
  | some v =>
    rw [hl] at h
    have h : v = lastO ps b.tag := h
    rw [← h]
    cases b.over
    · simp only [Bool.false_or, Bool.not_false, Bool.true_and]
      rw [← decide_not]
      exact decide_eq_decide.2 (by omega)
    · simp
theorem first_pos {l : List UInt8} {p : Nat} (h : (decRes l p).2.2 = 0) : 0 ≤ (decRes l p).1.first := by
  unfold decRes at h ⊢
  split at h
  · cases h
  rename_i g0
  rw [if_neg g0]
  split at h
  · cases h
  rename_i g1
  rw [if_neg g1]
  split at h
  · cases h
  rename_i kind tag ss e hd
  split at h
  · cases h
  rename_i g2
  rw [if_neg g2]
  split at h
  · cases h
  rename_i g3
  rw [if_neg g3]
  split at h
  · rename_i g4; exact absurd h g4
  rename_i g4
  rw [if_neg g4]
  dsimp only
  have hs : serF ss = 0 := by simpa using g4
  cases ss with
  | nil => exact Int.le_refl _
  | cons y t =>
    have := ((serP_iff (y :: t)).1 hs).2.1 y (by simp)
    have h5 := (smpErr_sml this)
    unfold smpErr at this
    simp only [List.headD_cons]
    split at this
    · cases this
    · omega
@[go_sem] theorem mapK_si : mapK Tryz.prog 178 = some 9 := (by kernel_rfl)
@[go_sem] theorem mapZ_si : (mapE Tryz.prog 178).bind (zeroA Tryz.prog) = some (.c (.int .i64 0)) := (by kernel_rfl)
def wlk (ty : Nat) (l : List UInt8) (p : Nat) (j m : Nat) (acc : List Pc) : AObj := .row ty 4 [[.lst 1 (l.map encU), .int .i64 p, grV j acc, .map (some m)]] true
attribute [go_sem] wlk
def lastMp (ps : List Pc) : AObj := mpO ((lastE ps).map encE)
def pcOf (D : Blk × List Smp × Int) : Pc := ⟨D.1, D.2.1⟩
theorem get_E {P : Program} {kt : TypeId} (t : ByteArray) (es : List (ByteArray × Int)) (ht : keyT P kt (.c (.str t)) = true) : mapGet P kt (.c (.str t)) (some (.c (.int .i64 0))) (es.map encE) = some (.c (.int .i64 ((lookT es t).getD 0)), (lookT es t).isSome) := by
  rw [get_of (e := encE) (p := kq t) ht (findA_str t (fun x : ByteArray × Int => x.1) (fun x : ByteArray × Int => .c (.int .i64 x.2)) es)]
  unfold lookT
  cases es.find? (kq t) <;> rfl
theorem put_E {P : Program} {kt : TypeId} (t : ByteArray) (v : Int) (es : List (ByteArray × Int)) (ht : keyT P kt (.c (.str t)) = true) : mapPut P kt (.c (.str t)) (.c (.int .i64 v)) (es.map encE) = some ((upsert (kq t) (t, v) es).map encE) :=
  put_of (e := encE) (p := kq t) (x := (t, v)) ht (findA_str t (fun x : ByteArray × Int => x.1) (fun x : ByteArray × Int => .c (.int .i64 x.2)) es) rfl
theorem appPart {i q ty : Nat} {own : Bool} {J : AV → Hp → Prop} (l : List Pc) (x : Pc) (l2 : List Pc) (e : l2 = l ++ [x]) (hi : H[i]? = some (grO 215 8 (l.map encPc))) (hj : H[q]? = some (.row ty 8 [encPc x] own)) (hb : l.length ≤ 1000000000)
    (h : J (.c (grV H.length l2)) (H.set i .dead ++ [grO 215 8 (l2.map encPc)])) : aBuiltin Tryz.prog .append #[177, 177] [.c (grV i l), .c (.sl (some (q, 0)) 1)] H J := by
  subst e
  exact app_grR (enc := encPc) (e := 215) (sz := 8) (bs := 88) (z := [.int .i64 0, .int .i64 0, .str ⟨#[]⟩, .int .i64 0, .int .i64 0, .int .i64 0, .bool false, .sl none 0]) l [x] (by kernel_rfl) (by kernel_rfl) (by kernel_rfl) (by kernel_rfl) hi (by rw [hj]; rfl) (by simp) rfl (by decide) (by simp; omega) (by simp; omega) h
theorem lastMp_ok (ps : List Pc) (n : Nat) : (lastMp ps).okN n := by
  intro p hp
  obtain ⟨x, _, rfl⟩ := List.mem_map.1 hp
  exact ⟨trivial, trivial⟩
theorem newWalker_a (l : List UInt8) (hk : K (.c (.ptr (some (H.length + 1, 0, 0)))) (H ++ [mpO [], .row 180 4 [[.lst 1 (l.map encU), .int .i64 0, .sl none 0, .map (some H.length)]] true])) : ACalls Tryz.prog 126 [.c (.lst 1 (l.map encU))] H K := by
  refine acalls Tryz.func126 rfl (by kernel_rfl) (by simp (disch := first | omega | (simp only [go_sem]; first | done | omega)) only [go_sem]) (fun hH => ?_)
  simp (disch := first | omega | (simp only [go_sem]; first | done | omega)) only [go_sem]
  exact Ret.same (by simp) hk
theorem step_a {c j m : Nat} (l : List UInt8) (p : Nat) (acc : List Pc) (hp : p ≤ l.length) (hl : l.length ≤ 200000) (ha : acc.length ≤ 1000000) (hc : H[c]? = some (wlk 180 l p j m acc)) (hj : H[j]? = some (grO 215 8 (acc.map encPc))) (hm : H[m]? = some (lastMp acc)) (hcj : c ≠ j) (hcm : c ≠ m) (hjm : j ≠ m)
    (hk1 : (decRes l p).2.2 ≠ 0 → K (.c (.int .i64 ((decRes l p).2.2))) H) (hk2 : (decRes l p).2.2 = 0 → foll acc (decRes l p).1 = false → K (.c (.int .i64 7)) H)
    (hk3 : (decRes l p).2.2 = 0 → foll acc (decRes l p).1 = true → K (.c (.int .i64 0)) ((((H.set m (lastMp (acc ++ [pcOf (decRes l p)]))).set j .dead).set c (wlk 180 l (p + (decRes l p).1.long.toNat) H.length m (acc ++ [pcOf (decRes l p)]))) ++ [grO 215 8 ((acc ++ [pcOf (decRes l p)]).map encPc)])) :
    ACalls Tryz.prog 127 [.c (.ptr (some (c, 0, 0)))] H K := by
  have hc1 := getElem?_lt hc
  have hj1 := getElem?_lt hj
  have hm1 := getElem?_lt hm
  have hok := decRes_ok (l := l) hp
  have hfp := first_pos (l := l) (p := p)
  have hfo := foll_iff (ps := acc) (b := (decRes l p).1)
  have hdec : ∀ {G : Hp} {J : AV → Hp → Prop}, J (.tup [.agg (encBk (decRes l p).1), .c (.lst 3 ((decRes l p).2.1.map encS)), (.c (.int .i64 ((decRes l p).2.2)))]) G → ACalls Tryz.prog 212 [.c (.lst 1 (l.map encU)), (.c (.int .i64 p))] G J := fun h => decode_a l p hp (by omega) h
  generalize decRes l p = D at *
  obtain ⟨b, ss, e⟩ := D
  dsimp only at hk1 hk2 hk3 hok hfp hfo hdec
  unfold encBk at hdec
  unfold pcOf at hk3
  dsimp only at hk3
  have hm2 : H[m]? = some (mpO ((lastE acc).map encE)) := hm
  refine acallsS Tryz.func127 rfl (by simp (disch := first | omega | (simp only [go_sem]; first | done | omega)) only [go_sem]) (fun hH => ?_)
  (refine SWp.go (by kernel_rfl) ?_; simp (disch := first | omega | (simp only [go_sem]; first | done | omega)) only [go_sem])
  refine SWp.cut (H.length) [0] [3, 4, 5] (fun (s : Unit) => True) (fun (s : Unit) => [(3, .c (.ptr (some (H.length, 0, 0)))), (4, .c (.lst 3 (ss.map encS))), (5, (.c (.int .i64 e)))]) (fun (s : Unit) => H ++ [.row 106 7 [encBk b] true]) (fun _ => rfl) (by kernel_rfl) (by first | (simp; done) | omega) (by first | (simp; done) | (simp; omega) | omega) kl ?_ (fun s hs _ _ => ?_)
  · refine SWp.of (by kernel_rfl) ?_
    repeat' (first | ((first | refine acond_d ?_ ?_ | refine acond_b ?_ ?_ | refine ag_d ?_ ?_ | refine ag_n ?_ ?_ | refine ag_bt ?_ ?_ | refine ag_bf ?_ ?_ | refine agt_d ?_ ?_ | refine agt_n ?_ ?_ | refine agt_bt ?_ ?_ | refine agt_bf ?_ ?_) <;> intro c <;> try simp (disch := first | omega | (simp only [go_sem]; first | done | omega)) only [go_sem, c, hc]) | ((first | refine w_draw (by kernel_rfl) (by decide +kernel) ?_ | refine hdec ?_ | refine w_tree (.one 0 (.one 1 (.one 2 (.one 3 (.one 4 (.one 5 (.one 6 (.one 7 (.two 8 (.one 9 (.one 10 (.one 11 (.one 12 (.one 13 (.one 14 (.one 15 (.one 16 .done)))))))) 13 (.one 8 (.one 9 (.one 10 (.one 11 (.one 12 (.one 14 (.one 15 (.one 16 .done))))))))))))))))) (by kernel_rfl) (by decide +kernel) ?_) <;> try simp (disch := first | omega | (simp only [go_sem]; first | done | omega)) only [go_sem, hc]) | (refine And.intro ?_ ?_ <;> try simp (disch := first | omega | (simp only [go_sem]; first | done | omega)) only [go_sem, hc]))
    all_goals
      refine Next.mk () trivial ?_
      exact wk
  clear hs s
  by_cases he : e = 0
  case neg =>
    refine SWp.go (by kernel_rfl) ?_
    simp (disch := first | omega | (simp only [go_sem]; first | done | omega)) only [go_sem, he]
    exact Ret.drop hH (Nat.le_refl _) trivial (hk1 he)
  subst he
  have hok := hok rfl
  have hfo := hfo (hfp rfl)
  refine SWp.go (by kernel_rfl) ?_
  simp (disch := first | omega | (simp only [go_sem]; first | done | omega)) only [go_sem]
  refine SWp.then ?_
  refine SWp.cut (H.length + 1) [0, 3, 4] [6, 7] (fun (s : Unit) => True) (fun (s : Unit) => [(6, (.c (.int .i64 ((lookT (lastE acc) b.tag).getD 0)))), (7, (.c (.bool ((lookT (lastE acc) b.tag).isSome))))]) (fun (s : Unit) => H ++ [.row 106 7 [encBk b] true]) (fun _ => rfl) (by kernel_rfl) (by first | (simp; done) | omega) (by first | (simp; done) | (simp; omega) | omega) kl ?_ (fun s hs _ _ => ?_)
  · refine SWp.of (by kernel_rfl) ?_
    repeat' (first | ((first | refine acond_d ?_ ?_ | refine acond_b ?_ ?_ | refine ag_d ?_ ?_ | refine ag_n ?_ ?_ | refine ag_bt ?_ ?_ | refine ag_bf ?_ ?_ | refine agt_d ?_ ?_ | refine agt_n ?_ ?_ | refine agt_bt ?_ ?_ | refine agt_bf ?_ ?_) <;> intro c <;> try simp (disch := first | omega | (simp only [go_sem]; first | done | omega)) only [go_sem, c, hc, hm2, encBk]) | ((first | refine w_draw (by kernel_rfl) (by decide +kernel) ?_ | refine look_mp (by kernel_rfl) (get_E b.tag (lastE acc) (by kernel_rfl)) rfl ?_ | refine w_tree (.one 0 (.one 1 (.one 2 (.one 3 (.one 4 (.one 5 (.one 6 (.one 7 (.one 8 (.one 9 (.one 10 (.one 11 .done)))))))))))) (by kernel_rfl) (by decide +kernel) ?_) <;> try simp (disch := first | omega | (simp only [go_sem]; first | done | omega)) only [go_sem, hc, hm2, encBk]) | (refine And.intro ?_ ?_ <;> try simp (disch := first | omega | (simp only [go_sem]; first | done | omega)) only [go_sem, hc, hm2, encBk]))
    all_goals
      refine Next.mk () trivial ?_
      exact wk
  clear hs s
  refine SWp.cut (H.length + 1) [0, 3, 4] [45] (fun (s : Unit) => True) (fun (s : Unit) => [(45, (.c (.bool (!foll acc b))))]) (fun (s : Unit) => H ++ [.row 106 7 [encBk b] true]) (fun _ => rfl) (by kernel_rfl) (by first | (simp; done) | omega) (by first | (simp; done) | (simp; omega) | omega) kl ?_ (fun s hs _ _ => ?_)
  · refine SWp.of (by kernel_rfl) ?_
    rw [hfo, Bool.not_not]
    cases hl : lookT (lastE acc) b.tag with
    | none =>
      simp (disch := first | omega | (simp only [go_sem]; first | done | omega)) only [go_sem, encBk]
      refine Next.mk () trivial ?_
      exact wk
    | some v =>
      obtain ⟨y, hy⟩ : ∃ y, y = (some v).getD (0 : Int) := ⟨_, rfl⟩
      have hy2 : y = v := hy
      rw [← hy]
      subst hy2
      cases ho : b.over
      · simp (disch := first | omega | (simp only [go_sem]; first | done | omega)) only [go_sem, encBk, ho]
        refine Next.mk () trivial ?_
        exact wk
      · simp (disch := first | omega | (simp only [go_sem]; first | done | omega)) only [go_sem, encBk, ho]
        refine Next.mk () trivial ?_
        exact wk
  clear hs s
  by_cases hf : foll acc b = true
  case neg =>
    have hf : foll acc b = false := by simpa using hf
    rw [hf]
    refine SWp.of (by kernel_rfl) ?_
    simp (disch := first | omega | (simp only [go_sem]; first | done | omega)) only [go_sem]
    exact Ret.drop hH (Nat.le_refl _) trivial (hk2 rfl hf)
  rw [hf]
  have hk3 := hk3 rfl hf
  clear hk1 hk2 hfo hf
  refine SWp.of (by kernel_rfl) ?_
  simp (disch := first | omega | (simp only [go_sem]; first | done | omega)) only [go_sem]
  obtain ⟨acc', hacc⟩ : ∃ acc', acc' = acc ++ [⟨b, ss⟩] := ⟨_, rfl⟩
  rw [← hacc] at hk3
  have hle : lastE acc' = putT (lastE acc) ⟨b, ss⟩ := by rw [hacc, lastE_snoc]
  refine SWp.cut (H.length + 1) [0, 3, 4] [] (fun (s : Unit) => True) (fun (s : Unit) => []) (fun (s : Unit) => H.set m (lastMp acc') ++ [.row 106 7 [encBk b] true]) (fun _ => rfl) (by kernel_rfl) (by first | (simp; done) | omega) (by first | (simp; done) | (simp; omega) | omega) kl ?_ (fun s hs _ _ => ?_)
  · refine SWp.of (by kernel_rfl) ?_
    cases ho : b.over
    · have hes : lastMp acc' = mpO ((upsert (kq b.tag) (b.tag, b.last) (lastE acc)).map encE) := by
        unfold lastMp; rw [hle]; unfold putT; rw [if_neg (by rw [ho]; decide)]
      simp (disch := first | omega | (simp only [go_sem]; first | done | omega)) only [go_sem, encBk, ho]
      repeat' (first | ((first | refine acond_d ?_ ?_ | refine acond_b ?_ ?_ | refine ag_d ?_ ?_ | refine ag_n ?_ ?_ | refine ag_bt ?_ ?_ | refine ag_bf ?_ ?_ | refine agt_d ?_ ?_ | refine agt_n ?_ ?_ | refine agt_bt ?_ ?_ | refine agt_bf ?_ ?_) <;> intro c <;> try simp (disch := first | omega | (simp only [go_sem]; first | done | omega)) only [go_sem, c, hc, hm2, encBk]) | ((first | refine w_draw (by kernel_rfl) (by decide +kernel) ?_ | refine mup_mp (by kernel_rfl) (put_E b.tag b.last (lastE acc) (by kernel_rfl)) ?_ | refine w_tree (.one 0 (.one 1 (.one 2 (.one 3 (.one 4 (.one 5 (.one 6 (.one 7 (.one 8 .done))))))))) (by kernel_rfl) (by decide +kernel) ?_) <;> try simp (disch := first | omega | (simp only [go_sem]; first | done | omega)) only [go_sem, hc, hm2, encBk]) | (refine And.intro ?_ ?_ <;> try simp (disch := first | omega | (simp only [go_sem]; first | done | omega)) only [go_sem, hc, hm2, encBk]))
      all_goals
        refine Next.mk () trivial ?_
        rw [hes]
        exact wk
    · have hes : lastMp acc' = lastMp acc := by
        unfold lastMp; rw [hle]; unfold putT; rw [if_pos ho]
      rw [hes, set_same hm]
      simp (disch := first | omega | (simp only [go_sem]; first | done | omega)) only [go_sem, encBk, ho]
      refine Next.mk () trivial ?_
      exact wk
  clear hs s
  obtain ⟨G, hG⟩ : ∃ G, G = H.set m (lastMp acc') := ⟨_, rfl⟩
  have hGl : G.length = H.length := by rw [hG, List.length_set]
  have hGk : HOk G := by rw [hG]; exact HOk.set hH (lastMp_ok acc' _)
  have hcG : G[c]? = some (wlk 180 l p j m acc) := by rw [hG, List.getElem?_set_ne (Ne.symm hcm)]; exact hc
  have hjG : G[j]? = some (grO 215 8 (acc.map encPc)) := by rw [hG, List.getElem?_set_ne (Ne.symm hjm)]; exact hj
  rw [← hG] at hk3 ⊢
  rw [← hGl] at hk3 ⊢
  have hcl : c < G.length := by omega
  have hjl : j < G.length := by omega
  have hsum : (p : Int) + b.long = ((p + b.long.toNat : Nat) : Int) := by omega
  refine SWp.go (by kernel_rfl) ?_
  repeat' (first | ((first | refine acond_d ?_ ?_ | refine acond_b ?_ ?_ | refine ag_d ?_ ?_ | refine ag_n ?_ ?_ | refine ag_bt ?_ ?_ | refine ag_bf ?_ ?_ | refine agt_d ?_ ?_ | refine agt_n ?_ ?_ | refine agt_bt ?_ ?_ | refine agt_bf ?_ ?_) <;> intro c <;> try simp (disch := first | omega | (simp only [go_sem]; first | done | omega)) only [go_sem, c, hcG, hjG, hcj, encBk]) | ((first | refine w_draw (by kernel_rfl) (by decide +kernel) ?_ | refine appPart acc ⟨b, ss⟩ acc' hacc (get_old hjG _) (at1 rfl) (by omega) ?_ | refine w_tree (.one 0 (.one 1 (.one 2 (.one 3 (.one 4 (.one 5 (.one 6 (.one 7 (.one 8 (.one 9 (.one 10 (.one 11 (.one 12 .done))))))))))))) (by kernel_rfl) (by decide +kernel) ?_) <;> try simp (disch := first | omega | (simp only [go_sem]; first | done | omega)) only [go_sem, hcG, hjG, hcj, encBk]) | (refine And.intro ?_ ?_ <;> try simp (disch := first | omega | (simp only [go_sem]; first | done | omega)) only [go_sem, hcG, hjG, hcj, encBk]))
  all_goals
    refine SWp.go (by kernel_rfl) ?_
    repeat' (first | ((first | refine acond_d ?_ ?_ | refine acond_b ?_ ?_ | refine ag_d ?_ ?_ | refine ag_n ?_ ?_ | refine ag_bt ?_ ?_ | refine ag_bf ?_ ?_ | refine agt_d ?_ ?_ | refine agt_n ?_ ?_ | refine agt_bt ?_ ?_ | refine agt_bf ?_ ?_) <;> intro c <;> try simp (disch := first | omega | (simp only [go_sem]; first | done | omega)) only [go_sem, c, hcG, hcj, hcl, hjl, encBk, hsum]) | ((first | refine w_draw (by kernel_rfl) (by decide +kernel) ?_ | refine w_tree (.one 0 (.one 1 (.one 2 (.one 3 (.one 4 (.one 5 (.one 6 (.one 7 (.one 8 (.one 9 .done)))))))))) (by kernel_rfl) (by decide +kernel) ?_) <;> try simp (disch := first | omega | (simp only [go_sem]; first | done | omega)) only [go_sem, hcG, hcj, hcl, hjl, encBk, hsum]) | (refine And.intro ?_ ?_ <;> try simp (disch := first | omega | (simp only [go_sem]; first | done | omega)) only [go_sem, hcG, hcj, hcl, hjl, encBk, hsum]))
  all_goals
    refine SWp.of (by kernel_rfl) ?_
    simp (disch := first | omega | (simp only [go_sem]; first | done | omega)) only [go_sem]
    refine Ret.pickC [2] (HOk.set hGk (o := .dead) trivial) (by simp) (by simpa using hcl) (o' := wlk 180 l (p + b.long.toNat) G.length m acc') ?_ ?_ (L := [grO 215 8 (acc'.map encPc)]) ?_ (by simp) ?_ (v' := (.c (.int .i64 0))) (by simp [AV.ren, AV.ren1, AC.ren]) (by simp [AV.ok, AV.ok1, AC.ok]) (by simpa using hk3)
    · rw [List.length_set]
      have e1 : pickS G.length [2] m = m := by unfold pickS; rw [if_pos (by omega)]
      simp only [wlk, row_ren, List.map_cons, List.map_nil, grV_ren]
      simp only [AC.ren, e1, pickS_zero]
      rfl
    · rw [List.length_set]
      intro e he
      simp only [wlk, List.mem_singleton] at he
      subst he
      refine ⟨rfl, ?_⟩
      simp only [List.forall_mem_cons, List.not_mem_nil, false_implies, implies_true, and_true]
      exact ⟨trivial, trivial, grV_ok (by simp) _, by show m < _; omega⟩
    · simp only [List.map_cons, List.map_nil]
      rw [grO_ren _ _ _ (pureL_Pc acc')]
      rfl
    · intro o ho
      simp only [List.mem_singleton] at ho
      subst ho
      exact okN_grO (fun x => by simp [encPc, AC.pure])
end Go.Proofs.YtnodfnjmhcjnfaaGreatDoor
