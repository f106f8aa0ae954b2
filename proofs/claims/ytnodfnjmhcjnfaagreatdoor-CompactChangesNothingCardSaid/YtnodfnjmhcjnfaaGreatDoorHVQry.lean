/- The program's query of a walker: the last sample of each moment, in order. Condition: moments are not huge. -/
import Derived.Test.YtnodfnjmhcjnfaaGreatDoorHVWalk2
import Derived.Test.YtnodfnjmhcjnfaaGreatDoorHVSrtM
namespace Go.Proofs.YtnodfnjmhcjnfaaGreatDoor
open Go Go.RowKit Go.Shelf
set_option maxRecDepth 100000
set_option linter.all false
set_option maxHeartbeats 2000000
variable {H : Hp} {K : AV → Hp → Prop}
theorem qrySubW : ByT 213 := by
  refine ⟨fun args w => enters_of Tryz.func213 (by kernel_rfl) rfl args w, fun x y W hx hy => ?_⟩
  have w1 := wrapT hx hy
  show Calls _ _ #[.agg #[.int .i64 x.t, .int .i64 x.v, .int .i64 x.q], .agg #[.int .i64 y.t, .int .i64 y.v, .int .i64 y.q]] _ _
  go_enter Tryz.func213, Tryz.ntmps213
  go_wp2
  go_ret
  exact ⟨rfl, 0, _, alloc2T _ _ _⟩
def flatQ (tag : ByteArray) (a b : Int) (x : Pc) : List Smp := if x.b.tag = tag then x.ss.filter (fun y => decide (a ≤ y.t ∧ y.t < b)) else []
def qryF (ps : List Pc) (tag : ByteArray) (a b : Int) : List Smp := serM (pfS (ps.flatMap (flatQ tag a b)))
theorem appSm {i q ty : Nat} {own : Bool} {J : AV → Hp → Prop} (l : List Smp) (x : Smp) (l2 : List Smp) (e : l2 = l ++ [x]) (hi : H[i]? = some (grO 38 3 (l.map encS))) (hj : H[q]? = some (.row ty 3 [encS x] own)) (hb : l.length ≤ 1000000000)
    (h : J (.c (grV H.length l2)) (H.set i .dead ++ [grO 38 3 (l2.map encS)])) : aBuiltin Tryz.prog .append #[26, 26] [.c (grV i l), .c (.sl (some (q, 0)) 1)] H J := by
  subst e
  exact app_grR (enc := encS) (e := 38) (sz := 3) (bs := 24) (z := [.int .i64 0, .int .i64 0, .int .i64 0]) l [x] (by kernel_rfl) (by kernel_rfl) (by kernel_rfl) (by kernel_rfl) hi (by rw [hj]; rfl) (by simp) rfl (by decide) (by simp; omega) (by simp; omega) h
theorem pfS_app (F : List Smp) (x : Smp) : pfS (F ++ [x]) = putS x (pfS F) := by unfold pfS; rw [List.foldl_append]; rfl
theorem pfS_sub (l : List Smp) : ∀ x ∈ pfS l, x ∈ l := by
  have key : ∀ (l m : List Smp), ∀ x ∈ l.foldl (fun m x => putS x m) m, x ∈ m ∨ x ∈ l := by
    intro l
    induction l with
    | nil => intro m x hx; exact .inl hx
    | cons y r ih =>
      intro m x hx
      rcases ih _ x hx with h | h
      · rcases putS_mem h with rfl | h
        · exact .inr (by simp)
        · exact .inl h
      · exact .inr (by simp [h])
  intro x hx
  rcases key l [] x hx with h | h
  · cases h
  · exact h
theorem flatQ_sub {tag : ByteArray} {a b : Int} {x : Pc} : (flatQ tag a b x).Sublist x.ss := by
  unfold flatQ
  split
  · exact List.filter_sublist
  · exact List.nil_sublist _
theorem flatm_len {α β : Type} (f g : α → List β) (h : ∀ x, (f x).Sublist (g x)) : ∀ l : List α, (l.flatMap f).length ≤ (l.flatMap g).length
  | [] => Nat.le_refl _
  | x :: r => by
    have := flatm_len f g h r
    have h2 := (h x).length_le
    rw [List.flatMap_cons, List.flatMap_cons, List.length_append, List.length_append]
    omega
theorem wkQ {n cc : Nat} {k k' : Int} {bs : List Nat} {w : Win} {M : List Smp} {L : Hp} (hH : HOk H) (hn : n ≤ H.length + 2) (e : k = k') : WkL n [(.c (.int .i64 k))] (H ++ .row 45 2 [encW w] true :: mdO bs cc M :: L) [(.c (.int .i64 k'))] (H ++ [.row 45 2 [encW w] true, mdO bs cc M]) := by
  subst e
  refine WkL.keepL hH rfl hn rfl (fun o ho => ?_) (by simp [AV.ok, AV.ok1, AC.ok])
  simp only [List.mem_cons, List.not_mem_nil, or_false] at ho
  rcases ho with rfl | rfl
  · exact okN_map (l := [w]) (fun x => by simp [go_sem, AC.pure])
  · exact md_okN
theorem query_a {c j m p : Nat} (l : List UInt8) (acc : List Pc) (tag : ByteArray) (w : Win) (hal : acc.length ≤ 1000000) (hS : (acc.flatMap (fun x => x.ss)).length ≤ 1000000) (hr : ∀ x ∈ acc, ∀ y ∈ x.ss, smOk y) (hc : H[c]? = some (wlk 180 l p j m acc)) (hj : H[j]? = some (grO 215 8 (acc.map encPc)))
    (hk : K (.c (.lst 3 ((qryF acc tag w.a w.b).map encS))) H) : ACalls Tryz.prog 130 [.c (.ptr (some (c, 0, 0))), (.c (.str tag)), .agg (encW w)] H K := by
  have hcl := getElem?_lt hc
  have hjl := getElem?_lt hj
  unfold wlk at hc
  have hFl := flatm_len (flatQ tag w.a w.b) (fun x : Pc => x.ss) (fun x => flatQ_sub) acc
  have hFs : ∀ y ∈ acc.flatMap (flatQ tag w.a w.b), smOk y := fun y hy => by
    obtain ⟨x, hx, hy⟩ := List.mem_flatMap.1 hy
    exact hr x hx y (flatQ_sub.subset hy)
  unfold qryF at hk
  refine acalls Tryz.func130 rfl (by kernel_rfl) (by simp (disch := first | omega | (simp only [go_sem]; first | done | omega)) only [go_sem]) (fun hH => ?_)
  simp (disch := first | omega | (simp only [go_sem]; first | done | omega)) only [go_sem, hc]
  rw [md_nil]
  refine AWp.loop (H.length + 2) [1, 5, 7, 19, 20] [21] (fun (u : Nat × List Nat × Nat) => u.1 ≤ acc.length ∧ MdOk u.2.1 u.2.2 (pfS ((acc.take u.1).flatMap (flatQ tag w.a w.b)))) (fun (u : Nat × List Nat × Nat) => [(21, (.c (.int .i64 (u.1))))]) (fun (u : Nat × List Nat × Nat) => H ++ [.row 45 2 [encW w] true, mdO u.2.1 u.2.2 (pfS ((acc.take u.1).flatMap (flatQ tag w.a w.b)))]) (fun (u : Nat × List Nat × Nat) => acc.length - u.1) (by kernel_rfl) (fun _ => rfl) (by kernel_rfl) (by first | (simp; done) | omega) (by first | (simp; done) | (simp; omega) | omega) kl ?_ (fun u hu _ _ => ?_)
  · refine Next.mk (0, [], 0) ⟨Nat.zero_le _, mdOk_nil⟩ ?_
    simp (disch := first | omega | (simp only [go_sem]; first | done | omega)) only [go_sem]
    exact wkQ hH (by simp) (by omega)
  obtain ⟨k, bs, cc⟩ := u
  obtain ⟨q1, ok⟩ := hu
  dsimp only at q1 ok ⊢
  by_cases hlt : k < acc.length
  · obtain ⟨x, hx⟩ : ∃ x, x = acc[k] := ⟨_, rfl⟩
    have htk : (acc.take (k + 1)).flatMap (flatQ tag w.a w.b) = (acc.take k).flatMap (flatQ tag w.a w.b) ++ flatQ tag w.a w.b x := by
      rw [List.take_succ_eq_append_getElem hlt, ← hx, List.flatMap_append]
      simp
    have hne : acc ≠ [] := by rintro rfl; simp at hlt
    have hxl : x.ss.length ≤ 1000000 := by
      have h1 : (x.ss).length ≤ (acc.flatMap (fun x => x.ss)).length := by
        obtain ⟨a, b, e⟩ := List.append_of_mem (hx ▸ List.getElem_mem hlt : x ∈ acc)
        rw [e, List.flatMap_append, List.flatMap_cons, List.length_append, List.length_append]
        omega
      omega
    have hj2 := hj
    rw [grO_pos _ _ (by simpa using hne)] at hj2
    rw [grV_pos _ hne]
    by_cases ht : x.b.tag = tag
    · have hg : flatQ tag w.a w.b x = x.ss.filter (fun y => decide (w.a ≤ y.t ∧ y.t < w.b)) := by unfold flatQ; rw [if_pos ht]
      rw [hg] at htk
      generalize (acc.take k).flatMap (flatQ tag w.a w.b) = F at *
      simp (disch := first | omega | (simp only [go_sem]; first | done | omega)) only [go_sem, hlt, ← hx, ht, hj2]
      refine AWp.loop (H.length + 2) [1, 5, 7, 19, 20, 21, 31, 32] [33] (fun (u : Nat × List Nat × Nat) => u.1 ≤ x.ss.length ∧ MdOk u.2.1 u.2.2 (pfS (F ++ (x.ss.take u.1).filter (fun y => decide (w.a ≤ y.t ∧ y.t < w.b))))) (fun (u : Nat × List Nat × Nat) => [(33, (.c (.int .i64 (u.1))))]) (fun (u : Nat × List Nat × Nat) => H ++ [.row 45 2 [encW w] true, mdO u.2.1 u.2.2 (pfS (F ++ (x.ss.take u.1).filter (fun y => decide (w.a ≤ y.t ∧ y.t < w.b))))]) (fun (u : Nat × List Nat × Nat) => x.ss.length - u.1) (by kernel_rfl) (fun _ => rfl) (by kernel_rfl) (by first | (simp; done) | omega) (by first | (simp; done) | (simp; omega) | omega) kl ?_ (fun u hu _ _ => ?_)
      · refine Next.mk (0, bs, cc) ⟨Nat.zero_le _, by simpa using ok⟩ ?_
        rw [List.take_zero, List.filter_nil, List.append_nil]
        simp (disch := first | omega | (simp only [go_sem]; first | done | omega)) only [go_sem]
        exact wkQ hH (by simp) (by omega)
      obtain ⟨i, bs1, cc1⟩ := u
      obtain ⟨q2, ok1⟩ := hu
      dsimp only at q2 ok1 ⊢
      by_cases hi : i < x.ss.length
      · obtain ⟨y, hy⟩ : ∃ y, y = x.ss[i] := ⟨_, rfl⟩
        have hfl : (x.ss.take (i + 1)).filter (fun y => decide (w.a ≤ y.t ∧ y.t < w.b)) = (x.ss.take i).filter (fun y => decide (w.a ≤ y.t ∧ y.t < w.b)) ++ (if decide (w.a ≤ y.t ∧ y.t < w.b) = true then [y] else []) := by
          rw [List.take_succ_eq_append_getElem hi, ← hy, List.filter_append]
          congr 1
          rw [List.filter_cons]
          rfl
        generalize (x.ss.take i).filter (fun y => decide (w.a ≤ y.t ∧ y.t < w.b)) = G at *
        simp (disch := first | omega | (simp only [go_sem]; first | done | omega)) only [go_sem, hi, ← hy]
        refine inW2_a _ _ _ ?_
        by_cases hb : w.a ≤ y.t ∧ y.t < w.b
        · rw [if_pos (decide_eq_true hb)] at hfl
          rw [decide_eq_true hb]
          simp (disch := first | omega | (simp only [go_sem]; first | done | omega)) only [go_sem]
          refine mup_md ok1 (by kernel_rfl) (by kernel_rfl) (fun bs' c' ok' => ?_)
          simp (disch := first | omega | (simp only [go_sem]; first | done | omega)) only [go_sem]
          rw [← pfS_app] at ok' ⊢
          refine Next.mk (i + 1, bs', c') ⟨⟨by dsimp only; omega, by dsimp only; rw [hfl, ← List.append_assoc]; exact ok'⟩, by dsimp only; omega⟩ ?_
          dsimp only
          rw [hfl, ← List.append_assoc]
          simp (disch := first | omega | (simp only [go_sem]; first | done | omega)) only [go_sem]
          exact wkQ hH (by simp) (by omega)
        · rw [if_neg (by simp [hb]), List.append_nil] at hfl
          rw [decide_eq_false hb]
          simp (disch := first | omega | (simp only [go_sem]; first | done | omega)) only [go_sem]
          refine Next.mk (i + 1, bs1, cc1) ⟨⟨by dsimp only; omega, by dsimp only; rw [hfl]; exact ok1⟩, by dsimp only; omega⟩ ?_
          dsimp only
          rw [hfl]
          simp (disch := first | omega | (simp only [go_sem]; first | done | omega)) only [go_sem]
          exact wkQ hH (by simp) (by omega)
      · have hil : i = x.ss.length := by omega
        subst hil
        rw [List.take_length] at ok1
        simp (disch := first | omega | (simp only [go_sem]; first | done | omega)) only [go_sem]
        refine Next.mk (k + 1, bs1, cc1) ⟨⟨by dsimp only; omega, by dsimp only; rw [htk]; exact ok1⟩, by dsimp only; omega⟩ ?_
        dsimp only
        rw [htk]
        simp (disch := first | omega | (simp only [go_sem]; first | done | omega)) only [go_sem]
        try rw [List.take_length]
        exact wkQ hH (by simp) (by omega)
    · have hg : flatQ tag w.a w.b x = [] := by unfold flatQ; rw [if_neg ht]
      rw [hg, List.append_nil] at htk
      simp (disch := first | omega | (simp only [go_sem]; first | done | omega)) only [go_sem, hlt, ← hx, ht, hj2]
      refine Next.mk (k + 1, bs, cc) ⟨⟨by dsimp only; omega, by dsimp only; rw [htk]; exact ok⟩, by dsimp only; omega⟩ ?_
      dsimp only
      rw [htk]
      simp (disch := first | omega | (simp only [go_sem]; first | done | omega)) only [go_sem]
      exact wkQ hH (by simp) (by omega)
  · have hka : k = acc.length := by omega
    subst hka
    rw [List.take_length] at ok
    simp (disch := first | omega | (simp only [go_sem]; first | done | omega)) only [go_sem]
    generalize acc.flatMap (flatQ tag w.a w.b) = F at *
    have hPm : ∀ x ∈ pfS F, smOk x := fun x hx => hFs x (pfS_sub F x hx)
    have hMl : (pfS F).length ≤ 1000000 := by
      have h1 := puts_len F []
      have h2 : (pfS F).length ≤ F.length := by simpa [pfS] using h1
      omega
    have hnd := ok.keys
    refine AWp.loop (H.length + 3) [48] [12] (fun (u : List Nat × List Smp) => u.1.Nodup ∧ (∀ b ∈ u.1, b ∈ bs) ∧ u.2.length = u.1.length ∧ (u.2.map (·.t)).Nodup ∧ (∀ y ∈ u.2, ∃ (i b : Nat), bs[i]? = some b ∧ b ∈ u.1 ∧ (pfS F)[i]? = some y) ∧ ∀ (i b : Nat) (y : Smp), bs[i]? = some b → b ∈ u.1 → (pfS F)[i]? = some y → y ∈ u.2) (fun (u : List Nat × List Smp) => [(12, .c (grV (H.length + 3) u.2))]) (fun (u : List Nat × List Smp) => H ++ [.row 45 2 [encW w] true, mdO bs cc (pfS F), itO cc (H.length + 1) u.1, grO 38 3 (u.2.map encS)]) (fun (u : List Nat × List Smp) => bs.length - u.1.length) (by kernel_rfl) (fun _ => rfl) (by kernel_rfl) (by first | (simp; done) | omega) (by first | (simp; done) | (simp; omega) | omega) kl ?_ (fun u hu _ _ => ?_)
    · refine Next.mk ([], []) ⟨by simp, by simp, rfl, by simp, by simp, by simp⟩ ?_
      simp (disch := first | omega | (simp only [go_sem]; first | done | omega)) only [go_sem]
      exact WkL.padP [_, _, _] (by simp)
    obtain ⟨seen, out⟩ := u
    obtain ⟨s1, s2, s3, s4, s5, s6⟩ := hu
    dsimp only at s1 s2 s3 s4 s5 s6 ⊢
    simp (disch := first | omega | (simp only [go_sem]; first | done | omega)) only [go_sem]
    refine next_md ok (fun hall => ?_) (fun i b x hb hx hs => ?_)
    · have hmem : ∀ x, x ∈ out ↔ x ∈ pfS F := fun x => by
        constructor
        · intro hx
          obtain ⟨i, b, _, _, h⟩ := s5 x hx
          exact List.mem_of_getElem? h
        · intro hx
          obtain ⟨i, hi, rfl⟩ := List.mem_iff_getElem.1 hx
          have hib : i < bs.length := by rw [ok.len]; exact hi
          exact s6 i bs[i] _ (by simp [hib]) (hall _ (List.getElem_mem hib)) (by simp [hi])
      have hol : out.length ≤ 1000000 := by
        have h1 : seen.length ≤ bs.length := nd_le s1 s2
        have := ok.len
        omega
      simp (disch := first | omega | (simp only [go_sem]; first | done | omega)) only [go_sem]
      refine sortT_a qrySubW out (by first | ((repeat first | exact at0 (by simp) | refine atS ?_); done) | assumption) (fun x hx => hPm x ((hmem x).1 hx)) hol (fun l' hp hso => ?_)
      have e := sorted_ser hp hso s4 hnd (fnd_mems s4 hnd hmem)
      have hlen := hp.length_eq
      rw [← e] at hk
      simp (disch := first | omega | (simp only [go_sem]; first | done | omega)) only [go_sem]
      rw [grV_lenQ (H.length + 3) out l' hlen.symm]
      exact Ret.frzGr 3 hH (Nat.le_refl _) rfl (pureL_map _ (fun x => by simp [go_sem, AC.pure])) (map_grV _ _ _).symm hk
    · have hlt : bs.length - (seen ++ [b]).length < bs.length - seen.length := by
        have h1 : (seen ++ [b]).length ≤ bs.length := nd_le (by rw [List.nodup_append]; exact ⟨s1, by simp, fun a ha b' hb' e => by simp only [List.mem_singleton] at hb'; subst hb'; subst e; exact hs ha⟩) (by intro a ha; rcases List.mem_append.1 ha with h | h; exact s2 a h; simp only [List.mem_singleton] at h; subst h; exact List.mem_of_getElem? hb)
        rw [List.length_append, List.length_singleton] at h1 ⊢
        omega
      have hol : out.length ≤ 1000000 := by
        have h1 : seen.length ≤ bs.length := nd_le s1 s2
        have := ok.len
        omega
      obtain ⟨out2, ho2⟩ : ∃ out2, out2 = out ++ [x] := ⟨_, rfl⟩
      have hinv : (seen ++ [b]).Nodup ∧ (∀ b' ∈ seen ++ [b], b' ∈ bs) ∧ out2.length = (seen ++ [b]).length ∧ (out2.map (·.t)).Nodup ∧ (∀ y ∈ out2, ∃ (i b' : Nat), bs[i]? = some b' ∧ b' ∈ seen ++ [b] ∧ (pfS F)[i]? = some y) ∧ ∀ (i b' : Nat) (y : Smp), bs[i]? = some b' → b' ∈ seen ++ [b] → (pfS F)[i]? = some y → y ∈ out2 := by
        subst ho2
        refine ⟨?_, ?_, by simp [s3], ?_, ?_, ?_⟩
        · rw [List.nodup_append]
          exact ⟨s1, by simp, fun a ha b' hb' e => by simp only [List.mem_singleton] at hb'; subst hb'; subst e; exact hs ha⟩
        · intro a ha
          rcases List.mem_append.1 ha with h | h
          · exact s2 a h
          · simp only [List.mem_singleton] at h
            subst h
            exact List.mem_of_getElem? hb
        · rw [List.map_append, List.nodup_append]
          refine ⟨s4, by simp, fun a ha b' hb' e => ?_⟩
          simp only [List.map_cons, List.map_nil, List.mem_singleton] at hb'
          obtain ⟨y, hy, rfl⟩ := List.mem_map.1 ha
          obtain ⟨i', b2, h1, h2, h3⟩ := s5 y hy
          have : i' = i := nd_inj hnd (i := i') (j := i) (a := x.t) (by rw [List.getElem?_map, h3, ← hb', ← e]; rfl) (by rw [List.getElem?_map, hx]; rfl)
          subst this
          rw [hb] at h1
          injection h1 with h1
          subst h1
          exact hs h2
        · intro y hy
          rcases List.mem_append.1 hy with h | h
          · obtain ⟨i', b2, h1, h2, h3⟩ := s5 y h
            exact ⟨i', b2, h1, List.mem_append_left _ h2, h3⟩
          · simp only [List.mem_singleton] at h
            subst h
            exact ⟨i, b, hb, by simp, hx⟩
        · intro i' b2 y h1 h2 h3
          rcases List.mem_append.1 h2 with h | h
          · exact List.mem_append_left _ (s6 i' b2 y h1 h h3)
          · simp only [List.mem_singleton] at h
            subst h
            have : i' = i := nd_inj ok.nd h1 hb
            subst this
            rw [hx] at h3
            injection h3 with h3
            subst h3
            simp
      simp (disch := first | omega | (simp only [go_sem]; first | done | omega)) only [go_sem]
      refine entry_md ok hb hx ?_
      simp (disch := first | omega | (simp only [go_sem]; first | done | omega)) only [go_sem]
      refine appSm out x out2 ho2 (by first | exact at3 (by omega) | exact at3 (by simp)) (by first | exact at5 (by omega) | exact at5 (by simp) | exact at4 (by simp)) (by omega) ?_
      simp (disch := first | omega | (simp only [go_sem]; first | done | omega)) only [go_sem]
      refine Next.mk (seen ++ [b], out2) ⟨hinv, hlt⟩ ?_
      simp (disch := first | omega | (simp only [go_sem]; first | done | omega)) only [go_sem]
      refine WkL.pickAt [.row 45 2 [encW w] true, mdO bs cc (pfS F), itO cc (H.length + 1) (seen ++ [b])] [3] (L := [grO 38 3 (out2.map encS)]) hH ?_ ?_ ?_ (by simp) ?_ ?_ ?_
      · intro o ho
        simp only [List.mem_cons, List.not_mem_nil, or_false] at ho
        rcases ho with rfl | rfl | rfl
        · exact okN_map (l := [w]) (fun x => by simp [go_sem, AC.pure])
        · exact md_okN
        · exact it_okN (by simp)
      · simp
      · rfl
      · simp only [List.all_cons, List.all_nil, Bool.and_true]
        exact pureO_gr (pureL_map _ (fun x => by simp [go_sem, AC.pure]))
      · simp only [List.map_cons, List.map_nil, av_ren_gr]
        simp [AV.ren, AV.ren1, AC.ren, pickS]
      · simp only [List.forall_mem_cons, List.not_mem_nil, false_implies, implies_true, and_true]
        exact grV_ok (by simp) _
end Go.Proofs.YtnodfnjmhcjnfaaGreatDoor
