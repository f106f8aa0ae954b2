/- Steps applied to a buffer. Condition: at most 2000 of them. -/
import Derived.Test.YtnodfnjmhcjnfaaGreatDoorHVNodeE
import Derived.Test.YtnodfnjmhcjnfaaGreatDoorHVPlayM
namespace Go.Proofs.YtnodfnjmhcjnfaaGreatDoor
open Go Go.RowKit
set_option maxRecDepth 100000
set_option linter.all false
set_option maxHeartbeats 2000000
variable {H : Hp} {K : AV → Hp → Prop}
theorem ext_of {H G : Hp} (h : ∀ (q : Nat) (o : AObj), H[q]? = some o → G[q]? = some o) : ∃ L, G = H ++ L := by
  refine ⟨G.drop H.length, ?_⟩
  have e : G.take H.length = H := by
    apply List.ext_getElem?
    intro i
    rcases Nat.lt_or_ge i H.length with hi | hi
    · rw [List.getElem?_take, if_pos hi, h i _ (List.getElem?_eq_getElem hi), List.getElem?_eq_getElem hi]
    · rw [List.getElem?_take, if_neg (by omega), List.getElem?_eq_none hi]
  conv => lhs; rw [← List.take_append_drop H.length G]
  rw [e]
theorem WkL.pad5 {A : Hp} {m : Nat} {vs : List AV} (L : Hp) (hm : m ≤ A.length + L.length) : WkL m vs (A ++ L) vs (A ++ (L ++ [.dead, .dead, .dead, .dead, .dead])) := by
  have h : ∀ L' : Hp, m ≤ A.length + L'.length → WkL m vs (A ++ L') vs (A ++ (L' ++ [.dead])) := fun L' h => by rw [← List.append_assoc]; exact WkL.pad (by rw [List.length_append]; omega)
  have h5 := ((((h L hm).trans (h _ (by simp; omega))).trans (h _ (by simp; omega))).trans (h _ (by simp; omega))).trans (h _ (by simp; omega))
  simpa using h5
theorem appE {i q ty : Nat} {own : Bool} {J : AV → Hp → Prop} (l : List Int) (x : Int) (l2 : List Int) (e : l2 = l ++ [x]) (hi : H[i]? = some (grO 29 1 (l.map encI))) (hj : H[q]? = some (.row ty 1 [encI x] own)) (hb : l.length ≤ 1000000000)
    (h : J (.c (grV H.length l2)) (H.set i .dead ++ [grO 29 1 (l2.map encI)])) : aBuiltin Tryz.prog .append #[160, 160] [.c (grV i l), .c (.sl (some (q, 0)) 1)] H J := by
  subst e
  exact app_grR (enc := encI) (e := 29) (sz := 1) (bs := 8) (z := [.int .i64 0]) l [x] (by kernel_rfl) (by kernel_rfl) (by kernel_rfl) (by kernel_rfl) hi (by rw [hj]; rfl) (by simp) rfl (by decide) (by simp; omega) (by simp; omega) h
def rstL (l : List Hd) (j : Nat) : List Hd := (l.take j).map (fun x => ⟨x.p, false⟩) ++ l.drop j
theorem rstL_len (l : List Hd) (j : Nat) : (rstL l j).length = l.length := by
  unfold rstL
  rw [List.length_append, List.length_map, List.length_take, List.length_drop]
  omega
theorem rstL_get (l : List Hd) (j : Nat) (h : j < l.length) (h' : j < (rstL l j).length) : (rstL l j)[j] = l[j] := by
  have e : ((l.take j).map (fun x => (⟨x.p, false⟩ : Hd))).length = j := by rw [List.length_map, List.length_take]; omega
  have h2 : (rstL l j)[j]? = some l[j] := by
    unfold rstL
    rw [List.getElem?_append_right (by omega), e, Nat.sub_self, List.getElem?_drop, Nat.add_zero, List.getElem?_eq_getElem h]
  rw [List.getElem?_eq_getElem h'] at h2
  exact Option.some.inj h2
theorem rstL_next (l : List Hd) (j : Nat) (h : j < l.length) : (rstL l j).set j ⟨l[j].p, false⟩ = rstL l (j + 1) := by
  have e : ((l.take j).map (fun x => (⟨x.p, false⟩ : Hd))).length = j := by rw [List.length_map, List.length_take]; omega
  unfold rstL
  rw [List.set_append_right _ _ (by omega), e, Nat.sub_self, List.drop_eq_getElem_cons h, List.set_cons_zero, List.take_succ_eq_append_getElem h, List.map_append]
  simp
theorem rstL_0 (l : List Hd) : rstL l 0 = l := by simp [rstL]
theorem rstL_all (l : List Hd) (j : Nat) (h : l.length ≤ j) : rstL l j = l.map (fun x => ⟨x.p, false⟩) := by
  unfold rstL
  rw [List.take_of_length_le h, List.drop_eq_nil_of_le h, List.append_nil]
theorem nplay_a (c p : Int) (l : List Stp) (hlen : l.length ≤ 2000) (hcnt : ∀ x ∈ l, x.kind = 2 → x.count ≤ 1000000)
    (hk : ∀ L s, NodeAt (H.length + 1) (fun q => H[q]?) c p (playF c p l) s (H ++ L) → K (.c (.ptr (some (H.length + 1, 0, 0)))) (H ++ L)) : ACalls Tryz.prog 144 [(.c (.int .i64 c)), (.c (.int .i64 p)), .c (.lst 7 (l.map encStp))] H K := by
  obtain ⟨inv, hinv⟩ : ∃ inv : Nm × Hp × Nat → Prop, inv = fun q => NodeAt (H.length + 1) (fun q => H[q]?) c p (playF c p (l.take q.2.2)) q.1 q.2.1 ∧ q.2.2 ≤ l.length := ⟨_, rfl⟩
  refine acalls Tryz.func144 rfl (by kernel_rfl) (by simp (disch := first | omega | (simp only [go_sem]; first | done | omega)) only [go_sem]) (fun hH => ?_)
  simp (disch := first | omega | (simp only [go_sem]; first | done | omega)) only [go_sem]
  refine AWp.loop (H.length + 2) [7, 17, 18] [19] (fun (q : Nm × Hp × Nat) => inv q) (fun (q : Nm × Hp × Nat) => [(19, (.c (.int .i64 (q.2.2))))]) (fun (q : Nm × Hp × Nat) => q.2.1) (fun (q : Nm × Hp × Nat) => l.length - q.2.2) (by kernel_rfl) (fun _ => rfl) (by kernel_rfl) (by first | (simp; done) | omega) (by first | (simp; done) | (simp; omega) | omega) kl ?_ (fun q hq hm _ => ?_)
  · refine Next.mk (⟨false, H.length, H.length + 2, H.length + 3, H.length + 4, H.length + 5, H.length + 6⟩, H ++ [everO [], nodeO c p nd0 ⟨false, H.length, H.length + 2, H.length + 3, H.length + 4, H.length + 5, H.length + 6⟩, .dead, .dead, .dead, .dead, .dead], 0) ?_ ?_
    · rw [hinv]
      refine ⟨?_, Nat.zero_le _⟩
      dsimp only
      rw [play_nil]
      refine ⟨?_, ?_, ?_, ?_, ?_, ?_, ?_, ?_, ?_⟩
      · intro q o hq
        have := getElem?_lt hq
        refine ⟨get_old hq _, ?_⟩
        simp only [List.mem_cons, List.not_mem_nil, or_false, not_or]
        omega
      all_goals first
        | (rw [List.getElem?_append_right (by dsimp only; omega)]; dsimp only; rw [show H.length - H.length = 0 by omega]; rfl) | (rw [List.getElem?_append_right (by dsimp only; omega)]; dsimp only; rw [Nat.add_sub_cancel_left]; rfl)
        | (simp; done) | (simp; omega)
    · dsimp only
      exact WkL.pad5 [_, _] (by simp)
  obtain ⟨s', G', k⟩ := q
  rw [hinv] at hq
  obtain ⟨hN', q1⟩ := hq
  dsimp only at hN' q1 hm ⊢
  by_cases hkl : k < l.length
  · have hbd := play_bd c p l k q1 (by omega)
    have hnx := play_next c p hkl
    obtain ⟨x, hx⟩ : ∃ x, x = l[k] := ⟨_, rfl⟩
    rw [← hx] at hnx
    obtain ⟨nd, hnd⟩ : ∃ nd, nd = playF c p (l.take k) := ⟨_, rfl⟩
    rw [← hnd] at hN' hbd hnx
    obtain ⟨b1, b2, b3, b4, b5, b6⟩ := hbd
    have hN1 : ∀ L, NodeAt (H.length + 1) (fun q => H[q]?) c p nd s' (G' ++ L) := fun L => hN'.app L
    have fin : ∀ G2 s2, NodeAt (H.length + 1) (fun q => H[q]?) c p (stepF c p k x nd) s2 G2 → inv (s2, G2, k + 1) := fun G2 s2 h => by
      rw [hinv]
      refine ⟨?_, hkl⟩
      dsimp only
      rw [hnx]
      exact h
    have hpt : ∀ {G2 : Hp} {s2 : Nm} {nd2 : Nd}, NodeAt (H.length + 1) (fun q => H[q]?) c p nd2 s2 G2 → H.length + 2 ≤ G2.length := fun h => getElem?_lt h.hc
    by_cases k1 : x.kind = 1
    · simp (disch := first | omega | (simp only [go_sem]; first | done | omega)) only [go_sem, hkl, ← hx, decide_eq_true k1]
      refine nput_a x (hN1 _) (by omega) (by omega) (by omega) (fun G2 s2 hN2 => ?_)
      have hl2 := hpt hN2
      simp (disch := first | omega | (simp only [go_sem]; first | done | omega)) only [go_sem]
      refine Next.mk (s2, G2, k + 1) ⟨fin _ _ (by unfold stepF; rw [if_pos k1]; exact hN2), by dsimp only; omega⟩ ?_
      exact wk
    by_cases k2 : x.kind = 2
    · simp (disch := first | omega | (simp only [go_sem]; first | done | omega)) only [go_sem, hkl, ← hx, decide_eq_false k1, decide_eq_true k2]
      refine nsend_a x.count (hN1 _) (hcnt x (by rw [hx]; exact List.getElem_mem hkl) k2) (by omega) (by omega) (fun G2 s2 hN2 => ?_)
      have hl2 := hpt hN2
      simp (disch := first | omega | (simp only [go_sem]; first | done | omega)) only [go_sem]
      refine Next.mk (s2, G2, k + 1) ⟨fin _ _ (by unfold stepF; rw [if_neg k1, if_pos k2]; exact hN2), by dsimp only; omega⟩ ?_
      exact wk
    by_cases k3 : x.kind = 3
    · simp (disch := first | omega | (simp only [go_sem]; first | done | omega)) only [go_sem, hkl, ← hx, decide_eq_false k1, decide_eq_false k2, decide_eq_true k3]
      refine nack_a x.seq (hN1 _) (by omega) (fun he G2 s2 hN2 => ?_) (fun he G2 s2 hN2 => ?_)
      · have hN := hN2
        have hl2 := hpt hN2
        have es : stepF c p k x nd = { nd with ref := nd.ref ++ [(k : Int)], why := nd.why ++ [ackE x.seq nd] } := by unfold stepF ackF; rw [if_neg k1, if_neg k2, if_pos k3, if_pos he]
        rw [es] at fin
        (obtain ⟨pre, hc, hm, hl, ho, hd, hr, hw, ne⟩ := hN; simp only [List.nodup_cons, List.mem_cons, List.not_mem_nil, or_false, not_or, List.nodup_nil, and_true, not_false_eq_true] at ne; obtain ⟨⟨m1, m2, m3, m4, m5, m6⟩, ⟨n1, n2, n3, n4, n5⟩, ⟨n6, n7, n8, n9⟩, ⟨n10, n11, n12⟩, ⟨n13, n14⟩, n15⟩ := ne; have hcl := getElem?_lt hc; have hml := getElem?_lt hm; have hll := getElem?_lt hl; have hol := getElem?_lt ho; have hdl := getElem?_lt hd; have hrl := getElem?_lt hr; have hwl := getElem?_lt hw)
        obtain ⟨rf, hrf⟩ : ∃ rf, rf = nd.ref ++ [(k : Int)] := ⟨_, rfl⟩
        obtain ⟨wy, hwy⟩ : ∃ wy, wy = nd.why ++ [ackE x.seq nd] := ⟨_, rfl⟩
        rw [← hrf, ← hwy] at fin
        have hc5 := hc
        unfold nodeO at hc5
        simp (disch := first | omega | (simp only [go_sem]; first | done | omega)) only [go_sem, he, hc5, hcl]
        repeat' (first | ((first | refine acond_d ?_ ?_ | refine acond_b ?_ ?_ | refine ag_d ?_ ?_ | refine ag_n ?_ ?_ | refine ag_bt ?_ ?_ | refine ag_bf ?_ ?_ | refine agt_d ?_ ?_ | refine agt_n ?_ ?_ | refine agt_bt ?_ ?_ | refine agt_bf ?_ ?_) <;> intro c <;> try simp (disch := first | omega | (simp only [go_sem]; first | done | omega)) only [go_sem, c, hc5, hcl, hr, hrl, hw, hwl, m4, m5, m6, n15]) | ((first | refine w_draw (by kernel_rfl) (by decide +kernel) ?_ | refine appI nd.ref (k : Int) rf hrf (get_old hr _) (at0 rfl) (by omega) ?_ | refine appE nd.why (ackE x.seq nd) wy hwy (get_s2 hw (by omega) (by omega)) (by first | ((repeat first | exact at0 (by simp) | refine atS ?_); done) | assumption) (by omega) ?_ | refine w_tree (.one 0 (.one 1 (.one 2 (.one 3 (.one 4 (.one 5 (.one 6 (.one 7 (.one 8 (.one 9 (.one 10 .done))))))))))) (by kernel_rfl) (by decide +kernel) ?_ | refine w_tree (.one 0 (.one 1 (.one 2 (.one 3 (.one 4 (.one 5 (.one 6 (.one 7 (.one 8 (.one 9 (.one 10 .done))))))))))) (by kernel_rfl) (by decide +kernel) ?_) <;> try simp (disch := first | omega | (simp only [go_sem]; first | done | omega)) only [go_sem, hc5, hcl, hr, hrl, hw, hwl, m4, m5, m6, n15]) | (refine And.intro ?_ ?_ <;> try simp (disch := first | omega | (simp only [go_sem]; first | done | omega)) only [go_sem, hc5, hcl, hr, hrl, hw, hwl, m4, m5, m6, n15]))
        all_goals
          refine Next.mk ({ s2 with r := G2.length + 1, w := G2.length + 3 }, _, k + 1) ⟨fin _ _ ⟨?_, ?_, ?_, ?_, ?_, ?_, ?_, ?_, ?_⟩, by dsimp only; omega⟩ (WkL.eq (by simp; omega) rfl)
          all_goals (first | (simp only [List.nodup_cons, List.mem_cons, List.not_mem_nil, or_false, not_or, List.nodup_nil, and_true, not_false_eq_true]; (try dsimp only); (repeat' apply And.intro) <;> omega) | (intro q o hq; obtain ⟨g1, g2⟩ := pre q o hq; have g3 := getElem?_lt g1; simp only [List.mem_cons, List.not_mem_nil, or_false, not_or] at g2 ⊢; refine ⟨?_, by (try dsimp only); omega⟩; (try rw [List.getElem?_append_left (by (try simp only [List.length_set]); omega)]); (repeat rw [List.getElem?_set_ne (by omega)]); exact g1) | ((try dsimp only); (try rw [List.getElem?_append_left (by (try simp only [List.length_set]); omega)]); (repeat rw [List.getElem?_set_ne (by omega)]); first | assumption | (rw [List.getElem?_set_self (by (try simp only [List.length_set]); omega)]; done) | (rw [List.getElem?_set_self (by (try simp only [List.length_set]); omega)]; rfl) | (rw [List.getElem?_set_self (by (try simp only [List.length_set]); omega)]; simp [nodeO, hdV, hdO, *]; done)) | ((try dsimp only); rw [List.getElem?_append_right (by (try simp only [List.length_set]); omega)]; (try simp only [List.length_set, Nat.add_sub_cancel_left, Nat.sub_self]); rfl))
      · have hl2 := hpt hN2
        simp (disch := first | omega | (simp only [go_sem]; first | done | omega)) only [go_sem]
        refine Next.mk (s2, G2, k + 1) ⟨fin _ _ (by unfold stepF ackF; rw [if_neg k1, if_neg k2, if_pos k3, if_neg (by omega)]; exact hN2), by dsimp only; omega⟩ ?_
        exact wk
    by_cases k4 : x.kind = 4
    · have hc4 := hN'.hc
      have hcl4 := getElem?_lt hc4
      unfold nodeO at hc4
      have es : stepF c p k x nd = resetF nd := by unfold stepF; rw [if_neg k1, if_neg k2, if_neg k3, if_pos k4]
      rw [es] at fin
      obtain ⟨inv4, hinv4⟩ : ∃ inv4 : Hp × Nat → Prop, inv4 = fun q => NodeAt (H.length + 1) (fun q => H[q]?) c p { nd with l := rstL nd.l q.2 } s' q.1 ∧ q.2 ≤ nd.l.length := ⟨_, rfl⟩
      simp (disch := first | omega | (simp only [go_sem]; first | done | omega)) only [go_sem, hkl, ← hx, decide_eq_false k1, decide_eq_false k2, decide_eq_false k3, decide_eq_true k4, hc4, hcl4]
      refine AWp.loop (H.length + 2) [7, 17, 18, 19, 71] [72] (fun (q : Hp × Nat) => inv4 q) (fun (q : Hp × Nat) => [(72, (.c (.int .i64 (q.2))))]) (fun (q : Hp × Nat) => q.1) (fun (q : Hp × Nat) => nd.l.length - q.2) (by kernel_rfl) (fun _ => rfl) (by kernel_rfl) (by first | (simp; done) | omega) (by first | (simp; done) | (simp; omega) | omega) kl ?_ (fun q hq hm4 _ => ?_)
      · refine Next.mk (G' ++ [.row 88 7 [encStp x] true], 0) (by rw [hinv4]; refine ⟨?_, Nat.zero_le _⟩; dsimp only; rw [rstL_0]; exact hN1 _) ?_
        exact wk
      obtain ⟨G4, j⟩ := q
      rw [hinv4] at hq
      obtain ⟨hN4, q4⟩ := hq
      dsimp only at hN4 q4 hm4 ⊢
      have hl4 := hpt hN4
      by_cases hj : j < nd.l.length
      · obtain ⟨L, hL⟩ : ∃ L, L = rstL nd.l j := ⟨_, rfl⟩
        rw [← hL] at hN4
        have hLl : L.length = nd.l.length := by rw [hL, rstL_len]
        have hLj : j < L.length := by omega
        have hLe : L ≠ [] := by intro h; rw [h] at hLj; simp at hLj
        have hLg : L[j] = nd.l[j] := by subst hL; exact rstL_get nd.l j hj _
        have hLs := rstL_next nd.l j hj
        rw [← hL] at hLs
        have hN := hN4
        (obtain ⟨pre, hc, hm, hl, ho, hd, hr, hw, ne⟩ := hN; simp only [List.nodup_cons, List.mem_cons, List.not_mem_nil, or_false, not_or, List.nodup_nil, and_true, not_false_eq_true] at ne; obtain ⟨⟨m1, m2, m3, m4, m5, m6⟩, ⟨n1, n2, n3, n4, n5⟩, ⟨n6, n7, n8, n9⟩, ⟨n10, n11, n12⟩, ⟨n13, n14⟩, n15⟩ := ne; have hcl := getElem?_lt hc; have hml := getElem?_lt hm; have hll := getElem?_lt hl; have hol := getElem?_lt ho; have hdl := getElem?_lt hd; have hrl := getElem?_lt hr; have hwl := getElem?_lt hw)
        have hc5 := hc
        unfold nodeO at hc5
        dsimp only at hc5 hl
        rw [hdV_pos _ _ hLe] at hc5
        rw [hdO_pos _ hLe] at hl
        simp (disch := first | omega | (simp only [go_sem]; first | done | omega)) only [go_sem, hj, hc5, hcl, hl, hll, hLl]
        refine Next.mk (G4.set s'.l (.row 291 6 ((rstL nd.l (j + 1)).map encHd) true), j + 1) ⟨?_, by dsimp only; omega⟩ ?_
        · rw [hinv4]
          refine ⟨?_, hj⟩
          dsimp only
          have hne2 : rstL nd.l (j + 1) ≠ [] := by intro h; have := rstL_len nd.l (j + 1); rw [h] at this; simp at this; omega
          refine ⟨?_, ?_, ?_, ?_, ?_, ?_, ?_, ?_, ?_⟩
          · (first | (simp only [List.nodup_cons, List.mem_cons, List.not_mem_nil, or_false, not_or, List.nodup_nil, and_true, not_false_eq_true]; (try dsimp only); (repeat' apply And.intro) <;> omega) | (intro q o hq; obtain ⟨g1, g2⟩ := pre q o hq; have g3 := getElem?_lt g1; simp only [List.mem_cons, List.not_mem_nil, or_false, not_or] at g2 ⊢; refine ⟨?_, by (try dsimp only); omega⟩; (try rw [List.getElem?_append_left (by (try simp only [List.length_set]); omega)]); (repeat rw [List.getElem?_set_ne (by omega)]); exact g1) | ((try dsimp only); (try rw [List.getElem?_append_left (by (try simp only [List.length_set]); omega)]); (repeat rw [List.getElem?_set_ne (by omega)]); first | assumption | (rw [List.getElem?_set_self (by (try simp only [List.length_set]); omega)]; done) | (rw [List.getElem?_set_self (by (try simp only [List.length_set]); omega)]; rfl) | (rw [List.getElem?_set_self (by (try simp only [List.length_set]); omega)]; simp [nodeO, hdV, hdO, *]; done)) | ((try dsimp only); rw [List.getElem?_append_right (by (try simp only [List.length_set]); omega)]; (try simp only [List.length_set, Nat.add_sub_cancel_left, Nat.sub_self]); rfl))
          · rw [List.getElem?_set_ne (by omega), hc]
            unfold nodeO
            dsimp only
            rw [hdV_pos _ _ hLe, hdV_pos _ _ hne2, hLl, rstL_len]
          · (first | (simp only [List.nodup_cons, List.mem_cons, List.not_mem_nil, or_false, not_or, List.nodup_nil, and_true, not_false_eq_true]; (try dsimp only); (repeat' apply And.intro) <;> omega) | (intro q o hq; obtain ⟨g1, g2⟩ := pre q o hq; have g3 := getElem?_lt g1; simp only [List.mem_cons, List.not_mem_nil, or_false, not_or] at g2 ⊢; refine ⟨?_, by (try dsimp only); omega⟩; (try rw [List.getElem?_append_left (by (try simp only [List.length_set]); omega)]); (repeat rw [List.getElem?_set_ne (by omega)]); exact g1) | ((try dsimp only); (try rw [List.getElem?_append_left (by (try simp only [List.length_set]); omega)]); (repeat rw [List.getElem?_set_ne (by omega)]); first | assumption | (rw [List.getElem?_set_self (by (try simp only [List.length_set]); omega)]; done) | (rw [List.getElem?_set_self (by (try simp only [List.length_set]); omega)]; rfl) | (rw [List.getElem?_set_self (by (try simp only [List.length_set]); omega)]; simp [nodeO, hdV, hdO, *]; done)) | ((try dsimp only); rw [List.getElem?_append_right (by (try simp only [List.length_set]); omega)]; (try simp only [List.length_set, Nat.add_sub_cancel_left, Nat.sub_self]); rfl))
          · dsimp only
            rw [hdO_pos _ hne2, List.getElem?_set_self hll]
          all_goals (first | (simp only [List.nodup_cons, List.mem_cons, List.not_mem_nil, or_false, not_or, List.nodup_nil, and_true, not_false_eq_true]; (try dsimp only); (repeat' apply And.intro) <;> omega) | (intro q o hq; obtain ⟨g1, g2⟩ := pre q o hq; have g3 := getElem?_lt g1; simp only [List.mem_cons, List.not_mem_nil, or_false, not_or] at g2 ⊢; refine ⟨?_, by (try dsimp only); omega⟩; (try rw [List.getElem?_append_left (by (try simp only [List.length_set]); omega)]); (repeat rw [List.getElem?_set_ne (by omega)]); exact g1) | ((try dsimp only); (try rw [List.getElem?_append_left (by (try simp only [List.length_set]); omega)]); (repeat rw [List.getElem?_set_ne (by omega)]); first | assumption | (rw [List.getElem?_set_self (by (try simp only [List.length_set]); omega)]; done) | (rw [List.getElem?_set_self (by (try simp only [List.length_set]); omega)]; rfl) | (rw [List.getElem?_set_self (by (try simp only [List.length_set]); omega)]; simp [nodeO, hdV, hdO, *]; done)) | ((try dsimp only); rw [List.getElem?_append_right (by (try simp only [List.length_set]); omega)]; (try simp only [List.length_set, Nat.add_sub_cancel_left, Nat.sub_self]); rfl))
        · rw [← hLs, List.map_set]
          dsimp only
          simp only [encHd, hLg]
          exact wk
      · simp (disch := first | omega | (simp only [go_sem]; first | done | omega)) only [go_sem, hj]
        refine Next.mk (s', G4, k + 1) ⟨fin _ _ ?_, by dsimp only; omega⟩ ?_
        · unfold resetF
          rw [← rstL_all nd.l j (by omega)]
          exact hN4
        · exact wk
    · simp (disch := first | omega | (simp only [go_sem]; first | done | omega)) only [go_sem, hkl, ← hx, decide_eq_false k1, decide_eq_false k2, decide_eq_false k3, decide_eq_false k4]
      have hl2 := hpt (hN1 [.row 88 7 [encStp x] true])
      refine Next.mk (s', _, k + 1) ⟨fin _ _ (by unfold stepF; rw [if_neg k1, if_neg k2, if_neg k3, if_neg k4]; exact hN1 [.row 88 7 [encStp x] true]), by dsimp only; omega⟩ ?_
      exact wk
  · simp (disch := first | omega | (simp only [go_sem]; first | done | omega)) only [go_sem, hkl]
    rw [List.take_of_length_le (by omega)] at hN'
    obtain ⟨L, rfl⟩ := ext_of (fun q o h => (hN'.pre q o h).1)
    exact Ret.same (by simp) (hk L s' hN')
end Go.Proofs.YtnodfnjmhcjnfaaGreatDoor
