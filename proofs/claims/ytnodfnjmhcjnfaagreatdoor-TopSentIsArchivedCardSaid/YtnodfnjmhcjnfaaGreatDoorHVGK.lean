/- Several texts in one: What a buffer does: no program in sight, and what follows. No condition. -/
import Derived.Test.YtnodfnjmhcjnfaaGreatDoorHVBack
import Derived.Test.YtnodfnjmhcjnfaaGreatDoorHVDecTop
import Derived.Test.YtnodfnjmhcjnfaaGreatDoorHVGF
/- What a buffer does: no program in sight. No condition. -/
namespace Go.Proofs.YtnodfnjmhcjnfaaGreatDoor
open Go Go.RowKit
set_option maxRecDepth 100000
set_option linter.all false
structure Pk where
  n : Int
  tag : ByteArray
  s : Smp
structure Hd where
  p : Pk
  sent : Bool
structure Nd where
  last : Int
  l : List Hd
  ever : List Int
  acked : Int
  out : List Pk
  drp : List Int
  ref : List Int
  why : List Int
  most : Int
structure Stp where
  kind : Int
  count : Int
  seq : Int
  tag : ByteArray
  s : Smp
def nd0 : Nd := ⟨0, [], [], 0, [], [], [], [], 0⟩
def thinG : Nat → Nat → List Hd → List Int → List Hd × List Int
  | 0, _, l, d => (l, d)
  | f + 1, i, l, d => if h : i < l.length then thinG f (i + 1) (l.eraseIdx i) (d ++ [l[i].p.n]) else (l, d)
def roomF (p : Int) (l : List Hd) (d : List Int) : List Hd × List Int :=
  if p = 1 then (l.eraseIdx 0, d ++ (l.take 1).map (fun x => x.p.n)) else if p = 3 then thinG l.length 1 l d else (l, d)
def putF (c p : Int) (x : Stp) (nd : Nd) : Nd :=
  if 0 < c ∧ (nd.l.length : Int) = c then
    (if p = 2 then { nd with last := nd.last + 1, drp := nd.drp ++ [nd.last + 1] }
    else { nd with last := nd.last + 1, l := (roomF p nd.l nd.drp).1 ++ [⟨⟨nd.last + 1, x.tag, x.s⟩, false⟩], drp := (roomF p nd.l nd.drp).2, most := max nd.most ((roomF p nd.l nd.drp).1.length + 1) })
  else { nd with last := nd.last + 1, l := nd.l ++ [⟨⟨nd.last + 1, x.tag, x.s⟩, false⟩], most := max nd.most (nd.l.length + 1) }
def addE (l : List Int) (n : Int) : List Int := if n ∈ l then l else l ++ [n]
def sendG : Int → List Hd → List Hd × List Pk
  | _, [] => ([], [])
  | c, x :: t => if 0 < c ∧ x.sent = false then (⟨x.p, true⟩ :: (sendG (c - 1) t).1, x.p :: (sendG (c - 1) t).2) else (x :: (sendG c t).1, (sendG c t).2)
def sendF (c : Int) (nd : Nd) : Nd := { nd with l := (sendG c nd.l).1, out := nd.out ++ (sendG c nd.l).2, ever := ((sendG c nd.l).2.map (fun q => q.n)).foldl addE nd.ever }
def ackE (seq : Int) (nd : Nd) : Int := if seq ≠ 0 ∧ ¬ seq ∈ nd.ever then 8 else if seq < nd.acked then 7 else 0
def ackF (k : Nat) (seq : Int) (nd : Nd) : Nd :=
  if ackE seq nd ≠ 0 then { nd with ref := nd.ref ++ [(k : Int)], why := nd.why ++ [ackE seq nd] }
  else { nd with acked := seq, l := nd.l.filter (fun x => decide (seq < x.p.n)) }
def resetF (nd : Nd) : Nd := { nd with l := nd.l.map (fun x => ⟨x.p, false⟩) }
def stepF (c p : Int) (k : Nat) (x : Stp) (nd : Nd) : Nd :=
  if x.kind = 1 then putF c p x nd else if x.kind = 2 then sendF x.count nd else if x.kind = 3 then ackF k x.seq nd else if x.kind = 4 then resetF nd else nd
def playF (c p : Int) (l : List Stp) : Nd := l.zipIdx.foldl (fun nd x => stepF c p x.2 x.1 nd) nd0
theorem play_next (c p : Int) {l : List Stp} {k : Nat} (h : k < l.length) : playF c p (l.take (k + 1)) = stepF c p k l[k] (playF c p (l.take k)) := by
  unfold playF
  rw [List.take_succ_eq_append_getElem h, List.zipIdx_append, List.foldl_append]
  simp [List.length_take, Nat.min_eq_left (Nat.le_of_lt h)]
theorem play_nil (c p : Int) (l : List Stp) : playF c p (l.take 0) = nd0 := rfl
/-! ### what stays -/
def sq (l : List Hd) : List Int := l.map (fun x => x.p.n)
theorem thin_perm : ∀ (f i : Nat) (l : List Hd) (d : List Int), ∃ e, (thinG f i l d).2 = d ++ e ∧ (thinG f i l d).1.Sublist l ∧ (sq (thinG f i l d).1 ++ e).Perm (sq l)
  | 0, _, l, d => ⟨[], by simp [thinG], List.Sublist.refl _, by simp [thinG]⟩
  | f + 1, i, l, d => by
    unfold thinG
    split
    · rename_i h
      obtain ⟨e, h1, h2, h3⟩ := thin_perm f (i + 1) (l.eraseIdx i) (d ++ [l[i].p.n])
      refine ⟨l[i].p.n :: e, by rw [h1]; simp, h2.trans (List.eraseIdx_sublist _ _), ?_⟩
      have h4 : (l[i] :: l.eraseIdx i).Perm l := by
        rw [List.eraseIdx_eq_take_drop_succ]
        have e : l = l.take i ++ l[i] :: l.drop (i + 1) := by rw [List.getElem_cons_drop, List.take_append_drop]
        have h5 := List.perm_middle (l₁ := l.take i) (l₂ := l.drop (i + 1)) (a := l[i])
        rw [← e] at h5
        exact h5.symm
      have h5 : (l[i].p.n :: sq (l.eraseIdx i)).Perm (sq l) := by
        have := h4.map (fun x : Hd => x.p.n)
        simpa [sq] using this
      exact (List.perm_middle).trans ((h3.cons _).trans h5)
    · exact ⟨[], by simp, List.Sublist.refl _, by simp⟩
theorem sq_send : ∀ (c : Int) (l : List Hd), sq (sendG c l).1 = sq l
  | _, [] => rfl
  | c, x :: t => by
    unfold sendG
    split
    · simp only [sq, List.map_cons]; exact congrArg _ (sq_send (c - 1) t)
    · simp only [sq, List.map_cons]; exact congrArg _ (sq_send c t)
theorem sq_len (l : List Hd) : (sq l).length = l.length := by simp [sq]
/-! ### rows -/
end Go.Proofs.YtnodfnjmhcjnfaaGreatDoor
/- Held packets deleted in place. No condition. -/
namespace Go.Proofs.YtnodfnjmhcjnfaaGreatDoor
open Go Go.RowKit
set_option maxRecDepth 100000
set_option linter.all false
set_option maxHeartbeats 1000000
variable {H : Hp} {K : AV → Hp → Prop}
def encPk (x : Pk) : List AC := [.int .i64 x.n, .str x.tag, .int .i64 x.s.t, .int .i64 x.s.v, .int .i64 x.s.q]
def encHd (x : Hd) : List AC := [.int .i64 x.p.n, .str x.p.tag, .int .i64 x.p.s.t, .int .i64 x.p.s.v, .int .i64 x.p.s.q, .bool x.sent]
def encStp (x : Stp) : List AC := [.int .i64 x.kind, .int .i64 x.count, .int .i64 x.seq, .str x.tag, .int .i64 x.s.t, .int .i64 x.s.v, .int .i64 x.s.q]
attribute [go_sem] encPk encHd encStp
def zHd : List AC := [.int .i64 0, .str ⟨#[]⟩, .int .i64 0, .int .i64 0, .int .i64 0, .bool false]
theorem indexRowHd_a (f : FuncId) (caps : List (Nat × Nat × Nat)) (p : Hd → Bool) (he : entersB Tryz.prog f = true) (hc : ∀ (a b c : Nat), (a, b, c) ∈ caps → a < H.length) {i ty n : Nat} {own : Bool} (l : List Hd) (hi : H[i]? = some (.row ty 6 (l.map encHd) own)) (hn : n = l.length) (hf : ∀ (x : Hd) (K : AV → Hp → Prop), x ∈ l → K (.c (.bool (p x))) H → ACalls Tryz.prog f (.agg (encHd x) :: caps.map fun q => .c (.ptr (some q))) H K) (hlen : l.length ≤ 1099511627776)
    (hk0 : l.any p = false → K (.c (.int .i64 (-1))) H) (hk1 : ∀ k : Nat, (h : k < l.length) → p l[k] = true → (∀ j (h : j < l.length), j < k → p l[j] = false) → K (.c (.int .i64 k)) H) : ACalls Tryz.prog 335 [.c (.sl (some (i, 0)) n), .c (.fn f [] caps)] H K := by
  subst hn
  have hilt := getElem?_lt hi
  refine acalls Tryz.func335 rfl (by kernel_rfl) (by simp (disch := first | omega | (simp only [go_sem]; first | done | omega)) only [go_sem]) (fun hH => ?_)
  simp (disch := first | omega | (simp only [go_sem]; first | done | omega)) only [go_sem]
  refine AWp.loop (H.length) [0, 1, 7] [8] (fun (k : Nat) => k ≤ l.length ∧ ∀ j (h : j < l.length), j < k → p l[j] = false) (fun (k : Nat) => [(8, (.c (.int .i64 k)))]) (fun (k : Nat) => H) (fun (k : Nat) => l.length - k) (by kernel_rfl) (fun _ => rfl) (by kernel_rfl) (by first | (simp; done) | omega) (by first | (simp; done) | (simp; omega) | omega) kl ?_ (fun k hk1' _ _ => ?_)
  · exact Next.mk 0 (by simp) wk
  obtain ⟨hk1', hk2⟩ := hk1'
  by_cases hlt : k < l.length
  · simp (disch := first | omega | (simp only [go_sem]; first | done | omega)) only [go_sem, he, hi]
    refine hf l[k] _ (List.getElem_mem hlt) ?_
    simp (disch := first | omega | (simp only [go_sem]; first | done | omega)) only [go_sem]
    refine acond_b (fun c => ?_) (fun c => ?_)
    · simp (disch := first | omega | (simp only [go_sem]; first | done | omega)) only [go_sem]
      exact Ret.same (Nat.le_refl _) (hk1 k hlt c hk2)
    · simp (disch := first | omega | (simp only [go_sem]; first | done | omega)) only [go_sem]
      refine Next.mk (k + 1) ⟨⟨by omega, fun j h hj => ?_⟩, by omega⟩ wk
      rcases Nat.lt_or_ge j k with h1 | h1
      · exact hk2 j h h1
      · obtain rfl : j = k := by omega
        simpa using c
  · simp (disch := first | omega | (simp only [go_sem]; first | done | omega)) only [go_sem]
    refine Ret.same (Nat.le_refl _) (hk0 ?_)
    rw [List.any_eq_false]
    intro x hx
    obtain ⟨j, hj, rfl⟩ := List.getElem_of_mem hx
    simpa using hk2 j hj (by omega)
theorem delOwnHd_a (f : FuncId) (caps : List (Nat × Nat × Nat)) (p : Hd → Bool) (he : entersB Tryz.prog f = true) (hc : ∀ (a b c : Nat), (a, b, c) ∈ caps → a < H.length) {i n : Nat} (hci : ∀ (a b c : Nat), (a, b, c) ∈ caps → a ≠ i) (l : List Hd) (hi : H[i]? = some (.row 291 6 (l.map encHd) true)) (hn : n = l.length) (hf : ∀ (G : Hp) (x : Hd) (K : AV → Hp → Prop), (∀ (a b c : Nat), (a, b, c) ∈ caps → G[a]? = H[a]?) → x ∈ l → K (.c (.bool (p x))) G → ACalls Tryz.prog f (.agg (encHd x) :: caps.map fun q => .c (.ptr (some q))) G K) (hlen : l.length ≤ 1000000)
    (hk : K (.c (.sl (some (i, 0)) (l.filter (fun x => !p x)).length)) (H.set i (.row 291 6 ((l.filter (fun x => !p x)).map encHd) true))) : ACalls Tryz.prog 293 [.c (.sl (some (i, 0)) n), .c (.fn f [] caps)] H K := by
  subst hn
  have hilt := getElem?_lt hi
  refine acalls Tryz.func293 rfl (by kernel_rfl) (by simp (disch := first | omega | (simp only [go_sem]; first | done | omega)) only [go_sem]) (fun hH => ?_)
  simp (disch := first | omega | (simp only [go_sem]; first | done | omega)) only [go_sem]
  refine indexRowHd_a f caps p he hc l hi rfl (fun x K hx hK => hf H x K (fun _ _ _ _ => rfl) hx hK) (by omega) (fun h0 => ?_) (fun q hq hpq hbe => ?_)
  · simp (disch := first | omega | (simp only [go_sem]; first | done | omega)) only [go_sem]
    have e : l.filter (fun x => !p x) = l := by
      rw [List.filter_eq_self]
      intro x hx
      have := List.any_eq_false.1 h0 x hx
      simpa using this
    rw [e] at hk
    rw [set_same hi] at hk
    exact Ret.same (by simpa [AV.ok, AV.ok1, AC.ok] using hilt) hk
  · have hfq : (l.take q).filter (fun x => !p x) = l.take q := by
      rw [List.filter_eq_self]
      intro x hx
      obtain ⟨j, hj, rfl⟩ := List.getElem_of_mem hx
      rw [List.length_take] at hj
      rw [List.getElem_take, hbe j (by omega) (by omega)]
      rfl
    have hfq1 : (l.take (q + 1)).filter (fun x => !p x) = l.take q := by
      rw [List.take_succ_eq_append_getElem hq, List.filter_append, hfq]
      simp [hpq]
    simp (disch := first | omega | (simp only [go_sem]; first | done | omega)) only [go_sem]
    refine AWp.loop (H.length) [0, 1] [6, 5] (fun (s : Nat × List Hd) => q + 1 ≤ s.1 ∧ s.1 ≤ l.length ∧ s.2.length = l.length ∧ ((l.take s.1).filter (fun x => !p x)).length < s.1 ∧ s.2.take ((l.take s.1).filter (fun x => !p x)).length = (l.take s.1).filter (fun x => !p x) ∧ s.2.drop s.1 = l.drop s.1) (fun (s : Nat × List Hd) => [(6, (.c (.int .i64 (s.1)))), (5, (.c (.int .i64 (((l.take s.1).filter (fun x => !p x)).length))))]) (fun (s : Nat × List Hd) => H.set i (.row 291 6 (s.2.map encHd) true)) (fun (s : Nat × List Hd) => l.length - s.1) (by kernel_rfl) (fun _ => rfl) (by kernel_rfl) (by first | (simp; done) | omega) (by first | (simp; done) | (simp; omega) | omega) kl ?_ (fun s hs _ _ => ?_)
    · refine Next.mk (q + 1, l) ⟨Nat.le_refl _, by dsimp only; omega, rfl, by dsimp only; rw [hfq1, List.length_take]; omega, by dsimp only; rw [hfq1, List.length_take, Nat.min_eq_left (by omega)], rfl⟩ ?_
      have hlq : ((l.take (q + 1)).filter (fun x => !p x)).length = q := by rw [hfq1, List.length_take]; omega
      dsimp only
      rw [hlq, set_same hi]
      exact wk
    obtain ⟨j, cur⟩ := s
    obtain ⟨s1, s2, s3, s4, s5, s6⟩ := hs
    dsimp only at s1 s2 s3 s4 s5 s6
    obtain ⟨g, hg⟩ : ∃ g, g = (l.take j).filter (fun x => !p x) := ⟨_, rfl⟩
    rw [← hg] at s4 s5 ⊢
    have hcaps : ∀ (o : AObj) (M : Hp) (a b c : Nat), (a, b, c) ∈ caps → (H.set i o ++ M)[a]? = H[a]? := fun o M a b c hm => by
      rw [List.getElem?_append_left (by rw [List.length_set]; exact hc a b c hm), List.getElem?_set_ne (Ne.symm (hci a b c hm))]
    by_cases hlt : j < l.length
    · have hjc : j < cur.length := by omega
      have hcj : cur[j] = l[j] := by
        have h1 := congrArg (fun z => z[0]?) s6
        simp only [List.getElem?_drop, Nat.add_zero] at h1
        rw [List.getElem?_eq_getElem hjc, List.getElem?_eq_getElem hlt] at h1
        exact Option.some.inj h1
      have hgc : g.length < cur.length := by omega
      have hnx : (l.take (j + 1)).filter (fun x => !p x) = g ++ (if p l[j] = true then [] else [l[j]]) := by
        rw [List.take_succ_eq_append_getElem hlt, List.filter_append, ← hg]
        congr 1
        by_cases c : p l[j] = true <;> simp [c]
      have hdr : ∀ v, (cur.set g.length v).drop (j + 1) = l.drop (j + 1) := fun v => by
        rw [List.drop_set_of_lt (by omega), ← List.drop_drop, s6, List.drop_drop]
      have hdr0 : cur.drop (j + 1) = l.drop (j + 1) := by rw [← List.drop_drop, s6, List.drop_drop]
      simp (disch := first | omega | (simp only [go_sem]; first | done | omega)) only [go_sem, he, hcj]
      refine hf _ l[j] _ (hcaps _ _) (List.getElem_mem hlt) ?_
      simp (disch := first | omega | (simp only [go_sem]; first | done | omega)) only [go_sem]
      refine acond_b (fun c => ?_) (fun c => ?_)
      · rw [if_pos c, List.append_nil] at hnx
        simp (disch := first | omega | (simp only [go_sem]; first | done | omega)) only [go_sem]
        refine Next.mk (j + 1, cur) ?_ ?_
        · dsimp only; rw [hnx]; exact ⟨⟨by omega, by omega, s3, by omega, s5, hdr0⟩, by omega⟩
        · dsimp only; rw [hnx]; exact wk
      · rw [if_neg (by simp [c])] at hnx
        simp (disch := first | omega | (simp only [go_sem]; first | done | omega)) only [go_sem]
        have hset : (cur.map encHd).set g.length (encHd l[j]) = (cur.set g.length l[j]).map encHd := by rw [List.map_set]
        simp only [encHd] at hset
        refine Next.mk (j + 1, cur.set g.length l[j]) ?_ ?_
        · dsimp only
          rw [hnx]
          refine ⟨⟨by omega, by omega, by simpa using s3, by simp; omega, ?_, hdr _⟩, by omega⟩
          rw [List.length_append, List.length_singleton, List.take_succ_eq_append_getElem (by simpa using hgc), List.getElem_set_self]
          congr 1
          rw [List.take_set_of_le (Nat.le_refl _)]
          exact s5
        · dsimp only
          have hok2 : HOk (H.set i (.row 291 6 ((cur.set g.length l[j]).map encHd) true)) := HOk.set hH (okN_map (fun x => by simp [go_sem, AC.pure]))
          rw [hnx, ← hset]
          rw [← hset] at hok2
          exact wk
    · have hjl : j = l.length := by omega
      subst hjl
      rw [List.take_length] at hg
      rw [← hg] at hk
      simp (disch := first | omega | (simp only [go_sem]; first | done | omega)) only [go_sem]
      refine aclr_pos _ _ (List.getElem?_set_self hilt) (by omega) rfl (by simp; omega) ?_
      rw [List.set_set, ← List.map_take, s5]
      simp (disch := first | omega | (simp only [go_sem]; first | done | omega)) only [go_sem]
      exact Ret.same (by simpa [AV.ok, AV.ok1, AC.ok] using hilt) hk
theorem app_inU {t e i j k n m sz ty2 : Nat} {els els2 : List (List AC)} {z : List AC} {own : Bool} {J : AV → Hp → Prop} (he : elemT Tryz.prog t = some e) (hz : zeroT Tryz.prog e = some z) (hzl : z.length = sz) (hsz : szT Tryz.prog e = sz) (hi : H[i]? = some (.row e sz els true)) (hj : H[j]? = some (.row ty2 sz els2 own))
    (h0 : 0 < sz) (hk : k + m ≤ els2.length) (hfit : n + m ≤ els.length) (hb : (n + m) * Tryz.prog.bytesOf e ≤ 140737488355328) (h63 : n + m ≤ 9223372036854775807) {els3 : List (List AC)} (h3 : els.take n ++ (els2.drop k).take m ++ els.drop (n + m) = els3)
    (h : J (.c (.sl (some (i, 0)) (n + m))) (H.set i (.row e sz els3 true))) :
    aBuiltin Tryz.prog .append #[t, t] [.c (.sl (some (i, 0)) n), .c (.sl (some (j, k)) m)] H J := by
  subst h3
  refine app_in he hz hzl hsz hi hj h0 hk hfit hb h63 (fun hm => ?_) (fun _ => h)
  subst hm
  rw [Nat.add_zero, List.take_zero, List.append_nil, List.take_append_drop, set_same hi] at h
  exact h
theorem app_del {t e i k n m q sz : Nat} {els : List (List AC)} {z : List AC} {J : AV → Hp → Prop} (hn : n = q) (hk' : k = q + 1) (hm : m = els.length - (q + 1)) (hq : q < els.length) (he : elemT Tryz.prog t = some e) (hz : zeroT Tryz.prog e = some z) (hzl : z.length = sz) (hsz : szT Tryz.prog e = sz) (hi : H[i]? = some (.row e sz els true))
    (h0 : 0 < sz) (hb : els.length * Tryz.prog.bytesOf e ≤ 140737488355328) (h63 : els.length ≤ 9223372036854775807) {els3 : List (List AC)} (h3 : els.take q ++ els.drop (q + 1) ++ els.drop (els.length - 1) = els3)
    (h : J (.c (.sl (some (i, 0)) (els.length - 1))) (H.set i (.row e sz els3 true))) :
    aBuiltin Tryz.prog .append #[t, t] [.c (.sl (some (i, 0)) n), .c (.sl (some (i, k)) m)] H J := by
  subst hn; subst hk'; subst hm
  have e1 : n + (els.length - (n + 1)) = els.length - 1 := by omega
  have h9 := Nat.mul_le_mul_right (Tryz.prog.bytesOf e) (show els.length - 1 ≤ els.length by omega)
  refine app_inU (els3 := els3) he hz hzl hsz hi hi h0 (by omega) (by omega) (by rw [e1]; omega) (by omega) ?_ (by rw [e1]; exact h)
  rw [← h3, List.take_of_length_le (l := List.drop _ _) (by simp), e1]
theorem deleteHd_a (l : List Hd) (k : Nat) (hk0 : k < l.length) {i n : Nat} (hi : H[i]? = some (.row 291 6 (l.map encHd) true)) (hn : n = l.length) (hlen : l.length ≤ 1000000)
    (hk : K (.c (.sl (some (i, 0)) (l.eraseIdx k).length)) (H.set i (.row 291 6 ((l.eraseIdx k).map encHd) true))) : ACalls Tryz.prog 334 [.c (.sl (some (i, 0)) n), (.c (.int .i64 k)), (.c (.int .i64 ((k : Int) + 1)))] H K := by
  subst hn
  refine acalls Tryz.func334 rfl (by kernel_rfl) (by simp (disch := first | omega | (simp only [go_sem]; first | done | omega)) only [go_sem]) (fun hH => ?_)
  simp (disch := first | omega | (simp only [go_sem]; first | done | omega)) only [go_sem, hi]
  have hlm : (l.map encHd).length = l.length := by simp
  have hle : (l.eraseIdx k).length = l.length - 1 := by rw [List.length_eraseIdx_of_lt hk0]
  obtain ⟨e3, he3⟩ : ∃ e3, e3 = (l.map encHd).take k ++ (l.map encHd).drop (k + 1) ++ (l.map encHd).drop ((l.map encHd).length - 1) := ⟨_, rfl⟩
  have he4 : e3.take (l.length - 1) = (l.eraseIdx k).map encHd := by
    rw [he3, List.take_append_of_le_length (by simp; omega), List.take_of_length_le (by simp; omega), List.eraseIdx_eq_take_drop_succ, List.map_append, List.map_take, List.map_drop]
  have he5 : e3.length = l.length := by rw [he3]; simp; omega
  have hilt := getElem?_lt hi
  have g1 : k < (l.map encHd).length := by omega
  have g3 : (l.map encHd).length * Tryz.prog.bytesOf 291 ≤ 140737488355328 := by
    rw [show Tryz.prog.bytesOf 291 = 56 by kernel_rfl]; omega
  have g4 : (l.map encHd).length ≤ 9223372036854775807 := by omega
  have g5 : rowN (H.set i (.row 291 6 e3 true)) (some (i, 0)) = l.length := by rw [rowN_of (List.getElem?_set_self hilt)]; omega
  repeat' (first | ((first | refine acond_d ?_ ?_ | refine acond_b ?_ ?_ | refine ag_d ?_ ?_ | refine ag_n ?_ ?_ | refine ag_bt ?_ ?_ | refine ag_bf ?_ ?_ | refine agt_d ?_ ?_ | refine agt_n ?_ ?_ | refine agt_bt ?_ ?_ | refine agt_bf ?_ ?_) <;> intro c <;> try simp (disch := first | omega | (simp only [go_sem]; first | done | omega)) only [go_sem, c, hi]) | ((first | refine w_draw (by kernel_rfl) (by decide +kernel) ?_ | refine app_del (q := k) (e := 291) (sz := 6) (z := zHd) (by omega) (by omega) (by omega) g1 (by kernel_rfl) (by kernel_rfl) rfl (by kernel_rfl) hi (by decide) g3 g4 he3.symm ?_ | refine w_tree (.one 0 (.one 1 (.one 2 (.one 3 (.one 4 (.one 5 (.one 6 (.one 7 .done)))))))) (by kernel_rfl) (by decide +kernel) ?_) <;> try simp (disch := first | omega | (simp only [go_sem]; first | done | omega)) only [go_sem, hi]) | (refine And.intro ?_ ?_ <;> try simp (disch := first | omega | (simp only [go_sem]; first | done | omega)) only [go_sem, hi]))
  refine aclr_pos _ _ (List.getElem?_set_self hilt) (by omega) rfl (by omega) ?_
  rw [List.set_set, he4]
  rw [hle] at hk
  simp (disch := first | omega | (simp only [go_sem]; first | done | omega)) only [go_sem]
  exact Ret.same (by simpa [AV.ok, AV.ok1, AC.ok] using hilt) hk
end Go.Proofs.YtnodfnjmhcjnfaaGreatDoor
/- A buffer's node in memory. No condition. -/
namespace Go.Proofs.YtnodfnjmhcjnfaaGreatDoor
open Go Go.RowKit
set_option maxRecDepth 100000
set_option linter.all false
set_option maxHeartbeats 2000000
variable {H : Hp} {K : AV → Hp → Prop}
structure Nm where
  b : Bool
  m : Nat
  l : Nat
  o : Nat
  d : Nat
  r : Nat
  w : Nat
def hdV (b : Bool) (j : Nat) (l : List Hd) : AC := if b = true then .sl (some (j, 0)) l.length else grV j l
def hdO (b : Bool) (l : List Hd) : AObj := if b = true then .row 291 6 (l.map encHd) true else grO 291 6 (l.map encHd)
def everO (l : List Int) : AObj := mpO (l.map fun n => (.c (.int .i64 n), .c (.bool true)))
def nodeO (c p : Int) (nd : Nd) (s : Nm) : AObj := .row 200 11 [[.int .i64 c, .int .i64 p, .int .i64 nd.last, hdV s.b s.l nd.l, .map (some s.m), .int .i64 nd.acked, grV s.o nd.out, grV s.d nd.drp, grV s.r nd.ref, grV s.w nd.why, .int .i64 nd.most]] true
structure NodeAt (c0 : Nat) (S : Nat → Option AObj) (c p : Int) (nd : Nd) (s : Nm) (G : Hp) : Prop where
  pre : ∀ q o, S q = some o → G[q]? = some o ∧ q ∉ [c0, s.m, s.l, s.o, s.d, s.r, s.w]
  hc : G[c0]? = some (nodeO c p nd s)
  hm : G[s.m]? = some (everO nd.ever)
  hl : G[s.l]? = some (hdO s.b nd.l)
  ho : G[s.o]? = some (grO 95 5 (nd.out.map encPk))
  hd : G[s.d]? = some (grO 3 1 (nd.drp.map encI))
  hr : G[s.r]? = some (grO 3 1 (nd.ref.map encI))
  hw : G[s.w]? = some (grO 29 1 (nd.why.map encI))
  ne : [c0, s.m, s.l, s.o, s.d, s.r, s.w].Nodup
def addS (S : Nat → Option AObj) (i : Nat) (o : AObj) (q : Nat) : Option AObj := if q = i then some o else S q
theorem NodeAt.out {c0 i : Nat} {S : Nat → Option AObj} {o : AObj} {c p : Int} {nd : Nd} {s : Nm} {G : Hp} (h : NodeAt c0 (addS S i o) c p nd s G) (hi : ∀ o, S i ≠ some o) : NodeAt c0 S c p nd s G := by
  obtain ⟨pre, hc, hm, hl, ho, hd, hr, hw, ne⟩ := h
  refine ⟨fun q o hq => pre q o ?_, hc, hm, hl, ho, hd, hr, hw, ne⟩
  unfold addS
  rw [if_neg]
  · exact hq
  · rintro rfl
    exact hi _ hq
theorem hdV_pos (b : Bool) (j : Nat) {l : List Hd} (h : l ≠ []) : hdV b j l = .sl (some (j, 0)) l.length := by
  unfold hdV
  cases b
  · rw [if_neg (by decide), grV_pos _ h]
  · rfl
theorem hdO_pos (b : Bool) {l : List Hd} (h : l ≠ []) : hdO b l = .row 291 6 (l.map encHd) true := by
  unfold hdO
  cases b
  · rw [if_neg (by decide), grO_pos _ _ (by simpa using h)]
  · rfl
theorem get_s2 {G L : Hp} {i j k : Nat} {x o o' : AObj} (h : G[i]? = some x) (h1 : k ≠ i) (h2 : j ≠ i) : ((G.set j o).set k o' ++ L)[i]? = some x := by
  rw [List.getElem?_append_left (by have := getElem?_lt h; simpa using this), List.getElem?_set_ne h1, List.getElem?_set_ne h2]; exact h
theorem appI {i q ty : Nat} {own : Bool} {J : AV → Hp → Prop} (l : List Int) (x : Int) (l2 : List Int) (e : l2 = l ++ [x]) (hi : H[i]? = some (grO 3 1 (l.map encI))) (hj : H[q]? = some (.row ty 1 [encI x] own)) (hb : l.length ≤ 1000000000)
    (h : J (.c (grV H.length l2)) (H.set i .dead ++ [grO 3 1 (l2.map encI)])) : aBuiltin Tryz.prog .append #[22, 22] [.c (grV i l), .c (.sl (some (q, 0)) 1)] H J := by
  subst e
  exact app_grR (enc := encI) (e := 3) (sz := 1) (bs := 8) (z := [.int .i64 0]) l [x] (by kernel_rfl) (by kernel_rfl) (by kernel_rfl) (by kernel_rfl) hi (by rw [hj]; rfl) (by simp) rfl (by decide) (by simp; omega) (by simp; omega) h
theorem drop_a {G : Hp} {c0 : Nat} {S : Nat → Option AObj} {c p : Int} {nd : Nd} {s : Nm} (hN : NodeAt c0 S c p nd s G) (k : Nat) (hk0 : k < nd.l.length) (h1 : nd.l.length ≤ 1000000) (h2 : nd.drp.length ≤ 1000000)
    (hk : ∀ G' s', s'.b = true → NodeAt c0 S c p { nd with l := nd.l.eraseIdx k, drp := nd.drp ++ [nd.l[k].p.n] } s' G' → K (.tup []) G') : ACalls Tryz.prog 292 [.c (.ptr (some (c0, 0, 0))), (.c (.int .i64 k))] G K := by
  (obtain ⟨pre, hc, hm, hl, ho, hd, hr, hw, ne⟩ := hN; simp only [List.nodup_cons, List.mem_cons, List.not_mem_nil, or_false, not_or, List.nodup_nil, and_true, not_false_eq_true] at ne; obtain ⟨⟨m1, m2, m3, m4, m5, m6⟩, ⟨n1, n2, n3, n4, n5⟩, ⟨n6, n7, n8, n9⟩, ⟨n10, n11, n12⟩, ⟨n13, n14⟩, n15⟩ := ne; have hcl := getElem?_lt hc; have hml := getElem?_lt hm; have hll := getElem?_lt hl; have hol := getElem?_lt ho; have hdl := getElem?_lt hd; have hrl := getElem?_lt hr; have hwl := getElem?_lt hw)
  have hne : nd.l ≠ [] := by intro h; rw [h] at hk0; simp at hk0
  have hc' := hc
  unfold nodeO at hc'
  rw [hdV_pos _ _ hne] at hc'
  rw [hdO_pos _ hne] at hl
  refine acallsS Tryz.func292 rfl (by simp (disch := first | omega | (simp only [go_sem]; first | done | omega)) only [go_sem]) (fun hH => ?_)
  obtain ⟨dr, hdr⟩ : ∃ dr, dr = nd.drp ++ [nd.l[k].p.n] := ⟨_, rfl⟩
  refine SWp.go (by kernel_rfl) ?_
  repeat' (first | ((first | refine acond_d ?_ ?_ | refine acond_b ?_ ?_ | refine ag_d ?_ ?_ | refine ag_n ?_ ?_ | refine ag_bt ?_ ?_ | refine ag_bf ?_ ?_ | refine agt_d ?_ ?_ | refine agt_n ?_ ?_ | refine agt_bt ?_ ?_ | refine agt_bf ?_ ?_) <;> intro c <;> try simp (disch := first | omega | (simp only [go_sem]; first | done | omega)) only [go_sem, c, hc', hd, hl, hcl, hdl, hll, m4, m2]) | ((first | refine w_draw (by kernel_rfl) (by decide +kernel) ?_ | refine appI nd.drp nd.l[k].p.n dr hdr (get_old hd _) (at0 rfl) (by omega) ?_ | refine w_tree (.one 0 (.one 1 (.one 2 (.one 3 (.one 4 (.one 5 (.one 6 (.one 7 (.one 8 (.one 9 (.one 10 (.one 11 (.one 12 (.one 13 (.one 14 (.one 15 (.one 16 (.one 17 (.one 18 .done))))))))))))))))))) (by kernel_rfl) (by decide +kernel) ?_) <;> try simp (disch := first | omega | (simp only [go_sem]; first | done | omega)) only [go_sem, hc', hd, hl, hcl, hdl, hll, m4, m2]) | (refine And.intro ?_ ?_ <;> try simp (disch := first | omega | (simp only [go_sem]; first | done | omega)) only [go_sem, hc', hd, hl, hcl, hdl, hll, m4, m2]))
  all_goals
    refine SWp.of (by kernel_rfl) ?_
    simp (disch := first | omega | (simp only [go_sem]; first | done | omega)) only [go_sem, hcl, hll, m4, m2]
    repeat' (first | ((first | refine acond_d ?_ ?_ | refine acond_b ?_ ?_ | refine ag_d ?_ ?_ | refine ag_n ?_ ?_ | refine ag_bt ?_ ?_ | refine ag_bf ?_ ?_) <;> intro c <;> try simp (disch := first | omega | (simp only [go_sem]; first | done | omega)) only [go_sem, c, hcl, hll, m4, m2]) | ((first | refine w_draw (by kernel_rfl) (by decide +kernel) ?_ | refine deleteHd_a nd.l k hk0 (get_s2 hl (by omega) (by omega)) rfl (by omega) ?_) <;> try simp (disch := first | omega | (simp only [go_sem]; first | done | omega)) only [go_sem, hcl, hll, m4, m2]))
  all_goals
    rw [hdr]
    refine Ret.same (by simp) (hk _ { s with b := true, d := G.length + 1 } rfl ⟨?_, ?_, ?_, ?_, ?_, ?_, ?_, ?_, ?_⟩) <;> (first | (simp only [List.nodup_cons, List.mem_cons, List.not_mem_nil, or_false, not_or, List.nodup_nil, and_true, not_false_eq_true]; (try dsimp only); (repeat' apply And.intro) <;> omega) | (intro q o hq; obtain ⟨g1, g2⟩ := pre q o hq; have g3 := getElem?_lt g1; simp only [List.mem_cons, List.not_mem_nil, or_false, not_or] at g2 ⊢; refine ⟨?_, by (try dsimp only); omega⟩; (try rw [List.getElem?_append_left (by (try simp only [List.length_set]); omega)]); (repeat rw [List.getElem?_set_ne (by omega)]); exact g1) | ((try dsimp only); (try rw [List.getElem?_append_left (by (try simp only [List.length_set]); omega)]); (repeat rw [List.getElem?_set_ne (by omega)]); first | assumption | (rw [List.getElem?_set_self (by (try simp only [List.length_set]); omega)]; done) | (rw [List.getElem?_set_self (by (try simp only [List.length_set]); omega)]; rfl) | (rw [List.getElem?_set_self (by (try simp only [List.length_set]); omega)]; simp [nodeO, hdV, hdO, *]; done)) | ((try dsimp only); rw [List.getElem?_append_right (by (try simp only [List.length_set]); omega)]; (try simp only [List.length_set, Nat.add_sub_cancel_left, Nat.sub_self]); rfl))
theorem drop0_a {G : Hp} {c0 : Nat} {S : Nat → Option AObj} {c p : Int} {nd : Nd} {s : Nm} (hN : NodeAt c0 S c p nd s G) (hk0 : 0 < nd.l.length) (h1 : nd.l.length ≤ 1000000) (h2 : nd.drp.length ≤ 1000000)
    (hk : ∀ G' s', s'.b = true → NodeAt c0 S c p { nd with l := nd.l.eraseIdx 0, drp := nd.drp ++ [nd.l[0].p.n] } s' G' → K (.tup []) G') : ACalls Tryz.prog 292 [.c (.ptr (some (c0, 0, 0))), (.c (.int .i64 0))] G K := drop_a hN 0 hk0 h1 h2 hk
end Go.Proofs.YtnodfnjmhcjnfaaGreatDoor
/- A packet put into a buffer. No condition. -/
namespace Go.Proofs.YtnodfnjmhcjnfaaGreatDoor
open Go Go.RowKit
set_option maxRecDepth 100000
set_option linter.all false
set_option maxHeartbeats 2000000
variable {H : Hp} {K : AV → Hp → Prop}
section
variable (P : Program) (J : AV → Hp → Prop)
@[go_sem] theorem blt_lenH (t j : Nat) (b : Bool) (l : List Hd) : aBuiltin P .len #[t] [.c (hdV b j l)] H J = aIf ((elemT P t).isSome = true) (.c (.int .i64 l.length)) H J := by
  cases b <;> cases l <;> rfl
end
theorem take1_n : ∀ (l : List Hd) (h : 0 < l.length), (l.take 1).map (fun x => x.p.n) = [l[0].p.n]
  | z :: t, _ => by simp
theorem appHd {i q ty : Nat} {own b : Bool} {J : AV → Hp → Prop} (l : List Hd) (x : Hd) (l2 : List Hd) (e : l2 = l ++ [x]) (hi : H[i]? = some (hdO b l)) (hj : H[q]? = some (.row ty 6 [encHd x] own)) (hb : l.length ≤ 1000000000)
    (h : J (.c (hdV true H.length l2)) (H.set i .dead ++ [hdO true l2])) : aBuiltin Tryz.prog .append #[197, 197] [.c (hdV b i l), .c (.sl (some (q, 0)) 1)] H J := by
  subst e
  cases b
  · refine app_grR (enc := encHd) (e := 291) (sz := 6) (bs := 56) (z := zHd) l [x] (by kernel_rfl) (by kernel_rfl) (by kernel_rfl) (by kernel_rfl) hi (by rw [hj]; rfl) (by simp) rfl (by decide) (by simp; omega) (by simp; omega) ?_
    rw [grV_pos _ (by simp), grO_pos _ _ (by simp)]
    exact h
  · refine app_sl ?_
    rw [show elemT Tryz.prog 197 = some 291 by kernel_rfl]
    simp only [Option.bind_some, Option.elim_some]
    rw [show zeroT Tryz.prog 291 = some zHd by kernel_rfl, show szT Tryz.prog 291 = 6 by kernel_rfl, show Tryz.prog.bytesOf 291 = 56 by kernel_rfl, hj]
    refine ⟨trivial, rfl, ?_⟩
    show _ ∧ _
    refine ⟨rfl, ?_⟩
    rw [hi]
    show aIf _ _ _ _
    refine ⟨⟨rfl, rfl, by simp, by decide, by simp; omega, by simp; omega⟩, ?_⟩
    rw [show List.take l.length (l.map encHd) = l.map encHd from List.take_of_length_le (by simp)]
    have e1 : hdV true H.length (l ++ [x]) = .sl (some (H.length, 0)) (l.length + 1) := by simp [hdV]
    have e2 : hdO true (l ++ [x]) = .row 291 6 (l.map encHd ++ [encHd x]) true := by simp [hdO]
    rw [e1, e2] at h
    exact h
theorem room_len (p : Int) (l : List Hd) (d : List Int) : (roomF p l d).1.length ≤ l.length := by
  unfold roomF
  split
  · exact (List.eraseIdx_sublist _ _).length_le
  · split
    · obtain ⟨_, _, h, _⟩ := thin_perm l.length 1 l d
      exact h.length_le
    · exact Nat.le_refl _
theorem nput_a {G : Hp} {c0 : Nat} {S : Nat → Option AObj} {cc pp : Int} {nd : Nd} {s : Nm} (x : Stp) (hN : NodeAt c0 S cc pp nd s G) (h1 : nd.l.length ≤ 100000) (h2 : nd.drp.length ≤ 100000) (h3 : 0 ≤ nd.last ∧ nd.last ≤ 100000)
    (hk : ∀ G' s', NodeAt c0 S cc pp (putF cc pp x nd) s' G' → K (.tup []) G') : ACalls Tryz.prog 225 [.c (.ptr (some (c0, 0, 0))), .agg (encStp x)] G K := by
  have hN0 := hN
  (obtain ⟨pre, hc, hm, hl, ho, hd, hr, hw, ne⟩ := hN; simp only [List.nodup_cons, List.mem_cons, List.not_mem_nil, or_false, not_or, List.nodup_nil, and_true, not_false_eq_true] at ne; obtain ⟨⟨m1, m2, m3, m4, m5, m6⟩, ⟨n1, n2, n3, n4, n5⟩, ⟨n6, n7, n8, n9⟩, ⟨n10, n11, n12⟩, ⟨n13, n14⟩, n15⟩ := ne; have hcl := getElem?_lt hc; have hml := getElem?_lt hm; have hll := getElem?_lt hl; have hol := getElem?_lt ho; have hdl := getElem?_lt hd; have hrl := getElem?_lt hr; have hwl := getElem?_lt hw)
  have hc' := hc
  unfold nodeO at hc'
  refine acallsS Tryz.func225 rfl (by simp (disch := first | omega | (simp only [go_sem]; first | done | omega)) only [go_sem]) (fun hH => ?_)
  refine SWp.go (by kernel_rfl) ?_
  simp (disch := first | omega | (simp only [go_sem]; first | done | omega)) only [go_sem]
  refine SWp.go (by kernel_rfl) ?_
  simp (disch := first | omega | (simp only [go_sem]; first | done | omega)) only [go_sem, hc', hcl]
  obtain ⟨y, hy⟩ : ∃ y : Hd, y = ⟨⟨nd.last + 1, x.tag, x.s⟩, false⟩ := ⟨_, rfl⟩
  obtain ⟨nd1, hnd1⟩ : ∃ nd1 : Nd, nd1 = { nd with last := nd.last + 1 } := ⟨_, rfl⟩
  refine SWp.cut (G.length + 1) [0] [4] (fun (u : Unit) => True) (fun (u : Unit) => [(4, .c (.ptr (some (G.length + 1, 0, 0))))]) (fun (u : Unit) => G.set c0 (nodeO cc pp nd1 s) ++ [.row 88 7 [encStp x] true, .row 291 6 [encHd y] true]) (fun _ => rfl) (by kernel_rfl) (by first | (simp; done) | omega) (by first | (simp; done) | (simp; omega) | omega) kl ?_ (fun u _ _ _ => ?_)
  · refine SWp.of (by kernel_rfl) ?_
    repeat' (first | ((first | refine acond_d ?_ ?_ | refine acond_b ?_ ?_ | refine ag_d ?_ ?_ | refine ag_n ?_ ?_ | refine ag_bt ?_ ?_ | refine ag_bf ?_ ?_ | refine agt_d ?_ ?_ | refine agt_n ?_ ?_ | refine agt_bt ?_ ?_ | refine agt_bf ?_ ?_) <;> intro c <;> try simp (disch := first | omega | (simp only [go_sem]; first | done | omega)) only [go_sem, c, hcl]) | ((first | refine w_draw (by kernel_rfl) (by decide +kernel) ?_ | refine w_tree (.one 0 (.one 1 (.one 2 (.one 3 (.one 4 (.one 5 (.one 6 (.one 7 (.one 8 (.one 9 (.one 10 (.one 11 .done)))))))))))) (by kernel_rfl) (by decide +kernel) ?_) <;> try simp (disch := first | omega | (simp only [go_sem]; first | done | omega)) only [go_sem, hcl]) | (refine And.intro ?_ ?_ <;> try simp (disch := first | omega | (simp only [go_sem]; first | done | omega)) only [go_sem, hcl]))
    all_goals
      refine Next.mk () trivial ?_
      rw [hnd1, hy]
      simp (disch := first | omega | (simp only [go_sem]; first | done | omega)) only [go_sem, nodeO]
      exact wk
  have hN1 : NodeAt c0 (addS S (G.length + 1) (.row 291 6 [encHd y] true)) cc pp nd1 s (G.set c0 (nodeO cc pp nd1 s) ++ [.row 88 7 [encStp x] true, .row 291 6 [encHd y] true]) := by
    have key : ∀ q o, S q = some o → (G.set c0 (nodeO cc pp nd1 s) ++ [.row 88 7 [encStp x] true, .row 291 6 [encHd y] true])[q]? = some o ∧ q ∉ [c0, s.m, s.l, s.o, s.d, s.r, s.w] := by (first | (simp only [List.nodup_cons, List.mem_cons, List.not_mem_nil, or_false, not_or, List.nodup_nil, and_true, not_false_eq_true]; (try dsimp only); (repeat' apply And.intro) <;> omega) | (intro q o hq; obtain ⟨g1, g2⟩ := pre q o hq; have g3 := getElem?_lt g1; simp only [List.mem_cons, List.not_mem_nil, or_false, not_or] at g2 ⊢; refine ⟨?_, by (try dsimp only); omega⟩; (try rw [List.getElem?_append_left (by (try simp only [List.length_set]); omega)]); (repeat rw [List.getElem?_set_ne (by omega)]); exact g1) | ((try dsimp only); (try rw [List.getElem?_append_left (by (try simp only [List.length_set]); omega)]); (repeat rw [List.getElem?_set_ne (by omega)]); first | assumption | (rw [List.getElem?_set_self (by (try simp only [List.length_set]); omega)]; done) | (rw [List.getElem?_set_self (by (try simp only [List.length_set]); omega)]; rfl) | (rw [List.getElem?_set_self (by (try simp only [List.length_set]); omega)]; simp [nodeO, hdV, hdO, *]; done)) | ((try dsimp only); rw [List.getElem?_append_right (by (try simp only [List.length_set]); omega)]; (try simp only [List.length_set, Nat.add_sub_cancel_left, Nat.sub_self]); rfl))
    rw [hnd1] at key ⊢
    refine ⟨?_, ?_, ?_, ?_, ?_, ?_, ?_, ?_, ?_⟩
    · intro q o hq
      unfold addS at hq
      split at hq
      · rename_i hq2
        subst hq2
        injection hq with hq
        subst hq
        refine ⟨by rw [List.getElem?_append_right (by simp), List.length_set, Nat.add_sub_cancel_left]; rfl, ?_⟩
        simp only [List.mem_cons, List.not_mem_nil, or_false, not_or]
        omega
      · exact key q o hq
    all_goals (first | (simp only [List.nodup_cons, List.mem_cons, List.not_mem_nil, or_false, not_or, List.nodup_nil, and_true, not_false_eq_true]; (try dsimp only); (repeat' apply And.intro) <;> omega) | (intro q o hq; obtain ⟨g1, g2⟩ := pre q o hq; have g3 := getElem?_lt g1; simp only [List.mem_cons, List.not_mem_nil, or_false, not_or] at g2 ⊢; refine ⟨?_, by (try dsimp only); omega⟩; (try rw [List.getElem?_append_left (by (try simp only [List.length_set]); omega)]); (repeat rw [List.getElem?_set_ne (by omega)]); exact g1) | ((try dsimp only); (try rw [List.getElem?_append_left (by (try simp only [List.length_set]); omega)]); (repeat rw [List.getElem?_set_ne (by omega)]); first | assumption | (rw [List.getElem?_set_self (by (try simp only [List.length_set]); omega)]; done) | (rw [List.getElem?_set_self (by (try simp only [List.length_set]); omega)]; rfl) | (rw [List.getElem?_set_self (by (try simp only [List.length_set]); omega)]; simp [nodeO, hdV, hdO, *]; done)) | ((try dsimp only); rw [List.getElem?_append_right (by (try simp only [List.length_set]); omega)]; (try simp only [List.length_set, Nat.add_sub_cancel_left, Nat.sub_self]); rfl))
  generalize G.set c0 (nodeO cc pp nd1 s) ++ [.row 88 7 [encStp x] true, .row 291 6 [encHd y] true] = G1 at *
  have hpr : G1[G.length + 1]? = some (.row 291 6 [encHd y] true) := (hN1.pre (G.length + 1) _ (by unfold addS; rw [if_pos rfl])).1
  have hG1l := getElem?_lt hpr
  have hc1 := hN1.hc
  unfold nodeO at hc1
  have hcl1 := getElem?_lt hc1
  have hl1 : nd1.l.length ≤ 100000 := by rw [hnd1]; exact h1
  have hd1 : nd1.drp.length ≤ 100000 := by rw [hnd1]; exact h2
  obtain ⟨nd2, hnd2⟩ : ∃ nd2 : Nd, nd2 = if 0 < cc ∧ (nd1.l.length : Int) = cc then { nd1 with l := (roomF pp nd1.l nd1.drp).1, drp := (roomF pp nd1.l nd1.drp).2 } else nd1 := ⟨_, rfl⟩
  obtain ⟨inv, hinv⟩ : ∃ inv : Nm × Hp → Prop, inv = fun s2 => NodeAt c0 (addS S (G.length + 1) (.row 291 6 [encHd y] true)) cc pp nd2 s2.1 s2.2 ∧ ¬ ((0 < cc ∧ (nd1.l.length : Int) = cc) ∧ pp = 2) := ⟨_, rfl⟩
  refine SWp.cut (G.length + 2) [0, 4] [] (fun (s2 : Nm × Hp) => inv s2) (fun (s2 : Nm × Hp) => []) (fun (s2 : Nm × Hp) => s2.2) (fun _ => rfl) (by kernel_rfl) (by first | (simp; done) | omega) (by first | (simp; done) | (simp; omega) | omega) kl ?_ (fun s2 hs2 _ _ => ?_)
  · refine SWp.of (by kernel_rfl) ?_
    have hNs : ∀ (o : AObj), S (G.length + 1) ≠ some o := fun o ho => by have := getElem?_lt (pre _ _ ho).1; omega
    by_cases hfull : 0 < cc ∧ (nd1.l.length : Int) = cc
    · rw [if_pos hfull] at hnd2
      have hl0 : 0 < nd1.l.length := by omega
      by_cases hp2 : pp = 2
      · subst hp2
        obtain ⟨dr, hdr⟩ : ∃ dr, dr = nd1.drp ++ [y.p.n] := ⟨_, rfl⟩
        have e : putF cc 2 x nd = { nd1 with drp := dr } := by
          rw [hdr, hy]
          unfold putF
          rw [hnd1] at hfull ⊢
          rw [if_pos hfull, if_pos rfl]
        rw [e] at hk
        have hN := hN1
        (obtain ⟨pre, hc, hm, hl, ho, hd, hr, hw, ne⟩ := hN; simp only [List.nodup_cons, List.mem_cons, List.not_mem_nil, or_false, not_or, List.nodup_nil, and_true, not_false_eq_true] at ne; obtain ⟨⟨m1, m2, m3, m4, m5, m6⟩, ⟨n1, n2, n3, n4, n5⟩, ⟨n6, n7, n8, n9⟩, ⟨n10, n11, n12⟩, ⟨n13, n14⟩, n15⟩ := ne; have hcl := getElem?_lt hc; have hml := getElem?_lt hm; have hll := getElem?_lt hl; have hol := getElem?_lt ho; have hdl := getElem?_lt hd; have hrl := getElem?_lt hr; have hwl := getElem?_lt hw)
        simp (disch := first | omega | (simp only [go_sem]; first | done | omega)) only [go_sem, hc1, hcl1]
        repeat' (first | ((first | refine acond_d ?_ ?_ | refine acond_b ?_ ?_ | refine ag_d ?_ ?_ | refine ag_n ?_ ?_ | refine ag_bt ?_ ?_ | refine ag_bf ?_ ?_ | refine agt_d ?_ ?_ | refine agt_n ?_ ?_ | refine agt_bt ?_ ?_ | refine agt_bf ?_ ?_) <;> intro c <;> try simp (disch := first | omega | (simp only [go_sem]; first | done | omega)) only [go_sem, c, hc1, hcl1, hd, hdl, hpr]) | ((first | refine w_draw (by kernel_rfl) (by decide +kernel) ?_ | refine appI nd1.drp y.p.n dr hdr (get_old hd _) (at0 rfl) (by omega) ?_ | refine w_tree (.one 0 (.one 1 (.one 2 (.one 3 (.one 4 (.one 5 (.one 6 (.one 7 (.one 8 (.one 9 (.one 10 (.one 11 (.one 12 (.one 13 (.one 14 (.one 15 (.one 16 .done))))))))))))))))) (by kernel_rfl) (by decide +kernel) ?_ | refine w_tree (.one 0 (.one 1 (.one 2 (.one 3 (.one 4 (.one 5 (.one 6 (.one 7 (.one 8 (.one 9 (.one 10 (.one 11 (.one 12 .done))))))))))))) (by kernel_rfl) (by decide +kernel) ?_) <;> try simp (disch := first | omega | (simp only [go_sem]; first | done | omega)) only [go_sem, hc1, hcl1, hd, hdl, hpr]) | (refine And.intro ?_ ?_ <;> try simp (disch := first | omega | (simp only [go_sem]; first | done | omega)) only [go_sem, hc1, hcl1, hd, hdl, hpr]))
        all_goals
          refine Ret.same (by simp; omega) (hk _ { s with d := G1.length + 1 } (NodeAt.out (i := G.length + 1) (o := .row 291 6 [encHd y] true) ⟨?_, ?_, ?_, ?_, ?_, ?_, ?_, ?_, ?_⟩ hNs)) <;> (first | (simp only [List.nodup_cons, List.mem_cons, List.not_mem_nil, or_false, not_or, List.nodup_nil, and_true, not_false_eq_true]; (try dsimp only); (repeat' apply And.intro) <;> omega) | (intro q o hq; obtain ⟨g1, g2⟩ := pre q o hq; have g3 := getElem?_lt g1; simp only [List.mem_cons, List.not_mem_nil, or_false, not_or] at g2 ⊢; refine ⟨?_, by (try dsimp only); omega⟩; (try rw [List.getElem?_append_left (by (try simp only [List.length_set]); omega)]); (repeat rw [List.getElem?_set_ne (by omega)]); exact g1) | ((try dsimp only); (try rw [List.getElem?_append_left (by (try simp only [List.length_set]); omega)]); (repeat rw [List.getElem?_set_ne (by omega)]); first | assumption | (rw [List.getElem?_set_self (by (try simp only [List.length_set]); omega)]; done) | (rw [List.getElem?_set_self (by (try simp only [List.length_set]); omega)]; rfl) | (rw [List.getElem?_set_self (by (try simp only [List.length_set]); omega)]; simp [nodeO, hdV, hdO, *]; done)) | ((try dsimp only); rw [List.getElem?_append_right (by (try simp only [List.length_set]); omega)]; (try simp only [List.length_set, Nat.add_sub_cancel_left, Nat.sub_self]); rfl))
      have hlen : ∀ {s' : Nm} {G' : Hp} {nd' : Nd}, NodeAt c0 (addS S (G.length + 1) (.row 291 6 [encHd y] true)) cc pp nd' s' G' → G.length + 2 ≤ G'.length := fun h => getElem?_lt (h.pre (G.length + 1) _ (by unfold addS; rw [if_pos rfl])).1
      by_cases hp1 : pp = 1
      · subst hp1
        simp (disch := first | omega | (simp only [go_sem]; first | done | omega)) only [go_sem, hc1, hcl1]
        repeat' (first | ((first | refine acond_d ?_ ?_ | refine acond_b ?_ ?_ | refine ag_d ?_ ?_ | refine ag_n ?_ ?_ | refine ag_bt ?_ ?_ | refine ag_bf ?_ ?_ | refine agt_d ?_ ?_ | refine agt_n ?_ ?_ | refine agt_bt ?_ ?_ | refine agt_bf ?_ ?_) <;> intro c <;> try simp (disch := first | omega | (simp only [go_sem]; first | done | omega)) only [go_sem, c, hc1, hcl1]) | ((first | refine w_draw (by kernel_rfl) (by decide +kernel) ?_ | refine drop0_a hN1 hl0 (by omega) (by omega) (fun G' s' hb' hN' => ?_) | refine w_tree (.one 0 (.one 1 (.one 2 (.one 3 (.one 4 (.one 5 (.one 6 (.one 7 (.one 8 (.one 9 (.one 10 (.one 11 (.one 12 (.one 13 (.one 14 (.one 15 (.one 16 .done))))))))))))))))) (by kernel_rfl) (by decide +kernel) ?_) <;> try simp (disch := first | omega | (simp only [go_sem]; first | done | omega)) only [go_sem, hc1, hcl1]) | (refine And.intro ?_ ?_ <;> try simp (disch := first | omega | (simp only [go_sem]; first | done | omega)) only [go_sem, hc1, hcl1]))
        all_goals
          have hl' := hlen hN'
          refine Next.mk (s', G') ?_ ?_
          · rw [hinv, hnd2]
            refine ⟨?_, by omega⟩
            have e := take1_n nd1.l hl0
            unfold roomF
            rw [if_pos rfl]
            dsimp only
            rw [e]
            exact hN'
          · exact wk
      by_cases hp3 : pp = 3
      · subst hp3
        obtain ⟨inv3, hinv3⟩ : ∃ inv3 : Nm × Hp × Nat × List Hd × List Int → Prop, inv3 = fun s3 => NodeAt c0 (addS S (G.length + 1) (.row 291 6 [encHd y] true)) cc 3 { nd1 with l := s3.2.2.2.1, drp := s3.2.2.2.2 } s3.1 s3.2.1 ∧ s3.2.2.2.1.length ≤ 100000 ∧ s3.2.2.2.1.length + s3.2.2.2.2.length ≤ 200000 ∧ ∃ f, s3.2.2.2.1.length ≤ s3.2.2.1 + f ∧ thinG f s3.2.2.1 s3.2.2.2.1 s3.2.2.2.2 = thinG nd1.l.length 1 nd1.l nd1.drp := ⟨_, rfl⟩
        simp (disch := first | omega | (simp only [go_sem]; first | done | omega)) only [go_sem, hc1, hcl1]
        repeat' (first | ((first | refine acond_d ?_ ?_ | refine acond_b ?_ ?_ | refine ag_d ?_ ?_ | refine ag_n ?_ ?_ | refine ag_bt ?_ ?_ | refine ag_bf ?_ ?_ | refine agt_d ?_ ?_ | refine agt_n ?_ ?_ | refine agt_bt ?_ ?_ | refine agt_bf ?_ ?_) <;> intro c <;> try simp (disch := first | omega | (simp only [go_sem]; first | done | omega)) only [go_sem, c, hc1, hcl1]) | ((first | refine w_draw (by kernel_rfl) (by decide +kernel) ?_ | refine w_tree (.one 0 (.one 1 (.one 2 (.one 3 (.one 4 (.one 5 (.one 6 (.one 7 (.one 8 (.one 9 (.one 10 (.one 11 (.one 12 (.one 13 (.one 14 (.one 15 (.one 16 .done))))))))))))))))) (by kernel_rfl) (by decide +kernel) ?_) <;> try simp (disch := first | omega | (simp only [go_sem]; first | done | omega)) only [go_sem, hc1, hcl1]) | (refine And.intro ?_ ?_ <;> try simp (disch := first | omega | (simp only [go_sem]; first | done | omega)) only [go_sem, hc1, hcl1]))
        refine AWp.loop (G.length + 2) [0, 4] [5] (fun (s3 : Nm × Hp × Nat × List Hd × List Int) => inv3 s3) (fun (s3 : Nm × Hp × Nat × List Hd × List Int) => [(5, (.c (.int .i64 (s3.2.2.1))))]) (fun (s3 : Nm × Hp × Nat × List Hd × List Int) => s3.2.1) (fun (s3 : Nm × Hp × Nat × List Hd × List Int) => s3.2.2.2.1.length - s3.2.2.1) (by kernel_rfl) (fun _ => rfl) (by kernel_rfl) (by first | (simp; done) | omega) (by first | (simp; done) | (simp; omega) | omega) kl ?_ (fun s3 hs3 hm3 _ => ?_)
        · refine Next.mk (s, G1, 1, nd1.l, nd1.drp) (by rw [hinv3]; exact ⟨hN1, hl1, by dsimp only; omega, nd1.l.length, by dsimp only; omega, rfl⟩) ?_
          exact wk
        obtain ⟨s', G', i, l, d⟩ := s3
        rw [hinv3] at hs3
        obtain ⟨hN', q1, q2, f, q3, q4⟩ := hs3
        dsimp only at hN' q1 q2 q3 q4 hm3 ⊢
        have hc3 := hN'.hc
        unfold nodeO at hc3
        dsimp only at hc3
        have hcl3 := getElem?_lt hc3
        by_cases hil : i < l.length
        · simp (disch := first | omega | (simp only [go_sem]; first | done | omega)) only [go_sem, hc3, hcl3]
          refine drop_a hN' i hil (by dsimp only; omega) (by dsimp only; omega) (fun G2 s2 _ hN2 => ?_)
          have hl' := hlen hN2
          simp (disch := first | omega | (simp only [go_sem]; first | done | omega)) only [go_sem]
          refine Next.mk (s2, G2, i + 1, l.eraseIdx i, d ++ [l[i].p.n]) ?_ ?_
          · rw [hinv3]
            have hle := List.length_eraseIdx_of_lt hil
            dsimp only
            rw [hle]
            obtain ⟨g, rfl⟩ : ∃ g, f = g + 1 := ⟨f - 1, by omega⟩
            refine ⟨⟨hN2, by omega, by rw [List.length_append, List.length_singleton]; omega, g, by omega, ?_⟩, by omega⟩
            rw [← q4, thinG, dif_pos hil]
          · exact wk
        · simp (disch := first | omega | (simp only [go_sem]; first | done | omega)) only [go_sem, hc3, hcl3]
          refine Next.mk (s', G') ?_ ?_
          · rw [hinv, hnd2]
            refine ⟨?_, by omega⟩
            have e : roomF 3 nd1.l nd1.drp = (l, d) := by
              unfold roomF
              rw [if_neg (by decide), if_pos rfl, ← q4]
              cases f with
              | zero => rfl
              | succ g => rw [thinG, dif_neg hil]
            rw [e]
            exact hN'
          · exact wk
      simp (disch := first | omega | (simp only [go_sem]; first | done | omega)) only [go_sem, hc1, hcl1]
      repeat' (first | ((first | refine acond_d ?_ ?_ | refine acond_b ?_ ?_ | refine ag_d ?_ ?_ | refine ag_n ?_ ?_ | refine ag_bt ?_ ?_ | refine ag_bf ?_ ?_ | refine agt_d ?_ ?_ | refine agt_n ?_ ?_ | refine agt_bt ?_ ?_ | refine agt_bf ?_ ?_) <;> intro c <;> try simp (disch := first | omega | (simp only [go_sem]; first | done | omega)) only [go_sem, c, hc1, hcl1]) | ((first | refine w_draw (by kernel_rfl) (by decide +kernel) ?_ | refine w_tree (.one 0 (.one 1 (.one 2 (.one 3 (.one 4 (.one 5 (.one 6 (.one 7 (.one 8 (.one 9 (.one 10 (.one 11 (.one 12 (.one 13 (.one 14 (.one 15 (.one 16 .done))))))))))))))))) (by kernel_rfl) (by decide +kernel) ?_) <;> try simp (disch := first | omega | (simp only [go_sem]; first | done | omega)) only [go_sem, hc1, hcl1]) | (refine And.intro ?_ ?_ <;> try simp (disch := first | omega | (simp only [go_sem]; first | done | omega)) only [go_sem, hc1, hcl1]))
      all_goals
        refine Next.mk (s, G1) ?_ ?_
        · rw [hinv, hnd2]
          refine ⟨?_, fun h => hp2 h.2⟩
          unfold roomF
          rw [if_neg hp1, if_neg hp3]
          exact hN1
        · exact wk
    · rw [if_neg hfull] at hnd2
      simp (disch := first | omega | (simp only [go_sem]; first | done | omega)) only [go_sem, hc1, hcl1]
      repeat' (first | ((first | refine acond_d ?_ ?_ | refine acond_b ?_ ?_ | refine ag_d ?_ ?_ | refine ag_n ?_ ?_ | refine ag_bt ?_ ?_ | refine ag_bf ?_ ?_ | refine agt_d ?_ ?_ | refine agt_n ?_ ?_ | refine agt_bt ?_ ?_ | refine agt_bf ?_ ?_) <;> intro c <;> try simp (disch := first | omega | (simp only [go_sem]; first | done | omega)) only [go_sem, c, hc1, hcl1]) | ((first | refine w_draw (by kernel_rfl) (by decide +kernel) ?_ | refine w_tree (.one 0 (.one 1 (.one 2 (.one 3 (.one 4 (.one 5 (.one 6 (.one 7 (.one 8 (.one 9 (.one 10 (.one 11 (.one 12 (.one 13 (.one 14 (.one 15 (.one 16 .done))))))))))))))))) (by kernel_rfl) (by decide +kernel) ?_) <;> try simp (disch := first | omega | (simp only [go_sem]; first | done | omega)) only [go_sem, hc1, hcl1]) | (refine And.intro ?_ ?_ <;> try simp (disch := first | omega | (simp only [go_sem]; first | done | omega)) only [go_sem, hc1, hcl1]))
      all_goals
        refine Next.mk (s, G1) (by rw [hinv, hnd2]; exact ⟨hN1, fun h => hfull h.1⟩) ?_
        exact wk
  rw [hinv] at hs2
  obtain ⟨s2, G2⟩ := s2
  obtain ⟨hN2, hnot⟩ := hs2
  dsimp only at hN2 ⊢
  have hp2 := (hN2.pre (G.length + 1) _ (by unfold addS; rw [if_pos rfl])).1
  have hpl2 := getElem?_lt hp2
  have hNs : ∀ (o : AObj), S (G.length + 1) ≠ some o := fun o ho => by have := getElem?_lt (pre _ _ ho).1; omega
  have hl2 : nd2.l.length ≤ 100000 := by
    have := room_len pp nd1.l nd1.drp
    rw [hnd2]
    split
    · dsimp only; omega
    · exact hl1
  have hN := hN2
  (obtain ⟨pre, hc, hm, hl, ho, hd, hr, hw, ne⟩ := hN; simp only [List.nodup_cons, List.mem_cons, List.not_mem_nil, or_false, not_or, List.nodup_nil, and_true, not_false_eq_true] at ne; obtain ⟨⟨m1, m2, m3, m4, m5, m6⟩, ⟨n1, n2, n3, n4, n5⟩, ⟨n6, n7, n8, n9⟩, ⟨n10, n11, n12⟩, ⟨n13, n14⟩, n15⟩ := ne; have hcl := getElem?_lt hc; have hml := getElem?_lt hm; have hll := getElem?_lt hl; have hol := getElem?_lt ho; have hdl := getElem?_lt hd; have hrl := getElem?_lt hr; have hwl := getElem?_lt hw)
  have hc2 := hc
  unfold nodeO at hc2
  obtain ⟨l2, hl2'⟩ : ∃ l2, l2 = nd2.l ++ [y] := ⟨_, rfl⟩
  have hlc : (l2.length : Int) = (nd2.l.length : Int) + 1 := by rw [hl2', List.length_append, List.length_singleton]; omega
  have e : putF cc pp x nd = { nd2 with l := l2, most := max nd2.most (l2.length : Int) } := by
    rw [hlc, hl2', hy]
    unfold putF
    by_cases hf : 0 < cc ∧ (nd1.l.length : Int) = cc
    · rw [if_pos hf] at hnd2
      have hpp : ¬ pp = 2 := fun h => hnot ⟨hf, h⟩
      rw [hnd2]
      rw [hnd1] at hf ⊢
      rw [if_pos hf, if_neg hpp]
    · rw [if_neg hf] at hnd2
      rw [hnd2]
      rw [hnd1] at hf ⊢
      rw [if_neg hf]
  rw [e] at hk
  refine SWp.go (by kernel_rfl) ?_
  repeat' (first | ((first | refine acond_d ?_ ?_ | refine acond_b ?_ ?_ | refine ag_d ?_ ?_ | refine ag_n ?_ ?_ | refine ag_bt ?_ ?_ | refine ag_bf ?_ ?_ | refine agt_d ?_ ?_ | refine agt_n ?_ ?_ | refine agt_bt ?_ ?_ | refine agt_bf ?_ ?_) <;> intro c <;> try simp (disch := first | omega | (simp only [go_sem]; first | done | omega)) only [go_sem, c, hc2, hcl, hl, hll, hp2]) | ((first | refine w_draw (by kernel_rfl) (by decide +kernel) ?_ | refine appHd nd2.l y l2 hl2' (get_old hl _) (at0 rfl) (by omega) ?_ | refine w_tree (.one 0 (.one 1 (.one 2 (.one 3 (.one 4 (.one 5 (.one 6 (.one 7 (.one 8 (.one 9 (.one 10 .done))))))))))) (by kernel_rfl) (by decide +kernel) ?_) <;> try simp (disch := first | omega | (simp only [go_sem]; first | done | omega)) only [go_sem, hc2, hcl, hl, hll, hp2]) | (refine And.intro ?_ ?_ <;> try simp (disch := first | omega | (simp only [go_sem]; first | done | omega)) only [go_sem, hc2, hcl, hl, hll, hp2]))
  all_goals
    refine SWp.of (by kernel_rfl) ?_
    repeat' (first | ((first | refine acond_d ?_ ?_ | refine acond_b ?_ ?_ | refine ag_d ?_ ?_ | refine ag_n ?_ ?_ | refine ag_bt ?_ ?_ | refine ag_bf ?_ ?_ | refine agt_d ?_ ?_ | refine agt_n ?_ ?_ | refine agt_bt ?_ ?_ | refine agt_bf ?_ ?_) <;> intro c <;> try simp (disch := first | omega | (simp only [go_sem]; first | done | omega)) only [go_sem, c, hcl]) | ((first | refine w_draw (by kernel_rfl) (by decide +kernel) ?_ | refine w_tree (.one 0 (.one 1 (.one 2 (.one 3 (.one 4 (.one 5 (.one 6 (.one 7 (.one 8 (.one 9 (.one 10 (.one 11 (.one 12 (.one 13 .done)))))))))))))) (by kernel_rfl) (by decide +kernel) ?_) <;> try simp (disch := first | omega | (simp only [go_sem]; first | done | omega)) only [go_sem, hcl]) | (refine And.intro ?_ ?_ <;> try simp (disch := first | omega | (simp only [go_sem]; first | done | omega)) only [go_sem, hcl]))
  all_goals
    refine Ret.same (by simp; omega) (hk _ { s2 with b := true, l := G2.length + 1 } (NodeAt.out (i := G.length + 1) (o := .row 291 6 [encHd y] true) ⟨?_, ?_, ?_, ?_, ?_, ?_, ?_, ?_, ?_⟩ hNs)) <;> (first | (simp only [List.nodup_cons, List.mem_cons, List.not_mem_nil, or_false, not_or, List.nodup_nil, and_true, not_false_eq_true]; (try dsimp only); (repeat' apply And.intro) <;> omega) | (intro q o hq; obtain ⟨g1, g2⟩ := pre q o hq; have g3 := getElem?_lt g1; simp only [List.mem_cons, List.not_mem_nil, or_false, not_or] at g2 ⊢; refine ⟨?_, by (try dsimp only); omega⟩; (try rw [List.getElem?_append_left (by (try simp only [List.length_set]); omega)]); (repeat rw [List.getElem?_set_ne (by omega)]); exact g1) | ((try dsimp only); (try rw [List.getElem?_append_left (by (try simp only [List.length_set]); omega)]); (repeat rw [List.getElem?_set_ne (by omega)]); first | assumption | (rw [List.getElem?_set_self (by (try simp only [List.length_set]); omega)]; done) | (rw [List.getElem?_set_self (by (try simp only [List.length_set]); omega)]; rfl) | (rw [List.getElem?_set_self (by (try simp only [List.length_set]); omega)]; simp [nodeO, hdV, hdO, *]; done)) | ((try dsimp only); rw [List.getElem?_append_right (by (try simp only [List.length_set]); omega)]; (try simp only [List.length_set, Nat.add_sub_cancel_left, Nat.sub_self]); rfl))
end Go.Proofs.YtnodfnjmhcjnfaaGreatDoor
/- Packets acked, and packets sent. No condition. -/
namespace Go.Proofs.YtnodfnjmhcjnfaaGreatDoor
open Go Go.RowKit
set_option maxRecDepth 100000
set_option linter.all false
set_option maxHeartbeats 2000000
variable {H : Hp} {K : AV → Hp → Prop}
@[go_sem] theorem mapK_ib : mapK Tryz.prog 198 = some 3 := (by kernel_rfl)
@[go_sem] theorem mapZ_ib : (mapE Tryz.prog 198).bind (zeroA Tryz.prog) = some (.c (.bool false)) := (by kernel_rfl)
def encEv (n : Int) : AV × AV := (.c (.int .i64 n), .c (.bool true))
theorem find_mem (a : Int) : ∀ l : List Int, l.find? (fun n => decide (a = n)) = if a ∈ l then some a else none
  | [] => by simp
  | x :: l => by
    have ih := find_mem a l
    by_cases h : a = x
    · subst h; simp
    · rw [List.find?_cons_of_neg (by simpa using h), ih]
      simp [h]
theorem get_ever {kt : TypeId} (a : Int) (l : List Int) (ht : keyT Tryz.prog kt (.c (.int .i64 a)) = true) : mapGet Tryz.prog kt (.c (.int .i64 a)) (some (.c (.bool false))) (l.map encEv) = some (.c (.bool (decide (a ∈ l))), decide (a ∈ l)) := by
  rw [get_of (e := encEv) (p := fun n => decide (a = n)) ht (findA_int .i64 a (fun x : Int => x) (fun _ : Int => .c (.bool true)) l), find_mem]
  by_cases h : a ∈ l <;> simp [h, encEv]
theorem ups_ever (a : Int) : ∀ l : List Int, upsert (fun n => decide (a = n)) a l = addE l a
  | [] => by simp [upsert, addE]
  | x :: l => by
    have ih := ups_ever a l
    unfold addE at ih ⊢
    unfold upsert at ih ⊢
    rw [List.findIdx?_cons]
    by_cases h : a = x
    · subst h; simp
    · simp only [h, decide_false, Bool.false_eq_true, if_false, List.mem_cons, false_or]
      cases hq : l.findIdx? (fun n => decide (a = n)) with
      | none =>
        rw [hq] at ih
        dsimp only [Option.map_none] at ih ⊢
        by_cases h2 : a ∈ l
        · rw [if_pos h2] at ih
          have := congrArg List.length ih
          simp at this
        · simp [h2]
      | some j =>
        rw [hq] at ih
        dsimp only [Option.map_some] at ih ⊢
        by_cases h2 : a ∈ l
        · rw [if_pos h2] at ih ⊢
          simp [ih]
        · rw [if_neg h2] at ih
          have := congrArg List.length ih
          simp at this
theorem put_ever {kt : TypeId} (a : Int) (l : List Int) (ht : keyT Tryz.prog kt (.c (.int .i64 a)) = true) : mapPut Tryz.prog kt (.c (.int .i64 a)) (.c (.bool true)) (l.map encEv) = some ((addE l a).map encEv) := by
  rw [← ups_ever]
  exact put_of (e := encEv) (p := fun n => decide (a = n)) (x := a) ht (findA_int .i64 a (fun x : Int => x) (fun _ : Int => .c (.bool true)) l) rfl
theorem ackFn_a (x : Hd) (i : Nat) (seq : Int) {ty : Nat} {own : Bool} (hi : H[i]? = some (.row ty 1 [[.int .i64 seq]] own)) (hk : K (.c (.bool (decide (x.p.n ≤ seq)))) H) : ACalls Tryz.prog 294 [.agg (encHd x), .c (.ptr (some (i, 0, 0)))] H K := by
  have hilt := getElem?_lt hi
  refine acalls Tryz.func294 rfl (by kernel_rfl) (by simp (disch := first | omega | (simp only [go_sem]; first | done | omega)) only [go_sem]) (fun hH => ?_)
  simp (disch := first | omega | (simp only [go_sem]; first | done | omega)) only [go_sem, hi]
  exact Ret.drop hH (Nat.le_refl _) trivial hk
theorem indexNilHd_a (f : FuncId) (caps : List (Nat × Nat × Nat)) (hk : K (.c (.int .i64 (-1))) H) : ACalls Tryz.prog 335 [.c (.sl none 0), .c (.fn f [] caps)] H K := by
  refine acalls Tryz.func335 rfl (by kernel_rfl) (by simp (disch := first | omega | (simp only [go_sem]; first | done | omega)) only [go_sem]) (fun hH => ?_)
  simp (disch := first | omega | (simp only [go_sem]; first | done | omega)) only [go_sem]
  refine AWp.rounds 0 (by kernel_rfl) ?_
  simp (disch := first | omega | (simp only [go_sem]; first | done | omega)) only [go_sem]
  exact Ret.same (Nat.le_refl _) hk
theorem delNilHd_a (f : FuncId) (caps : List (Nat × Nat × Nat)) (hk : K (.c (.sl none 0)) H) : ACalls Tryz.prog 293 [.c (.sl none 0), .c (.fn f [] caps)] H K := by
  refine acalls Tryz.func293 rfl (by kernel_rfl) (by simp (disch := first | omega | (simp only [go_sem]; first | done | omega)) only [go_sem]) (fun hH => ?_)
  simp (disch := first | omega | (simp only [go_sem]; first | done | omega)) only [go_sem]
  refine indexNilHd_a f caps ?_
  simp (disch := first | omega | (simp only [go_sem]; first | done | omega)) only [go_sem]
  exact Ret.same (Nat.le_refl _) hk
theorem delHdV_a (f : FuncId) (caps : List (Nat × Nat × Nat)) (p : Hd → Bool) (he : entersB Tryz.prog f = true) (hc : ∀ (a b c : Nat), (a, b, c) ∈ caps → a < H.length) {i : Nat} {b : Bool} (hci : ∀ (a b c : Nat), (a, b, c) ∈ caps → a ≠ i) (l : List Hd) (hi : H[i]? = some (hdO b l)) (hf : ∀ (G : Hp) (x : Hd) (K : AV → Hp → Prop), (∀ (a b c : Nat), (a, b, c) ∈ caps → G[a]? = H[a]?) → x ∈ l → K (.c (.bool (p x))) G → ACalls Tryz.prog f (.agg (encHd x) :: caps.map fun q => .c (.ptr (some q))) G K) (hlen : l.length ≤ 1000000)
    (hk : ∀ b', K (.c (hdV b' i (l.filter (fun x => !p x)))) (H.set i (hdO b' (l.filter (fun x => !p x))))) : ACalls Tryz.prog 293 [.c (hdV b i l), .c (.fn f [] caps)] H K := by
  by_cases h : l = [] ∧ b = false
  · obtain ⟨rfl, rfl⟩ := h
    have := hk false
    rw [List.filter_nil, set_same hi] at this
    exact delNilHd_a f caps this
  · have e1 : hdV b i l = .sl (some (i, 0)) l.length := by
      cases b with
      | true => rfl
      | false => exact hdV_pos _ _ (fun h0 => h ⟨h0, rfl⟩)
    have e2 : hdO b l = .row 291 6 (l.map encHd) true := by
      cases b with
      | true => rfl
      | false => exact hdO_pos _ (fun h0 => h ⟨h0, rfl⟩)
    rw [e1]
    rw [e2] at hi
    exact delOwnHd_a f caps p he hc hci l hi rfl hf hlen (hk true)
theorem NodeAt.app {c0 : Nat} {S : Nat → Option AObj} {c p : Int} {nd : Nd} {s : Nm} {G : Hp} (h : NodeAt c0 S c p nd s G) (L : Hp) : NodeAt c0 S c p nd s (G ++ L) := by
  obtain ⟨pre, hc, hm, hl, ho, hd, hr, hw, ne⟩ := h
  exact ⟨fun q o hq => ⟨get_old (pre q o hq).1 _, (pre q o hq).2⟩, get_old hc _, get_old hm _, get_old hl _, get_old ho _, get_old hd _, get_old hr _, get_old hw _, ne⟩
theorem get_s1 {G L : Hp} {i j : Nat} {x o : AObj} (h : G[i]? = some x) (h1 : j ≠ i) : (G.set j o ++ L)[i]? = some x := by
  rw [List.getElem?_append_left (by have := getElem?_lt h; simpa using this), List.getElem?_set_ne h1]; exact h
theorem nack_a {G : Hp} {c0 : Nat} {S : Nat → Option AObj} {cc pp : Int} {nd : Nd} {s : Nm} (seq : Int) (hN : NodeAt c0 S cc pp nd s G) (h1 : nd.l.length ≤ 100000)
    (hk1 : ackE seq nd ≠ 0 → ∀ G' s', NodeAt c0 S cc pp nd s' G' → K (.c (.int .i64 (ackE seq nd))) G') (hk2 : ackE seq nd = 0 → ∀ G' s', NodeAt c0 S cc pp { nd with acked := seq, l := nd.l.filter (fun x => decide (seq < x.p.n)) } s' G' → K (.c (.int .i64 0)) G') :
    ACalls Tryz.prog 227 [.c (.ptr (some (c0, 0, 0))), (.c (.int .i64 seq))] G K := by
  have hN0 := hN
  (obtain ⟨pre, hc, hm, hl, ho, hd, hr, hw, ne⟩ := hN; simp only [List.nodup_cons, List.mem_cons, List.not_mem_nil, or_false, not_or, List.nodup_nil, and_true, not_false_eq_true] at ne; obtain ⟨⟨m1, m2, m3, m4, m5, m6⟩, ⟨n1, n2, n3, n4, n5⟩, ⟨n6, n7, n8, n9⟩, ⟨n10, n11, n12⟩, ⟨n13, n14⟩, n15⟩ := ne; have hcl := getElem?_lt hc; have hml := getElem?_lt hm; have hll := getElem?_lt hl; have hol := getElem?_lt ho; have hdl := getElem?_lt hd; have hrl := getElem?_lt hr; have hwl := getElem?_lt hw)
  have hc' := hc
  have hm' : G[s.m]? = some (mpO (nd.ever.map encEv)) := hm
  unfold nodeO at hc'
  by_cases c1 : seq ≠ 0 ∧ ¬ seq ∈ nd.ever
  · have e : ackE seq nd = 8 := by unfold ackE; rw [if_pos c1]
    rw [e] at hk1
    refine acalls Tryz.func227 rfl (by kernel_rfl) (by simp (disch := first | omega | (simp only [go_sem]; first | done | omega)) only [go_sem]) (fun hH => ?_)
    simp (disch := first | omega | (simp only [go_sem]; first | done | omega)) only [go_sem]
    repeat' (first | ((first | refine acond_d ?_ ?_ | refine acond_b ?_ ?_ | refine ag_d ?_ ?_ | refine ag_n ?_ ?_ | refine ag_bt ?_ ?_ | refine ag_bf ?_ ?_ | refine agt_d ?_ ?_ | refine agt_n ?_ ?_ | refine agt_bt ?_ ?_ | refine agt_bf ?_ ?_) <;> intro c <;> try simp (disch := first | omega | (simp only [go_sem]; first | done | omega)) only [go_sem, c, hc', hcl, hm', hml, c1]) | ((first | refine w_draw (by kernel_rfl) (by decide +kernel) ?_ | refine look_mp (by kernel_rfl) (get_ever seq nd.ever (by kernel_rfl)) rfl ?_ | refine w_tree (.one 0 (.one 1 (.one 2 (.one 3 (.one 4 (.one 5 (.one 6 (.one 7 (.one 8 (.one 9 (.one 10 (.one 11 .done)))))))))))) (by kernel_rfl) (by decide +kernel) ?_) <;> try simp (disch := first | omega | (simp only [go_sem]; first | done | omega)) only [go_sem, hc', hcl, hm', hml, c1]) | (refine And.intro ?_ ?_ <;> try simp (disch := first | omega | (simp only [go_sem]; first | done | omega)) only [go_sem, hc', hcl, hm', hml, c1]))
    all_goals exact Ret.same (by simp) (hk1 (by decide) _ _ (hN0.app _))
  by_cases c2 : seq < nd.acked
  · have e : ackE seq nd = 7 := by unfold ackE; rw [if_neg c1, if_pos c2]
    rw [e] at hk1
    refine acalls Tryz.func227 rfl (by kernel_rfl) (by simp (disch := first | omega | (simp only [go_sem]; first | done | omega)) only [go_sem]) (fun hH => ?_)
    simp (disch := first | omega | (simp only [go_sem]; first | done | omega)) only [go_sem]
    repeat' (first | ((first | refine acond_d ?_ ?_ | refine acond_b ?_ ?_ | refine ag_d ?_ ?_ | refine ag_n ?_ ?_ | refine ag_bt ?_ ?_ | refine ag_bf ?_ ?_ | refine agt_d ?_ ?_ | refine agt_n ?_ ?_ | refine agt_bt ?_ ?_ | refine agt_bf ?_ ?_) <;> intro c <;> try simp (disch := first | omega | (simp only [go_sem]; first | done | omega)) only [go_sem, c, hc', hcl, hm', hml, c2]) | ((first | refine w_draw (by kernel_rfl) (by decide +kernel) ?_ | refine look_mp (by kernel_rfl) (get_ever seq nd.ever (by kernel_rfl)) rfl ?_ | refine w_tree (.one 0 (.one 1 (.one 2 (.one 3 (.one 4 (.one 5 (.one 6 (.one 7 (.one 8 (.one 9 (.one 10 (.one 11 .done)))))))))))) (by kernel_rfl) (by decide +kernel) ?_ | refine w_tree (.one 0 (.one 1 (.one 2 (.one 3 (.one 4 (.one 5 (.one 6 .done))))))) (by kernel_rfl) (by decide +kernel) ?_) <;> try simp (disch := first | omega | (simp only [go_sem]; first | done | omega)) only [go_sem, hc', hcl, hm', hml, c2]) | (refine And.intro ?_ ?_ <;> try simp (disch := first | omega | (simp only [go_sem]; first | done | omega)) only [go_sem, hc', hcl, hm', hml, c2]))
    all_goals first | exact Ret.same (by simp) (hk1 (by decide) _ _ (hN0.app _)) | exact absurd ⟨by assumption, by assumption⟩ c1
  have e : ackE seq nd = 0 := by unfold ackE; rw [if_neg c1, if_neg c2]
  have hk2 := hk2 e
  clear hk1 hN0
  have hfe : (fun x : Hd => decide (seq < x.p.n)) = (fun x : Hd => !(decide (x.p.n ≤ seq))) := by
    funext x
    rw [← decide_not]
    exact decide_eq_decide.2 (by omega)
  rw [hfe] at hk2
  refine acalls Tryz.func227 rfl (by kernel_rfl) (by simp (disch := first | omega | (simp only [go_sem]; first | done | omega)) only [go_sem]) (fun hH => ?_)
  simp (disch := first | omega | (simp only [go_sem]; first | done | omega)) only [go_sem]
  repeat' (first | ((first | refine acond_d ?_ ?_ | refine acond_b ?_ ?_ | refine ag_d ?_ ?_ | refine ag_n ?_ ?_ | refine ag_bt ?_ ?_ | refine ag_bf ?_ ?_ | refine agt_d ?_ ?_ | refine agt_n ?_ ?_ | refine agt_bt ?_ ?_ | refine agt_bf ?_ ?_) <;> intro c <;> try simp (disch := first | omega | (simp only [go_sem]; first | done | omega)) only [go_sem, c, hc', hcl, hm', hml, c2]) | ((first | refine w_draw (by kernel_rfl) (by decide +kernel) ?_ | refine look_mp (by kernel_rfl) (get_ever seq nd.ever (by kernel_rfl)) rfl ?_ | refine delHdV_a _ _ (fun x => decide (x.p.n ≤ seq)) (by kernel_rfl) ?_ ?_ nd.l (get_s1 hl (by omega)) ?_ (by omega) (fun b' => ?_) | refine w_tree (.one 0 (.one 1 (.one 2 (.one 3 (.one 4 (.one 5 (.one 6 (.one 7 (.one 8 (.one 9 (.one 10 (.one 11 .done)))))))))))) (by kernel_rfl) (by decide +kernel) ?_ | refine w_tree (.one 0 (.one 1 (.one 2 (.one 3 (.one 4 (.one 5 (.one 6 .done))))))) (by kernel_rfl) (by decide +kernel) ?_) <;> try simp (disch := first | omega | (simp only [go_sem]; first | done | omega)) only [go_sem, hc', hcl, hm', hml, c2]) | (refine And.intro ?_ ?_ <;> try simp (disch := first | omega | (simp only [go_sem]; first | done | omega)) only [go_sem, hc', hcl, hm', hml, c2]))
  all_goals try subst c
  all_goals first
    | exact absurd ⟨by assumption, by assumption⟩ c1
    | (intro a b d hm9; simp at hm9; omega)
    | (intro G1 x K1 hG1 hx9 hK1; exact ackFn_a x _ _ ((hG1 _ _ _ (List.Mem.head _)).trans (by rw [List.getElem?_append_right (by simp), List.length_set, Nat.sub_self]; rfl)) hK1)
    | (refine Ret.same (by simp) (hk2 _ { s with b := b' } ⟨?_, ?_, ?_, ?_, ?_, ?_, ?_, ?_, ?_⟩) <;> (first | (simp only [List.nodup_cons, List.mem_cons, List.not_mem_nil, or_false, not_or, List.nodup_nil, and_true, not_false_eq_true]; (try dsimp only); (repeat' apply And.intro) <;> omega) | (intro q o hq; obtain ⟨g1, g2⟩ := pre q o hq; have g3 := getElem?_lt g1; simp only [List.mem_cons, List.not_mem_nil, or_false, not_or] at g2 ⊢; refine ⟨?_, by (try dsimp only); omega⟩; (try rw [List.getElem?_append_left (by (try simp only [List.length_set]); omega)]); (repeat rw [List.getElem?_set_ne (by omega)]); exact g1) | ((try dsimp only); (try rw [List.getElem?_append_left (by (try simp only [List.length_set]); omega)]); (repeat rw [List.getElem?_set_ne (by omega)]); first | assumption | (rw [List.getElem?_set_self (by (try simp only [List.length_set]); omega)]; done) | (rw [List.getElem?_set_self (by (try simp only [List.length_set]); omega)]; rfl) | (rw [List.getElem?_set_self (by (try simp only [List.length_set]); omega)]; simp [nodeO, hdV, hdO, *]; done)) | ((try dsimp only); rw [List.getElem?_append_right (by (try simp only [List.length_set]); omega)]; (try simp only [List.length_set, Nat.add_sub_cancel_left, Nat.sub_self]); rfl)))
end Go.Proofs.YtnodfnjmhcjnfaaGreatDoor
