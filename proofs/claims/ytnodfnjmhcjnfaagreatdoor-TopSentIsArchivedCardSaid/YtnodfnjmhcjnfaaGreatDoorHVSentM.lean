/- What is sent with a great enough buffer is stored whole, whatever is sent again. No program in sight. -/
import Derived.Test.YtnodfnjmhcjnfaaGreatDoorHVBufG
import Derived.Test.YtnodfnjmhcjnfaaGreatDoorHVCpkM
import Derived.Test.YtnodfnjmhcjnfaaGreatDoorHVBlkM
namespace Go.Proofs.YtnodfnjmhcjnfaaGreatDoor
open Go Go.RowKit
set_option maxRecDepth 100000
set_option linter.all false
set_option maxHeartbeats 2000000
def tgS : ByteArray := ⟨#[116, 97]⟩
def ndS : ByteArray := ⟨#[110]⟩
theorem key_tgS : isKey tgS := by decide +kernel
theorem key_ndS : isKey ndS := by decide +kernel
def pksA (a : List Smp) : List Pk := a.zipIdx.map fun x => ⟨(x.2 : Int) + 1, tgS, x.1⟩
theorem pksA_len (a : List Smp) : (pksA a).length = a.length := by simp [pksA]
theorem pksA_snoc (a : List Smp) (x : Smp) : pksA (a ++ [x]) = pksA a ++ [⟨(a.length : Int) + 1, tgS, x⟩] := by
  simp [pksA, List.zipIdx_append]
theorem pksA_mem {a : List Smp} {q : Pk} : q ∈ pksA a ↔ ∃ (i : Nat) (h : i < a.length), q = ⟨(i : Int) + 1, tgS, a[i]⟩ := by
  unfold pksA
  rw [List.mem_map]
  constructor
  · rintro ⟨⟨x, i⟩, h, rfl⟩
    obtain ⟨h1, h2⟩ := List.mem_zipIdx' h
    exact ⟨i, h1, by rw [h2]⟩
  · rintro ⟨i, h, rfl⟩
    exact ⟨(a[i], i), List.mem_zipIdx_iff_getElem?.2 (List.getElem?_eq_getElem h), rfl⟩
structure NdT (m : Nat) (a : List Smp) (nd : Nd) : Prop where
  l : nd.l.map (fun x => x.p) = pksA a
  last : nd.last = a.length
  out : ∀ q ∈ nd.out, q ∈ pksA a
  few : nd.out.length ≤ m
theorem sendG_p : ∀ (c : Int) (l : List Hd), (sendG c l).1.map (fun x => x.p) = l.map (fun x => x.p) ∧ (∀ q ∈ (sendG c l).2, q ∈ l.map (fun x => x.p)) ∧ ((sendG c l).2.length : Int) ≤ max c 0
  | c, [] => ⟨rfl, by simp [sendG], by simp [sendG]; omega⟩
  | c, x :: t => by
    unfold sendG
    split
    · rename_i h
      obtain ⟨h1, h2, h3⟩ := sendG_p (c - 1) t
      refine ⟨by simp [h1], fun q hq => ?_, by simp only [List.length_cons]; omega⟩
      rcases List.mem_cons.1 hq with rfl | hq
      · simp
      · exact List.mem_cons_of_mem _ (h2 q hq)
    · obtain ⟨h1, h2, h3⟩ := sendG_p c t
      exact ⟨by simp [h1], fun q hq => List.mem_cons_of_mem _ (h2 q hq), h3⟩
theorem NdT.put {m : Nat} {a : List Smp} {nd : Nd} (h : NdT m a nd) (ha : a.length < 20) {x : Stp} (ht : x.tag = tgS) : NdT m (a ++ [x.s]) (putF 20 1 x nd) := by
  obtain ⟨h1, h2, h3, h4⟩ := h
  have hl : nd.l.length = a.length := by rw [← pksA_len a, ← h1, List.length_map]
  unfold putF
  rw [if_neg (by omega)]
  refine ⟨?_, by dsimp only; rw [h2]; simp, fun q hq => ?_, h4⟩
  · dsimp only
    rw [List.map_append, h1, pksA_snoc, h2, ht]
    rfl
  · rw [pksA_snoc]
    exact List.mem_append_left _ (h3 q hq)
theorem NdT.send {m : Nat} {a : List Smp} {nd : Nd} (h : NdT m a nd) (c : Int) (hc : c ≤ 3) : NdT (m + 3) a (sendF c nd) := by
  obtain ⟨h1, h2, h3, h4⟩ := h
  obtain ⟨g1, g2, g3⟩ := sendG_p c nd.l
  unfold sendF
  refine ⟨by dsimp only; rw [g1, h1], h2, fun q hq => ?_, by dsimp only; rw [List.length_append]; omega⟩
  rcases List.mem_append.1 hq with hq | hq
  · exact h3 q hq
  · rw [← h1]; exact g2 q hq
theorem NdT.reset {m : Nat} {a : List Smp} {nd : Nd} (h : NdT m a nd) : NdT m a (resetF nd) := by
  obtain ⟨h1, h2, h3, h4⟩ := h
  exact ⟨by unfold resetF; dsimp only; rw [List.map_map]; exact h1, h2, h3, h4⟩
theorem NdT.up {m m' : Nat} {a : List Smp} {nd : Nd} (h : NdT m a nd) (hm : m ≤ m') : NdT m' a nd := ⟨h.1, h.2, h.3, Nat.le_trans h.4 hm⟩
theorem play_snoc (c p : Int) (l : List Stp) (x : Stp) : playF c p (l ++ [x]) = stepF c p l.length x (playF c p l) := by
  unfold playF
  rw [List.zipIdx_append, List.foldl_append]
  simp
theorem stpF_snoc {l : List Stp} {x : Stp} (h : stpF l = 0) (hx : stpErr x = 0) (hl : l.length < 2000) : stpF (l ++ [x]) = 0 := by
  have h1 := stpF_all h
  unfold stpF
  rw [if_neg (by rw [List.length_append]; simp; omega)]
  refine errGo_iff _ _ _ fun k hk => ?_
  show stpErr _ = 0
  have hm := List.getElem_mem hk
  rcases List.mem_append.1 hm with hm | hm
  · exact h1.2 _ hm
  · rw [List.mem_singleton.1 hm]; exact hx
theorem stpErr_tag {x : Stp} (h : stpErr x = 0) : x.tag.size ≤ 1000 := by
  have : x.tag = noS ∨ isKey x.tag := by
    unfold stpErr at h
    grind
  rcases this with h | h
  · rw [h]; decide
  · have := h.2.1; omega
structure SentI (a : List Smp) (l : List Stp) : Prop where
  ok : stpF l = 0
  len : l.length ≤ 3 * a.length
  nd : NdT (3 * a.length) a (playF 20 1 l)
def sPut (x : Smp) : Stp := ⟨1, 0, 0, tgS, x⟩
def sSend (c : Int) : Stp := ⟨2, c, 0, noS, ⟨0, 0, 0⟩⟩
def sReset : Stp := ⟨4, 0, 0, noS, ⟨0, 0, 0⟩⟩
theorem SentI.nil : SentI [] [] := ⟨rfl, Nat.le_refl _, ⟨rfl, rfl, (fun q hq => by simp [playF, nd0] at hq), Nat.le_refl _⟩⟩
def sendO : Option Int → List Stp
  | some c => [sSend c]
  | none => []
def moreS (x : Smp) (c : Option Int) (r : Bool) : List Stp := [sPut x] ++ sendO c ++ (if r = true then [sReset] else [])
theorem SentI.next {a : List Smp} {l : List Stp} (h : SentI a l) (ha : a.length < 20) {x : Smp} (hx : smpErr x = 0) {c : Option Int} (hc : ∀ n, c = some n → 1 ≤ n ∧ n ≤ 3) (r : Bool) : SentI (a ++ [x]) (l ++ moreS x c r) := by
  obtain ⟨h1, h2, h3⟩ := h
  have e1 : stpErr (sPut x) = 0 := by simp [stpErr, sPut, key_tgS, hx]
  have e3 : stpErr sReset = 0 := by simp [stpErr, sReset]
  have hl : (a ++ [x]).length = a.length + 1 := by simp
  have p1 : NdT (3 * a.length) (a ++ [x]) (playF 20 1 (l ++ [sPut x])) := by
    rw [play_snoc]
    exact NdT.put h3 ha (x := sPut x) rfl
  have s1 := stpF_snoc h1 e1 (by omega)
  have step2 : ∃ l2, l2 = l ++ [sPut x] ++ sendO c ∧ stpF l2 = 0 ∧ l2.length ≤ l.length + 2 ∧ NdT (3 * a.length + 3) (a ++ [x]) (playF 20 1 l2) := by
    cases c with
    | none => exact ⟨_, rfl, by rw [show sendO none = [] from rfl, List.append_nil]; exact s1, by simp [sendO], by rw [show sendO none = [] from rfl, List.append_nil]; exact p1.up (by omega)⟩
    | some n =>
      have hn := hc n rfl
      have e2 : stpErr (sSend n) = 0 := by
        have : ¬ (n < 1 ∨ 2000 < n) := by omega
        simp [stpErr, sSend, this]
      refine ⟨_, rfl, stpF_snoc s1 e2 (by simp; omega), by simp [sendO], ?_⟩
      rw [show sendO (some n) = [sSend n] from rfl, play_snoc]
      exact NdT.send p1 n hn.2
  obtain ⟨l2, g1, g2, g3, g4⟩ := step2
  have e : l ++ moreS x c r = l2 ++ (if r = true then [sReset] else []) := by rw [g1]; unfold moreS; simp only [List.append_assoc]
  rw [e]
  cases r with
  | false =>
    rw [if_neg (by decide), List.append_nil]
    exact ⟨g2, by omega, g4.up (by omega)⟩
  | true =>
    rw [if_pos rfl]
    refine ⟨stpF_snoc g2 e3 (by omega), by rw [List.length_append]; simp; omega, ?_⟩
    rw [play_snoc]
    exact NdT.reset (g4.up (by omega))
theorem sendG_all : ∀ (l : List Hd) (c : Int), (l.length : Int) ≤ c → (∀ x ∈ l, x.sent = false) → (sendG c l).2 = l.map (fun x => x.p)
  | [], _, _, _ => rfl
  | x :: t, c, h, hs => by
    simp only [List.length_cons] at h
    unfold sendG
    rw [if_pos ⟨by omega, hs x (by simp)⟩]
    dsimp only
    rw [sendG_all t (c - 1) (by omega) (fun y hy => hs y (by simp [hy]))]
    rfl
theorem sent_all {a : List Smp} {l : List Stp} (h : SentI a l) (ha : a.length ≤ 20) : stpF (l ++ [sReset, sSend 2000]) = 0 ∧ (∀ q ∈ (playF 20 1 (l ++ [sReset, sSend 2000])).out, q ∈ pksA a) ∧ (∀ q ∈ pksA a, q ∈ (playF 20 1 (l ++ [sReset, sSend 2000])).out) ∧ (playF 20 1 (l ++ [sReset, sSend 2000])).out.length ≤ 4 * a.length := by
  obtain ⟨h1, h2, h3⟩ := h
  have e : l ++ [sReset, sSend 2000] = l ++ [sReset] ++ [sSend 2000] := by simp
  have g1 := stpF_snoc h1 (x := sReset) (by simp [stpErr, sReset]) (by omega)
  have g2 := stpF_snoc g1 (x := sSend 2000) (by simp [stpErr, sSend]) (by simp; omega)
  rw [e]
  refine ⟨g2, ?_⟩
  have r1 : playF 20 1 (l ++ [sReset]) = resetF (playF 20 1 l) := by rw [play_snoc]; rfl
  have r2 : playF 20 1 (l ++ [sReset] ++ [sSend 2000]) = sendF 2000 (resetF (playF 20 1 l)) := by rw [play_snoc, r1]; rfl
  rw [r2]
  generalize playF 20 1 l = nd at *
  have h4 := h3.reset
  have hsent : ∀ x ∈ (resetF nd).l, x.sent = false := by
    intro x hx
    unfold resetF at hx
    obtain ⟨y, _, rfl⟩ := List.mem_map.1 hx
    rfl
  obtain ⟨k1, k2, k3, k4⟩ := h4
  have hll : (resetF nd).l.length = a.length := by rw [← pksA_len a, ← k1, List.length_map]
  have hall := sendG_all (resetF nd).l 2000 (by omega) hsent
  have eo : (sendF 2000 (resetF nd)).out = (resetF nd).out ++ pksA a := by
    unfold sendF
    dsimp only
    rw [hall, k1]
  rw [eo]
  refine ⟨fun q hq => ?_, fun q hq => List.mem_append_right _ hq, by rw [List.length_append, pksA_len]; omega⟩
  rcases List.mem_append.1 hq with hq | hq
  · exact k3 q hq
  · exact hq
/-! ### what arrives -/
def arrsF (out : List Pk) : List Arr := out.zipIdx.map fun x => ⟨ndS, 1000 + (x.2 : Int), x.1⟩
theorem arrsF_len (out : List Pk) : (arrsF out).length = out.length := by simp [arrsF]
theorem arrsF_get {out : List Pk} {k : Nat} (h : k < (arrsF out).length) : (arrsF out)[k] = ⟨ndS, 1000 + (k : Int), out[k]'(by rw [arrsF_len] at h; exact h)⟩ := by
  simp [arrsF]
theorem arrsF_snoc (out : List Pk) {k : Nat} (h : k < out.length) : arrsF (out.take (k + 1)) = arrsF (out.take k) ++ [⟨ndS, 1000 + (k : Int), out[k]⟩] := by
  have e : (out.take k).length = k := by rw [List.length_take]; omega
  rw [List.take_succ_eq_append_getElem h]
  unfold arrsF
  rw [List.zipIdx_append, List.map_append, e]
  simp
theorem arrsF_mem {out : List Pk} {x : Arr} (h : x ∈ arrsF out) : x.nd = ndS ∧ x.p ∈ out := by
  obtain ⟨k, hk, rfl⟩ := List.mem_iff_getElem.1 h
  rw [arrsF_get hk]
  exact ⟨rfl, List.getElem_mem _⟩
theorem pk_one {a : List Smp} {p q : Pk} (hp : p ∈ pksA a) (hq : q ∈ pksA a) (h : p.n = q.n) : p = q := by
  obtain ⟨i, hi, rfl⟩ := pksA_mem.1 hp
  obtain ⟨k, hk, rfl⟩ := pksA_mem.1 hq
  dsimp only at h
  obtain rfl : i = k := by omega
  rfl
theorem cfF_no : ∀ (l pre : List Arr), (∀ x ∈ pre ++ l, ∀ y ∈ pre ++ l, sameK x y = true → x.p = y.p) → cfF pre l = false
  | [], _, _ => rfl
  | x :: t, pre, h => by
    unfold cfF
    rw [cfF_no t (pre ++ [x]) (by simpa using h), Bool.or_false, List.any_eq_false]
    intro b hb
    have := h x (by simp) b (by simp [hb])
    cases e : sameK x b with
    | false => simp
    | true => simp [this e]
theorem arGo_iff : ∀ (l : List Arr) (p : Option Arr), (∀ x ∈ l, arrErr x = 0) → l.Pairwise (fun x y => x.t < y.t) → (∀ b, p = some b → ∀ x ∈ l, b.t < x.t) → arGo p l = 0
  | [], _, _, _, _ => rfl
  | x :: t, p, h1, h2, h3 => by
    have hp := List.pairwise_cons.1 h2
    have e : arS p x = 0 := by
      unfold arS
      rw [if_neg (by simpa using h1 x (by simp))]
      cases p with
      | none => rfl
      | some b =>
        have := h3 b rfl x (by simp)
        dsimp only
        rw [if_neg]
        unfold arrC
        rw [if_pos (by omega)]
        unfold sgn
        repeat' split
        all_goals omega
    unfold arGo
    rw [if_neg (by simpa using e)]
    refine arGo_iff t (some x) (fun y hy => h1 y (by simp [hy])) hp.2 (fun b hb y hy => ?_)
    injection hb with hb
    subst hb
    exact hp.1 y hy
theorem arrsF_ok {a : List Smp} {out : List Pk} (ha : a.length ≤ 1000) (hs : ∀ x ∈ a, smpErr x = 0) (ho : ∀ q ∈ out, q ∈ pksA a) (hl : out.length ≤ 1000) : arF (arrsF out) = 0 := by
  have hlen := arrsF_len out
  have hg : arGo none (arrsF out) = 0 := by
    refine arGo_iff _ _ (fun x hx => ?_) ?_ (fun b hb => by cases hb)
    · obtain ⟨k, hk, rfl⟩ := List.mem_iff_getElem.1 hx
      rw [arrsF_get hk]
      obtain ⟨i, hi, e⟩ := pksA_mem.1 (ho _ (List.getElem_mem (by rw [hlen] at hk; exact hk)))
      rw [e]
      unfold arrErr
      dsimp only
      rw [if_neg (fun h => h key_ndS), if_neg (by omega), if_neg (fun h => h key_tgS)]
      exact hs _ (List.getElem_mem hi)
    · refine List.pairwise_iff_getElem.2 fun i j hi hj hij => ?_
      rw [arrsF_get hi, arrsF_get hj]
      dsimp only
      omega
  have hn : (nodesF (arrsF out)).length ≤ 1 := by
    obtain ⟨h1, h2⟩ := nodesF_prop (arrsF out)
    have h3 : ∀ x ∈ nodesF (arrsF out), x = ndS := by
      intro x hx
      obtain ⟨y, hy, rfl⟩ := List.mem_map.1 ((h2 x).1 hx)
      exact (arrsF_mem hy).1
    cases hN : nodesF (arrsF out) with
    | nil => simp
    | cons x t =>
      cases t with
      | nil => simp
      | cons y t =>
        rw [hN] at h1 h3
        have e1 := h3 x (by simp)
        have e2 := h3 y (by simp)
        have := (List.pairwise_cons.1 h1).1 y (by simp)
        exact absurd (e1.trans e2.symm) this
  unfold arF
  rw [if_neg (by omega), if_neg (by simpa using hg), if_neg (by omega), if_neg]
  rw [cfF_no _ [] (fun x hx y hy h => ?_)]
  · decide
  · rw [List.nil_append] at hx hy
    unfold sameK at h
    rw [Bool.and_eq_true, decide_eq_true_eq, decide_eq_true_eq] at h
    exact pk_one (ho _ (arrsF_mem hx).2) (ho _ (arrsF_mem hy).2) h.2
theorem stP_sent {a : List Smp} {out : List Pk} (hr : risS a) (ho : ∀ q ∈ out, q ∈ pksA a) : ∀ k, k ≤ out.length →
    (((stP (arrsF out) [] tgS k).1.map (fun y => y.t)).Nodup ∧ (∀ y ∈ (stP (arrsF out) [] tgS k).1, y ∈ a) ∧ ∀ q ∈ out.take k, q.s ∈ (stP (arrsF out) [] tgS k).1)
  | 0, _ => ⟨by simp [stP, fiN], by simp [stP, fiN], by simp⟩
  | k + 1, hk => by
    obtain ⟨h1, h2, h3⟩ := stP_sent hr ho k (by omega)
    have hkl : k < out.length := by omega
    have hlen := arrsF_len out
    have hget : (arrsF out)[k]'(by omega) = ⟨ndS, 1000 + (k : Int), out[k]⟩ := arrsF_get (by omega)
    have hqa := ho _ (List.getElem_mem hkl)
    rw [stP_next]
    have htk : ∀ {P : Pk → Prop}, (∀ q ∈ out.take k, P q) → P out[k] → ∀ q ∈ out.take (k + 1), P q := by
      intro P g1 g2 q hq
      rw [List.take_succ_eq_append_getElem hkl] at hq
      rcases List.mem_append.1 hq with hq | hq
      · exact g1 q hq
      · rw [List.mem_singleton.1 hq]; exact g2
    by_cases hd : isD (arrsF out) k = true
    · rw [if_pos hd]
      refine ⟨h1, h2, htk h3 ?_⟩
      unfold isD at hd
      rw [List.getElem?_eq_getElem (by omega), hget] at hd
      dsimp only at hd
      obtain ⟨b, hb, hsk⟩ := List.any_eq_true.1 hd
      unfold sameK at hsk
      rw [Bool.and_eq_true, decide_eq_true_eq, decide_eq_true_eq] at hsk
      obtain ⟨i, hi, rfl⟩ := List.mem_iff_getElem.1 hb
      rw [List.length_take] at hi
      rw [List.getElem_take, arrsF_get (by omega)] at hsk
      have e := pk_one hqa (ho _ (List.getElem_mem (show i < out.length by omega))) hsk.2
      rw [e]
      exact h3 _ (List.mem_iff_getElem.2 ⟨i, by rw [List.length_take]; omega, by rw [List.getElem_take]⟩)
    · rw [if_neg hd]
      unfold stS
      rw [List.getElem?_eq_getElem (by omega), hget]
      obtain ⟨i, hi, e⟩ := pksA_mem.1 hqa
      have htg : out[k].tag = tgS := by rw [e]
      have hsa : out[k].s ∈ a := by rw [e]; exact List.getElem_mem hi
      have hX : stX [] ⟨ndS, 1000 + (k : Int), out[k]⟩ = out[k].s := rfl
      dsimp only
      rw [if_neg (by simpa using htg), hX]
      generalize (stP (arrsF out) [] tgS k) = st at *
      by_cases hany : (st.1.any fun y => decide (y.t = out[k].s.t)) = true
      · rw [if_pos hany]
        refine ⟨h1, h2, htk h3 ?_⟩
        obtain ⟨y, hy, ht⟩ := List.any_eq_true.1 hany
        have ht := of_decide_eq_true ht
        have hya := h2 y hy
        have : y = out[k].s := by
          obtain ⟨m, hm, e1⟩ := List.mem_iff_getElem.1 hya
          obtain ⟨n, hn, e2⟩ := List.mem_iff_getElem.1 hsa
          have hp := List.pairwise_iff_getElem.1 hr
          rcases Nat.lt_trichotomy m n with h | h | h
          · have := hp m n hm hn h; rw [e1, e2] at this; omega
          · subst h; rw [← e1, e2]
          · have := hp n m hn hm h; rw [e1, e2] at this; omega
        rw [← this]; exact hy
      · rw [if_neg hany]
        have hno : ∀ y ∈ st.1, y.t ≠ out[k].s.t := by
          intro y hy e
          exact hany (List.any_eq_true.2 ⟨y, hy, decide_eq_true e⟩)
        refine ⟨?_, ?_, htk (fun q hq => List.mem_append_left _ (h3 q hq)) (List.mem_append_right _ (by simp))⟩
        · dsimp only
          rw [List.map_append, List.nodup_append]
          refine ⟨h1, by simp, fun t ht u hu e => ?_⟩
          obtain ⟨y, hy, rfl⟩ := List.mem_map.1 ht
          simp only [List.map_cons, List.map_nil, List.mem_singleton] at hu
          exact hno y hy (e.trans hu)
        · intro y hy
          rcases List.mem_append.1 hy with hy | hy
          · exact h2 y hy
          · rw [List.mem_singleton.1 hy]; exact hsa
theorem stored_all {a : List Smp} {out : List Pk} (hr : risS a) (ho : ∀ q ∈ out, q ∈ pksA a) (hall : ∀ q ∈ pksA a, q ∈ out) : isortG tLt (stP (arrsF out) [] tgS (arrsF out).length).1 = a ∧ (stP (arrsF out) [] tgS (arrsF out).length).1.length = a.length := by
  rw [arrsF_len]
  obtain ⟨h1, h2, h3⟩ := stP_sent hr ho out.length (Nat.le_refl _)
  rw [List.take_length] at h3
  generalize (stP (arrsF out) [] tgS out.length).1 = L at *
  have hand : a.Nodup := hr.imp fun h e => by rw [e] at h; omega
  have hLnd : L.Nodup := (List.pairwise_map.1 h1).imp fun h e => h (by rw [e])
  have hp : L.Perm a := by
    refine (List.perm_ext_iff_of_nodup hLnd hand).2 fun x => ⟨h2 x, fun hx => ?_⟩
    obtain ⟨i, hi, rfl⟩ := List.mem_iff_getElem.1 hx
    exact h3 _ (hall _ (pksA_mem.2 ⟨i, hi, rfl⟩))
  refine ⟨?_, hp.length_eq⟩
  refine List.Perm.eq_of_pairwise (le := fun x y : Smp => x.t ≤ y.t) (fun x y hx hy h5 h6 => ?_) (isortG_sorted tLt (fun y => y.t) (fun x y => rfl) L) (hr.imp fun h => by omega) ((isortG_perm tLt L).trans hp)
  have e : x.t = y.t := by omega
  have hx := (((isortG_perm tLt L).trans hp).mem_iff).1 hx
  obtain ⟨m, hm, e1⟩ := List.mem_iff_getElem.1 hx
  obtain ⟨n, hn, e2⟩ := List.mem_iff_getElem.1 hy
  have hpw := List.pairwise_iff_getElem.1 hr
  rcases Nat.lt_trichotomy m n with h | h | h
  · have := hpw m n hm hn h; rw [e1, e2] at this; omega
  · subst h; rw [← e1, ← e2]
  · have := hpw n m hn hm h; rw [e1, e2] at this; omega
theorem stT_sent {a : List Smp} {out : List Pk} (ha : serF a = 0) (hl : a.length ≤ 1000) (ho : ∀ q ∈ out, q ∈ pksA a) (hall : ∀ q ∈ pksA a, q ∈ out) (hol : out.length ≤ 1000) : (stR (arrsF out) [] tgS).1 = a ∧ (stP (arrsF out) [] tgS (arrsF out).length).1.length = a.length ∧ arF (arrsF out) = 0 := by
  obtain ⟨s1, s2, s3⟩ := (serP_iff a).1 ha
  have h := stored_all s3 ho hall
  exact ⟨h.1, h.2, arrsF_ok hl s2 ho hol⟩
end Go.Proofs.YtnodfnjmhcjnfaaGreatDoor
