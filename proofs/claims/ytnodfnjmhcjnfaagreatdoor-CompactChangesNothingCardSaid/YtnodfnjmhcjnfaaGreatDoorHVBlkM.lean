/- What blocks and files come to: no program in sight. Condition: what is said in each. -/
import Derived.Test.YtnodfnjmhcjnfaaGreatDoorHVAppend
import Derived.Test.YtnodfnjmhcjnfaaGreatDoorHVSrtM
namespace Go.Proofs.YtnodfnjmhcjnfaaGreatDoor
open Go Go.RowKit
theorem uv_app (t : List UInt8) : ∀ (l : List UInt8) (r : Nat × Nat), uv l = some r → uv (l ++ t) = some r
  | [], _, h => by simp [uv] at h
  | c :: l, r, h => by
    simp only [List.cons_append, uv] at h ⊢
    split at h
    · rename_i hc; rw [if_pos hc]; exact h
    · rename_i hc
      rw [if_neg hc]
      obtain ⟨q, h1, h2⟩ := Option.map_eq_some_iff.1 h
      rw [uv_app t l q h1]
      exact congrArg some h2
theorem uvR_app {l : List UInt8} (t : List UInt8) {p : Nat} {r : Int × Nat} (h : uvR l p = some r) (hp : p ≤ l.length) : uvR (l ++ t) p = some r := by
  unfold uvR at h ⊢
  obtain ⟨q, h1, h2⟩ := Option.map_eq_some_iff.1 h
  rw [List.drop_append_of_le_length hp]
  have : unv (l.drop p ++ t) = some q := by
    unfold unv at h1 ⊢
    split at h1
    · cases h1
    · rename_i u k hu
      rw [uv_app t _ _ hu]
      exact h1
  rw [this]
  exact congrArg some h2
theorem smps_app (t : List UInt8) {l : List UInt8} : ∀ (k p : Nat) (s : Smp) (r : List Smp × Nat), p ≤ l.length → smps l k p s = some r → smps (l ++ t) k p s = some r
  | 0, _, _, _, _, h => h
  | k + 1, p, s, r, hp, h => by
    unfold smps at h ⊢
    split at h
    · cases h
    · rename_i a p1 h1
      have b1 := (unvarint_le h1).2.1 hp
      rw [uvR_app t h1 hp]
      dsimp only
      split at h
      · cases h
      · rename_i v p2 h2
        have b2 := (unvarint_le h2).2.1 b1
        rw [uvR_app t h2 b1]
        dsimp only
        split at h
        · cases h
        · rename_i q p3 h3
          have b3 := (unvarint_le h3).2.1 b2
          rw [uvR_app t h3 b2]
          dsimp only
          obtain ⟨r', h4, h5⟩ := Option.map_eq_some_iff.1 h
          rw [smps_app t k p3 _ r' b3 h4]
          exact congrArg some h5
theorem getD_app {l : List UInt8} (t : List UInt8) {i : Nat} (h : i < l.length) : (l ++ t).getD i 0 = l.getD i 0 := by
  simp [List.getD, List.getElem?_append_left h]
theorem take_app {l : List UInt8} (t : List UInt8) {x n : Nat} (h : x + n ≤ l.length) : ((l ++ t).drop x).take n = (l.drop x).take n := by
  rw [List.drop_append_of_le_length (by omega), List.take_append_of_le_length (by rw [List.length_drop]; omega)]
theorem decP_app {l : List UInt8} (t : List UInt8) {p : Nat} {r : UInt8 × ByteArray × List Smp × Nat} (h : decP l p = some r) : decP (l ++ t) p = some r := by
  unfold decP at h ⊢
  split at h
  · cases h
  rename_i h0
  have h0 : p + 2 ≤ l.length ∧ (l.getD (p + 1) 0).toNat ≤ 1 := Classical.not_not.1 h0
  rw [getD_app t (by omega), if_neg (by rw [List.length_append]; exact fun h => h ⟨by omega, h0.2⟩)]
  split at h
  · cases h
  rename_i n x hx
  rw [uvR_app t hx (by omega)]
  dsimp only
  split at h
  · cases h
  rename_i h1
  have h1 := Classical.not_not.1 h1
  rw [if_neg (by rw [List.length_append]; exact fun h => h ⟨h1.1, h1.2.1, by omega⟩)]
  split at h
  · cases h
  rename_i m y hy
  rw [uvR_app t hy (by omega)]
  dsimp only
  split at h
  · cases h
  rename_i h2
  rw [if_neg h2]
  split at h
  · cases h
  rename_i ss e hs
  have hy2 := (unvarint_le hy).2.1 h1.2.2
  rw [smps_app t _ _ _ _ hy2 hs]
  dsimp only
  split at h
  · cases h
  rename_i h3
  rw [if_neg (by rw [List.length_append]; omega), take_app t h1.2.2]
  exact h
theorem decP_ends {l : List UInt8} {p : Nat} {kind : UInt8} {tag : ByteArray} {ss : List Smp} {e : Nat} (h : decP l p = some (kind, tag, ss, e)) : p + 2 ≤ l.length ∧ p ≤ e ∧ e + 2 ≤ l.length := by
  unfold decP at h
  split at h
  · cases h
  rename_i h0
  have h0 := Classical.not_not.1 h0
  split at h
  · cases h
  rename_i n x hx
  split at h
  · cases h
  split at h
  · cases h
  rename_i m y hy
  split at h
  · cases h
  split at h
  · cases h
  rename_i ss' e' hs
  split at h
  · cases h
  rename_i h6
  simp only [Option.some.injEq, Prod.mk.injEq] at h
  obtain ⟨_, _, _, rfl⟩ := h
  have := (smps_len _ _ _ _ _ hs).2.1
  have := unvarint_le hx
  have := unvarint_le hy
  omega
theorem decRes_app {l : List UInt8} (t : List UInt8) {p : Nat} (h : (decRes l p).2.2 = 0) : decRes (l ++ t) p = decRes l p := by
  have h' := h
  unfold decRes at h ⊢
  split at h
  · cases h
  rename_i h0
  split at h
  · cases h
  rename_i h1
  split at h
  · cases h
  rename_i kind tag ss e hd
  have hb := decP_ends hd
  have g1 : ¬ (p = (l ++ t).length) := by rw [List.length_append]; omega
  have g2 : ¬ (((l ++ t).getD p 0).toNat ≠ 167) := by rw [getD_app t (by omega)]; exact h1
  rw [if_neg g1, if_neg g2, decP_app t hd, if_neg h0, if_neg h1]
  dsimp only
  rw [getD_app t (show e < l.length by omega), getD_app t (show e + 1 < l.length by omega), take_app t (show p + (e - p) ≤ l.length by omega)]
theorem smps_B (t : List UInt8) : ∀ (ss : List Smp) (pre : List UInt8) (s : Smp), smlS s → (∀ x ∈ ss, smlS x) → smps (pre ++ (smpsB s ss ++ t)) ss.length pre.length s = some (ss, pre.length + (smpsB s ss).length)
  | [], pre, s, _, _ => by simp [smps, smpsB]
  | x :: ss, pre, s, hs, hx => by
    obtain ⟨⟨a1, a2⟩, ⟨a3, a4⟩, a5, a6⟩ := hs
    have hx0 := hx x (by simp)
    obtain ⟨⟨b1, b2⟩, ⟨b3, b4⟩, b5, b6⟩ := hx0
    have e1 : smpsB s (x :: ss) ++ t = vb (zig (x.t - s.t)) ++ (vb (zig (x.v - s.v)) ++ (vb (zig x.q) ++ (smpsB x ss ++ t))) := by simp [smpsB, smpB]
    have h1 := uvR_vb pre (vb (zig (x.v - s.v)) ++ (vb (zig x.q) ++ (smpsB x ss ++ t))) (n := x.t - s.t) ⟨by omega, by omega⟩
    have h2 := uvR_vb (pre ++ vb (zig (x.t - s.t))) (vb (zig x.q) ++ (smpsB x ss ++ t)) (n := x.v - s.v) ⟨by omega, by omega⟩
    have h3 := uvR_vb (pre ++ vb (zig (x.t - s.t)) ++ vb (zig (x.v - s.v))) (smpsB x ss ++ t) (n := x.q) ⟨by omega, by omega⟩
    have h4 := smps_B t ss (pre ++ vb (zig (x.t - s.t)) ++ vb (zig (x.v - s.v)) ++ vb (zig x.q)) x (hx x (by simp)) (fun y hy => hx y (by simp [hy]))
    rw [e1, List.length_cons]
    unfold smps
    rw [h1]
    dsimp only
    simp only [List.append_assoc, List.length_append] at h2 h3 h4
    simp only [← Nat.add_assoc] at h2 h3 h4
    rw [h2]
    dsimp only
    rw [h3]
    dsimp only
    have ex : (⟨s.t + (x.t - s.t), s.v + (x.v - s.v), x.q⟩ : Smp) = x := by
      cases x; simp only [Smp.mk.injEq, and_true]; constructor <;> omega
    rw [ex, h4]
    simp only [Option.map_some, smpsB, smpB, List.length_append, Option.some.injEq, Prod.mk.injEq, true_and]
    omega
def okBk (tag : ByteArray) (l : List Smp) : Prop := (1 ≤ tag.size ∧ tag.size ≤ 40) ∧ (1 ≤ l.length ∧ l.length ≤ 100) ∧ ∀ s ∈ l, smlS s
theorem decP_B (pre t : List UInt8) (tag : ByteArray) (l : List Smp) (o : Bool) (h : okBk tag l) : decP (pre ++ (blockB tag l o ++ t)) pre.length = some (if o then 1 else 0, tag, l, pre.length + (bodyB tag l o).length) := by
  obtain ⟨⟨t1, t2⟩, ⟨l1, l2⟩, hs⟩ := h
  generalize hk : (if o then 1 else 0 : UInt8) = kd
  have hkd : kd.toNat ≤ 1 := by subst hk; cases o <;> decide
  generalize hc1 : u8I ((csum (bodyB tag l o) / 256 : Nat)) = c1
  generalize hc2 : u8I ((csum (bodyB tag l o) % 256 : Nat)) = c2
  have htl : tag.data.toList.length = tag.size := Array.length_toList
  have e0 : blockB tag l o ++ t = [167, kd] ++ (vb (zig tag.size) ++ (tag.data.toList ++ (vb (zig l.length) ++ (smpsB ⟨0, 0, 0⟩ l ++ ([c1, c2] ++ t))))) := by
    unfold blockB bodyB headB
    rw [hk]
    unfold bodyB headB at hc1 hc2
    rw [hk] at hc1 hc2
    rw [hc1, hc2]
    simp
  have eb : (bodyB tag l o).length = 2 + ((vb (zig tag.size)).length + (tag.size + ((vb (zig l.length)).length + (smpsB ⟨0, 0, 0⟩ l).length))) := by
    unfold bodyB headB
    simp only [List.length_append, List.length_cons, List.length_nil, htl]
    omega
  have h1 := uvR_vb (pre ++ [167, kd]) (tag.data.toList ++ (vb (zig l.length) ++ (smpsB ⟨0, 0, 0⟩ l ++ ([c1, c2] ++ t)))) (n := (tag.size : Int)) ⟨by omega, by omega⟩
  have h2 := uvR_vb (pre ++ [167, kd] ++ vb (zig tag.size) ++ tag.data.toList) (smpsB ⟨0, 0, 0⟩ l ++ ([c1, c2] ++ t)) (n := (l.length : Int)) ⟨by omega, by omega⟩
  have h3 := smps_B ([c1, c2] ++ t) l (pre ++ [167, kd] ++ vb (zig tag.size) ++ tag.data.toList ++ vb (zig l.length)) ⟨0, 0, 0⟩ (by simp [smlS]) hs
  have hget : (pre ++ ([167, kd] ++ (vb (zig tag.size) ++ (tag.data.toList ++ (vb (zig l.length) ++ (smpsB ⟨0, 0, 0⟩ l ++ ([c1, c2] ++ t))))))).getD (pre.length + 1) 0 = kd := by
    simp [List.getD]
  have htake : ((pre ++ ([167, kd] ++ (vb (zig tag.size) ++ (tag.data.toList ++ (vb (zig l.length) ++ (smpsB ⟨0, 0, 0⟩ l ++ ([c1, c2] ++ t))))))).drop (pre.length + 2 + (vb (zig tag.size)).length)).take (tag.size : Int).toNat = tag.data.toList := by
    have : pre ++ ([167, kd] ++ (vb (zig tag.size) ++ (tag.data.toList ++ (vb (zig l.length) ++ (smpsB ⟨0, 0, 0⟩ l ++ ([c1, c2] ++ t)))))) = (pre ++ [167, kd] ++ vb (zig tag.size)) ++ (tag.data.toList ++ (vb (zig l.length) ++ (smpsB ⟨0, 0, 0⟩ l ++ ([c1, c2] ++ t)))) := by simp
    rw [this, List.drop_append_of_le_length (by simp only [List.length_append, List.length_cons, List.length_nil]; omega), List.drop_eq_nil_of_le (by simp only [List.length_append, List.length_cons, List.length_nil]; omega), List.nil_append, Int.toNat_natCast, ← htl, List.take_left]
  have hstr : strU tag.data.toList = tag := by unfold strU; cases tag; simp
  simp only [List.append_assoc, List.length_append, List.length_cons, List.length_nil, htl] at h1 h2 h3
  simp only [Nat.zero_add, Nat.reduceAdd, ← Nat.add_assoc] at h1 h2 h3
  unfold decP
  rw [e0, hget, if_neg, h1]
  · dsimp only
    rw [if_neg, Int.toNat_natCast, h2]
    · dsimp only
      rw [if_neg (fun h => h ⟨by omega, by omega⟩), Int.toNat_natCast, h3]
      dsimp only
      rw [if_neg]
      · rw [Int.toNat_natCast] at htake
        rw [htake, hstr, eb]
        simp only [Option.some.injEq, Prod.mk.injEq, true_and]
        omega
      · simp only [List.length_append, List.length_cons, List.length_nil, htl]; omega
    · simp only [List.length_append, List.length_cons, List.length_nil, htl, Int.toNat_natCast]; omega
  · simp only [List.length_append, List.length_cons, List.length_nil]; omega
theorem u8I_nat {n : Nat} (h : n < 256) : (u8I (n : Nat)).toNat = n := by
  unfold u8I
  rw [Int.toNat_natCast, UInt8.toNat_ofNat']
  omega
def blkOf (at_ : Nat) (tag : ByteArray) (l : List Smp) (o : Bool) : Blk := ⟨at_, (blockB tag l o).length, tag, (l.headD ⟨0, 0, 0⟩).t, (l.getLastD ⟨0, 0, 0⟩).t, l.length, o⟩
theorem decRes_B (pre t : List UInt8) (tag : ByteArray) (l : List Smp) (o : Bool) (h : okBk tag l) (hk : isKey tag) (hf : serF l = 0) : decRes (pre ++ (blockB tag l o ++ t)) pre.length = (blkOf pre.length tag l o, l, 0) := by
  have hd := decP_B pre t tag l o h
  have hb2 : (blockB tag l o).length = (bodyB tag l o).length + 2 := by simp [blockB]
  have hpos : 0 < (bodyB tag l o).length := by simp [bodyB, headB]
  have hcl := csum_lt (bodyB tag l o)
  have h0 : (pre ++ (blockB tag l o ++ t)).getD pre.length 0 = 167 := by
    simp [List.getD, blockB, bodyB, headB]
  have h1 : (pre ++ (blockB tag l o ++ t)).getD (pre.length + (bodyB tag l o).length) 0 = u8I ((csum (bodyB tag l o) / 256 : Nat)) := by
    unfold blockB
    simp [List.getD, List.getElem?_append_right]
  have h2 : (pre ++ (blockB tag l o ++ t)).getD (pre.length + (bodyB tag l o).length + 1) 0 = u8I ((csum (bodyB tag l o) % 256 : Nat)) := by
    unfold blockB
    rw [Nat.add_assoc]
    simp [List.getD, List.getElem?_append_right]
  have h3 : ((pre ++ (blockB tag l o ++ t)).drop pre.length).take (bodyB tag l o).length = bodyB tag l o := by
    rw [List.drop_left, blockB, List.append_assoc, List.take_left]
  unfold decRes
  rw [if_neg (by simp only [List.length_append]; omega), h0, if_neg (by decide), hd]
  dsimp only
  rw [h1, h2, show pre.length + (bodyB tag l o).length - pre.length = (bodyB tag l o).length by omega, h3, u8I_nat (by omega), u8I_nat (Nat.mod_lt _ (by omega)),
    if_neg (by omega), if_neg (by simpa using hk), if_neg (by simpa using hf)]
  unfold blkOf
  simp only [Prod.mk.injEq, and_true, Blk.mk.injEq, true_and]
  refine ⟨by rw [hb2]; omega, ?_⟩
  cases o <;> rfl
/-! ### right series -/
def risS (l : List Smp) : Prop := l.Pairwise (fun x y => x.t < y.t)
theorem errGo_at {α : Type} (f : Nat → α → α → Int) (p0 : α) (l : List α) (h : errGo f 0 p0 l = 0) : ∀ k (hk : k < l.length), f k (prv p0 l k) l[k] = 0 := by
  have key : ∀ k, k ≤ l.length → errGo f k (prv p0 l k) (l.drop k) = 0 := by
    intro k
    induction k with
    | zero => intro _; exact h
    | succ k ih =>
      intro hk
      have h1 := ih (by omega)
      rw [errGo_step f p0 l k (by omega)] at h1
      split at h1
      · exact h1
      · rename_i h2; exact absurd h1 h2
  intro k hk
  have h1 := key k (by omega)
  rw [errGo_step f p0 l k hk] at h1
  split at h1
  · assumption
  · rename_i h2; exact absurd h1 h2
theorem errGo_iff {α : Type} (f : Nat → α → α → Int) (p0 : α) (l : List α) (h : ∀ k (hk : k < l.length), f k (prv p0 l k) l[k] = 0) : errGo f 0 p0 l = 0 := by
  have key : ∀ n k, k + n = l.length → errGo f k (prv p0 l k) (l.drop k) = 0 := by
    intro n
    induction n with
    | zero => intro k hk; exact errGo_end f _ l k (by omega)
    | succ n ih =>
      intro k hk
      rw [errGo_step f p0 l k (by omega), if_pos (h k (by omega))]
      exact ih (k + 1) (by omega)
  exact key l.length 0 (by omega)
theorem serP_iff (l : List Smp) : serF l = 0 ↔ l.length ≤ 5000 ∧ (∀ x ∈ l, smpErr x = 0) ∧ risS l := by
  constructor
  · intro h
    unfold serF at h
    split at h
    · cases h
    rename_i h0
    have h1 := errGo_at _ _ _ h
    have h2 : ∀ k (hk : k < l.length), smpErr l[k] = 0 ∧ (0 < k → (prv ⟨0, 0, 0⟩ l k).t < l[k].t) := by
      intro k hk
      have h2 := h1 k hk
      unfold serErr at h2
      split at h2
      · rename_i h3; exact absurd h2 h3
      · rename_i h3
        split at h2
        · cases h2
        · rename_i h4; exact ⟨by simpa using h3, fun h5 => by omega⟩
    refine ⟨by omega, fun x hx => ?_, ?_⟩
    · obtain ⟨k, hk, rfl⟩ := List.mem_iff_getElem.1 hx
      exact (h2 k hk).1
    · have h3 : ∀ k (hk : k + 1 < l.length), l[k].t < l[k + 1].t := fun k hk => by
        have := (h2 (k + 1) hk).2 (by omega)
        rw [prv_succ _ _ _ (by omega)] at this
        exact this
      have h4 : ∀ n i (hj : i + n + 1 < l.length), l[i].t < l[i + n + 1].t := by
        intro n
        induction n with
        | zero => intro i hj; exact h3 i hj
        | succ n ih => intro i hj; exact Int.lt_trans (ih i (by omega)) (h3 (i + n + 1) hj)
      refine List.pairwise_iff_getElem.2 fun i j hi hj hij => ?_
      have := h4 (j - i - 1) i (by omega)
      simp only [show i + (j - i - 1) + 1 = j by omega] at this
      exact this
  · rintro ⟨h1, h2, h3⟩
    unfold serF
    rw [if_neg (by omega)]
    refine errGo_iff _ _ _ fun k hk => ?_
    unfold serErr
    rw [if_neg (by simpa using h2 _ (List.getElem_mem hk)), if_neg]
    rintro ⟨a, b⟩
    rw [prv_pos _ _ _ (by omega) a] at b
    have := List.pairwise_iff_getElem.1 h3 (k - 1) k (by omega) hk (by omega)
    omega
theorem serP_sub {l l' : List Smp} (h : serF l = 0) (hs : l'.Sublist l) : serF l' = 0 := by
  obtain ⟨h1, h2, h3⟩ := (serP_iff l).1 h
  exact (serP_iff l').2 ⟨Nat.le_trans hs.length_le h1, fun x hx => h2 x (hs.mem hx), h3.sublist hs⟩
theorem smpErr_sml {x : Smp} (h : smpErr x = 0) : smlS x := by
  unfold smlS
  grind [smpErr]
/-! ### files -/
theorem decTop_in {l : List UInt8} {p : Nat} (hl : l.length ≤ 200000) (hp : p ≤ l.length) : decTop l p = decRes l p := by
  unfold decTop
  rw [if_neg (by omega), if_neg (by omega), Int.toNat_natCast]
theorem parF_fuel (l : List UInt8) : ∀ (f f' p : Nat) (acc : List Pc), l.length - p < f → l.length - p < f' → parF l f p acc = parF l f' p acc
  | 0, _, _, _, h, _ => absurd h (by omega)
  | _ + 1, 0, _, _, _, h => absurd h (by omega)
  | f + 1, f' + 1, p, acc, h, h' => by
    unfold parF
    split
    · split
      · rfl
      · rename_i h0
        have h1 := decTop_ok (l := l) (p := p) (by simpa using h0)
        split
        · rfl
        · exact parF_fuel l f f' _ _ (by omega) (by omega)
    · rfl
def parG (l : List UInt8) (p : Nat) (acc : List Pc) : List Pc × Nat × Int := parF l (l.length - p + 1) p acc
theorem par_G {l : List UInt8} (h : l.length ≤ 200000) : par l = parG l 0 [] := by
  unfold par parG
  rw [if_neg (by omega), Nat.sub_zero]
theorem parG_end {l : List UInt8} {p : Nat} (acc : List Pc) (h : l.length ≤ p) : parG l p acc = (acc, p, 0) := by
  unfold parG parF
  rw [if_neg (by omega)]
theorem parG_step {l : List UInt8} {p : Nat} (acc : List Pc) (h : p < l.length) : parG l p acc = if (decTop l p).2.2 ≠ 0 then (acc, p, (decTop l p).2.2)
      else if foll acc (decTop l p).1 = false then (acc, p, 7)
      else parG l (p + (decTop l p).1.long.toNat) (acc ++ [⟨(decTop l p).1, (decTop l p).2.1⟩]) := by
  unfold parG
  rw [show parF l (l.length - p + 1) p acc = _ from rfl, parF, if_pos h]
  split
  · rfl
  · rename_i h0
    have h1 := decTop_ok (l := l) (p := p) (by simpa using h0)
    split
    · rfl
    · exact parF_fuel l _ _ _ _ (by omega) (by omega)
theorem parG_app (t : List UInt8) {l : List UInt8} (hl : (l ++ t).length ≤ 200000) : ∀ (n p : Nat) (acc : List Pc), l.length - p ≤ n → p ≤ l.length → (parG l p acc).2.2 = 0 → parG (l ++ t) p acc = parG (l ++ t) l.length (parG l p acc).1 ∧ (parG l p acc).2.1 = l.length := by
  intro n
  induction n with
  | zero =>
    intro p acc hn hp h
    have e : p = l.length := by omega
    subst e
    rw [parG_end acc (Nat.le_refl _)]
    exact ⟨rfl, rfl⟩
  | succ n ih =>
    intro p acc hn hp h
    by_cases hlt : p < l.length
    · have hla : l.length ≤ 200000 := by rw [List.length_append] at hl; omega
      rw [parG_step acc hlt] at h ⊢
      by_cases h0 : (decTop l p).2.2 = 0
      case neg => rw [if_pos h0] at h; exact absurd h h0
      rw [if_neg (by simpa using h0)] at h ⊢
      by_cases h1 : foll acc (decTop l p).1 = false
      case pos => rw [if_pos h1] at h; cases h
      rw [if_neg h1] at h ⊢
      have hok := decTop_ok h0
      have e : decTop (l ++ t) p = decTop l p := by
        rw [decTop_in hl (by rw [List.length_append]; omega), decTop_in hla hp] at *
        exact decRes_app t h0
      have := ih (p + (decTop l p).1.long.toNat) _ (by omega) (by omega) h
      rw [parG_step acc (by rw [List.length_append]; omega), e, if_neg (by simpa using h0), if_neg h1]
      exact this
    · have e : p = l.length := by omega
      subst e
      rw [parG_end acc (Nat.le_refl _)]
      exact ⟨rfl, rfl⟩
theorem parG_block (pre t : List UInt8) (acc : List Pc) (tag : ByteArray) (l : List Smp) (o : Bool) (h : okBk tag l) (hk : isKey tag) (hf : serF l = 0) (hl : (pre ++ (blockB tag l o ++ t)).length ≤ 200000) (hfo : foll acc (blkOf pre.length tag l o) = true) :
    parG (pre ++ (blockB tag l o ++ t)) pre.length acc = parG (pre ++ (blockB tag l o ++ t)) (pre.length + (blockB tag l o).length) (acc ++ [⟨blkOf pre.length tag l o, l⟩]) := by
  have hpos : 0 < (blockB tag l o).length := by simp [blockB]
  have e : decTop (pre ++ (blockB tag l o ++ t)) pre.length = (blkOf pre.length tag l o, l, 0) := by
    rw [decTop_in hl (by simp only [List.length_append]; omega), decRes_B pre t tag l o h hk hf]
  rw [parG_step acc (by simp only [List.length_append]; omega), e, if_neg (by simp), if_neg (by simpa using hfo)]
  rfl
def pcs (tag : ByteArray) (l : List Smp) (o : Bool) : Nat → List Nat → List Pc
  | _, [] => []
  | p, k :: ks => ⟨blkOf p tag (parts 100 l k) o, parts 100 l k⟩ :: pcs tag l o (p + (blockB tag (parts 100 l k) o).length) ks
theorem lastO_snoc (ps : List Pc) (x : Pc) (tag : ByteArray) : lastO (ps ++ [x]) tag = if x.b.tag = tag ∧ x.b.over = false then x.b.last else lastO ps tag := by
  unfold lastO
  rw [List.foldl_append]
  rfl
theorem parts_sub (l : List Smp) (k : Nat) : (parts 100 l k).Sublist l := (List.take_sublist _ _).trans (List.drop_sublist _ _)
theorem parts_pos {l : List Smp} {k : Nat} (h : k * 100 < l.length) : 1 ≤ (parts 100 l k).length ∧ (parts 100 l k).length ≤ 100 := by
  unfold parts
  rw [List.length_take, List.length_drop]
  omega
theorem head_mem {l : List Smp} (h : 1 ≤ l.length) : l.headD ⟨0, 0, 0⟩ ∈ l := by
  cases l with
  | nil => simp at h
  | cons x r => simp
theorem last_mem {l : List Smp} (h : 1 ≤ l.length) : l.getLastD ⟨0, 0, 0⟩ ∈ l := by
  cases l with
  | nil => simp at h
  | cons x r => rw [List.getLastD_cons, List.getLastD_eq_getLast?]; cases h2 : r.getLast? with
    | none => simp
    | some y => simp [List.mem_of_getLast? h2]
theorem parG_chunks (tag : ByteArray) (l : List Smp) (o : Bool) (hk : isKey tag) (hf : serF l = 0) (t : List UInt8) : ∀ (n k : Nat) (pre : List UInt8) (acc : List Pc), (n = 0 ∨ (k + n - 1) * 100 < l.length) → (o = false → ∀ x ∈ l.drop (k * 100), lastO acc tag < x.t) → (pre ++ (chB tag l o (List.range' k n) ++ t)).length ≤ 200000 →
    parG (pre ++ (chB tag l o (List.range' k n) ++ t)) pre.length acc = parG (pre ++ (chB tag l o (List.range' k n) ++ t)) (pre.length + (chB tag l o (List.range' k n)).length) (acc ++ pcs tag l o pre.length (List.range' k n))
  | 0, k, pre, acc, _, _, _ => by simp [chB, pcs]
  | n + 1, k, pre, acc, hn, hlast, hl => by
    have hkl : k * 100 < l.length := by
      have : (k + (n + 1) - 1) * 100 < l.length := by rcases hn with h | h; · omega
                                                      · exact h
      omega
    obtain ⟨p1, p2⟩ := parts_pos hkl
    obtain ⟨s1, s2, s3⟩ := (serP_iff l).1 hf
    have hpf := serP_sub hf (parts_sub l k)
    have hok : okBk tag (parts 100 l k) := ⟨⟨hk.1, hk.2.1⟩, ⟨p1, p2⟩, fun x hx => smpErr_sml (s2 x ((parts_sub l k).mem hx))⟩
    have hrange : List.range' k (n + 1) = k :: List.range' (k + 1) n := rfl
    have hch : chB tag l o (List.range' k (n + 1)) = blockB tag (parts 100 l k) o ++ chB tag l o (List.range' (k + 1) n) := by rw [hrange]; simp [chB]
    rw [hch] at hl ⊢
    rw [List.append_assoc] at hl ⊢
    have hfo : foll acc (blkOf pre.length tag (parts 100 l k) o) = true := by
      unfold foll blkOf
      cases o with
      | true => rfl
      | false =>
        have hm : (parts 100 l k).headD ⟨0, 0, 0⟩ ∈ l.drop (k * 100) := List.mem_of_mem_take (head_mem p1)
        have := hlast rfl _ hm
        simpa using this
    rw [parG_block pre _ acc tag (parts 100 l k) o hok hk hpf hl hfo]
    have hnext : o = false → ∀ x ∈ l.drop ((k + 1) * 100), lastO (acc ++ [⟨blkOf pre.length tag (parts 100 l k) o, parts 100 l k⟩]) tag < x.t := by
      intro ho x hx
      rw [lastO_snoc, if_pos ⟨rfl, ho⟩]
      show ((parts 100 l k).getLastD ⟨0, 0, 0⟩).t < x.t
      have hm := last_mem p1
      have hsplit : l.drop (k * 100) = parts 100 l k ++ l.drop ((k + 1) * 100) := by
        unfold parts
        rw [show (k + 1) * 100 = k * 100 + 100 by omega, ← List.drop_drop, List.take_append_drop]
      have h3 := s3.sublist (List.drop_sublist (k * 100) l)
      rw [hsplit] at h3
      exact (List.pairwise_append.1 h3).2.2 _ hm _ hx
    have hn2 : n = 0 ∨ (k + 1 + n - 1) * 100 < l.length := by
      rcases hn with h | h
      · omega
      · right; rw [show k + 1 + n - 1 = k + (n + 1) - 1 by omega]; exact h
    have := parG_chunks tag l o hk hf t n (k + 1) (pre ++ blockB tag (parts 100 l k) o) (acc ++ [⟨blkOf pre.length tag (parts 100 l k) o, parts 100 l k⟩]) hn2 hnext (by rw [List.append_assoc]; exact hl)
    rw [List.append_assoc, List.length_append] at this
    rw [this, hrange, List.length_append, Nat.add_assoc]
    congr 1
    simp [pcs]
theorem nch_last (l : List Smp) : nch l = 0 ∨ (0 + nch l - 1) * 100 < l.length := by unfold nch; omega
theorem lastO_pcs_over (tag tg : ByteArray) (l : List Smp) : ∀ (ks : List Nat) (p : Nat) (acc : List Pc), lastO (acc ++ pcs tag l true p ks) tg = lastO acc tg
  | [], p, acc => by simp [pcs]
  | k :: ks, p, acc => by
    rw [pcs, ← List.singleton_append, ← List.append_assoc, lastO_pcs_over tag tg l ks, lastO_snoc, if_neg]
    rintro ⟨_, h⟩
    cases h
def newP (file : List UInt8) (tag : ByteArray) (l : List Smp) : List Pc :=
  pcs tag (lateL (lastO (par file).1 tag) l) true file.length (List.range (nch (lateL (lastO (par file).1 tag) l))) ++
  pcs tag (normL (lastO (par file).1 tag) l) false (file.length + (chB tag (lateL (lastO (par file).1 tag) l) true (List.range (nch (lateL (lastO (par file).1 tag) l)))).length) (List.range (nch (normL (lastO (par file).1 tag) l)))
theorem append_par {file : List UInt8} {tag : ByteArray} {l : List Smp} (h : (appRes file tag l).2 = 0) : par (appRes file tag l).1 = ((par file).1 ++ newP file tag l, (appRes file tag l).1.length, 0) ∧ (appRes file tag l).1.length ≤ 200000 ∧ (par file).2.2 = 0 ∧ (appRes file tag l).1 = appB file tag l ∧ isKey tag ∧ serF l = 0 := by
  unfold appRes at h ⊢
  split at h
  · rename_i h0; exact absurd h h0
  rename_i h0
  split at h
  · cases h
  rename_i h1
  split at h
  · rename_i h2; exact absurd h h2
  rename_i h2
  split at h
  · cases h
  rename_i h3
  rw [if_neg h0, if_neg h1, if_neg h2, if_neg h3]
  dsimp only
  have h0 : (par file).2.2 = 0 := by simpa using h0
  have h1 : isKey tag := by simpa using h1
  have h2 : serF l = 0 := by simpa using h2
  refine ⟨?_, by omega, h0, rfl, h1, h2⟩
  have hfl : file.length ≤ 200000 := par_small h0
  have hgo := par_G hfl
  have hle : (appB file tag l).length ≤ 200000 := by omega
  rw [par_G hle]
  unfold newP appB at *
  rw [hgo] at h0 hle ⊢
  generalize hL : lastO (parG file 0 []).1 tag = last at *
  have f1 := serP_sub h2 (List.filter_sublist (p := fun x : Smp => decide (¬ last < x.t)) (l := l))
  have f2 := serP_sub h2 (List.filter_sublist (p := fun x : Smp => decide (last < x.t)) (l := l))
  have hA := parG_app _ hle file.length 0 [] (by omega) (by omega) h0
  rw [hA.1]
  simp only [List.range_eq_range'] at hle ⊢
  generalize hX : chB tag (lateL last l) true (List.range' 0 (nch (lateL last l))) = X at hle ⊢
  generalize hY : chB tag (normL last l) false (List.range' 0 (nch (normL last l))) = Y at hle ⊢
  have s1 := parG_chunks tag (lateL last l) true h1 f1 Y (nch (lateL last l)) 0 file (parG file 0 []).1 (nch_last _) (fun h => by cases h) (by rw [hX]; exact hle)
  rw [hX] at s1
  rw [s1]
  have s2 := parG_chunks tag (normL last l) false h1 f2 [] (nch (normL last l)) 0 (file ++ X) ((parG file 0 []).1 ++ pcs tag (lateL last l) true file.length (List.range' 0 (nch (lateL last l)))) (nch_last _) (fun _ x hx => by
    rw [lastO_pcs_over, hL]
    rw [Nat.zero_mul, List.drop_zero] at hx
    exact of_decide_eq_true (List.mem_filter.1 hx).2) (by rw [hY, List.append_nil, List.append_assoc]; exact hle)
  rw [hY, List.append_nil, List.append_assoc, List.length_append] at s2
  rw [s2, parG_end _ (by simp only [List.length_append]; omega), List.append_assoc]
  simp only [List.length_append, Nat.add_assoc]
theorem decRes_at {l : List UInt8} {p : Nat} (h : (decRes l p).2.2 = 0) : (decRes l p).1.at_ = p ∧ (decRes l p).1.count = (decRes l p).2.1.length ∧ serF (decRes l p).2.1 = 0 ∧ isKey (decRes l p).1.tag ∧ 1 ≤ (decRes l p).2.1.length := by
  unfold decRes at h ⊢
  split at h
  · cases h
  rename_i g0
  rw [if_neg g0]
  split at h
  · cases h
  rename_i g1
  rw [if_neg g1]
  split at h
  · cases h
  rename_i kind tag ss e hd
  split at h
  · cases h
  rename_i g2
  rw [if_neg g2]
  split at h
  · cases h
  rename_i g3
  rw [if_neg g3]
  split at h
  · rename_i g4; exact absurd h g4
  rename_i g4
  rw [if_neg g4]
  refine ⟨rfl, rfl, by simpa using g4, by simpa using g3, ?_⟩
  dsimp only
  unfold decP at hd
  split at hd
  · cases hd
  split at hd
  · cases hd
  split at hd
  · cases hd
  split at hd
  · cases hd
  rename_i m y hy
  split at hd
  · cases hd
  rename_i hm
  split at hd
  · cases hd
  rename_i ss' e' hs
  split at hd
  · cases hd
  simp only [Option.some.injEq, Prod.mk.injEq] at hd
  obtain ⟨_, _, rfl, _⟩ := hd
  have := (smps_len _ _ _ _ _ hs).1
  omega
def chainP : Int → List Pc → Int → Prop
  | p, [], q => p = q
  | p, x :: xs, q => x.b.at_ = p ∧ 2 ≤ x.b.long ∧ (x.b.count = x.ss.length ∧ serF x.ss = 0 ∧ isKey x.b.tag ∧ 1 ≤ x.ss.length) ∧ chainP (p + x.b.long) xs q
theorem chainP_all : ∀ (B : List Pc) (p q : Int), chainP p B q → p ≤ q ∧ ∀ x ∈ B, p ≤ x.b.at_ ∧ 2 ≤ x.b.long ∧ x.b.at_ + x.b.long ≤ q ∧ x.b.count = x.ss.length ∧ serF x.ss = 0 ∧ isKey x.b.tag ∧ 1 ≤ x.ss.length
  | [], p, q, h => ⟨by simp only [chainP] at h; omega, by simp⟩
  | y :: ys, p, q, h => by
    obtain ⟨h1, h2, ⟨h3, h4, h5, h6⟩, h7⟩ := h
    obtain ⟨i1, i2⟩ := chainP_all ys _ _ h7
    refine ⟨by omega, fun x hx => ?_⟩
    rcases List.mem_cons.1 hx with rfl | hx
    · exact ⟨by omega, h2, by omega, h3, h4, h5, h6⟩
    · have := i2 x hx; exact ⟨by omega, this.2⟩
theorem par_chain {l : List UInt8} (hl : l.length ≤ 200000) : ∀ (n p : Nat) (acc : List Pc), l.length - p ≤ n → p ≤ l.length → ∃ B, (parG l p acc).1 = acc ++ B ∧ chainP p B (parG l p acc).2.1 ∧ (parG l p acc).2.1 ≤ l.length ∧ ((parG l p acc).2.2 = 0 → (parG l p acc).2.1 = l.length) := by
  intro n
  induction n with
  | zero =>
    intro p acc hn hp
    rw [parG_end acc (by omega)]
    exact ⟨[], by simp, rfl, hp, fun _ => by dsimp only; omega⟩
  | succ n ih =>
    intro p acc hn hp
    by_cases hlt : p < l.length
    case neg =>
      rw [parG_end acc (by omega)]
      exact ⟨[], by simp, rfl, hp, fun _ => by dsimp only; omega⟩
    rw [parG_step acc hlt]
    by_cases h0 : (decTop l p).2.2 = 0
    case neg => rw [if_pos h0]; exact ⟨[], by simp, rfl, hp, fun h => absurd h h0⟩
    rw [if_neg (by simpa using h0)]
    by_cases h1 : foll acc (decTop l p).1 = false
    case pos => rw [if_pos h1]; exact ⟨[], by simp, rfl, hp, fun h => by cases h⟩
    rw [if_neg h1]
    have hok := decTop_ok h0
    have hdt := decTop_in hl hp
    have hat := decRes_at (l := l) (p := p) (by rw [← hdt]; exact h0)
    rw [← hdt] at hat
    obtain ⟨B, i1, i2, i3, i4⟩ := ih (p + (decTop l p).1.long.toNat) (acc ++ [⟨(decTop l p).1, (decTop l p).2.1⟩]) (by omega) (by omega)
    refine ⟨⟨(decTop l p).1, (decTop l p).2.1⟩ :: B, by rw [i1]; simp, ⟨hat.1, hok.1, hat.2, ?_⟩, i3, i4⟩
    have e : ((p + (decTop l p).1.long.toNat : Nat) : Int) = (p : Int) + (decTop l p).1.long := by omega
    rw [← e]
    exact i2
end Go.Proofs.YtnodfnjmhcjnfaaGreatDoor
