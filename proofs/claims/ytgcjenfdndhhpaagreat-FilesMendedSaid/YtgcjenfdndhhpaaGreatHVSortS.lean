/- Several texts in one: slices, and what follows. No condition. -/
import Derived.Shelf.Sort.Plain
import Derived.Test.YtgcjenfdndhhpaaGreatHVGA
import Derived.Test.YtgcjenfdndhhpaaGreatHVGF
import Derived.Test.YtgcjenfdndhhpaaGreatHVStr
/- slices.Sort of strings: the kit's contract in the heap's words. No condition. -/
namespace Go.Proofs.YtgcjenfdndhhpaaGreat
open Go Go.RowKit Go.Shelf
set_option maxRecDepth 100000
set_option linter.all false
set_option maxHeartbeats 1000000
variable {H : Hp} {K : AV → Hp → Prop}
def srsRen : Go.Shelf.Ren := { f := fun x => match x with | 125 => 143 | 128 => 188 | 129 => 189 | 190 => 87 | 258 => 142 | 302 => 179 | 303 => 180 | 304 => 181 | 305 => 182 | 306 => 183 | 307 => 184 | 308 => 185 | 309 => 186 | 310 => 187 | 329 => 218 | 330 => 219 | 333 => 217 | 334 => 220 | 335 => 221 | 336 => 222 | 344 => 243 | n => n, t := fun x => match x with | 0 => 0 | 3 => 3 | 4 => 4 | 5 => 5 | 9 => 9 | 31 => 54 | 46 => 164 | 51 => 217 | 53 => 219 | 131 => 118 | 182 => 210 | 183 => 211 | 218 => 235 | 222 => 239 | 228 => 254 | 229 => 255 | n => n, g := fun x => x }
theorem srsLay : Lays.n190 Tryz.prog srsRen := {
  mixed := by kernel_rfl
  f125 := by kernel_rfl
  f128 := by kernel_rfl
  f129 := by kernel_rfl
  f190 := by kernel_rfl
  f258 := by kernel_rfl
  f302 := by kernel_rfl
  f303 := by kernel_rfl
  f304 := by kernel_rfl
  f305 := by kernel_rfl
  f306 := by kernel_rfl
  f307 := by kernel_rfl
  f308 := by kernel_rfl
  f309 := by kernel_rfl
  f310 := by kernel_rfl
  f329 := by kernel_rfl
  f330 := by kernel_rfl
  f333 := by kernel_rfl
  f334 := by kernel_rfl
  f335 := by kernel_rfl
  f336 := by kernel_rfl
  f344 := by kernel_rfl
  t0 := by kernel_rfl
  a0 := fun w => by kernel_rfl
  z0 := fun w => by kernel_rfl
  v0 := fun w => by kernel_rfl
  t3 := by kernel_rfl
  a3 := fun w => by kernel_rfl
  z3 := fun w => by kernel_rfl
  v3 := fun w => by kernel_rfl
  t4 := by kernel_rfl
  a4 := fun w => by kernel_rfl
  z4 := fun w => by kernel_rfl
  v4 := fun w => by kernel_rfl
  t5 := by kernel_rfl
  a5 := fun w => by kernel_rfl
  z5 := fun w => by kernel_rfl
  v5 := fun w => by kernel_rfl
  t9 := by kernel_rfl
  a9 := fun w => by kernel_rfl
  z9 := fun w => by kernel_rfl
  v9 := fun w => by kernel_rfl
  t31 := by kernel_rfl
  a31 := fun w => by kernel_rfl
  z31 := fun w => by kernel_rfl
  v31 := fun w => by kernel_rfl
  t46 := by kernel_rfl
  a46 := fun w => by kernel_rfl
  z46 := fun w => by kernel_rfl
  v46 := fun w => by kernel_rfl
  t51 := by kernel_rfl
  a51 := fun w => by kernel_rfl
  z51 := fun w => by kernel_rfl
  v51 := fun w => by kernel_rfl
  t53 := by kernel_rfl
  a53 := fun w => by kernel_rfl
  z53 := fun w => by kernel_rfl
  v53 := fun w => by kernel_rfl
  t131 := by kernel_rfl
  a131 := fun w => by kernel_rfl
  z131 := fun w => by kernel_rfl
  v131 := fun w => by kernel_rfl
  t182 := by kernel_rfl
  a182 := fun w => by kernel_rfl
  z182 := fun w => by kernel_rfl
  v182 := fun w => by kernel_rfl
  t183 := by kernel_rfl
  a183 := fun w => by kernel_rfl
  z183 := fun w => by kernel_rfl
  v183 := fun w => by kernel_rfl
  t218 := by kernel_rfl
  a218 := fun w => by kernel_rfl
  z218 := fun w => by kernel_rfl
  v218 := fun w => by kernel_rfl
  t222 := by kernel_rfl
  a222 := fun w => by kernel_rfl
  z222 := fun w => by kernel_rfl
  v222 := fun w => by kernel_rfl
  t228 := by kernel_rfl
  a228 := fun w => by kernel_rfl
  z228 := fun w => by kernel_rfl
  v228 := fun w => by kernel_rfl
  t229 := by kernel_rfl
  a229 := fun w => by kernel_rfl
  z229 := fun w => by kernel_rfl
  v229 := fun w => by kernel_rfl }
theorem putRowS_one {w : World} {b : Nat} {cur : Array Value} {ty : TypeId} {fr : Nat × Nat} (h : w.heap[b]? = some (.cells cur ty fr)) (off : Nat) (d : Array (List UInt8)) : (Go.Sort.putRow encStr w b off d).heap[b]? = some (.cells (Go.Sort.putCells encStr off d cur) ty fr) := by
  unfold Go.Sort.putRow Go.Sort.mapBlock
  simp [Array.getElem?_modify, h, Go.Sort.onCells]
theorem putRowS_ne {w : World} {b k : Nat} (hk : k ≠ b) (off : Nat) (d : Array (List UInt8)) : (Go.Sort.putRow encStr w b off d).heap[k]? = w.heap[k]? := by
  unfold Go.Sort.putRow Go.Sort.mapBlock
  simp [Array.getElem?_modify, Ne.symm hk]
def toL (x : ByteArray) : List UInt8 := x.data.toList
def ofL (x : List UInt8) : ByteArray := ⟨x.toArray⟩
theorem ofL_toL (x : ByteArray) : ofL (toL x) = x := rfl
theorem toL_ofL (x : List UInt8) : toL (ofL x) = x := by simp [toL, ofL]
@[go_sem] def encSs (x : ByteArray) : List AC := [.str x]
def srtS (l : List ByteArray) : List ByteArray := ((l.map toL).mergeSort fun x y => decide (x ≤ y)).map ofL
theorem srtS_len (l : List ByteArray) : (srtS l).length = l.length := by unfold srtS; rw [List.length_map, List.length_mergeSort, List.length_map]
theorem srtS_toL (l : List ByteArray) : (srtS l).map toL = (l.map toL).mergeSort fun x y => decide (x ≤ y) := by
  unfold srtS
  rw [List.map_map]
  exact List.map_id'' (fun x => toL_ofL x) _
theorem sortS_a (l : List ByteArray) {i n : Nat} (hi : H[i]? = some (.row 9 1 (l.map encSs) true)) (hn : n = l.length) (h0 : l ≠ []) (hlen : l.length ≤ 1000000) (hk : K (.tup []) (H.set i (.row 9 1 ((srtS l).map encSs) true))) :
    ACalls Tryz.prog 87 [.c (.sl (some (i, 0)) n)] H K := by
  subst hn
  intro B w0 ι w vs hs hr ho
  have hl1 : 0 < l.length := List.length_pos_iff.2 h0
  obtain ⟨l0⟩ := vs
  match l0, hr with
  | [v], hr =>
  obtain ⟨ad, hv, hcap, had⟩ : AC.rel ι (.sl (some (i, 0)) l.length) v := hr.1
  obtain ⟨g1, g2, cur, fr, g3, g4, g5⟩ := hs.obj i _ hi
  obtain ⟨g6, g7, g8, g9⟩ := g5 rfl
  have hll := srtS_len l
  subst hv
  have hg := had (.inr rfl)
  subst hg
  have hHo : Go.Sort.Holds encStr w (ι i).block 0 (l.map toL).toArray := by
    intro j hj
    have hj' : j < l.length := by simpa using hj
    have es : encStr (toL l[j]) = .string l[j] := rfl
    obtain ⟨u, h1, h2⟩ := g4 j [.str l[j]] (by rw [List.getElem?_map, List.getElem?_eq_getElem hj']; rfl) 0 _ rfl
    have h3 : u = .string l[j] := h2
    subst h3
    rw [g7, Nat.mul_one, Nat.add_zero] at h1
    constructor
    · show w.cell? ⟨(ι i).block, 0 + j, none⟩ = _
      unfold World.cell?
      dsimp only
      rw [g3]
      simpa [hj', es] using h1
    · unfold World.frozen?
      dsimp only
      rw [g3, g6]
      simp
  have hmain := Any.slices_Sort_string srsLay (ι i).block 0 ((ι i).cap - 0) (l.map toL) w hHo (Array.getElem?_eq_some_iff.1 g3).1 (by rw [List.length_map]; omega)
  rw [← srtS_toL, List.length_map] at hmain
  have e1 : (ι i).at 0 0 = ⟨(ι i).block, 0, none⟩ := by simp [Loc.at, g7]
  rw [e1]
  refine Calls.mono hmain ?_
  rintro e w' ⟨rfl, n, os, rfl⟩
  have hs1 : Sim B w0 ι H (Go.Sort.ahead w n) := hs.heap rfl rfl rfl rfl
  have hs2 : Sim B w0 ι (H.set i (.row 9 1 ((srtS l).map encSs) true)) (Go.Sort.putRow encStr (Go.Sort.ahead w n) (ι i).block 0 ((srtS l).map toL).toArray) := by
    refine hs1.set hi rfl (fun k hk => putRowS_ne hk _ _) (by unfold Go.Sort.putRow Go.Sort.mapBlock; simp) rfl rfl rfl ?_ ?_
    · intro e he
      obtain ⟨x, _, rfl⟩ := List.mem_map.1 he
      exact ⟨rfl, fun y hy => by simp only [encSs, List.mem_singleton] at hy; subst hy; trivial⟩
    · refine ⟨g1, by rw [List.length_map, hll]; simpa using g2, _, fr, putRowS_one g3 _ _, fun k e hke j y hj => ?_, fun _ => ⟨g6, g7, by rw [Go.Sort.putCells, Array.size_mapIdx]; exact g8, g9⟩⟩
      rw [List.getElem?_map] at hke
      obtain ⟨x, hx, rfl⟩ := Option.map_eq_some_iff.1 hke
      cases j with
      | zero =>
        simp only [encSs, List.getElem?_cons_zero, Option.some.injEq] at hj
        subst hj
        refine ⟨.string x, ?_, rfl⟩
        have hk1 := getElem?_lt hx
        rw [g7, Nat.zero_add, Nat.mul_one, Nat.add_zero, Go.Sort.putCells, Array.getElem?_mapIdx]
        have hk2 : k < cur.size := by rw [g8, Nat.mul_one]; rw [hll] at hk1; have := g2; rw [List.length_map] at this; omega
        rw [Array.getElem?_eq_getElem hk2, Option.map_some, if_pos ⟨by omega, by simpa using hk1⟩, Nat.sub_zero]
        have : x = (srtS l)[k] := by rw [List.getElem?_eq_getElem hk1] at hx; exact (Option.some.inj hx).symm
        rw [this]
        simp [hk1]
        exact ofL_toL _
      | succ j => simp [encSs] at hj
  have hs3 := hs2.grown (w' := Go.Sort.grow (Go.Sort.putRow encStr (Go.Sort.ahead w n) (ι i).block 0 ((srtS l).map toL).toArray) os) ⟨rfl, rfl, rfl, by unfold Go.Sort.grow; simp, fun k hk _ => by unfold Go.Sort.grow; dsimp only; rw [Array.getElem?_append_left hk]⟩
  exact ⟨ι, _, .tup [], _, rfl, Agree.refl _ _, by simp, hs3, ⟨[], rfl, trivial⟩, (by intro x hx; cases hx), hk⟩
end Go.Proofs.YtgcjenfdndhhpaaGreat
/- slices.Compact of strings. No condition. -/
namespace Go.Proofs.YtgcjenfdndhhpaaGreat
open Go Go.RowKit
set_option maxRecDepth 100000
set_option linter.all false
set_option maxHeartbeats 1000000
variable {H : Hp} {K : AV → Hp → Prop}
def cplG {α : Type} [DecidableEq α] : α → List α → List α
  | _, [] => []
  | p, y :: t => (if y = p then [] else [y]) ++ cplG y t
def cplF {α : Type} [DecidableEq α] : List α → List α
  | [] => []
  | x :: t => x :: cplG x t
theorem cplG_snoc {α : Type} [DecidableEq α] (y : α) : ∀ (t : List α) (p : α), cplG p (t ++ [y]) = cplG p t ++ (if y = ((p :: t)[t.length]'(by simp)) then [] else [y])
  | [], p => by simp [cplG]
  | z :: t, p => by
    rw [List.cons_append, cplG, cplG_snoc y t z, cplG, List.append_assoc]
    rfl
theorem cplF_succ {α : Type} [DecidableEq α] (l : List α) {j : Nat} (h1 : 1 ≤ j) (h : j < l.length) :
    cplF (l.take (j + 1)) = cplF (l.take j) ++ (if l[j] = (l[j - 1]'(by omega)) then [] else [l[j]]) := by
  obtain ⟨m, rfl⟩ : ∃ m, j = m + 1 := ⟨j - 1, by omega⟩
  cases l with
  | nil => simp at h
  | cons x t =>
    have hm : m < t.length := by simpa using h
    rw [List.take_succ_cons, List.take_succ_eq_append_getElem hm, List.take_succ_cons]
    show x :: cplG x (t.take m ++ [t[m]]) = x :: cplG x (t.take m) ++ _
    rw [cplG_snoc, List.cons_append]
    have e1 : (x :: t.take m)[(t.take m).length]'(by simp) = (x :: t)[m + 1 - 1] := by
      have hl : (t.take m).length = m := by rw [List.length_take]; omega
      have := List.getElem_take (xs := x :: t) (j := m + 1) (i := m) (h := by simp; omega)
      simp only [List.take_succ_cons] at this
      simp only [hl]
      exact this
    rw [e1]
    rfl
theorem cplF_few {α : Type} [DecidableEq α] (l : List α) (h : l.length < 2) : cplF l = l := by
  match l, h with
  | [], _ => rfl
  | [_], _ => rfl
theorem compactSt_a {i n : Nat} (l : List ByteArray) (hi : H[i]? = some (.row 9 1 (l.map encSs) true)) (hn : n = l.length) (hlen : l.length ≤ 1000000)
    (hk : K (.c (.lst 1 ((cplF l).map encSs))) (H.set i .dead)) :
    ACalls Tryz.prog 88 [.c (.sl (some (i, 0)) n)] H K := by
  subst hn
  have hilt := getElem?_lt hi
  refine acalls Tryz.func88 rfl (by kernel_rfl) (by simp (disch := first | omega | (simp only [go_sem]; first | done | omega)) only [go_sem]) (fun hH => ?_)
  simp (disch := first | omega | (simp only [go_sem]; first | done | omega)) only [go_sem]
  by_cases h2 : l.length < 2
  · rw [cplF_few l h2] at hk
    simp (disch := first | omega | (simp only [go_sem]; first | done | omega)) only [go_sem]
    refine Ret.frzDead hi (pureL_map _ (fun x => by simp [go_sem, AC.pure])) (by simp) (Nat.le_refl _) ?_
    rw [List.take_of_length_le (by simp)]
    exact hk
  simp (disch := first | omega | (simp only [go_sem]; first | done | omega)) only [go_sem]
  refine AWp.loop (H.length) [0] [3] (fun (k : Nat) => 1 ≤ k ∧ k ≤ l.length ∧ cplF (l.take k) = l.take k) (fun (k : Nat) => [(3, (.c (.int .i64 k)))]) (fun (k : Nat) => H) (fun (k : Nat) => l.length - k) (by kernel_rfl) (fun _ => rfl) (by kernel_rfl) (by first | (simp; done) | omega) (by first | (simp; done) | (simp; omega) | omega) kl ?_ (fun k hk1' _ _ => ?_)
  · refine Next.mk 1 ⟨Nat.le_refl _, by omega, ?_⟩ wk
    exact cplF_few _ (by rw [List.length_take]; omega)
  obtain ⟨k1, k2, k3⟩ := hk1'
  by_cases hlt : k < l.length
  · have hsu := cplF_succ l k1 hlt
    rw [k3] at hsu
    have hix : ((k : Int) - 1).toNat = k - 1 := by omega
    simp (disch := first | omega | (simp only [go_sem]; first | done | omega)) only [go_sem]
    refine w_draw (by kernel_rfl) (by decide +kernel) ?_
    simp (disch := first | omega | (simp only [go_sem]; first | done | omega)) only [go_sem, hi, hix]
    refine acond_b (fun c => ?_) (fun c => ?_)
    · -- two that are equal: what follows is moved up
      rw [if_pos (of_decide_eq_true c), List.append_nil] at hsu
      simp (disch := first | omega | (simp only [go_sem]; first | done | omega)) only [go_sem, hi]
      refine AWp.loop (H.length) [0, 4] [5, 3] (fun (s : Nat × List ByteArray) => 1 ≤ s.1 ∧ k + s.1 ≤ l.length ∧ s.2.length = l.length ∧ (cplF (l.take (k + s.1))).length < k + s.1 ∧ s.2.take (cplF (l.take (k + s.1))).length = cplF (l.take (k + s.1)) ∧ s.2.drop (k + s.1 - 1) = l.drop (k + s.1 - 1)) (fun (s : Nat × List ByteArray) => [(5, (.c (.int .i64 (s.1)))), (3, (.c (.int .i64 (((cplF (l.take (k + s.1))).length)))))]) (fun (s : Nat × List ByteArray) => H.set i (.row 9 1 (s.2.map encSs) true)) (fun (s : Nat × List ByteArray) => l.length - s.1) (by kernel_rfl) (fun _ => rfl) (by kernel_rfl) (by first | (simp; done) | omega) (by first | (simp; done) | (simp; omega) | omega) kl ?_ (fun s hs _ _ => ?_)
      · have hkl : (cplF (l.take (k + 1))).length = k := by rw [hsu, List.length_take]; omega
        refine Next.mk (1, l) ⟨Nat.le_refl _, by dsimp only; omega, rfl, by dsimp only; omega, ?_, rfl⟩ ?_
        · dsimp only
          rw [hkl]
          exact hsu.symm
        · dsimp only
          rw [hkl, set_same hi]
          exact wk
      obtain ⟨m, cur⟩ := s
      obtain ⟨s1, s2, s3, s4, s5, s6⟩ := hs
      dsimp only at s1 s2 s3 s4 s5 s6 ⊢
      obtain ⟨g, hg⟩ : ∃ g, g = cplF (l.take (k + m)) := ⟨_, rfl⟩
      rw [← hg] at s4 s5 ⊢
      by_cases hm : k + m < l.length
      · have hnx := cplF_succ l (show 1 ≤ k + m by omega) hm
        rw [← hg] at hnx
        have hjc : k + m < cur.length := by omega
        have hjc2 : k + m - 1 < cur.length := by omega
        have hc1 : cur[k + m] = l[k + m] := by
          have h1 := congrArg (fun z => z[1]?) s6
          simp only [List.getElem?_drop] at h1
          rw [show k + m - 1 + 1 = k + m by omega, List.getElem?_eq_getElem hjc, List.getElem?_eq_getElem hm] at h1
          exact Option.some.inj h1
        have hc0 : cur[k + m - 1] = l[k + m - 1] := by
          have h1 := congrArg (fun z => z[0]?) s6
          simp only [List.getElem?_drop, Nat.add_zero] at h1
          rw [List.getElem?_eq_getElem hjc2, List.getElem?_eq_getElem (by omega : k + m - 1 < l.length)] at h1
          exact Option.some.inj h1
        have hgc : g.length < cur.length := by omega
        have hc0' : cur[k + ((m : Int) - 1).toNat]'(by omega) = l[k + m - 1] := by
          have e : k + ((m : Int) - 1).toNat = k + m - 1 := by omega
          simp only [e]
          exact hc0
        have hdr : cur.drop (k + m) = l.drop (k + m) := by
          have h1 := congrArg (List.drop 1) s6
          rw [List.drop_drop, List.drop_drop, show k + m - 1 + 1 = k + m by omega] at h1
          exact h1
        simp (disch := first | omega | (simp only [go_sem]; first | done | omega)) only [go_sem]
        refine w_draw (by kernel_rfl) (by decide +kernel) ?_
        simp (disch := first | omega | (simp only [go_sem]; first | done | omega)) only [go_sem, hc1, hc0']
        refine acond_b (fun c => ?_) (fun c => ?_)
        · rw [if_pos (of_decide_eq_true c), List.append_nil] at hnx
          simp (disch := first | omega | (simp only [go_sem]; first | done | omega)) only [go_sem]
          refine Next.mk (m + 1, cur) ?_ ?_
          · dsimp only
            rw [← Nat.add_assoc, hnx, show k + m + 1 - 1 = k + m by omega]
            exact ⟨⟨by omega, by omega, s3, by omega, s5, hdr⟩, by omega⟩
          · dsimp only
            rw [← Nat.add_assoc, hnx]
            exact wk
        · rw [if_neg (of_decide_eq_false c)] at hnx
          simp (disch := first | omega | (simp only [go_sem]; first | done | omega)) only [go_sem, hc1]
          have hset : (cur.map encSs).set g.length (encSs l[k + m]) = (cur.set g.length l[k + m]).map encSs := by rw [List.map_set]
          simp only [encSs] at hset
          refine Next.mk (m + 1, cur.set g.length l[k + m]) ?_ ?_
          · dsimp only
            rw [← Nat.add_assoc, hnx, show k + m + 1 - 1 = k + m by omega]
            refine ⟨⟨by omega, by omega, by simpa using s3, by simp; omega, ?_, ?_⟩, by omega⟩
            · rw [List.length_append, List.length_singleton, List.take_succ_eq_append_getElem (by simpa using hgc), List.getElem_set_self]
              congr 1
              rw [List.take_set_of_le (Nat.le_refl _)]
              exact s5
            · rw [List.drop_set_of_lt (by omega)]
              exact hdr
          · dsimp only
            rw [← Nat.add_assoc, hnx, ← hset]
            exact wk
      · have hjl : k + m = l.length := by omega
        rw [hjl, List.take_length] at hg
        rw [← hg] at hk
        simp (disch := first | omega | (simp only [go_sem]; first | done | omega)) only [go_sem]
        refine aclr_pos _ _ (List.getElem?_set_self hilt) (by omega) rfl (by simp; omega) ?_
        rw [List.set_set, ← List.map_take, s5]
        simp (disch := first | omega | (simp only [go_sem]; first | done | omega)) only [go_sem]
        refine Ret.frzDead (List.getElem?_set_self hilt) (pureL_map _ (fun x => by simp [go_sem, AC.pure])) (by simp) (by simp) ?_
        rw [List.set_set, List.take_of_length_le (by simp)]
        exact hk
    · rw [if_neg (of_decide_eq_false c)] at hsu
      simp (disch := first | omega | (simp only [go_sem]; first | done | omega)) only [go_sem]
      refine Next.mk (k + 1) ⟨⟨by omega, by omega, ?_⟩, by omega⟩ wk
      rw [hsu, List.take_succ_eq_append_getElem hlt]
  · have hkl : k = l.length := by omega
    subst hkl
    rw [List.take_length] at k3
    rw [k3] at hk
    simp (disch := first | omega | (simp only [go_sem]; first | done | omega)) only [go_sem]
    refine Ret.frzDead hi (pureL_map _ (fun x => by simp [go_sem, AC.pure])) (by simp) (Nat.le_refl _) ?_
    rw [List.take_of_length_le (by simp)]
    exact hk
end Go.Proofs.YtgcjenfdndhhpaaGreat
