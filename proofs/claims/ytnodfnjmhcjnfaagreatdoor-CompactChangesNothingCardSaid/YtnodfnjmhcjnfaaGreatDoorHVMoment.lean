/- Several texts in one: The order of samples; the package merges something, and what follows. No condition. -/
import Derived.Test.YtnodfnjmhcjnfaaGreatDoorHCoreD
import Derived.Test.YtnodfnjmhcjnfaaGreatDoorHCoreDrawS
import Derived.Test.YtnodfnjmhcjnfaaGreatDoorHVGA
import Derived.Test.YtnodfnjmhcjnfaaGreatDoorHVBack
import Derived.Test.YtnodfnjmhcjnfaaGreatDoorHVPickC
import Derived.Shelf.Sort.Plain
/- The order of samples; the package merges something. No condition. -/
namespace Go.Proofs.YtnodfnjmhcjnfaaGreatDoor
open Go Go.RowKit
set_option maxRecDepth 100000
set_option linter.all false
set_option maxHeartbeats 1000000
variable {H : Hp} {K : AV → Hp → Prop}
theorem cmpOr_a (l : List Int) (hl : l.length ≤ 1000000) (hk : K (.c (.int .i64 (firstE l))) H) : ACalls Tryz.prog 214 [.c (.lst 1 (l.map encI))] H K := by
  refine acalls Tryz.func214 rfl (by kernel_rfl) (by simp (disch := first | omega | (simp only [go_sem]; first | done | omega)) only [go_sem]) (fun hH => ?_)
  simp (disch := first | omega | (simp only [go_sem]; first | done | omega)) only [go_sem]
  refine AWp.loop (H.length) [3, 6, 7] [8] (fun (k : Nat) => k ≤ l.length ∧ firstE (l.drop k) = firstE l) (fun (k : Nat) => [(8, (.c (.int .i64 k)))]) (fun (k : Nat) => H) (fun (k : Nat) => l.length - k) (by kernel_rfl) (fun _ => rfl) (by kernel_rfl) (by first | (simp; done) | omega) (by first | (simp; done) | (simp; omega) | omega) kl ?_ (fun k hk1 _ _ => ?_)
  · exact Next.mk 0 (by simp) wk
  · simp (disch := first | omega | (simp only [go_sem]; first | done | omega)) only [go_sem, *]
    repeat' (first | ((first | refine acond_d ?_ ?_ | refine acond_b ?_ ?_ | refine ag_d ?_ ?_ | refine ag_n ?_ ?_ | refine ag_bt ?_ ?_ | refine ag_bf ?_ ?_) <;> intro c <;> try simp (disch := first | omega | (simp only [go_sem]; first | done | omega)) only [go_sem, c]) | ((first | refine w_draw (by kernel_rfl) (by decide +kernel) ?_) <;> try simp (disch := first | omega | (simp only [go_sem]; first | done | omega)) only [go_sem]))
    · have := firstE_drop l k (by omega)
      exact Next.mk (k + 1) ⟨⟨by omega, by grind⟩, by omega⟩ wk
    · have := firstE_drop l k (by omega)
      (first | refine Ret.sameE (Nat.le_refl _) (by assumption) ?_ | refine Ret.dropE (by assumption) (Nat.le_refl _) (by assumption) (by simp [AV.ok, AV.ok1, AC.ok]) ?_) <;> (first | rfl | (simp only [AV.c.injEq, AC.bool.injEq]; rw [Bool.eq_iff_iff]; simp only [Bool.not_eq_true', decide_eq_true_eq, decide_eq_false_iff_not, Bool.and_eq_true, Bool.or_eq_true]; omega) | grind | (simp [*]; done) | (simp [*]; omega))
    · have : l.drop k = [] := List.drop_eq_nil_of_le (by omega)
      have h0 : firstE l = 0 := by rw [← hk1.2, this]; rfl
      (first | refine Ret.sameE (Nat.le_refl _) (by assumption) ?_ | refine Ret.dropE (by assumption) (Nat.le_refl _) (by assumption) (by simp [AV.ok, AV.ok1, AC.ok]) ?_) <;> (first | rfl | (simp only [AV.c.injEq, AC.bool.injEq]; rw [Bool.eq_iff_iff]; simp only [Bool.not_eq_true', decide_eq_true_eq, decide_eq_false_iff_not, Bool.and_eq_true, Bool.or_eq_true]; omega) | grind | (simp [*]; done) | (simp [*]; omega))
def cmpI (x y : Int) : Int := if x < y then -1 else if y < x then 1 else 0
def momC (a b : Smp) : Int := firstE [cmpI a.t b.t, cmpI a.q b.q, cmpI b.v a.v]
theorem cmpOr_lit (a b c : Int) {i ty n : Nat} {els : List (List AC)} {own : Bool} (hi : H[i]? = some (.row ty 1 els own)) (he : els = [[.int .i64 a], [.int .i64 b], [.int .i64 c]]) (hn : n = 3) (hk : K (.c (.int .i64 (firstE [a, b, c]))) (H.set i .dead)) : ACalls Tryz.prog 214 [.c (.sl (some (i, 0)) n)] H K := by
  subst he hn
  exact ACalls.lit hi (by simp [pureL, AC.pure]) (args' := [.c (.lst 1 ([a, b, c].map encI))]) (by simp [AV.frz1, AC.frz, encI]) (cmpOr_a [a, b, c] (by simp) hk)
def domC (f : FuncId) : Bool := Nat.beq f 151
def spC (_ : FuncId) (args : List AV) : Option AV := match args with
  | [.c (.int .i64 x), .c (.int .i64 y)] => some (.c (.int .i64 (cmpI x y)))
  | _ => none
@[go_sem] theorem domC_y : domC 151 = true := (rfl)
@[go_sem] theorem domC_n : domC 214 = false := (rfl)
@[go_sem] theorem spC_go (f : FuncId) (x y : Int) : spC f [(.c (.int .i64 x)), (.c (.int .i64 y))] = some (.c (.int .i64 (cmpI x y))) := (rfl)
theorem specC_ok : SpecOk Tryz.prog domC spC := by
  intro f args v H K hd hs hk
  have hf := Nat.eq_of_beq_eq_true hd
  subst hf
  unfold spC at hs
  split at hs
  · rename_i x y
    injection hs with hs
    subst hs
    exact ⟨by kernel_rfl, rfl, compare_a x y hk⟩
  · cases hs
theorem byMoment_a (a b : Smp) (hk : K (.c (.int .i64 (momC a b))) H) : ACalls Tryz.prog 133 [.agg (encS a), .agg (encS b)] H K := by
  refine acalls Tryz.func133 rfl (by kernel_rfl) (by simp (disch := first | omega | (simp only [go_sem]; first | done | omega)) only [go_sem]) (fun hH => ?_)
  simp (disch := first | omega | (simp only [go_sem]; first | done | omega)) only [go_sem]
  refine w_drawS specC_ok (by kernel_rfl) (by decide +kernel) ?_
  simp (disch := first | omega | (simp only [go_sem]; first | done | omega)) only [go_sem]
  refine cmpOr_lit (cmpI a.t b.t) (cmpI a.q b.q) (cmpI b.v a.v) (by first | ((repeat first | exact at0 (by simp) | refine atS ?_); done) | assumption) rfl rfl ?_
  simp (disch := first | omega | (simp only [go_sem]; first | done | omega)) only [go_sem]
  exact Ret.drop hH (Nat.le_refl _) trivial hk
def specM : FuncId → List AV → Hp → Res := fun f args H => match Nat.beq f 133, args with
  | true, [.agg [.int .i64 t, .int .i64 v, .int .i64 q], .agg [.int .i64 t2, .int .i64 v2, .int .i64 q2]] => some ((.c (.int .i64 (momC ⟨t, v, q⟩ ⟨t2, v2, q2⟩))), H)
  | _, _ => none
theorem specM_ok : CallOk Tryz.prog specM := by
  intro f args H v H' K h hk
  unfold specM at h
  split at h
  · rename_i t v q t2 v2 q2 hf
    have := Nat.eq_of_beq_eq_true hf
    subst this
    injection h with h; injection h with e1 e2; subst e1; subst e2
    exact byMoment_a ⟨t, v, q⟩ ⟨t2, v2, q2⟩ hk
  · cases h
end Go.Proofs.YtnodfnjmhcjnfaaGreatDoor
/- Arrivals: the program's order; too many nodes. No condition. -/
namespace Go.Proofs.YtnodfnjmhcjnfaaGreatDoor
open Go Go.RowKit
set_option maxRecDepth 100000
set_option linter.all false
set_option maxHeartbeats 1000000
variable {H : Hp} {K : AV → Hp → Prop}
end Go.Proofs.YtnodfnjmhcjnfaaGreatDoor
/- Arrivals whose packets are not the same where they should be: the program's answer. No condition. -/
namespace Go.Proofs.YtnodfnjmhcjnfaaGreatDoor
open Go Go.RowKit
set_option maxRecDepth 100000
set_option linter.all false
set_option maxHeartbeats 1000000
variable {H : Hp} {K : AV → Hp → Prop}
instance pkDec : DecidableEq Pk := fun a b =>
  if h : a.n = b.n ∧ a.tag = b.tag ∧ a.s = b.s then isTrue (by cases a; cases b; simp_all) else isFalse (by rintro rfl; simp at h)
end Go.Proofs.YtnodfnjmhcjnfaaGreatDoor
/- slices.Sort of strings: the kit's contract in the heap's words. No condition. -/
namespace Go.Proofs.YtnodfnjmhcjnfaaGreatDoor
open Go Go.RowKit Go.Shelf
set_option maxRecDepth 100000
set_option linter.all false
set_option maxHeartbeats 1000000
variable {H : Hp} {K : AV → Hp → Prop}
def srsRen : Go.Shelf.Ren := { f := fun x => match x with | 125 => 156 | 128 => 248 | 129 => 249 | 190 => 193 | 258 => 268 | 302 => 316 | 303 => 317 | 304 => 318 | 305 => 319 | 306 => 320 | 307 => 321 | 308 => 322 | 309 => 323 | 310 => 324 | 329 => 299 | 330 => 300 | 333 => 358 | 334 => 359 | 335 => 360 | 336 => 361 | 344 => 382 | n => n, t := fun x => match x with | 0 => 0 | 3 => 3 | 4 => 4 | 5 => 5 | 9 => 9 | 31 => 78 | 46 => 219 | 51 => 315 | 53 => 317 | 131 => 59 | 182 => 308 | 183 => 309 | 218 => 363 | 222 => 367 | 228 => 385 | 229 => 386 | n => n, g := fun x => x }
theorem srsLay : Lays.n190 Tryz.prog srsRen := {
  mixed := by kernel_rfl
  f125 := by kernel_rfl
  f128 := by kernel_rfl
  f129 := by kernel_rfl
  f190 := by kernel_rfl
  f258 := by kernel_rfl
  f302 := by kernel_rfl
  f303 := by kernel_rfl
  f304 := by kernel_rfl
  f305 := by kernel_rfl
  f306 := by kernel_rfl
  f307 := by kernel_rfl
  f308 := by kernel_rfl
  f309 := by kernel_rfl
  f310 := by kernel_rfl
  f329 := by kernel_rfl
  f330 := by kernel_rfl
  f333 := by kernel_rfl
  f334 := by kernel_rfl
  f335 := by kernel_rfl
  f336 := by kernel_rfl
  f344 := by kernel_rfl
  t0 := by kernel_rfl
  a0 := fun w => by kernel_rfl
  z0 := fun w => by kernel_rfl
  v0 := fun w => by kernel_rfl
  t3 := by kernel_rfl
  a3 := fun w => by kernel_rfl
  z3 := fun w => by kernel_rfl
  v3 := fun w => by kernel_rfl
  t4 := by kernel_rfl
  a4 := fun w => by kernel_rfl
  z4 := fun w => by kernel_rfl
  v4 := fun w => by kernel_rfl
  t5 := by kernel_rfl
  a5 := fun w => by kernel_rfl
  z5 := fun w => by kernel_rfl
  v5 := fun w => by kernel_rfl
  t9 := by kernel_rfl
  a9 := fun w => by kernel_rfl
  z9 := fun w => by kernel_rfl
  v9 := fun w => by kernel_rfl
  t31 := by kernel_rfl
  a31 := fun w => by kernel_rfl
  z31 := fun w => by kernel_rfl
  v31 := fun w => by kernel_rfl
  t46 := by kernel_rfl
  a46 := fun w => by kernel_rfl
  z46 := fun w => by kernel_rfl
  v46 := fun w => by kernel_rfl
  t51 := by kernel_rfl
  a51 := fun w => by kernel_rfl
  z51 := fun w => by kernel_rfl
  v51 := fun w => by kernel_rfl
  t53 := by kernel_rfl
  a53 := fun w => by kernel_rfl
  z53 := fun w => by kernel_rfl
  v53 := fun w => by kernel_rfl
  t131 := by kernel_rfl
  a131 := fun w => by kernel_rfl
  z131 := fun w => by kernel_rfl
  v131 := fun w => by kernel_rfl
  t182 := by kernel_rfl
  a182 := fun w => by kernel_rfl
  z182 := fun w => by kernel_rfl
  v182 := fun w => by kernel_rfl
  t183 := by kernel_rfl
  a183 := fun w => by kernel_rfl
  z183 := fun w => by kernel_rfl
  v183 := fun w => by kernel_rfl
  t218 := by kernel_rfl
  a218 := fun w => by kernel_rfl
  z218 := fun w => by kernel_rfl
  v218 := fun w => by kernel_rfl
  t222 := by kernel_rfl
  a222 := fun w => by kernel_rfl
  z222 := fun w => by kernel_rfl
  v222 := fun w => by kernel_rfl
  t228 := by kernel_rfl
  a228 := fun w => by kernel_rfl
  z228 := fun w => by kernel_rfl
  v228 := fun w => by kernel_rfl
  t229 := by kernel_rfl
  a229 := fun w => by kernel_rfl
  z229 := fun w => by kernel_rfl
  v229 := fun w => by kernel_rfl }
theorem putRowS_one {w : World} {b : Nat} {cur : Array Value} {ty : TypeId} {fr : Nat × Nat} (h : w.heap[b]? = some (.cells cur ty fr)) (off : Nat) (d : Array (List UInt8)) : (Go.Sort.putRow encStr w b off d).heap[b]? = some (.cells (Go.Sort.putCells encStr off d cur) ty fr) := by
  unfold Go.Sort.putRow Go.Sort.mapBlock
  simp [Array.getElem?_modify, h, Go.Sort.onCells]
theorem putRowS_ne {w : World} {b k : Nat} (hk : k ≠ b) (off : Nat) (d : Array (List UInt8)) : (Go.Sort.putRow encStr w b off d).heap[k]? = w.heap[k]? := by
  unfold Go.Sort.putRow Go.Sort.mapBlock
  simp [Array.getElem?_modify, Ne.symm hk]
def toL (x : ByteArray) : List UInt8 := x.data.toList
def ofL (x : List UInt8) : ByteArray := ⟨x.toArray⟩
theorem ofL_toL (x : ByteArray) : ofL (toL x) = x := rfl
theorem toL_ofL (x : List UInt8) : toL (ofL x) = x := by simp [toL, ofL]
@[go_sem] def encSs (x : ByteArray) : List AC := [.str x]
def srtS (l : List ByteArray) : List ByteArray := ((l.map toL).mergeSort fun x y => decide (x ≤ y)).map ofL
theorem srtS_len (l : List ByteArray) : (srtS l).length = l.length := by unfold srtS; rw [List.length_map, List.length_mergeSort, List.length_map]
theorem srtS_toL (l : List ByteArray) : (srtS l).map toL = (l.map toL).mergeSort fun x y => decide (x ≤ y) := by
  unfold srtS
  rw [List.map_map]
  exact List.map_id'' (fun x => toL_ofL x) _
theorem sortS_a (l : List ByteArray) {i n : Nat} (hi : H[i]? = some (.row 9 1 (l.map encSs) true)) (hn : n = l.length) (h0 : l ≠ []) (hlen : l.length ≤ 1000000) (hk : K (.tup []) (H.set i (.row 9 1 ((srtS l).map encSs) true))) :
    ACalls Tryz.prog 193 [.c (.sl (some (i, 0)) n)] H K := by
  subst hn
  intro B w0 ι w vs hs hr ho
  have hl1 : 0 < l.length := List.length_pos_iff.2 h0
  obtain ⟨l0⟩ := vs
  match l0, hr with
  | [v], hr =>
  obtain ⟨ad, hv, hcap, had⟩ : AC.rel ι (.sl (some (i, 0)) l.length) v := hr.1
  obtain ⟨g1, g2, cur, fr, g3, g4, g5⟩ := hs.obj i _ hi
  obtain ⟨g6, g7, g8, g9⟩ := g5 rfl
  have hll := srtS_len l
  subst hv
  have hg := had (.inr rfl)
  subst hg
  have hHo : Go.Sort.Holds encStr w (ι i).block 0 (l.map toL).toArray := by
    intro j hj
    have hj' : j < l.length := by simpa using hj
    have es : encStr (toL l[j]) = .string l[j] := rfl
    obtain ⟨u, h1, h2⟩ := g4 j [.str l[j]] (by rw [List.getElem?_map, List.getElem?_eq_getElem hj']; rfl) 0 _ rfl
    have h3 : u = .string l[j] := h2
    subst h3
    rw [g7, Nat.mul_one, Nat.add_zero] at h1
    constructor
    · show w.cell? ⟨(ι i).block, 0 + j, none⟩ = _
      unfold World.cell?
      dsimp only
      rw [g3]
      simpa [hj', es] using h1
    · unfold World.frozen?
      dsimp only
      rw [g3, g6]
      simp
  have hmain := Any.slices_Sort_string srsLay (ι i).block 0 ((ι i).cap - 0) (l.map toL) w hHo (Array.getElem?_eq_some_iff.1 g3).1 (by rw [List.length_map]; omega)
  rw [← srtS_toL, List.length_map] at hmain
  have e1 : (ι i).at 0 0 = ⟨(ι i).block, 0, none⟩ := by simp [Loc.at, g7]
  rw [e1]
  refine Calls.mono hmain ?_
  rintro e w' ⟨rfl, n, os, rfl⟩
  have hs1 : Sim B w0 ι H (Go.Sort.ahead w n) := hs.heap rfl rfl rfl rfl
  have hs2 : Sim B w0 ι (H.set i (.row 9 1 ((srtS l).map encSs) true)) (Go.Sort.putRow encStr (Go.Sort.ahead w n) (ι i).block 0 ((srtS l).map toL).toArray) := by
    refine hs1.set hi rfl (fun k hk => putRowS_ne hk _ _) (by unfold Go.Sort.putRow Go.Sort.mapBlock; simp) rfl rfl rfl ?_ ?_
    · intro e he
      obtain ⟨x, _, rfl⟩ := List.mem_map.1 he
      exact ⟨rfl, fun y hy => by simp only [encSs, List.mem_singleton] at hy; subst hy; trivial⟩
    · refine ⟨g1, by rw [List.length_map, hll]; simpa using g2, _, fr, putRowS_one g3 _ _, fun k e hke j y hj => ?_, fun _ => ⟨g6, g7, by rw [Go.Sort.putCells, Array.size_mapIdx]; exact g8, g9⟩⟩
      rw [List.getElem?_map] at hke
      obtain ⟨x, hx, rfl⟩ := Option.map_eq_some_iff.1 hke
      cases j with
      | zero =>
        simp only [encSs, List.getElem?_cons_zero, Option.some.injEq] at hj
        subst hj
        refine ⟨.string x, ?_, rfl⟩
        have hk1 := getElem?_lt hx
        rw [g7, Nat.zero_add, Nat.mul_one, Nat.add_zero, Go.Sort.putCells, Array.getElem?_mapIdx]
        have hk2 : k < cur.size := by rw [g8, Nat.mul_one]; rw [hll] at hk1; have := g2; rw [List.length_map] at this; omega
        rw [Array.getElem?_eq_getElem hk2, Option.map_some, if_pos ⟨by omega, by simpa using hk1⟩, Nat.sub_zero]
        have : x = (srtS l)[k] := by rw [List.getElem?_eq_getElem hk1] at hx; exact (Option.some.inj hx).symm
        rw [this]
        simp [hk1]
        exact ofL_toL _
      | succ j => simp [encSs] at hj
  have hs3 := hs2.grown (w' := Go.Sort.grow (Go.Sort.putRow encStr (Go.Sort.ahead w n) (ι i).block 0 ((srtS l).map toL).toArray) os) ⟨rfl, rfl, rfl, by unfold Go.Sort.grow; simp, fun k hk _ => by unfold Go.Sort.grow; dsimp only; rw [Array.getElem?_append_left hk]⟩
  exact ⟨ι, _, .tup [], _, rfl, Agree.refl _ _, by simp, hs3, ⟨[], rfl, trivial⟩, (by intro x hx; cases hx), hk⟩
end Go.Proofs.YtnodfnjmhcjnfaaGreatDoor
