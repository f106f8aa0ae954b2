/- slices.Sort of integers: the kit's contract in the heap's words. No condition. -/
import Derived.Shelf.Sort.Plain
import Derived.Test.YtlnfiflbpmicgaaGreatDoorHVGA
set_option linter.all false
namespace Go.Proofs.YtlnfiflbpmicgaaGreatDoor
open Go Go.RowKit Go.Shelf
set_option maxRecDepth 100000
set_option maxHeartbeats 1000000
variable {H : Hp} {K : AV → Hp → Prop}
def srtRen : Go.Shelf.Ren := { f := fun x => match x with | 125 => 157 | 128 => 224 | 129 => 225 | 189 => 75 | 215 => 269 | 216 => 221 | 257 => 156 | 294 => 215 | 295 => 216 | 296 => 217 | 297 => 218 | 298 => 219 | 299 => 220 | 300 => 222 | 301 => 223 | 328 => 264 | 329 => 265 | 330 => 266 | 331 => 267 | 332 => 268 | 343 => 306 | n => n, t := fun x => match x with | 0 => 0 | 3 => 3 | 4 => 4 | 5 => 5 | 9 => 9 | 28 => 22 | 46 => 180 | 51 => 243 | 53 => 273 | 131 => 48 | 182 => 282 | 183 => 283 | 218 => 316 | 222 => 320 | 228 => 354 | 229 => 355 | n => n, g := fun x => x }
theorem srtLay : Lays.n189 Tryz.prog srtRen := {
  mixed := by kernel_rfl
  f125 := by kernel_rfl
  f128 := by kernel_rfl
  f129 := by kernel_rfl
  f189 := by kernel_rfl
  f215 := by kernel_rfl
  f216 := by kernel_rfl
  f257 := by kernel_rfl
  f294 := by kernel_rfl
  f295 := by kernel_rfl
  f296 := by kernel_rfl
  f297 := by kernel_rfl
  f298 := by kernel_rfl
  f299 := by kernel_rfl
  f300 := by kernel_rfl
  f301 := by kernel_rfl
  f328 := by kernel_rfl
  f329 := by kernel_rfl
  f330 := by kernel_rfl
  f331 := by kernel_rfl
  f332 := by kernel_rfl
  f343 := by kernel_rfl
  t0 := by kernel_rfl
  a0 := fun w => by kernel_rfl
  z0 := fun w => by kernel_rfl
  v0 := fun w => by kernel_rfl
  t3 := by kernel_rfl
  a3 := fun w => by kernel_rfl
  z3 := fun w => by kernel_rfl
  v3 := fun w => by kernel_rfl
  t4 := by kernel_rfl
  a4 := fun w => by kernel_rfl
  z4 := fun w => by kernel_rfl
  v4 := fun w => by kernel_rfl
  t5 := by kernel_rfl
  a5 := fun w => by kernel_rfl
  z5 := fun w => by kernel_rfl
  v5 := fun w => by kernel_rfl
  t9 := by kernel_rfl
  a9 := fun w => by kernel_rfl
  z9 := fun w => by kernel_rfl
  v9 := fun w => by kernel_rfl
  t28 := by kernel_rfl
  a28 := fun w => by kernel_rfl
  z28 := fun w => by kernel_rfl
  v28 := fun w => by kernel_rfl
  t46 := by kernel_rfl
  a46 := fun w => by kernel_rfl
  z46 := fun w => by kernel_rfl
  v46 := fun w => by kernel_rfl
  t51 := by kernel_rfl
  a51 := fun w => by kernel_rfl
  z51 := fun w => by kernel_rfl
  v51 := fun w => by kernel_rfl
  t53 := by kernel_rfl
  a53 := fun w => by kernel_rfl
  z53 := fun w => by kernel_rfl
  v53 := fun w => by kernel_rfl
  t131 := by kernel_rfl
  a131 := fun w => by kernel_rfl
  z131 := fun w => by kernel_rfl
  v131 := fun w => by kernel_rfl
  t182 := by kernel_rfl
  a182 := fun w => by kernel_rfl
  z182 := fun w => by kernel_rfl
  v182 := fun w => by kernel_rfl
  t183 := by kernel_rfl
  a183 := fun w => by kernel_rfl
  z183 := fun w => by kernel_rfl
  v183 := fun w => by kernel_rfl
  t218 := by kernel_rfl
  a218 := fun w => by kernel_rfl
  z218 := fun w => by kernel_rfl
  v218 := fun w => by kernel_rfl
  t222 := by kernel_rfl
  a222 := fun w => by kernel_rfl
  z222 := fun w => by kernel_rfl
  v222 := fun w => by kernel_rfl
  t228 := by kernel_rfl
  a228 := fun w => by kernel_rfl
  z228 := fun w => by kernel_rfl
  v228 := fun w => by kernel_rfl
  t229 := by kernel_rfl
  a229 := fun w => by kernel_rfl
  z229 := fun w => by kernel_rfl
  v229 := fun w => by kernel_rfl }
theorem putRow_one {w : World} {b : Nat} {cur : Array Value} {ty : TypeId} {fr : Nat × Nat} (h : w.heap[b]? = some (.cells cur ty fr)) (off : Nat) (d : Array Int) : (Go.Sort.putRow (Value.int .i64) w b off d).heap[b]? = some (.cells (Go.Sort.putCells (Value.int .i64) off d cur) ty fr) := by
  unfold Go.Sort.putRow Go.Sort.mapBlock
  simp [Array.getElem?_modify, h, Go.Sort.onCells]
theorem putRow_ne {w : World} {b k : Nat} (hk : k ≠ b) (off : Nat) (d : Array Int) : (Go.Sort.putRow (Value.int .i64) w b off d).heap[k]? = w.heap[k]? := by
  unfold Go.Sort.putRow Go.Sort.mapBlock
  simp [Array.getElem?_modify, Ne.symm hk]
def srtI (l : List Int) : List Int := l.mergeSort fun x y => decide (x ≤ y)
theorem srtI_len (l : List Int) : (srtI l).length = l.length := by unfold srtI; rw [List.length_mergeSort]
theorem sortI_a (l : List Int) {i n : Nat} (hi : H[i]? = some (.row 3 1 (l.map encI) true)) (hn : n = l.length) (h0 : l ≠ []) (hlen : l.length ≤ 1000000) (hk : K (.tup []) (H.set i (.row 3 1 ((srtI l).map encI) true))) :
    ACalls Tryz.prog 75 [.c (.sl (some (i, 0)) n)] H K := by
  subst hn
  intro B w0 ι w vs hs hr ho
  have hl1 : 0 < l.length := List.length_pos_iff.2 h0
  obtain ⟨l0⟩ := vs
  match l0, hr with
  | [v], hr =>
  obtain ⟨ad, hv, hcap, had⟩ : AC.rel ι (.sl (some (i, 0)) l.length) v := hr.1
  obtain ⟨g1, g2, cur, fr, g3, g4, g5⟩ := hs.obj i _ hi
  obtain ⟨g6, g7, g8, g9⟩ := g5 rfl
  have hll := srtI_len l
  subst hv
  have hg := had (.inr rfl)
  subst hg
  have hHo : Go.Sort.Holds (Value.int .i64) w (ι i).block 0 l.toArray := by
    intro j hj
    have hj' : j < l.length := by simpa using hj
    obtain ⟨u, h1, h2⟩ := g4 j [.int .i64 l[j]] (by rw [List.getElem?_map, List.getElem?_eq_getElem hj']; rfl) 0 _ rfl
    have h3 : u = .int .i64 l[j] := h2
    subst h3
    rw [g7, Nat.mul_one, Nat.add_zero] at h1
    constructor
    · show w.cell? ⟨(ι i).block, 0 + j, none⟩ = _
      unfold World.cell?
      dsimp only
      rw [g3]
      simpa [hj'] using h1
    · unfold World.frozen?
      dsimp only
      rw [g3, g6]
      simp
  have hmain := Any.slices_Sort_int srtLay (ι i).block 0 ((ι i).cap - 0) l w hHo (Array.getElem?_eq_some_iff.1 g3).1 (by omega)
  have e1 : (ι i).at 0 0 = ⟨(ι i).block, 0, none⟩ := by simp [Loc.at, g7]
  rw [e1]
  refine Calls.mono hmain ?_
  rintro e w' ⟨rfl, n, os, rfl⟩
  have hs1 : Sim B w0 ι H (Go.Sort.ahead w n) := hs.heap rfl rfl rfl rfl
  have hs2 : Sim B w0 ι (H.set i (.row 3 1 ((srtI l).map encI) true)) (Go.Sort.putRow (Value.int .i64) (Go.Sort.ahead w n) (ι i).block 0 (srtI l).toArray) := by
    refine hs1.set hi rfl (fun k hk => putRow_ne hk _ _) (by unfold Go.Sort.putRow Go.Sort.mapBlock; simp) rfl rfl rfl ?_ ?_
    · intro e he
      obtain ⟨x, _, rfl⟩ := List.mem_map.1 he
      exact ⟨rfl, fun y hy => by simp only [encI, List.mem_singleton] at hy; subst hy; trivial⟩
    · refine ⟨g1, by rw [List.length_map, hll]; simpa using g2, _, fr, putRow_one g3 _ _, fun k e hke j y hj => ?_, fun _ => ⟨g6, g7, by rw [Go.Sort.putCells, Array.size_mapIdx]; exact g8, g9⟩⟩
      rw [List.getElem?_map] at hke
      obtain ⟨x, hx, rfl⟩ := Option.map_eq_some_iff.1 hke
      cases j with
      | zero =>
        simp only [encI, List.getElem?_cons_zero, Option.some.injEq] at hj
        subst hj
        refine ⟨.int .i64 x, ?_, rfl⟩
        have hk1 := getElem?_lt hx
        rw [g7, Nat.zero_add, Nat.mul_one, Nat.add_zero, Go.Sort.putCells, Array.getElem?_mapIdx]
        have hk2 : k < cur.size := by rw [g8, Nat.mul_one]; rw [hll] at hk1; have := g2; rw [List.length_map] at this; omega
        rw [Array.getElem?_eq_getElem hk2, Option.map_some, if_pos ⟨by omega, by simpa using hk1⟩, Nat.sub_zero]
        have : x = (srtI l)[k] := by rw [List.getElem?_eq_getElem hk1] at hx; exact (Option.some.inj hx).symm
        rw [this]
        simp [hk1]
      | succ j => simp [encI] at hj
  have hs3 := hs2.grown (w' := Go.Sort.grow (Go.Sort.putRow (Value.int .i64) (Go.Sort.ahead w n) (ι i).block 0 (srtI l).toArray) os) ⟨rfl, rfl, rfl, by unfold Go.Sort.grow; simp, fun k hk _ => by unfold Go.Sort.grow; dsimp only; rw [Array.getElem?_append_left hk]⟩
  exact ⟨ι, _, .tup [], _, rfl, Agree.refl _ _, by simp, hs3, ⟨[], rfl, trivial⟩, (by intro x hx; cases hx), hk⟩
end Go.Proofs.YtlnfiflbpmicgaaGreatDoor
