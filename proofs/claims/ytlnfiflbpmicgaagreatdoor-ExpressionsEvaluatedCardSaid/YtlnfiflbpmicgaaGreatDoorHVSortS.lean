/- slices.Sort of strings: the kit's contract in the heap's words. No condition. -/
import Derived.Shelf.Sort.Plain
import Derived.Test.YtlnfiflbpmicgaaGreatDoorHVGA
set_option linter.all false
namespace Go.Proofs.YtlnfiflbpmicgaaGreatDoor
open Go Go.RowKit Go.Shelf
set_option maxRecDepth 100000
set_option maxHeartbeats 1000000
variable {H : Hp} {K : AV → Hp → Prop}
def srsRen : Go.Shelf.Ren := { f := fun x => match x with | 125 => 157 | 128 => 224 | 129 => 225 | 190 => 150 | 258 => 213 | 302 => 254 | 303 => 255 | 304 => 256 | 305 => 257 | 306 => 258 | 307 => 259 | 308 => 260 | 309 => 261 | 310 => 262 | 329 => 265 | 330 => 266 | 333 => 302 | 334 => 303 | 335 => 304 | 336 => 305 | 344 => 327 | n => n, t := fun x => match x with | 0 => 0 | 3 => 3 | 4 => 4 | 5 => 5 | 9 => 9 | 31 => 57 | 46 => 180 | 51 => 243 | 53 => 273 | 131 => 48 | 182 => 282 | 183 => 283 | 218 => 316 | 222 => 320 | 228 => 354 | 229 => 355 | n => n, g := fun x => x }
theorem srsLay : Lays.n190 Tryz.prog srsRen := {
  mixed := by kernel_rfl
  f125 := by kernel_rfl
  f128 := by kernel_rfl
  f129 := by kernel_rfl
  f190 := by kernel_rfl
  f258 := by kernel_rfl
  f302 := by kernel_rfl
  f303 := by kernel_rfl
  f304 := by kernel_rfl
  f305 := by kernel_rfl
  f306 := by kernel_rfl
  f307 := by kernel_rfl
  f308 := by kernel_rfl
  f309 := by kernel_rfl
  f310 := by kernel_rfl
  f329 := by kernel_rfl
  f330 := by kernel_rfl
  f333 := by kernel_rfl
  f334 := by kernel_rfl
  f335 := by kernel_rfl
  f336 := by kernel_rfl
  f344 := by kernel_rfl
  t0 := by kernel_rfl
  a0 := fun w => by kernel_rfl
  z0 := fun w => by kernel_rfl
  v0 := fun w => by kernel_rfl
  t3 := by kernel_rfl
  a3 := fun w => by kernel_rfl
  z3 := fun w => by kernel_rfl
  v3 := fun w => by kernel_rfl
  t4 := by kernel_rfl
  a4 := fun w => by kernel_rfl
  z4 := fun w => by kernel_rfl
  v4 := fun w => by kernel_rfl
  t5 := by kernel_rfl
  a5 := fun w => by kernel_rfl
  z5 := fun w => by kernel_rfl
  v5 := fun w => by kernel_rfl
  t9 := by kernel_rfl
  a9 := fun w => by kernel_rfl
  z9 := fun w => by kernel_rfl
  v9 := fun w => by kernel_rfl
  t31 := by kernel_rfl
  a31 := fun w => by kernel_rfl
  z31 := fun w => by kernel_rfl
  v31 := fun w => by kernel_rfl
  t46 := by kernel_rfl
  a46 := fun w => by kernel_rfl
  z46 := fun w => by kernel_rfl
  v46 := fun w => by kernel_rfl
  t51 := by kernel_rfl
  a51 := fun w => by kernel_rfl
  z51 := fun w => by kernel_rfl
  v51 := fun w => by kernel_rfl
  t53 := by kernel_rfl
  a53 := fun w => by kernel_rfl
  z53 := fun w => by kernel_rfl
  v53 := fun w => by kernel_rfl
  t131 := by kernel_rfl
  a131 := fun w => by kernel_rfl
  z131 := fun w => by kernel_rfl
  v131 := fun w => by kernel_rfl
  t182 := by kernel_rfl
  a182 := fun w => by kernel_rfl
  z182 := fun w => by kernel_rfl
  v182 := fun w => by kernel_rfl
  t183 := by kernel_rfl
  a183 := fun w => by kernel_rfl
  z183 := fun w => by kernel_rfl
  v183 := fun w => by kernel_rfl
  t218 := by kernel_rfl
  a218 := fun w => by kernel_rfl
  z218 := fun w => by kernel_rfl
  v218 := fun w => by kernel_rfl
  t222 := by kernel_rfl
  a222 := fun w => by kernel_rfl
  z222 := fun w => by kernel_rfl
  v222 := fun w => by kernel_rfl
  t228 := by kernel_rfl
  a228 := fun w => by kernel_rfl
  z228 := fun w => by kernel_rfl
  v228 := fun w => by kernel_rfl
  t229 := by kernel_rfl
  a229 := fun w => by kernel_rfl
  z229 := fun w => by kernel_rfl
  v229 := fun w => by kernel_rfl }
theorem putRowS_one {w : World} {b : Nat} {cur : Array Value} {ty : TypeId} {fr : Nat × Nat} (h : w.heap[b]? = some (.cells cur ty fr)) (off : Nat) (d : Array (List UInt8)) : (Go.Sort.putRow encStr w b off d).heap[b]? = some (.cells (Go.Sort.putCells encStr off d cur) ty fr) := by
  unfold Go.Sort.putRow Go.Sort.mapBlock
  simp [Array.getElem?_modify, h, Go.Sort.onCells]
theorem putRowS_ne {w : World} {b k : Nat} (hk : k ≠ b) (off : Nat) (d : Array (List UInt8)) : (Go.Sort.putRow encStr w b off d).heap[k]? = w.heap[k]? := by
  unfold Go.Sort.putRow Go.Sort.mapBlock
  simp [Array.getElem?_modify, Ne.symm hk]
def toL (x : ByteArray) : List UInt8 := x.data.toList
def ofL (x : List UInt8) : ByteArray := ⟨x.toArray⟩
theorem ofL_toL (x : ByteArray) : ofL (toL x) = x := rfl
theorem toL_ofL (x : List UInt8) : toL (ofL x) = x := by simp [toL, ofL]
@[go_sem] def encSs (x : ByteArray) : List AC := [.str x]
def srtS (l : List ByteArray) : List ByteArray := ((l.map toL).mergeSort fun x y => decide (x ≤ y)).map ofL
theorem srtS_len (l : List ByteArray) : (srtS l).length = l.length := by unfold srtS; rw [List.length_map, List.length_mergeSort, List.length_map]
theorem srtS_toL (l : List ByteArray) : (srtS l).map toL = (l.map toL).mergeSort fun x y => decide (x ≤ y) := by
  unfold srtS
  rw [List.map_map]
  exact List.map_id'' (fun x => toL_ofL x) _
theorem sortS_a (l : List ByteArray) {i n : Nat} (hi : H[i]? = some (.row 9 1 (l.map encSs) true)) (hn : n = l.length) (h0 : l ≠ []) (hlen : l.length ≤ 1000000) (hk : K (.tup []) (H.set i (.row 9 1 ((srtS l).map encSs) true))) :
    ACalls Tryz.prog 150 [.c (.sl (some (i, 0)) n)] H K := by
  subst hn
  intro B w0 ι w vs hs hr ho
  have hl1 : 0 < l.length := List.length_pos_iff.2 h0
  obtain ⟨l0⟩ := vs
  match l0, hr with
  | [v], hr =>
  obtain ⟨ad, hv, hcap, had⟩ : AC.rel ι (.sl (some (i, 0)) l.length) v := hr.1
  obtain ⟨g1, g2, cur, fr, g3, g4, g5⟩ := hs.obj i _ hi
  obtain ⟨g6, g7, g8, g9⟩ := g5 rfl
  have hll := srtS_len l
  subst hv
  have hg := had (.inr rfl)
  subst hg
  have hHo : Go.Sort.Holds encStr w (ι i).block 0 (l.map toL).toArray := by
    intro j hj
    have hj' : j < l.length := by simpa using hj
    have es : encStr (toL l[j]) = .string l[j] := rfl
    obtain ⟨u, h1, h2⟩ := g4 j [.str l[j]] (by rw [List.getElem?_map, List.getElem?_eq_getElem hj']; rfl) 0 _ rfl
    have h3 : u = .string l[j] := h2
    subst h3
    rw [g7, Nat.mul_one, Nat.add_zero] at h1
    constructor
    · show w.cell? ⟨(ι i).block, 0 + j, none⟩ = _
      unfold World.cell?
      dsimp only
      rw [g3]
      simpa [hj', es] using h1
    · unfold World.frozen?
      dsimp only
      rw [g3, g6]
      simp
  have hmain := Any.slices_Sort_string srsLay (ι i).block 0 ((ι i).cap - 0) (l.map toL) w hHo (Array.getElem?_eq_some_iff.1 g3).1 (by rw [List.length_map]; omega)
  rw [← srtS_toL, List.length_map] at hmain
  have e1 : (ι i).at 0 0 = ⟨(ι i).block, 0, none⟩ := by simp [Loc.at, g7]
  rw [e1]
  refine Calls.mono hmain ?_
  rintro e w' ⟨rfl, n, os, rfl⟩
  have hs1 : Sim B w0 ι H (Go.Sort.ahead w n) := hs.heap rfl rfl rfl rfl
  have hs2 : Sim B w0 ι (H.set i (.row 9 1 ((srtS l).map encSs) true)) (Go.Sort.putRow encStr (Go.Sort.ahead w n) (ι i).block 0 ((srtS l).map toL).toArray) := by
    refine hs1.set hi rfl (fun k hk => putRowS_ne hk _ _) (by unfold Go.Sort.putRow Go.Sort.mapBlock; simp) rfl rfl rfl ?_ ?_
    · intro e he
      obtain ⟨x, _, rfl⟩ := List.mem_map.1 he
      exact ⟨rfl, fun y hy => by simp only [encSs, List.mem_singleton] at hy; subst hy; trivial⟩
    · refine ⟨g1, by rw [List.length_map, hll]; simpa using g2, _, fr, putRowS_one g3 _ _, fun k e hke j y hj => ?_, fun _ => ⟨g6, g7, by rw [Go.Sort.putCells, Array.size_mapIdx]; exact g8, g9⟩⟩
      rw [List.getElem?_map] at hke
      obtain ⟨x, hx, rfl⟩ := Option.map_eq_some_iff.1 hke
      cases j with
      | zero =>
        simp only [encSs, List.getElem?_cons_zero, Option.some.injEq] at hj
        subst hj
        refine ⟨.string x, ?_, rfl⟩
        have hk1 := getElem?_lt hx
        rw [g7, Nat.zero_add, Nat.mul_one, Nat.add_zero, Go.Sort.putCells, Array.getElem?_mapIdx]
        have hk2 : k < cur.size := by rw [g8, Nat.mul_one]; rw [hll] at hk1; have := g2; rw [List.length_map] at this; omega
        rw [Array.getElem?_eq_getElem hk2, Option.map_some, if_pos ⟨by omega, by simpa using hk1⟩, Nat.sub_zero]
        have : x = (srtS l)[k] := by rw [List.getElem?_eq_getElem hk1] at hx; exact (Option.some.inj hx).symm
        rw [this]
        simp [hk1]
        exact ofL_toL _
      | succ j => simp [encSs] at hj
  have hs3 := hs2.grown (w' := Go.Sort.grow (Go.Sort.putRow encStr (Go.Sort.ahead w n) (ι i).block 0 ((srtS l).map toL).toArray) os) ⟨rfl, rfl, rfl, by unfold Go.Sort.grow; simp, fun k hk _ => by unfold Go.Sort.grow; dsimp only; rw [Array.getElem?_append_left hk]⟩
  exact ⟨ι, _, .tup [], _, rfl, Agree.refl _ _, by simp, hs3, ⟨[], rfl, trivial⟩, (by intro x hx; cases hx), hk⟩
end Go.Proofs.YtlnfiflbpmicgaaGreatDoor
