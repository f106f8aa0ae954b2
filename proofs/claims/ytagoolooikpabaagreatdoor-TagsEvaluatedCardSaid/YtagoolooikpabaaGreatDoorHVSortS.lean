/- Several texts in one: slices, and what follows. No condition. -/
import Derived.Shelf.Sort.Plain
import Derived.Test.YtagoolooikpabaaGreatDoorHTypes
import Derived.Shelf.SlIter.Sorted
import Derived.Shelf.Slices.In.SortNone
set_option linter.all false
namespace Go.Proofs.YtagoolooikpabaaGreatDoor
open Go Go.RowKit Go.Shelf
set_option maxRecDepth 100000
set_option maxHeartbeats 1000000
variable {H : Hp} {K : AV → Hp → Prop}
def srsRen : Go.Shelf.Ren := { f := fun x => match x with | 125 => 165 | 128 => 215 | 129 => 216 | 190 => 107 | 258 => 164 | 302 => 206 | 303 => 207 | 304 => 208 | 305 => 209 | 306 => 210 | 307 => 211 | 308 => 212 | 309 => 213 | 310 => 214 | 329 => 257 | 330 => 258 | 333 => 256 | 334 => 259 | 335 => 260 | 336 => 261 | 344 => 286 | n => n, t := fun x => match x with | 0 => 0 | 3 => 3 | 4 => 4 | 5 => 5 | 9 => 9 | 31 => 29 | 46 => 236 | 51 => 147 | 53 => 291 | 131 => 185 | 182 => 283 | 183 => 284 | 218 => 328 | 222 => 332 | 228 => 354 | 229 => 355 | n => n, g := fun x => x }
theorem srsLay : Lays.n190 Tryz.prog srsRen := {
 mixed := by kernel_rfl
 f125 := by kernel_rfl
 f128 := by kernel_rfl
 f129 := by kernel_rfl
 f190 := by kernel_rfl
 f258 := by kernel_rfl
 f302 := by kernel_rfl
 f303 := by kernel_rfl
 f304 := by kernel_rfl
 f305 := by kernel_rfl
 f306 := by kernel_rfl
 f307 := by kernel_rfl
 f308 := by kernel_rfl
 f309 := by kernel_rfl
 f310 := by kernel_rfl
 f329 := by kernel_rfl
 f330 := by kernel_rfl
 f333 := by kernel_rfl
 f334 := by kernel_rfl
 f335 := by kernel_rfl
 f336 := by kernel_rfl
 f344 := by kernel_rfl
 t0 := by kernel_rfl
 a0 := fun w => by kernel_rfl
 z0 := fun w => by kernel_rfl
 v0 := fun w => by kernel_rfl
 t3 := by kernel_rfl
 a3 := fun w => by kernel_rfl
 z3 := fun w => by kernel_rfl
 v3 := fun w => by kernel_rfl
 t4 := by kernel_rfl
 a4 := fun w => by kernel_rfl
 z4 := fun w => by kernel_rfl
 v4 := fun w => by kernel_rfl
 t5 := by kernel_rfl
 a5 := fun w => by kernel_rfl
 z5 := fun w => by kernel_rfl
 v5 := fun w => by kernel_rfl
 t9 := by kernel_rfl
 a9 := fun w => by kernel_rfl
 z9 := fun w => by kernel_rfl
 v9 := fun w => by kernel_rfl
 t31 := by kernel_rfl
 a31 := fun w => by kernel_rfl
 z31 := fun w => by kernel_rfl
 v31 := fun w => by kernel_rfl
 t46 := by kernel_rfl
 a46 := fun w => by kernel_rfl
 z46 := fun w => by kernel_rfl
 v46 := fun w => by kernel_rfl
 t51 := by kernel_rfl
 a51 := fun w => by kernel_rfl
 z51 := fun w => by kernel_rfl
 v51 := fun w => by kernel_rfl
 t53 := by kernel_rfl
 a53 := fun w => by kernel_rfl
 z53 := fun w => by kernel_rfl
 v53 := fun w => by kernel_rfl
 t131 := by kernel_rfl
 a131 := fun w => by kernel_rfl
 z131 := fun w => by kernel_rfl
 v131 := fun w => by kernel_rfl
 t182 := by kernel_rfl
 a182 := fun w => by kernel_rfl
 z182 := fun w => by kernel_rfl
 v182 := fun w => by kernel_rfl
 t183 := by kernel_rfl
 a183 := fun w => by kernel_rfl
 z183 := fun w => by kernel_rfl
 v183 := fun w => by kernel_rfl
 t218 := by kernel_rfl
 a218 := fun w => by kernel_rfl
 z218 := fun w => by kernel_rfl
 v218 := fun w => by kernel_rfl
 t222 := by kernel_rfl
 a222 := fun w => by kernel_rfl
 z222 := fun w => by kernel_rfl
 v222 := fun w => by kernel_rfl
 t228 := by kernel_rfl
 a228 := fun w => by kernel_rfl
 z228 := fun w => by kernel_rfl
 v228 := fun w => by kernel_rfl
 t229 := by kernel_rfl
 a229 := fun w => by kernel_rfl
 z229 := fun w => by kernel_rfl
 v229 := fun w => by kernel_rfl }
theorem putRowS_one {w : World} {b : Nat} {cur : Array Value} {ty : TypeId} {fr : Nat × Nat} (h : w.heap[b]? = some (.cells cur ty fr)) (off : Nat) (d : Array (List UInt8)) : (Go.Sort.putRow encStr w b off d).heap[b]? = some (.cells (Go.Sort.putCells encStr off d cur) ty fr) := by
 unfold Go.Sort.putRow Go.Sort.mapBlock
 simp [Array.getElem?_modify, h, Go.Sort.onCells]
theorem putRowS_ne {w : World} {b k : Nat} (hk : k ≠ b) (off : Nat) (d : Array (List UInt8)) : (Go.Sort.putRow encStr w b off d).heap[k]? = w.heap[k]? := by
 unfold Go.Sort.putRow Go.Sort.mapBlock
 simp [Array.getElem?_modify, Ne.symm hk]
def toL (x : ByteArray) : List UInt8 := x.data.toList
def ofL (x : List UInt8) : ByteArray := ⟨x.toArray⟩
theorem ofL_toL (x : ByteArray) : ofL (toL x) = x := rfl
theorem toL_ofL (x : List UInt8) : toL (ofL x) = x := by simp [toL, ofL]
@[go_sem] def encSs (x : ByteArray) : List AC := [.str x]
def srtS (l : List ByteArray) : List ByteArray := ((l.map toL).mergeSort fun x y => decide (x ≤ y)).map ofL
theorem srtS_len (l : List ByteArray) : (srtS l).length = l.length := by unfold srtS; rw [List.length_map, List.length_mergeSort, List.length_map]
theorem srtS_toL (l : List ByteArray) : (srtS l).map toL = (l.map toL).mergeSort fun x y => decide (x ≤ y) := by
 unfold srtS
 rw [List.map_map]
 exact List.map_id'' (fun x => toL_ofL x) _
theorem sortS_a (l : List ByteArray) {i n : Nat} (hi : H[i]? = some (.row 9 1 (l.map encSs) true)) (hn : n = l.length) (h0 : l ≠ []) (hlen : l.length ≤ 1000000) (hk : K (.tup []) (H.set i (.row 9 1 ((srtS l).map encSs) true))) :
  ACalls Tryz.prog 107 [.c (.sl (some (i, 0)) n)] H K := by
 subst hn
 intro B w0 ι w vs hs hr ho
 have hl1 : 0 < l.length := List.length_pos_iff.2 h0
 obtain ⟨l0⟩ := vs
 match l0, hr with
 | [v], hr =>
 obtain ⟨ad, hv, hcap, had⟩ : AC.rel ι (.sl (some (i, 0)) l.length) v := hr.1
 obtain ⟨g1, g2, cur, fr, g3, g4, g5⟩ := hs.obj i _ hi
 obtain ⟨g6, g7, g8, g9⟩ := g5 rfl
 have hll := srtS_len l
 subst hv
 have hg := had (.inr rfl)
 subst hg
 have hHo : Go.Sort.Holds encStr w (ι i).block 0 (l.map toL).toArray := by
  intro j hj
  have hj' : j < l.length := by simpa using hj
  have es : encStr (toL l[j]) = .string l[j] := rfl
  obtain ⟨u, h1, h2⟩ := g4 j [.str l[j]] (by rw [List.getElem?_map, List.getElem?_eq_getElem hj']; rfl) 0 _ rfl
  have h3 : u = .string l[j] := h2
  subst h3
  rw [g7, Nat.mul_one, Nat.add_zero] at h1
  constructor
  ·show w.cell? ⟨(ι i).block, 0 + j, none⟩ = _
   unfold World.cell?
   dsimp only
   rw [g3]
   simpa [hj', es] using h1
  ·unfold World.frozen?
   dsimp only
   rw [g3, g6]
   simp
 have hmain := Any.slices_Sort_string srsLay (ι i).block 0 ((ι i).cap - 0) (l.map toL) w hHo (Array.getElem?_eq_some_iff.1 g3).1 (by rw [List.length_map]; omega)
 rw [← srtS_toL, List.length_map] at hmain
 have e1 : (ι i).at 0 0 = ⟨(ι i).block, 0, none⟩ := by simp [Loc.at, g7]
 rw [e1]
 refine Calls.mono hmain ?_
 rintro e w' ⟨rfl, n, os, rfl⟩
 have hs1 : Sim B w0 ι H (Go.Sort.ahead w n) := hs.heap rfl rfl rfl rfl
 have hs2 : Sim B w0 ι (H.set i (.row 9 1 ((srtS l).map encSs) true)) (Go.Sort.putRow encStr (Go.Sort.ahead w n) (ι i).block 0 ((srtS l).map toL).toArray) := by
  refine hs1.set hi rfl (fun k hk => putRowS_ne hk _ _) (by unfold Go.Sort.putRow Go.Sort.mapBlock; simp) rfl rfl rfl ?_ ?_
  ·intro e he
   obtain ⟨x, _, rfl⟩ := List.mem_map.1 he
   exact ⟨rfl, fun y hy => by simp only [encSs, List.mem_singleton] at hy; subst hy; trivial⟩
  ·refine ⟨g1, by rw [List.length_map, hll]; simpa using g2, _, fr, putRowS_one g3 _ _, fun k e hke j y hj => ?_, fun _ => ⟨g6, g7, by rw [Go.Sort.putCells, Array.size_mapIdx]; exact g8, g9⟩⟩
   rw [List.getElem?_map] at hke
   obtain ⟨x, hx, rfl⟩ := Option.map_eq_some_iff.1 hke
   cases j with
   | zero =>
    simp only [encSs, List.getElem?_cons_zero, Option.some.injEq] at hj
    subst hj
    refine ⟨.string x, ?_, rfl⟩
    have hk1 := getElem?_lt hx
    rw [g7, Nat.zero_add, Nat.mul_one, Nat.add_zero, Go.Sort.putCells, Array.getElem?_mapIdx]
    have hk2 : k < cur.size := by rw [g8, Nat.mul_one]; rw [hll] at hk1; have := g2; rw [List.length_map] at this; omega
    rw [Array.getElem?_eq_getElem hk2, Option.map_some, if_pos ⟨by omega, by simpa using hk1⟩, Nat.sub_zero]
    have : x = (srtS l)[k] := by rw [List.getElem?_eq_getElem hk1] at hx; exact (Option.some.inj hx).symm
    rw [this]
    simp [hk1]
    exact ofL_toL _
   | succ j => simp [encSs] at hj
 have hs3 := hs2.grown (w' := Go.Sort.grow (Go.Sort.putRow encStr (Go.Sort.ahead w n) (ι i).block 0 ((srtS l).map toL).toArray) os) ⟨rfl, rfl, rfl, by unfold Go.Sort.grow; simp, fun k hk _ => by unfold Go.Sort.grow; dsimp only; rw [Array.getElem?_append_left hk]⟩
 exact ⟨ι, _, .tup [], _, rfl, Agree.refl _ _, by simp, hs3, ⟨[], rfl, trivial⟩, (by intro x hx; cases hx), hk⟩
end Go.Proofs.YtagoolooikpabaaGreatDoor
namespace Go.Proofs.YtagoolooikpabaaGreatDoor
open Go Go.RowKit Go.Shelf
set_option maxRecDepth 100000
set_option maxHeartbeats 4000000
variable {H : Hp} {K : AV → Hp → Prop}
def rpO (j : Nat) : AObj := .row 159 5 [[.int .u32 0, .int .i32 0, .int .u32 0, .nili, .sl (some (j, 0)) 4]] true
theorem newRp_a (l : List ByteArray) (hl : l.length = 4) (hk : K (.c (.ptr (some (H.length + 1, 0, 0)))) (H ++ [.row 9 1 (l.map encSs) true, rpO H.length])) : ACalls Tryz.prog 39 [.c (.lst 1 (l.map encSs))] H K := by
 obtain ⟨a, b, c, d, rfl⟩ : ∃ a b c d, l = [a, b, c, d] := by
  match l, hl with
  | [a, b, c, d], _ => exact ⟨a, b, c, d, rfl⟩
 refine acalls Tryz.func39 rfl kRf gT (fun hH => ?_)
 refine gO ?_
 refine app_lst ?_
 refine gO ?_
 exact Ret.same sMp hk
theorem newRp_lit (l : List ByteArray) (hl : l.length = 4) {i ty n : Nat} {els : List (List AC)} {own : Bool} (hi : H[i]? = some (.row ty 1 els own)) (he : els = l.map encSs) (hn : n = 4) (hk : K (.c (.ptr (some (H.length + 1, 0, 0)))) (H.set i .dead ++ [.row 9 1 (l.map encSs) true, rpO H.length])) : ACalls Tryz.prog 39 [.c (.sl (some (i, 0)) n)] H K := by
 subst he hn
 refine ACalls.lit hi (by simp [pureL, encSs, AC.pure]) (args' := [.c (.lst 1 (l.map encSs))]) ?_ (newRp_a l hl ?_)
 ·have ht : (l.map encSs).take 4 = l.map encSs := List.take_of_length_le (by simp [hl])
  simp [AV.frz1, AC.frz, hl, ht]
 ·simpa using hk
theorem rowCellAt {B : Nat → Prop} {w0 w : World} {ι : En} (hs : Sim B w0 ι H w) {i ty sz : Nat} {e : List AC} (hi : H[i]? = some (.row ty sz [e] true)) {j : Nat} {x : AC} (hx : e[j]? = some x) : ∃ u, w.cell? ⟨(ι i).block, j, none⟩ = some u ∧ x.rel ι u := by
 have h := hs.obj i _ hi
 obtain ⟨u, h1, h2⟩ := row_cell h (k := 0) (j := j) rfl hx
 obtain ⟨_, _, cur, fr, _, _, g5⟩ := h
 obtain ⟨_, g7, _, _⟩ := g5 rfl
 have eat : (ι i).at 0 j = ⟨(ι i).block, j, none⟩ := by simp [Loc.at, g7]
 rw [eat] at h1
 exact ⟨u, h1, h2⟩
theorem replRp_a {i j : Nat} (l : List ByteArray) (hl : l.length = 4) (hz : ∀ x ∈ l, x.size = 1) (hi : H[i]? = some (rpO j)) (hj : H[j]? = some (.row 9 1 (l.map encSs) true)) (s : ByteArray) (hsz : s.size ≤ 1000000) (hk : ∀ t : ByteArray, t.size = s.size → K (.c (.str t)) (H.set i .dead)) :
  ACalls Tryz.prog 40 [.c (.ptr (some (i, 0, 0))), (.c (.str s))] H K := by
 intro B w0 ι w vs hs hr ho
 obtain ⟨vl⟩ := vs
 match vl, hr with
 | [v, u], hr =>
 have hv : v = ptrOf ι (i, 0, 0) := hr.1
 have hu : u = .string s := hr.2.1
 subst hv hu
 have hoi := hs.obj i _ hi
 obtain ⟨_, _, cur, fr, g3, _, g5⟩ := hoi
 obtain ⟨g6, g7, _, _⟩ := g5 rfl
 subst g6
 have e0 : ptrOf ι (i, 0, 0) = .pointer (some ⟨(ι i).block, 0, none⟩) := by unfold ptrOf; simp [Loc.at, g7]
 rw [e0]
 obtain ⟨u0, c0, r0⟩ := rowCellAt hs hi (j := 0) rfl
 obtain ⟨u1, c1, r1⟩ := rowCellAt hs hi (j := 1) rfl
 obtain ⟨u3, c3, r3⟩ := rowCellAt hs hi (j := 3) rfl
 obtain ⟨u4, c4, r4⟩ := rowCellAt hs hi (j := 4) rfl
 have r0 : u0 = .int .u32 0 := r0
 have r1 : u1 = .int .i32 0 := r1
 obtain ⟨a, r4, _, r5⟩ := r4
 have hoj := hs.obj j _ hj
 obtain ⟨_, k2, cur2, fr2, k3, k4, k5⟩ := hoj
 obtain ⟨_, k7, _, _⟩ := k5 rfl
 rw [List.length_map, hl] at k2
 have ha := r5 (.inr rfl)
 have ha : a = ⟨(ι j).block, 0, none⟩ := by rw [ha]; simp [Loc.at, k7]
 subst r0 r1 r4 ha
 have hne : (ι j).block ≠ (ι i).block := hs.sep j i _ _ (fun e => by subst e; rw [hi] at hj; cases hj) hj rfl hi rfl
 have hcell : ∀ k, k < 4 → w.cell? ⟨(ι j).block, k, none⟩ = some (.string (l.getD k ⟨#[]⟩)) := fun k hk => by
  have hkl : k < l.length := by omega
  obtain ⟨u, h1, h2⟩ := row_cell (hs.obj j _ hj) (k := k) (j := 0) (e := [.str (l[k]'hkl)]) (x := .str (l[k]'hkl)) (by simp [hkl, encSs]) rfl
  have h2 : u = .string (l[k]'hkl) := h2
  have eat : (ι j).at k 0 = ⟨(ι j).block, k, none⟩ := by
   have hsz : (ι j).sz = 1 := (hs.obj j _ hj).1
   simp [Loc.at, k7, hsz]
  rw [eat] at h1
  rw [h1, h2]
  simp [List.getD, hkl]
 have hfr : ∀ k, w.frozen? ⟨(ι i).block, k, none⟩ = false := fun k => by simp [World.frozen?, g3]
 refine Calls.mono (repRp (ι i).block (ι j).block _ (fun k => l.getD k ⟨#[]⟩) s w u3 (fun k hk => ?_) hsz c0 c1 c3 c4 hfr hne hcell) ?_
 ·have hkl : k < l.length := by omega
  have := hz l[k] (List.getElem_mem hkl)
  simpa [List.getD, hkl] using this
 ·rintro e w' ⟨⟨t, ht, rfl⟩, hg⟩
  have hd : Sim B w0 ι (H.set i .dead) w' := (hs.dead hi rfl).grownRow hg (by
   intro b hb
   injection hb with hb
   subst hb
   refine ⟨hs.base i _ hi rfl, hs.apart i _ hi rfl, fun q o hq hlv => ?_⟩
   by_cases e : q = i
   ·subst e
    rw [List.getElem?_set_self (getElem?_lt hi)] at hq
    injection hq with hq
    subst hq
    cases hlv
   ·rw [List.getElem?_set_ne (fun e' => e e'.symm)] at hq
    exact (hs.sep i q _ _ (fun e' => e e'.symm) hi rfl hq hlv).symm)
  exact ⟨ι, _, (.c (.str t)), _, rfl, Agree.refl _ _, by simp, hd, rfl, trivial, hk t ht⟩
end Go.Proofs.YtagoolooikpabaaGreatDoor
namespace Go.Proofs.YtagoolooikpabaaGreatDoor
open Go Go.RowKit Go.Shelf
set_option maxRecDepth 100000
set_option maxHeartbeats 1000000
def keysTRen : Go.Shelf.Ren := { f := fun x => match x with | 6 => 55 | 8 => 109 | 9 => 107 | 11 => 166 | 7 => 100 | 10 => 163 | n => n, t := fun x => match x with | 0 => 0 | 3 => 83 | 4 => 4 | 23 => 76 | 24 => 29 | 26 => 9 | 27 => 86 | 28 => 87 | 33 => 65 | n => n, g := fun x => x }
theorem sortedSLay : SlLaysZ.n6 Tryz.prog keysTRen := {
 mixed := by kernel_rfl
 f6 := ⟨(Tryz.f55).name, by kernel_rfl, by kernel_rfl⟩
 f8 := ⟨(Tryz.f109).name, by kernel_rfl, by kernel_rfl⟩
 f11 := ⟨(Tryz.f166).name, by kernel_rfl, by kernel_rfl⟩
 t0 := by kernel_rfl
 a0 := fun w => by kernel_rfl
 z0 := fun w => by kernel_rfl
 v0 := fun w => by kernel_rfl
 t24 := by kernel_rfl
 a24 := fun w => by kernel_rfl
 z24 := fun w => by kernel_rfl
 v24 := fun w => by kernel_rfl
 t26 := by kernel_rfl
 a26 := fun w => by kernel_rfl
 z26 := fun w => by kernel_rfl
 v26 := fun w => by kernel_rfl
 t28 := by kernel_rfl
 a28 := fun w => by kernel_rfl
 z28 := fun w => by kernel_rfl
 v28 := fun w => by kernel_rfl
 i26 := by kernel_rfl }
theorem keysTLay : SlLaysZ.n7 Tryz.prog keysTRen := {
 mixed := by kernel_rfl
 f7 := ⟨(Tryz.f100).name, by kernel_rfl, by kernel_rfl⟩
 f10 := ⟨(Tryz.f163).name, by kernel_rfl, by kernel_rfl⟩
 t0 := by kernel_rfl
 a0 := fun w => by kernel_rfl
 z0 := fun w => by kernel_rfl
 v0 := fun w => by kernel_rfl
 t4 := by kernel_rfl
 a4 := fun w => by kernel_rfl
 z4 := fun w => by kernel_rfl
 v4 := fun w => by kernel_rfl
 t23 := by kernel_rfl
 a23 := fun w => by kernel_rfl
 z23 := fun w => by kernel_rfl
 v23 := fun w => by kernel_rfl
 t26 := by kernel_rfl
 a26 := fun w => by kernel_rfl
 z26 := fun w => by kernel_rfl
 v26 := fun w => by kernel_rfl
 t27 := by kernel_rfl
 a27 := fun w => by kernel_rfl
 z27 := fun w => by kernel_rfl
 v27 := fun w => by kernel_rfl
 t28 := by kernel_rfl
 a28 := fun w => by kernel_rfl
 z28 := fun w => by kernel_rfl
 v28 := fun w => by kernel_rfl
 t33 := by kernel_rfl
 a33 := fun w => by kernel_rfl
 z33 := fun w => by kernel_rfl
 v33 := fun w => by kernel_rfl }
theorem sortsS_in (m : Nat) : AnyZ.SortsIn Tryz.prog keysTRen Fence.wide m :=
 ⟨fun blk off cap ss W hH hblk hsz => callsIn_wide.2 (Any.slices_Sort_string srsLay blk off cap ss W hH hblk hsz),
  fun p cap W => callsIn_wide.2 (Any.slices_Sort_string_none srsLay p cap W)⟩
end Go.Proofs.YtagoolooikpabaaGreatDoor
namespace Go.Proofs.YtagoolooikpabaaGreatDoor
open Go Go.RowKit Go.Shelf Go.Maps Go.WideElems
set_option maxRecDepth 100000
set_option maxHeartbeats 1000000
variable {H : Hp} {K : AV → Hp → Prop}
theorem insS_perm {T : Type} (x : Lit × DataW T) : ∀ l : List (Lit × DataW T), (DataW.insert x l).Perm (x :: l)
 | [] => List.Perm.refl _
 | y :: r => by
  unfold DataW.insert
  split
  ·exact List.Perm.refl _
  ·exact ((insS_perm x r).cons y).trans (List.Perm.swap x y r)
theorem insSAll_perm {T : Type} : ∀ l : List (Lit × DataW T), (l.foldr DataW.insert []).Perm l
 | [] => List.Perm.refl _
 | x :: r => (insS_perm x _).trans ((insSAll_perm r).cons x)
theorem relEs_keysS {ι : En} {α : Type} (f : α → ByteArray) (g : α → AV) : ∀ (l : List α) (ms : List MapEntry), relEs ι (l.map fun x => (AV.c (.str (f x)), g x)) ms → ms.map (·.key) = l.map fun x => Value.string (f x)
 | [], [], _ => rfl
 | [], m :: ms, h => h.elim
 | x :: l, [], h => h.elim
 | x :: l, m :: ms, h => by
  have h1 : m.key = .string (f x) := h.1.1
  simp only [List.map_cons, h1, relEs_keysS f g l ms h.2]
theorem nodupS_map {α β : Type} {f : α → β} (hf : ∀ x y, f x = f y → x = y) : ∀ {l : List α}, l.Nodup → (l.map f).Nodup
 | [], _ => List.nodup_nil
 | x :: l, h => by
  rw [List.nodup_cons] at h
  rw [List.map_cons, List.nodup_cons]
  refine ⟨fun hm => ?_, nodupS_map hf h.2⟩
  obtain ⟨y, hy, e⟩ := List.mem_map.1 hm
  exact h.1 (hf y x e ▸ hy)
def noRS : Value → Option (DataW Unit × List MemPlace) := fun _ => some (.nil, [])
theorem key_strS (a : ByteArray) (h : a.size ≤ 1000000) : keyOf Tryz.prog 9 (.string a) = some (.string (toL a)) := by
 have hu : (Tryz.prog).underlying 9 = some .string := by kernel_rfl
 unfold keyOf
 rw [hu]
 have h2 : a.size ≤ maxLen := by unfold maxLen; omega
 simp [mapKey, hu, h2, toL]
theorem keysS_own {B : Nat → Prop} {w0 w : World} {ι : En} (hs : Sim B w0 ι H w) {α : Type} (l : List α) (f : α → ByteArray) (g : α → AV) (bs : List Nat) (c i : Nat) (hi : H[i]? = some (.map bs (c + 1) (l.map fun x => (.c (.str (f x)), g x)))) (hb : bs.Nodup) (hc : ∀ b ∈ bs, b < c) (hk : (l.map f).Nodup) (hw : ∀ x ∈ l, (f x).size ≤ 1000000) (hl : l.length ≤ 1000000) :
  ∃ D : DataW Unit, w.ownsMap Tryz.prog 9 noRS (ι i).block l.length D ∧ (Go.strKeys D).Perm ((l.map f).map toL) ∧ Maps.size D = l.length := by
 obtain ⟨entries, clock, hcl, hbm, hbs, hsz, hrel⟩ := map_obj hs hi (Nat.succ_ne_zero _)
 have hcl : c = clock := by omega
 subst hcl
 have hkeys := relEs_keysS f g l _ hrel
 have hsz2 : entries.size = l.length := by rw [hsz, List.length_map]
 have hfn : (l.map fun x => Value.string (f x)).Nodup := by
  have := nodupS_map (f := Value.string) (fun x y h => by injection h) hk
  rw [List.map_map] at this
  exact this
 have hrd : ∀ m ∈ entries.toList, ∃ x ∈ l, rd Tryz.prog 9 noRS m = some (.string (toL (f x)), .nil) ∧ m.key = .string (f x) := by
  intro m hm
  have : m.key ∈ l.map fun x => Value.string (f x) := hkeys ▸ List.mem_map.2 ⟨m, hm, rfl⟩
  obtain ⟨x, hx, e⟩ := List.mem_map.1 this
  refine ⟨x, hx, ?_, e.symm⟩
  unfold rd
  rw [← e, key_strS _ (hw x hx)]
  rfl
 refine ⟨.map ((entries.toList.map (rg Tryz.prog 9 noRS)).foldr DataW.insert []), ⟨entries, c, hbm, ⟨?_, ⟨fun x hx => ?_, ?_, ?_⟩, fun m hm => ?_⟩, by omega, rfl⟩, ?_, ?_⟩
 ·rw [hsz2]; unfold maxLen; omega
 ·exact hc _ (hbs ▸ List.mem_map.2 ⟨x, hx, rfl⟩)
 ·rw [hbs]; exact hb
 ·rw [hkeys]; exact hfn
 ·obtain ⟨x, _, h, _⟩ := hrd m hm
  exact ⟨_, h⟩
 ·have e1 : (entries.toList.map (rg Tryz.prog 9 noRS)).map (fun p => Go.strOf p.1) = (l.map f).map toL := by
   have e2 : (entries.toList.map (·.key)).map (fun v => match v with | .string a => toL a | _ => []) = (l.map f).map toL := by
    rw [hkeys, List.map_map, List.map_map]; rfl
   rw [← e2, List.map_map, List.map_map]
   refine List.map_congr_left fun m hm => ?_
   obtain ⟨x, _, h, h2⟩ := hrd m hm
   simp only [Function.comp, rg, h, h2, Option.getD_some, Go.strOf]
  have h2 := (insSAll_perm (entries.toList.map (rg Tryz.prog 9 noRS))).map (fun p => Go.strOf p.1)
  rw [e1] at h2
  exact h2
 ·have h2 := (insSAll_perm (entries.toList.map (rg Tryz.prog 9 noRS))).length_eq
  rw [List.length_map] at h2
  show List.length _ = _
  rw [h2, ← hsz2]
  simp
theorem newRowS_a {w w' : World} {B : Nat → Prop} {w0 : World} {ι : En} {v : Value} {ks : List ByteArray} (hs : Sim B w0 ι H w) (hrow : w'.ownsRow w.heap.size 9 1 v ks.length ((ks.map toL).map encStr)) (hb : Below w.heap.size w w') (hn : ks = [] → v = .slice none 0 0) :
  ∃ ι', Agree H.length ι ι' ∧ Sim B w0 ι' (H ++ [grO 9 1 (ks.map encSs)]) w' ∧ (AV.c (grV H.length ks)).rel ι' v := by
 have hs1 : Sim B w0 ι H w' := hs.grown ⟨hb.os, hb.tape, hb.output, hb.size, fun k hk _ => hb.block k hk⟩
 cases ks with
 | nil =>
  rw [hn rfl]
  refine ⟨upd ι H.length ⟨w.heap.size, 0, 0, 0⟩, upd_agree _ _ _, ?_, ⟨rfl, rfl⟩⟩
  refine hs1.add .dead ⟨w.heap.size, 0, 0, 0⟩ (fun hk => Nat.lt_irrefl _ (hs.big _ hk)) (fun h => by cases h) (fun q o hq hl => ?_) trivial trivial
  have := AObj.holds_lt hl (hs.obj q o hq)
  dsimp only
  omega
 | cons x xs =>
  rcases hrow.2 with ⟨rfl, hz⟩ | ⟨gb, cap, cur, rfl, hbase, hgb, r1, r2, r3, r4⟩
  ·simp at hz
  ·refine ⟨upd ι H.length ⟨gb, 0, 1, cap⟩, upd_agree _ _ _, ?_, ?_⟩
   ·refine hs1.add (.row 9 1 ((x :: xs).map encSs) true) ⟨gb, 0, 1, cap⟩ (fun hk => by have := hs.big gb hk; omega) (fun _ p => hs.fz_new hbase p) (fun q o hq hl => ?_) ?_ ?_
    ·have := AObj.holds_lt hl (hs.obj q o hq)
     dsimp only
     omega
    ·intro e he
     obtain ⟨y, _, rfl⟩ := List.mem_map.1 he
     exact ⟨rfl, fun z hz => by simp only [encSs, List.mem_singleton] at hz; subst hz; trivial⟩
    ·refine ⟨rfl, by rw [List.length_map]; exact r1, cur, (0, 0), hgb, fun k e hke j y hj => ?_, fun _ => ⟨rfl, rfl, r3, r2⟩⟩
     rw [List.getElem?_map] at hke
     obtain ⟨z, hz, rfl⟩ := Option.map_eq_some_iff.1 hke
     cases j with
     | zero =>
      simp only [encSs, List.getElem?_cons_zero, Option.some.injEq] at hj
      subst hj
      refine ⟨.string z, ?_, rfl⟩
      have hk := getElem?_lt hz
      have h5 := congrArg (fun l => l[k]?) r4
      simp only [List.getElem?_map, hz, Option.map_some, Nat.mul_one, encStr, toL] at h5
      rw [List.getElem?_take, if_pos hk] at h5
      simpa using h5
     | succ j => simp [encSs] at hj
   ·refine ⟨⟨gb, 0, none⟩, ?_, ?_, ?_⟩
    ·simp [upd]
    ·simpa [upd] using r1
    ·intro _; simp [upd, Loc.at]
theorem keyzT_a {α : Type} (l : List α) (f : α → ByteArray) (g : α → AV) (bs : List Nat) (c i j t : Nat) (hi : H[i]? = some (.map bs (c + 1) (l.map fun x => (.c (.str (f x)), g x)))) (hj : H[j]? = some (.row t 1 [[.map (some i)]] true)) (hb : bs.Nodup) (hc : ∀ b ∈ bs, b < c) (hkn : (l.map f).Nodup) (hw : ∀ x ∈ l, (f x).size ≤ 1000000) (hl : l.length ≤ 1000000)
  (h : K (.c (grV H.length (srtS (l.map f)))) (H ++ [grO 9 1 ((srtS (l.map f)).map encSs)])) :
  ACalls Tryz.prog 55 [.c (.fn 163 [] [(j, 0, 0)])] H K := by
 intro B w0 ι w vs hs hr ho
 obtain ⟨l0⟩ := vs
 match l0, hr with
 | [v], hr =>
 have hv : v = .func (.func 163) #[] #[ptrOf ι (j, 0, 0)] := hr.1
 subst hv
 obtain ⟨D, hown, hperm, hsize⟩ := keysS_own hs l f g bs c i hi hb hc hkn hw hl
 obtain ⟨u, hu, hur⟩ := row_cell (hs.obj j _ hj) (k := 0) (j := 0) rfl rfl
 have hur : u = .map (some (ι i).block) := hur
 subst hur
 obtain ⟨g1, g2, cur, fr, g3, g4, g5⟩ := hs.obj j _ hj
 obtain ⟨g6, g7, g8, g9⟩ := g5 rfl
 have eat : (ι j).at 0 0 = ⟨(ι j).block, 0, none⟩ := by simp [Loc.at, g7]
 have e0 : ptrOf ι (j, 0, 0) = .pointer (some ⟨(ι j).block, 0, none⟩) := by unfold ptrOf; rw [eat]
 rw [eat] at hu
 rw [e0]
 have hseq : SeqGives Fence.wide 2 Tryz.prog 163 #[.pointer (some ⟨(ι j).block, 0, none⟩)] encStr (fun ss => ss.Perm (Go.strKeys D)) (Maps.size D) w :=
  AnyZ.keys_gives (ρ := keysTRen) { keysTLay with } Fence.wide _ trivial rfl oMg (ι j).block (ι i).block l.length D w (Array.getElem?_eq_some_iff.1 g3).1 hu hown
 have cS := AnyZ.sorted_in sortedSLay Fence.wide 5 trivial trivial trivial trivial rfl oMg (sortsS_in _) (enters_of Tryz.func107 kRf rfl) 163 #[.pointer (some ⟨(ι j).block, 0, none⟩)] trivial (enters_of Tryz.func163 kRf rfl) _ (Maps.size D) (by rw [hsize]; unfold maxLen; omega) (by rw [hsize]; omega) w hseq
 refine Calls.mono ((callsIn_wide (n := 5)).1 cS) ?_
 rintro e w' ⟨v, ss, rfl, hp, hrow, hnil, hbel⟩
 have hsrt : ss.mergeSort (fun x y => decide (x ≤ y)) = (srtS (l.map f)).map toL := by rw [srtS_toL]; exact mergeSort_of_perm (hp.trans hperm)
 rw [hsrt] at hrow
 have hlen : ss.length = (srtS (l.map f)).length := by rw [← List.length_map toL, ← hsrt, List.length_mergeSort]
 rw [hlen] at hrow
 obtain ⟨ι', hA, hs', hrel⟩ := newRowS_a hs hrow hbel (fun h => hnil.2 (List.eq_nil_of_length_eq_zero (by rw [hlen, h]; rfl)))
 exact ⟨ι', _, _, _, rfl, hA, by simp, hs', hrel, grV_ok sMp _, h⟩
end Go.Proofs.YtagoolooikpabaaGreatDoor
