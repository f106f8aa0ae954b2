/- slices.SortFunc of rows whose elements have several cells: from what the kit's contract says of the world to the heap's words. No condition. -/
import Derived.Shelf.SlSortCmp.WholeK
import Derived.Test.YtebhpfhichdgaaaGreatDoorHVGA
namespace Go.Proofs.YtebhpfhichdgaaaGreatDoor
open Go Go.RowKit Go.Shelf
set_option maxRecDepth 100000
set_option linter.all false
set_option maxHeartbeats 1000000
variable {H : Hp} {K : AV → Hp → Prop}
def acV : AC → Value
  | .int k n => .int k n
  | .bool b => .bool b
  | .str s => .string s
  | _ => .nilFunc
def acFlat : AC → Bool
  | .int _ _ => true
  | .bool _ => true
  | .str _ => true
  | _ => false
theorem acV_rel {x : AC} {ι : En} {u : Value} (h : acFlat x = true) : x.rel ι u ↔ u = acV x := by
  cases x <;> first | exact Iff.rfl | simp [acFlat] at h
theorem acV_one {x : AC} (h : acFlat x = true) : (acV x).oneCell' = true := by
  cases x <;> first | rfl | simp [acFlat] at h
theorem acV_ok {x : AC} (h : acFlat x = true) (n : Nat) : x.ok n := by
  cases x <;> first | trivial | simp [acFlat] at h
def encV {E : Type} (enc : E → List AC) (x : E) : List Value := (enc x).map acV
theorem putRowG_one {α : Type} [Inhabited α] (en : α → Value) {w : World} {b : Nat} {cur : Array Value} {ty : TypeId} {fr : Nat × Nat} (h : w.heap[b]? = some (.cells cur ty fr)) (off : Nat) (d : Array α) : (Go.Sort.putRow en w b off d).heap[b]? = some (.cells (Go.Sort.putCells en off d cur) ty fr) := by
  unfold Go.Sort.putRow Go.Sort.mapBlock
  simp [Array.getElem?_modify, h, Go.Sort.onCells]
theorem putRowG_ne {α : Type} [Inhabited α] (en : α → Value) {w : World} {b k : Nat} (hk : k ≠ b) (off : Nat) (d : Array α) : (Go.Sort.putRow en w b off d).heap[k]? = w.heap[k]? := by
  unfold Go.Sort.putRow Go.Sort.mapBlock
  simp [Array.getElem?_modify, Ne.symm hk]
theorem flat_at {E : Type} [Inhabited E] {enc : E → List AC} {k : Nat} (hlen : ∀ x, (enc x).length = k) (d : Array E) {q j : Nat} (hq : q < d.size) (hj : j < k) : (Go.Sort.flatK (encV enc) k d)[q * k + j]! = acV ((enc d[q])[j]'(by rw [hlen]; exact hj)) := by
  have hb : q * k + j < d.size * k := by
    have := Nat.mul_le_mul_right k (show q + 1 ≤ d.size from hq)
    rw [Nat.add_mul, Nat.one_mul] at this
    omega
  have e1 : (q * k + j) / k = q := (Go.Sort.blk_iff k q _ (by omega)).1 ⟨by omega, by omega⟩
  have e2 : (q * k + j) % k = j := by rw [Nat.mod_eq_sub_div_mul, e1]; omega
  rw [Go.Sort.get_flatK _ _ _ _ hb, e1, e2, getElem!_pos d q hq]
  unfold encV
  rw [getElem!_pos _ j (by rw [List.length_map, hlen]; exact hj), List.getElem_map]
theorem ACalls.sortK {E : Type} [Inhabited E] {P : Program} {k : Nat} {enc : E → List AC} (hE : ∀ x, (enc x).length = k ∧ (enc x).all acFlat = true) (hk0 : 0 < k) {f g : FuncId} {ty i n : Nat} (l : List E) (hi : H[i]? = some (.row ty k (l.map enc) true)) (hn : n = l.length) (h0 : l ≠ []) (R : List E → Prop)
    (hm : ∀ (blk cap : Nat) (w : World), Go.Sort.HoldsK (encV enc) k w blk 0 l.toArray → blk < w.heap.size → Calls P f #[.slice (some ⟨blk, 0, none⟩) l.toArray.size cap, .func (.func g) #[] #[]] w fun e w' => e = .returned (.tuple #[]) ∧ ∃ (d' : Array E) (m : Nat) (os : Array Obj), d'.size = l.length ∧ R d'.toList ∧ w' = sortWorldK (encV enc) k w blk 0 m d' os)
    (hk : ∀ l' : List E, R l' → K (.tup []) (H.set i (.row ty k (l'.map enc) true))) : ACalls P f [.c (.sl (some (i, 0)) n), .c (.fn g [] [])] H K := by
  subst hn
  intro B w0 ι w vs hs hr ho
  have hl1 : 0 < l.length := List.length_pos_iff.2 h0
  have hlen : ∀ x, (enc x).length = k := fun x => (hE x).1
  have hflat : ∀ (x : E) (y : AC), y ∈ enc x → acFlat y = true := fun x y hy => List.all_eq_true.1 (hE x).2 y hy
  obtain ⟨l0⟩ := vs
  match l0, hr with
  | [v, fv], hr =>
  obtain ⟨ad, hv, hcap, had⟩ : AC.rel ι (.sl (some (i, 0)) l.length) v := hr.1
  have hfv : fv = .func (.func g) #[] #[] := hr.2.1
  obtain ⟨g1, g2, cur, fr, g3, g4, g5⟩ := hs.obj i _ hi
  obtain ⟨g6, g7, g8, g9⟩ := g5 rfl
  subst hv
  subst hfv
  have hg := had (.inr rfl)
  subst hg
  have hHo : Go.Sort.HoldsK (encV enc) k w (ι i).block 0 l.toArray := by
    intro t ht
    rw [Go.Sort.size_flatK] at ht
    have ht' : t < l.length * k := by simpa using ht
    have hq : t / k < l.length := (Nat.div_lt_iff_lt_mul hk0).2 ht'
    have hj : t % k < k := Nat.mod_lt _ hk0
    have hdm : t / k * k + t % k = t := Nat.div_add_mod' t k
    have hj2 : t % k < (enc l[t / k]).length := by rw [hlen]; exact hj
    obtain ⟨u, h1, h2⟩ := g4 (t / k) (enc l[t / k]) (by rw [List.getElem?_map, List.getElem?_eq_getElem hq]; rfl) (t % k) _ (List.getElem?_eq_getElem hj2)
    have h3 := (acV_rel (hflat _ _ (List.getElem_mem hj2))).1 h2
    subst h3
    have hf := flat_at hlen l.toArray (q := t / k) (j := t % k) (by simpa using hq) hj
    rw [hdm] at hf
    rw [g7, hdm, Nat.zero_add] at h1
    constructor
    · show w.cell? ⟨(ι i).block, 0 + t, none⟩ = _
      unfold World.cell?
      dsimp only
      rw [g3, hf]
      simpa using h1
    · unfold World.frozen?
      dsimp only
      rw [g3, g6]
      simp
  have hmain := hm (ι i).block ((ι i).cap - 0) w hHo (Array.getElem?_eq_some_iff.1 g3).1
  have e1 : (ι i).at 0 0 = ⟨(ι i).block, 0, none⟩ := by simp [Loc.at, g7]
  have e2 : l.toArray.size = l.length := by simp
  rw [e2] at hmain
  rw [e1]
  refine Calls.mono hmain ?_
  rintro e w' ⟨rfl, d', m, os, hsz, hR, rfl⟩
  have hs1 : Sim B w0 ι H (Go.Sort.ahead w m) := hs.heap rfl rfl rfl rfl
  have hs2 : Sim B w0 ι (H.set i (.row ty k (d'.toList.map enc) true)) (Go.Sort.putRowK (encV enc) k (Go.Sort.ahead w m) (ι i).block 0 d') := by
    refine hs1.set hi rfl (fun q hq => putRowG_ne id hq _ _) (by unfold Go.Sort.putRowK Go.Sort.putRow Go.Sort.mapBlock; simp) rfl rfl rfl ?_ ?_
    · intro e he
      obtain ⟨x, _, rfl⟩ := List.mem_map.1 he
      exact ⟨hlen x, fun y hy => acV_ok (hflat x y hy) _⟩
    · refine ⟨g1, by rw [List.length_map, Array.length_toList, hsz]; simpa using g2, _, fr, putRowG_one id g3 _ _, fun q e hqe j y hj => ?_, fun _ => ⟨g6, g7, by rw [Go.Sort.putCells, Array.size_mapIdx]; exact g8, g9⟩⟩
      rw [List.getElem?_map] at hqe
      obtain ⟨x, hx, rfl⟩ := Option.map_eq_some_iff.1 hqe
      have hjl := getElem?_lt hj
      have hjk : j < k := by rw [hlen] at hjl; exact hjl
      have hql : q < d'.size := by simpa using getElem?_lt hx
      obtain rfl : x = d'[q] := by rw [Array.getElem?_toList, Array.getElem?_eq_getElem hql] at hx; exact (Option.some.inj hx).symm
      have hye : y = (enc d'[q])[j] := by rw [List.getElem?_eq_getElem hjl] at hj; exact (Option.some.inj hj).symm
      refine ⟨acV y, ?_, (acV_rel (hflat _ y (List.mem_of_getElem? hj))).2 rfl⟩
      have hb : q * k + j < d'.size * k := by
        have := Nat.mul_le_mul_right k (show q + 1 ≤ d'.size from hql)
        rw [Nat.add_mul, Nat.one_mul] at this
        omega
      have hb2 : q * k + j < cur.size := by
        rw [g8]
        have h3 : d'.size ≤ (ι i).cap := by rw [hsz]; simpa using g2
        have := Nat.mul_le_mul_right k h3
        omega
      rw [g7, Nat.zero_add, Go.Sort.putCells, Array.getElem?_mapIdx, Array.getElem?_eq_getElem hb2, Option.map_some, if_pos ⟨by omega, by rw [Go.Sort.size_flatK]; omega⟩, Nat.sub_zero]
      have hf := flat_at hlen d' hql hjk
      show some ((Go.Sort.flatK (encV enc) k d')[q * k + j]!) = _
      rw [hf, hye]
  have hs3 := hs2.grown (w' := sortWorldK (encV enc) k w (ι i).block 0 m d' os) ⟨rfl, rfl, rfl, by unfold sortWorldK Go.Sort.grow; simp, fun q hq _ => by unfold sortWorldK Go.Sort.grow; dsimp only; rw [Array.getElem?_append_left hq]⟩
  exact ⟨ι, _, .tup [], _, rfl, Agree.refl _ _, by simp, hs3, ⟨[], rfl, trivial⟩, (by intro x hx; cases hx), hk _ hR⟩
theorem sortP_a {E : Type} {P : Program} {ρ : Go.Shelf.Ren} (L : SlLaysF0.n6 P ρ) {k : Nat} (aE : ∀ w, (isAgg (ρ.t 24)).run P w = .ok true w) (zE : ∀ w, (Go.sizeOf (ρ.t 24)).run P w = .ok k w) {enc : E → List AC} (hE : ∀ x, (enc x).length = k ∧ (enc x).all acFlat = true) (hk0 : 0 < k)
    (Pr : E → Prop) (cf : E → E → Int) (hO : Go.Sort.SWO (ltOf fun x y : {x // Pr x} => cf x.1 y.1)) {g : FuncId} (eg : ∀ args w, (callFunc g args).run P w = .ok (.enter g args) w)
    (hc : ∀ (x y : E) (W : World), Pr x → Pr y → Calls P g #[.agg (encV enc x).toArray, .agg (encV enc y).toArray] W fun e w' => e = .returned (.int .i64 (cf x y)) ∧ ∃ q os', w' = Go.Sort.grow (W.drewN q) os')
    {ty i n : Nat} (l : List E) (hi : H[i]? = some (.row ty k (l.map enc) true)) (hn : n = l.length) (h0 : l ≠ []) (hP : ∀ x ∈ l, Pr x) (hlen : l.length ≤ 1000000)
    (hk : ∀ l' : List E, l'.Perm l → l'.Pairwise (fun x y => ¬ cf y x < 0) → K (.tup []) (H.set i (.row ty k (l'.map enc) true))) : ACalls P (ρ.f 6) [.c (.sl (some (i, 0)) n), .c (.fn g [] [])] H K := by
  have hx0 : Pr (l.head h0) := hP _ (List.head_mem h0)
  haveI : Inhabited {x // Pr x} := ⟨⟨l.head h0, hx0⟩⟩
  obtain ⟨l2, hl2⟩ : ∃ l2 : List {x // Pr x}, l2.map Subtype.val = l := ⟨l.attachWith Pr hP, List.attachWith_map_subtype_val _⟩
  have hll : l2.length = l.length := by rw [← hl2, List.length_map]
  have hi2 : H[i]? = some (.row ty k (l2.map fun x => enc x.1) true) := by rw [hi, ← hl2, List.map_map]; rfl
  refine ACalls.sortK (enc := fun x : {x // Pr x} => enc x.1) (fun x => hE x.1) hk0 l2 hi2 (hn.trans hll.symm) (fun h => h0 (by rw [← hl2, h]; rfl)) (fun l' => (l'.map Subtype.val).Perm l ∧ (l'.map Subtype.val).Pairwise (fun x y => ¬ cf y x < 0)) ?_ ?_
  · intro blk cap w hH hb
    refine Calls.mono (AnyQ.slices_SortFunc L k aE zE (encV fun x : {x // Pr x} => enc x.1) (fun x => by unfold encV; rw [List.length_map, (hE x.1).1]) (fun x v hv => by unfold encV at hv; obtain ⟨y, hy, rfl⟩ := List.mem_map.1 hv; exact acV_one (List.all_eq_true.1 (hE x.1).2 y hy)) (fun x y => cf x.1 y.1) hO g #[] blk 0 cap l2.toArray w eg (fun m os dk _ x y => hc x.1 y.1 _ x.2 y.2) hH hb (by simp; omega)) ?_
    rintro e w' ⟨rfl, d', m, os, hp, hso, rfl⟩
    obtain ⟨p1, p2, p3⟩ := hp
    have hsz : d'.size = l2.length := by simpa using p1
    have e1 : d'.extract 0 l2.toArray.size = d' := by rw [← p1]; exact Array.extract_size
    rw [e1, Array.extract_size] at p3
    refine ⟨rfl, d', m, os, hsz, ⟨?_, ?_⟩, rfl⟩
    · have := p3.map Subtype.val
      rwa [List.toList_toArray, hl2] at this
    · rw [List.pairwise_map, List.pairwise_iff_getElem]
      intro a b ha hb2 hab
      have ha' : a < d'.size := by simpa using ha
      have hb' : b < d'.size := by simpa using hb2
      have := hso a b (Nat.zero_le _) hab (by rw [← p1]; exact hb')
      rw [getElem!_pos d' a ha', getElem!_pos d' b hb'] at this
      unfold ltOf at this
      simpa using this
  · rintro l' ⟨h1, h2⟩
    have := hk _ h1 h2
    rwa [List.map_map] at this
end Go.Proofs.YtebhpfhichdgaaaGreatDoor
