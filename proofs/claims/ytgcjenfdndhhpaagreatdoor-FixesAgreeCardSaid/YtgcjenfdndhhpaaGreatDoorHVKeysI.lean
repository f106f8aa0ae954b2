/- slices.Sorted of a map's integer keys, in the heap's words. No condition. -/
import Derived.Test.YtgcjenfdndhhpaaGreatDoorHVKeysL
import Derived.Test.YtgcjenfdndhhpaaGreatDoorHVSortI
namespace Go.Proofs.YtgcjenfdndhhpaaGreatDoor
open Go Go.RowKit Go.Shelf Go.Maps Go.WideElems
set_option maxRecDepth 100000
set_option linter.all false
set_option maxHeartbeats 1000000
variable {H : Hp} {K : AV → Hp → Prop}
theorem ins_perm {T : Type} (x : Lit × DataW T) : ∀ l : List (Lit × DataW T), (DataW.insert x l).Perm (x :: l)
  | [] => List.Perm.refl _
  | y :: r => by
    unfold DataW.insert
    split
    · exact List.Perm.refl _
    · exact ((ins_perm x r).cons y).trans (List.Perm.swap x y r)
theorem insAll_perm {T : Type} : ∀ l : List (Lit × DataW T), (l.foldr DataW.insert []).Perm l
  | [] => List.Perm.refl _
  | x :: r => (ins_perm x _).trans ((insAll_perm r).cons x)
theorem relEs_keys {ι : En} {α : Type} (f : α → Int) (g : α → AV) : ∀ (l : List α) (ms : List MapEntry), relEs ι (l.map fun x => (AV.c (.int .i64 (f x)), g x)) ms → ms.map (·.key) = l.map fun x => Value.int .i64 (f x)
  | [], [], _ => rfl
  | [], m :: ms, h => h.elim
  | x :: l, [], h => h.elim
  | x :: l, m :: ms, h => by
    have h1 : m.key = .int .i64 (f x) := h.1.1
    simp only [List.map_cons, h1, relEs_keys f g l ms h.2]
theorem nodup_map {α β : Type} {f : α → β} (hf : ∀ x y, f x = f y → x = y) : ∀ {l : List α}, l.Nodup → (l.map f).Nodup
  | [], _ => List.nodup_nil
  | x :: l, h => by
    rw [List.nodup_cons] at h
    rw [List.map_cons, List.nodup_cons]
    refine ⟨fun hm => ?_, nodup_map hf h.2⟩
    obtain ⟨y, hy, e⟩ := List.mem_map.1 hm
    exact h.1 (hf y x e ▸ hy)
def noR : Value → Option (DataW Unit × List MemPlace) := fun _ => some (.nil, [])
theorem key_i64 (a : Int) (h1 : -9223372036854775808 ≤ a) (h2 : a ≤ 9223372036854775807) : keyOf Tryz.prog (keysSRen.t 26) (.int .i64 a) = some (.int .i64 a) := by
  unfold keyOf
  rw [sortedLay.t26]
  have hw : (Lit.int .i64 a).wf = true := by
    have e1 : IntKind.i64.min = -9223372036854775808 := by rfl
    have e2 : IntKind.i64.max = 9223372036854775807 := by rfl
    simp [Lit.wf, e1, e2]; omega
  simp [mapKey, sortedLay.t26, hw]
theorem keys_own {B : Nat → Prop} {w0 w : World} {ι : En} (hs : Sim B w0 ι H w) {α : Type} (l : List α) (f : α → Int) (g : α → AV) (bs : List Nat) (c i : Nat) (hi : H[i]? = some (.map bs (c + 1) (l.map fun x => (.c (.int .i64 (f x)), g x)))) (hb : bs.Nodup) (hc : ∀ b ∈ bs, b < c) (hk : (l.map f).Nodup) (hw : ∀ x ∈ l, -9223372036854775808 ≤ f x ∧ f x ≤ 9223372036854775807) (hl : l.length ≤ 1000000) :
    ∃ D : DataW Unit, w.ownsMap Tryz.prog (keysSRen.t 26) noR (ι i).block l.length D ∧ (intKeys D).Perm (l.map f) ∧ Maps.size D = l.length := by
  obtain ⟨entries, clock, hcl, hbm, hbs, hsz, hrel⟩ := map_obj hs hi (Nat.succ_ne_zero _)
  have hcl : c = clock := by omega
  subst hcl
  have hkeys := relEs_keys f g l _ hrel
  have hsz2 : entries.size = l.length := by rw [hsz, List.length_map]
  have hfn : (l.map fun x => Value.int .i64 (f x)).Nodup := by
    have := nodup_map (f := Value.int .i64) (fun x y h => by injection h) hk
    rw [List.map_map] at this
    exact this
  have hrd : ∀ m ∈ entries.toList, ∃ x ∈ l, rd Tryz.prog (keysSRen.t 26) noR m = some (.int .i64 (f x), .nil) ∧ m.key = .int .i64 (f x) := by
    intro m hm
    have : m.key ∈ l.map fun x => Value.int .i64 (f x) := hkeys ▸ List.mem_map.2 ⟨m, hm, rfl⟩
    obtain ⟨x, hx, e⟩ := List.mem_map.1 this
    refine ⟨x, hx, ?_, e.symm⟩
    unfold rd
    rw [← e, key_i64 _ (hw x hx).1 (hw x hx).2]
    rfl
  refine ⟨.map ((entries.toList.map (rg Tryz.prog (keysSRen.t 26) noR)).foldr DataW.insert []), ⟨entries, c, hbm, ⟨?_, ⟨fun x hx => ?_, ?_, ?_⟩, fun m hm => ?_⟩, by omega, rfl⟩, ?_, ?_⟩
  · rw [hsz2]; unfold maxLen; omega
  · exact hc _ (hbs ▸ List.mem_map.2 ⟨x, hx, rfl⟩)
  · rw [hbs]; exact hb
  · rw [hkeys]; exact hfn
  · obtain ⟨x, _, h, _⟩ := hrd m hm
    exact ⟨_, h⟩
  · have e1 : (entries.toList.map (rg Tryz.prog (keysSRen.t 26) noR)).map (fun p => Go.intOf p.1) = l.map f := by
      have e2 : (entries.toList.map (·.key)).map (fun v => match v with | .int _ a => a | _ => 0) = l.map f := by
        rw [hkeys, List.map_map]; rfl
      rw [← e2, List.map_map, List.map_map]
      refine List.map_congr_left fun m hm => ?_
      obtain ⟨x, _, h, h2⟩ := hrd m hm
      simp only [Function.comp, rg, h, h2, Option.getD_some, Go.intOf]
    have h2 := (insAll_perm (entries.toList.map (rg Tryz.prog (keysSRen.t 26) noR))).map (fun p => Go.intOf p.1)
    rw [e1] at h2
    exact h2
  · have h2 := (insAll_perm (entries.toList.map (rg Tryz.prog (keysSRen.t 26) noR))).length_eq
    rw [List.length_map] at h2
    show List.length _ = _
    rw [h2, ← hsz2]
    simp
/-- what slices.Sorted hands back, in the heap's words -/
theorem newRow_a {w w' : World} {B : Nat → Prop} {w0 : World} {ι : En} {v : Value} {ks : List Int} (hs : Sim B w0 ι H w) (hrow : w'.ownsRow w.heap.size 3 1 v ks.length (ks.map encZ)) (hb : Below w.heap.size w w') (hn : ks = [] → v = .slice none 0 0) :
    ∃ ι', Agree H.length ι ι' ∧ Sim B w0 ι' (H ++ [grO 3 1 (ks.map encI)]) w' ∧ (AV.c (grV H.length ks)).rel ι' v := by
  have hs1 : Sim B w0 ι H w' := hs.grown ⟨hb.os, hb.tape, hb.output, hb.size, fun k hk _ => hb.block k hk⟩
  cases ks with
  | nil =>
    rw [hn rfl]
    refine ⟨upd ι H.length ⟨w.heap.size, 0, 0, 0⟩, upd_agree _ _ _, ?_, ⟨rfl, rfl⟩⟩
    refine hs1.add .dead ⟨w.heap.size, 0, 0, 0⟩ (fun hk => Nat.lt_irrefl _ (hs.big _ hk)) (fun h => by cases h) (fun q o hq hl => ?_) trivial trivial
    have := AObj.holds_lt hl (hs.obj q o hq)
    dsimp only
    omega
  | cons x xs =>
    rcases hrow.2 with ⟨rfl, hz⟩ | ⟨gb, cap, cur, rfl, hbase, hgb, r1, r2, r3, r4⟩
    · simp at hz
    · refine ⟨upd ι H.length ⟨gb, 0, 1, cap⟩, upd_agree _ _ _, ?_, ?_⟩
      · refine hs1.add (.row 3 1 ((x :: xs).map encI) true) ⟨gb, 0, 1, cap⟩ (fun hk => by have := hs.big gb hk; omega) (fun _ p => hs.fz_new hbase p) (fun q o hq hl => ?_) ?_ ?_
        · have := AObj.holds_lt hl (hs.obj q o hq)
          dsimp only
          omega
        · intro e he
          obtain ⟨y, _, rfl⟩ := List.mem_map.1 he
          exact ⟨rfl, fun z hz => by simp only [encI, List.mem_singleton] at hz; subst hz; trivial⟩
        · refine ⟨rfl, by rw [List.length_map]; exact r1, cur, (0, 0), hgb, fun k e hke j y hj => ?_, fun _ => ⟨rfl, rfl, r3, r2⟩⟩
          rw [List.getElem?_map] at hke
          obtain ⟨z, hz, rfl⟩ := Option.map_eq_some_iff.1 hke
          cases j with
          | zero =>
            simp only [encI, List.getElem?_cons_zero, Option.some.injEq] at hj
            subst hj
            refine ⟨.int .i64 z, ?_, rfl⟩
            have hk := getElem?_lt hz
            have h5 := congrArg (fun l => l[k]?) r4
            simp only [List.getElem?_map, hz, Option.map_some, Nat.mul_one] at h5
            rw [List.getElem?_take, if_pos hk] at h5
            simpa using h5
          | succ j => simp [encI] at hj
      · refine ⟨⟨gb, 0, none⟩, ?_, ?_, ?_⟩
        · simp [upd]
        · simpa [upd] using r1
        · intro _; simp [upd, Loc.at]
theorem keysS_a {α : Type} (l : List α) (f : α → Int) (g : α → AV) (bs : List Nat) (c i j t : Nat) (hi : H[i]? = some (.map bs (c + 1) (l.map fun x => (.c (.int .i64 (f x)), g x)))) (hj : H[j]? = some (.row t 1 [[.map (some i)]] true)) (hb : bs.Nodup) (hc : ∀ b ∈ bs, b < c) (hkn : (l.map f).Nodup) (hw : ∀ x ∈ l, -9223372036854775808 ≤ f x ∧ f x ≤ 9223372036854775807) (hl : l.length ≤ 1000000)
    (h : K (.c (grV H.length (srtI (l.map f)))) (H ++ [grO 3 1 ((srtI (l.map f)).map encI)])) :
    ACalls Tryz.prog 130 [.c (.fn 176 [] [(j, 0, 0)])] H K := by
  intro B w0 ι w vs hs hr ho
  obtain ⟨l0⟩ := vs
  match l0, hr with
  | [v], hr =>
  have hv : v = .func (.func 176) #[] #[ptrOf ι (j, 0, 0)] := hr.1
  subst hv
  obtain ⟨D, hown, hperm, hsize⟩ := keys_own hs l f g bs c i hi hb hc hkn hw hl
  obtain ⟨u, hu, hur⟩ := row_cell (hs.obj j _ hj) (k := 0) (j := 0) rfl rfl
  have hur : u = .map (some (ι i).block) := hur
  subst hur
  obtain ⟨g1, g2, cur, fr, g3, g4, g5⟩ := hs.obj j _ hj
  obtain ⟨g6, g7, g8, g9⟩ := g5 rfl
  have eat : (ι j).at 0 0 = ⟨(ι j).block, 0, none⟩ := by simp [Loc.at, g7]
  have e0 : ptrOf ι (j, 0, 0) = .pointer (some ⟨(ι j).block, 0, none⟩) := by unfold ptrOf; rw [eat]
  rw [eat] at hu
  rw [e0]
  have hseq : SeqGives Fence.wide 2 Tryz.prog 176 #[.pointer (some ⟨(ι j).block, 0, none⟩)] encZ (fun ss => ss.Perm (intKeys D)) (Maps.size D) w :=
    AnyZI.keys_gives (ρ := keysSRen) { keysSLay with } Fence.wide _ trivial rfl (by omega) (ι j).block (ι i).block l.length D w (Array.getElem?_eq_some_iff.1 g3).1 hu hown
  have cS := AnyZI.sorted_in sortedLay Fence.wide 5 trivial trivial trivial trivial rfl (by omega) (sortsI_in _) (enters_of Tryz.func175 (by kernel_rfl) rfl) 176 #[.pointer (some ⟨(ι j).block, 0, none⟩)] trivial (enters_of Tryz.func176 (by kernel_rfl) rfl) _ (Maps.size D) (by rw [hsize]; unfold maxLen; omega) (by rw [hsize]; omega) w hseq
  refine Calls.mono ((callsIn_wide (n := 5)).1 cS) ?_
  rintro e w' ⟨v, ss, rfl, hp, hrow, hnil, hbel⟩
  have hsrt : ss.mergeSort (fun x y => decide (x ≤ y)) = srtI (l.map f) := mergeSort_of_perm_i (hp.trans hperm)
  rw [hsrt] at hrow
  have hlen : ss.length = (srtI (l.map f)).length := by rw [← hsrt, List.length_mergeSort]
  rw [hlen] at hrow
  obtain ⟨ι', hA, hs', hrel⟩ := newRow_a hs hrow hbel (fun h => hnil.2 (List.eq_nil_of_length_eq_zero (by rw [hlen, h]; rfl)))
  exact ⟨ι', _, _, _, rfl, hA, by simp, hs', hrel, grV_ok (by simp) _, h⟩
theorem keysB_a {α : Type} (l : List α) (f : α → Int) (g : α → AV) (bs : List Nat) (c i j t : Nat) (hi : H[i]? = some (.map bs (c + 1) (l.map fun x => (.c (.int .i64 (f x)), g x)))) (hj : H[j]? = some (.row t 1 [[.map (some i)]] true)) (hb : bs.Nodup) (hc : ∀ b ∈ bs, b < c) (hkn : (l.map f).Nodup) (hw : ∀ x ∈ l, -9223372036854775808 ≤ f x ∧ f x ≤ 9223372036854775807) (hl : l.length ≤ 1000000)
    (h : K (.c (grV H.length (srtI (l.map f)))) (H ++ [grO 3 1 ((srtI (l.map f)).map encI)])) :
    ACalls Tryz.prog 130 [.c (.fn 177 [] [(j, 0, 0)])] H K := by
  intro B w0 ι w vs hs hr ho
  obtain ⟨l0⟩ := vs
  match l0, hr with
  | [v], hr =>
  have hv : v = .func (.func 177) #[] #[ptrOf ι (j, 0, 0)] := hr.1
  subst hv
  obtain ⟨D, hown, hperm, hsize⟩ := keys_own hs l f g bs c i hi hb hc hkn hw hl
  obtain ⟨u, hu, hur⟩ := row_cell (hs.obj j _ hj) (k := 0) (j := 0) rfl rfl
  have hur : u = .map (some (ι i).block) := hur
  subst hur
  obtain ⟨g1, g2, cur, fr, g3, g4, g5⟩ := hs.obj j _ hj
  obtain ⟨g6, g7, g8, g9⟩ := g5 rfl
  have eat : (ι j).at 0 0 = ⟨(ι j).block, 0, none⟩ := by simp [Loc.at, g7]
  have e0 : ptrOf ι (j, 0, 0) = .pointer (some ⟨(ι j).block, 0, none⟩) := by unfold ptrOf; rw [eat]
  rw [eat] at hu
  rw [e0]
  have hseq : SeqGives Fence.wide 2 Tryz.prog 177 #[.pointer (some ⟨(ι j).block, 0, none⟩)] encZ (fun ss => ss.Perm (intKeys D)) (Maps.size D) w :=
    AnyZI.keys_gives (ρ := keysBRen) { keysBLay with } Fence.wide _ trivial rfl (by omega) (ι j).block (ι i).block l.length D w (Array.getElem?_eq_some_iff.1 g3).1 hu hown
  have cS := AnyZI.sorted_in sortedLay Fence.wide 5 trivial trivial trivial trivial rfl (by omega) (sortsI_in _) (enters_of Tryz.func175 (by kernel_rfl) rfl) 177 #[.pointer (some ⟨(ι j).block, 0, none⟩)] trivial (enters_of Tryz.func177 (by kernel_rfl) rfl) _ (Maps.size D) (by rw [hsize]; unfold maxLen; omega) (by rw [hsize]; omega) w hseq
  refine Calls.mono ((callsIn_wide (n := 5)).1 cS) ?_
  rintro e w' ⟨v, ss, rfl, hp, hrow, hnil, hbel⟩
  have hsrt : ss.mergeSort (fun x y => decide (x ≤ y)) = srtI (l.map f) := mergeSort_of_perm_i (hp.trans hperm)
  rw [hsrt] at hrow
  have hlen : ss.length = (srtI (l.map f)).length := by rw [← hsrt, List.length_mergeSort]
  rw [hlen] at hrow
  obtain ⟨ι', hA, hs', hrel⟩ := newRow_a hs hrow hbel (fun h => hnil.2 (List.eq_nil_of_length_eq_zero (by rw [hlen, h]; rfl)))
  exact ⟨ι', _, _, _, rfl, hA, by simp, hs', hrel, grV_ok (by simp) _, h⟩
end Go.Proofs.YtgcjenfdndhhpaaGreatDoor
