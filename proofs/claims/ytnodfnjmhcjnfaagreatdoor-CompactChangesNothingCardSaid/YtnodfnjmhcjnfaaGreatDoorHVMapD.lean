/- Several texts in one: Maps of samples by their moments: put, taken out, found, gone through; marked by a fix, and what follows. No condition. -/
import Derived.Shelf.SlIterI.Sorted
import Derived.Shelf.SortM.Plain
import Derived.Shelf.SortM.SortNone
import Derived.Test.YtnodfnjmhcjnfaaGreatDoorHVGA
import Derived.Test.YtnodfnjmhcjnfaaGreatDoorHVPickC
import Derived.Test.YtnodfnjmhcjnfaaGreatDoorHVGF
import Derived.Test.YtnodfnjmhcjnfaaGreatDoorHVArrE
import Derived.Test.YtnodfnjmhcjnfaaGreatDoorHVStr
/- Maps of samples by their moments: put, taken out, found, gone through; marked by a fix. No condition. -/
namespace Go.Proofs.YtnodfnjmhcjnfaaGreatDoor
open Go Go.RowKit
set_option maxRecDepth 100000
set_option linter.all false
set_option maxHeartbeats 1000000
variable {H : Hp} {K : AV → Hp → Prop}
def eS (x : Smp) : AV × AV := (.c (.int .i64 x.t), .agg (encS x))
def mdO (bs : List Nat) (c : Nat) (m : List Smp) : AObj := .map bs (c + 1) (m.map eS)
structure MdOk (bs : List Nat) (c : Nat) (m : List Smp) : Prop where
  len : bs.length = m.length
  nd : bs.Nodup
  lt : ∀ b ∈ bs, b < c
  keys : (m.map (·.t)).Nodup
def putS (x : Smp) (m : List Smp) : List Smp := upsert (fun y => decide (x.t = y.t)) x m
theorem findA_S (P : Program) (kt : TypeId) (t : Int) (m : List Smp) : findA P kt (.c (.int .i64 t)) (m.map eS) = some (m.findIdx? fun y => decide (t = y.t)) := findA_int .i64 t (fun y : Smp => y.t) (fun y : Smp => AV.agg (encS y)) m
theorem find_none_keys {t : Int} {m : List Smp} (h : m.findIdx? (fun y => decide (t = y.t)) = none) : t ∉ m.map (·.t) := by
  intro hm
  obtain ⟨y, hy, e⟩ := List.mem_map.1 hm
  have := List.findIdx?_eq_none_iff.1 h y hy
  simp [e] at this
theorem set_keys {j : Nat} {x y : Smp} {m : List Smp} (h : m[j]? = some y) (e : x.t = y.t) : (m.set j x).map (·.t) = m.map (·.t) := by
  rw [List.map_set]
  apply List.ext_getElem?
  intro k
  rw [List.getElem?_set]
  split
  · rename_i hjk
    subst hjk
    have hl : j < m.length := getElem?_lt h
    rw [List.getElem?_map, h]
    simp [hl, e]
  · rfl
theorem upd_ok {x : Smp} {bs : List Nat} {c : Nat} {m : List Smp} (ok : MdOk bs c m) : MdOk (bornsOf bs (c + 1) (putS x m).length) (clockOf bs (c + 1) (putS x m).length - 1) (putS x m) ∧ clockOf bs (c + 1) (putS x m).length = (clockOf bs (c + 1) (putS x m).length - 1) + 1 := by
  unfold putS upsert bornsOf clockOf
  cases h : m.findIdx? (fun y => decide (x.t = y.t)) with
  | none =>
    have hn := find_none_keys h
    have e : ¬ (m ++ [x]).length = bs.length := by simp [ok.len]
    dsimp only
    rw [if_neg e, if_neg e]
    refine ⟨⟨by simp [ok.len], ?_, ?_, ?_⟩, by omega⟩
    · rw [List.nodup_append]
      refine ⟨ok.nd, by simp, ?_⟩
      intro a ha b hb e
      simp only [List.mem_singleton] at hb
      have := ok.lt a ha
      omega
    · intro b hb
      rcases List.mem_append.1 hb with hb | hb
      · have := ok.lt b hb; omega
      · simp only [List.mem_singleton] at hb; omega
    · rw [List.map_append, List.nodup_append]
      refine ⟨ok.keys, by simp, ?_⟩
      intro a ha b hb e
      simp only [List.map_cons, List.map_nil, List.mem_singleton] at hb
      subst e; subst hb
      exact hn ha
  | some j =>
    obtain ⟨hj, h1, _⟩ := List.findIdx?_eq_some_iff_getElem.1 h
    have e : (m.set j x).length = bs.length := by simp [ok.len]
    dsimp only
    rw [if_pos e, if_pos e]
    refine ⟨⟨by simp [ok.len], ok.nd, fun b hb => by have := ok.lt b hb; omega, ?_⟩, by omega⟩
    rw [set_keys (y := m[j]) (by simp [hj]) (by simpa using h1)]
    exact ok.keys
theorem mup_md {P : Program} {J : AV → Hp → Prop} {x : Smp} {bs : List Nat} {c i kt : Nat} {m : List Smp} (ok : MdOk bs c m) (hk : keyOk P kt (.c (.int .i64 x.t)) = true) (ht : keyT P kt (.c (.int .i64 x.t)) = true)
    (h : ∀ bs' c', MdOk bs' c' (putS x m) → J .any (H.set i (mdO bs' c' (putS x m)))) : aMapUp2 P (some (mdO bs c m)) i kt (.c (.int .i64 x.t)) (.agg [.int .i64 x.t, .int .i64 x.v, .int .i64 x.q]) H J := by
  refine ⟨hk, ?_⟩
  have hp := put_of (P := P) (e := eS) (p := fun y : Smp => decide (x.t = y.t)) (x := x) (l := m) ht (findA_S P kt x.t m) rfl
  have hp2 : mapPut P kt (.c (.int .i64 x.t)) (.agg [.int .i64 x.t, .int .i64 x.v, .int .i64 x.q]) (m.map eS) = some ((putS x m).map eS) := hp
  rw [hp2]
  refine ⟨by omega, ?_⟩
  obtain ⟨h1, h2⟩ := upd_ok (x := x) ok
  rw [List.length_map]
  have h3 := h _ _ h1
  unfold mdO at h3
  rw [← h2] at h3
  exact h3
@[go_sem] theorem arg2_md {J : AV → Hp → Prop} (i c : Nat) (bs : List Nat) (m : List Smp) : aRange2 (some (mdO bs c m)) i H J = aVal (.c (.ptr (some (H.length, 0, 0)))) (H ++ [itO c i []]) J := by simp [aRange2, mdO, aVal, itO]
theorem next_md {J : AV → Hp → Prop} {bs : List Nat} {c r i : Nat} {m : List Smp} {seen : List Nat} (ok : MdOk bs c m) (h0 : (∀ b ∈ bs, b ∈ seen) → J (.tup [.c (.bool false)]) H)
    (h1 : ∀ (j b : Nat) (x : Smp), bs[j]? = some b → m[j]? = some x → b ∉ seen → J (.tup [.c (.bool true), .c (.int .i64 x.t), .agg (encS x)]) (H.set r (itO c i (seen ++ [b])))) : aNext3 (some (mdO bs c m)) r i c c seen H J := by
  refine ⟨by omega, ⟨Nat.le_refl _, ok.lt⟩, h0, fun j b k v hb he hs => ?_⟩
  rw [List.getElem?_map] at he
  obtain ⟨x, hx, e⟩ := Option.map_eq_some_iff.1 he
  simp only [eS, Prod.mk.injEq] at e
  obtain ⟨rfl, rfl⟩ := e
  exact ⟨⟨rfl, rfl⟩, h1 j b x hb hx hs⟩
theorem entry_md {J : AV → Hp → Prop} {bs : List Nat} {c j b : Nat} {m : List Smp} {seen : List Nat} {x : Smp} (ok : MdOk bs c m) (hb : bs[j]? = some b) (hx : m[j]? = some x) (h : J (.tup [.c (.int .i64 x.t), .agg (encS x)]) H) : aEnt3 (some (mdO bs c m)) c (seen ++ [b]) H J :=
  ⟨j, b, seen, _, _, ⟨rfl, rfl, hb, by rw [List.getElem?_map, hx]; rfl, ok.nd, rfl, rfl⟩, h⟩
theorem nd_inj {α : Type} : ∀ {l : List α}, l.Nodup → ∀ {i j : Nat} {a : α}, l[i]? = some a → l[j]? = some a → i = j
  | [], _, i, j, a, h, _ => by simp at h
  | x :: l, hn, i, j, a, h1, h2 => by
    rw [List.nodup_cons] at hn
    cases i with
    | zero => cases j with
      | zero => rfl
      | succ j =>
        simp only [List.getElem?_cons_zero, Option.some.injEq, List.getElem?_cons_succ] at h1 h2
        subst h1
        exact absurd (List.mem_of_getElem? h2) hn.1
    | succ i => cases j with
      | zero =>
        simp only [List.getElem?_cons_zero, Option.some.injEq, List.getElem?_cons_succ] at h1 h2
        subst h2
        exact absurd (List.mem_of_getElem? h1) hn.1
      | succ j =>
        simp only [List.getElem?_cons_succ] at h1 h2
        rw [nd_inj hn.2 h1 h2]
theorem nd_le {α : Type} [DecidableEq α] : ∀ {l m : List α}, l.Nodup → (∀ a ∈ l, a ∈ m) → l.length ≤ m.length
  | [], _, _, _ => Nat.zero_le _
  | x :: l, m, hn, h => by
    rw [List.nodup_cons] at hn
    have h1 := nd_le (m := m.erase x) hn.2 (fun a ha => (List.mem_erase_of_ne (fun (e : a = x) => hn.1 (by rw [← e]; exact ha))).2 (h a (List.mem_cons_of_mem _ ha)))
    have h2 := List.length_erase_of_mem (h x List.mem_cons_self)
    have h3 : 0 < m.length := List.length_pos_of_mem (h x List.mem_cons_self)
    rw [List.length_cons]
    omega
theorem md_okN {bs : List Nat} {c n : Nat} {m : List Smp} : (mdO bs c m).okN n := by
  intro p hp
  obtain ⟨x, _, rfl⟩ := List.mem_map.1 hp
  exact ⟨trivial, by intro y hy; simp only [encS, List.mem_cons, List.not_mem_nil, or_false] at hy; rcases hy with rfl | rfl | rfl <;> trivial⟩
theorem it_okN {c i n : Nat} {seen : List Nat} (h : i < n) : (itO c i seen).okN n := by
  intro p hp
  simp only [List.mem_singleton] at hp
  subst hp
  exact ⟨h, trivial⟩
@[go_sem] theorem mapK_iS : mapK Tryz.prog 282 = some 3 := (by kernel_rfl)
end Go.Proofs.YtnodfnjmhcjnfaaGreatDoor
/- sample.fixed, sample.series: the samples of a map, after fixes. No condition. -/
namespace Go.Proofs.YtnodfnjmhcjnfaaGreatDoor
open Go Go.RowKit
set_option maxRecDepth 100000
set_option linter.all false
set_option maxHeartbeats 1000000
variable {H : Hp} {K : AV → Hp → Prop}
attribute [simp] md_okN
theorem md_nil : mpO [] = mdO [] 0 [] := rfl
theorem mdOk_nil : MdOk [] 0 [] := ⟨rfl, List.nodup_nil, by simp, List.nodup_nil⟩
def serM (m : List Smp) : List Smp := (srtI (m.map (·.t))).filterMap fun t => m.find? fun y => decide (t = y.t)
theorem serM_at {m : List Smp} : ∀ (ks : List Int), (∀ t ∈ ks, t ∈ m.map (·.t)) → (ks.filterMap fun t => m.find? fun y => decide (t = y.t)).length = ks.length ∧ ∀ (k : Nat) (t : Int), ks[k]? = some t → ∃ x, m.find? (fun y => decide (t = y.t)) = some x ∧ (ks.filterMap fun t => m.find? fun y => decide (t = y.t))[k]? = some x
  | [], _ => ⟨rfl, by simp⟩
  | t :: r, h => by
    obtain ⟨h1, h2⟩ := serM_at r (fun y hy => h y (by simp [hy]))
    obtain ⟨y, hy, e⟩ := List.mem_map.1 (h t (by simp))
    obtain ⟨x, hx⟩ : ∃ x, m.find? (fun y => decide (t = y.t)) = some x := by
      cases hf : m.find? (fun y => decide (t = y.t)) with
      | some x => exact ⟨x, rfl⟩
      | none => exact absurd (List.find?_eq_none.1 hf y hy) (by simp [e])
    rw [List.filterMap_cons, hx]
    refine ⟨by simp [h1], fun k t' hk => ?_⟩
    cases k with
    | zero =>
      simp only [List.getElem?_cons_zero, Option.some.injEq] at hk
      subst hk
      exact ⟨x, hx, rfl⟩
    | succ k => exact h2 k t' (by simpa using hk)
end Go.Proofs.YtnodfnjmhcjnfaaGreatDoor
/- sample.Fixed: a series after its fixes. Condition: names are not longer than a machine holds, lists are not long. -/
namespace Go.Proofs.YtnodfnjmhcjnfaaGreatDoor
open Go Go.RowKit
set_option maxRecDepth 100000
set_option linter.all false
set_option maxHeartbeats 1000000
variable {H : Hp} {K : AV → Hp → Prop}
theorem putS_mem {x y : Smp} {m : List Smp} (h : y ∈ putS x m) : y = x ∨ y ∈ m := by
  unfold putS upsert at h
  split at h
  · rcases List.mem_or_eq_of_mem_set h with h | h
    · exact .inr h
    · exact .inl h
  · rcases List.mem_append.1 h with h | h
    · exact .inr h
    · exact .inl (by simpa using h)
theorem putS_len (x : Smp) (m : List Smp) : (putS x m).length ≤ m.length + 1 := by
  unfold putS upsert
  split <;> simp
theorem puts_len : ∀ (l m : List Smp), (l.foldl (fun m x => putS x m) m).length ≤ m.length + l.length
  | [], m => by simp
  | x :: r, m => by
    have h1 := puts_len r (putS x m)
    have h2 := putS_len x m
    rw [List.foldl_cons, List.length_cons]
    omega
theorem serM_len {m : List Smp} : (serM m).length = m.length := by
  have h1 := (serM_at (m := m) (srtI (m.map (·.t))) (fun t ht => srtI_mem.1 ht)).1
  rw [srtI_len, List.length_map] at h1
  exact h1
end Go.Proofs.YtnodfnjmhcjnfaaGreatDoor
/- sample.Differ: the moments at which two series differ. Condition: the lists are not long. -/
namespace Go.Proofs.YtnodfnjmhcjnfaaGreatDoor
open Go Go.RowKit
set_option maxRecDepth 100000
set_option linter.all false
set_option maxHeartbeats 1000000
variable {H : Hp} {K : AV → Hp → Prop}
def pfS (l : List Smp) : List Smp := l.foldl (fun m x => putS x m) []
end Go.Proofs.YtnodfnjmhcjnfaaGreatDoor
/- Changes: the moments at which a corrected series differs as of two moments. Condition: names are not longer than a machine holds, lists are not long. -/
namespace Go.Proofs.YtnodfnjmhcjnfaaGreatDoor
open Go Go.RowKit
set_option maxRecDepth 100000
set_option linter.all false
set_option maxHeartbeats 1000000
variable {H : Hp} {K : AV → Hp → Prop}
theorem serM_mem {m : List Smp} {x : Smp} (h : x ∈ serM m) : x ∈ m := by
  unfold serM at h
  obtain ⟨t, _, h2⟩ := List.mem_filterMap.1 h
  exact List.mem_of_find?_eq_some h2
end Go.Proofs.YtnodfnjmhcjnfaaGreatDoor
