/- Maps of samples by their moments: put, taken out, found, gone through; marked by a fix. No condition. -/
import Derived.Test.YtgcjenfdndhhpaaGreatDoorHVKeysI
import Derived.Test.YtgcjenfdndhhpaaGreatDoorHVGF
namespace Go.Proofs.YtgcjenfdndhhpaaGreatDoor
open Go Go.RowKit
set_option maxRecDepth 100000
set_option linter.all false
set_option maxHeartbeats 1000000
variable {H : Hp} {K : AV → Hp → Prop}
structure Fix where
  by_ : ByteArray
  no : Int
  made : Int
  kind : Int
  s : Smp
  t : Int
  w1 : Int
  w2 : Int
  q : Int
deriving DecidableEq
def encF (x : Fix) : List AC := [.str x.by_, .int .i64 x.no, .int .i64 x.made, .int .i64 x.kind, .int .i64 x.s.t, .int .i64 x.s.v, .int .i64 x.s.q, .int .i64 x.t, .int .i64 x.w1, .int .i64 x.w2, .int .i64 x.q]
attribute [go_sem, simp] encF
def eS (x : Smp) : AV × AV := (.c (.int .i64 x.t), .agg (encS x))
/-- a map of samples; when they came, and the clock -/
def mdO (bs : List Nat) (c : Nat) (m : List Smp) : AObj := .map bs (c + 1) (m.map eS)
structure MdOk (bs : List Nat) (c : Nat) (m : List Smp) : Prop where
  len : bs.length = m.length
  nd : bs.Nodup
  lt : ∀ b ∈ bs, b < c
  keys : (m.map (·.t)).Nodup
theorem mapErase {α β : Type} (f : α → β) : ∀ (l : List α) (j : Nat), (l.eraseIdx j).map f = (l.map f).eraseIdx j
  | [], j => by simp
  | x :: l, 0 => rfl
  | x :: l, j + 1 => by simp [mapErase f l j]
def putS (x : Smp) (m : List Smp) : List Smp := upsert (fun y => decide (x.t = y.t)) x m
def delS (t : Int) (m : List Smp) : List Smp := match m.findIdx? (fun y => decide (t = y.t)) with
  | some j => m.eraseIdx j
  | none => m
theorem findA_S (P : Program) (kt : TypeId) (t : Int) (m : List Smp) : findA P kt (.c (.int .i64 t)) (m.map eS) = some (m.findIdx? fun y => decide (t = y.t)) := findA_int .i64 t (fun y : Smp => y.t) (fun y : Smp => AV.agg (encS y)) m
theorem find_none_keys {t : Int} {m : List Smp} (h : m.findIdx? (fun y => decide (t = y.t)) = none) : t ∉ m.map (·.t) := by
  intro hm
  obtain ⟨y, hy, e⟩ := List.mem_map.1 hm
  have := List.findIdx?_eq_none_iff.1 h y hy
  simp [e] at this
theorem set_keys {j : Nat} {x y : Smp} {m : List Smp} (h : m[j]? = some y) (e : x.t = y.t) : (m.set j x).map (·.t) = m.map (·.t) := by
  rw [List.map_set]
  apply List.ext_getElem?
  intro k
  rw [List.getElem?_set]
  split
  · rename_i hjk
    subst hjk
    have hl : j < m.length := getElem?_lt h
    rw [List.getElem?_map, h]
    simp [hl, e]
  · rfl
theorem upd_ok {x : Smp} {bs : List Nat} {c : Nat} {m : List Smp} (ok : MdOk bs c m) : MdOk (bornsOf bs (c + 1) (putS x m).length) (clockOf bs (c + 1) (putS x m).length - 1) (putS x m) ∧ clockOf bs (c + 1) (putS x m).length = (clockOf bs (c + 1) (putS x m).length - 1) + 1 := by
  unfold putS upsert bornsOf clockOf
  cases h : m.findIdx? (fun y => decide (x.t = y.t)) with
  | none =>
    have hn := find_none_keys h
    have e : ¬ (m ++ [x]).length = bs.length := by simp [ok.len]
    dsimp only
    rw [if_neg e, if_neg e]
    refine ⟨⟨by simp [ok.len], ?_, ?_, ?_⟩, by omega⟩
    · rw [List.nodup_append]
      refine ⟨ok.nd, by simp, ?_⟩
      intro a ha b hb e
      simp only [List.mem_singleton] at hb
      have := ok.lt a ha
      omega
    · intro b hb
      rcases List.mem_append.1 hb with hb | hb
      · have := ok.lt b hb; omega
      · simp only [List.mem_singleton] at hb; omega
    · rw [List.map_append, List.nodup_append]
      refine ⟨ok.keys, by simp, ?_⟩
      intro a ha b hb e
      simp only [List.map_cons, List.map_nil, List.mem_singleton] at hb
      subst e; subst hb
      exact hn ha
  | some j =>
    obtain ⟨hj, h1, _⟩ := List.findIdx?_eq_some_iff_getElem.1 h
    have e : (m.set j x).length = bs.length := by simp [ok.len]
    dsimp only
    rw [if_pos e, if_pos e]
    refine ⟨⟨by simp [ok.len], ok.nd, fun b hb => by have := ok.lt b hb; omega, ?_⟩, by omega⟩
    rw [set_keys (y := m[j]) (by simp [hj]) (by simpa using h1)]
    exact ok.keys
theorem mup_md {P : Program} {J : AV → Hp → Prop} {x : Smp} {bs : List Nat} {c i kt : Nat} {m : List Smp} (ok : MdOk bs c m) (hk : keyOk P kt (.c (.int .i64 x.t)) = true) (ht : keyT P kt (.c (.int .i64 x.t)) = true)
    (h : ∀ bs' c', MdOk bs' c' (putS x m) → J .any (H.set i (mdO bs' c' (putS x m)))) : aMapUp2 P (some (mdO bs c m)) i kt (.c (.int .i64 x.t)) (.agg [.int .i64 x.t, .int .i64 x.v, .int .i64 x.q]) H J := by
  refine ⟨hk, ?_⟩
  have hp := put_of (P := P) (e := eS) (p := fun y : Smp => decide (x.t = y.t)) (x := x) (l := m) ht (findA_S P kt x.t m) rfl
  have hp2 : mapPut P kt (.c (.int .i64 x.t)) (.agg [.int .i64 x.t, .int .i64 x.v, .int .i64 x.q]) (m.map eS) = some ((putS x m).map eS) := hp
  rw [hp2]
  refine ⟨by omega, ?_⟩
  obtain ⟨h1, h2⟩ := upd_ok (x := x) ok
  rw [List.length_map]
  have h3 := h _ _ h1
  unfold mdO at h3
  rw [← h2] at h3
  exact h3
theorem del_md {P : Program} {J : AV → Hp → Prop} {t : Int} {bs : List Nat} {c i kt : Nat} {m : List Smp} (ok : MdOk bs c m) (hk : keyOk P kt (.c (.int .i64 t)) = true) (ht : keyT P kt (.c (.int .i64 t)) = true)
    (h : ∀ bs' c', MdOk bs' c' (delS t m) → J (.tup []) (H.set i (mdO bs' c' (delS t m)))) : aDel P (some kt) (some (mdO bs c m)) i (.c (.int .i64 t)) H J := by
  refine ⟨⟨by omega, rfl, hk, ht⟩, ?_⟩
  rw [findA_S]
  unfold delS at h
  cases hf : m.findIdx? (fun y => decide (t = y.t)) with
  | none =>
    rw [hf] at h
    exact h bs c ok
  | some j =>
    rw [hf] at h
    have hj : j < m.length := (List.findIdx?_eq_some_iff_getElem.1 hf).1
    have h1 := h (bs.eraseIdx j) c ⟨by rw [List.length_eraseIdx, List.length_eraseIdx, ok.len], ok.nd.sublist (List.eraseIdx_sublist ..), fun b hb => ok.lt b (List.mem_of_mem_eraseIdx hb), ok.keys.sublist ((List.eraseIdx_sublist ..).map _)⟩
    unfold mdO at h1
    rw [mapErase] at h1
    exact h1
theorem look_md {P : Program} {J : AV → Hp → Prop} {t : Int} {x : Smp} {bs : List Nat} {c kt : Nat} {m : List Smp} {z : AV} (hk : keyOk P kt (.c (.int .i64 t)) = true) (ht : keyT P kt (.c (.int .i64 t)) = true) (hf : m.find? (fun y => decide (t = y.t)) = some x) (h : J (.agg (encS x)) H) :
    aLook2 P (some (mdO bs c m)) kt (some z) (.c (.int .i64 t)) false H J := by
  refine ⟨⟨by omega, hk⟩, ?_⟩
  rw [get_of (P := P) (e := eS) (p := fun y : Smp => decide (t = y.t)) ht (findA_S P kt t m), hf]
  exact ⟨rfl, h⟩
@[go_sem] theorem arg2_md {J : AV → Hp → Prop} (i c : Nat) (bs : List Nat) (m : List Smp) : aRange2 (some (mdO bs c m)) i H J = aVal (.c (.ptr (some (H.length, 0, 0)))) (H ++ [itO c i []]) J := by simp [aRange2, mdO, aVal, itO]
theorem next_md {J : AV → Hp → Prop} {bs : List Nat} {c r i : Nat} {m : List Smp} {seen : List Nat} (ok : MdOk bs c m) (h0 : (∀ b ∈ bs, b ∈ seen) → J (.tup [.c (.bool false)]) H)
    (h1 : ∀ (j b : Nat) (x : Smp), bs[j]? = some b → m[j]? = some x → b ∉ seen → J (.tup [.c (.bool true), .c (.int .i64 x.t), .agg (encS x)]) (H.set r (itO c i (seen ++ [b])))) : aNext3 (some (mdO bs c m)) r i c c seen H J := by
  refine ⟨by omega, ⟨Nat.le_refl _, ok.lt⟩, h0, fun j b k v hb he hs => ?_⟩
  rw [List.getElem?_map] at he
  obtain ⟨x, hx, e⟩ := Option.map_eq_some_iff.1 he
  simp only [eS, Prod.mk.injEq] at e
  obtain ⟨rfl, rfl⟩ := e
  exact ⟨⟨rfl, rfl⟩, h1 j b x hb hx hs⟩
theorem entry_md {J : AV → Hp → Prop} {bs : List Nat} {c j b : Nat} {m : List Smp} {seen : List Nat} {x : Smp} (ok : MdOk bs c m) (hb : bs[j]? = some b) (hx : m[j]? = some x) (h : J (.tup [.c (.int .i64 x.t), .agg (encS x)]) H) : aEnt3 (some (mdO bs c m)) c (seen ++ [b]) H J :=
  ⟨j, b, seen, _, _, ⟨rfl, rfl, hb, by rw [List.getElem?_map, hx]; rfl, ok.nd, rfl, rfl⟩, h⟩
theorem nd_inj {α : Type} : ∀ {l : List α}, l.Nodup → ∀ {i j : Nat} {a : α}, l[i]? = some a → l[j]? = some a → i = j
  | [], _, i, j, a, h, _ => by simp at h
  | x :: l, hn, i, j, a, h1, h2 => by
    rw [List.nodup_cons] at hn
    cases i with
    | zero => cases j with
      | zero => rfl
      | succ j =>
        simp only [List.getElem?_cons_zero, Option.some.injEq, List.getElem?_cons_succ] at h1 h2
        subst h1
        exact absurd (List.mem_of_getElem? h2) hn.1
    | succ i => cases j with
      | zero =>
        simp only [List.getElem?_cons_zero, Option.some.injEq, List.getElem?_cons_succ] at h1 h2
        subst h2
        exact absurd (List.mem_of_getElem? h1) hn.1
      | succ j =>
        simp only [List.getElem?_cons_succ] at h1 h2
        rw [nd_inj hn.2 h1 h2]
theorem nd_le {α : Type} [DecidableEq α] : ∀ {l m : List α}, l.Nodup → (∀ a ∈ l, a ∈ m) → l.length ≤ m.length
  | [], _, _, _ => Nat.zero_le _
  | x :: l, m, hn, h => by
    rw [List.nodup_cons] at hn
    have h1 := nd_le (m := m.erase x) hn.2 (fun a ha => (List.mem_erase_of_ne (fun (e : a = x) => hn.1 (by rw [← e]; exact ha))).2 (h a (List.mem_cons_of_mem _ ha)))
    have h2 := List.length_erase_of_mem (h x List.mem_cons_self)
    have h3 : 0 < m.length := List.length_pos_of_mem (h x List.mem_cons_self)
    rw [List.length_cons]
    omega
/-- a sample, marked by a fix -/
def mkF (f : Fix) (x : Smp) : Smp := if (f.w1 ≤ x.t ∧ x.t < f.w2) ∧ x.q ≠ 2 then ⟨x.t, if f.q = 2 then 0 else x.v, f.q⟩ else x
theorem mkF_t (f : Fix) (x : Smp) : (mkF f x).t = x.t := by unfold mkF; split <;> rfl
/-- those of some births are marked -/
def mzF (f : Fix) (bs : List Nat) (m : List Smp) (seen : List Nat) : List Smp := (bs.zip m).map fun p => if p.1 ∈ seen then mkF f p.2 else p.2
theorem mz_nil (f : Fix) {bs : List Nat} {m : List Smp} (h : bs.length = m.length) : mzF f bs m [] = m := by
  unfold mzF
  simp only [List.not_mem_nil, if_false]
  exact List.map_snd_zip (by omega)
theorem mz_len (f : Fix) {bs : List Nat} {m : List Smp} (h : bs.length = m.length) (seen : List Nat) : (mzF f bs m seen).length = m.length := by simp [mzF, h]
theorem mz_at (f : Fix) {bs : List Nat} {m : List Smp} {seen : List Nat} {j b : Nat} {x : Smp} (hb : bs[j]? = some b) (hx : m[j]? = some x) : (mzF f bs m seen)[j]? = some (if b ∈ seen then mkF f x else x) := by
  unfold mzF
  have h1 : (bs.zip m)[j]? = some (b, x) := by rw [List.getElem?_zip_eq_some]; exact ⟨hb, hx⟩
  rw [List.getElem?_map, h1]
  rfl
theorem mz_all (f : Fix) {bs : List Nat} {m : List Smp} {seen : List Nat} (h : bs.length = m.length) (ha : ∀ b ∈ bs, b ∈ seen) : mzF f bs m seen = m.map (mkF f) := by
  apply List.ext_getElem?
  intro j
  by_cases hj : j < m.length
  · have hb : bs[j]? = some (bs[j]'(by omega)) := by simp
    have hx : m[j]? = some m[j] := by simp [hj]
    rw [mz_at f hb hx, if_pos (ha _ (List.getElem_mem _)), List.getElem?_map, hx]
    rfl
  · rw [List.getElem?_eq_none (by rw [mz_len f h]; omega), List.getElem?_eq_none (by rw [List.length_map]; omega)]
theorem mz_step (f : Fix) {bs : List Nat} {m : List Smp} {seen : List Nat} {j b : Nat} {x : Smp} (h : bs.length = m.length) (hn : bs.Nodup) (hb : bs[j]? = some b) (hx : m[j]? = some x) : mzF f bs m (seen ++ [b]) = (mzF f bs m seen).set j (mkF f x) := by
  apply List.ext_getElem?
  intro k
  by_cases hk : k < m.length
  · have hb2 : bs[k]? = some (bs[k]'(by omega)) := by simp
    have hx2 : m[k]? = some m[k] := by simp [hk]
    rw [mz_at f hb2 hx2, List.getElem?_set]
    by_cases e : j = k
    · subst e
      rw [hx2] at hx
      injection hx with hx
      have hbk : bs[j]'(by omega) = b := by rw [hb2] at hb; injection hb
      rw [if_pos (show bs[j]'(by omega) ∈ seen ++ [b] by rw [hbk]; simp), if_pos rfl, if_pos (show j < (mzF f bs m seen).length by rw [mz_len f h]; exact hk), hx]
    · rw [if_neg e, mz_at f hb2 hx2]
      have : bs[k]'(by omega) ≠ b := by
        intro e2
        have hjl := getElem?_lt hb
        rw [List.getElem?_eq_getElem hjl] at hb
        injection hb with hb
        exact e (nd_inj hn (a := b) (by simp [hjl, hb]) (by simp [hb2, e2]))
      by_cases h2 : bs[k]'(by omega) ∈ seen
      · rw [if_pos (List.mem_append_left _ h2), if_pos h2]
      · rw [if_neg (by rw [List.mem_append]; rintro (h3 | h3); exact h2 h3; simp only [List.mem_singleton] at h3; exact this h3), if_neg h2]
  · rw [List.getElem?_eq_none (by rw [mz_len f h]; omega), List.getElem?_eq_none (by rw [List.length_set, mz_len f h]; omega)]
theorem mz_keys (f : Fix) {bs : List Nat} {m : List Smp} (h : bs.length = m.length) (seen : List Nat) : (mzF f bs m seen).map (·.t) = m.map (·.t) := by
  have e : (mzF f bs m seen).map (·.t) = ((bs.zip m).map (·.2)).map (·.t) := by
    unfold mzF
    rw [List.map_map, List.map_map]
    refine List.map_congr_left fun p _ => ?_
    simp only [Function.comp]
    split
    · exact mkF_t f p.2
    · rfl
  rw [e, List.map_snd_zip (by omega)]
theorem mz_ok (f : Fix) {bs : List Nat} {c : Nat} {m : List Smp} (ok : MdOk bs c m) (seen : List Nat) : MdOk bs c (mzF f bs m seen) := ⟨by rw [mz_len f ok.len]; exact ok.len, ok.nd, ok.lt, by rw [mz_keys f ok.len]; exact ok.keys⟩
theorem put_set {x y : Smp} {m : List Smp} {j : Nat} (hn : (m.map (·.t)).Nodup) (hx : m[j]? = some x) (e : y.t = x.t) : putS y m = m.set j y := by
  have hj := getElem?_lt hx
  have hf : m.findIdx? (fun z => decide (y.t = z.t)) = some j := by
    rw [List.findIdx?_eq_some_iff_getElem]
    rw [List.getElem?_eq_getElem hj] at hx
    injection hx with hx
    refine ⟨hj, by simp [hx, e], fun k hk => ?_⟩
    have hkl : k < m.length := by omega
    intro h2
    have h3 : (m.map (·.t))[k]'(by simpa using hkl) = (m.map (·.t))[j]'(by simpa using hj) := by
      simp only [List.getElem_map]
      have := of_decide_eq_true h2
      rw [hx, ← e, this]
    have := nd_inj hn (i := k) (j := j) (a := (m.map (·.t))[j]'(by simpa using hj)) (by rw [← h3, List.getElem?_eq_getElem (by simpa using hkl)]) (List.getElem?_eq_getElem (by simpa using hj))
    omega
  unfold putS upsert
  rw [hf]
theorem mup_set {P : Program} {J : AV → Hp → Prop} {x y : Smp} {bs : List Nat} {c i kt j : Nat} {m : List Smp} (ok : MdOk bs c m) (hk : keyOk P kt (.c (.int .i64 x.t)) = true) (ht : keyT P kt (.c (.int .i64 x.t)) = true) (hy : m[j]? = some y) (e : x.t = y.t)
    (h : J .any (H.set i (mdO bs c (m.set j x)))) : aMapUp2 P (some (mdO bs c m)) i kt (.c (.int .i64 x.t)) (.agg [.int .i64 x.t, .int .i64 x.v, .int .i64 x.q]) H J := by
  refine ⟨hk, ?_⟩
  have hp := put_of (P := P) (e := eS) (p := fun y : Smp => decide (x.t = y.t)) (x := x) (l := m) ht (findA_S P kt x.t m) rfl
  have hp2 : mapPut P kt (.c (.int .i64 x.t)) (.agg [.int .i64 x.t, .int .i64 x.v, .int .i64 x.q]) (m.map eS) = some ((putS x m).map eS) := hp
  rw [hp2, put_set ok.keys hy e]
  refine ⟨by omega, ?_⟩
  have e1 : bornsOf bs (c + 1) ((m.set j x).map eS).length = bs := by unfold bornsOf; rw [if_pos (by simp [ok.len])]
  have e2 : clockOf bs (c + 1) ((m.set j x).map eS).length = c + 1 := by unfold clockOf; rw [if_pos (by simp [ok.len])]
  rw [e1, e2]
  exact h
theorem md_okN {bs : List Nat} {c n : Nat} {m : List Smp} : (mdO bs c m).okN n := by
  intro p hp
  obtain ⟨x, _, rfl⟩ := List.mem_map.1 hp
  exact ⟨trivial, by intro y hy; simp only [encS, List.mem_cons, List.not_mem_nil, or_false] at hy; rcases hy with rfl | rfl | rfl <;> trivial⟩
theorem it_okN {c i n : Nat} {seen : List Nat} (h : i < n) : (itO c i seen).okN n := by
  intro p hp
  simp only [List.mem_singleton] at hp
  subst hp
  exact ⟨h, trivial⟩
theorem wk_it {A L : Hp} {o : AObj} {c i n : Nat} {seen : List Nat} (hA : HOk A) (hn : n ≤ A.length + 2) (hi : i < A.length) (ho : o.okN (A.length + 2)) : WkL n [] (A ++ o :: itO c i seen :: L) [] (A ++ [o, itO c i seen]) := by
  refine WkL.keepL hA rfl hn rfl (fun q hq => ?_) (by simp)
  simp only [List.mem_cons, List.not_mem_nil, or_false] at hq
  rcases hq with rfl | rfl
  · exact ho
  · exact it_okN (by simp; omega)
@[go_sem] theorem mapK_iS : mapK Tryz.prog 127 = some 3 := (by kernel_rfl)
theorem mark_a (i : Nat) (bs : List Nat) (c : Nat) (m : List Smp) (f : Fix) (ok : MdOk bs c m) (hi : H[i]? = some (mdO bs c m)) (hk : K (.tup []) (H.set i (mdO bs c (m.map (mkF f))))) : ACalls Tryz.prog 132 [.c (.map (some i)), .agg (encF f)] H K := by
  have hil := getElem?_lt hi
  refine acalls Tryz.func132 rfl (by kernel_rfl) (by simp (disch := first | omega | (simp only [go_sem]; first | done | omega)) only [go_sem]) (fun hH => ?_)
  simp (disch := first | omega | (simp only [go_sem]; first | done | omega)) only [go_sem, hi]
  refine AWp.loop (H.length + 2) [0, 3, 7] [] (fun (seen : List Nat) => seen.Nodup ∧ ∀ b ∈ seen, b ∈ bs) (fun (seen : List Nat) => []) (fun (seen : List Nat) => H.set i (mdO bs c (mzF f bs m seen)) ++ [.row 67 11 [encF f] true, itO c i seen]) (fun (seen : List Nat) => bs.length - seen.length) (by kernel_rfl) (fun _ => rfl) (by kernel_rfl) (by first | (simp; done) | omega) (by first | (simp; done) | (simp; omega) | omega) (by (try simp only [List.forall_mem_cons, List.not_mem_nil, false_implies, implies_true, and_true]); (try simp (disch := first | omega | (simp only [go_sem]; first | done | omega)) only [go_sem]); all_goals first | trivial | (simp [AV.ok, AV.ok1, AC.ok]; done) | (simp [AV.ok, AV.ok1, AC.ok]; omega) | (simp [AV.ok, AV.ok1, AC.ok]; assumption) | ((repeat' apply And.intro) <;> first | trivial | (simp [AV.ok, AV.ok1, AC.ok]; done) | (simp [AV.ok, AV.ok1, AC.ok]; omega) | (simp [AV.ok, AV.ok1, AC.ok]; assumption) | (refine grV_ok ?_ _; first | (simp; done) | (simp; omega) | omega))) ?_ (fun seen hs _ _ => ?_)
  · refine Next.mk [] ⟨by simp, by simp⟩ ?_
    rw [mz_nil f ok.len, set_same hi]
    (try simp (disch := first | omega | (simp only [go_sem]; first | done | omega)) only [go_sem]); (first | refine WkL.eq ?_ ?_ | refine WkL.rest (by assumption) ?_ ?_ ?_ | refine WkL.keepL (by assumption) rfl ?_ ?_ ?_ ?_) <;> first | rfl | (simp; done) | (simp; omega) | (simp only [List.cons.injEq, AV.c.injEq, AC.int.injEq, AC.bool.injEq, AC.str.injEq, and_true, true_and, Int.natCast_add, Int.natCast_one, Int.cast_ofNat_Int]; omega) | (simp [AV.ok, AV.ok1, AC.ok]; done) | (simp [AV.ok, AV.ok1, AC.ok]; omega) | (simp only [List.forall_mem_cons, List.not_mem_nil, false_implies, implies_true, and_true]; (repeat' apply And.intro) <;> first | exact okN_map (fun x => by simp [go_sem, AC.pure]) | exact okN_grO (fun x => by simp [go_sem, AC.pure]) | (simp [AObj.okN, AC.ok]; done) | (simp [AObj.okN, AC.ok]; omega)) | (simp [*]; done) | grind
  obtain ⟨s1, s2⟩ := hs
  have okz := mz_ok f ok seen
  simp (disch := first | omega | (simp only [go_sem]; first | done | omega)) only [go_sem]
  refine next_md okz (fun hall => ?_) (fun j b x hb hx hs => ?_)
  · rw [mz_all f ok.len hall]
    simp (disch := first | omega | (simp only [go_sem]; first | done | omega)) only [go_sem]
    exact Ret.drop (HOk.set hH md_okN) (by simp) (by simp [AV.ok, AV.ok1, AC.ok]) hk
  · have hx0 : m[j]? = some x := by
      have hj := getElem?_lt hx
      rw [mz_len f ok.len] at hj
      have h1 := mz_at f (seen := seen) hb (List.getElem?_eq_getElem hj)
      rw [if_neg hs, hx] at h1
      rw [List.getElem?_eq_getElem hj]
      exact h1.symm
    simp (disch := first | omega | (simp only [go_sem]; first | done | omega)) only [go_sem]
    refine entry_md okz hb hx ?_
    have hlt : bs.length - (seen ++ [b]).length < bs.length - seen.length := by
      have h1 : (seen ++ [b]).length ≤ bs.length := nd_le (by rw [List.nodup_append]; exact ⟨s1, by simp, fun a ha b' hb' e => by simp only [List.mem_singleton] at hb'; subst hb'; subst e; exact hs ha⟩) (by intro a ha; rcases List.mem_append.1 ha with h | h; exact s2 a h; simp only [List.mem_singleton] at h; subst h; exact List.mem_of_getElem? hb)
      rw [List.length_append, List.length_singleton] at h1 ⊢
      omega
    have hnx : (seen ++ [b]).Nodup ∧ ∀ b' ∈ seen ++ [b], b' ∈ bs := ⟨by rw [List.nodup_append]; exact ⟨s1, by simp, fun a ha b' hb' e => by simp only [List.mem_singleton] at hb'; subst hb'; subst e; exact hs ha⟩, fun a ha => by rcases List.mem_append.1 ha with h | h; exact s2 a h; simp only [List.mem_singleton] at h; subst h; exact List.mem_of_getElem? hb⟩
    have hmz := mz_step f (seen := seen) ok.len ok.nd hb hx0
    by_cases hc : (f.w1 ≤ x.t ∧ x.t < f.w2) ∧ x.q ≠ 2
    · have hm : mkF f x = ⟨x.t, if f.q = 2 then 0 else x.v, f.q⟩ := by unfold mkF; rw [if_pos hc]
      obtain ⟨hc1, hc2⟩ := hc
      simp (disch := first | omega | (simp only [go_sem]; first | done | omega)) only [go_sem]
      refine inW2_a _ _ _ ?_
      by_cases hq : f.q = 2
      · rw [if_pos hq] at hm
        simp (disch := first | omega | (simp only [go_sem]; first | done | omega)) only [go_sem, hc1, hc2, hq]
        refine mup_set (x := ⟨x.t, 0, 2⟩) okz (by kernel_rfl) (by kernel_rfl) hx rfl ?_
        simp (disch := first | omega | (simp only [go_sem]; first | done | omega)) only [go_sem]
        refine Next.mk (seen ++ [b]) ⟨hnx, hlt⟩ ?_
        rw [hmz, hm, hq]
        exact wk_it (HOk.set hH md_okN) (by simp) (by simpa using hil) (by simp [AObj.okN, AC.ok])
      · rw [if_neg hq] at hm
        simp (disch := first | omega | (simp only [go_sem]; first | done | omega)) only [go_sem, hc1, hc2, hq]
        refine mup_set (x := ⟨x.t, x.v, f.q⟩) okz (by kernel_rfl) (by kernel_rfl) hx rfl ?_
        simp (disch := first | omega | (simp only [go_sem]; first | done | omega)) only [go_sem]
        refine Next.mk (seen ++ [b]) ⟨hnx, hlt⟩ ?_
        rw [hmz, hm]
        exact wk_it (HOk.set hH md_okN) (by simp) (by simpa using hil) (by simp [AObj.okN, AC.ok])
    · have hm : mkF f x = x := by unfold mkF; rw [if_neg hc]
      have hms : mzF f bs m (seen ++ [b]) = mzF f bs m seen := by rw [hmz, hm]; exact set_self hx
      simp (disch := first | omega | (simp only [go_sem]; first | done | omega)) only [go_sem]
      refine inW2_a _ _ _ ?_
      by_cases hc1 : f.w1 ≤ x.t ∧ x.t < f.w2
      · have hc2 : x.q = 2 := Classical.byContradiction fun h => hc ⟨hc1, h⟩
        simp (disch := first | omega | (simp only [go_sem]; first | done | omega)) only [go_sem, hc1, hc2]
        refine Next.mk (seen ++ [b]) ⟨hnx, hlt⟩ ?_
        rw [hms]
        exact wk_it (HOk.set hH md_okN) (by simp) (by simpa using hil) (by simp [AObj.okN, AC.ok])
      · simp (disch := first | omega | (simp only [go_sem]; first | done | omega)) only [go_sem, hc1]
        refine Next.mk (seen ++ [b]) ⟨hnx, hlt⟩ ?_
        rw [hms]
        exact wk_it (HOk.set hH md_okN) (by simp) (by simpa using hil) (by simp [AObj.okN, AC.ok])
end Go.Proofs.YtgcjenfdndhhpaaGreatDoor
