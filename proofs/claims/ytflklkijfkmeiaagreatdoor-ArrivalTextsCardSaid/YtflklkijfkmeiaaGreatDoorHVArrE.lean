/- Several texts in one: The nodes of arrivals, sorted, each once: the document's answer, and what follows. No condition. -/
import Derived.Test.YtflklkijfkmeiaaGreatDoorHVGM
import Derived.Test.YtflklkijfkmeiaaGreatDoorHVCpt
import Derived.Test.YtflklkijfkmeiaaGreatDoorHVAnswerR
/- The nodes of arrivals, sorted, each once: the document's answer. No condition. -/
namespace Go.Proofs.YtflklkijfkmeiaaGreatDoor
open Go Go.RowKit
set_option maxRecDepth 100000
set_option linter.all false
set_option maxHeartbeats 1000000
variable {H : Hp} {K : AV → Hp → Prop}
theorem insNilS_a (hk : K (.tup []) H) : ACalls Tryz.prog 242 [.c (.sl none 0), (.c (.int .i64 0)), (.c (.int .i64 0))] H K := by
  refine acalls Tryz.func242 rfl (by kernel_rfl) (by simp (disch := first | omega | (simp only [go_sem]; first | done | omega)) only [go_sem]) (fun hH => ?_)
  simp (disch := first | omega | (simp only [go_sem]; first | done | omega)) only [go_sem]
  refine AWp.loop (H.length) [0, 1, 2] [6] (fun (q : Unit) => True) (fun (q : Unit) => [(6, (.c (.int .i64 1)))]) (fun (q : Unit) => H) (fun (q : Unit) => 0) (by kernel_rfl) (fun _ => rfl) (by kernel_rfl) (by first | (simp; done) | omega) (by first | (simp; done) | (simp; omega) | omega) kl ?_ (fun q hq _ _ => ?_)
  · exact Next.mk () trivial wk
  simp (disch := first | omega | (simp only [go_sem]; first | done | omega)) only [go_sem]
  exact Ret.same (Nat.le_refl _) hk
theorem pdqNilS_a {l : Nat} (hk : K (.tup []) H) : ACalls Tryz.prog 199 [.c (.sl none 0), (.c (.int .i64 0)), (.c (.int .i64 0)), (.c (.int .i64 l))] H K := by
  refine acallsS Tryz.func199 rfl (by simp (disch := first | omega | (simp only [go_sem]; first | done | omega)) only [go_sem]) (fun hH => ?_)
  (refine SWp.go (by kernel_rfl) ?_; simp (disch := first | omega | (simp only [go_sem]; first | done | omega)) only [go_sem])
  (refine SWp.go (by kernel_rfl) ?_; simp (disch := first | omega | (simp only [go_sem]; first | done | omega)) only [go_sem])
  refine SWp.inB ?_
  refine SWp.loop (H.length) [0] [1, 2, 3, 8, 9] (fun (s : Unit) => True) (fun (s : Unit) => [(1, (.c (.int .i64 0))), (2, (.c (.int .i64 0))), (3, (.c (.int .i64 l))), (8, (.c (.bool true))), (9, (.c (.bool true)))]) (fun (s : Unit) => H) (fun (s : Unit) => 0) (fun _ => rfl) (by kernel_rfl) (by first | (simp; done) | omega) (by first | (simp; done) | (simp; omega) | omega) kl ?_ (fun s _ _ _ => ?_)
  · exact Next.mk () trivial wk
  refine SWp.inB ?_
  refine SWp.of (by kernel_rfl) ?_
  simp (disch := first | omega | (simp only [go_sem]; first | done | omega)) only [go_sem]
  refine insNilS_a ?_
  simp (disch := first | omega | (simp only [go_sem]; first | done | omega)) only [go_sem]
  exact Ret.same (by simp) hk
theorem sortNilS_a (hk : K (.tup []) H) : ACalls Tryz.prog 132 [.c (.sl none 0)] H K := by
  refine acalls Tryz.func132 rfl (by kernel_rfl) (by simp (disch := first | omega | (simp only [go_sem]; first | done | omega)) only [go_sem]) (fun hH => ?_)
  simp (disch := first | omega | (simp only [go_sem]; first | done | omega)) only [go_sem]
  have hw : IntKind.u64.wrap (0 : Int) = (0 : Int) := by decide
  try rw [hw]
  refine len0_a ?_
  simp (disch := first | omega | (simp only [go_sem]; first | done | omega)) only [go_sem]
  refine pdqNilS_a (l := 0) ?_
  simp (disch := first | omega | (simp only [go_sem]; first | done | omega)) only [go_sem]
  exact Ret.same (Nat.le_refl _) hk
theorem sortVS_a (l : List ByteArray) {i : Nat} (hi : H[i]? = some (grO 9 1 (l.map encSs))) (hlen : l.length ≤ 1000000) (hk : K (.tup []) (H.set i (grO 9 1 ((srtS l).map encSs)))) : ACalls Tryz.prog 132 [.c (grV i l)] H K := by
  by_cases h0 : l = []
  · subst h0
    have e : srtS [] = [] := List.length_eq_zero_iff.1 (by rw [srtS_len]; rfl)
    rw [e, List.map_nil] at hk
    rw [List.map_nil] at hi
    rw [set_same hi] at hk
    exact sortNilS_a hk
  · have h1 : srtS l ≠ [] := by intro h; have := srtS_len l; rw [h] at this; exact h0 (List.length_eq_zero_iff.1 this.symm)
    rw [grO_pos _ _ (by simpa using h0)] at hi
    rw [grO_pos _ _ (by simpa using h1)] at hk
    rw [grV_pos _ h0]
    exact sortS_a l hi rfl h0 hlen hk
theorem compactNilS_a (hk : K (.c (.lst 1 [])) H) : ACalls Tryz.prog 133 [.c (.sl none 0)] H K := by
  refine acalls Tryz.func133 rfl (by kernel_rfl) (by simp (disch := first | omega | (simp only [go_sem]; first | done | omega)) only [go_sem]) (fun hH => ?_)
  simp (disch := first | omega | (simp only [go_sem]; first | done | omega)) only [go_sem]
  refine Ret.nil [1] (Nat.le_refl _) ?_
  exact Ret.same (Nat.le_refl _) hk
theorem compactVS_a (l : List ByteArray) {i : Nat} (hi : H[i]? = some (grO 9 1 (l.map encSs))) (hlen : l.length ≤ 1000000)
    (hk : K (.c (.lst 1 ((cplF l).map encSs))) (H.set i .dead)) : ACalls Tryz.prog 133 [.c (grV i l)] H K := by
  by_cases h : l = []
  · subst h
    have hi2 : H[i]? = some AObj.dead := hi
    rw [set_same hi2] at hk
    exact compactNilS_a hk
  · have h2 : l.map encSs ≠ [] := by simpa using h
    rw [grO_pos _ _ h2] at hi
    rw [grV_pos _ h]
    exact compactSt_a l hi rfl hlen hk
theorem appS {i q ty : Nat} {own : Bool} {J : AV → Hp → Prop} (l : List ByteArray) (x : ByteArray) (l2 : List ByteArray) (e : l2 = l ++ [x]) (hi : H[i]? = some (grO 9 1 (l.map encSs))) (hj : H[q]? = some (.row ty 1 [[.str x]] own)) (hb : l.length ≤ 1000000000)
    (h : J (.c (grV H.length l2)) (H.set i .dead ++ [grO 9 1 (l2.map encSs)])) : aBuiltin Tryz.prog .append #[70, 70] [.c (grV i l), .c (.sl (some (q, 0)) 1)] H J := by
  subst e
  exact app_grR (enc := encSs) (e := 9) (sz := 1) (bs := 16) (z := [.str .empty]) l [x] (by kernel_rfl) (by kernel_rfl) (by kernel_rfl) (by kernel_rfl) hi (by rw [hj]; rfl) (by simp) rfl (by decide) (by simp; omega) (by simp; omega) h
def nodesG (l : List Arr) : List ByteArray := cplF (srtS (l.map fun x => x.nd))
theorem nodesOf_a (l : List Arr) (hl : l.length ≤ 1000000) (hk : K (.c (.lst 1 ((nodesG l).map encSs))) H) : ACalls Tryz.prog 94 [.c (.lst 7 (l.map encAr))] H K := by
  refine acalls Tryz.func94 rfl (by kernel_rfl) (by simp (disch := first | omega | (simp only [go_sem]; first | done | omega)) only [go_sem]) (fun hH => ?_)
  simp (disch := first | omega | (simp only [go_sem]; first | done | omega)) only [go_sem]
  refine AWp.loop (H.length) [6, 7] [8, 3] (fun (k : Nat) => k ≤ l.length) (fun (k : Nat) => [(8, (.c (.int .i64 k))), (3, .c (grV H.length ((l.take k).map fun x => x.nd)))]) (fun (k : Nat) => H ++ [grO 9 1 (((l.take k).map fun x => x.nd).map encSs)]) (fun (k : Nat) => l.length - k) (by kernel_rfl) (fun _ => rfl) (by kernel_rfl) (by first | (simp; done) | omega) (by first | (simp; done) | (simp; omega) | omega) kl ?_ (fun k q1 _ _ => ?_)
  · refine Next.mk 0 (Nat.zero_le _) ?_
    exact WkL.pad (by omega)
  by_cases hlt : k < l.length
  · obtain ⟨x, hx⟩ : ∃ x, x = l[k] := ⟨_, rfl⟩
    have hnx : (l.take (k + 1)).map (fun x => x.nd) = (l.take k).map (fun x => x.nd) ++ [x.nd] := by rw [List.take_succ_eq_append_getElem hlt, ← hx, List.map_append]; rfl
    have hln : ((l.take k).map (fun x => x.nd)).length ≤ k := by simp; omega
    generalize (l.take k).map (fun x => x.nd) = ns at *
    obtain ⟨n2, hn2⟩ : ∃ n2, n2 = ns ++ [x.nd] := ⟨_, rfl⟩
    rw [← hn2] at hnx
    simp (disch := first | omega | (simp only [go_sem]; first | done | omega)) only [go_sem, hlt, ← hx]
    refine appS ns x.nd n2 hn2 (by first | ((repeat first | exact at0 (by simp) | refine atS ?_); done) | assumption) (by first | ((repeat first | exact at0 (by simp) | refine atS ?_); done) | assumption) (by omega) ?_
    simp (disch := first | omega | (simp only [go_sem]; first | done | omega)) only [go_sem]
    refine Next.mk (k + 1) ⟨by omega, by omega⟩ ?_
    rw [hnx]
    exact ow
  · rw [List.take_of_length_le (by omega)]
    obtain ⟨ns, hns⟩ : ∃ ns, ns = l.map (fun x => x.nd) := ⟨_, rfl⟩
    have hln : ns.length = l.length := by rw [hns, List.length_map]
    unfold nodesG at hk
    rw [← hns] at hk ⊢
    simp (disch := first | omega | (simp only [go_sem]; first | done | omega)) only [go_sem, hlt]
    refine sortVS_a ns (by first | ((repeat first | exact at0 (by simp) | refine atS ?_); done) | assumption) (by omega) ?_
    have hvl : grV H.length ns = grV H.length (srtS ns) := by
      have hSl := srtS_len ns
      cases ns with
      | nil => rw [List.length_eq_zero_iff.1 hSl]
      | cons x t => rw [grV_pos _ (by simp), grV_pos _ (by intro h; rw [h] at hSl; simp at hSl), hSl]
    simp (disch := first | omega | (simp only [go_sem]; first | done | omega)) only [go_sem]
    rw [hvl]
    refine compactVS_a (srtS ns) (by first | ((repeat first | exact at0 (by simp) | refine atS ?_); done) | assumption) (by rw [srtS_len]; omega) ?_
    simp (disch := first | omega | (simp only [go_sem]; first | done | omega)) only [go_sem]
    exact Ret.drop hH (Nat.le_refl _) (by simp [AV.ok, AV.ok1, AC.ok]) hk
end Go.Proofs.YtflklkijfkmeiaaGreatDoor
/- The nodes of arrivals: as many whichever way they are counted. No program in sight. -/
namespace Go.Proofs.YtflklkijfkmeiaaGreatDoor
open Go Go.RowKit
set_option maxRecDepth 100000
set_option linter.all false
set_option maxHeartbeats 1000000
theorem cplG_mem {α : Type} [DecidableEq α] {x : α} : ∀ {t : List α} {p : α}, x ∈ p :: cplG p t ↔ x ∈ p :: t
  | [], p => by simp [cplG]
  | y :: t, p => by
    have ih := cplG_mem (x := x) (t := t) (p := y)
    unfold cplG
    by_cases h : y = p
    · subst h
      simp only [if_true, List.nil_append]
      rw [ih]
      simp
    · rw [if_neg h, List.singleton_append, List.mem_cons, ih, List.mem_cons (a := x) (b := p)]
theorem cplF_mem {α : Type} [DecidableEq α] {x : α} {l : List α} : x ∈ cplF l ↔ x ∈ l := by
  cases l with
  | nil => exact Iff.rfl
  | cons p t => exact cplG_mem
theorem cplG_lt {α : Type} [DecidableEq α] {r : α → α → Prop} (ha : ∀ a b, r a b → r b a → a = b) : ∀ {t : List α} {p : α}, (p :: t).Pairwise r → (p :: cplG p t).Pairwise (fun a b => r a b ∧ a ≠ b)
  | [], p, _ => by simp [cplG]
  | y :: t, p, h => by
    have h1 := List.pairwise_cons.1 h
    have ih := cplG_lt ha h1.2
    unfold cplG
    by_cases hy : y = p
    · subst hy
      simpa using ih
    · rw [if_neg hy, List.singleton_append]
      refine List.pairwise_cons.2 ⟨fun z hz => ?_, ih⟩
      have hz := cplG_mem.1 hz
      refine ⟨h1.1 z hz, fun e => ?_⟩
      subst e
      rcases List.mem_cons.1 hz with e | e
      · exact hy e.symm
      · exact hy (ha _ _ ((List.pairwise_cons.1 h1.2).1 _ e) (h1.1 y (List.mem_cons_self)))
theorem cplF_lt {α : Type} [DecidableEq α] {r : α → α → Prop} (ha : ∀ a b, r a b → r b a → a = b) {l : List α} (h : l.Pairwise r) : (cplF l).Pairwise (fun a b => r a b ∧ a ≠ b) := by
  cases l with
  | nil => exact List.Pairwise.nil
  | cons p t => exact cplG_lt ha h
def leBy (a b : ByteArray) : Prop := toL a ≤ toL b
theorem leBy_anti (a b : ByteArray) (h1 : leBy a b) (h2 : leBy b a) : a = b := by
  have := List.le_antisymm h1 h2
  rw [← ofL_toL a, this, ofL_toL]
theorem srtS_sorted (l : List ByteArray) : (srtS l).Pairwise leBy := by
  have h := List.pairwise_mergeSort (le := fun x y : List UInt8 => decide (x ≤ y)) (by intro a b c h1 h2; simp at h1 h2 ⊢; exact List.le_trans h1 h2) (by intro a b; simp; exact List.le_total a b) (l.map toL)
  rw [← srtS_toL, List.pairwise_map] at h
  exact h.imp (fun h => by simpa [leBy] using h)
theorem srtS_mem {l : List ByteArray} {x : ByteArray} : x ∈ srtS l ↔ x ∈ l := by
  have h : toL x ∈ (srtS l).map toL ↔ toL x ∈ l.map toL := by rw [srtS_toL]; exact (List.mergeSort_perm _ _).mem_iff
  have hi : ∀ a b : ByteArray, toL a = toL b → a = b := fun a b h => by rw [← ofL_toL a, h, ofL_toL]
  have e : ∀ m : List ByteArray, toL x ∈ m.map toL ↔ x ∈ m := fun m => ⟨fun h => by obtain ⟨y, hy, e⟩ := List.mem_map.1 h; rw [← hi _ _ e]; exact hy, fun h => List.mem_map.2 ⟨x, h, rfl⟩⟩
  rw [e, e] at h
  exact h
theorem addN_mem {l : List ByteArray} {n x : ByteArray} : x ∈ addN l n ↔ x ∈ l ∨ x = n := by
  unfold addN
  split
  · rename_i h
    obtain ⟨m, hm, e⟩ := List.any_eq_true.1 h
    have e := of_decide_eq_true e
    subst e
    exact ⟨Or.inl, fun h => h.elim id (fun e => e ▸ hm)⟩
  · simp
theorem addN_nodup {l : List ByteArray} {n : ByteArray} (h : l.Nodup) : (addN l n).Nodup := by
  unfold addN
  split
  · exact h
  · rename_i hn
    refine List.nodup_append.2 ⟨h, by simp, ?_⟩
    intro a ha b hb e
    simp at hb
    subst hb; subst e
    exact hn (List.any_eq_true.2 ⟨a, ha, by simp⟩)
theorem nodesF_prop (l : List Arr) : (nodesF l).Nodup ∧ ∀ x, x ∈ nodesF l ↔ x ∈ l.map fun a => a.nd := by
  have key : ∀ (l : List Arr) (s : List ByteArray), s.Nodup → (l.foldl (fun s x => addN s x.nd) s).Nodup ∧ ∀ x, x ∈ l.foldl (fun s x => addN s x.nd) s ↔ x ∈ s ∨ x ∈ l.map fun a => a.nd := by
    intro l
    induction l with
    | nil => intro s h; exact ⟨h, fun x => by simp⟩
    | cons a t ih =>
      intro s h
      obtain ⟨h1, h2⟩ := ih (addN s a.nd) (addN_nodup h)
      refine ⟨h1, fun x => ?_⟩
      rw [List.foldl_cons, h2, addN_mem, List.map_cons, List.mem_cons, or_assoc]
  obtain ⟨h1, h2⟩ := key l [] List.nodup_nil
  exact ⟨h1, fun x => by rw [show nodesF l = l.foldl (fun s x => addN s x.nd) [] from rfl, h2]; simp⟩
theorem nodes_len (l : List Arr) : (nodesG l).length = (nodesF l).length := by
  obtain ⟨h1, h2⟩ := nodesF_prop l
  have h3 : (nodesG l).Nodup := (cplF_lt leBy_anti (srtS_sorted _)).imp fun h => h.2
  have h4 : ∀ x, x ∈ nodesG l ↔ x ∈ l.map fun a => a.nd := fun x => by unfold nodesG; rw [cplF_mem, srtS_mem]
  exact ((List.perm_ext_iff_of_nodup h3 h1).2 fun x => by rw [h4, h2]).length_eq
end Go.Proofs.YtflklkijfkmeiaaGreatDoor
