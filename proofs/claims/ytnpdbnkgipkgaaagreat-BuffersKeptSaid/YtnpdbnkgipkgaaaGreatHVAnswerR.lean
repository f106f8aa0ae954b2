/- The coarsest level that answers a query: the document's answer. Condition: few holds, numbers as those of levels. -/
import Derived.Test.YtnpdbnkgipkgaaaGreatHVEndsR
import Derived.Test.YtnpdbnkgipkgaaaGreatHVBack
namespace Go.Proofs.YtnpdbnkgipkgaaaGreat
open Go Go.RowKit
set_option maxRecDepth 100000
set_option linter.all false
set_option maxHeartbeats 2000000
variable {H : Hp} {K : AV → Hp → Prop}
/-- a row gets a name of its own anew -/
theorem WkL.moveL {H : Hp} {m i ty sz : Nat} {els : List (List AC)} {own : Bool} {vs vs' : List AV} (hi : H[i]? = some (.row ty sz els own)) (hp : pureL els = true) (hm : m ≤ H.length) (hH : HOk H) (hv : vs = vs'.map (AV.ren (fun j => if j = H.length then i else j))) (ho : ∀ x ∈ vs', x.ok (H.length + 1)) :
    WkL m vs H vs' (H.set i .dead ++ [.row ty sz els own]) := by
  have hlt := getElem?_lt hi
  have hlo : ∀ j, j < H.length → (fun j => if j = H.length then i else j) j = j := fun j hj => by simp; omega
  have hlen : (H.set i .dead ++ [AObj.row ty sz els own]).length = H.length + 1 := by simp
  have hok : HOk (H.set i .dead ++ [.row ty sz els own]) := HOk.app (HOk.set hH (o := .dead) trivial) (fun e he => ⟨(hH i _ hi e he).1, fun x hx => AC.ok_of_pure (List.all_eq_true.1 (List.all_eq_true.1 hp e he) x hx) _⟩)
  refine WkL.renL (fun j => if j = H.length then i else j) (fun j hj => hlo j (by omega)) (by omega) (fun j o hj hl => ?_) (fun j k o o' hj hl hk hl' e => ?_) hv (by intro x hx; rw [hlen]; exact ho x hx) hok
  · rcases Nat.lt_or_ge j H.length with h | h
    · rw [List.getElem?_append_left (by simpa using h)] at hj
      rw [if_neg (show ¬j = H.length by omega)]
      by_cases e : i = j
      · subst e; rw [List.getElem?_set_self hlt] at hj; injection hj with hj; subst hj; cases hl
      · rw [List.getElem?_set_ne e] at hj
        rw [AObj.ren_id (n := H.length) hlo (hH j o hj), hj]
    · obtain rfl : j = H.length := by have := getElem?_lt hj; omega
      rw [List.getElem?_append_right (by simp)] at hj
      simp at hj
      subst hj
      simp only [if_true]
      rw [pureO_ren (by exact hp)]; exact hi
  · have live : ∀ (q : Nat) (o : AObj), (H.set i .dead ++ [AObj.row ty sz els own])[q]? = some o → o.live = true → q ≠ i := by
      rintro q o hq hl rfl
      rw [List.getElem?_append_left (by simpa using hlt), List.getElem?_set_self hlt] at hq
      injection hq with hq; subst hq; cases hl
    have a1 := live j o hj hl
    have a2 := live k o' hk hl'
    have b1 := getElem?_lt hj
    have b2 := getElem?_lt hk
    split at e <;> split at e <;> omega
theorem WkL.hok {m : Nat} {vs vs' : List AV} {H G : Hp} (h : HOk H → WkL m vs H vs' G) : WkL m vs H vs' G := fun B w0 ι w zs hs => h hs.hok B w0 ι w zs hs
theorem WkL.moveG {α : Type} {H : Hp} {m i ty sz : Nat} {l : List α} {els : List (List AC)} (us : List AV) (hi : H[i]? = some (grO ty sz els)) (hl : l.length = els.length) (hp : pureL els = true) (hm : m ≤ H.length + 1) (hm2 : m ≤ H.length) (hu : us.map (AV.ren (fun j => if j = H.length then i else j)) = us) (ho : ∀ x ∈ us, x.ok (H.length + 1)) {vs vs' : List AV} {G : Hp} (e1 : vs = us ++ [.c (grV i l)]) (e2 : us ++ [.c (grV H.length l)] = vs') (e3 : H.set i .dead ++ [grO ty sz els] = G) :
    WkL m vs H vs' G := by
  subst e1; subst e2; subst e3
  refine WkL.hok fun hH => ?_
  cases els with
  | nil =>
    have h0 : l = [] := List.length_eq_zero_iff.1 hl
    subst h0
    rw [set_same (o := .dead) hi]
    exact WkL.pad hm2
  | cons y ys =>
    have h0 : l ≠ [] := by rintro rfl; simp at hl
    rw [grV_pos _ h0, grV_pos _ h0]
    refine WkL.moveL hi hp hm2 hH ?_ ?_
    · rw [List.map_append, hu]
      simp [AV.ren, AV.ren1, AC.ren]
    · intro x hx
      rcases List.mem_append.1 hx with hx | hx
      · exact ho x hx
      · simp at hx; subst hx; simp [AV.ok, AV.ok1, AC.ok]
/-- the moments, hold by hold -/
def moK (n : Int) (w : Win) (l : List Hold) : List Int := [w.a, w.b - 1] ++ l.flatMap (momsH n w)
theorem moK_next (n : Int) (w : Win) {h : List Hold} {k : Nat} (hk : k < h.length) : moK n w (h.take (k + 1)) = moK n w (h.take k) ++ momsH n w h[k] := by
  unfold moK
  rw [List.take_succ_eq_append_getElem hk, List.flatMap_append]
  simp
theorem moK_len (n : Int) (w : Win) (l : List Hold) : (moK n w l).length ≤ 2 + 6 * l.length := by
  unfold moK
  rw [List.length_append]
  have key : ∀ l : List Hold, (l.flatMap (momsH n w)).length ≤ 6 * l.length := by
    intro l
    induction l with
    | nil => simp
    | cons y l ih =>
      rw [List.flatMap_cons, List.length_append, List.length_cons]
      have : (momsH n w y).length ≤ 6 := List.length_filter_le _ _
      omega
  have := key l
  simp only [List.length_cons, List.length_nil]
  omega
theorem take_filter {α : Type} (p : α → Bool) {l : List α} {j : Nat} (h : j < l.length) : (l.take (j + 1)).filter p = (l.take j).filter p ++ (if p l[j] = true then [l[j]] else []) := by
  rw [List.take_succ_eq_append_getElem h, List.filter_append]
  congr 1
  by_cases c : p l[j] = true <;> simp [c]
def okR (h : List Hold) (tag : ByteArray) (w : Win) (step t : Int) (x : Level) : Bool := fitsL x w step && !(momsR x h w t).any (fun m => !keepRB x h tag m t)
end Go.Proofs.YtnpdbnkgipkgaaaGreat
