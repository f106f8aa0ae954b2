/- Ends of calls that turn an object of the caller's which holds names of new ones. No condition. -/
import Derived.Test.YtnodfnjmhcjnfaaGreatDoorHVGA
namespace Go.Proofs.YtnodfnjmhcjnfaaGreatDoor
open Go Go.RowKit
set_option maxRecDepth 100000
set_option linter.all false
theorem WkL.pickC {B G L : Hp} {m c : Nat} {o o' : AObj} {vs vs' : List AV} (ids : List Nat) (hB : HOk B) (hm : m ≤ B.length) (hc : c < B.length) (hoo : o = o'.ren (pickS B.length ids)) (ho' : o'.okN (B.length + L.length))
    (hL : ids.map (fun j => G[j]?) = L.map (fun o => some (o.ren (pickS B.length ids)))) (hd : ids.Nodup) (hok : ∀ o ∈ L, o.okN (B.length + L.length)) (hv : vs = vs'.map (AV.ren (pickS B.length ids))) (hov : ∀ x ∈ vs', x.ok (B.length + L.length)) :
    WkL m vs (B.set c o ++ G) vs' (B.set c o' ++ L) := by
  have hlen : ids.length = L.length := by have := congrArg List.length hL; simpa using this
  have hget : ∀ (j : Nat) (o : AObj), L[j]? = some o → ∃ q, ids[j]? = some q ∧ G[q]? = some (o.ren (pickS B.length ids)) := by
    intro j o hj
    have h1 : (L.map (fun o => some (o.ren (pickS B.length ids))))[j]? = some (some (o.ren (pickS B.length ids))) := by rw [List.getElem?_map, hj]; rfl
    rw [← hL, List.getElem?_map] at h1
    cases hq : ids[j]? with
    | none => rw [hq] at h1; cases h1
    | some q => rw [hq] at h1; exact ⟨q, rfl, by simpa using h1⟩
  have hlo : ∀ i, i < B.length → pickS B.length ids i = i := fun i hi => by simp [pickS, hi]
  have hl1 : (B.set c o).length = B.length := by simp
  have hl2 : (B.set c o').length = B.length := by simp
  intro B1 w0 ι w us hs hr hov2
  have hok' : HOk (B.set c o' ++ L) := by
    intro i q hi
    rw [List.length_append, hl2]
    rcases Nat.lt_or_ge i B.length with h | h
    · rw [List.getElem?_append_left (by omega)] at hi
      by_cases e : c = i
      · subst e
        rw [List.getElem?_set_self hc] at hi
        injection hi with hi; subst hi; exact ho'
      · rw [List.getElem?_set_ne e] at hi
        exact AObj.okN_mono (by omega) (hB i q hi)
    · rw [List.getElem?_append_right (by omega)] at hi
      exact hok q (List.mem_of_getElem? hi)
  refine WkL.ren (m := m) (pickS B.length ids) (fun i hi => hlo i (by omega)) (by rw [List.length_append]; omega) (fun i q hi hl => ?_) (fun i j hi hj hij => ?_) hv (by rw [List.length_append, hl2]; exact hov) hok' B1 w0 ι w us hs hr hov2
  · rcases Nat.lt_or_ge i B.length with h | h
    · rw [List.getElem?_append_left (by omega)] at hi
      rw [hlo i h, List.getElem?_append_left (by omega)]
      by_cases e : c = i
      · subst e
        rw [List.getElem?_set_self hc] at hi ⊢
        injection hi with hi; subst hi; rw [hoo]
      · rw [List.getElem?_set_ne e] at hi ⊢
        rw [AObj.ren_id (n := B.length) hlo (hB i q hi)]; exact hi
    · rw [List.getElem?_append_right (by omega), hl2] at hi
      obtain ⟨k, h1, h2⟩ := hget _ _ hi
      have : pickS B.length ids i = B.length + k := by
        unfold pickS
        rw [if_neg (by omega), List.getD_eq_getElem?_getD, h1]; rfl
      rw [this, List.getElem?_append_right (by omega), hl1]
      simpa using h2
  · rw [List.length_append, hl2] at hi hj
    have key : ∀ i, i < B.length + L.length → B.length ≤ i → ∃ q, ids[i - B.length]? = some q ∧ pickS B.length ids i = B.length + q := by
      intro i h1 h2
      have h3 : i - B.length < ids.length := by omega
      refine ⟨ids[i - B.length], List.getElem?_eq_getElem h3, ?_⟩
      unfold pickS
      rw [if_neg (by omega), List.getD_eq_getElem?_getD, List.getElem?_eq_getElem h3]; rfl
    rcases Nat.lt_or_ge i B.length with h1 | h1 <;> rcases Nat.lt_or_ge j B.length with h2 | h2
    · rw [hlo i h1, hlo j h2] at hij; exact hij
    · obtain ⟨q, g1, g2⟩ := key j hj h2
      rw [hlo i h1, g2] at hij; omega
    · obtain ⟨q, g1, g2⟩ := key i hi h1
      rw [hlo j h2, g2] at hij; omega
    · obtain ⟨q, g1, g2⟩ := key i hi h1
      obtain ⟨q2, g3, g4⟩ := key j hj h2
      rw [g2, g4] at hij
      obtain rfl : q = q2 := by omega
      have := (List.getElem?_inj (show i - B.length < ids.length by omega) hd).1 (g1.trans g3.symm)
      omega
theorem Ret.pickC {B G L : Hp} {K : AV → Hp → Prop} {n c : Nat} {o o' : AObj} {v v' : AV} (ids : List Nat) (hB : HOk B) (hn : n ≤ B.length) (hc : c < B.length) (hoo : o = o'.ren (pickS B.length ids)) (ho' : o'.okN (B.length + L.length))
    (hL : ids.map (fun j => G[j]?) = L.map (fun o => some (o.ren (pickS B.length ids)))) (hd : ids.Nodup) (hok : ∀ o ∈ L, o.okN (B.length + L.length)) (hv : v = v'.ren (pickS B.length ids)) (hov : v'.ok (B.length + L.length)) (hk : K v' (B.set c o' ++ L)) : Ret n v (B.set c o ++ G) K :=
  Ret.wk (WkL.pickC ids hB hn hc hoo ho' hL hd hok (by simp [hv]) (by simpa using hov)) hk
end Go.Proofs.YtnodfnjmhcjnfaaGreatDoor
