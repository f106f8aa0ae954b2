/- Several texts in one: Decode, and the reference's reader, and what follows. No condition. -/
import Derived.Test.YtnodfnjmhcjnfaaGreatDoorHVDecode
import Derived.Test.YtnodfnjmhcjnfaaGreatDoorHVChunks
import Derived.Test.YtnodfnjmhcjnfaaGreatDoorHVEncTop
import Derived.Test.YtnodfnjmhcjnfaaGreatDoorHVGA
/- Decode, and the reference's reader. Condition: the bytes fit. -/
namespace Go.Proofs.YtnodfnjmhcjnfaaGreatDoor
open Go Go.RowKit
set_option maxRecDepth 100000
set_option linter.all false
set_option maxHeartbeats 2000000
variable {H : Hp} {K : AV → Hp → Prop}
def decTop (l : List UInt8) (p : Int) : Blk × List Smp × Int := if 200000 < l.length then (blk0, [], 2) else if p < 0 ∨ l.length < p then (blk0, [], 1) else decRes l p.toNat
/-! ### the reference's reader -/
end Go.Proofs.YtnodfnjmhcjnfaaGreatDoor
/- A block, decoded: the reference. Condition: the bytes fit. -/
namespace Go.Proofs.YtnodfnjmhcjnfaaGreatDoor
open Go Go.RowKit
set_option maxRecDepth 100000
set_option linter.all false
set_option maxHeartbeats 4000000
variable {H : Hp} {K : AV → Hp → Prop}
theorem SWp.then {P : Program} {n N : Nat} {L : List Tmp} {x y : Code} {Q : AExit → Fr → Hp → Prop} {F : Fr} (h : SWp P n N L x (QS P n N L y Q) F H) : SWp P n N L (.seq x y) Q F H := SWp.seq h
end Go.Proofs.YtnodfnjmhcjnfaaGreatDoor
/- A file, parsed: the reference. Condition: the bytes fit. -/
namespace Go.Proofs.YtnodfnjmhcjnfaaGreatDoor
open Go Go.RowKit
set_option maxRecDepth 100000
set_option linter.all false
set_option maxHeartbeats 2000000
variable {H : Hp} {K : AV → Hp → Prop}
structure Pc where
  b : Blk
  ss : List Smp
def encPc (x : Pc) : List AC := [.int .i64 x.b.at_, .int .i64 x.b.long, .str x.b.tag, .int .i64 x.b.first, .int .i64 x.b.last, .int .i64 x.b.count, .bool x.b.over, .lst 3 (x.ss.map encS)]
attribute [go_sem] encPc
theorem pureL_Pc (l : List Pc) : pureL (l.map encPc) = true := by simp [pureL, encPc, AC.pure]
def lastO (ps : List Pc) (tag : ByteArray) : Int := ps.foldl (fun a x => if x.b.tag = tag ∧ x.b.over = false then x.b.last else a) (-1)
def foll (ps : List Pc) (b : Blk) : Bool := b.over || decide (lastO ps b.tag < b.first)
/-! ### decode's answers -/
theorem decRes_ok {l : List UInt8} {p : Nat} (hp : p ≤ l.length) (h : (decRes l p).2.2 = 0) : 2 ≤ (decRes l p).1.long ∧ (p : Int) + (decRes l p).1.long ≤ l.length := by
  unfold decRes at h ⊢
  split at h
  · cases h
  rename_i h1
  rw [if_neg h1]
  split at h
  · cases h
  rename_i h2
  rw [if_neg h2]
  split at h
  · cases h
  rename_i kind tag ss e hd
  split at h
  · cases h
  rename_i h3
  rw [if_neg h3]
  split at h
  · cases h
  rename_i h4
  rw [if_neg h4]
  split at h
  · rename_i h5; exact absurd h h5
  rename_i h5
  rw [if_neg h5]
  dsimp only
  have hd2 : p ≤ e ∧ e + 2 ≤ l.length := by
    unfold decP at hd
    split at hd
    · cases hd
    split at hd
    · cases hd
    rename_i n x hx
    split at hd
    · cases hd
    split at hd
    · cases hd
    rename_i m y hy
    split at hd
    · cases hd
    split at hd
    · cases hd
    rename_i ss' e' hs
    split at hd
    · cases hd
    rename_i h6
    simp only [Option.some.injEq, Prod.mk.injEq] at hd
    obtain ⟨_, _, _, rfl⟩ := hd
    have := (smps_len _ _ _ _ _ hs).2.1
    have := unvarint_le hx
    have := unvarint_le hy
    omega
  omega
theorem decTop_ok {l : List UInt8} {p : Nat} (h : (decTop l p).2.2 = 0) : 2 ≤ (decTop l p).1.long ∧ (p : Int) + (decTop l p).1.long ≤ l.length := by
  unfold decTop at h ⊢
  split at h
  · cases h
  rename_i h1
  rw [if_neg h1]
  split at h
  · cases h
  rename_i h2
  rw [if_neg h2]
  exact decRes_ok (by omega) h
def parF (l : List UInt8) : Nat → Nat → List Pc → List Pc × Nat × Int
  | 0, p, acc => (acc, p, 0)
  | f + 1, p, acc => if p < l.length then
      if (decTop l p).2.2 ≠ 0 then (acc, p, (decTop l p).2.2)
      else if foll acc (decTop l p).1 = false then (acc, p, 7)
      else parF l f (p + (decTop l p).1.long.toNat) (acc ++ [⟨(decTop l p).1, (decTop l p).2.1⟩])
    else (acc, p, 0)
def par (l : List UInt8) : List Pc × Nat × Int := if 200000 < l.length then ([], 0, 2) else parF l (l.length + 1) 0 []
end Go.Proofs.YtnodfnjmhcjnfaaGreatDoor
/- Append: the reference. Condition: the bytes and the samples fit. -/
namespace Go.Proofs.YtnodfnjmhcjnfaaGreatDoor
open Go Go.RowKit
set_option maxRecDepth 100000
set_option linter.all false
set_option maxHeartbeats 2000000
variable {H : Hp} {K : AV → Hp → Prop}
theorem parF_len (l : List UInt8) : ∀ (f p : Nat) (acc : List Pc), (parF l f p acc).1.length ≤ acc.length + (l.length - p)
  | 0, p, acc => by simp [parF]
  | f + 1, p, acc => by
    unfold parF
    split
    · split
      · dsimp only; omega
      · rename_i h0
        have h1 := decTop_ok (l := l) (p := p) (by simpa using h0)
        split
        · dsimp only; omega
        · have := parF_len l f (p + (decTop l p).1.long.toNat) (acc ++ [⟨(decTop l p).1, (decTop l p).2.1⟩])
          simp only [List.length_append, List.length_cons, List.length_nil] at this
          omega
    · dsimp only; omega
theorem par_len (l : List UInt8) : (par l).1.length ≤ l.length := by
  unfold par
  split
  · simp
  · have := parF_len l (l.length + 1) 0 []
    simpa using this
theorem par_small {l : List UInt8} (h : (par l).2.2 = 0) : l.length ≤ 200000 := by
  unfold par at h
  split at h
  · cases h
  · omega
def lateL (last : Int) (l : List Smp) : List Smp := l.filter fun x => decide (¬ last < x.t)
def normL (last : Int) (l : List Smp) : List Smp := l.filter fun x => decide (last < x.t)
def appB (file : List UInt8) (tag : ByteArray) (l : List Smp) : List UInt8 := file ++ (chB tag (lateL (lastO (par file).1 tag) l) true (List.range (nch (lateL (lastO (par file).1 tag) l))) ++ chB tag (normL (lastO (par file).1 tag) l) false (List.range (nch (normL (lastO (par file).1 tag) l))))
def appRes (file : List UInt8) (tag : ByteArray) (l : List Smp) : List UInt8 × Int :=
  if (par file).2.2 ≠ 0 then ([], (par file).2.2) else if ¬ isKey tag then ([], 5) else if serF l ≠ 0 then ([], serF l) else if 200000 < (appB file tag l).length then ([], 12) else (appB file tag l, 0)
end Go.Proofs.YtnodfnjmhcjnfaaGreatDoor
/- Ends of calls that turn an object of the caller's which holds names of new ones. No condition. -/
namespace Go.Proofs.YtnodfnjmhcjnfaaGreatDoor
open Go Go.RowKit
set_option maxRecDepth 100000
set_option linter.all false
theorem WkL.pickC {B G L : Hp} {m c : Nat} {o o' : AObj} {vs vs' : List AV} (ids : List Nat) (hB : HOk B) (hm : m ≤ B.length) (hc : c < B.length) (hoo : o = o'.ren (pickS B.length ids)) (ho' : o'.okN (B.length + L.length))
    (hL : ids.map (fun j => G[j]?) = L.map (fun o => some (o.ren (pickS B.length ids)))) (hd : ids.Nodup) (hok : ∀ o ∈ L, o.okN (B.length + L.length)) (hv : vs = vs'.map (AV.ren (pickS B.length ids))) (hov : ∀ x ∈ vs', x.ok (B.length + L.length)) :
    WkL m vs (B.set c o ++ G) vs' (B.set c o' ++ L) := by
  have hlen : ids.length = L.length := by have := congrArg List.length hL; simpa using this
  have hget : ∀ (j : Nat) (o : AObj), L[j]? = some o → ∃ q, ids[j]? = some q ∧ G[q]? = some (o.ren (pickS B.length ids)) := by
    intro j o hj
    have h1 : (L.map (fun o => some (o.ren (pickS B.length ids))))[j]? = some (some (o.ren (pickS B.length ids))) := by rw [List.getElem?_map, hj]; rfl
    rw [← hL, List.getElem?_map] at h1
    cases hq : ids[j]? with
    | none => rw [hq] at h1; cases h1
    | some q => rw [hq] at h1; exact ⟨q, rfl, by simpa using h1⟩
  have hlo : ∀ i, i < B.length → pickS B.length ids i = i := fun i hi => by simp [pickS, hi]
  have hl1 : (B.set c o).length = B.length := by simp
  have hl2 : (B.set c o').length = B.length := by simp
  intro B1 w0 ι w us hs hr hov2
  have hok' : HOk (B.set c o' ++ L) := by
    intro i q hi
    rw [List.length_append, hl2]
    rcases Nat.lt_or_ge i B.length with h | h
    · rw [List.getElem?_append_left (by omega)] at hi
      by_cases e : c = i
      · subst e
        rw [List.getElem?_set_self hc] at hi
        injection hi with hi; subst hi; exact ho'
      · rw [List.getElem?_set_ne e] at hi
        exact AObj.okN_mono (by omega) (hB i q hi)
    · rw [List.getElem?_append_right (by omega)] at hi
      exact hok q (List.mem_of_getElem? hi)
  refine WkL.ren (m := m) (pickS B.length ids) (fun i hi => hlo i (by omega)) (by rw [List.length_append]; omega) (fun i q hi hl => ?_) (fun i j hi hj hij => ?_) hv (by rw [List.length_append, hl2]; exact hov) hok' B1 w0 ι w us hs hr hov2
  · rcases Nat.lt_or_ge i B.length with h | h
    · rw [List.getElem?_append_left (by omega)] at hi
      rw [hlo i h, List.getElem?_append_left (by omega)]
      by_cases e : c = i
      · subst e
        rw [List.getElem?_set_self hc] at hi ⊢
        injection hi with hi; subst hi; rw [hoo]
      · rw [List.getElem?_set_ne e] at hi ⊢
        rw [AObj.ren_id (n := B.length) hlo (hB i q hi)]; exact hi
    · rw [List.getElem?_append_right (by omega), hl2] at hi
      obtain ⟨k, h1, h2⟩ := hget _ _ hi
      have : pickS B.length ids i = B.length + k := by
        unfold pickS
        rw [if_neg (by omega), List.getD_eq_getElem?_getD, h1]; rfl
      rw [this, List.getElem?_append_right (by omega), hl1]
      simpa using h2
  · rw [List.length_append, hl2] at hi hj
    have key : ∀ i, i < B.length + L.length → B.length ≤ i → ∃ q, ids[i - B.length]? = some q ∧ pickS B.length ids i = B.length + q := by
      intro i h1 h2
      have h3 : i - B.length < ids.length := by omega
      refine ⟨ids[i - B.length], List.getElem?_eq_getElem h3, ?_⟩
      unfold pickS
      rw [if_neg (by omega), List.getD_eq_getElem?_getD, List.getElem?_eq_getElem h3]; rfl
    rcases Nat.lt_or_ge i B.length with h1 | h1 <;> rcases Nat.lt_or_ge j B.length with h2 | h2
    · rw [hlo i h1, hlo j h2] at hij; exact hij
    · obtain ⟨q, g1, g2⟩ := key j hj h2
      rw [hlo i h1, g2] at hij; omega
    · obtain ⟨q, g1, g2⟩ := key i hi h1
      rw [hlo j h2, g2] at hij; omega
    · obtain ⟨q, g1, g2⟩ := key i hi h1
      obtain ⟨q2, g3, g4⟩ := key j hj h2
      rw [g2, g4] at hij
      obtain rfl : q = q2 := by omega
      have := (List.getElem?_inj (show i - B.length < ids.length by omega) hd).1 (g1.trans g3.symm)
      omega
theorem Ret.pickC {B G L : Hp} {K : AV → Hp → Prop} {n c : Nat} {o o' : AObj} {v v' : AV} (ids : List Nat) (hB : HOk B) (hn : n ≤ B.length) (hc : c < B.length) (hoo : o = o'.ren (pickS B.length ids)) (ho' : o'.okN (B.length + L.length))
    (hL : ids.map (fun j => G[j]?) = L.map (fun o => some (o.ren (pickS B.length ids)))) (hd : ids.Nodup) (hok : ∀ o ∈ L, o.okN (B.length + L.length)) (hv : v = v'.ren (pickS B.length ids)) (hov : v'.ok (B.length + L.length)) (hk : K v' (B.set c o' ++ L)) : Ret n v (B.set c o ++ G) K :=
  Ret.wk (WkL.pickC ids hB hn hc hoo ho' hL hd hok (by simp [hv]) (by simpa using hov)) hk
end Go.Proofs.YtnodfnjmhcjnfaaGreatDoor
