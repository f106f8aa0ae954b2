/- Several texts in one: Duplicates: the program's answer, and what follows. No condition. -/
import Derived.Test.YtppmkgaobeccfaaGreatHVArrH
/- Duplicates: the program's answer. Condition: names' sizes; at most a million. -/
namespace Go.Proofs.YtppmkgaobeccfaaGreat
open Go Go.RowKit
set_option maxRecDepth 100000
set_option linter.all false
set_option maxHeartbeats 1000000
variable {H : Hp} {K : AV → Hp → Prop}
theorem fsF_get (l : List Arr) (i : Nat) (h : i < (fsF l).length) : (fsF l)[i] = !isD l i := by simp [fsF]
theorem fsF_len (l : List Arr) : (fsF l).length = l.length := by simp [fsF]
end Go.Proofs.YtppmkgaobeccfaaGreat
/- The numbers of a node: the program's answer. Condition: names' sizes; at most a million. -/
namespace Go.Proofs.YtppmkgaobeccfaaGreat
open Go Go.RowKit
set_option maxRecDepth 100000
set_option linter.all false
set_option maxHeartbeats 1000000
variable {H : Hp} {K : AV → Hp → Prop}
theorem okN_ev (S : List Int) (n : Nat) : (mpO (S.map encEv)).okN n := by
  unfold mpO AObj.okN
  intro p hp
  obtain ⟨x, _, rfl⟩ := List.mem_map.1 hp
  exact ⟨trivial, trivial⟩
end Go.Proofs.YtppmkgaobeccfaaGreat
/- Complete and Missing: the program's answers. Condition: names' sizes; at most a million. -/
namespace Go.Proofs.YtppmkgaobeccfaaGreat
open Go Go.RowKit
set_option maxRecDepth 100000
set_option linter.all false
set_option maxHeartbeats 1000000
variable {H : Hp} {K : AV → Hp → Prop}
theorem arGo_all : ∀ {l : List Arr} {p : Option Arr}, arGo p l = 0 → ∀ x ∈ l, arrErr x = 0
  | [], _, _ => by simp
  | a :: t, p, h => by
    unfold arGo at h
    split at h
    · rename_i c; exact absurd h c
    · rename_i c
      have c : arS p a = 0 := by omega
      intro x hx
      rcases List.mem_cons.1 hx with rfl | hx
      · unfold arS at c
        split at c
        · exact c
        · omega
      · exact arGo_all h x hx
theorem arF_all {l : List Arr} (h : arF l = 0) : ∀ x ∈ l, arrErr x = 0 := by
  unfold arF at h
  split at h
  · omega
  · split at h
    · omega
    · rename_i c; exact arGo_all (p := none) (by omega)
end Go.Proofs.YtppmkgaobeccfaaGreat
