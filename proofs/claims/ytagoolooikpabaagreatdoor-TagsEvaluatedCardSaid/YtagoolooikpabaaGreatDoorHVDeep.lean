/- Stream.DeepCalcs: a chain of calculated tags. Condition: it is not long. -/
import Derived.Test.YtagoolooikpabaaGreatDoorHVCal
import Derived.Test.YtagoolooikpabaaGreatDoorHVTxtS
import Derived.Test.YtagoolooikpabaaGreatDoorHVCpt
set_option linter.all false
namespace Go.Proofs.YtagoolooikpabaaGreatDoor
open Go Go.RowKit
set_option maxRecDepth 100000
set_option maxHeartbeats 4000000
variable {H : Hp} {K : AV → Hp → Prop}
theorem join1_a (x sep : ByteArray) (hk : K (.c (.str x)) H) : ACalls Tryz.prog 122 [.c (.lst 1 [[.str x]]), (.c (.str sep))] H K := by
 refine acalls Tryz.func122 rfl kRf gT (fun hH => ?_)
 refine gO ?_
 exact Ret.same lRf hk
theorem itoa_lenD {n : Int} (h : -1000000000000 ≤ n ∧ n ≤ 1000000000000) : (Lib.itoa n).length ≤ 16 := by
 have := dec_len 14 n.natAbs (by simp; omega)
 unfold Lib.itoa
 split
 ·simp only [List.length_cons]; omega
 ·first | omega | (rw [show n.toNat = n.natAbs by omega]; omega)
theorem number1_a (n : Int) (hn : -1000000000000 ≤ n ∧ n ≤ 1000000000000) (hk : K (.c (.str (tB (Lib.itoa n)))) H) : ACalls Tryz.prog 74 [.c (.lst 1 [[.int .i64 n]])] H K := by
 refine acalls Tryz.func74 rfl kRf gT (fun hH => ?_)
 refine gO ?_
 obtain ⟨L, hL⟩ : ∃ L : List ByteArray, L = [tB (Lib.itoa n)] := ⟨_, rfl⟩
 refine AWp.loop (H.length) [6, 7] [8, 3] (fun (k : Nat) => k ≤ 1) (fun (k : Nat) => [(8, (.c (.int .i64 k))), (3, .c (grV H.length (L.take k)))]) (fun (k : Nat) => H ++ [grO 9 1 ((L.take k).map encSs)]) (fun (k : Nat) => 1 - k) kRf (fun _ => rfl) kRf sOo sOm kl ?_ (fun k q _ _ => ?_)
 ·refine Next.mk 0 (Nat.zero_le _) ?_
  exact WkL.pad lRf
 by_cases hlt : k < 1
 ·have hk0 : k = 0 := by omega
  have hnx : L.take (k + 1) = L.take k ++ [tB (Lib.itoa n)] := by rw [hk0, hL]; rfl
  have hUl : (L.take k).length = 0 := by rw [hk0]; rfl
  have hcl : (k : Int).toNat = 0 := by omega
  generalize L.take k = U at *
  refine gO2 hlt hk0 ?_
  refine itoa_a n oMg oMg ?_
  rw [show (⟨(Lib.itoa n).toArray⟩ : ByteArray) = tB (Lib.itoa n) from rfl]
  refine gO ?_
  refine appSs U (tB (Lib.itoa n)) _ rfl aTT aTT oMg ?_
  refine gO ?_
  refine Next.mk (k + 1) ⟨by omega, by omega⟩ ?_
  rw [hnx, hk0]
  exact ow
 ·have htk : L.take k = L := List.take_of_length_le (by rw [hL]; simp; omega)
  rw [htk]
  refine gO1 hlt ?_
  refine ACalls.litGr (i := H.length) (els := L.map encSs) aTT (by rw [hL]; simp) (pureL_map _ pUr) rfl ?_
  rw [hL]
  refine join1_a (tB (Lib.itoa n)) _ ?_
  refine gO ?_
  exact Ret.drop hH lRf trivial hk
theorem number1_lit (n : Int) (hn : -1000000000000 ≤ n ∧ n ≤ 1000000000000) {i ty m : Nat} {els : List (List AC)} {own : Bool} (hi : H[i]? = some (.row ty 1 els own)) (he : els = [[.int .i64 n]]) (hm : m = 1) (hk : K (.c (.str (tB (Lib.itoa n)))) (H.set i .dead)) : ACalls Tryz.prog 74 [.c (.sl (some (i, 0)) m)] H K := by
 subst he hm
 exact ACalls.lit hi (by simp [pureL, AC.pure]) (args' := [.c (.lst 1 [[.int .i64 n]])]) (by simp [AV.frz1, AC.frz]) (number1_a n hn hk)
theorem aIf_cat {a b : ByteArray} {J : AV → Hp → Prop} (h : a.size + b.size ≤ 1000000) (hk : ∀ c : ByteArray, c.size = a.size + b.size → J (.c (.str c)) H) : aIf (a.size + b.size ≤ 9223372036854775807) (.c (.str (a ++ b))) H J :=
 ⟨by omega, hk _ ByteArray.size_append⟩
theorem aIf_any {p : Prop} {x : ByteArray} {J : AV → Hp → Prop} (h : p) (hk : ∀ c : ByteArray, c.size = x.size → J (.c (.str c)) H) : aIf p (.c (.str x)) H J := ⟨h, hk x rfl⟩
theorem wrD (k : Nat) (h : k < 11) : IntKind.i32.wrap (97 + (k : Int)) = 97 + (k : Int) ∧ IntKind.i32.wrap (97 + (k : Int) + 1) = 97 + (k : Int) + 1 ∧ ∃ v : Int, IntKind.i64.wrap (1 * 2 ^ (min k 64)) = v ∧ 0 ≤ v ∧ v ≤ 1024 := by
 have h1 : ∀ k : Fin 11, IntKind.i32.wrap (97 + (k.val : Int)) = 97 + (k.val : Int) ∧ IntKind.i32.wrap (97 + (k.val : Int) + 1) = 97 + (k.val : Int) + 1 := by decide
 have h2 : ∀ k : Fin 11, 0 ≤ IntKind.i64.wrap (1 * 2 ^ (min k.val 64)) ∧ IntKind.i64.wrap (1 * 2 ^ (min k.val 64)) ≤ 1024 := by decide
 exact ⟨(h1 ⟨k, h⟩).1, (h1 ⟨k, h⟩).2, _, rfl, h2 ⟨k, h⟩⟩
theorem deepCalcs_a (n : Int) (hn : 0 ≤ n ∧ n ≤ 11) {s : Nat} (hk : ∀ l : List Cal, l.length ≤ 11 → (∀ x ∈ l, x.tg.size ≤ 10 ∧ x.ex.size ≤ 250) → K (.c (.lst 2 (l.map encCl))) H) : ACalls Tryz.prog 23 [.c (.ptr (some (s, 0, 0))), (.c (.int .i64 n))] H K := by
 refine acalls Tryz.func23 rfl kRf gT (fun hH => ?_)
 refine gO ?_
 refine AWp.loop (H.length) [1, 11] [12, 5] (fun (us : List Cal) => (us.length : Int) ≤ n ∧ ∀ x ∈ us, x.tg.size ≤ 10 ∧ x.ex.size ≤ 250) (fun (us : List Cal) => [(12, (.c (.int .i64 (us.length)))), (5, .c (grV H.length us))]) (fun (us : List Cal) => H ++ [grO 60 2 (us.map encCl)]) (fun (us : List Cal) => 11 - us.length) kRf (fun _ => rfl) kRf sOo sOm kl ?_ (fun us hu _ _ => ?_)
 ·refine Next.mk [] ⟨by simp; omega, by simp⟩ ?_
  exact WkL.pad lRf
 obtain ⟨hu1, hu2⟩ := hu
 by_cases hlt : (us.length : Int) < n
 ·obtain ⟨w1, w2, v, w3, w4, w5⟩ := wrD us.length oMg
  have hil := itoa_lenD (n := v) oMg
  refine gO2 hlt w1 ?_
  refine aIf_cat (by show (1 : Nat) + 1 ≤ 1000000; omega) (fun tg htg => ?_)
  have htg : tg.size = 2 := htg
  refine gO2 hlt w1 ?_
  by_cases h2 : (us.length : Int) + 1 < n
  ·refine gO2 h2 w2 ?_
   refine aIf_cat (a := ⟨#[116]⟩) (b := ⟨#[UInt8.ofNat (97 + (us.length : Int) + 1).toNat]⟩) (by show (1 : Nat) + 1 ≤ 1000000; omega) (fun nx hnx => ?_)
   have hnx : nx.size = 2 := hnx
   refine gO ?_
   rw [w3]
   refine number1_lit v oMg aTT rfl rfl ?_
   refine gO ?_
   refine aIf_cat (a := nx) (b := ⟨#[32, 43, 32]⟩) (by show nx.size + 3 ≤ 1000000; omega) (fun c1 h1 => ?_)
   have h1 : c1.size = nx.size + 3 := h1
   refine gO ?_
   have h64 : (⟨#[64]⟩ : ByteArray).size = 1 := rfl
   refine aIf_any (by show c1.size + nx.size + 1 ≤ _; omega) (fun c3 h3 => ?_)
   rw [ByteArray.size_append, ByteArray.size_append, h64] at h3
   refine gO ?_
   refine aIf_any (by rw [tB_size]; omega) (fun ex h4 => ?_)
   rw [ByteArray.size_append, tB_size] at h4
   refine gO ?_
   (refine app_gr (enc := encCl) (e := 60) (sz := 2) (bs := 32) (z := [.str ⟨#[]⟩, .str ⟨#[]⟩]) (us) (⟨tg, ex⟩) kRf kRf kRf kRf aTT (by first | (refine gO ?_; done) | (refine gO ?_; rfl) | (refine gO ?_; simp [go_sem]; done) | (refine gO ?_; simp [*]; done)) rfl (by decide) oMg oMg (by rfl) ?_)
   refine gO ?_
   refine Next.mk (us ++ [⟨tg, ex⟩]) ⟨⟨by simp; omega, fun x hx => ?_⟩, by simp; omega⟩ ?_
   ·rcases List.mem_append.1 hx with h | h
    ·exact hu2 x h
    ·rw [List.mem_singleton.1 h]
     exact ⟨by show tg.size ≤ 10; omega, by show ex.size ≤ 250; omega⟩
   exact ow
  ·refine gO1 h2 ?_
   (refine app_gr (enc := encCl) (e := 60) (sz := 2) (bs := 32) (z := [.str ⟨#[]⟩, .str ⟨#[]⟩]) (us) (⟨tg, ⟨#[97]⟩⟩) kRf kRf kRf kRf aTT (by first | (refine gO ?_; done) | (refine gO ?_; rfl) | (refine gO ?_; simp [go_sem]; done) | (refine gO ?_; simp [*]; done)) rfl (by decide) oMg oMg (by rfl) ?_)
   refine gO ?_
   refine Next.mk (us ++ [⟨tg, ⟨#[97]⟩⟩]) ⟨⟨by simp; omega, fun x hx => ?_⟩, by simp; omega⟩ ?_
   ·rcases List.mem_append.1 hx with h | h
    ·exact hu2 x h
    ·rw [List.mem_singleton.1 h]
     exact ⟨by show tg.size ≤ 10; omega, by show (1 : Nat) ≤ 250; omega⟩
   exact ow
 ·refine gO1 hlt ?_
  exact Ret.frzGr 0 hH lRf rfl (pureL_map _ pUr) (map_grV _ _ _).symm (hk us oMg hu2)
end Go.Proofs.YtagoolooikpabaaGreatDoor
