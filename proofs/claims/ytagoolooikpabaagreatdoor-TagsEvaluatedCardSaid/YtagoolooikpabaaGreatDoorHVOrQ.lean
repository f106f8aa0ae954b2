/- The document's OrderOf. Condition: the calculated tags are right. -/
import Derived.Test.YtagoolooikpabaaGreatDoorHVClM
import Derived.Test.YtagoolooikpabaaGreatDoorHVHaS
set_option linter.all false
namespace Go.Proofs.YtagoolooikpabaaGreatDoor
open Go Go.RowKit
set_option maxRecDepth 100000
set_option maxHeartbeats 4000000
variable {H : Hp} {K : AV → Hp → Prop}
theorem notInQ_a (o : List ByteArray) (hl : o.length ≤ 1000000) {i j : Nat} (hi : H[i]? = some (.row 29 1 [[grV j o]] true)) (hj : H[j]? = some (grO 9 1 (o.map encSs))) (k : ByteArray) (hk : K (.c (.bool (!decide (k ∈ o)))) H) : ACalls Tryz.prog 65 [(.c (.str k)), .c (.ptr (some (i, 0, 0)))] H K := by
 refine acalls Tryz.func65 rfl kRf gT (fun hH => ?_)
 refine gO1 hi ?_
 refine hasGrSx_a o k hj oMg ?_
 refine gO ?_
 exact Ret.same lRf hk
theorem ready1Q_a {cs : List Cal} (hF : clF cs = 0) (hs : ∀ x ∈ cs, x.fine) (o : List ByteArray) (hl : o.length ≤ 1000000) {b i j : Nat} (hb : H[b]? = some (.row 26 1 [[.lst 2 (cs.map encCl)]] true)) (hi : H[i]? = some (.row 29 1 [[grV j o]] true)) (hj : H[j]? = some (grO 9 1 (o.map encSs))) (x : Cal) (hx : x ∈ cs)
  (hk : K (.c (.bool (decide (x.tg ∉ o) && (kidC cs x.tg).all fun k => decide (k ∈ o)))) H) : ACalls Tryz.prog 63 [.agg (encCl x), .c (.ptr (some (i, 0, 0))), .c (.ptr (some (b, 0, 0)))] H K := by
 have hil := getElem?_lt hi
 have hbl := getElem?_lt hb
 have hjl := getElem?_lt hj
 have hie : H[i] = .row 29 1 [[grV j o]] true := by rw [List.getElem?_eq_getElem hil] at hi; exact Option.some.inj hi
 have hbe : H[b] = .row 26 1 [[.lst 2 (cs.map encCl)]] true := by rw [List.getElem?_eq_getElem hbl] at hb; exact Option.some.inj hb
 have hlen := kidC_len hF x.tg
 have he : entersB Tryz.prog 65 = true := by kernel_rfl
 have up : ∀ (G : Hp) (q : Nat) (h : q < H.length), (H ++ G)[q]? = H[q]? := fun G q h => List.getElem?_append_left h
 refine acalls Tryz.func63 rfl kRf gT (fun hH => ?_)
 refine gO2 hie hbe ?_
 refine hasGrSx_a o x.tg (by rw [up _ _ hjl]; exact hj) oMg ?_
 by_cases hm : x.tg ∈ o
 ·simp only [hm, decide_true] at hk ⊢
  refine gO2 hie hbe ?_
  exact Ret.drop hH lRf trivial hk
 ·simp only [hm, decide_false] at hk ⊢
  refine gO2 hie hbe ?_
  refine kidsOf_a hF hs x.tg (nmC_mem hx) ?_
  refine gO ?_
  refine contLstSx_a _ [(i, 0, 0)] (fun k => !decide (k ∈ o)) he (by intro p q r h; simp at h; simp; omega) (kidC cs x.tg) (fun k K hk1 hK => notInQ_a o hl (by rw [up _ _ hil]; exact hi) (by rw [up _ _ hjl]; exact hj) k hK) oMg ?_
  have e : (decide (¬False) && (kidC cs x.tg).all fun k => decide (k ∈ o)) = !((kidC cs x.tg).any fun k => !decide (k ∈ o)) := by
   rw [List.not_any_eq_all_not]
   simp
  rw [e] at hk
  refine gO ?_
  exact Ret.drop hH lRf trivial hk
def oqS (H : Hp) (cs : List Cal) (o : List ByteArray) (G : Hp) : Hp := H ++ (.row 26 1 [[.lst 2 (cs.map encCl)]] true :: .row 29 1 [[grV (H.length + 2 + G.length) o]] true :: (G ++ [grO 9 1 (o.map encSs)]))
theorem oqS_0 (H : Hp) (cs : List Cal) (o : List ByteArray) (G : Hp) : (oqS H cs o G)[H.length]? = some (.row 26 1 [[.lst 2 (cs.map encCl)]] true) := by unfold oqS; simp
theorem oqS_1 (H : Hp) (cs : List Cal) (o : List ByteArray) (G : Hp) : (oqS H cs o G)[H.length + 1]? = some (.row 29 1 [[grV (H.length + 2 + G.length) o]] true) := by unfold oqS; simp
theorem oqS_2 (H : Hp) (cs : List Cal) (o : List ByteArray) (G : Hp) : (oqS H cs o G)[H.length + 2 + G.length]? = some (grO 9 1 (o.map encSs)) := by
 unfold oqS
 rw [List.getElem?_append_right oMg, show H.length + 2 + G.length - H.length = G.length + 2 by omega, List.getElem?_cons_succ, List.getElem?_cons_succ, List.getElem?_append_right lRf, Nat.sub_self]
 rfl
theorem oqS_len (H : Hp) (cs : List Cal) (o : List ByteArray) (G : Hp) : (oqS H cs o G).length = H.length + 3 + G.length := by unfold oqS; simp; omega
theorem set_midQ (A G : Hp) (a b d y z w : AObj) : (A ++ (a :: b :: (G ++ [y])) ++ [w]).set (A.length + 2 + G.length) d ++ [z] = A ++ (a :: b :: (G ++ [d, w] ++ [z])) := by
 rw [List.append_assoc A, List.set_append_right _ _ oMg, show A.length + 2 + G.length - A.length = G.length + 1 + 1 by omega]
 simp only [List.cons_append, List.set_cons_succ, List.append_assoc]
 rw [List.set_append_right _ _ lRf, Nat.sub_self]
 simp
theorem oqS_step (H : Hp) (cs : List Cal) (o : List ByteArray) (G : Hp) (t : ByteArray) : ((oqS H cs o G ++ [AObj.row 9 1 [[.str t]] true]).set (H.length + 2 + G.length) AObj.dead ++ [grO 9 1 ((o ++ [t]).map encSs)]).set (H.length + 1) (.row 29 1 [[grV (oqS H cs o G ++ [AObj.row 9 1 [[.str t]] true]).length (o ++ [t])]] true) = oqS H cs (o ++ [t]) (G ++ [AObj.dead, AObj.row 9 1 [[.str t]] true]) := by
 have e : (oqS H cs o G ++ [AObj.row 9 1 [[.str t]] true]).length = H.length + 2 + (G ++ [AObj.dead, AObj.row 9 1 [[.str t]] true]).length := by rw [List.length_append, oqS_len]; simp; omega
 rw [e]
 unfold oqS
 rw [set_midQ, List.set_append_right _ _ oMg, show H.length + 1 - H.length = 1 by omega]
 rfl
def ordW (o : Option (List Nme)) : AV := match o with
 | some o => .tup [.c (.lst 1 (o.map encSs)), (.c (.int .i64 0))]
 | none => .tup [.c (.lst 1 []), (.c (.int .i64 14))]
theorem orderOf_a {cs : List Cal} (hF : clF cs = 0) (hs : ∀ x ∈ cs, x.fine) (hk : K (ordW (orderG (nmC cs) (kidC cs))) H) : ACalls Tryz.prog 14 [.c (.lst 2 (cs.map encCl))] H K := by
 have hcl := (clF_ok hF).1
 have hnl : (nmC cs).length = cs.length := by unfold nmC; rw [List.length_map]
 have he : entersB Tryz.prog 63 = true := by kernel_rfl
 refine acalls Tryz.func14 rfl kRf gT (fun hH => ?_)
 refine gO ?_
 refine AWp.loop (H.length + 2) [1, 4] [] (fun (s : List Nme × Hp) => s.1.length ≤ cs.length ∧ ordG (nmC cs) (kidC cs) (cs.length - s.1.length) s.1 = orderG (nmC cs) (kidC cs)) (fun (s : List Nme × Hp) => []) (fun (s : List Nme × Hp) => oqS H cs s.1 s.2) (fun (s : List Nme × Hp) => cs.length - s.1.length) kRf (fun _ => rfl) kRf sOo sOm kl ?_ (fun s ho _ hH2 => ?_)
 ·refine Next.mk ([], []) ⟨by simp, by simp [orderG, hnl]⟩ ?_
  exact WkL.padP [_, _] sMp
 obtain ⟨o, G⟩ := s
 obtain ⟨ho1, ho2⟩ := ho
 dsimp only at ho1 ho2
 have h0 := oqS_0 H cs o G
 have h1 := oqS_1 H cs o G
 have h2 := oqS_2 H cs o G
 have hlen := oqS_len H cs o G
 dsimp only
 by_cases hlt : o.length < cs.length
 ·obtain ⟨q, hq⟩ : ∃ q, cs.length - o.length = q + 1 := ⟨cs.length - o.length - 1, by omega⟩
  rw [hq] at ho2
  refine gO3 h0 h1 hlt ?_
  refine indexLstCl_a _ [(H.length + 1, 0, 0), (H.length, 0, 0)] (fun x => decide (x.tg ∉ o) && (kidC cs x.tg).all fun k => decide (k ∈ o)) he (by intro p q r h; simp at h; rw [hlen]; omega) cs (fun x K hx hK => ready1Q_a hF hs o oMg h0 h1 h2 x hx hK) oMg (fun hn => ?_) (fun k hk1 hk2 hk3 => ?_)
  ·have hn : nextO (nmC cs) (kidC cs) o = none := by
    unfold nextO nmC
    rw [List.find?_eq_none]
    intro t ht
    obtain ⟨x, hx, rfl⟩ := List.mem_map.1 ht
    exact List.any_eq_false.1 hn x hx
   have hr : orderG (nmC cs) (kidC cs) = none := by
    rw [← ho2]
    unfold ordG
    rw [hn]
   rw [hr] at hk
   refine gO ?_
   exact Ret.nilT hH lRf rfl hk
  ·have hn : nextO (nmC cs) (kidC cs) o = some cs[k].tg := by
    unfold nextO nmC
    rw [List.find?_eq_some_iff_getElem]
    refine ⟨hk2, k, by rw [List.length_map]; exact hk1, by rw [List.getElem_map], fun j hj => ?_⟩
    rw [List.getElem_map, hk3 j oMg hj]
    rfl
   have ho3 : ordG (nmC cs) (kidC cs) q (o ++ [cs[k].tg]) = orderG (nmC cs) (kidC cs) := by
    rw [← ho2]
    conv => rhs; unfold ordG
    rw [hn]
   obtain ⟨x, hx⟩ : ∃ x, x = cs[k] := ⟨_, rfl⟩
   have hxk : cs[k]'hk1 = x := hx.symm
   rw [hxk] at ho3
   refine gO2 h0 h1 ?_
   refine w_tree (.one 0 (.one 1 (.one 2 (.one 3 (.one 4 (.one 5 (.one 6 (.one 7 (.one 8 .done))))))))) kRf dKn ?_
   refine gO4 h0 h1 hxk hk1 ?_
   have hstep := oqS_step H cs o G x.tg
   have hln : (oqS H cs o G ++ [AObj.row 9 1 [[.str x.tg]] true]).length = (oqS H cs o G).length + 1 := by simp
   refine appSs o x.tg _ rfl (i := H.length + 2 + G.length) (by rw [List.getElem?_append_left (by rw [hlen]; omega)]; exact h2) (ty := 9) (own := true) sMp oMg ?_
   have h1b : ∀ Z : AObj, ((oqS H cs o G ++ [AObj.row 9 1 [[.str x.tg]] true]).set (H.length + 2 + G.length) AObj.dead ++ [Z])[H.length + 1]? = some (.row 29 1 [[grV (H.length + 2 + G.length) o]] true) := fun Z => by
    rw [List.getElem?_append_left (by rw [List.length_set, hln, hlen]; omega), List.getElem?_set_ne oMg, List.getElem?_append_left (by rw [hlen]; omega)]
    exact h1
   generalize hX : (oqS H cs o G ++ [AObj.row 9 1 [[.str x.tg]] true]).set (H.length + 2 + G.length) AObj.dead ++ [grO 9 1 ((o ++ [x.tg]).map encSs)] = X at *
   have h1c : X[H.length + 1]? = some (.row 29 1 [[grV (H.length + 2 + G.length) o]] true) := by rw [← hX]; exact h1b _
   have hXl := getElem?_lt h1c
   refine gO1 h1c ?_
   refine Next.mk (o ++ [x.tg], G ++ [AObj.dead, AObj.row 9 1 [[.str x.tg]] true]) ⟨⟨by simp; omega, ?_⟩, by simp; omega⟩ ?_
   ·dsimp only
    rw [show cs.length - (o ++ [x.tg]).length = q by simp; omega]
    exact ho3
   ·dsimp only
    rw [← hstep]
    refine gO ?_
    exact WkL.eq (by rw [List.length_set]; omega) rfl
 ·have hq : cs.length - o.length = 0 := by omega
  rw [hq] at ho2
  have hr : orderG (nmC cs) (kidC cs) = some o := by rw [← ho2]; rfl
  rw [hr] at hk
  refine gO3 h0 h1 hlt ?_
  unfold oqS
  exact Ret.frzGrT (2 + G.length) hH lRf (by rw [show 2 + G.length = G.length + 1 + 1 by omega, List.getElem?_cons_succ, List.getElem?_cons_succ, List.getElem?_append_right lRf, Nat.sub_self]; rfl) (pureL_map _ pUr) rfl (by rw [← Nat.add_assoc]; exact (map_grV _ _ _).symm) hk
end Go.Proofs.YtagoolooikpabaaGreatDoor
