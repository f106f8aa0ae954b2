/- strings.Join: a builder that grows first. -/
import Derived.Test.YtflklkijfkmeiaaGreatDoorHVTxtC
import Derived.Lib.MakeNoZero
namespace Go.Proofs.YtflklkijfkmeiaaGreatDoor
open Go Go.RowKit Go.Shelf
set_option maxRecDepth 100000
set_option linter.all false
set_option maxHeartbeats 2000000
variable {H : Hp} {K : AV → Hp → Prop}
theorem growC (b n : Nat) (w : World) (cur : Array Value) (hn : n ≤ 100000000) (hb : w.heap[b]? = some (.cells cur 132 (0, 0))) (h1 : cur[1]? = some (.slice none 0 0)) :
    Calls Tryz.prog 191 #[.pointer (some ⟨b, 0, none⟩), .int .i64 n] w fun e w' => ∃ cs : Array Value, n ≤ cs.size ∧ cs.size ≤ maxLen ∧ e = .returned (.tuple #[]) ∧ w' = ((w.alloc (.cells cs 5)).setCell ⟨b, 1, none⟩ (.slice (some ⟨w.heap.size, 0, none⟩) 0 cs.size)).drew.drew.drew := by
  obtain ⟨cs, hrun, hle, hmax⟩ := Lib.run_makeNoZero (P := Tryz.prog) (w := w.drew) #[3] 130 5 (by kernel_rfl) n (by omega)
  have hw : IntKind.i64.wrap (IntKind.i64.wrap 0 + (n : Int)) = n := by
    rw [IntKind.wrap_i64, IntKind.wrap_i64]
    omega
  have hfn : Tryz.prog.funcs[239]? = some Tryz.f239 := by kernel_rfl
  have hcall : (callFunc 239 #[.int .i64 (n : Int)]).run Tryz.prog w.drew = .ok (.value (.slice (some ⟨w.drew.heap.size, 0, none⟩) n cs.size)) (w.drew.drew.drew.alloc (.cells cs 5)) := by
    rw [run_callFunc_extern hfn (by kernel_rfl) (by kernel_rfl) (by kernel_rfl) (e := Extern.BytealgMakeNoZero.makeNoZero #[3] #[130]) (by kernel_rfl), hrun]
    rfl
  have hw2 : IntKind.i64.wrap (n : Int) = n := by rw [IntKind.wrap_i64]; omega
  have hcall2 : (callFunc 239 #[.int .i64 (IntKind.i64.wrap (n : Int))]).run Tryz.prog w.drew = .ok (.value (.slice (some ⟨w.drew.heap.size, 0, none⟩) n cs.size)) (w.drew.drew.drew.alloc (.cells cs 5)) := by rw [hw2]; exact hcall
  have hcall3 : (callFunc 239 #[.int .i64 (IntKind.i64.wrap (IntKind.i64.wrap 0 + (n : Int)))]).run Tryz.prog w.drew = .ok (.value (.slice (some ⟨w.drew.heap.size, 0, none⟩) n cs.size)) (w.drew.drew.drew.alloc (.cells cs 5)) := by rw [hw]; exact hcall
  have hlt : b < w.heap.size := by
    rcases Nat.lt_or_ge b w.heap.size with h' | h'
    · exact h'
    · simp [Array.getElem?_eq_none h'] at hb
  have c0 : w.cell? ⟨b, 1, none⟩ = some (.slice none 0 0) := by rw [Lib.cell_of_heap hb]; simpa using h1
  have c1 : w.drew.cell? ⟨b, 1, none⟩ = some (.slice none 0 0) := c0
  have hb2 : (w.alloc (.cells cs 5)).heap[b]? = some (.cells cur 132 (0, 0)) := (Lib.alloc_old w _ b hlt).trans hb
  have c2 : (w.alloc (.cells cs 5)).cell? ⟨b, 1, none⟩ = some (.slice none 0 0) := by rw [Lib.cell_of_heap hb2]; simpa using h1
  have f2 : (w.alloc (.cells cs 5)).frozen? ⟨b, 1, none⟩ = false := Lib.frozen_of_heap hb2 1
  have t37 : Tryz.prog.underlying 130 = some (.slice 5) := by kernel_rfl
  have hsb : (Tryz.prog.info? 5).map (·.size) = some 1 := by kernel_rfl
  have hcopy : ∀ W : World, (Builtin.copy_ #[130, 130] 3 #[.slice (some ⟨w.heap.size, 0, none⟩) 0 cs.size, .slice none 0 0]).run Tryz.prog W = .ok (goInt 0) W :=
    fun W => run_copy_none W 130 130 3 5 _ _ 0 cs.size 0 0 t37 hsb rfl
  clear hw hw2
  have mixed : Tryz.prog.follows .mixedOrders = true := by kernel_rfl
  have hf : Tryz.prog.funcs[191]? = some Tryz.f191 := by kernel_rfl
  have hnt : Tryz.f191.ntmps = 30 := by kernel_rfl
  have hm2 := hmax (by unfold maxLen; omega)
  clear hmax hb hb2 h1 hlt
  go_enter hf, hnt
  go_wp2
  go_region_o
  all_goals (go_wp2; go_end0; exact ⟨cs, hle, hm2, rfl, rfl⟩)
theorem grow_a {i : Nat} (n : Nat) (hn : n ≤ 100000000) (hi : H[i]? = some (.row 132 2 [[.ptr (some (i, 0, 0)), .sl none 0]] true)) (hk : K (.tup []) (H.set i (.row 132 2 [[.ptr (some (i, 0, 0)), .sl (some (H.length, 0)) 0]] true) ++ [.row 5 1 [] true])) : ACalls Tryz.prog 191 [.c (.ptr (some (i, 0, 0))), (.c (.int .i64 n))] H K := by
  intro B w0 ι w vs hs hr ho
  have hil := getElem?_lt hi
  obtain ⟨vl⟩ := vs
  match vl, hr with
  | [v, u], hr =>
    have hv : v = ptrOf ι (i, 0, 0) := hr.1
    have hu : u = .int .i64 n := hr.2.1
    subst hv; subst hu
    obtain ⟨hsz, hcap, cur, fr, hb, hc, how⟩ := hs.obj i _ hi
    obtain ⟨rfl, hoff, hcs, hml⟩ := how rfl
    obtain ⟨u, hu1, hu2⟩ := hc 0 _ rfl 1 (.sl none 0) rfl
    have hu3 : (0 : Nat) = 0 ∧ u = .slice none 0 0 := hu2
    rw [hu3.2, hoff] at hu1
    have hp : ptrOf ι (i, 0, 0) = .pointer (some ⟨(ι i).block, 0, none⟩) := by unfold ptrOf Loc.at; rw [hoff]; simp
    rw [hp]
    refine Calls.mono (growC (ι i).block n w cur hn hb (by simpa using hu1)) ?_
    rintro e w' ⟨cs, g1, g2, rfl, rfl⟩
    have hs1 := Sim.new hs (.cells cs 5) (.row 5 1 [] true) ⟨w.heap.size, 0, 1, cs.size⟩ rfl (by intro e he; cases he) ⟨rfl, Nat.zero_le _, cs, (0, 0), by
      show (w.heap.push _)[w.heap.size]? = _
      simp, fun k e he => by simp at he, fun _ => ⟨rfl, rfl, (Nat.mul_one _).symm, g2⟩⟩
    obtain ⟨ι2, hι⟩ : ∃ ι2, ι2 = upd ι H.length ⟨w.heap.size, 0, 1, cs.size⟩ := ⟨_, rfl⟩
    rw [← hι] at hs1
    have hi2 : (H ++ [AObj.row 5 1 [] true])[i]? = some (.row 132 2 [[.ptr (some (i, 0, 0)), .sl none 0]] true) := by rw [List.getElem?_append_left hil]; exact hi
    have hιi : ι2 i = ι i := by rw [hι]; unfold upd; simp; omega
    have hat : (ι2 i).at 0 1 = ⟨(ι i).block, 1, none⟩ := by rw [hιi]; unfold Loc.at; rw [hoff]; simp
    obtain ⟨w', k1, k2⟩ := run_store_row (P := Tryz.prog) (vs := [.slice (some ⟨w.heap.size, 0, none⟩) 0 cs.size]) (cs := [.sl (some (H.length, 0)) 0]) (j := 1) hs1 hi2 (k := 0) rfl (by simp) ⟨⟨⟨w.heap.size, 0, none⟩, by rw [hι, upd_same]; rfl, by simp, fun _ => by rw [hι, upd_same]; rfl⟩, trivial⟩ (by intro y hy; rw [List.mem_singleton] at hy; subst hy; simp [AC.ok])
    have hbl : (ι i).block < w.heap.size := by
      rcases Nat.lt_or_ge (ι i).block w.heap.size with h' | h'
      · exact h'
      · simp [Array.getElem?_eq_none h'] at hb
    have hb2 : (w.alloc (.cells cs 5)).heap[(ι i).block]? = some (.cells cur 132 (0, 0)) := (Lib.alloc_old w _ _ hbl).trans hb
    have c2 : (w.alloc (.cells cs 5)).cell? ⟨(ι i).block, 1, none⟩ = some (.slice none 0 0) := by rw [Lib.cell_of_heap hb2]; simpa using hu1
    have k3 := run_storeCells_cells (P := Tryz.prog) (ι i).block 1 [.slice (some ⟨w.heap.size, 0, none⟩) 0 cs.size] 0 (w.alloc (.cells cs 5)) (by intro j hj; simp at hj; subst hj; show (World.cell? _ ⟨(ι i).block, 1, none⟩).isSome = true; rw [c2]; rfl) (by intro j hj; simp at hj; subst hj; exact Lib.frozen_of_heap hb2 1) (by simp [Value.oneCell'])
    rw [hat] at k1
    rw [k1] at k3
    injection k3 with _ k3
    subst k3
    refine ⟨ι2, _, .tup [], _, rfl, by rw [hι]; exact upd_agree ι H.length _, by simp, Sim.heap k2 rfl rfl rfl rfl, ⟨[], rfl, trivial⟩, by simp [AV.ok], ?_⟩
    rw [List.set_append_left _ _ hil]
    exact hk
theorem grow2_a {i : Nat} (n : Nat) (h0 : 0 < n) (hn : n ≤ 100000000) (hi : H[i]? = some (.row 132 2 [[.ptr none, .sl none 0]] true)) (hk : K (.tup []) (H.set i (.row 132 2 [[.ptr (some (i, 0, 0)), .sl (some (H.length, 0)) 0]] true) ++ [.row 5 1 [] true])) : ACalls Tryz.prog 116 [.c (.ptr (some (i, 0, 0))), (.c (.int .i64 n))] H K := by
  have hil := getElem?_lt hi
  refine acalls Tryz.func116 rfl (by kernel_rfl) (by simp (disch := first | omega | (simp only [go_sem]; first | done | omega)) only [go_sem]) (fun hH => ?_)
  simp (disch := first | omega | (simp only [go_sem]; first | done | omega)) only [go_sem]
  refine copyFresh_a hi ?_
  simp (disch := first | omega | (simp only [go_sem]; first | done | omega)) only [go_sem]
  refine w_tree (.one 0 (.one 1 (.one 2 (.one 3 (.one 5 (.one 6 (.one 7 (.one 11 (.two 4 (.one 8 (.one 9 (.one 10 (.one 12 .done)))) 8 (.one 9 (.one 4 (.one 10 (.one 12 .done))))))))))))) (by kernel_rfl) (by decide +kernel) ?_
  have hj : (H.set i (.row 132 2 [[.ptr (some (i, 0, 0)), .sl none 0]] true))[i]? = some (.row 132 2 [[.ptr (some (i, 0, 0)), .sl none 0]] true) := List.getElem?_set_self hil
  have hkey : ∀ K' : AV → Hp → Prop, K' (.tup []) (H.set i (.row 132 2 [[.ptr (some (i, 0, 0)), .sl (some (H.length, 0)) 0]] true) ++ [.row 5 1 [] true]) → ACalls Tryz.prog 191 [.c (.ptr (some (i, 0, 0))), (.c (.int .i64 n))] (H.set i (.row 132 2 [[.ptr (some (i, 0, 0)), .sl none 0]] true)) K' := by
    intro K' hK'
    refine grow_a n hn hj ?_
    rw [List.set_set, List.length_set]
    exact hK'
  simp (disch := first | omega | (simp only [go_sem]; first | done | omega)) only [go_sem]
  repeat' apply And.intro
  all_goals
    refine hkey _ ?_
    simp (disch := first | omega | (simp only [go_sem]; first | done | omega)) only [go_sem]
    exact Ret.same (by simp) hk
theorem app_fresh {j : Nat} {J : AV → Hp → Prop} (s : ByteArray) (hj : H[j]? = some (.row 5 1 [] true)) (h0 : 0 < s.size) (h1 : s.size ≤ 1000000)
    (h : J (.c (grV H.length s.data.toList)) (H.set j .dead ++ [grO 5 1 (s.data.toList.map encU)])) : aBuiltin Tryz.prog .append #[130, 9] [.c (.sl (some (j, 0)) 0), .c (.str s)] H J := by
  have hl : s.data.toList.length = s.size := Array.length_toList
  have hne : s.data.toList ≠ [] := by intro e; rw [e] at hl; simp at hl; omega
  refine ⟨by kernel_rfl, ?_⟩
  have he : elemT Tryz.prog 130 = some 5 := by kernel_rfl
  rw [he]
  refine ⟨by kernel_rfl, by kernel_rfl, by kernel_rfl, fun e => by omega, fun _ => ⟨[], ⟨rfl, by rw [show szT Tryz.prog 5 = 1 by kernel_rfl]; exact hj, Nat.zero_le _⟩, by omega, ?_⟩⟩
  rw [grV_pos _ hne, hl, grO_pos _ _ (by simp [hne])] at h
  rw [Nat.zero_add, List.take_nil, List.nil_append]
  exact h
theorem write0_a {i j : Nat} (hij : i ≠ j) (s : ByteArray) (h0 : 0 < s.size) (h1 : s.size ≤ 1000000) (hi : H[i]? = some (.row 132 2 [[.ptr (some (i, 0, 0)), .sl (some (j, 0)) 0]] true)) (hj : H[j]? = some (.row 5 1 [] true))
    (hk : K (.tup [(.c (.int .i64 (s.size))), .c .nili]) ((H.set i (bldO true i H.length s.data.toList)).set j .dead ++ [grO 5 1 (s.data.toList.map encU)])) : ACalls Tryz.prog 88 [.c (.ptr (some (i, 0, 0))), (.c (.str s))] H K := by
  have hil := getElem?_lt hi
  have hjl := getElem?_lt hj
  refine acalls Tryz.func88 rfl (by kernel_rfl) (by simp (disch := first | omega | (simp only [go_sem]; first | done | omega)) only [go_sem]) (fun hH => ?_)
  simp (disch := first | omega | (simp only [go_sem]; first | done | omega)) only [go_sem]
  refine copyUsed_a hi ?_
  clear hil
  simp (disch := first | omega | (simp only [go_sem]; first | done | omega)) only [go_sem, hi]
  have hil := getElem?_lt hi
  refine app_fresh s hj h0 h1 ?_
  have hi3 : (H.set j .dead ++ [grO 5 1 (s.data.toList.map encU)])[i]? = some (.row 132 2 [[.ptr (some (i, 0, 0)), .sl (some (j, 0)) 0]] true) := by rw [List.getElem?_append_left (by rw [List.length_set]; exact hil), List.getElem?_set_ne (by omega)]; exact hi
  clear hil
  simp (disch := first | omega | (simp only [go_sem]; first | done | omega)) only [go_sem, hi3]
  have hil := getElem?_lt hi
  rw [List.set_append_left _ _ (by rw [List.length_set]; exact hil), List.set_comm _ _ (by omega : j ≠ i)]
  exact Ret.same (by simp) hk
theorem bldj_ren (σ : Nat → Nat) (i j : Nat) (l : List UInt8) : (bldO true i j l).ren σ = bldO true (σ i) (σ j) l := by
  unfold bldO
  rw [row_ren]
  simp only [List.map_cons, List.map_nil, grV_ren]
  rfl
theorem pickBld {A G : Hp} {m q : Nat} {T : List UInt8} {vs : List AV} (hA : HOk A) (hm : m ≤ A.length + 1) (h0 : G[0]? = some (bldO true A.length (A.length + q) T)) (hq : G[q]? = some (grO 5 1 (T.map encU))) (h1 : 1 ≤ q) (hv : ∀ v ∈ vs, ∃ n, v = (.c (.int .i64 n))) :
    WkL m vs (A ++ G) vs (A ++ [bldO true A.length (A.length + 1) T, grO 5 1 (T.map encU)]) := by
  refine WkL.pickR [0, q] 1 hA hm (by simp) (by simp) ?_ (by simp; omega) ?_ ?_ ?_
  · simp only [List.map_cons, List.map_nil, bldj_ren]
    rw [grO_ren _ _ _ (pureL_U T), pickS_zero, pickS_add, h0, hq]
    rfl
  · intro o ho
    simp only [List.mem_cons, List.not_mem_nil, or_false] at ho
    rcases ho with rfl | rfl
    · intro e he
      simp only [List.mem_cons, List.not_mem_nil, or_false] at he
      subst he
      refine ⟨rfl, fun x hx => ?_⟩
      simp only [List.mem_cons, List.not_mem_nil, or_false] at hx
      rcases hx with rfl | rfl
      · simp [AC.ok]
      · exact grV_ok (by simp) _
    · exact okN_grO (fun x => by simp [go_sem, AC.pure])
  · symm
    rw [List.map_congr_left (g := id) (fun v hv' => by obtain ⟨n, rfl⟩ := hv v hv'; rfl), List.map_id]
  · intro v hv'
    obtain ⟨n, rfl⟩ := hv v hv'
    simp [AV.ok, AV.ok1, AC.ok]
def joinL (sep : List UInt8) : List (List UInt8) → List UInt8
  | [] => []
  | x :: t => x ++ t.flatMap (sep ++ ·)
theorem joinL_next (sep : List UInt8) {x : List UInt8} {t : List (List UInt8)} {k : Nat} (h : k < t.length) : joinL sep (x :: t.take (k + 1)) = joinL sep (x :: t.take k) ++ sep ++ t[k] := by
  show x ++ (t.take (k + 1)).flatMap (sep ++ ·) = x ++ (t.take k).flatMap (sep ++ ·) ++ sep ++ t[k]
  rw [List.take_succ_eq_append_getElem h, List.flatMap_append]
  simp
theorem join_a (x : List UInt8) (t : List (List UInt8)) (ht : 0 < t.length ∧ t.length ≤ 1000) (hx : 0 < x.length ∧ x.length ≤ 1000) (hy : ∀ y ∈ t, 0 < y.length ∧ y.length ≤ 1000) (hk : K (.c (.str (tB (joinL [32] (x :: t))))) H) : ACalls Tryz.prog 164 [.c (.lst 1 ((x :: t).map encTx)), (.c (.str (tB [32])))] H K := by
  have e1 : (tB [32]).size = 1 := rfl
  have hsx := tB_size x
  have hml : ((x :: t).map encTx).length = t.length + 1 := by simp
  have n0 : ¬ ((t.length + 1 : Nat) : Int) = 0 := by omega
  have n1 : ¬ ((t.length + 1 : Nat) : Int) = 1 := by omega
  have hall : ∀ y ∈ x :: t, 0 < y.length ∧ y.length ≤ 1000 := by
    intro y hm
    rcases List.mem_cons.1 hm with rfl | hm
    · exact hx
    · exact hy y hm
  have hlen : (x :: t).length = t.length + 1 := rfl
  obtain ⟨ws, hws⟩ : ∃ ws, ws = x :: t := ⟨_, rfl⟩
  rw [← hws] at hml hall hlen ⊢
  have n2 : ¬ (9223372036854775807 : Int) / (((t.length + 1 : Nat) : Int) - 1) ≤ 1 := by
    have := Int.le_ediv_of_mul_le (a := 2) (b := (9223372036854775807 : Int)) (c := ((t.length + 1 : Nat) : Int) - 1) (by omega) (by omega)
    omega
  refine acalls Tryz.func164 rfl (by kernel_rfl) (by simp (disch := first | omega | (simp only [go_sem]; first | done | omega)) only [go_sem]) (fun hH => ?_)
  simp (disch := first | omega | (simp only [go_sem]; first | done | omega)) only [go_sem, e1, hml, hlen, n0, n1, n2]
  refine AWp.loop (H.length) [0, 1, 39, 40] [5, 41] (fun (q : Nat × Nat) => q.1 ≤ ws.length ∧ 1 ≤ q.2 ∧ q.2 ≤ 1000 + 1000 * q.1) (fun (q : Nat × Nat) => [(5, (.c (.int .i64 (q.2)))), (41, (.c (.int .i64 (q.1))))]) (fun (q : Nat × Nat) => H) (fun (q : Nat × Nat) => ws.length - q.1) (by kernel_rfl) (fun _ => rfl) (by kernel_rfl) (by first | (simp; done) | omega) (by first | (simp; done) | (simp; omega) | omega) kl ?_ (fun q hq _ _ => ?_)
  · refine Next.mk (0, t.length) ⟨Nat.zero_le _, by dsimp only; omega, by dsimp only; omega⟩ ?_
    exact wk
  obtain ⟨k, n⟩ := q
  obtain ⟨q1, q2, q3⟩ := hq
  dsimp only at q1 q2 q3 ⊢
  by_cases hlt : k < ws.length
  · have hlt' : (k : Int) < ((t.length + 1 : Nat) : Int) := by omega
    have hb := hall ws[k] (List.getElem_mem hlt)
    have hsk := tB_size ws[k]
    have n3 : ¬ (9223372036854775807 : Int) - n < (ws[k].length : Int) := by omega
    simp (disch := first | omega | (simp only [go_sem]; first | done | omega)) only [go_sem, hml, hlen, hlt', getElem_tx hlt, hsk, n3]
    refine Next.mk (k + 1, n + ws[k].length) ⟨⟨by dsimp only; omega, by dsimp only; omega, by dsimp only; omega⟩, by dsimp only; omega⟩ ?_
    exact wk
  have hlt' : ¬ (k : Int) < ((t.length + 1 : Nat) : Int) := by omega
  have h00 : ∀ h : 0 < (ws.map encTx).length, (ws.map encTx)[0]'h = [.str (tB x)] := by rw [hws]; intro h; rfl
  have hdr : (ws.map encTx).drop 1 = t.map encTx := by rw [hws]; rfl
  simp (disch := first | omega | (simp only [go_sem]; first | done | omega)) only [go_sem, hml, hlen, hlt']
  refine grow2_a n (by omega) (by omega) (by first | ((repeat first | exact at0 (by simp) | refine atS ?_); done) | assumption) ?_
  simp (disch := first | omega | (simp only [go_sem]; first | done | omega)) only [go_sem, hml, hlen, h00]
  have hw0 : ∀ h : 0 < ws.length, ws[0]'h = x := by rw [hws]; intro h; rfl
  rw [hw0]
  refine write0_a (i := H.length) (j := H.length + 1) (by omega) (tB x) (by omega) (by omega) (by first | ((repeat first | exact at0 (by simp) | refine atS ?_); done) | assumption) (by first | ((repeat first | exact at0 (by simp) | refine atS ?_); done) | assumption) ?_
  simp (disch := first | omega | (simp only [go_sem]; first | done | omega)) only [go_sem, hml, hlen, hdr]
  rw [show (tB x).data.toList = x from tL_tB x]
  have hjl : ∀ k, k ≤ t.length → (joinL [32] (x :: t.take k)).length ≤ 1000 + 1001 * k := by
    intro k
    induction k with
    | zero => intro _; simp [joinL]; omega
    | succ k ih =>
      intro hk
      have h1 := hy t[k] (List.getElem_mem (by omega))
      rw [joinL_next [32] (by omega : k < t.length)]
      simp only [List.length_append, List.length_singleton]
      have := ih (by omega)
      omega
  have hmt : (t.map encTx).length = t.length := List.length_map ..
  refine AWp.loop (H.length + 1) [1, 8, 63, 64] [65] (fun (k : Nat) => k ≤ t.length) (fun (k : Nat) => [(65, (.c (.int .i64 k)))]) (fun (k : Nat) => H ++ [bldO true H.length (H.length + 1) (joinL [32] (x :: t.take k)), grO 5 1 ((joinL [32] (x :: t.take k)).map encU)]) (fun (k : Nat) => t.length - k) (by kernel_rfl) (fun _ => rfl) (by kernel_rfl) (by first | (simp; done) | omega) (by first | (simp; done) | (simp; omega) | omega) kl ?_ (fun k q _ _ => ?_)
  · refine Next.mk 0 (Nat.zero_le _) ?_
    rw [List.take_zero, show joinL [32] [x] = x by simp [joinL]]
    simp (disch := first | omega | (simp only [go_sem]; first | done | omega)) only [go_sem]
    exact pickBld (q := 2) hH (Nat.le_refl _) rfl rfl (by omega) (by intro v hv; rw [List.mem_singleton] at hv; exact ⟨_, hv⟩)
  by_cases hlt2 : k < t.length
  · have hb := hy t[k] (List.getElem_mem hlt2)
    have hsk := tB_size t[k]
    have hnx := joinL_next [32] (x := x) hlt2
    have hjk := hjl k q
    simp (disch := first | omega | (simp only [go_sem]; first | done | omega)) only [go_sem, hmt, hlt2, getElem_tx hlt2]
    obtain ⟨T2, hT2⟩ : ∃ T2, T2 = joinL [32] (x :: t.take (k + 1)) := ⟨_, rfl⟩
    rw [← hT2] at hnx
    generalize joinL [32] (x :: t.take k) = T at *
    refine write_a (i := H.length) (j := H.length + 1) (by omega) T (tB [32]) (by omega) (by omega) (by omega) (by first | ((repeat first | exact at0 (by simp) | refine atS ?_); done) | assumption) (by first | ((repeat first | exact at0 (by simp) | refine atS ?_); done) | assumption) ?_
    rw [show (tB [32]).data.toList = [32] from tL_tB [32]]
    obtain ⟨T1, hT1⟩ : ∃ T1, T1 = T ++ [32] := ⟨_, rfl⟩
    rw [← hT1] at hnx ⊢
    have hl1 : T1.length = T.length + 1 := by rw [hT1]; simp
    simp (disch := first | omega | (simp only [go_sem]; first | done | omega)) only [go_sem]
    refine write_a (i := H.length) (j := H.length + 2) (p := true) (by omega) T1 (tB t[k]) (by omega) (by omega) (by omega) (at0 (by simp)) (by first | ((repeat first | exact at0 (by simp) | refine atS ?_); done) | assumption) ?_
    rw [show (tB t[k]).data.toList = t[k] from tL_tB t[k], ← hnx]
    simp (disch := first | omega | (simp only [go_sem]; first | done | omega)) only [go_sem]
    refine Next.mk (k + 1) ⟨by omega, by omega⟩ ?_
    rw [← hT2]
    simp (disch := first | omega | (simp only [go_sem]; first | done | omega)) only [go_sem]
    exact pickBld (q := 3) hH (Nat.le_refl _) rfl rfl (by omega) (by intro v hv; rw [List.mem_singleton] at hv; exact ⟨_, hv⟩)
  · have hkl : k = t.length := by omega
    have hjk := hjl k q
    rw [hkl, List.take_length] at hjk ⊢
    simp (disch := first | omega | (simp only [go_sem]; first | done | omega)) only [go_sem, hmt]
    refine str_a (i := H.length) (m := H.length + 1) (by omega) _ (by first | ((repeat first | exact at0 (by simp) | refine atS ?_); done) | assumption) (by first | ((repeat first | exact at0 (by simp) | refine atS ?_); done) | assumption) ?_
    simp (disch := first | omega | (simp only [go_sem]; first | done | omega)) only [go_sem]
    exact Ret.drop hH (Nat.le_refl _) trivial hk
end Go.Proofs.YtflklkijfkmeiaaGreatDoor
