/- Several texts in one: Samples sorted by slices, and what follows. No condition. -/
import Derived.Test.YtnodfnjmhcjnfaaGreatDoorHVFixQ
import Derived.Test.YtnodfnjmhcjnfaaGreatDoorHVSrtK
import Derived.Test.YtnodfnjmhcjnfaaGreatDoorHVPickC
import Derived.Test.YtnodfnjmhcjnfaaGreatDoorProg
import Derived.Test.YtnodfnjmhcjnfaaGreatDoorHVBytes3
/- Samples sorted by slices.SortFunc of the program's closures, at any length. Condition: moments are not huge. -/
namespace Go.Proofs.YtnodfnjmhcjnfaaGreatDoor
open Go Go.RowKit Go.Shelf
set_option maxRecDepth 100000
set_option linter.all false
set_option maxHeartbeats 2000000
variable {H : Hp} {K : AV → Hp → Prop}
def sfRenSm : Go.Shelf.Ren := { f := fun x => match x with | 6 => 65 | 14 => 155 | 15 => 156 | 20 => 240 | 21 => 241 | 22 => 242 | 23 => 243 | 24 => 244 | 25 => 245 | 26 => 246 | 27 => 247 | 28 => 248 | 29 => 249 | 46 => 298 | 47 => 299 | 48 => 300 | 49 => 301 | 50 => 302 | 57 => 341 | n => n, t := fun x => match x with | 0 => 0 | 3 => 3 | 4 => 4 | 5 => 5 | 9 => 9 | 22 => 26 | 24 => 38 | 25 => 111 | 39 => 219 | 45 => 308 | 46 => 309 | 50 => 59 | 53 => 315 | 55 => 317 | 66 => 363 | 70 => 367 | 76 => 385 | 77 => 386 | n => n, g := fun x => x }
theorem sfLaySm : SlLaysF0.n6 Tryz.prog sfRenSm := {
  mixed := by kernel_rfl
  f6 := ⟨(Tryz.f65).name, by kernel_rfl, by kernel_rfl⟩
  f14 := ⟨(Tryz.f155).name, by kernel_rfl, by kernel_rfl⟩
  f15 := by kernel_rfl
  f20 := ⟨(Tryz.f240).name, by kernel_rfl, by kernel_rfl⟩
  f21 := ⟨(Tryz.f241).name, by kernel_rfl, by kernel_rfl⟩
  f22 := ⟨(Tryz.f242).name, by kernel_rfl, by kernel_rfl⟩
  f23 := ⟨(Tryz.f243).name, by kernel_rfl, by kernel_rfl⟩
  f24 := ⟨(Tryz.f244).name, by kernel_rfl, by kernel_rfl⟩
  f25 := ⟨(Tryz.f245).name, by kernel_rfl, by kernel_rfl⟩
  f26 := ⟨(Tryz.f246).name, by kernel_rfl, by kernel_rfl⟩
  f27 := ⟨(Tryz.f247).name, by kernel_rfl, by kernel_rfl⟩
  f28 := by kernel_rfl
  f29 := by kernel_rfl
  f46 := ⟨(Tryz.f298).name, by kernel_rfl, by kernel_rfl⟩
  f47 := by kernel_rfl
  f48 := by kernel_rfl
  f49 := ⟨(Tryz.f301).name, by kernel_rfl, by kernel_rfl⟩
  f50 := ⟨(Tryz.f302).name, by kernel_rfl, by kernel_rfl⟩
  f57 := ⟨(Tryz.f341).name, by kernel_rfl, by kernel_rfl⟩
  t0 := by kernel_rfl
  a0 := fun w => by kernel_rfl
  z0 := fun w => by kernel_rfl
  v0 := fun w => by kernel_rfl
  t3 := by kernel_rfl
  a3 := fun w => by kernel_rfl
  z3 := fun w => by kernel_rfl
  v3 := fun w => by kernel_rfl
  t4 := by kernel_rfl
  a4 := fun w => by kernel_rfl
  z4 := fun w => by kernel_rfl
  v4 := fun w => by kernel_rfl
  t5 := by kernel_rfl
  a5 := fun w => by kernel_rfl
  z5 := fun w => by kernel_rfl
  v5 := fun w => by kernel_rfl
  t9 := by kernel_rfl
  a9 := fun w => by kernel_rfl
  z9 := fun w => by kernel_rfl
  v9 := fun w => by kernel_rfl
  t22 := by kernel_rfl
  a22 := fun w => by kernel_rfl
  z22 := fun w => by kernel_rfl
  v22 := fun w => by kernel_rfl
  t25 := by kernel_rfl
  a25 := fun w => by kernel_rfl
  z25 := fun w => by kernel_rfl
  v25 := fun w => by kernel_rfl
  t39 := by kernel_rfl
  a39 := fun w => by kernel_rfl
  z39 := fun w => by kernel_rfl
  v39 := fun w => by kernel_rfl
  t45 := by kernel_rfl
  a45 := fun w => by kernel_rfl
  z45 := fun w => by kernel_rfl
  v45 := fun w => by kernel_rfl
  t46 := by kernel_rfl
  a46 := fun w => by kernel_rfl
  z46 := fun w => by kernel_rfl
  v46 := fun w => by kernel_rfl
  t50 := by kernel_rfl
  a50 := fun w => by kernel_rfl
  z50 := fun w => by kernel_rfl
  v50 := fun w => by kernel_rfl
  t53 := by kernel_rfl
  a53 := fun w => by kernel_rfl
  z53 := fun w => by kernel_rfl
  v53 := fun w => by kernel_rfl
  t55 := by kernel_rfl
  a55 := fun w => by kernel_rfl
  z55 := fun w => by kernel_rfl
  v55 := fun w => by kernel_rfl
  t66 := by kernel_rfl
  a66 := fun w => by kernel_rfl
  z66 := fun w => by kernel_rfl
  v66 := fun w => by kernel_rfl
  t70 := by kernel_rfl
  a70 := fun w => by kernel_rfl
  z70 := fun w => by kernel_rfl
  v70 := fun w => by kernel_rfl
  t76 := by kernel_rfl
  a76 := fun w => by kernel_rfl
  z76 := fun w => by kernel_rfl
  v76 := fun w => by kernel_rfl
  t77 := by kernel_rfl
  a77 := fun w => by kernel_rfl
  z77 := fun w => by kernel_rfl
  v77 := fun w => by kernel_rfl }
def smOk (x : Smp) : Prop := -1000000000000000 ≤ x.t ∧ x.t ≤ 1000000000000000
theorem wrapT {a b : Int} (ha : -1000000000000000 ≤ a ∧ a ≤ 1000000000000000) (hb : -1000000000000000 ≤ b ∧ b ≤ 1000000000000000) : IntKind.i64.wrap (a - b) = a - b := by rw [IntKind.wrap_i64]; omega
theorem alloc2T (W : World) (o1 o2 : Obj) : (W.alloc o1).alloc o2 = Go.Sort.grow (W.drewN 0) #[o1, o2] := by
  unfold World.alloc Go.Sort.grow World.drewN
  simp only [Nat.add_zero]
  congr 1
theorem encS_flat (x : Smp) : (encS x).length = 3 ∧ (encS x).all acFlat = true := ⟨rfl, rfl⟩
theorem swoT : Go.Sort.SWO (ltOf fun x y : {x // smOk x} => x.1.t - y.1.t) where
  irrefl := fun x => by unfold ltOf; simp
  trans := fun x y z h1 h2 => by unfold ltOf at *; simp only [decide_eq_true_eq] at *; omega
  ntrans := fun x y z h1 h2 => by unfold ltOf at *; simp only [decide_eq_false_iff_not] at *; omega
theorem insNilT_a {f : FuncId} (hk : K (.tup []) H) : ACalls Tryz.prog 240 [.c (.sl none 0), (.c (.int .i64 0)), (.c (.int .i64 0)), .c (.fn f [] [])] H K := by
  refine acalls Tryz.func240 rfl (by kernel_rfl) (by simp (disch := first | omega | (simp only [go_sem]; first | done | omega)) only [go_sem]) (fun hH => ?_)
  simp (disch := first | omega | (simp only [go_sem]; first | done | omega)) only [go_sem]
  refine AWp.loop (H.length) [0, 1, 2, 3] [8] (fun (q : Unit) => True) (fun (q : Unit) => [(8, (.c (.int .i64 1)))]) (fun (q : Unit) => H) (fun (q : Unit) => 0) (by kernel_rfl) (fun _ => rfl) (by kernel_rfl) (by first | (simp; done) | omega) (by first | (simp; done) | (simp; omega) | omega) kl ?_ (fun q hq _ _ => ?_)
  · exact Next.mk () trivial wk
  simp (disch := first | omega | (simp only [go_sem]; first | done | omega)) only [go_sem]
  exact Ret.same (by simp) hk
theorem pdqNilT_a {f : FuncId} (lim : Int) (hk : K (.tup []) H) : ACalls Tryz.prog 155 [.c (.sl none 0), (.c (.int .i64 0)), (.c (.int .i64 0)), (.c (.int .i64 lim)), .c (.fn f [] [])] H K := by
  refine acalls Tryz.func155 rfl (by kernel_rfl) (by simp (disch := first | omega | (simp only [go_sem]; first | done | omega)) only [go_sem]) (fun hH => ?_)
  simp (disch := first | omega | (simp only [go_sem]; first | done | omega)) only [go_sem]
  refine AWp.loop (H.length) [0, 4] [1, 2, 3, 10, 11] (fun (q : Unit) => True) (fun (q : Unit) => [(1, (.c (.int .i64 0))), (2, (.c (.int .i64 0))), (3, (.c (.int .i64 lim))), (10, (.c (.bool true))), (11, (.c (.bool true)))]) (fun (q : Unit) => H) (fun (q : Unit) => 0) (by kernel_rfl) (fun _ => rfl) (by kernel_rfl) (by first | (simp; done) | omega) (by first | (simp; done) | (simp; omega) | omega) kl ?_ (fun q hq _ _ => ?_)
  · exact Next.mk () trivial wk
  simp (disch := first | omega | (simp only [go_sem]; first | done | omega)) only [go_sem]
  refine insNilT_a ?_
  simp (disch := first | omega | (simp only [go_sem]; first | done | omega)) only [go_sem]
  exact Ret.same (by simp) hk
theorem sortNilT_a {f : FuncId} (hk : K (.tup []) H) : ACalls Tryz.prog 65 [.c (.sl none 0), .c (.fn f [] [])] H K := by
  refine acalls Tryz.func65 rfl (by kernel_rfl) (by simp (disch := first | omega | (simp only [go_sem]; first | done | omega)) only [go_sem]) (fun hH => ?_)
  simp (disch := first | omega | (simp only [go_sem]; first | done | omega)) only [go_sem]
  have hw : IntKind.u64.wrap (0 : Int) = (0 : Int) := by decide
  try rw [hw]
  refine len0_a ?_
  simp (disch := first | omega | (simp only [go_sem]; first | done | omega)) only [go_sem]
  refine pdqNilT_a 0 ?_
  simp (disch := first | omega | (simp only [go_sem]; first | done | omega)) only [go_sem]
  exact Ret.same (Nat.le_refl _) hk
def ByT (g : FuncId) : Prop := (∀ args w, (callFunc g args).run Tryz.prog w = .ok (.enter g args) w) ∧ ∀ (x y : Smp) (W : World), smOk x → smOk y → Calls Tryz.prog g #[.agg (encV encS x).toArray, .agg (encV encS y).toArray] W fun e w' => e = .returned (.int .i64 (x.t - y.t)) ∧ ∃ q os', w' = Go.Sort.grow (W.drewN q) os'
theorem sortT_a {g : FuncId} (hg : ByT g) {i : Nat} (l : List Smp) (hi : H[i]? = some (grO 38 3 (l.map encS))) (hP : ∀ x ∈ l, smOk x) (hlen : l.length ≤ 1000000)
    (hk : ∀ l' : List Smp, l'.Perm l → l'.Pairwise (fun x y => ¬ y.t < x.t) → K (.tup []) (H.set i (grO 38 3 (l'.map encS)))) :
    ACalls Tryz.prog 65 [.c (grV i l), .c (.fn g [] [])] H K := by
  by_cases h : l = []
  · subst h
    have this : K (.tup []) (H.set i .dead) := hk [] (List.Perm.refl _) List.Pairwise.nil
    rw [set_same (o := .dead) hi] at this
    exact sortNilT_a this
  · have h2 : l.map encS ≠ [] := by simpa using h
    rw [grO_pos _ _ h2] at hi
    rw [grV_pos _ h]
    refine sortP_a sfLaySm (fun w => by kernel_rfl) (fun w => by kernel_rfl) encS_flat (by omega) smOk (fun x y => x.t - y.t) swoT hg.1 hg.2 l hi rfl h hP hlen (fun l' h3 h4 => ?_)
    have h5 : l' ≠ [] := by
      intro e
      subst e
      exact h (List.perm_nil.1 h3.symm)
    have := hk l' h3 (h4.imp fun h => by omega)
    rwa [grO_pos _ _ (by simpa using h5)] at this
theorem grV_lenQ {α β : Type} (i : Nat) (l : List α) (m : List β) (h : l.length = m.length) : grV i l = grV i m := by
  cases l with
  | nil => cases m with
    | nil => rfl
    | cons y ys => cases h
  | cons x xs => cases m with
    | nil => cases h
    | cons y ys =>
      show AC.sl (some (i, 0)) (xs.length + 1) = AC.sl (some (i, 0)) (ys.length + 1)
      rw [show xs.length + 1 = ys.length + 1 from h]
theorem fnd_mems {a b : List Smp} (ha : (a.map (·.t)).Nodup) (hb : (b.map (·.t)).Nodup) (h : ∀ x, x ∈ a ↔ x ∈ b) (t : Int) : fnd t a = fnd t b := by
  cases h3 : fnd t a with
  | some x =>
    obtain ⟨h4, rfl⟩ := fnd_some h3
    exact ((mem_fnd hb).1 ((h x).1 h4)).symm
  | none =>
    cases h5 : fnd t b with
    | none => rfl
    | some x =>
      obtain ⟨h4, rfl⟩ := fnd_some h5
      have := (mem_fnd ha).1 ((h x).2 h4)
      rw [h3] at this
      cases this
end Go.Proofs.YtnodfnjmhcjnfaaGreatDoor
/- What numbers' bytes are read as: no program in sight. Condition: what is said in each. -/
namespace Go.Proofs.YtnodfnjmhcjnfaaGreatDoor
open Go Go.RowKit
set_option maxRecDepth 100000
set_option linter.all false
theorem uv_vb (t : List UInt8) : ∀ u : Nat, uv (vb u ++ t) = some (u, (vb u).length) := by
  intro u
  induction u using Nat.strongRecOn with
  | ind u ih =>
    by_cases h : u < 128
    · rw [vb_lt h]
      have : (UInt8.ofNat u).toNat = u := by rw [UInt8.toNat_ofNat']; omega
      simp [uv, this, h]
    · have hc : (UInt8.ofNat (u % 128 + 128)).toNat = u % 128 + 128 := by rw [UInt8.toNat_ofNat']; omega
      rw [vb_ge (by omega), List.cons_append]
      simp only [uv, hc]
      rw [if_neg (by omega), ih (u / 128) (by omega)]
      simp only [Option.map_some, Option.some.injEq, Prod.mk.injEq, List.length_cons, and_true]
      omega
theorem unv_vb (t : List UInt8) {n : Int} (h : okN n) : unv (vb (zig n) ++ t) = some (n, (vb (zig n)).length) := by
  unfold unv
  rw [uv_vb]
  dsimp only
  rw [if_pos ⟨zig_most n h, rfl⟩, unz_zig]
theorem uvR_vb (p t : List UInt8) {n : Int} (h : okN n) : uvR (p ++ (vb (zig n) ++ t)) p.length = some (n, p.length + (vb (zig n)).length) := by
  unfold uvR
  rw [List.drop_left, unv_vb t h]
  rfl
end Go.Proofs.YtnodfnjmhcjnfaaGreatDoor
