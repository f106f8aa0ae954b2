/- Several texts in one: strconv, and what follows. No condition. -/
import Derived.Shelf.Strconv.Itoa3
import Derived.Shelf.Strconv.Atoi
import Derived.Test.YtagoolooikpabaaGreatDoorHVTxtN
import Derived.Test.YtagoolooikpabaaGreatDoorHVStr
import Derived.Shelf.Strconv.AtoiAll
set_option linter.all false
namespace Go.Proofs.YtagoolooikpabaaGreatDoor
open Go Go.RowKit Go.Shelf
set_option maxRecDepth 100000
set_option maxHeartbeats 4000000
variable {H : Hp} {K : AV → Hp → Prop}
def itoaRen : Go.Shelf.Ren := { f := fun x => match x with | 171 => 80 | 243 => 132 | 246 => 181 | 283 => 228 | 284 => 229 | 285 => 230 | 286 => 231 | 129 => 216 | 317 => 268 | 318 => 269 | 319 => 270 | 320 => 271 | 337 => 289 | 338 => 290 | n => n, t := fun x => match x with | 3 => 3 | 9 => 9 | 2 => 2 | 4 => 4 | 171 => 296 | 0 => 0 | 53 => 291 | 37 => 130 | 5 => 5 | 173 => 298 | 212 => 337 | 51 => 147 | 20 => 20 | 213 => 338 | 46 => 236 | 232 => 365 | 233 => 366 | n => n, g := fun x => match x with | 17 => 3 | 18 => 4 | 19 => 5 | n => n }
theorem itoaLay : LaysM.n171 Tryz.prog itoaRen := {
 mixed := by kernel_rfl
 f129 := by kernel_rfl
 f171 := by kernel_rfl
 f243 := by kernel_rfl
 f246 := by kernel_rfl
 f283 := by kernel_rfl
 f284 := by kernel_rfl
 f285 := by kernel_rfl
 f286 := by kernel_rfl
 f317 := by kernel_rfl
 f318 := by kernel_rfl
 f319 := by kernel_rfl
 f320 := by kernel_rfl
 f337 := by kernel_rfl
 f338 := by kernel_rfl
 t0 := by kernel_rfl
 a0 := fun w => by kernel_rfl
 z0 := fun w => by kernel_rfl
 v0 := fun w => by kernel_rfl
 t2 := by kernel_rfl
 a2 := fun w => by kernel_rfl
 z2 := fun w => by kernel_rfl
 v2 := fun w => by kernel_rfl
 t3 := by kernel_rfl
 a3 := fun w => by kernel_rfl
 z3 := fun w => by kernel_rfl
 v3 := fun w => by kernel_rfl
 t4 := by kernel_rfl
 a4 := fun w => by kernel_rfl
 z4 := fun w => by kernel_rfl
 v4 := fun w => by kernel_rfl
 t5 := by kernel_rfl
 a5 := fun w => by kernel_rfl
 z5 := fun w => by kernel_rfl
 v5 := fun w => by kernel_rfl
 t9 := by kernel_rfl
 a9 := fun w => by kernel_rfl
 z9 := fun w => by kernel_rfl
 v9 := fun w => by kernel_rfl
 t20 := by kernel_rfl
 a20 := fun w => by kernel_rfl
 z20 := fun w => by kernel_rfl
 v20 := fun w => by kernel_rfl
 t37 := by kernel_rfl
 a37 := fun w => by kernel_rfl
 z37 := fun w => by kernel_rfl
 v37 := fun w => by kernel_rfl
 t46 := by kernel_rfl
 a46 := fun w => by kernel_rfl
 z46 := fun w => by kernel_rfl
 v46 := fun w => by kernel_rfl
 t51 := by kernel_rfl
 a51 := fun w => by kernel_rfl
 z51 := fun w => by kernel_rfl
 v51 := fun w => by kernel_rfl
 t53 := by kernel_rfl
 a53 := fun w => by kernel_rfl
 z53 := fun w => by kernel_rfl
 v53 := fun w => by kernel_rfl
 t171 := by kernel_rfl
 a171 := fun w => by kernel_rfl
 z171 := fun w => by kernel_rfl
 v171 := fun w => by kernel_rfl
 t173 := by kernel_rfl
 a173 := fun w => by kernel_rfl
 z173 := fun w => by kernel_rfl
 v173 := fun w => by kernel_rfl
 t212 := by kernel_rfl
 a212 := fun w => by kernel_rfl
 z212 := fun w => by kernel_rfl
 v212 := fun w => by kernel_rfl
 t213 := by kernel_rfl
 a213 := fun w => by kernel_rfl
 z213 := fun w => by kernel_rfl
 t232 := by kernel_rfl
 a232 := fun w => by kernel_rfl
 z232 := fun w => by kernel_rfl
 v232 := fun w => by kernel_rfl
 t233 := by kernel_rfl
 a233 := fun w => by kernel_rfl
 z233 := fun w => by kernel_rfl
 v233 := fun w => by kernel_rfl
 g17 := by kernel_rfl
 g18 := by kernel_rfl
 g19 := by kernel_rfl
 i0 := by kernel_rfl
 i2 := by kernel_rfl
 i3 := by kernel_rfl
 i4 := by kernel_rfl
 i5 := by kernel_rfl
 i9 := by kernel_rfl
 i20 := by kernel_rfl
 i37 := by kernel_rfl
 i46 := by kernel_rfl
 i51 := by kernel_rfl
 i53 := by kernel_rfl
 i171 := by kernel_rfl
 i173 := by kernel_rfl
 i212 := by kernel_rfl
 i232 := by kernel_rfl
 i233 := by kernel_rfl
 m17 := by kernel_rfl
 m18 := by kernel_rfl
 m19 := by kernel_rfl }
def atoiRen : Go.Shelf.Ren := { f := fun x => match x with | 172 => 294 | 244 => 306 | 245 => 307 | 247 => 310 | 279 => 311 | 280 => 312 | 281 => 313 | 282 => 314 | 287 => 315 | 316 => 316 | 171 => 80 | 205 => 317 | 321 => 318 | 322 => 319 | 243 => 132 | 246 => 181 | 283 => 228 | 284 => 229 | 285 => 230 | 286 => 231 | 129 => 216 | 317 => 268 | 318 => 269 | 319 => 270 | 320 => 271 | 337 => 289 | 338 => 290 | n => n, t := fun x => match x with | 9 => 9 | 3 => 3 | 75 => 226 | 76 => 227 | 4 => 4 | 5 => 5 | 167 => 368 | 37 => 130 | 0 => 0 | 85 => 369 | 2 => 2 | 168 => 371 | 53 => 291 | 175 => 374 | 46 => 236 | 210 => 377 | 127 => 281 | 145 => 382 | 143 => 380 | 21 => 21 | 171 => 296 | 173 => 298 | 212 => 337 | 51 => 147 | 20 => 20 | 213 => 338 | 232 => 365 | 233 => 366 | 80 => 162 | n => n, g := fun x => match x with | 15 => 6 | 16 => 7 | 17 => 3 | 18 => 4 | 19 => 5 | n => n }
theorem atoiLay : Lays.n172 Tryz.prog atoiRen := {
 mixed := by kernel_rfl
 f129 := by kernel_rfl
 f171 := by kernel_rfl
 f172 := by kernel_rfl
 f205 := by kernel_rfl
 f243 := by kernel_rfl
 f244 := by kernel_rfl
 f245 := by kernel_rfl
 f246 := by kernel_rfl
 f247 := by kernel_rfl
 f279 := by kernel_rfl
 f280 := by kernel_rfl
 f281 := by kernel_rfl
 f282 := by kernel_rfl
 f283 := by kernel_rfl
 f284 := by kernel_rfl
 f285 := by kernel_rfl
 f286 := by kernel_rfl
 f287 := by kernel_rfl
 f316 := by kernel_rfl
 f317 := by kernel_rfl
 f318 := by kernel_rfl
 f319 := by kernel_rfl
 f320 := by kernel_rfl
 f321 := by kernel_rfl
 f322 := by kernel_rfl
 f337 := by kernel_rfl
 f338 := by kernel_rfl
 t0 := by kernel_rfl
 a0 := fun w => by kernel_rfl
 z0 := fun w => by kernel_rfl
 v0 := fun w => by kernel_rfl
 t2 := by kernel_rfl
 a2 := fun w => by kernel_rfl
 z2 := fun w => by kernel_rfl
 v2 := fun w => by kernel_rfl
 t3 := by kernel_rfl
 a3 := fun w => by kernel_rfl
 z3 := fun w => by kernel_rfl
 v3 := fun w => by kernel_rfl
 t4 := by kernel_rfl
 a4 := fun w => by kernel_rfl
 z4 := fun w => by kernel_rfl
 v4 := fun w => by kernel_rfl
 t5 := by kernel_rfl
 a5 := fun w => by kernel_rfl
 z5 := fun w => by kernel_rfl
 v5 := fun w => by kernel_rfl
 t9 := by kernel_rfl
 a9 := fun w => by kernel_rfl
 z9 := fun w => by kernel_rfl
 v9 := fun w => by kernel_rfl
 t20 := by kernel_rfl
 a20 := fun w => by kernel_rfl
 z20 := fun w => by kernel_rfl
 v20 := fun w => by kernel_rfl
 t21 := by kernel_rfl
 a21 := fun w => by kernel_rfl
 z21 := fun w => by kernel_rfl
 v21 := fun w => by kernel_rfl
 t37 := by kernel_rfl
 a37 := fun w => by kernel_rfl
 z37 := fun w => by kernel_rfl
 v37 := fun w => by kernel_rfl
 t46 := by kernel_rfl
 a46 := fun w => by kernel_rfl
 z46 := fun w => by kernel_rfl
 v46 := fun w => by kernel_rfl
 t51 := by kernel_rfl
 a51 := fun w => by kernel_rfl
 z51 := fun w => by kernel_rfl
 v51 := fun w => by kernel_rfl
 t53 := by kernel_rfl
 a53 := fun w => by kernel_rfl
 z53 := fun w => by kernel_rfl
 v53 := fun w => by kernel_rfl
 t75 := by kernel_rfl
 a75 := fun w => by kernel_rfl
 z75 := fun w => by kernel_rfl
 v75 := fun w => by kernel_rfl
 t76 := by kernel_rfl
 a76 := fun w => by kernel_rfl
 z76 := fun w => by kernel_rfl
 v76 := fun w => by kernel_rfl
 t85 := by kernel_rfl
 a85 := fun w => by kernel_rfl
 z85 := fun w => by kernel_rfl
 v85 := fun w => by kernel_rfl
 t127 := by kernel_rfl
 a127 := fun w => by kernel_rfl
 z127 := fun w => by kernel_rfl
 v127 := fun w => by kernel_rfl
 t143 := by kernel_rfl
 a143 := fun w => by kernel_rfl
 z143 := fun w => by kernel_rfl
 v143 := fun w => by kernel_rfl
 t145 := by kernel_rfl
 a145 := fun w => by kernel_rfl
 z145 := fun w => by kernel_rfl
 v145 := fun w => by kernel_rfl
 t167 := by kernel_rfl
 a167 := fun w => by kernel_rfl
 z167 := fun w => by kernel_rfl
 v167 := fun w => by kernel_rfl
 t168 := by kernel_rfl
 a168 := fun w => by kernel_rfl
 z168 := fun w => by kernel_rfl
 v168 := fun w => by kernel_rfl
 t171 := by kernel_rfl
 a171 := fun w => by kernel_rfl
 z171 := fun w => by kernel_rfl
 v171 := fun w => by kernel_rfl
 t173 := by kernel_rfl
 a173 := fun w => by kernel_rfl
 z173 := fun w => by kernel_rfl
 v173 := fun w => by kernel_rfl
 t175 := by kernel_rfl
 a175 := fun w => by kernel_rfl
 z175 := fun w => by kernel_rfl
 v175 := fun w => by kernel_rfl
 t210 := by kernel_rfl
 a210 := fun w => by kernel_rfl
 z210 := fun w => by kernel_rfl
 v210 := fun w => by kernel_rfl
 t212 := by kernel_rfl
 a212 := fun w => by kernel_rfl
 z212 := fun w => by kernel_rfl
 v212 := fun w => by kernel_rfl
 t213 := by kernel_rfl
 a213 := fun w => by kernel_rfl
 z213 := fun w => by kernel_rfl
 t232 := by kernel_rfl
 a232 := fun w => by kernel_rfl
 z232 := fun w => by kernel_rfl
 v232 := fun w => by kernel_rfl
 t233 := by kernel_rfl
 a233 := fun w => by kernel_rfl
 z233 := fun w => by kernel_rfl
 v233 := fun w => by kernel_rfl
 g15 := by kernel_rfl
 g16 := by kernel_rfl
 g17 := by kernel_rfl
 g18 := by kernel_rfl
 g19 := by kernel_rfl }
theorem powTab (w : World) (B : Nat → Prop) (h : Kn B w) : Lib.TabIs Tryz.prog w "internal/strconv.uint64pow10" .u64 Lib.pow10Tab := by
 have hg : Tryz.prog.globalNamed "internal/strconv.uint64pow10" = some 3 := by kernel_rfl
 obtain ⟨_, ty, fr, h2⟩ := h.tab (3, Lib.pow10Tab.map fun z => Value.int .u64 z) (by unfold knownG; exact List.mem_singleton.2 kRf)
 unfold Lib.TabIs World.var?
 rw [hg]
 dsimp only [Option.bind_some]
 rw [h2]
theorem itoa_a (n : Int) (h0 : -9223372036854775808 ≤ n) (h1 : n ≤ 9223372036854775807) (hk : K (.c (.str ⟨(Lib.itoa n).toArray⟩)) H) : ACalls Tryz.prog 80 [(.c (.int .i64 n))] H K := by
 intro B w0 ι w vs hs hr ho
 obtain ⟨l⟩ := vs
 match l, hr with
 | [v], hr =>
  have hv : v = .int .i64 n := hr.1
  subst hv
  have htab := powTab w B (hs.known.to (fun _ h => h) hs.below.block)
  refine Calls.mono (Any.strconv_Itoa itoaLay n h0 h1 w htab) ?_
  rintro e w' ⟨rfl, k, os, rfl⟩
  have hs1 : Sim B w0 ι H (w.drewN k) := hs.heap rfl rfl rfl rfl
  have hs2 := hs1.grown (w' := Go.Sort.grow (w.drewN k) os) ⟨rfl, rfl, rfl, by unfold Go.Sort.grow; simp, fun q hq _ => by unfold Go.Sort.grow; dsimp only; rw [Array.getElem?_append_left hq]⟩
  exact ⟨ι, _, .c (.str ⟨(Lib.itoa n).toArray⟩), _, rfl, Agree.refl _ _, Nat.le_refl _, hs2, rfl, trivial, hk⟩
theorem atoi_a (s : ByteArray) (n : Int) (hl : s.size ≤ 18) (h : Lib.atoi s.data.toList = some n) (hk : K (.tup [(.c (.int .i64 n)), .c .nili]) H) : ACalls Tryz.prog 294 [(.c (.str s))] H K := by
 intro B w0 ι w vs hs hr ho
 obtain ⟨l⟩ := vs
 match l, hr with
 | [v], hr =>
  have hv : v = .string s := hr.1
  subst hv
  refine Calls.mono (Any.strconv_Atoi atoiLay s n hl h w) ?_
  rintro e w' ⟨rfl, t, rfl⟩
  have hs1 : Sim B w0 ι H (Lib.bytesWorld w (atoiRen.t 5) t) := by
   refine hs.grown ⟨rfl, rfl, rfl, ?_, fun q hq _ => ?_⟩
   ·rw [Lib.bytesWorld_size]; omega
   ·exact Lib.bytesWorld_at_old w _ t q hq
  exact ⟨ι, _, .tup [(.c (.int .i64 n)), .c .nili], _, rfl, Agree.refl _ _, Nat.le_refl _, hs1, ⟨[.int .i64 n, .nilIface], rfl, rfl, rfl, trivial⟩, by simp [AV.ok, AV.ok1, AC.ok], hk⟩
end Go.Proofs.YtagoolooikpabaaGreatDoor
namespace Go.Proofs.YtagoolooikpabaaGreatDoor
open Go Go.RowKit Go.Shelf
set_option maxRecDepth 100000
set_option maxHeartbeats 4000000
variable {H : Hp} {K : AV → Hp → Prop}
theorem atoiLayC : LaysC.n172 Tryz.prog atoiRen := { atoiLay with
 t80 := by kernel_rfl
 a80 := fun w => by kernel_rfl
 z80 := fun w => by kernel_rfl
 v80 := fun w => by kernel_rfl
 i0 := by kernel_rfl
 i2 := by kernel_rfl
 i3 := by kernel_rfl
 i4 := by kernel_rfl
 i5 := by kernel_rfl
 i9 := by kernel_rfl
 i20 := by kernel_rfl
 i21 := by kernel_rfl
 i37 := by kernel_rfl
 i46 := by kernel_rfl
 i51 := by kernel_rfl
 i53 := by kernel_rfl
 i75 := by kernel_rfl
 i76 := by kernel_rfl
 i80 := by kernel_rfl
 i85 := by kernel_rfl
 i127 := by kernel_rfl
 i143 := by kernel_rfl
 i145 := by kernel_rfl
 i167 := by kernel_rfl
 i168 := by kernel_rfl
 i171 := by kernel_rfl
 i173 := by kernel_rfl
 i175 := by kernel_rfl
 i210 := by kernel_rfl
 i212 := by kernel_rfl
 i232 := by kernel_rfl
 i233 := by kernel_rfl
 m15 := by kernel_rfl
 m16 := by kernel_rfl
 m17 := by kernel_rfl
 m18 := by kernel_rfl
 m19 := by kernel_rfl
 c0 := by kernel_rfl
 c2 := by kernel_rfl
 c3 := by kernel_rfl
 c4 := by kernel_rfl
 c5 := by kernel_rfl
 c9 := by kernel_rfl
 c20 := by kernel_rfl
 c21 := by kernel_rfl
 c37 := by kernel_rfl
 c46 := by kernel_rfl
 c51 := by kernel_rfl
 c53 := by kernel_rfl
 c75 := by kernel_rfl
 c76 := by kernel_rfl
 c80 := by kernel_rfl
 c85 := by kernel_rfl
 c127 := by kernel_rfl
 c143 := by kernel_rfl
 c145 := by kernel_rfl
 c167 := by kernel_rfl
 c168 := by kernel_rfl
 c171 := by kernel_rfl
 c173 := by kernel_rfl
 c175 := by kernel_rfl
 c210 := by kernel_rfl
 c212 := by kernel_rfl
 c213 := by kernel_rfl
 c232 := by kernel_rfl
 c233 := by kernel_rfl }
theorem ifcCell {w : World} {g : Nat} (h : ifcAt w g) : ∃ ev, w.cell? ⟨g, 0, none⟩ = some ev ∧ (ev = .nilIface ∨ ∃ t u, ev = .iface t u) := by
 obtain ⟨cs, ty, fr, ev, h1, h2, h3⟩ := h
 exact ⟨ev, by simp [World.cell?, h1, h2], h3⟩
theorem atoiAny_a (s : ByteArray) (hs : s.size ≤ 281474976710656) (hk1 : ∀ v, Lib.atoiAll s.data.toList = .ok v → K (.tup [(.c (.int .i64 v)), .c .nili]) H) (hk2 : (∀ v, Lib.atoiAll s.data.toList ≠ .ok v) → ∀ v : Int, K (.tup [(.c (.int .i64 v)), .c .ifc]) H) : ACalls Tryz.prog 294 [(.c (.str s))] H K := by
 intro B w0 ι w vs hs' hr ho
 obtain ⟨l⟩ := vs
 match l, hr with
 | [v], hr =>
  have hv : v = .string s := hr.1
  subst hv
  have kn : Kn B w := hs'.known.to (fun _ h => h) hs'.below.block
  obtain ⟨e1, c1, d1⟩ := ifcCell (kn.ifc 6 (by unfold knownI; simp)).2
  obtain ⟨e2, c2, d2⟩ := ifcCell (kn.ifc 7 (by unfold knownI; simp)).2
  have hgr : ∀ w', Below w.heap.size w w' → Sim B w0 ι H w' := fun w' h3 => hs'.grown ⟨h3.os, h3.tape, h3.output, h3.size, fun q hq _ => h3.block q hq⟩
  rcases h : Lib.atoiAll s.data.toList with v | _ | _
  ·
   have hk := hk1 v h
   refine Calls.mono (Any.strconv_Atoi_ok atoiLayC s oMg v h w) ?_
   rintro e w' ⟨rfl, hw⟩
   have hs1 : Sim B w0 ι H w' := by
    rcases hw with rfl | ⟨t, rfl⟩
    ·exact hs'
    ·exact hgr _ (Lib.bytesWorld_below _ _ _)
   exact ⟨ι, _, .tup [(.c (.int .i64 v)), .c .nili], _, rfl, Agree.refl _ _, Nat.le_refl _, hs1, ⟨[.int .i64 v, .nilIface], rfl, rfl, rfl, trivial⟩, by simp [AV.ok, AV.ok1, AC.ok], hk⟩
  ·
   refine Calls.mono (Any.strconv_Atoi_syntax atoiLayC s hs h e1 w c1 d1) ?_
   rintro e w' ⟨N, rfl, h1, h2, h3⟩
   exact ⟨ι, _, .tup [(.c (.int .i64 0)), .c .ifc], _, rfl, Agree.refl _ _, Nat.le_refl _, hgr _ h3, ⟨[.int .i64 0, .iface _ _], rfl, rfl, ⟨_, _, rfl⟩, trivial⟩, by simp [AV.ok, AV.ok1, AC.ok], hk2 (fun v e => by rw [h] at e; cases e) 0⟩
  ·
   refine Calls.mono (Any.strconv_Atoi_range atoiLayC s hs h e2 w c2 d2) ?_
   rintro e w' ⟨N, rfl, h1, h2, h3⟩
   exact ⟨ι, _, .tup [(.c (.int .i64 (Lib.atoiSat s.data.toList))), .c .ifc], _, rfl, Agree.refl _ _, Nat.le_refl _, hgr _ h3, ⟨[.int .i64 _, .iface _ _], rfl, rfl, ⟨_, _, rfl⟩, trivial⟩, by simp [AV.ok, AV.ok1, AC.ok], hk2 (fun v e => by rw [h] at e; cases e) _⟩
end Go.Proofs.YtagoolooikpabaaGreatDoor
