/- strconv.Itoa, strconv.Atoi, strings.Count: from what the kit's contracts say of the world to the heap's words. Itoa: the table of powers of ten is known. -/
import Derived.Shelf.Strconv.Itoa3
import Derived.Shelf.Strconv.Atoi
import Derived.Test.YtflklkijfkmeiaaGreatDoorHVTxtN
import Derived.Test.YtflklkijfkmeiaaGreatDoorHVStr
import Derived.Test.YtflklkijfkmeiaaGreatDoorProg
namespace Go.Proofs.YtflklkijfkmeiaaGreatDoor
open Go Go.RowKit Go.Shelf
set_option maxRecDepth 100000
set_option linter.all false
set_option maxHeartbeats 4000000
variable {H : Hp} {K : AV → Hp → Prop}
def itoaRen : Go.Shelf.Ren := { f := fun x => match x with | 171 => 89 | 243 => 159 | 246 => 224 | 283 => 262 | 284 => 263 | 285 => 264 | 286 => 265 | 129 => 211 | 317 => 292 | 318 => 293 | 319 => 294 | 320 => 295 | 337 => 313 | 338 => 314 | n => n, t := fun x => match x with | 3 => 3 | 9 => 9 | 2 => 2 | 4 => 4 | 171 => 287 | 0 => 0 | 53 => 230 | 37 => 130 | 5 => 5 | 173 => 289 | 212 => 305 | 51 => 227 | 20 => 20 | 213 => 306 | 46 => 160 | 232 => 329 | 233 => 330 | n => n, g := fun x => match x with | 17 => 1 | 18 => 4 | 19 => 5 | n => n }
theorem itoaLay : LaysM.n171 Tryz.prog itoaRen := {
  mixed := by kernel_rfl
  f129 := by kernel_rfl
  f171 := by kernel_rfl
  f243 := by kernel_rfl
  f246 := by kernel_rfl
  f283 := by kernel_rfl
  f284 := by kernel_rfl
  f285 := by kernel_rfl
  f286 := by kernel_rfl
  f317 := by kernel_rfl
  f318 := by kernel_rfl
  f319 := by kernel_rfl
  f320 := by kernel_rfl
  f337 := by kernel_rfl
  f338 := by kernel_rfl
  t0 := by kernel_rfl
  a0 := fun w => by kernel_rfl
  z0 := fun w => by kernel_rfl
  v0 := fun w => by kernel_rfl
  t2 := by kernel_rfl
  a2 := fun w => by kernel_rfl
  z2 := fun w => by kernel_rfl
  v2 := fun w => by kernel_rfl
  t3 := by kernel_rfl
  a3 := fun w => by kernel_rfl
  z3 := fun w => by kernel_rfl
  v3 := fun w => by kernel_rfl
  t4 := by kernel_rfl
  a4 := fun w => by kernel_rfl
  z4 := fun w => by kernel_rfl
  v4 := fun w => by kernel_rfl
  t5 := by kernel_rfl
  a5 := fun w => by kernel_rfl
  z5 := fun w => by kernel_rfl
  v5 := fun w => by kernel_rfl
  t9 := by kernel_rfl
  a9 := fun w => by kernel_rfl
  z9 := fun w => by kernel_rfl
  v9 := fun w => by kernel_rfl
  t20 := by kernel_rfl
  a20 := fun w => by kernel_rfl
  z20 := fun w => by kernel_rfl
  v20 := fun w => by kernel_rfl
  t37 := by kernel_rfl
  a37 := fun w => by kernel_rfl
  z37 := fun w => by kernel_rfl
  v37 := fun w => by kernel_rfl
  t46 := by kernel_rfl
  a46 := fun w => by kernel_rfl
  z46 := fun w => by kernel_rfl
  v46 := fun w => by kernel_rfl
  t51 := by kernel_rfl
  a51 := fun w => by kernel_rfl
  z51 := fun w => by kernel_rfl
  v51 := fun w => by kernel_rfl
  t53 := by kernel_rfl
  a53 := fun w => by kernel_rfl
  z53 := fun w => by kernel_rfl
  v53 := fun w => by kernel_rfl
  t171 := by kernel_rfl
  a171 := fun w => by kernel_rfl
  z171 := fun w => by kernel_rfl
  v171 := fun w => by kernel_rfl
  t173 := by kernel_rfl
  a173 := fun w => by kernel_rfl
  z173 := fun w => by kernel_rfl
  v173 := fun w => by kernel_rfl
  t212 := by kernel_rfl
  a212 := fun w => by kernel_rfl
  z212 := fun w => by kernel_rfl
  v212 := fun w => by kernel_rfl
  t213 := by kernel_rfl
  a213 := fun w => by kernel_rfl
  z213 := fun w => by kernel_rfl
  t232 := by kernel_rfl
  a232 := fun w => by kernel_rfl
  z232 := fun w => by kernel_rfl
  v232 := fun w => by kernel_rfl
  t233 := by kernel_rfl
  a233 := fun w => by kernel_rfl
  z233 := fun w => by kernel_rfl
  v233 := fun w => by kernel_rfl
  g17 := by kernel_rfl
  g18 := by kernel_rfl
  g19 := by kernel_rfl
  i0 := by kernel_rfl
  i2 := by kernel_rfl
  i3 := by kernel_rfl
  i4 := by kernel_rfl
  i5 := by kernel_rfl
  i9 := by kernel_rfl
  i20 := by kernel_rfl
  i37 := by kernel_rfl
  i46 := by kernel_rfl
  i51 := by kernel_rfl
  i53 := by kernel_rfl
  i171 := by kernel_rfl
  i173 := by kernel_rfl
  i212 := by kernel_rfl
  i232 := by kernel_rfl
  i233 := by kernel_rfl
  m17 := by kernel_rfl
  m18 := by kernel_rfl
  m19 := by kernel_rfl }
def atoiRen : Go.Shelf.Ren := { f := fun x => match x with | 172 => 231 | 244 => 270 | 245 => 271 | 247 => 300 | 279 => 301 | 280 => 302 | 281 => 303 | 282 => 304 | 287 => 316 | 316 => 317 | 171 => 89 | 205 => 318 | 321 => 321 | 322 => 322 | 243 => 159 | 246 => 224 | 283 => 262 | 284 => 263 | 285 => 264 | 286 => 265 | 129 => 211 | 317 => 292 | 318 => 293 | 319 => 294 | 320 => 295 | 337 => 313 | 338 => 314 | n => n, t := fun x => match x with | 9 => 9 | 3 => 3 | 75 => 134 | 76 => 135 | 4 => 4 | 5 => 5 | 167 => 309 | 37 => 130 | 0 => 0 | 85 => 310 | 2 => 2 | 168 => 312 | 53 => 230 | 175 => 321 | 46 => 160 | 210 => 325 | 127 => 204 | 145 => 338 | 143 => 336 | 21 => 21 | 171 => 287 | 173 => 289 | 212 => 305 | 51 => 227 | 20 => 20 | 213 => 306 | 232 => 329 | 233 => 330 | 80 => 26 | n => n, g := fun x => match x with | 15 => 2 | 16 => 3 | 17 => 1 | 18 => 4 | 19 => 5 | n => n }
theorem atoiLay : Lays.n172 Tryz.prog atoiRen := {
  mixed := by kernel_rfl
  f129 := by kernel_rfl
  f171 := by kernel_rfl
  f172 := by kernel_rfl
  f205 := by kernel_rfl
  f243 := by kernel_rfl
  f244 := by kernel_rfl
  f245 := by kernel_rfl
  f246 := by kernel_rfl
  f247 := by kernel_rfl
  f279 := by kernel_rfl
  f280 := by kernel_rfl
  f281 := by kernel_rfl
  f282 := by kernel_rfl
  f283 := by kernel_rfl
  f284 := by kernel_rfl
  f285 := by kernel_rfl
  f286 := by kernel_rfl
  f287 := by kernel_rfl
  f316 := by kernel_rfl
  f317 := by kernel_rfl
  f318 := by kernel_rfl
  f319 := by kernel_rfl
  f320 := by kernel_rfl
  f321 := by kernel_rfl
  f322 := by kernel_rfl
  f337 := by kernel_rfl
  f338 := by kernel_rfl
  t0 := by kernel_rfl
  a0 := fun w => by kernel_rfl
  z0 := fun w => by kernel_rfl
  v0 := fun w => by kernel_rfl
  t2 := by kernel_rfl
  a2 := fun w => by kernel_rfl
  z2 := fun w => by kernel_rfl
  v2 := fun w => by kernel_rfl
  t3 := by kernel_rfl
  a3 := fun w => by kernel_rfl
  z3 := fun w => by kernel_rfl
  v3 := fun w => by kernel_rfl
  t4 := by kernel_rfl
  a4 := fun w => by kernel_rfl
  z4 := fun w => by kernel_rfl
  v4 := fun w => by kernel_rfl
  t5 := by kernel_rfl
  a5 := fun w => by kernel_rfl
  z5 := fun w => by kernel_rfl
  v5 := fun w => by kernel_rfl
  t9 := by kernel_rfl
  a9 := fun w => by kernel_rfl
  z9 := fun w => by kernel_rfl
  v9 := fun w => by kernel_rfl
  t20 := by kernel_rfl
  a20 := fun w => by kernel_rfl
  z20 := fun w => by kernel_rfl
  v20 := fun w => by kernel_rfl
  t21 := by kernel_rfl
  a21 := fun w => by kernel_rfl
  z21 := fun w => by kernel_rfl
  v21 := fun w => by kernel_rfl
  t37 := by kernel_rfl
  a37 := fun w => by kernel_rfl
  z37 := fun w => by kernel_rfl
  v37 := fun w => by kernel_rfl
  t46 := by kernel_rfl
  a46 := fun w => by kernel_rfl
  z46 := fun w => by kernel_rfl
  v46 := fun w => by kernel_rfl
  t51 := by kernel_rfl
  a51 := fun w => by kernel_rfl
  z51 := fun w => by kernel_rfl
  v51 := fun w => by kernel_rfl
  t53 := by kernel_rfl
  a53 := fun w => by kernel_rfl
  z53 := fun w => by kernel_rfl
  v53 := fun w => by kernel_rfl
  t75 := by kernel_rfl
  a75 := fun w => by kernel_rfl
  z75 := fun w => by kernel_rfl
  v75 := fun w => by kernel_rfl
  t76 := by kernel_rfl
  a76 := fun w => by kernel_rfl
  z76 := fun w => by kernel_rfl
  v76 := fun w => by kernel_rfl
  t85 := by kernel_rfl
  a85 := fun w => by kernel_rfl
  z85 := fun w => by kernel_rfl
  v85 := fun w => by kernel_rfl
  t127 := by kernel_rfl
  a127 := fun w => by kernel_rfl
  z127 := fun w => by kernel_rfl
  v127 := fun w => by kernel_rfl
  t143 := by kernel_rfl
  a143 := fun w => by kernel_rfl
  z143 := fun w => by kernel_rfl
  v143 := fun w => by kernel_rfl
  t145 := by kernel_rfl
  a145 := fun w => by kernel_rfl
  z145 := fun w => by kernel_rfl
  v145 := fun w => by kernel_rfl
  t167 := by kernel_rfl
  a167 := fun w => by kernel_rfl
  z167 := fun w => by kernel_rfl
  v167 := fun w => by kernel_rfl
  t168 := by kernel_rfl
  a168 := fun w => by kernel_rfl
  z168 := fun w => by kernel_rfl
  v168 := fun w => by kernel_rfl
  t171 := by kernel_rfl
  a171 := fun w => by kernel_rfl
  z171 := fun w => by kernel_rfl
  v171 := fun w => by kernel_rfl
  t173 := by kernel_rfl
  a173 := fun w => by kernel_rfl
  z173 := fun w => by kernel_rfl
  v173 := fun w => by kernel_rfl
  t175 := by kernel_rfl
  a175 := fun w => by kernel_rfl
  z175 := fun w => by kernel_rfl
  v175 := fun w => by kernel_rfl
  t210 := by kernel_rfl
  a210 := fun w => by kernel_rfl
  z210 := fun w => by kernel_rfl
  v210 := fun w => by kernel_rfl
  t212 := by kernel_rfl
  a212 := fun w => by kernel_rfl
  z212 := fun w => by kernel_rfl
  v212 := fun w => by kernel_rfl
  t213 := by kernel_rfl
  a213 := fun w => by kernel_rfl
  z213 := fun w => by kernel_rfl
  t232 := by kernel_rfl
  a232 := fun w => by kernel_rfl
  z232 := fun w => by kernel_rfl
  v232 := fun w => by kernel_rfl
  t233 := by kernel_rfl
  a233 := fun w => by kernel_rfl
  z233 := fun w => by kernel_rfl
  v233 := fun w => by kernel_rfl
  g15 := by kernel_rfl
  g16 := by kernel_rfl
  g17 := by kernel_rfl
  g18 := by kernel_rfl
  g19 := by kernel_rfl }
theorem powTab (w : World) (B : Nat → Prop) (h : Kn B w) : Lib.TabIs Tryz.prog w "internal/strconv.uint64pow10" .u64 Lib.pow10Tab := by
  have hg : Tryz.prog.globalNamed "internal/strconv.uint64pow10" = some 1 := by kernel_rfl
  obtain ⟨_, ty, fr, h2⟩ := h.tab (1, Lib.pow10Tab.map fun z => Value.int .u64 z) (by unfold knownG; exact List.mem_singleton.2 (by kernel_rfl))
  unfold Lib.TabIs World.var?
  rw [hg]
  dsimp only [Option.bind_some]
  rw [h2]
theorem itoa_a (n : Int) (h0 : -9223372036854775808 ≤ n) (h1 : n ≤ 9223372036854775807) (hk : K (.c (.str ⟨(Lib.itoa n).toArray⟩)) H) : ACalls Tryz.prog 89 [(.c (.int .i64 n))] H K := by
  intro B w0 ι w vs hs hr ho
  obtain ⟨l⟩ := vs
  match l, hr with
  | [v], hr =>
    have hv : v = .int .i64 n := hr.1
    subst hv
    have htab := powTab w B (hs.known.to (fun _ h => h) hs.below.block)
    refine Calls.mono (Any.strconv_Itoa itoaLay n h0 h1 w htab) ?_
    rintro e w' ⟨rfl, k, os, rfl⟩
    have hs1 : Sim B w0 ι H (w.drewN k) := hs.heap rfl rfl rfl rfl
    have hs2 := hs1.grown (w' := Go.Sort.grow (w.drewN k) os) ⟨rfl, rfl, rfl, by unfold Go.Sort.grow; simp, fun q hq _ => by unfold Go.Sort.grow; dsimp only; rw [Array.getElem?_append_left hq]⟩
    exact ⟨ι, _, .c (.str ⟨(Lib.itoa n).toArray⟩), _, rfl, Agree.refl _ _, Nat.le_refl _, hs2, rfl, trivial, hk⟩
theorem atoi_a (s : ByteArray) (n : Int) (hl : s.size ≤ 18) (h : Lib.atoi s.data.toList = some n) (hk : K (.tup [(.c (.int .i64 n)), .c .nili]) H) : ACalls Tryz.prog 231 [(.c (.str s))] H K := by
  intro B w0 ι w vs hs hr ho
  obtain ⟨l⟩ := vs
  match l, hr with
  | [v], hr =>
    have hv : v = .string s := hr.1
    subst hv
    refine Calls.mono (Any.strconv_Atoi atoiLay s n hl h w) ?_
    rintro e w' ⟨rfl, t, rfl⟩
    have hs1 : Sim B w0 ι H (Lib.bytesWorld w (atoiRen.t 5) t) := by
      refine hs.grown ⟨rfl, rfl, rfl, ?_, fun q hq _ => ?_⟩
      · rw [Lib.bytesWorld_size]; omega
      · exact Lib.bytesWorld_at_old w _ t q hq
    exact ⟨ι, _, .tup [(.c (.int .i64 n)), .c .nili], _, rfl, Agree.refl _ _, Nat.le_refl _, hs1, ⟨[.int .i64 n, .nilIface], rfl, rfl, rfl, trivial⟩, by simp [AV.ok, AV.ok1, AC.ok], hk⟩
theorem countX (f : FuncId) (hf : externs Tryz.prog f Extern.BytealgCount.count) (s : ByteArray) (c : Int) (hk : K (.c (.int .i64 (Lib.countByte s.data.toList c.toNat.toUInt8))) H) : AExt Tryz.prog f [(.c (.str s)), .c (.int .u8 c)] H K := by
  refine ⟨_, hf, fun B w0 ι w vs hs hr ho => ?_⟩
  obtain ⟨l⟩ := vs
  match l, hr with
  | [u, v], hr =>
    have h1 : u = .string s := hr.1
    have h2 : v = .int .u8 c := hr.2.1
    subst h1; subst h2
    refine ⟨_, w, Lib.run_countString s c w, ι, _, (.c (.int .i64 (Lib.countByte s.data.toList c.toNat.toUInt8))), H, rfl, Agree.refl _ _, Nat.le_refl _, hs, ?_, ?_, hk⟩
    · rfl
    · trivial
theorem ext_count : externs Tryz.prog 299 Extern.BytealgCount.count := ⟨_, rfl, by kernel_rfl, by kernel_rfl, by kernel_rfl, by kernel_rfl⟩
end Go.Proofs.YtflklkijfkmeiaaGreatDoor
