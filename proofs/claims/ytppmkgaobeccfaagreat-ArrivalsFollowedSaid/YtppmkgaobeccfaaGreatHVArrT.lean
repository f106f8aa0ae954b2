/- Arrivals sorted by slices.SortFunc: the document's order, walked in the kit's words, and the kit's contract laid. Condition: numbers are not huge. -/
import Derived.Test.YtppmkgaobeccfaaGreatHVArrA
import Derived.Test.YtppmkgaobeccfaaGreatHVSrtK
import Derived.Test.YtppmkgaobeccfaaGreatProg
namespace Go.Proofs.YtppmkgaobeccfaaGreat
open Go Go.RowKit Go.Shelf
set_option maxRecDepth 100000
set_option linter.all false
set_option maxHeartbeats 2000000
variable {H : Hp} {K : AV → Hp → Prop}
def sfRenAr : Go.Shelf.Ren := { f := fun x => match x with | 6 => 97 | 14 => 147 | 15 => 137 | 20 => 172 | 21 => 188 | 22 => 189 | 23 => 190 | 24 => 191 | 25 => 192 | 26 => 193 | 27 => 194 | 28 => 183 | 29 => 184 | 46 => 234 | 47 => 211 | 48 => 212 | 49 => 235 | 50 => 236 | 57 => 252 | n => n, t := fun x => match x with | 0 => 0 | 3 => 3 | 4 => 4 | 5 => 5 | 9 => 9 | 22 => 29 | 24 => 61 | 25 => 102 | 39 => 165 | 45 => 203 | 46 => 204 | 50 => 157 | 53 => 210 | 55 => 212 | 66 => 227 | 70 => 231 | 76 => 249 | 77 => 250 | n => n, g := fun x => x }
theorem sfLayAr : SlLaysF0.n6 Tryz.prog sfRenAr := {
  mixed := by kernel_rfl
  f6 := ⟨(Tryz.f97).name, by kernel_rfl, by kernel_rfl⟩
  f14 := ⟨(Tryz.f147).name, by kernel_rfl, by kernel_rfl⟩
  f15 := by kernel_rfl
  f20 := ⟨(Tryz.f172).name, by kernel_rfl, by kernel_rfl⟩
  f21 := ⟨(Tryz.f188).name, by kernel_rfl, by kernel_rfl⟩
  f22 := ⟨(Tryz.f189).name, by kernel_rfl, by kernel_rfl⟩
  f23 := ⟨(Tryz.f190).name, by kernel_rfl, by kernel_rfl⟩
  f24 := ⟨(Tryz.f191).name, by kernel_rfl, by kernel_rfl⟩
  f25 := ⟨(Tryz.f192).name, by kernel_rfl, by kernel_rfl⟩
  f26 := ⟨(Tryz.f193).name, by kernel_rfl, by kernel_rfl⟩
  f27 := ⟨(Tryz.f194).name, by kernel_rfl, by kernel_rfl⟩
  f28 := by kernel_rfl
  f29 := by kernel_rfl
  f46 := ⟨(Tryz.f234).name, by kernel_rfl, by kernel_rfl⟩
  f47 := by kernel_rfl
  f48 := by kernel_rfl
  f49 := ⟨(Tryz.f235).name, by kernel_rfl, by kernel_rfl⟩
  f50 := ⟨(Tryz.f236).name, by kernel_rfl, by kernel_rfl⟩
  f57 := ⟨(Tryz.f252).name, by kernel_rfl, by kernel_rfl⟩
  t0 := by kernel_rfl
  a0 := fun w => by kernel_rfl
  z0 := fun w => by kernel_rfl
  v0 := fun w => by kernel_rfl
  t3 := by kernel_rfl
  a3 := fun w => by kernel_rfl
  z3 := fun w => by kernel_rfl
  v3 := fun w => by kernel_rfl
  t4 := by kernel_rfl
  a4 := fun w => by kernel_rfl
  z4 := fun w => by kernel_rfl
  v4 := fun w => by kernel_rfl
  t5 := by kernel_rfl
  a5 := fun w => by kernel_rfl
  z5 := fun w => by kernel_rfl
  v5 := fun w => by kernel_rfl
  t9 := by kernel_rfl
  a9 := fun w => by kernel_rfl
  z9 := fun w => by kernel_rfl
  v9 := fun w => by kernel_rfl
  t22 := by kernel_rfl
  a22 := fun w => by kernel_rfl
  z22 := fun w => by kernel_rfl
  v22 := fun w => by kernel_rfl
  t25 := by kernel_rfl
  a25 := fun w => by kernel_rfl
  z25 := fun w => by kernel_rfl
  v25 := fun w => by kernel_rfl
  t39 := by kernel_rfl
  a39 := fun w => by kernel_rfl
  z39 := fun w => by kernel_rfl
  v39 := fun w => by kernel_rfl
  t45 := by kernel_rfl
  a45 := fun w => by kernel_rfl
  z45 := fun w => by kernel_rfl
  v45 := fun w => by kernel_rfl
  t46 := by kernel_rfl
  a46 := fun w => by kernel_rfl
  z46 := fun w => by kernel_rfl
  v46 := fun w => by kernel_rfl
  t50 := by kernel_rfl
  a50 := fun w => by kernel_rfl
  z50 := fun w => by kernel_rfl
  v50 := fun w => by kernel_rfl
  t53 := by kernel_rfl
  a53 := fun w => by kernel_rfl
  z53 := fun w => by kernel_rfl
  v53 := fun w => by kernel_rfl
  t55 := by kernel_rfl
  a55 := fun w => by kernel_rfl
  z55 := fun w => by kernel_rfl
  v55 := fun w => by kernel_rfl
  t66 := by kernel_rfl
  a66 := fun w => by kernel_rfl
  z66 := fun w => by kernel_rfl
  v66 := fun w => by kernel_rfl
  t70 := by kernel_rfl
  a70 := fun w => by kernel_rfl
  z70 := fun w => by kernel_rfl
  v70 := fun w => by kernel_rfl
  t76 := by kernel_rfl
  a76 := fun w => by kernel_rfl
  z76 := fun w => by kernel_rfl
  v76 := fun w => by kernel_rfl
  t77 := by kernel_rfl
  a77 := fun w => by kernel_rfl
  z77 := fun w => by kernel_rfl
  v77 := fun w => by kernel_rfl }
theorem signW (n : Int) (W : World) : Calls Tryz.prog 85 #[.int .i64 n] W fun e w' => e = .returned (.int .i64 (if n < 0 then -1 else if 0 < n then 1 else 0)) ∧ w' = W := by
  rcases Int.lt_trichotomy n 0 with h | h | h
  · rw [if_pos h]
    go_enter Tryz.func85, Tryz.ntmps85
    go_wp2
    go_ret
    exact ⟨rfl, rfl⟩
  · subst h
    rw [if_neg (by omega), if_neg (by omega)]
    go_enter Tryz.func85, Tryz.ntmps85
    go_wp2
    go_ret
    exact ⟨rfl, rfl⟩
  · have h2 : ¬ n < 0 := by omega
    rw [if_neg h2, if_pos h]
    go_enter Tryz.func85, Tryz.ntmps85
    go_wp2
    go_ret
    exact ⟨rfl, rfl⟩
theorem cmpStrW (a b : ByteArray) (W : World) : Calls Tryz.prog 174 #[.string a, .string b] W fun e w' => e = .returned (.int .i64 (cmpS a b)) ∧ w' = W := by
  go_enter Tryz.func174, Tryz.ntmps174
  go_wp2
  rw [run_callFunc_extern Tryz.func209 (by kernel_rfl) (by kernel_rfl) (by kernel_rfl) (e := Extern.BytealgCompare.compare) (by kernel_rfl), Lib.run_compareString]
  simp only [Result.andThen]
  rw [Oper.upon_value]
  go_wp2
  go_ret
  exact ⟨rfl, rfl⟩
theorem strCmpW (a b : ByteArray) (W : World) : Calls Tryz.prog 131 #[.string a, .string b] W fun e w' => e = .returned (.int .i64 (cmpS a b)) ∧ w' = W := by
  go_enter Tryz.func131, Tryz.ntmps131
  go_wp2_with (go_at_call 174; refine (cmpStrW _ _ _).mono ?_; rintro e w' ⟨rfl, rfl⟩)
  go_ret
  exact ⟨rfl, rfl⟩
theorem wrapS {a b : Int} (ha : -1000000000000000 ≤ a ∧ a ≤ 1000000000000000) (hb : -1000000000000000 ≤ b ∧ b ≤ 1000000000000000) : IntKind.i64.wrap (a - b) = a - b := by rw [IntKind.wrap_i64]; omega
def arOk (x : Arr) : Prop := (-1000000000000000 ≤ x.t ∧ x.t ≤ 1000000000000000) ∧ (-1000000000000000 ≤ x.p.n ∧ x.p.n ≤ 1000000000000000)
theorem alloc2 (W : World) (o1 o2 : Obj) : (W.alloc o1).alloc o2 = Go.Sort.grow (W.drewN 0) #[o1, o2] := by
  unfold World.alloc Go.Sort.grow World.drewN
  simp only [Nat.add_zero]
  congr 1
theorem sgn_sub (a b : Int) : (if a - b < 0 then (-1 : Int) else if 0 < a - b then 1 else 0) = sgn a b := by
  unfold sgn
  repeat' split
  all_goals omega
theorem arrOrdW (x y : Arr) (W : World) (hx : arOk x) (hy : arOk y) : Calls Tryz.prog 61 #[.agg (encV encAr x).toArray, .agg (encV encAr y).toArray] W fun e w' => e = .returned (.int .i64 (arrC x y)) ∧ ∃ q os', w' = Go.Sort.grow (W.drewN q) os' := by
  have w1 := wrapS hx.1 hy.1
  have w2 := wrapS hx.2 hy.2
  show Calls _ _ #[.agg #[.string x.nd, .int .i64 x.t, .int .i64 x.p.n, .string x.p.tag, .int .i64 x.p.s.t, .int .i64 x.p.s.v, .int .i64 x.p.s.q], .agg #[.string y.nd, .int .i64 y.t, .int .i64 y.p.n, .string y.p.tag, .int .i64 y.p.s.t, .int .i64 y.p.s.v, .int .i64 y.p.s.q]] _ _
  have sg : ∀ (a b : Int) (W : World), Calls Tryz.prog 85 #[.int .i64 (a - b)] W fun e w' => e = .returned (.int .i64 (sgn a b)) ∧ w' = W := fun a b W => by
    rw [← sgn_sub]
    exact signW _ W
  unfold arrC
  by_cases h1 : x.t = y.t
  · rw [if_neg (by simp [h1])]
    by_cases h2 : x.nd = y.nd
    · rw [if_neg (by simp [h2])]
      have sg1 := sg x.p.n y.p.n
      generalize sgn x.p.n y.p.n = r at *
      clear sg w1
      go_enter Tryz.func61, Tryz.ntmps61
      go_wp2_with (go_at_call 85; refine (sg1 _).mono ?_; rintro e w' ⟨rfl, rfl⟩)
      go_ret
      exact ⟨rfl, 0, _, alloc2 _ _ _⟩
    · rw [if_pos h2]
      have sc1 := strCmpW x.nd y.nd
      generalize cmpS x.nd y.nd = r at *
      have h3 : ¬ x.nd.data.toList = y.nd.data.toList := fun h => h2 (data_inj (by simpa using h))
      clear sg w1 w2
      go_enter Tryz.func61, Tryz.ntmps61
      go_wp2_with (go_at_call 131; refine (sc1 _).mono ?_; rintro e w' ⟨rfl, rfl⟩)
      go_ret
      exact ⟨rfl, 0, _, alloc2 _ _ _⟩
  · rw [if_pos h1]
    have sg1 := sg x.t y.t
    generalize sgn x.t y.t = r at *
    clear sg w2
    go_enter Tryz.func61, Tryz.ntmps61
    go_wp2_with (go_at_call 85; refine (sg1 _).mono ?_; rintro e w' ⟨rfl, rfl⟩)
    go_ret
    exact ⟨rfl, 0, _, alloc2 _ _ _⟩
theorem encAr_flat (x : Arr) : (encAr x).length = 7 ∧ (encAr x).all acFlat = true := ⟨rfl, rfl⟩
theorem eg_order (args : Array Value) (w : World) : (callFunc 61 args).run Tryz.prog w = .ok (.enter 61 args) w := enters_of Tryz.func61 (by kernel_rfl) rfl args w
end Go.Proofs.YtppmkgaobeccfaaGreat
