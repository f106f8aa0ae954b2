/- Several texts in one: sync, and what follows. No condition. -/
import Derived.Test.YtagoolooikpabaaGreatDoorHVGA
import Derived.Tactics2
import Derived.Defers
import Derived.Laws.Pointers
import Derived.Laws.LoneSync
import Derived.Laws.NewBlocks
import Derived.RegionTactic
import Derived.RegionCalls
import Derived.ChangeAlike
import Derived.Shelf.Abstract
import Derived.Deep.LoopGhost
import Derived.Deep.WholeRow
import Derived.Lib.FrozenHead
import Derived.Lib.SliceRun
set_option linter.all false
namespace Go.Proofs.YtagoolooikpabaaGreatDoor
open Go Go.RowKit Go.Shelf
set_option maxRecDepth 100000
set_option maxHeartbeats 2000000
theorem rcDis (w : World) : (callFunc 276 #[]).run Tryz.prog w = .ok (.value (.tuple #[])) w := run_call_mark0 Tryz.func276 (by kernel_rfl) (by kernel_rfl) (by kernel_rfl) .disable (by kernel_rfl) w
theorem rcEn (w : World) : (callFunc 278 #[]).run Tryz.prog w = .ok (.value (.tuple #[])) w := run_call_mark0 Tryz.func278 (by kernel_rfl) (by kernel_rfl) (by kernel_rfl) .enable (by kernel_rfl) w
theorem rcAcq (a : Addr) (w : World) : (callFunc 279 #[.pointer (some a)]).run Tryz.prog w = .ok (.value (.tuple #[])) w := run_call_marked Tryz.func279 (by kernel_rfl) (by kernel_rfl) (by kernel_rfl) .acquire (by kernel_rfl) a w
theorem rcRel (a : Addr) (w : World) : (callFunc 281 #[.pointer (some a)]).run Tryz.prog w = .ok (.value (.tuple #[])) w := run_call_marked Tryz.func281 (by kernel_rfl) (by kernel_rfl) (by kernel_rfl) .releaseMerge (by kernel_rfl) a w
theorem storeD (a : Addr) (x : Value) (u : FrameMode) (w : World) (hc : w.cell? a = some x) (hz : w.frozen? a = false) :
  CallsD Tryz.prog 198 #[.pointer (some a), .bool true] u w fun e u' w' => u' = u ∧ (e = .returned (.tuple #[]) ∧ w' = w.drew.setCell a (.int .u32 1)) := by
 have hc' : w.drew.cell? a = some x := by go_simp
 have hz' : w.drew.frozen? a = false := by go_simp
 have hst := run_call_store (P := Tryz.prog) Tryz.func250 (by kernel_rfl) (by kernel_rfl) (by kernel_rfl) (by kernel_rfl) (k := .u32) (y := 1) hc' hz'
 go_enter_d Tryz.func198, Tryz.ntmps198
 go_wp2
 go_region_calls
 all_goals (go_end0; exact ⟨rfl, rfl⟩)
theorem unlockI (a : Addr) (w : World) (hc : w.cell? a = some (.int .i32 1)) (hz : w.frozen? a = false) :
  Calls Tryz.prog 249 #[.pointer (some a)] w fun e w' => e = .returned (.tuple #[]) ∧ w' = w.setCell a (.int .i32 0) := by
 have hd := rcDis
 have he := rcEn
 have hr := rcRel
 have hadd := run_call_add (P := Tryz.prog) Tryz.func282 (by kernel_rfl) (by kernel_rfl) (by kernel_rfl) .i32 (by kernel_rfl) (y := -1) (s := 0) hc hz (by simp [go_sem]; rfl)
 have hcv := run_convert_to_unsafe (P := Tryz.prog) (src := 345) (dst := 323) Tryz.underlying345 Tryz.underlying323 (by kernel_rfl) hc
 go_enter Tryz.func249, Tryz.ntmps249
 go_wp2
 go_end0
 exact ⟨rfl, rfl⟩
theorem lockI (a : Addr) (w : World) (hc : w.cell? a = some (.int .i32 0)) (hz : w.frozen? a = false) :
  Calls Tryz.prog 248 #[.pointer (some a)] w fun e w' => e = .returned (.tuple #[]) ∧ w' = w.setCell a (.int .i32 1) := by
 have hd := rcDis
 have he := rcEn
 have ha := rcAcq
 have hcas := run_call_cas_hit (P := Tryz.prog) Tryz.func277 (by kernel_rfl) (by kernel_rfl) (by kernel_rfl) .i32 (by kernel_rfl) (y := 1) hc hz
 have hc' : (w.setCell a (.int .i32 1)).cell? a = some (.int .i32 1) := World.cell?_setCell_same w a _ hc
 have hcv := run_convert_to_unsafe (P := Tryz.prog) (src := 345) (dst := 323) Tryz.underlying345 Tryz.underlying323 (by kernel_rfl) hc'
 go_enter Tryz.func248, Tryz.ntmps248
 go_wp2
 refine bodyPost_ret (results_none rfl _ _ _) rfl ?_
 exact ⟨rfl, rfl⟩
theorem lockF (a : Addr) (w : World) (hc : w.cell? a = some (.int .i32 0)) (hz : w.frozen? a = false) :
  Calls Tryz.prog 196 #[.pointer (some a)] w fun e w' => e = .returned (.tuple #[]) ∧ w' = w.setCell a (.int .i32 1) := by
 have e1 : ∀ args w, (callFunc 248 args).run Tryz.prog w = .ok (.enter 248 args) w := enters_of Tryz.func248 (by kernel_rfl) rfl
 go_enter Tryz.func196, Tryz.ntmps196
 go_wp2_with (go_at_fn 248; refine (lockI a _ hc hz).mono ?_; rintro e w' ⟨rfl, rfl⟩)
 go_end0
 exact ⟨rfl, rfl⟩
theorem unlockD (a : Addr) (u : FrameMode) (w : World) (hc : w.cell? a = some (.int .i32 1)) (hz : w.frozen? a = false) :
  CallsD Tryz.prog 197 #[.pointer (some a)] u w fun e u' w' => u' = u ∧ (e = .returned (.tuple #[]) ∧ w' = w.setCell a (.int .i32 0)) := by
 have e1 : ∀ args w, (callFunc 249 args).run Tryz.prog w = .ok (.enter 249 args) w := enters_of Tryz.func249 (by kernel_rfl) rfl
 go_enter_d Tryz.func197, Tryz.ntmps197
 go_wp2_with (go_at_fn 249; refine (unlockI a _ hc hz).mono ?_; rintro e w' ⟨rfl, rfl⟩)
 go_end0
 exact ⟨rfl, rfl⟩
theorem loadF (a : Addr) (x : Int) (w : World) (hc : w.cell? a = some (.int .u32 x)) :
  Calls Tryz.prog 155 #[.pointer (some a)] w fun e w' => e = .returned (.bool (x != 0)) ∧ w' = w := by
 have hl := run_call_load (P := Tryz.prog) Tryz.func195 (by kernel_rfl) (by kernel_rfl) (by kernel_rfl) .u32 (by kernel_rfl) (w := w) (a := a) (x := x) hc
 go_enter Tryz.func155, Tryz.ntmps155
 go_wp2
 go_ret
 exact ⟨rfl, rfl⟩
end Go.Proofs.YtagoolooikpabaaGreatDoor
namespace Go.Proofs.YtagoolooikpabaaGreatDoor
open Go Go.RowKit Go.Shelf
set_option maxRecDepth 100000
set_option maxHeartbeats 4000000
def Arr256 (r : Nat) (w : World) : Prop := ∃ cs : Array Value, w.heap[r]? = some (.cells cs 275 (0, 0)) ∧ cs.size = 256 ∧ ∀ k : Nat, k < 256 → ∃ z : Int, cs[k]? = some (.int .u8 z) ∧ 0 ≤ z ∧ z < 256
theorem Arr256.cell {r : Nat} {w : World} (h : Arr256 r w) {q : Nat} (hq : q < 256) : ∃ z : Int, w.cell? ⟨r, q, none⟩ = some (.int .u8 z) ∧ w.frozen? ⟨r, q, none⟩ = false ∧ 0 ≤ z ∧ z < 256 := by
 obtain ⟨cs, h1, h2, h3⟩ := h
 obtain ⟨z, h4, h5⟩ := h3 q hq
 exact ⟨z, by simp [World.cell?, h1, h4], by simp [World.frozen?, h1], h5⟩
theorem Arr256.set {r : Nat} {w : World} (h : Arr256 r w) {q : Nat} (z : Int) (hz : 0 ≤ z ∧ z < 256) : Arr256 r (w.setCell ⟨r, q, none⟩ (.int .u8 z)) := by
 obtain ⟨cs, h1, h2, h3⟩ := h
 refine ⟨cs.setIfInBounds q (.int .u8 z), by simp [World.setCell, Array.getElem?_modify, h1], by simp [h2], fun k hk => ?_⟩
 by_cases e : q = k
 ·subst e
  exact ⟨z, by simp [h2, hk], hz⟩
 ·obtain ⟨y, h4, h5⟩ := h3 k hk
  exact ⟨y, by rw [Array.getElem?_setIfInBounds_ne e]; exact h4, h5⟩
theorem Arr256.same {r : Nat} {w w' : World} (h : Arr256 r w) (e : w'.heap[r]? = w.heap[r]?) : Arr256 r w' := by
 obtain ⟨cs, h1, h2, h3⟩ := h
 exact ⟨cs, e.trans h1, h2, h3⟩
theorem bldRp (b g cap : Nat) (s : Nat → ByteArray) (w : World) (hs : ∀ k, k < 4 → (s k).size = 1) (hb : w.cell? ⟨b, 4, none⟩ = some (.slice (some ⟨g, 0, none⟩) 4 cap)) (hg : ∀ k, k < 4 → w.cell? ⟨g, k, none⟩ = some (.string (s k))) :
  Calls Tryz.prog 157 #[.pointer (some ⟨b, 0, none⟩)] w fun e w' => ∃ r, e = .returned (.iface 276 (.pointer (some ⟨r, 0, none⟩))) ∧ w.heap.size ≤ r ∧ Arr256 r w' ∧ Below w.heap.size w w' := by
 have hg0 := hg 0 (by omega)
 have hg1 := hg 1 (by omega)
 have hg2 := hg 2 (by omega)
 have hg3 := hg 3 (by omega)
 have hs0 := hs 0 (by omega)
 have hs1 := hs 1 (by omega)
 have hs2 := hs 2 (by omega)
 have hs3 := hs 3 (by omega)
 have mixed : Tryz.prog.follows .mixedOrders = true := by kernel_rfl
 go_enter Tryz.func157, Tryz.ntmps157
 go_wp2
 go_loopg [4, 5] 2 (fun g s4 s5 wx => ∃ i : Nat, s4 = .bool true ∧ s5 = .int .i64 i ∧ i + 2 * g = 4 ∧ wx = w)
 case atStart => exact ⟨0, rfl, rfl, by omega, rfl⟩
 case round =>
  obtain ⟨i, rfl, rfl, hig, hw⟩ := hrel
  have hw := hw.symm
  subst hw
  cases gk with
  | succ g =>
   have hi : i = 0 ∨ i = 2 := by omega
   rcases hi with rfl | rfl
   ·go_wp2
    go_roundg g
    case measure => omega
    case rel => exact ⟨2, rfl, rfl, by omega, rfl⟩
   ·go_wp2
    go_roundg g
    case measure => omega
    case rel => exact ⟨4, rfl, rfl, by omega, rfl⟩
  | zero =>
   have hi : i = 4 := by omega
   subst hi
   obtain ⟨Z, hZs, hZv, hzb, hzz⟩ : ∃ Z : Array Value, Z.size = 256 ∧ (∀ k : Nat, k < 256 → Z[k]? = some (.int .u8 0)) ∧ (∀ w, (Instr.build 275 #[]).run Tryz.prog w = .ok (.agg Z) w) ∧ (∀ w, (zeroValue 275).run Tryz.prog w = .ok (.agg Z) w) :=
    ⟨Array.replicate 256 (.int .u8 0), by simp, fun k hk => by simp [hk], fun w => by kernel_rfl, fun w => by kernel_rfl⟩
   have hag : ∀ w, (isAgg 275).run Tryz.prog w = .ok true w := fun w => by kernel_rfl
   have hsz : ∀ w, (Go.sizeOf 275).run Tryz.prog w = .ok 256 w := fun w => by kernel_rfl
   have hone : Z.all (·.oneCell') = true := by
    rw [Array.all_eq_true]
    intro k hk
    have h1 := hZv k (by omega)
    rw [Array.getElem?_eq_getElem hk] at h1
    injection h1 with h1
    rw [h1]
    rfl
   have hst := run_storeCells_new (P := Tryz.prog) w 275 Z Z (by rw [hZs]; kernel_rfl) rfl hone
   have hA0 : Arr256 w.heap.size (w.alloc (.cells Z 275)) := ⟨Z, heap_alloc_new w _, hZs, fun k hk => ⟨0, hZv k hk, by omega, by omega⟩⟩
   have hB0 : Below w.heap.size w (w.alloc (.cells Z 275)) := (Below.refl _ w).alloc (Nat.le_refl _) _
   have hgl : g < w.heap.size := World.block_lt_of_cell? _ _ hg0
   go_wp2
   clear hst hone hzz hzb hag hsz hZv hZs
   go_loopg [61] 256 (fun g s61 wx => ∃ q : Nat, s61 = .int .i64 q ∧ q + g = 256 ∧ Arr256 w.heap.size wx ∧ Below w.heap.size w wx)
   case atStart => exact ⟨0, rfl, by omega, hA0, hB0⟩
   case round =>
    obtain ⟨q, rfl, hqg, hA, hB⟩ := hrel
    clear hA0 hB0
    cases gk with
    | succ g2 =>
     have hq : (q : Int) < 256 := by omega
     obtain ⟨z, c1, f1, _⟩ := hA.cell (q := q) (by omega)
     go_wp2
     go_roundg g2
     case measure => omega
     case rel => exact ⟨q + 1, by first | rfl | simp | (simp; omega), by omega, hA.set _ (by omega), hB.setCell (p := ⟨_, q, none⟩) (Nat.le_refl _) _⟩
    | zero =>
     have hq : ¬ ((q : Int) < 256) := by omega
     go_wp2
     go_loopg [8] 2 (fun g s8 wx => ∃ q : Int, s8 = .int .i64 q ∧ (q + 2 = 2 * (g : Int) ∧ q ≤ 2) ∧ Arr256 w.heap.size wx ∧ Below w.heap.size w wx)
     case atStart => exact ⟨2, rfl, by omega, hA, hB⟩
     case round =>
      clear hA hB
      obtain ⟨q2, rfl, hqg2, hA, hB⟩ := hrel
      have c0 : wr.cell? ⟨g, 0, none⟩ = some (.string (s 0)) := by rw [hB.cell (p := ⟨g, 0, none⟩) hgl]; exact hg0
      have c1 : wr.cell? ⟨g, 1, none⟩ = some (.string (s 1)) := by rw [hB.cell (p := ⟨g, 1, none⟩) hgl]; exact hg1
      have c2 : wr.cell? ⟨g, 2, none⟩ = some (.string (s 2)) := by rw [hB.cell (p := ⟨g, 2, none⟩) hgl]; exact hg2
      have c3 : wr.cell? ⟨g, 3, none⟩ = some (.string (s 3)) := by rw [hB.cell (p := ⟨g, 3, none⟩) hgl]; exact hg3
      cases gk with
      | zero =>
       have hq2 : q2 = -2 := by omega
       subst hq2
       have hmi : ∀ (a : Option Addr) (w : World), (Instr.makeInterface 276 (.pointer a)).run Tryz.prog w = .ok (.iface 276 (.pointer a)) w := fun a w => by kernel_rfl
       go_wp2
       go_ret
       exact ⟨_, rfl, Nat.le_refl _, hA, hB⟩
      | succ g3 =>
       have hq2 : (q2 = 2 ∧ g3 = 1) ∨ (q2 = 0 ∧ g3 = 0) := by omega
       rcases hq2 with ⟨rfl, rfl⟩ | ⟨rfl, rfl⟩
       ·have hlt : 0 < (s 2).size := by omega
        have hlt2 : 0 < (s 3).size := by omega
        obtain ⟨z, d1, f1, _⟩ := hA.cell (q := ((s 2)[0]'hlt).toNat) (UInt8.toNat_lt _)
        have hb3 := UInt8.toNat_lt ((s 3)[0]'hlt2)
        have hb2 : ((((s 2)[0]'hlt).toNat : Nat) : Int) < 256 := by have := UInt8.toNat_lt ((s 2)[0]'hlt); omega
        go_wp2
        go_roundg 1
        case measure => omega
        case rel => exact ⟨0, rfl, by omega, hA.set _ (by omega), hB.setCell (p := ⟨_, _, none⟩) (Nat.le_refl _) _⟩
       ·have hlt : 0 < (s 0).size := by omega
        have hlt2 : 0 < (s 1).size := by omega
        obtain ⟨z, d1, f1, _⟩ := hA.cell (q := ((s 0)[0]'hlt).toNat) (UInt8.toNat_lt _)
        have hb3 := UInt8.toNat_lt ((s 1)[0]'hlt2)
        have hb2 : ((((s 0)[0]'hlt).toNat : Nat) : Int) < 256 := by have := UInt8.toNat_lt ((s 0)[0]'hlt); omega
        go_wp2
        go_roundg 0
        case measure => omega
        case rel => exact ⟨-2, rfl, by omega, hA.set _ (by omega), hB.setCell (p := ⟨_, _, none⟩) (Nat.le_refl _) _⟩
end Go.Proofs.YtagoolooikpabaaGreatDoor
namespace Go.Proofs.YtagoolooikpabaaGreatDoor
open Go Go.RowKit Go.Shelf
set_option maxRecDepth 100000
set_option maxHeartbeats 4000000
theorem onceRp (b g cap : Nat) (s : Nat → ByteArray) (w : World) (x3 : Value) (hs : ∀ k, k < 4 → (s k).size = 1) (h3 : w.cell? ⟨b, 3, none⟩ = some x3) (hb : w.cell? ⟨b, 4, none⟩ = some (.slice (some ⟨g, 0, none⟩) 4 cap)) (f3 : w.frozen? ⟨b, 3, none⟩ = false) (f4 : w.frozen? ⟨b, 4, none⟩ = false) (hg : ∀ k, k < 4 → w.cell? ⟨g, k, none⟩ = some (.string (s k))) :
  Calls Tryz.prog 95 #[.pointer (some ⟨b, 0, none⟩)] w fun e w' => e = .returned (.tuple #[]) ∧ ∃ r w2, w.heap.size ≤ r ∧ Arr256 r w2 ∧ Below w.heap.size w w2 ∧ w' = (w2.setCell ⟨b, 3, none⟩ (.iface 276 (.pointer (some ⟨r, 0, none⟩)))).setCell ⟨b, 4, none⟩ (.slice none 0 0) := by
 have hbl : b < w.heap.size := World.block_lt_of_cell? _ _ h3
 have e1 : ∀ args w, (callFunc 157 args).run Tryz.prog w = .ok (.enter 157 args) w := enters_of Tryz.func157 (by kernel_rfl) rfl
 go_enter Tryz.func95, Tryz.ntmps95
 go_wp2_with (go_at_fn 157; refine (bldRp b g cap s w hs hb hg).mono ?_)
 rintro e w2 ⟨r, rfl, hr, hA, hB⟩
 have d3 : w2.cell? ⟨b, 3, none⟩ = some x3 := by rw [hB.cell (p := ⟨b, 3, none⟩) hbl]; exact h3
 have d4 : w2.cell? ⟨b, 4, none⟩ = some (.slice (some ⟨g, 0, none⟩) 4 cap) := by rw [hB.cell (p := ⟨b, 4, none⟩) hbl]; exact hb
 have q3 : w2.frozen? ⟨b, 3, none⟩ = false := by rw [hB.frozen (p := ⟨b, 3, none⟩) hbl]; exact f3
 have q4 : w2.frozen? ⟨b, 4, none⟩ = false := by rw [hB.frozen (p := ⟨b, 4, none⟩) hbl]; exact f4
 go_wp2
 go_end0
 exact ⟨rfl, r, w2, hr, hA, hB, rfl⟩
structure OnceAt (b : Nat) (w : World) : Prop where
 c0 : w.cell? ⟨b, 0, none⟩ = some (.int .u32 0)
 c1 : w.cell? ⟨b, 1, none⟩ = some (.int .i32 1)
 f0 : w.frozen? ⟨b, 0, none⟩ = false
 f1 : w.frozen? ⟨b, 1, none⟩ = false
theorem slowRp (b : Nat) (w : World) (R : World → Prop) (h0 : w.cell? ⟨b, 0, none⟩ = some (.int .u32 0)) (h1 : w.cell? ⟨b, 1, none⟩ = some (.int .i32 0)) (f0 : w.frozen? ⟨b, 0, none⟩ = false) (f1 : w.frozen? ⟨b, 1, none⟩ = false)
  (hf : Calls Tryz.prog 95 #[.pointer (some ⟨b, 0, none⟩)] (w.setCell ⟨b, 1, none⟩ (.int .i32 1)) fun e w2 => e = .returned (.tuple #[]) ∧ OnceAt b w2 ∧ R w2) :
  Calls Tryz.prog 156 #[.pointer (some ⟨b, 0, none⟩), .func (.func 95) #[.pointer (some ⟨b, 0, none⟩)] #[]] w fun e w' => e = .returned (.tuple #[]) ∧ ∃ w2, R w2 ∧ w' = (w2.drew.setCell ⟨b, 0, none⟩ (.int .u32 1)).setCell ⟨b, 1, none⟩ (.int .i32 0) := by
 have g0 : (w.setCell ⟨b, 1, none⟩ (.int .i32 1)).cell? ⟨b, 0, none⟩ = some (.int .u32 0) := (World.cell?_setCell_other _ ⟨b, 1, none⟩ ⟨b, 0, none⟩ _ (by simp)).trans h0
 have hld := loadF ⟨b, 0, none⟩ 0 _ g0
 have e1 : ∀ args w, (callFunc 196 args).run Tryz.prog w = .ok (.enter 196 args) w := enters_of Tryz.func196 (by kernel_rfl) rfl
 have e2 : ∀ args w, (callFunc 155 args).run Tryz.prog w = .ok (.enter 155 args) w := enters_of Tryz.func155 (by kernel_rfl) rfl
 have e3 : ∀ args w, (callFunc 95 args).run Tryz.prog w = .ok (.enter 95 args) w := enters_of Tryz.func95 (by kernel_rfl) rfl
 have hnot : ∀ (x : Bool) (w : World), (Op.unary .not (.bool x)).run Tryz.prog w = .ok (.bool (!x)) w := fun _ _ => rfl
 go_enter_defers Tryz.func156, Tryz.ntmps156
 go_wp2_with (first
  | (go_at_fn 196; refine (lockF ⟨b, 1, none⟩ _ h1 f1).mono ?_; rintro e w' ⟨rfl, rfl⟩)
  | (go_at_fn 155; refine hld.mono ?_; rintro e w' ⟨rfl, rfl⟩)
  | (go_at_fn 95; refine hf.mono ?_; rintro e w2 ⟨rfl, hO, hR⟩))
 go_wp2
 refine leaves_cons (f := 198) (args := #[.pointer (some ⟨b, 0, none⟩), .bool true]) (by simp) (by simp [go_sem]) ?_
 refine (storeD ⟨b, 0, none⟩ (.int .u32 0) .returning _ hO.c0 hO.f0).mono ?_
 rintro e u' w'' ⟨rfl, rfl, rfl⟩
 refine leaves_cons (f := 197) (args := #[.pointer (some ⟨b, 1, none⟩)]) (by simp [settle]) (by simp [go_sem]) ?_
 refine (unlockD ⟨b, 1, none⟩ _ _ ?_ (by simp [hO.f1])).mono ?_
 ·refine (World.cell?_setCell_other _ ⟨b, 0, none⟩ ⟨b, 1, none⟩ _ (by simp)).trans ?_
  rw [World.cell?_drew]
  exact hO.c1
 rintro e u' w'' ⟨rfl, rfl, rfl⟩
 simp [Leaves, settle, results, Tryz.results156]
 exact ⟨w2, hR, rfl⟩
theorem doRp (b : Nat) (w : World) (R : World → Prop) (h0 : w.cell? ⟨b, 0, none⟩ = some (.int .u32 0)) (h1 : w.cell? ⟨b, 1, none⟩ = some (.int .i32 0)) (f0 : w.frozen? ⟨b, 0, none⟩ = false) (f1 : w.frozen? ⟨b, 1, none⟩ = false)
  (hf : Calls Tryz.prog 95 #[.pointer (some ⟨b, 0, none⟩)] (w.setCell ⟨b, 1, none⟩ (.int .i32 1)) fun e w2 => e = .returned (.tuple #[]) ∧ OnceAt b w2 ∧ R w2) :
  Calls Tryz.prog 94 #[.pointer (some ⟨b, 0, none⟩), .func (.func 95) #[.pointer (some ⟨b, 0, none⟩)] #[]] w fun e w' => e = .returned (.tuple #[]) ∧ ∃ w2, R w2 ∧ w' = (w2.drew.setCell ⟨b, 0, none⟩ (.int .u32 1)).setCell ⟨b, 1, none⟩ (.int .i32 0) := by
 have hld := loadF ⟨b, 0, none⟩ 0 _ h0
 have e2 : ∀ args w, (callFunc 155 args).run Tryz.prog w = .ok (.enter 155 args) w := enters_of Tryz.func155 (by kernel_rfl) rfl
 have e3 : ∀ args w, (callFunc 156 args).run Tryz.prog w = .ok (.enter 156 args) w := enters_of Tryz.func156 (by kernel_rfl) rfl
 have hnot : ∀ (x : Bool) (w : World), (Op.unary .not (.bool x)).run Tryz.prog w = .ok (.bool (!x)) w := fun _ _ => rfl
 go_enter Tryz.func94, Tryz.ntmps94
 go_wp2_with (first
  | (go_at_fn 155; refine hld.mono ?_; rintro e w' ⟨rfl, rfl⟩)
  | (go_at_fn 156; refine (slowRp b _ R h0 h1 f0 f1 hf).mono ?_; rintro e w' ⟨rfl, w2, hR, rfl⟩))
 go_end0
 exact ⟨rfl, w2, hR, rfl⟩
end Go.Proofs.YtagoolooikpabaaGreatDoor
namespace Go.Proofs.YtagoolooikpabaaGreatDoor
open Go Go.RowKit Go.Shelf
set_option maxRecDepth 100000
set_option maxHeartbeats 4000000
def BufAt (B n : Nat) (v : Value) (w : World) : Prop := v = .slice none 0 0 ∨ ∃ g cap cs fz, v = .slice (some ⟨g, 0, none⟩) n cap ∧ B ≤ g ∧ w.heap[g]? = some (.cells cs 5 fz) ∧ n ≤ fz.1 ∧ n ≤ cs.size ∧ ∀ k : Nat, k < n → ∃ z : Int, cs[k]? = some (.int .u8 z)
theorem buf_new (s : ByteArray) (cap B : Nat) (w : World) (hB : B ≤ w.heap.size) (hc : s.size ≤ (bytesRow s cap).size) : BufAt B s.size (.slice (some ⟨w.heap.size, 0, none⟩) s.size cap) (w.drew.alloc (.cells (bytesRow s cap) 5 ((bytesRow s cap).size, (bytesRow s cap).size + 1))) := by
 refine .inr ⟨w.heap.size, cap, bytesRow s cap, _, rfl, hB, heap_alloc_new w.drew _, hc, hc, fun k hk => ?_⟩
 unfold bytesRow
 rw [Array.getElem?_append_left (by simpa using hk)]
 simp only [Array.getElem?_map]
 exact ⟨_, by rw [Array.getElem?_eq_getElem (by simpa using hk)]; rfl⟩
theorem bytesRow_sz (s : ByteArray) (cap : Nat) : s.size ≤ (bytesRow s cap).size := by
 unfold bytesRow
 simp only [Array.size_append, Array.size_map]
 exact Nat.le_add_right _ _
theorem buf_set {B n g cap : Nat} {w : World} {cs : Array Value} {fz : Nat × Nat} (hB : B ≤ g) (h : w.heap[g]? = some (.cells cs 5 fz)) (h1 : n ≤ fz.1) (h2 : n ≤ cs.size) (h3 : ∀ k : Nat, k < n → ∃ z : Int, cs[k]? = some (.int .u8 z)) (i : Nat) (z : Int) : BufAt B n (.slice (some ⟨g, 0, none⟩) n cap) (w.setCell ⟨g, i, none⟩ (.int .u8 z)) := by
 refine .inr ⟨g, cap, cs.setIfInBounds i (.int .u8 z), fz, rfl, hB, by simp [World.setCell, Array.getElem?_modify, h], h1, by simpa using h2, fun k hk => ?_⟩
 by_cases e : i = k
 ·subst e
  exact ⟨z, by simp [Nat.lt_of_lt_of_le hk h2]⟩
 ·rw [Array.getElem?_setIfInBounds_ne e]
  exact h3 k hk
theorem brRp (r : Nat) (s : ByteArray) (w : World) (hA : Arr256 r w) (hs : s.size ≤ 1000000) :
  Calls Tryz.prog 346 #[.pointer (some ⟨r, 0, none⟩), .string s] w fun e w' => (∃ t : ByteArray, t.size = s.size ∧ e = .returned (.string t)) ∧ Below w.heap.size w w' := by
 have hrl : r < w.heap.size := by
  obtain ⟨z, c, _⟩ := hA.cell (q := 0) (by omega)
  exact World.block_lt_of_cell? _ _ c
 have mixed : Tryz.prog.follows .mixedOrders = true := by kernel_rfl
 have t131 : Tryz.prog.underlying 130 = some (.slice 5) := by kernel_rfl
 have t9 : Tryz.prog.underlying 9 = some .string := by kernel_rfl
 have t5 : Tryz.prog.underlying 5 = some (.int .u8) := by kernel_rfl
 have hnil : ∀ (a : Option Addr) (n c : Nat) (w : World), (binOp .eql 130 (.slice a n c) (.slice none 0 0)).run Tryz.prog w = .ok (.bool a.isNone) w := fun a n c w => Lib.run_eql_slice_nil w _ _ a n c 0 0 t131
 go_enter Tryz.func346, Tryz.ntmps346
 go_wp2
 go_loopg [5, 6] s.size (fun g s5 s6 wx => ∃ i : Nat, s6 = .int .i64 i ∧ i + g = s.size ∧ BufAt w.heap.size s.size s5 wx ∧ Below w.heap.size w wx)
 case atStart => exact ⟨0, rfl, by omega, .inl rfl, Below.refl _ w⟩
 case round =>
  obtain ⟨i, rfl, hig, hbuf, hB⟩ := hrel
  have hBw : w.heap.size ≤ wr.heap.size := hB.size
  cases gk with
  | succ g =>
   have hi : i < s.size := by omega
   have hi2 : (i : Int) < (s.size : Int) := by omega
   have hAr : Arr256 r wr := hA.same (hB.block r hrl)
   have hb2 : ((((s[i]'hi).toNat : Nat) : Int)) < 256 := by have := UInt8.toNat_lt (s[i]'hi); omega
   obtain ⟨z, c1, f1, hz⟩ := hAr.cell (q := (s[i]'hi).toNat) (UInt8.toNat_lt _)
   by_cases he : z = (((s[i]'hi).toNat : Nat) : Int)
   ·subst he
    go_wp2
    go_roundg g
    case measure => omega
    case rel => exact ⟨i + 1, by first | rfl | simp | (simp; omega), by omega, hbuf, hB⟩
   ·have hne : (z != (((s[i]'hi).toNat : Nat) : Int)) = true := by simpa using he
    rcases hbuf with rfl | ⟨gb, cap, cs, fz, rfl, hgb, hh, q1, q2, q3⟩
    ·have hcv := run_bytes_of_string (P := Tryz.prog) wr 9 130 5 s t9 t131 t5
     obtain ⟨CAP, hCAP⟩ : ∃ C, C = grownCap wr s.size 0 5 := ⟨_, rfl⟩
     rw [← hCAP] at hcv
     have hbn := buf_new s CAP w.heap.size wr hBw (bytesRow_sz s CAP)
     obtain ⟨W2, hW2⟩ : ∃ W2, W2 = wr.drew.alloc (.cells (bytesRow s CAP) 5 ((bytesRow s CAP).size, (bytesRow s CAP).size + 1)) := ⟨_, rfl⟩
     rw [← hW2] at hcv hbn
     have hB2 : Below w.heap.size w W2 := by rw [hW2]; exact (Below.drew hB).alloc hBw _
     have hAr2 : Arr256 r W2 := hA.same (hB2.block r hrl)
     obtain ⟨z2, c2, f2, _⟩ := hAr2.cell (q := (s[i]'hi).toNat) (UInt8.toNat_lt _)
     rcases hbn with hbn | ⟨gb, cap, cs, fz, hbn, hgb, hh, q1, q2, q3⟩
     ·cases hbn
     ·injection hbn with hbn1 _ hbn2
      injection hbn1 with hbn1
      injection hbn1 with hbn1
      subst hbn1 hbn2
      obtain ⟨y, hy⟩ := q3 i hi
      have c3 : W2.cell? ⟨wr.heap.size, i, none⟩ = some (.int .u8 y) := by simp [World.cell?, hh, hy]
      have f3 : W2.frozen? ⟨wr.heap.size, i, none⟩ = false := by simp [World.frozen?, hh]; omega
      clear hW2
      go_wp2
      go_roundg g
      case measure => omega
      case rel => exact ⟨i + 1, by first | rfl | simp | (simp; omega), by omega, buf_set hgb hh q1 q2 q3 i _, hB2.setCell (p := ⟨_, i, none⟩) hgb _⟩
    ·obtain ⟨y, hy⟩ := q3 i hi
     have c3 : wr.cell? ⟨gb, i, none⟩ = some (.int .u8 y) := by simp [World.cell?, hh, hy]
     have f3 : wr.frozen? ⟨gb, i, none⟩ = false := by simp [World.frozen?, hh]; omega
     go_wp2
     go_roundg g
     case measure => omega
     case rel => exact ⟨i + 1, by first | rfl | simp | (simp; omega), by omega, buf_set hgb hh q1 q2 q3 i _, hB.setCell (p := ⟨_, i, none⟩) hgb _⟩
  | zero =>
   have hi : ¬ ((i : Int) < (s.size : Int)) := by omega
   rcases hbuf with rfl | ⟨gb, cap, cs, fz, rfl, hgb, hh, q1, q2, q3⟩
   ·go_wp2
    go_ret
    exact ⟨⟨s, rfl, rfl⟩, hB⟩
   ·obtain ⟨xs, hx1, hx2⟩ : ∃ xs : List Int, xs.length = s.size ∧ ∀ k, k < s.size → wr.cell? ⟨gb, 0 + k, none⟩ = some (.int .u8 (xs.getD k 0)) := by
     refine ⟨(List.range s.size).map fun k => match cs[k]? with | some (Value.int _ z) => z | _ => 0, by simp, fun k hk => ?_⟩
     obtain ⟨z, hz⟩ := q3 k hk
     simp [World.cell?, hh, hz, List.getD, hk]
    have hcv := run_convert_bytes_arg (P := Tryz.prog) wr 130 5 t131 t5 gb 0 s.size cap xs hx1 hx2 9 t9
    have hsz := strOfNums_size xs
    go_wp2
    go_ret
    exact ⟨⟨_, by rw [hsz, hx1], rfl⟩, hB⟩
end Go.Proofs.YtagoolooikpabaaGreatDoor
namespace Go.Proofs.YtagoolooikpabaaGreatDoor
open Go Go.RowKit Go.Shelf
set_option maxRecDepth 100000
set_option maxHeartbeats 4000000
theorem heap_setCell_ne {w : World} {b k : Nat} (h : k ≠ b) (o : Nat) (v : Value) : (w.setCell ⟨b, o, none⟩ v).heap[k]? = w.heap[k]? := by
 simp only [World.setCell, Array.getElem?_modify]
 rw [if_neg (fun e => h e.symm)]
theorem setCell_sz (w : World) (a : Addr) (v : Value) : (w.setCell a v).heap.size = w.heap.size := by simp [World.setCell]
theorem grown_setCell {w w' : World} {b : Nat} (h : w.grownBy w' (some b)) (o : Nat) (v : Value) : w.grownBy (w'.setCell ⟨b, o, none⟩ v) (some b) :=
 ⟨h.os, h.tape, h.output, by rw [setCell_sz]; exact h.size, fun k hk hn => by
  rw [heap_setCell_ne (fun e => hn (by rw [e]))]
  exact h.block k hk hn⟩
theorem grown_below {w w' w2 : World} {b n : Nat} (h : w.grownBy w' (some b)) (hn : w.heap.size ≤ n) (g : Below n w' w2) : w.grownBy w2 (some b) :=
 ⟨g.os.trans h.os, g.tape.trans h.tape, g.output.trans h.output, Nat.le_trans h.size g.size, fun k hk hne => (g.block k (by omega)).trans (h.block k hk hne)⟩
structure RpDone (b : Nat) (w w' : World) (r : Nat) : Prop where
 hr : w.heap.size ≤ r
 arr : Arr256 r w'
 ifc : w'.cell? ⟨b, 3, none⟩ = some (.iface 276 (.pointer (some ⟨r, 0, none⟩)))
 grown : w.grownBy w' (some b)
theorem RpDone.set {b : Nat} {w w' : World} {r : Nat} (h : RpDone b w w' r) (hb : b < w.heap.size) (o : Nat) (ho : o ≠ 3) (v : Value) : RpDone b w (w'.setCell ⟨b, o, none⟩ v) r :=
 ⟨h.hr, h.arr.same (heap_setCell_ne (by have := h.hr; omega) o v), (World.cell?_setCell_other _ ⟨b, o, none⟩ ⟨b, 3, none⟩ _ (by simpa using ho)).trans h.ifc, grown_setCell h.grown o v⟩
theorem RpDone.drew {b : Nat} {w w' : World} {r : Nat} (h : RpDone b w w' r) : RpDone b w w'.drew r :=
 ⟨h.hr, h.arr, h.ifc, ⟨h.grown.os, h.grown.tape, h.grown.output, h.grown.size, h.grown.block⟩⟩
theorem repRp (b g cap : Nat) (s4 : Nat → ByteArray) (s : ByteArray) (w : World) (x3 : Value) (hs4 : ∀ k, k < 4 → (s4 k).size = 1) (hs : s.size ≤ 1000000)
  (h0 : w.cell? ⟨b, 0, none⟩ = some (.int .u32 0)) (h1 : w.cell? ⟨b, 1, none⟩ = some (.int .i32 0)) (h3 : w.cell? ⟨b, 3, none⟩ = some x3) (h4 : w.cell? ⟨b, 4, none⟩ = some (.slice (some ⟨g, 0, none⟩) 4 cap)) (hz : ∀ k, w.frozen? ⟨b, k, none⟩ = false) (hgb : g ≠ b) (hg : ∀ k, k < 4 → w.cell? ⟨g, k, none⟩ = some (.string (s4 k))) :
  Calls Tryz.prog 40 #[.pointer (some ⟨b, 0, none⟩), .string s] w fun e w' => (∃ t : ByteArray, t.size = s.size ∧ e = .returned (.string t)) ∧ w.grownBy w' (some b) := by
 have hbl : b < w.heap.size := World.block_lt_of_cell? _ _ h3
 have hdo := doRp b w (fun w' => ∃ r, RpDone b w w' r) h0 h1 (hz 0) (hz 1) (by
  have ho : ∀ (o : Nat), o ≠ 1 → (w.setCell ⟨b, 1, none⟩ (.int .i32 1)).cell? ⟨b, o, none⟩ = w.cell? ⟨b, o, none⟩ := fun o h => World.cell?_setCell_other _ ⟨b, 1, none⟩ ⟨b, o, none⟩ _ (by simpa using fun e => h e.symm)
  have hog : ∀ (o : Nat), (w.setCell ⟨b, 1, none⟩ (.int .i32 1)).cell? ⟨g, o, none⟩ = w.cell? ⟨g, o, none⟩ := fun o => World.cell?_setCell_other _ ⟨b, 1, none⟩ ⟨g, o, none⟩ _ (by simpa using fun e => absurd e.symm hgb)
  have hfz : ∀ (o : Nat), (w.setCell ⟨b, 1, none⟩ (.int .i32 1)).frozen? ⟨b, o, none⟩ = false := fun o => by simp [hz o]
  have hc1 : (w.setCell ⟨b, 1, none⟩ (.int .i32 1)).cell? ⟨b, 1, none⟩ = some (.int .i32 1) := World.cell?_setCell_same w _ _ h1
  have hgr : w.grownBy (w.setCell ⟨b, 1, none⟩ (.int .i32 1)) (some b) := grown_setCell ⟨rfl, rfl, rfl, Nat.le_refl _, fun _ _ _ => rfl⟩ 1 _
  have hsz := setCell_sz w ⟨b, 1, none⟩ (.int .i32 1)
  have h0' := (ho 0 (by decide)).trans h0
  have h3' := (ho 3 (by decide)).trans h3
  have h4' := (ho 4 (by decide)).trans h4
  have hg' : ∀ k, k < 4 → (w.setCell ⟨b, 1, none⟩ (.int .i32 1)).cell? ⟨g, k, none⟩ = some (.string (s4 k)) := fun k hk => (hog k).trans (hg k hk)
  generalize w.setCell ⟨b, 1, none⟩ (.int .i32 1) = w1 at *
  refine (onceRp b g cap s4 w1 x3 hs4 h3' h4' (hfz 3) (hfz 4) hg').mono ?_
  rintro e w' ⟨rfl, r, w2, q1, q2, q3, rfl⟩
  have hb2 : b < w1.heap.size := by omega
  have hk : ∀ o : Nat, w2.cell? ⟨b, o, none⟩ = w1.cell? ⟨b, o, none⟩ := fun o => q3.cell (p := ⟨b, o, none⟩) hb2
  have hkf : ∀ o : Nat, w2.frozen? ⟨b, o, none⟩ = false := fun o => by rw [q3.frozen (p := ⟨b, o, none⟩) hb2]; exact hfz o
  have hD : RpDone b w (w2.setCell ⟨b, 3, none⟩ (.iface 276 (.pointer (some ⟨r, 0, none⟩)))) r := by
   refine ⟨by omega, q2.same (heap_setCell_ne (by omega) _ _), World.cell?_setCell_same w2 _ _ ((hk 3).trans h3'), grown_setCell (grown_below hgr (by omega) q3) _ _⟩
  refine ⟨rfl, ⟨?_, ?_, ?_, ?_⟩, r, hD.set hbl 4 (by decide) _⟩
  ·exact (World.cell?_setCell_other _ ⟨b, 4, none⟩ ⟨b, 0, none⟩ _ (by simp)).trans ((World.cell?_setCell_other _ ⟨b, 3, none⟩ ⟨b, 0, none⟩ _ (by simp)).trans ((hk 0).trans h0'))
  ·exact (World.cell?_setCell_other _ ⟨b, 4, none⟩ ⟨b, 1, none⟩ _ (by simp)).trans ((World.cell?_setCell_other _ ⟨b, 3, none⟩ ⟨b, 1, none⟩ _ (by simp)).trans ((hk 1).trans hc1))
  ·simp [hkf 0]
  ·simp [hkf 1])
 have e1 : ∀ args w, (callFunc 94 args).run Tryz.prog w = .ok (.enter 94 args) w := enters_of Tryz.func94 (by kernel_rfl) rfl
 have e2 : ∀ args w, (callFunc 346 args).run Tryz.prog w = .ok (.enter 346 args) w := enters_of Tryz.func346 (by kernel_rfl) rfl
 have hmf : ∀ (fn : Fn) (first cap : Array Value) (w : World), (Instr.makeFunc fn first cap).run Tryz.prog w = .ok (.func fn first cap) w := fun _ _ _ _ => rfl
 go_enter Tryz.func40, Tryz.ntmps40
 have hdo2 : Calls Tryz.prog 94 #[.pointer (some ⟨b, 0, none⟩), .func (.func 95) #[.pointer (some ⟨b, 0, none⟩)] #[]] w fun e w' => e = .returned (.tuple #[]) ∧ ∃ r, RpDone b w w' r := hdo.mono (by
  rintro e w' ⟨rfl, w2, ⟨r, hD⟩, rfl⟩
  exact ⟨rfl, r, (hD.drew.set hbl 0 (by decide) (.int .u32 1)).set hbl 1 (by decide) (.int .i32 0)⟩)
 clear hdo
 have hcm : ∀ (a : Option Addr) (s : ByteArray) (w : World), (callMethod (.iface 276 (.pointer a)) "Replace" #[.string s]).run Tryz.prog w = .ok (.enter 346 #[.pointer a, .string s]) w := fun a s w => (show _ = (callFunc 346 #[.pointer a, .string s]).run Tryz.prog w from by kernel_rfl).trans (e2 _ _)
 go_wp2_with (first
  | (go_at_fn 94; refine hdo2.mono ?_; rintro e w3 ⟨rfl, r, hE⟩; have hifc := hE.ifc)
  | (go_at_fn 346; refine (brRp _ s _ hE.arr hs).mono ?_; rintro e w' ⟨⟨t, ht, rfl⟩, hB⟩))
 go_ret
 exact ⟨⟨t, ht, rfl⟩, grown_below hE.grown (by have := hE.grown.size; omega) hB⟩
end Go.Proofs.YtagoolooikpabaaGreatDoor
