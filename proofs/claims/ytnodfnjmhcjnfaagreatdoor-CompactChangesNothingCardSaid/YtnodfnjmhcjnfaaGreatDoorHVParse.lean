/- A file, parsed: the reference. Condition: the bytes fit. -/
import Derived.Test.YtnodfnjmhcjnfaaGreatDoorHVDecodeOf
namespace Go.Proofs.YtnodfnjmhcjnfaaGreatDoor
open Go Go.RowKit
set_option maxRecDepth 100000
set_option linter.all false
set_option maxHeartbeats 2000000
variable {H : Hp} {K : AV → Hp → Prop}
structure Pc where
  b : Blk
  ss : List Smp
def encPc (x : Pc) : List AC := [.int .i64 x.b.at_, .int .i64 x.b.long, .str x.b.tag, .int .i64 x.b.first, .int .i64 x.b.last, .int .i64 x.b.count, .bool x.b.over, .lst 3 (x.ss.map encS)]
attribute [go_sem] encPc
theorem pureL_Pc (l : List Pc) : pureL (l.map encPc) = true := by simp [pureL, encPc, AC.pure]
def lastO (ps : List Pc) (tag : ByteArray) : Int := ps.foldl (fun a x => if x.b.tag = tag ∧ x.b.over = false then x.b.last else a) (-1)
theorem lastO_step {ps : List Pc} {k : Nat} (h : k < ps.length) (tag : ByteArray) : lastO (ps.take (k + 1)) tag = if ps[k].b.tag = tag ∧ ps[k].b.over = false then ps[k].b.last else lastO (ps.take k) tag := by
  rw [List.take_succ_eq_append_getElem h]
  unfold lastO
  rw [List.foldl_append]
  rfl
theorem lastOf_a (ps : List Pc) (tag : ByteArray) (hl : ps.length ≤ 1000000000) (hk : K (.c (.int .i64 (lastO ps tag))) H) : ACalls Tryz.prog 238 [.c (.lst 8 (ps.map encPc)), (.c (.str tag))] H K := by
  refine acalls Tryz.func238 rfl (by kernel_rfl) (by simp (disch := first | omega | (simp only [go_sem]; first | done | omega)) only [go_sem]) (fun hH => ?_)
  simp (disch := first | omega | (simp only [go_sem]; first | done | omega)) only [go_sem]
  refine AWp.upto (H.length) [1, 8, 9] [5, 10] (ps.length) (fun k => [(5, (.c (.int .i64 (lastO (ps.take k) tag)))), (10, (.c (.int .i64 k)))]) (fun k => H) (by kernel_rfl) (fun _ => rfl) (by kernel_rfl) (by first | (simp; done) | omega) (by first | (simp; done) | (simp; omega) | omega) kl ?_ (fun k hk1 _ _ => ?_)
  · exact Next.mk 0 rfl wk
  by_cases hlt : k < ps.length
  · have hst := lastO_step hlt tag
    simp (disch := first | omega | (simp only [go_sem]; first | done | omega)) only [go_sem, hlt]
    repeat' (first | ((first | refine acond_d ?_ ?_ | refine acond_b ?_ ?_ | refine ag_d ?_ ?_ | refine ag_n ?_ ?_ | refine ag_bt ?_ ?_ | refine ag_bf ?_ ?_) <;> intro c <;> try simp (disch := first | omega | (simp only [go_sem]; first | done | omega)) only [go_sem, c]) | ((first | refine w_draw (by kernel_rfl) (by decide +kernel) ?_) <;> try simp (disch := first | omega | (simp only [go_sem]; first | done | omega)) only [go_sem]))
    all_goals
      refine Next.mk (k + 1) (by first | rfl | exact ⟨rfl, hlt⟩) ?_
      first
        | (rw [if_pos ⟨by assumption, by assumption⟩] at hst; rw [hst]; exact wk)
        | (rw [if_neg (by rintro ⟨_, _⟩; simp_all)] at hst; rw [hst]; exact wk)
  · have : k = ps.length := by omega
    subst this
    rw [List.take_of_length_le (Nat.le_refl _)]
    simp (disch := first | omega | (simp only [go_sem]; first | done | omega)) only [go_sem, hlt]
    exact Ret.same (Nat.le_refl _) hk
def foll (ps : List Pc) (b : Blk) : Bool := b.over || decide (lastO ps b.tag < b.first)
theorem follows_a (ps : List Pc) (b : Blk) (hl : ps.length ≤ 1000000000) (hk : K (.c (.bool (foll ps b))) H) : ACalls Tryz.prog 296 [.c (.lst 8 (ps.map encPc)), .agg (encBk b)] H K := by
  unfold encBk
  refine acalls Tryz.func296 rfl (by kernel_rfl) (by simp (disch := first | omega | (simp only [go_sem]; first | done | omega)) only [go_sem]) (fun hH => ?_)
  simp (disch := first | omega | (simp only [go_sem]; first | done | omega)) only [go_sem]
  repeat' (first | ((first | refine acond_d ?_ ?_ | refine acond_b ?_ ?_ | refine ag_d ?_ ?_ | refine ag_n ?_ ?_ | refine ag_bt ?_ ?_ | refine ag_bf ?_ ?_ | refine agt_d ?_ ?_ | refine agt_n ?_ ?_ | refine agt_bt ?_ ?_ | refine agt_bf ?_ ?_) <;> intro c <;> try simp (disch := first | omega | (simp only [go_sem]; first | done | omega)) only [go_sem, c]) | ((first | refine w_draw (by kernel_rfl) (by decide +kernel) ?_ | refine lastOf_a ps b.tag hl ?_ | refine w_tree (.one 0 (.one 1 (.one 2 (.one 3 (.one 5 (.one 6 (.one 7 (.two 4 (.one 8 (.one 9 (.one 10 (.one 11 .done)))) 8 (.one 4 (.one 9 (.one 10 (.one 11 .done)))))))))))) (by kernel_rfl) (by decide +kernel) ?_) <;> try simp (disch := first | omega | (simp only [go_sem]; first | done | omega)) only [go_sem]) | (refine And.intro ?_ ?_ <;> try simp (disch := first | omega | (simp only [go_sem]; first | done | omega)) only [go_sem]))
  all_goals (first | refine Ret.sameE (Nat.le_refl _) (by assumption) ?_ | refine Ret.dropE (by assumption) (Nat.le_refl _) (by assumption) (by simp [AV.ok, AV.ok1, AC.ok]) ?_) <;> simp [foll, *]
theorem foll_lend {i : Nat} (ps : List Pc) (b : Blk) (hl : ps.length ≤ 1000000000) (hi : H[i]? = some (grO 362 8 (ps.map encPc))) (hk : K (.c (.bool (foll ps b))) H) : ACalls Tryz.prog 296 [.c (grV i ps), .agg (encBk b)] H K := by
  rw [← map_grV encPc i ps]
  exact ACalls.lendGr (.c (.bool (foll ps b))) hi (pureL_Pc ps) rfl rfl rfl (by simp [AV.ok1, AC.ok, encBk]) (fun G J hJ => follows_a ps b hl hJ) hk
/-! ### decode's answers -/
theorem decRes_ok {l : List UInt8} {p : Nat} (hp : p ≤ l.length) (h : (decRes l p).2.2 = 0) : 2 ≤ (decRes l p).1.long ∧ (p : Int) + (decRes l p).1.long ≤ l.length := by
  unfold decRes at h ⊢
  split at h
  · cases h
  rename_i h1
  rw [if_neg h1]
  split at h
  · cases h
  rename_i h2
  rw [if_neg h2]
  split at h
  · cases h
  rename_i kind tag ss e hd
  split at h
  · cases h
  rename_i h3
  rw [if_neg h3]
  split at h
  · cases h
  rename_i h4
  rw [if_neg h4]
  split at h
  · rename_i h5; exact absurd h h5
  rename_i h5
  rw [if_neg h5]
  dsimp only
  have hd2 : p ≤ e ∧ e + 2 ≤ l.length := by
    unfold decP at hd
    split at hd
    · cases hd
    split at hd
    · cases hd
    rename_i n x hx
    split at hd
    · cases hd
    split at hd
    · cases hd
    rename_i m y hy
    split at hd
    · cases hd
    split at hd
    · cases hd
    rename_i ss' e' hs
    split at hd
    · cases hd
    rename_i h6
    simp only [Option.some.injEq, Prod.mk.injEq] at hd
    obtain ⟨_, _, _, rfl⟩ := hd
    have := (smps_len _ _ _ _ _ hs).2.1
    have := unvarint_le hx
    have := unvarint_le hy
    omega
  omega
theorem decTop_ok {l : List UInt8} {p : Nat} (h : (decTop l p).2.2 = 0) : 2 ≤ (decTop l p).1.long ∧ (p : Int) + (decTop l p).1.long ≤ l.length := by
  unfold decTop at h ⊢
  split at h
  · cases h
  rename_i h1
  rw [if_neg h1]
  split at h
  · cases h
  rename_i h2
  rw [if_neg h2]
  exact decRes_ok (by omega) h
def parF (l : List UInt8) : Nat → Nat → List Pc → List Pc × Nat × Int
  | 0, p, acc => (acc, p, 0)
  | f + 1, p, acc => if p < l.length then
      if (decTop l p).2.2 ≠ 0 then (acc, p, (decTop l p).2.2)
      else if foll acc (decTop l p).1 = false then (acc, p, 7)
      else parF l f (p + (decTop l p).1.long.toNat) (acc ++ [⟨(decTop l p).1, (decTop l p).2.1⟩])
    else (acc, p, 0)
def par (l : List UInt8) : List Pc × Nat × Int := if 200000 < l.length then ([], 0, 2) else parF l (l.length + 1) 0 []
theorem parse_a (l : List UInt8) (hl : l.length ≤ 100000000) (hk : K (.tup [.c (.lst 8 ((par l).1.map encPc)), (.c (.int .i64 ((par l).2.1))), (.c (.int .i64 ((par l).2.2)))]) H) : ACalls Tryz.prog 237 [.c (.lst 1 (l.map encU))] H K := by
  unfold par at hk
  by_cases h0 : 200000 < l.length
  · rw [if_pos h0] at hk
    have e0 : ((200000 : Int) < l.length) = True := by simp; omega
    refine acalls Tryz.func237 rfl (by kernel_rfl) (by simp (disch := first | omega | (simp only [go_sem]; first | done | omega)) only [go_sem]) (fun hH => ?_)
    simp (disch := first | omega | (simp only [go_sem]; first | done | omega)) only [go_sem, e0]
    exact Ret.nil [8] (by simp) (Ret.same (by simp) hk)
  rw [if_neg h0] at hk
  have e0 : ((200000 : Int) < l.length) = False := by simp; omega
  generalize hT : parF l (l.length + 1) 0 [] = T at hk
  refine acalls Tryz.func237 rfl (by kernel_rfl) (by simp (disch := first | omega | (simp only [go_sem]; first | done | omega)) only [go_sem]) (fun hH => ?_)
  simp (disch := first | omega | (simp only [go_sem]; first | done | omega)) only [go_sem, e0]
  refine AWp.loop (H.length) [0] [5, 6] (fun (s : Nat × List Pc) => s.1 ≤ l.length ∧ s.2.length ≤ s.1 ∧ ∃ f, l.length - s.1 < f ∧ T = parF l f s.1 s.2) (fun (s : Nat × List Pc) => [(5, .c (grV H.length s.2)), (6, (.c (.int .i64 (s.1))))]) (fun (s : Nat × List Pc) => H ++ [grO 362 8 (s.2.map encPc)]) (fun (s : Nat × List Pc) => l.length - s.1) (by kernel_rfl) (fun _ => rfl) (by kernel_rfl) (by first | (simp; done) | omega) (by first | (simp; done) | (simp; omega) | omega) kl ?_ (fun s hs _ _ => ?_)
  · exact Next.mk (0, []) ⟨by simp, by simp, l.length + 1, by simp, hT.symm⟩ (WkL.pad (by simp))
  obtain ⟨p, acc⟩ := s
  obtain ⟨hp, ha, f, hf0, hr⟩ := hs
  dsimp only at hp ha hf0 hr ⊢
  by_cases hlt : p < l.length
  · obtain ⟨j, rfl⟩ : ∃ j, f = j + 1 := ⟨f - 1, by omega⟩
    rw [parF, if_pos hlt] at hr
    have hok := decTop_ok (l := l) (p := p)
    simp (disch := first | omega | (simp only [go_sem]; first | done | omega)) only [go_sem, hlt]
    refine decodeOf_a l p hl ?_
    generalize decTop l p = r at *
    obtain ⟨b, ss, e⟩ := r
    dsimp only at hr hok ⊢
    unfold encBk
    by_cases he : e = 0
    case neg =>
      rw [if_pos he] at hr
      rw [hr] at hk
      simp (disch := first | omega | (simp only [go_sem]; first | done | omega)) only [go_sem, he]
      exact Ret.frzGrT 0 hH (Nat.le_refl _) rfl (pureL_Pc _) rfl (map_grV _ _ _).symm hk
    rw [if_neg (by simpa using he)] at hr
    obtain ⟨o1, o2⟩ := hok he
    simp (disch := first | omega | (simp only [go_sem]; first | done | omega)) only [go_sem, he]
    refine foll_lend acc b (by omega) (by first | ((repeat first | exact at0 (by simp) | refine atS ?_); done) | assumption) ?_
    by_cases hf : foll acc b = false
    · rw [if_pos hf] at hr
      rw [hr] at hk
      simp (disch := first | omega | (simp only [go_sem]; first | done | omega)) only [go_sem, hf]
      exact Ret.frzGrT 0 hH (Nat.le_refl _) rfl (pureL_Pc _) rfl (map_grV _ _ _).symm hk
    rw [if_neg hf] at hr
    have hf : foll acc b = true := by simpa using hf
    simp (disch := first | omega | (simp only [go_sem]; first | done | omega)) only [go_sem, hf]
    (refine app_gr (enc := encPc) (e := 362) (sz := 8) (bs := 88) (z := [.int .i64 0, .int .i64 0, .str ⟨#[]⟩, .int .i64 0, .int .i64 0, .int .i64 0, .bool false, .sl none 0]) (acc) (⟨b, ss⟩) (by kernel_rfl) (by kernel_rfl) (by kernel_rfl) (by kernel_rfl) (by first | ((repeat first | exact at0 (by simp) | refine atS ?_); done) | assumption) (by first | (simp (disch := first | omega | (simp only [go_sem]; first | done | omega)) only [go_sem]; done) | (simp (disch := first | omega | (simp only [go_sem]; first | done | omega)) only [go_sem]; rfl) | (simp (disch := first | omega | (simp only [go_sem]; first | done | omega)) only [go_sem]; simp [go_sem]; done) | (simp (disch := first | omega | (simp only [go_sem]; first | done | omega)) only [go_sem]; simp [*]; done)) rfl (by decide) (by omega) (by omega) (by rfl) ?_)
    simp (disch := first | omega | (simp only [go_sem]; first | done | omega)) only [go_sem]
    refine Next.mk (p + b.long.toNat, acc ++ [⟨b, ss⟩]) ⟨⟨by dsimp only; omega, by simp; omega, ?_⟩, by dsimp only; omega⟩ ?_
    · exact ⟨j, by dsimp only; omega, hr⟩
    · exact ow
  · obtain ⟨j, rfl⟩ : ∃ j, f = j + 1 := ⟨f - 1, by omega⟩
    rw [parF, if_neg hlt] at hr
    rw [hr] at hk
    simp (disch := first | omega | (simp only [go_sem]; first | done | omega)) only [go_sem, hlt]
    exact Ret.frzGrT 0 hH (Nat.le_refl _) rfl (pureL_Pc _) rfl (map_grV _ _ _).symm hk
end Go.Proofs.YtnodfnjmhcjnfaaGreatDoor
