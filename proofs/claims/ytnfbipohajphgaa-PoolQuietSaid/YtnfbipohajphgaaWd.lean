/- Walks: what a runner does by itself (set, sum, less, jump, end). -/
import Derived.Test.YtnfbipohajphgaaWc
import Derived.Test.YtnfbipohajphgaaMb
import Derived.StillTailTactics
set_option linter.unusedVariables false
set_option linter.unusedSimpArgs false
namespace Go.Proofs.Ytnfbipohajphgaa
open Go.RowKit Qn PoolQ

variable {w : World} {B bp : Nat} {pv mv : Value} {S : Psys} {st : St} {C : Comp}

theorem belowSet {B : Nat} {w : World} {g o : Nat} {u : Value} (hB : B ≤ g) : Below B w (w.setCell ⟨g, o, none⟩ u) := (Below.refl _ _).setCell (p := ⟨g, o, none⟩) hB u

theorem set_any (h : Mach w B bp pv mv S st C) (k : Nat) (hk : k < st.rs.length) (hn : st.rs.length ≤ 1000000) (g : Nat) (hg : g < 8) (x : Int) :
    Calls Try.prog 26 #[.pointer (some ⟨bp, 0, none⟩), .int .i64 k, .int .i64 g, .int .i64 x] w fun e w' => e = .returned (.tuple #[]) ∧
      (Mach w' B bp pv mv S { st with rs := st.rs.set k (setReg (st.rs.getD k default) g x) } C ∧ Below B w w' ∧ ∃ rb o, B ≤ rb ∧ C.rv.ownBlock = some rb ∧ w' = w.setCell ⟨rb, o, none⟩ (.int .i64 x)) := by
  obtain ⟨rb, ro, rc, hrv, hrb, hrB⟩ := h.rform (by omega)
  have c5 := (h.wcell 5 _ rfl).trans (by rw [hrv])
  refine (set_raw w bp rb ro rc st.rs.length k g x _ c5 hk hn hg (h.regcell hrv k hk g hg) (h.rfree hrv _)).mono ?_
  rintro e w' ⟨rfl, rfl⟩
  exact ⟨rfl, h.setReg hrv k g x hk hg, belowSet hrB, rb, _, hrB, by rw [hrv]; rfl, rfl⟩

theorem below2 {B : Nat} {w : World} (hB : B ≤ w.heap.size) (a b : Obj) : Below B w ((w.alloc a).alloc b) := ((Below.refl _ _).alloc hB _).alloc (by simp; omega) _

theorem machN (h : Mach w B bp pv mv S st C) (n : Nat) : Mach (w.drewN n) B bp pv mv S st C := h.grown ⟨rfl, rfl, rfl, Nat.le_refl _, fun _ _ _ => rfl⟩

def OwnDid (B bp : Nat) (pv mv : Value) (S : Psys) (st : St) (C : Comp) (w w' : World) : Prop := Mach w' B bp pv mv S st C ∧ Below B w w' ∧ w.grownBy w' C.rv.ownBlock

theorem grown2 (w : World) (a b : Obj) (row : Option Nat) : w.grownBy ((w.alloc a).alloc b) row := grownBy_trans (World.grownBy_alloc w a row) (World.grownBy_alloc _ b row)
theorem grownN (w : World) (n : Nat) (row : Option Nat) : w.grownBy (w.drewN n) row := ⟨rfl, rfl, rfl, Nat.le_refl _, fun _ _ _ => rfl⟩
theorem grownSet {v : Value} {g n c o : Nat} (hv : v = .slice (some ⟨g, o, none⟩) n c) (w : World) (j : Nat) (u : Value) : w.grownBy (w.setCell ⟨g, j, none⟩ u) v.ownBlock := by
  subst hv; exact grownBy_setCell w g j u
theorem grownSetB {v : Value} {g : Nat} (hv : v.ownBlock = some g) (w : World) (j : Nat) (u : Value) : w.grownBy (w.setCell ⟨g, j, none⟩ u) v.ownBlock := by
  rw [hv]; exact grownBy_setCell w g j u

set_option maxHeartbeats 2000000 in
theorem own_set (h : Mach w B bp pv mv S st C) (k : Nat) (hk : k < st.rs.length) (hn : st.rs.length ≤ 1000000) (g : Nat) (hg : g < 8) (b c : Int) :
    Calls Try.prog 25 #[.pointer (some ⟨bp, 0, none⟩), .int .i64 k, .agg #[.int .i64 1, .int .i64 g, .int .i64 b, .int .i64 c]] w fun e w' => e = .returned (.tuple #[]) ∧
      OwnDid B bp pv mv S { st with rs := st.rs.set k (setReg (st.rs.getD k default) g b) } C w w' := by
  obtain ⟨rb, ro, rc, hrv, hrb, hrB⟩ := h.rform (by omega)
  obtain ⟨p, a, x0, x1, x2, x3, x4, x5, x6, x7, e, hr⟩ := h.runner8 k hk
  have c5 := (h.wcell 5 _ rfl).trans (by rw [hrv])
  obtain ⟨k0, k1, k2, k3, k4, k5, k6, k7, k8, k9, k10⟩ := h.rall hrv k hk hr
  have hbp := h.lt
  have hB : B ≤ w.heap.size := by have := h.bpB; omega
  have HM := Lib.hid h
  clear h hr hrv
  go_enter Try.func25, Try.ntmps25
  go_wp2_with (go_at_call 26; refine (set_any ((HM.out.alloc _).alloc _) k hk hn g hg b).mono ?_; rintro e w1 ⟨rfl, hm1, hb1, hx1⟩)
  go_end0
  obtain ⟨rb1, o1, -, hrv1, rfl⟩ := hx1
  exact ⟨rfl, hm1, (below2 hB _ _).trans hb1, grownBy_trans (grown2 _ _ _ _) (grownSetB hrv1 _ _ _)⟩

set_option maxHeartbeats 2000000 in
theorem own_sum (h : Mach w B bp pv mv S st C) (k : Nat) (hk : k < st.rs.length) (hn : st.rs.length ≤ 1000000) (g g2 : Nat) (hg : g < 8) (hg2 : g2 < 8) (c : Int)
    (hs : -1000000 ≤ reg (st.rs.getD k default) g + reg (st.rs.getD k default) g2 ∧ reg (st.rs.getD k default) g + reg (st.rs.getD k default) g2 ≤ 1000000) :
    Calls Try.prog 25 #[.pointer (some ⟨bp, 0, none⟩), .int .i64 k, .agg #[.int .i64 2, .int .i64 g, .int .i64 g2, .int .i64 c]] w fun e w' => e = .returned (.tuple #[]) ∧
      OwnDid B bp pv mv S { st with rs := st.rs.set k (setReg (st.rs.getD k default) g (reg (st.rs.getD k default) g + reg (st.rs.getD k default) g2)) } C w w' := by
  obtain ⟨rb, ro, rc, hrv, hrb, hrB⟩ := h.rform (by omega)
  obtain ⟨p, a, x0, x1, x2, x3, x4, x5, x6, x7, e, hr⟩ := h.runner8 k hk
  have c5 := (h.wcell 5 _ rfl).trans (by rw [hrv])
  obtain ⟨k0, k1, k2, k3, k4, k5, k6, k7, k8, k9, k10⟩ := h.rall hrv k hk hr
  have hbp := h.lt
  have hB : B ≤ w.heap.size := by have := h.bpB; omega
  have HM := Lib.hid h
  have ha : ∀ (g : Nat) (hg : g < [Value.int .i64 x0, .int .i64 x1, .int .i64 x2, .int .i64 x3, .int .i64 x4, .int .i64 x5, .int .i64 x6, .int .i64 x7].length),
      [Value.int .i64 x0, .int .i64 x1, .int .i64 x2, .int .i64 x3, .int .i64 x4, .int .i64 x5, .int .i64 x6, .int .i64 x7][g]'hg = .int .i64 (reg (st.rs.getD k default) g) := by
    intro g hg
    have hg' : g < 8 := by simpa using hg
    rw [hr]
    match g, hg' with
    | 0, _ => rfl
    | 1, _ => rfl
    | 2, _ => rfl
    | 3, _ => rfl
    | 4, _ => rfl
    | 5, _ => rfl
    | 6, _ => rfl
    | 7, _ => rfl
  have a1 := ha g (by simpa using hg)
  have a2 := ha g2 (by simpa using hg2)
  clear h hr hrv ha
  generalize reg (st.rs.getD k default) g = y1 at *
  generalize reg (st.rs.getD k default) g2 = y2 at *
  obtain ⟨hs1, hs2⟩ := hs
  have gi1 : (g : Int) < 8 := by omega
  have gi2 : (g2 : Int) < 8 := by omega
  go_enter Try.func25, Try.ntmps25
  go_upto_region 6 with (fail)
  refine region_tail 13 (by kernel_rfl) (by kernel_rfl) ?_
  simp only [List.take_succ_cons, List.take_zero, List.drop_succ_cons, List.drop_zero]
  repeat still_step
  refine wpStill_nil ?_
  go_wp2_with (go_at_call 26; refine (set_any ((HM.out.alloc _).alloc _).drew k hk hn g hg (y1 + y2)).mono ?_; rintro e w1 ⟨rfl, hm1, hb1, hx1⟩)
  go_end0
  obtain ⟨rb1, o1, -, hrv1, rfl⟩ := hx1
  exact ⟨rfl, hm1, (below2 hB _ _).drew.trans hb1, grownBy_trans (grownBy_trans (grown2 _ _ _ _) (grownBy_drew _ _)) (grownSetB hrv1 _ _ _)⟩

set_option maxHeartbeats 2000000 in
theorem own_less_no (h : Mach w B bp pv mv S st C) (k : Nat) (hk : k < st.rs.length) (hn : st.rs.length ≤ 1000000) (g g2 : Nat) (hg : g < 8) (hg2 : g2 < 8) (c : Int)
    (hs : ¬ reg (st.rs.getD k default) g < reg (st.rs.getD k default) g2) :
    Calls Try.prog 25 #[.pointer (some ⟨bp, 0, none⟩), .int .i64 k, .agg #[.int .i64 3, .int .i64 g, .int .i64 g2, .int .i64 c]] w fun e w' => e = .returned (.tuple #[]) ∧
      OwnDid B bp pv mv S st C w w' := by
  obtain ⟨rb, ro, rc, hrv, hrb, hrB⟩ := h.rform (by omega)
  obtain ⟨p, a, x0, x1, x2, x3, x4, x5, x6, x7, e, hr⟩ := h.runner8 k hk
  have c5 := (h.wcell 5 _ rfl).trans (by rw [hrv])
  obtain ⟨k0, k1, k2, k3, k4, k5, k6, k7, k8, k9, k10⟩ := h.rall hrv k hk hr
  have hbp := h.lt
  have hB : B ≤ w.heap.size := by have := h.bpB; omega
  have HM := Lib.hid h
  have HR := Lib.hid hrv
  have ha : ∀ (g : Nat) (hg : g < [Value.int .i64 x0, .int .i64 x1, .int .i64 x2, .int .i64 x3, .int .i64 x4, .int .i64 x5, .int .i64 x6, .int .i64 x7].length),
      [Value.int .i64 x0, .int .i64 x1, .int .i64 x2, .int .i64 x3, .int .i64 x4, .int .i64 x5, .int .i64 x6, .int .i64 x7][g]'hg = .int .i64 (reg (st.rs.getD k default) g) := by
    intro g hg
    have hg' : g < 8 := by simpa using hg
    rw [hr]
    match g, hg' with
    | 0, _ => rfl
    | 1, _ => rfl
    | 2, _ => rfl
    | 3, _ => rfl
    | 4, _ => rfl
    | 5, _ => rfl
    | 6, _ => rfl
    | 7, _ => rfl
  have a1 := ha g (by simpa using hg)
  have a2 := ha g2 (by simpa using hg2)
  clear h hr hrv ha
  generalize reg (st.rs.getD k default) g = y1 at *
  generalize reg (st.rs.getD k default) g2 = y2 at *
  have hs' : decide (y1 < y2) = false := by simp; omega
  have gi1 : (g : Int) < 8 := by omega
  have gi2 : (g2 : Int) < 8 := by omega
  have gj1 : (0 : Int) ≤ g := by omega
  have gj2 : (0 : Int) ≤ g2 := by omega
  clear hs
  go_enter Try.func25, Try.ntmps25
  go_upto_region 8 with (fail)
  go_quiet (fail)
  go_wp2
  go_end0
  exact ⟨rfl, machN ((HM.out.alloc _).alloc _) _, belowN (below2 hB _ _) _, grownBy_trans (grown2 _ _ _ _) (grownN _ _ _)⟩

set_option maxHeartbeats 2000000 in
theorem own_less_yes (h : Mach w B bp pv mv S st C) (k : Nat) (hk : k < st.rs.length) (hn : st.rs.length ≤ 1000000) (g g2 : Nat) (hg : g < 8) (hg2 : g2 < 8) (c : Int) (hc : -1000000 ≤ c ∧ c ≤ 1000000)
    (hs : reg (st.rs.getD k default) g < reg (st.rs.getD k default) g2) :
    Calls Try.prog 25 #[.pointer (some ⟨bp, 0, none⟩), .int .i64 k, .agg #[.int .i64 3, .int .i64 g, .int .i64 g2, .int .i64 c]] w fun e w' => e = .returned (.tuple #[]) ∧
      OwnDid B bp pv mv S { st with rs := st.rs.set k { st.rs.getD k default with at_ := c - 1 } } C w w' := by
  obtain ⟨rb, ro, rc, hrv, hrb, hrB⟩ := h.rform (by omega)
  obtain ⟨p, a, x0, x1, x2, x3, x4, x5, x6, x7, e, hr⟩ := h.runner8 k hk
  have c5 := (h.wcell 5 _ rfl).trans (by rw [hrv])
  obtain ⟨k0, k1, k2, k3, k4, k5, k6, k7, k8, k9, k10⟩ := h.rall hrv k hk hr
  have hbp := h.lt
  have hB : B ≤ w.heap.size := by have := h.bpB; omega
  have HM := Lib.hid h
  have HR := Lib.hid hrv
  have ha : ∀ (g : Nat) (hg : g < [Value.int .i64 x0, .int .i64 x1, .int .i64 x2, .int .i64 x3, .int .i64 x4, .int .i64 x5, .int .i64 x6, .int .i64 x7].length),
      [Value.int .i64 x0, .int .i64 x1, .int .i64 x2, .int .i64 x3, .int .i64 x4, .int .i64 x5, .int .i64 x6, .int .i64 x7][g]'hg = .int .i64 (reg (st.rs.getD k default) g) := by
    intro g hg
    have hg' : g < 8 := by simpa using hg
    rw [hr]
    match g, hg' with
    | 0, _ => rfl
    | 1, _ => rfl
    | 2, _ => rfl
    | 3, _ => rfl
    | 4, _ => rfl
    | 5, _ => rfl
    | 6, _ => rfl
    | 7, _ => rfl
  have a1 := ha g (by simpa using hg)
  have a2 := ha g2 (by simpa using hg2)
  have cf := h.rfree hrv
  have hkn : (k : Int) < (st.rs.length : Int) := by omega
  have hkz : (0 : Int) ≤ (k : Int) := by omega
  obtain ⟨hc1, hc2⟩ := hc
  clear h hr hrv ha
  generalize reg (st.rs.getD k default) g = y1 at *
  generalize reg (st.rs.getD k default) g2 = y2 at *
  have hs' : decide (y1 < y2) = true := by simp; omega
  have gi1 : (g : Int) < 8 := by omega
  have gi2 : (g2 : Int) < 8 := by omega
  have gj1 : (0 : Int) ≤ g := by omega
  have gj2 : (0 : Int) ≤ g2 := by omega
  clear hs
  go_enter Try.func25, Try.ntmps25
  go_upto_region 8 with (fail)
  go_quiet (fail)
  go_upto_region 9 with (fail)
  refine region_tail 10 (by kernel_rfl) (by kernel_rfl) ?_
  simp only [List.take_succ_cons, List.take_zero, List.drop_succ_cons, List.drop_zero]
  repeat still_step
  refine wpStill_nil ?_
  go_wp2
  go_end0
  exact ⟨rfl, (machN ((HM.out.alloc _).alloc _) (nq + 1)).setAt HR.out k (c - 1) hk, (belowN (below2 hB _ _) _).trans (belowSet hrB), grownBy_trans (grownBy_trans (grown2 _ _ _ _) (grownN _ _ _)) (grownSet HR.out _ _ _)⟩

set_option maxHeartbeats 2000000 in
theorem own_jump (h : Mach w B bp pv mv S st C) (k : Nat) (hk : k < st.rs.length) (hn : st.rs.length ≤ 1000000) (a0 b0 c : Int) (hc : -1000000 ≤ c ∧ c ≤ 1000000) :
    Calls Try.prog 25 #[.pointer (some ⟨bp, 0, none⟩), .int .i64 k, .agg #[.int .i64 4, .int .i64 a0, .int .i64 b0, .int .i64 c]] w fun e w' => e = .returned (.tuple #[]) ∧
      OwnDid B bp pv mv S { st with rs := st.rs.set k { st.rs.getD k default with at_ := c - 1 } } C w w' := by
  obtain ⟨rb, ro, rc, hrv, hrb, hrB⟩ := h.rform (by omega)
  obtain ⟨p, a, x0, x1, x2, x3, x4, x5, x6, x7, e, hr⟩ := h.runner8 k hk
  have c5 := (h.wcell 5 _ rfl).trans (by rw [hrv])
  obtain ⟨k0, k1, k2, k3, k4, k5, k6, k7, k8, k9, k10⟩ := h.rall hrv k hk hr
  have hbp := h.lt
  have hB : B ≤ w.heap.size := by have := h.bpB; omega
  have HM := Lib.hid h
  have HR := Lib.hid hrv
  have cf := h.rfree hrv
  have hkn : (k : Int) < (st.rs.length : Int) := by omega
  have hkz : (0 : Int) ≤ (k : Int) := by omega
  obtain ⟨hc1, hc2⟩ := hc
  clear h hr hrv
  go_enter Try.func25, Try.ntmps25
  go_upto_region 11 with (fail)
  refine region_tail 10 (by kernel_rfl) (by kernel_rfl) ?_
  simp only [List.take_succ_cons, List.take_zero, List.drop_succ_cons, List.drop_zero]
  repeat still_step
  refine wpStill_nil ?_
  go_wp2
  go_end0
  exact ⟨rfl, (((HM.out.setAt HR.out k (c - 1) hk).alloc _).alloc _).drew, ((belowSet hrB).trans (below2 (by simpa [World.setCell] using hB) _ _)).drew, grownBy_trans (grownBy_trans (grownSet HR.out _ _ _) (grown2 _ _ _ _)) (grownBy_drew _ _)⟩

set_option maxHeartbeats 2000000 in
theorem own_end (h : Mach w B bp pv mv S st C) (k : Nat) (hk : k < st.rs.length) (hn : st.rs.length ≤ 1000000) (a0 b0 c : Int) :
    Calls Try.prog 25 #[.pointer (some ⟨bp, 0, none⟩), .int .i64 k, .agg #[.int .i64 16, .int .i64 a0, .int .i64 b0, .int .i64 c]] w fun e w' => e = .returned (.tuple #[]) ∧
      OwnDid B bp pv mv S { st with rs := st.rs.set k { st.rs.getD k default with ended := true } } C w w' := by
  obtain ⟨rb, ro, rc, hrv, hrb, hrB⟩ := h.rform (by omega)
  obtain ⟨p, a, x0, x1, x2, x3, x4, x5, x6, x7, e, hr⟩ := h.runner8 k hk
  have c5 := (h.wcell 5 _ rfl).trans (by rw [hrv])
  obtain ⟨k0, k1, k2, k3, k4, k5, k6, k7, k8, k9, k10⟩ := h.rall hrv k hk hr
  have hbp := h.lt
  have hB : B ≤ w.heap.size := by have := h.bpB; omega
  have HM := Lib.hid h
  have HR := Lib.hid hrv
  have cf := h.rfree hrv
  clear h hr hrv
  go_enter Try.func25, Try.ntmps25
  go_wp2
  go_end0
  exact ⟨rfl, ((HM.out.setEnded HR.out k hk).alloc _).alloc _, (belowSet hrB).trans (below2 (by simpa [World.setCell] using hB) _ _), grownBy_trans (grownSet HR.out _ _ _) (grown2 _ _ _ _)⟩

end Go.Proofs.Ytnfbipohajphgaa
