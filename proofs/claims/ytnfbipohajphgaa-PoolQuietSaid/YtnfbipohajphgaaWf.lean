/- Walks: take, close. -/
import Derived.Test.YtnfbipohajphgaaWe
set_option linter.unusedVariables false
set_option linter.unusedSimpArgs false
namespace Go.Proofs.Ytnfbipohajphgaa
open Go.RowKit Qn PoolQ

variable {w : World} {B bp : Nat} {pv mv : Value} {S : Psys} {st : St} {C : Comp}

theorem take_none_done (h : Mach w B bp pv mv S st C) {eb : Nat} {who op a v : Int} {s : Bool} (he : EvBlk w B eb C who op a v s) (hB : B ≤ w.heap.size) {rb ro rc : Nat} (hrv : C.rv = .slice (some ⟨rb, ro, none⟩) st.rs.length rc) (hrB : B ≤ rb)
    (her : eb ≠ rb) {k : Nat} (hk : k < st.rs.length) {o1 : Obj} {n1 n2 : Nat} {y : Int} :
    Did B bp pv mv S eb who op C.ev { st with rs := st.rs.set k { st.rs.getD k default with at_ := y } } w
      (((((w.alloc o1).drewN n1).setCell ⟨eb, 4, none⟩ (.bool true)).drewN n2).setCell ⟨rb, ro + k * 11 + 1, none⟩ (.int .i64 y)) := by
  have H1 := (machN (machEv (machN (h.alloc o1) n1) ((he.alloc o1).drewN n1) 4 (.bool true)) n2)
  have HZ := H1.setAt hrv k y hk
  have HY := ((((he.alloc o1).drewN n1).setS true).drewN n2)
  have HX := HY.keep (grownBy_setCell _ rb (ro + k * 11 + 1) (.int .i64 y)) her
  have b1 : Below B w ((((w.alloc o1).drewN n1).setCell ⟨eb, 4, none⟩ (.bool true)).drewN n2) := belowN ((belowN ((Below.refl _ _).alloc hB _) _).trans (belowSet he.eB)) _
  exact ⟨_, _, HZ, rfl, evAt_of HX, b1.trans (belowSet hrB)⟩

set_option maxHeartbeats 1000000 in
theorem chan_take_none (h : Mach w B bp pv mv S st C) (k : Nat) (hk : k < st.rs.length) (hn : st.rs.length ≤ 1000000) (an g : Nat) (c : Int) (hg : g < 8) (ha2 : an < st.held.length) (hl4 : st.held.length ≤ 64)
    (hc : -1000000 ≤ c ∧ c ≤ 1000000) (hL : st.held.getD an [] = []) (eb : Nat) (who op a v : Int) (s : Bool) (he : EvBlk w B eb C who op a v s) :
    Calls Try.prog 23 #[.pointer (some ⟨bp, 0, none⟩), .int .i64 k, .agg #[.int .i64 6, .int .i64 an, .int .i64 g, .int .i64 c], .pointer (some ⟨eb, 0, none⟩)] w fun e w' => e = .returned (.int .i64 0) ∧
      Did B bp pv mv S eb who op C.ev { st with rs := st.rs.set k { st.rs.getD k default with at_ := c - 1 } } w w' := by
  obtain ⟨rb, ro, rc, hrv, hrb, hrB⟩ := h.rform (by omega)
  have c5 := (h.wcell 5 _ rfl).trans (by rw [hrv])
  have r0 := h.regcell hrv k hk g hg
  obtain ⟨p, a1, x0, x1, x2, x3, x4, x5, x6, x7, e, hr⟩ := h.runner8 k hk
  obtain ⟨k0, k1, k2, k3, k4, k5, k6, k7, k8, k9, k10⟩ := h.rall hrv k hk hr
  clear k0 k2 k3 k4 k5 k6 k7 k8 k9 k10 hr
  obtain ⟨hb, ho, hc', hhv, hhb, hhB⟩ := h.hform (by rw [h.ql]; omega)
  have c6 := (h.wcell 6 _ rfl).trans (by rw [hhv])
  obtain ⟨qv, hqv, q1, q2⟩ := h.hcell hhv an ha2
  rw [hL] at q2
  obtain ⟨qa, qc, rfl, -⟩ := q2.isSlice
  have ceb : w.cell? ⟨eb, 4, none⟩ = some (.bool s) := by rw [cell_of_row w eb 4 _ 66 (0, 0) he.blk]; rfl
  have feb : w.frozen? ⟨eb, 4, none⟩ = false := frozen_of_row w eb 4 _ 66 he.blk
  have fr : w.frozen? ⟨rb, ro + k * 11 + 1, none⟩ = false := h.rfree hrv _
  have hebp := he.neBlk h.blk (by decide)
  have heh : eb ≠ hb := he.neOwn h.held (by decide) (by rw [hhv]; rfl)
  have her : eb ≠ rb := he.neOwn h.rs (by decide) (by rw [hrv]; rfl)
  have helt := he.lt
  have hen : eb ≠ w.heap.size := by omega
  have hbp := h.lt
  have hB : B ≤ w.heap.size := by have := h.bpB; omega
  have hkn : (k : Int) < (st.rs.length : Int) := by omega
  have hkz : (0 : Int) ≤ (k : Int) := by omega
  have gi1 : (g : Int) < 8 := by omega
  have gj1 : (0 : Int) ≤ g := by omega
  have aj1 : (0 : Int) ≤ an := by omega
  have ai2 : (an : Int) < (C.qs.length : Int) := by rw [h.ql]; omega
  have ai3 : C.qs.length ≤ 64 := by rw [h.ql]; omega
  have e1 : (st.rs.getD k default).regs[g]?.getD 0 = reg (st.rs.getD k default) g := by simp [reg]
  rw [e1] at r0
  generalize reg (st.rs.getD k default) g = y at *
  obtain ⟨hc1, hc2⟩ := hc
  have HM := Lib.hid h
  have HE := Lib.hid he
  have HR := Lib.hid hrv
  clear h he e1 hL q2 hrv
  go_enter Try.func23, Try.ntmps23
  go_upto_region 1 with (fail)
  go_quiet (fail)
  go_upto_region 9 with (fail)
  go_quiet (fail)
  go_upto_region 11 with (fail)
  refine region_tail 10 (by kernel_rfl) (by kernel_rfl) ?_
  simp only [List.take_succ_cons, List.take_zero, List.drop_succ_cons, List.drop_zero]
  repeat still_step
  refine wpStill_nil ?_
  go_wp2
  go_ret
  exact ⟨rfl, take_none_done HM.out HE.out hB HR.out hrB her hk⟩

theorem setHeldSame (h : Mach w B bp pv mv S st C) {hb ho hc : Nat} (hhv : C.hv = .slice (some ⟨hb, ho, none⟩) C.qs.length hc) {g o q : Nat} {an : Nat} {x : Int} {L : List Int} {m : Nat} (hm : L.length = m) {qp : Option Addr} (hqp : (if q = 1 then some (⟨g, o, none⟩ : Addr) else some ⟨g, o + 1, none⟩) = qp) (hqv : C.qs[an]? = some (.slice (some ⟨g, o, none⟩) (m + 1) q)) (hL : st.held.getD an [] = x :: L) :
    Mach (w.setCell ⟨hb, ho + an, none⟩ (.slice qp m (q - 1))) B bp pv mv S { st with held := st.held.set an L } { C with qs := C.qs.set an (.slice qp m (q - 1)) } := by
  subst hm hqp
  have h1 := h.qs an _ hqv
  rw [hL] at h1
  refine h.setHeld hhv an _ _ L hqv ⟨rfl, rfl, rfl, Nat.le_refl _, fun _ _ _ => rfl⟩ ?_ (.inl ?_)
  · simpa using h1.tail
  · split <;> rfl

theorem take_some_done (h : Mach w B bp pv mv S st C) {eb : Nat} {who op a v : Int} {s : Bool} (he : EvBlk w B eb C who op a v s) (hB : B ≤ w.heap.size) {hb ho hc : Nat} (hhv : C.hv = .slice (some ⟨hb, ho, none⟩) C.qs.length hc) (hhB : B ≤ hb)
    (heh : eb ≠ hb) {g o q an : Nat} {x : Int} {L : List Int} {m : Nat} (hm : L.length = m) {qp : Option Addr} (hqp : (if q = 1 then some (⟨g, o, none⟩ : Addr) else some ⟨g, o + 1, none⟩) = qp) (hqv : C.qs[an]? = some (.slice (some ⟨g, o, none⟩) (m + 1) q)) (hL : st.held.getD an [] = x :: L) {o1 : Obj} {n1 n2 n3 : Nat} :
    Mach (((((w.alloc o1).drewN n1).setCell ⟨eb, 3, none⟩ (.int .i64 x)).drewN n2).setCell ⟨hb, ho + an, none⟩ (.slice qp m (q - 1)) |>.drewN n3) B bp pv mv S { st with held := st.held.set an L } { C with qs := C.qs.set an (.slice qp m (q - 1)) } ∧
    EvBlk (((((w.alloc o1).drewN n1).setCell ⟨eb, 3, none⟩ (.int .i64 x)).drewN n2).setCell ⟨hb, ho + an, none⟩ (.slice qp m (q - 1)) |>.drewN n3) B eb C who op a x s ∧
    Below B w (((((w.alloc o1).drewN n1).setCell ⟨eb, 3, none⟩ (.int .i64 x)).drewN n2).setCell ⟨hb, ho + an, none⟩ (.slice qp m (q - 1)) |>.drewN n3) := by
  have H1 := (machN (machEv (machN (h.alloc o1) n1) ((he.alloc o1).drewN n1) 3 (.int .i64 x)) n2)
  have b1 : Below B w ((((w.alloc o1).drewN n1).setCell ⟨eb, 3, none⟩ (.int .i64 x)).drewN n2) := belowN ((belowN ((Below.refl _ _).alloc hB _) _).trans (belowSet he.eB)) _
  exact ⟨machN (setHeldSame H1 hhv hm hqp hqv hL) n3, ((((((he.alloc o1).drewN n1).setV x).drewN n2).keep (grownBy_setCell _ hb (ho + an) _) heh).drewN n3), belowN (b1.trans (belowSet hhB)) _⟩

end Go.Proofs.Ytnfbipohajphgaa
