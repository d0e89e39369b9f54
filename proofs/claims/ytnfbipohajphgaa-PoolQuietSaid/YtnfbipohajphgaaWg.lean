/- Walks: take, close. -/
import Derived.Test.YtnfbipohajphgaaWf
set_option linter.unusedVariables false
set_option linter.unusedSimpArgs false
namespace Go.Proofs.Ytnfbipohajphgaa
open Go.RowKit Qn PoolQ

variable {w : World} {B bp : Nat} {pv mv : Value} {S : Psys} {st : St} {C : Comp}

theorem close_done (h : Mach w B bp pv mv S st C) {eb : Nat} {who op a v : Int} {s : Bool} (he : EvBlk w B eb C who op a v s) (hB : B ≤ w.heap.size) {sb so sc : Nat} (hsv : C.sv = .slice (some ⟨sb, so, none⟩) st.shut.length sc) (hsB : B ≤ sb)
    (hes : eb ≠ sb) {an : Nat} {o1 : Obj} {n1 : Nat} :
    Did B bp pv mv S eb who op C.ev { st with shut := st.shut.set an true } w (((w.alloc o1).drewN n1).setCell ⟨sb, so + an, none⟩ (.bool true)) := by
  have H1 := machN (h.alloc o1) n1
  have HX := ((he.alloc o1).drewN n1).keep (grownBy_setCell _ sb (so + an) (.bool true)) hes
  exact ⟨_, _, H1.setShut hsv an true, rfl, evAt_of HX, (belowN ((Below.refl _ _).alloc hB _) _).trans (belowSet hsB)⟩

set_option maxHeartbeats 1000000 in
theorem chan_close (h : Mach w B bp pv mv S st C) (k : Nat) (hk : k < st.rs.length) (hn : st.rs.length ≤ 1000000) (an g : Nat) (c : Int) (hg : g < 8) (ha1 : an < st.shut.length) (hl3 : st.shut.length ≤ 64)
    (hs : st.shut.getD an false = false) (eb : Nat) (who op a v : Int) (s : Bool) (he : EvBlk w B eb C who op a v s) :
    Calls Try.prog 23 #[.pointer (some ⟨bp, 0, none⟩), .int .i64 k, .agg #[.int .i64 7, .int .i64 an, .int .i64 g, .int .i64 c], .pointer (some ⟨eb, 0, none⟩)] w fun e w' => e = .returned (.int .i64 0) ∧
      Did B bp pv mv S eb who op C.ev { st with shut := st.shut.set an true } w w' := by
  obtain ⟨rb, ro, rc, hrv, hrb, hrB⟩ := h.rform (by omega)
  have c5 := (h.wcell 5 _ rfl).trans (by rw [hrv])
  have r0 := h.regcell hrv k hk g hg
  obtain ⟨sb, so, sc, hsv, hsb, hsB⟩ := h.sform (by omega)
  have c7 := (h.wcell 7 _ rfl).trans (by rw [hsv])
  have s0 := h.scell hsv an ha1
  rw [hs] at s0
  have sf := h.sfree hsv (so + an)
  have hes : eb ≠ sb := he.neOwn h.shut (by decide) (by rw [hsv]; rfl)
  have hbp := h.lt
  have hB : B ≤ w.heap.size := by have := h.bpB; omega
  have hkn : (k : Int) < (st.rs.length : Int) := by omega
  have hkz : (0 : Int) ≤ (k : Int) := by omega
  have gi1 : (g : Int) < 8 := by omega
  have gj1 : (0 : Int) ≤ g := by omega
  have ai1 : (an : Int) < (st.shut.length : Int) := by omega
  have aj1 : (0 : Int) ≤ an := by omega
  have e1 : (st.rs.getD k default).regs[g]?.getD 0 = reg (st.rs.getD k default) g := by simp [reg]
  rw [e1] at r0
  generalize reg (st.rs.getD k default) g = y at *
  have HM := Lib.hid h
  have HE := Lib.hid he
  have HS := Lib.hid hsv
  clear h he e1 hsv hrv
  go_enter Try.func23, Try.ntmps23
  go_upto_region 1 with (fail)
  go_quiet (fail)
  go_upto_region 17 with (fail)
  go_quiet (fail)
  go_upto_region 19 with (fail)
  refine region_tail 7 (by kernel_rfl) (by kernel_rfl) ?_
  simp only [List.take_succ_cons, List.take_zero, List.drop_succ_cons, List.drop_zero]
  repeat still_step
  refine wpStill_nil ?_
  go_wp2
  go_ret
  exact ⟨rfl, close_done HM.out HE.out hB HS.out hsB hes⟩

set_option maxHeartbeats 1000000 in
theorem chan_take_some (h : Mach w B bp pv mv S st C) (k : Nat) (hk : k < st.rs.length) (hn : st.rs.length ≤ 1000000) (an g : Nat) (c : Int) (hg : g < 8) (ha2 : an < st.held.length) (hl4 : st.held.length ≤ 64)
    (x : Int) (L : List Int) (hLl : L.length ≤ 1000000) (hL : st.held.getD an [] = x :: L) (eb : Nat) (who op a v : Int) (s : Bool) (he : EvBlk w B eb C who op a v s) :
    Calls Try.prog 23 #[.pointer (some ⟨bp, 0, none⟩), .int .i64 k, .agg #[.int .i64 6, .int .i64 an, .int .i64 g, .int .i64 c], .pointer (some ⟨eb, 0, none⟩)] w fun e w' => e = .returned (.int .i64 0) ∧
      Did B bp pv mv S eb who op C.ev { st with rs := st.rs.set k (setReg (st.rs.getD k default) g x), held := st.held.set an L } w w' := by
  obtain ⟨rb, ro, rc, hrv, hrb, hrB⟩ := h.rform (by omega)
  have c5 := (h.wcell 5 _ rfl).trans (by rw [hrv])
  have r0 := h.regcell hrv k hk g hg
  obtain ⟨hb, ho, hc', hhv, hhb, hhB⟩ := h.hform (by rw [h.ql]; omega)
  have c6 := (h.wcell 6 _ rfl).trans (by rw [hhv])
  obtain ⟨qv, hqv, q1, q2⟩ := h.hcell hhv an ha2
  rw [hL] at q2
  obtain ⟨qg, qo, qc, rfl, -, hqlt, hqc, hqm⟩ := q2.form (by simp)
  have q3 : w.cell? ⟨qg, qo, none⟩ = some (.int .i64 x) := q2.cell 0 _ rfl
  have hqm2 : qc ≤ 9223372036854775807 := by unfold maxLen at hqm; omega
  have ceb : w.cell? ⟨eb, 3, none⟩ = some (.int .i64 v) := by rw [cell_of_row w eb 3 _ 66 (0, 0) he.blk]; rfl
  have feb : w.frozen? ⟨eb, 3, none⟩ = false := frozen_of_row w eb 3 _ 66 he.blk
  have hf : w.frozen? ⟨hb, ho + an, none⟩ = false := h.hfree hhv _
  have hebp := he.neBlk h.blk (by decide)
  have heh : eb ≠ hb := he.neOwn h.held (by decide) (by rw [hhv]; rfl)
  have heq : eb ≠ qg := he.neOwn (h.qs an _ hqv) (by decide) rfl
  have helt := he.lt
  have hen : eb ≠ w.heap.size := by omega
  have hbh : bp ≠ hb := fun e => h.held.ne_block h.blk (by decide) (by rw [hhv, e]; rfl)
  have hbp := h.lt
  have hB : B ≤ w.heap.size := by have := h.bpB; omega
  have hkn : (k : Int) < (st.rs.length : Int) := by omega
  have hkz : (0 : Int) ≤ (k : Int) := by omega
  have gi1 : (g : Int) < 8 := by omega
  have gj1 : (0 : Int) ≤ g := by omega
  have aj1 : (0 : Int) ≤ an := by omega
  have ai2 : (an : Int) < (C.qs.length : Int) := by rw [h.ql]; omega
  have ai3 : C.qs.length ≤ 64 := by rw [h.ql]; omega
  have e1 : (st.rs.getD k default).regs[g]?.getD 0 = reg (st.rs.getD k default) g := by simp [reg]
  rw [e1] at r0
  generalize reg (st.rs.getD k default) g = y at *
  simp only [List.length_cons] at *
  obtain ⟨m, hm⟩ : ∃ m, L.length = m := ⟨_, rfl⟩
  rw [hm] at hqv q1 hqc hLl
  have HM := Lib.hid h
  have HE := Lib.hid he
  have hm1 : (1 : Int) ≤ (m : Int) + 1 := by omega
  obtain ⟨PD, hPD⟩ : ∃ PD : World → Prop, ∀ w', PD w' ↔ Did B bp pv mv S eb who op C.ev { st with rs := st.rs.set k (setReg (st.rs.getD k default) g x), held := st.held.set an L } w w' := ⟨_, fun _ => Iff.rfl⟩
  suffices H : Calls Try.prog 23 #[.pointer (some ⟨bp, 0, none⟩), .int .i64 k, .agg #[.int .i64 6, .int .i64 an, .int .i64 g, .int .i64 c], .pointer (some ⟨eb, 0, none⟩)] w fun e w' => e = .returned (.int .i64 0) ∧ PD w' from
    H.mono fun e w' h => ⟨h.1, (hPD w').1 h.2⟩
  have HPD := Lib.hid hPD
  clear hPD
  have HL := Lib.hid hL
  have Hm := Lib.hid hm
  clear h he e1 hL q2 hrv hm
  go_enter Try.func23, Try.ntmps23
  go_upto_region 1 with (fail)
  go_quiet (fail)
  go_upto_region 9 with (fail)
  go_quiet (fail)
  go_upto_region 13 with (fail)
  refine region_tail 13 (by kernel_rfl) (by kernel_rfl) ?_
  simp only [List.take_succ_cons, List.take_zero, List.drop_succ_cons, List.drop_zero]
  repeat still_step
  refine wpStill_nil ?_
  go_upto_region 14 with (fail)
  refine region_tail 16 (by kernel_rfl) (by kernel_rfl) ?_
  simp only [List.take_succ_cons, List.take_zero, List.drop_succ_cons, List.drop_zero]
  repeat still_step
  refine wpStill_nil ?_
  obtain ⟨qp, hqp⟩ : ∃ qp, (if qc = 1 then some (⟨qg, qo, none⟩ : Addr) else some ⟨qg, qo + 1, none⟩) = qp := ⟨_, rfl⟩
  rw [hqp]
  have HQ := Lib.hid hqp
  clear hqp
  go_upto_region 15 with (fail)
  refine region_tail 8 (by kernel_rfl) (by kernel_rfl) ?_
  simp only [List.take_succ_cons, List.take_zero, List.drop_succ_cons, List.drop_zero]
  repeat still_step
  refine wpStill_nil ?_
  go_wp2_with (go_at_call 26; refine (set_any (take_some_done HM.out HE.out hB hhv hhB heh Hm.out HQ.out hqv HL.out).1 k hk hn g hg x).mono ?_; rintro e w1 ⟨rfl, hm1, hb1, rb1, o1, hr1, hr2, hx1⟩)
  go_ret
  have HD := fun o1 n1 n2 n3 => take_some_done HM.out HE.out hB hhv hhB heh Hm.out HQ.out hqv HL.out (o1 := o1) (n1 := n1) (n2 := n2) (n3 := n3)
  have hne : eb ≠ rb1 := HE.out.neOwn HM.out.rs (by decide) hr2
  subst hx1
  exact ⟨rfl, (HPD.out _).2 ⟨_, _, hm1, rfl, evAt_of ((HD _ _ _ _).2.1.keep (grownBy_setCell _ rb1 o1 (.int .i64 x)) hne), (HD _ _ _ _).2.2.trans hb1⟩⟩

end Go.Proofs.Ytnfbipohajphgaa
