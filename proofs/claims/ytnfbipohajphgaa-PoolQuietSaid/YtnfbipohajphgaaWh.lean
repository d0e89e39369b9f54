/- Walks: groups, works. -/
import Derived.Test.YtnfbipohajphgaaWa
set_option linter.unusedVariables false
set_option linter.unusedSimpArgs false
namespace Go.Proofs.Ytnfbipohajphgaa
open Go.RowKit Qn PoolQ

variable {w : World} {B bp : Nat} {pv mv : Value} {S : Psys} {st : St} {C : Comp}

theorem group_done (h : Mach w B bp pv mv S st C) {eb : Nat} {who op a v : Int} {s : Bool} (he : EvBlk w B eb C who op a v s) (hB : B ≤ w.heap.size) {gb go gc : Nat} (hgv : C.gv = .slice (some ⟨gb, go, none⟩) st.groups.length gc) (hgB : B ≤ gb)
    (heg : eb ≠ gb) {an : Nat} {o1 : Obj} {y : Int} :
    Did B bp pv mv S eb who op C.ev { st with groups := st.groups.set an y } w (((w.setCell ⟨eb, 3, none⟩ (.int .i64 y)).setCell ⟨gb, go + an, none⟩ (.int .i64 y)).alloc o1).drew.drew := by
  have H1 := machEv h he 3 (.int .i64 y)
  have HX := (((he.setV y).keep (grownBy_setCell _ gb (go + an) (.int .i64 y)) heg).alloc o1).drewN 2
  have b1 : Below B w ((w.setCell ⟨eb, 3, none⟩ (.int .i64 y)).setCell ⟨gb, go + an, none⟩ (.int .i64 y)) := (belowSet he.eB).trans (belowSet hgB)
  exact ⟨_, _, ((H1.setGroup hgv an y).alloc o1).drew.drew, rfl, evAt_of HX, (b1.alloc (by simpa [World.setCell] using hB) o1).drew.drew⟩

set_option maxRecDepth 8000 in
set_option maxHeartbeats 1000000 in
theorem shared_group (h : Mach w B bp pv mv S st C) (k : Nat) (hk : k < st.rs.length) (hn : st.rs.length ≤ 1000000) (an : Nat) (b c : Int) (ha1 : an < st.groups.length) (hl3 : st.groups.length ≤ 64)
    (hs : 0 ≤ st.groups.getD an 0 + b ∧ st.groups.getD an 0 + b ≤ 1000000) (eb : Nat) (who op a v : Int) (s : Bool) (he : EvBlk w B eb C who op a v s) :
    Calls Try.prog 24 #[.pointer (some ⟨bp, 0, none⟩), .int .i64 k, .agg #[.int .i64 10, .int .i64 an, .int .i64 b, .int .i64 c], .pointer (some ⟨eb, 0, none⟩)] w fun e w' => e = .returned (.int .i64 0) ∧
      Did B bp pv mv S eb who op C.ev { st with groups := st.groups.set an (st.groups.getD an 0 + b) } w w' := by
  obtain ⟨gb, go, gc, hgv, hgb, hgB⟩ := h.gform (by omega)
  have c9 := (h.wcell 9 _ rfl).trans (by rw [hgv])
  have g0 := h.gcell hgv an ha1
  have gf := h.gfree hgv (go + an)
  have ceb : w.cell? ⟨eb, 3, none⟩ = some (.int .i64 v) := by rw [cell_of_row w eb 3 _ 66 (0, 0) he.blk]; rfl
  have feb : w.frozen? ⟨eb, 3, none⟩ = false := frozen_of_row w eb 3 _ 66 he.blk
  have heg : eb ≠ gb := he.neOwn h.groups (by decide) (by rw [hgv]; rfl)
  have hebp := he.neBlk h.blk (by decide)
  have helt := he.lt
  have hen : eb ≠ w.heap.size := by omega
  have hbp := h.lt
  have hB : B ≤ w.heap.size := by have := h.bpB; omega
  have ai1 : (an : Int) < (st.groups.length : Int) := by omega
  have aj1 : (0 : Int) ≤ an := by omega
  obtain ⟨PD, hPD⟩ : ∃ PD : World → Prop, ∀ w', PD w' ↔ Did B bp pv mv S eb who op C.ev { st with groups := st.groups.set an (st.groups.getD an 0 + b) } w w' := ⟨_, fun _ => Iff.rfl⟩
  suffices H : Calls Try.prog 24 #[.pointer (some ⟨bp, 0, none⟩), .int .i64 k, .agg #[.int .i64 10, .int .i64 an, .int .i64 b, .int .i64 c], .pointer (some ⟨eb, 0, none⟩)] w fun e w' => e = .returned (.int .i64 0) ∧ PD w' from
    H.mono fun e w' h => ⟨h.1, (hPD w').1 h.2⟩
  have HPD := Lib.hid hPD
  clear hPD
  obtain ⟨y0, hy0⟩ : ∃ y0, st.groups.getD an 0 = y0 := ⟨_, rfl⟩
  rw [hy0] at hs g0
  have HY := Lib.hid hy0
  obtain ⟨hs1, hs2⟩ := hs
  have hs3 : decide (y0 + b < 0) = false := by simp; omega
  have HM := Lib.hid h
  have HE := Lib.hid he
  have HG := Lib.hid hgv
  clear h he hgv hy0
  go_enter Try.func24, Try.ntmps24
  go_upto_region 9 with (fail)
  refine region_tail 14 (by kernel_rfl) (by kernel_rfl) ?_
  simp only [List.take_succ_cons, List.take_zero, List.drop_succ_cons, List.drop_zero]
  repeat still_step
  refine wpStill_nil ?_
  go_upto_region 12 with (fail)
  refine region_tail 11 (by kernel_rfl) (by kernel_rfl) ?_
  simp only [List.take_succ_cons, List.take_zero, List.drop_succ_cons, List.drop_zero]
  repeat still_step
  refine wpStill_nil ?_
  go_wp2
  go_ret
  refine ⟨rfl, (HPD.out _).2 ?_⟩
  rw [HY.out]
  exact group_done HM.out HE.out hB HG.out hgB heg

theorem value_done (h : Mach w B bp pv mv S st C) {eb : Nat} {who op a v : Int} {s : Bool} (he : EvBlk w B eb C who op a v s) (hB : B ≤ w.heap.size) {o1 : Obj} {y : Int} :
    Did B bp pv mv S eb who op C.ev st w ((w.setCell ⟨eb, 3, none⟩ (.int .i64 y)).alloc o1).drew :=
  ⟨_, _, ((machEv h he 3 (.int .i64 y)).alloc o1).drew, rfl, evAt_of (((he.setV y).alloc o1).drewN 1), ((belowSet he.eB).alloc (by simpa [World.setCell] using hB) o1).drew⟩

set_option maxRecDepth 8000 in
set_option maxHeartbeats 1000000 in
theorem shared_work (h : Mach w B bp pv mv S st C) (k : Nat) (hk : k < st.rs.length) (hn : st.rs.length ≤ 1000000) (a0 : Int) (g : Nat) (c : Int) (hg : g < 8)
    (eb : Nat) (who op a v : Int) (s : Bool) (he : EvBlk w B eb C who op a v s) :
    Calls Try.prog 24 #[.pointer (some ⟨bp, 0, none⟩), .int .i64 k, .agg #[.int .i64 15, .int .i64 a0, .int .i64 g, .int .i64 c], .pointer (some ⟨eb, 0, none⟩)] w fun e w' => e = .returned (.int .i64 0) ∧
      Did B bp pv mv S eb who op C.ev st w w' := by
  obtain ⟨rb, ro, rc, hrv, hrb, hrB⟩ := h.rform (by omega)
  have c5 := (h.wcell 5 _ rfl).trans (by rw [hrv])
  have r0 := h.regcell hrv k hk g hg
  have ceb : w.cell? ⟨eb, 3, none⟩ = some (.int .i64 v) := by rw [cell_of_row w eb 3 _ 66 (0, 0) he.blk]; rfl
  have feb : w.frozen? ⟨eb, 3, none⟩ = false := frozen_of_row w eb 3 _ 66 he.blk
  have helt := he.lt
  have hbp := h.lt
  have hB : B ≤ w.heap.size := by have := h.bpB; omega
  have hkn : (k : Int) < (st.rs.length : Int) := by omega
  have hkz : (0 : Int) ≤ (k : Int) := by omega
  have gi1 : (g : Int) < 8 := by omega
  have gj1 : (0 : Int) ≤ g := by omega
  have e1 : (st.rs.getD k default).regs[g]?.getD 0 = reg (st.rs.getD k default) g := by simp [reg]
  rw [e1] at r0
  generalize reg (st.rs.getD k default) g = y at *
  have HM := Lib.hid h
  have HE := Lib.hid he
  clear h he e1 hrv
  go_enter Try.func24, Try.ntmps24
  go_upto_region 27 with (fail)
  refine region_tail 14 (by kernel_rfl) (by kernel_rfl) ?_
  simp only [List.take_succ_cons, List.take_zero, List.drop_succ_cons, List.drop_zero]
  repeat still_step
  refine wpStill_nil ?_
  go_wp2
  go_ret
  exact ⟨rfl, value_done HM.out HE.out hB⟩
end Go.Proofs.Ytnfbipohajphgaa
