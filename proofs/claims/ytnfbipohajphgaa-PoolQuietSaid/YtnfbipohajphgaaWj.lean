/- Walks: a cell is written. -/
import Derived.Test.YtnfbipohajphgaaWi
set_option linter.unusedVariables false
set_option linter.unusedSimpArgs false
namespace Go.Proofs.Ytnfbipohajphgaa
open Go.RowKit Qn PoolQ

variable {w : World} {B bp : Nat} {pv mv : Value} {S : Psys} {st : St} {C : Comp}

theorem store_done (h : Mach w B bp pv mv S st C) {eb : Nat} {who op a v : Int} {s : Bool} (he : EvBlk w B eb C who op a v s) (hB : B ≤ w.heap.size) {cb co cc : Nat} (hcv : C.cv = .slice (some ⟨cb, co, none⟩) st.cells.length cc) (hcB : B ≤ cb)
    (hec : eb ≠ cb) {ri : Nat} {x : Int} {o1 : Obj} :
    Did B bp pv mv S eb who op C.ev { st with cells := st.cells.set ri x } w ((((w.setCell ⟨eb, 2, none⟩ (.int .i64 ri)).setCell ⟨eb, 3, none⟩ (.int .i64 x)).setCell ⟨cb, co + ri, none⟩ (.int .i64 x)).alloc o1).drew.drew.drew := by
  have H1 := machEv (machEv h he 2 (.int .i64 ri)) (he.setA ri) 3 (.int .i64 x)
  have HX := ((((he.setA ri).setV x).keep (grownBy_setCell _ cb (co + ri) (.int .i64 x)) hec).alloc o1).drewN 3
  have b1 : Below B w (((w.setCell ⟨eb, 2, none⟩ (.int .i64 ri)).setCell ⟨eb, 3, none⟩ (.int .i64 x)).setCell ⟨cb, co + ri, none⟩ (.int .i64 x)) := ((belowSet he.eB).trans (belowSet he.eB)).trans (belowSet hcB)
  exact ⟨_, _, ((H1.setCellOf hcv ri x).alloc o1).drew.drew.drew, rfl, evAt_of HX, (b1.alloc (by simpa [World.setCell] using hB) o1).drew.drew.drew⟩

set_option maxRecDepth 8000 in
set_option maxHeartbeats 2000000 in
theorem shared_store (h : Mach w B bp pv mv S st C) (k : Nat) (hk : k < st.rs.length) (hn : st.rs.length ≤ 1000000) (ga g : Nat) (c : Int) (hga : ga < 8) (hg : g < 8) (hl3 : st.cells.length ≤ 1000000) (hl4 : 0 < st.cells.length)
    (hy : -9223372036854775808 ≤ reg (st.rs.getD k default) ga ∧ reg (st.rs.getD k default) ga ≤ 9223372036854775807) (eb : Nat) (who op a v : Int) (s : Bool) (he : EvBlk w B eb C who op a v s) :
    Calls Try.prog 24 #[.pointer (some ⟨bp, 0, none⟩), .int .i64 k, .agg #[.int .i64 13, .int .i64 ga, .int .i64 g, .int .i64 c], .pointer (some ⟨eb, 0, none⟩)] w fun e w' => e = .returned (.int .i64 0) ∧
      Did B bp pv mv S eb who op C.ev { st with cells := st.cells.set (rest (reg (st.rs.getD k default) ga) st.cells.length).toNat (reg (st.rs.getD k default) g) } w w' := by
  obtain ⟨rb, ro, rc, hrv, hrb, hrB⟩ := h.rform (by omega)
  have c5 := (h.wcell 5 _ rfl).trans (by rw [hrv])
  have r0 := h.regcell hrv k hk ga hga
  obtain ⟨cb, co, cc, hcv, hcb, hcB⟩ := h.cform hl4
  have c10 := (h.wcell 10 _ rfl).trans (by rw [hcv])
  have e1 : (st.rs.getD k default).regs[ga]?.getD 0 = reg (st.rs.getD k default) ga := by simp [reg]
  rw [e1] at r0
  obtain ⟨ri, hri, hrl⟩ := rest_in (reg (st.rs.getD k default) ga) st.cells.length hl4
  rw [hri, Int.toNat_natCast]
  have x0 := h.regcell hrv k hk g hg
  have e2 : (st.rs.getD k default).regs[g]?.getD 0 = reg (st.rs.getD k default) g := by simp [reg]
  rw [e2] at x0
  have cf := h.cfree hcv (co + ri)
  have c0 := h.ccell hcv ri hrl
  obtain ⟨x, hx⟩ : ∃ x, reg (st.rs.getD k default) g = x := ⟨_, rfl⟩
  rw [hx] at x0 ⊢
  clear e2 hx
  generalize reg (st.rs.getD k default) ga = y at *
  have ce2 : w.cell? ⟨eb, 2, none⟩ = some (.int .i64 a) := by rw [cell_of_row w eb 2 _ 66 (0, 0) he.blk]; rfl
  have ce3 : w.cell? ⟨eb, 3, none⟩ = some (.int .i64 v) := by rw [cell_of_row w eb 3 _ 66 (0, 0) he.blk]; rfl
  have fe2 : w.frozen? ⟨eb, 2, none⟩ = false := frozen_of_row w eb 2 _ 66 he.blk
  have fe3 : w.frozen? ⟨eb, 3, none⟩ = false := frozen_of_row w eb 3 _ 66 he.blk
  have hec : eb ≠ cb := he.neOwn h.cells (by decide) (by rw [hcv]; rfl)
  have her : eb ≠ rb := he.neOwn h.rs (by decide) (by rw [hrv]; rfl)
  have hebp := he.neBlk h.blk (by decide)
  have helt := he.lt
  have hen : eb ≠ w.heap.size := by omega
  have hbp := h.lt
  have hB : B ≤ w.heap.size := by have := h.bpB; omega
  have hkn : (k : Int) < (st.rs.length : Int) := by omega
  have hkz : (0 : Int) ≤ (k : Int) := by omega
  have gi1 : (ga : Int) < 8 := by omega
  have gj1 : (0 : Int) ≤ ga := by omega
  have ri1 : (ri : Int) < (st.cells.length : Int) := by omega
  have rj1 : (0 : Int) ≤ ri := by omega
  have gi2 : (g : Int) < 8 := by omega
  have gj2 : (0 : Int) ≤ g := by omega
  obtain ⟨PD, hPD⟩ : ∃ PD : World → Prop, ∀ w', PD w' ↔ Did B bp pv mv S eb who op C.ev { st with cells := st.cells.set ri x } w w' := ⟨_, fun _ => Iff.rfl⟩
  suffices H : Calls Try.prog 24 #[.pointer (some ⟨bp, 0, none⟩), .int .i64 k, .agg #[.int .i64 13, .int .i64 ga, .int .i64 g, .int .i64 c], .pointer (some ⟨eb, 0, none⟩)] w fun e w' => e = .returned (.int .i64 0) ∧ PD w' from
    H.mono fun e w' h => ⟨h.1, (hPD w').1 h.2⟩
  have HPD := Lib.hid hPD
  have HM := Lib.hid h
  have HE := Lib.hid he
  have HR := Lib.hid hri
  have HC := Lib.hid hcv
  clear hcv
  clear h he hri hPD hrv e1
  go_enter Try.func24, Try.ntmps24
  go_upto_region 18 with (fail)
  refine region_flow_at [0,1,2,3,4,5,6,7,8,9,10,11,12,13,14,15,16] [17] [18,19,20] (by kernel_rfl) (by kernel_rfl) ?_
  simp only [pick_cons, pick_nil, consO_some, List.getElem?_cons_zero, List.getElem?_cons_succ]
  repeat (go_big_quiet_step (fail))
  refine wpQuiet_nil ?_
  unfold wpChain
  go_wp2_with (go_at_call 16; refine (rest_any y st.cells.length _ hy (by omega) (by omega)).mono ?_; rintro e w1 ⟨rfl, rfl⟩; rw [HR.out])
  refine ⟨trivial, ?_⟩
  unfold wpChain
  go_upto_region 19 with (fail)
  refine region_tail 14 (by kernel_rfl) (by kernel_rfl) ?_
  simp only [List.take_succ_cons, List.take_zero, List.drop_succ_cons, List.drop_zero]
  repeat still_step
  refine wpStill_nil ?_
  go_upto_region 20 with (fail)
  refine region_tail 13 (by kernel_rfl) (by kernel_rfl) ?_
  simp only [List.take_succ_cons, List.take_zero, List.drop_succ_cons, List.drop_zero]
  repeat still_step
  refine wpStill_nil ?_
  go_wp2
  go_ret
  exact ⟨rfl, (HPD.out _).2 (store_done HM.out HE.out hB HC.out hcB hec)⟩
end Go.Proofs.Ytnfbipohajphgaa
