/- Walk: a step (f17), channels. -/
import Derived.Test.YtnfbipohajphgaaWk
set_option linter.unusedVariables false
set_option linter.unusedSimpArgs false
namespace Go.Proofs.Ytnfbipohajphgaa
open Go.RowKit Qn PoolQ

variable {w : World} {B bp : Nat} {pv mv : Value} {S : Psys} {st : St} {C : Comp}

theorem info66 : ∃ i z, Try.prog.info? 66 = some i ∧ i.zero = some z ∧ i.size = 5 ∧ i.bytes = 40 ∧ z.cells.size = 5 := by
  have h : (Try.prog.info? 66).map (fun i => (i.zero.map (fun z => z.cells.size), i.size, i.bytes)) = some (some 5, 5, 40) := by kernel_rfl
  cases hi : Try.prog.info? 66 with
  | none => rw [hi] at h; cases h
  | some i =>
    rw [hi] at h
    simp only [Option.map_some, Option.some.injEq, Prod.mk.injEq] at h
    obtain ⟨h1, h2, h3⟩ := h
    cases hz : i.zero with
    | none => rw [hz] at h1; cases h1
    | some z =>
      rw [hz] at h1
      exact ⟨i, z, rfl, hz, h2, h3, by simpa using h1⟩

theorem evsAt (h : Mach w B bp pv mv S st C) {V : Value} {n : Nat} (hrv : C.ev = V) (hN : st.ev = n) : OwnS w B 66 5 V n C.xs := hrv ▸ hN ▸ h.ev

theorem evDone {w1 : World} (h : Mach w1 B bp pv mv S st C) {xa : Option Addr} {ne xc : Nat} (hx : C.ev = .slice xa ne xc) (hE : st.ev = ne) {o : Obj} {w2 : World} {v' : Value} {l : List Value}
    (hgrow : (w1.alloc o).drew.grownBy w2 (Value.slice xa ne xc).ownBlock) (hown' : OwnS w2 B 66 5 v' (ne + 1) (C.xs ++ l)) :
    Mach (w2.setCell ⟨bp, 11, none⟩ v') B bp pv mv S { st with ev := st.ev + 1 } { C with ev := v', xs := C.xs ++ l } ∧ Below B w1 (w2.setCell ⟨bp, 11, none⟩ v') := by
  subst hE
  rw [← hx] at hgrow
  have hB : B ≤ w1.heap.size := by have := h.bpB; have := h.lt; omega
  have H1 := (h.alloc o).drew
  exact ⟨H1.appendEv v' _ hgrow hown', ((((Below.refl _ _).alloc hB o).drew).trans (belowGrown H1.ev hgrow (by simp; omega))).trans (belowSet (by have := h.bpB; omega))⟩

theorem evNew (h : Mach w B bp pv mv S st C) {o1 : Obj} {who op a v : Int} {s : Bool} : EvBlk ((w.alloc o1).alloc (.cells #[.int .i64 who, .int .i64 op, .int .i64 a, .int .i64 v, .bool s] 66)) B (w.heap.size + 1) C who op a v s := by
  have h1 := heap_alloc_new (w.alloc o1) (.cells #[.int .i64 who, .int .i64 op, .int .i64 a, .int .i64 v, .bool s] 66)
  rw [show (w.alloc o1).heap.size = w.heap.size + 1 from by simp] at h1
  exact ⟨h1, by have := h.bpB; have := h.lt; omega, fun e => by have := (h.ev.lt e).2; omega⟩

theorem adv_no {w3 : World} {st3 : St} {C3 : Comp} (h : Mach w3 B bp pv mv S st3 C3) {rb ro rc : Nat} (hrv : C3.rv = .slice (some ⟨rb, ro, none⟩) st3.rs.length rc) {k : Nat} (hk : k < st3.rs.length) {p : Nat} {a x0 x1 x2 x3 x4 x5 x6 x7 : Int} {e : Bool}
    (hr : st3.rs.getD k default = ⟨p, a, [x0, x1, x2, x3, x4, x5, x6, x7], e⟩) {l' : List Ins} (hl : S.progs[p]? = some l') (hge : ¬ (l'.length : Int) ≤ a + 1) :
    Mach (w3.setCell ⟨rb, ro + k * 11 + 1, none⟩ (.int .i64 (a + 1))) B bp pv mv S { st3 with rs := st3.rs.set k (adv S (st3.rs.getD k default)) } C3 := by
  have h1 := h.setAt hrv k (a + 1) hk
  have e1 : adv S (st3.rs.getD k default) = { st3.rs.getD k default with at_ := a + 1 } := by
    rw [hr]
    simp [adv, len, hl]
    intro h2
    exact absurd h2 hge
  rw [e1]
  exact h1

theorem adv_yes {w3 : World} {st3 : St} {C3 : Comp} (h : Mach w3 B bp pv mv S st3 C3) {rb ro rc : Nat} (hrv : C3.rv = .slice (some ⟨rb, ro, none⟩) st3.rs.length rc) {k : Nat} (hk : k < st3.rs.length) {p : Nat} {a x0 x1 x2 x3 x4 x5 x6 x7 : Int} {e : Bool}
    (hr : st3.rs.getD k default = ⟨p, a, [x0, x1, x2, x3, x4, x5, x6, x7], e⟩) {l' : List Ins} (hl : S.progs[p]? = some l') (hge : (l'.length : Int) ≤ a + 1) (n : Nat) :
    Mach ((((w3.setCell ⟨rb, ro + k * 11 + 1, none⟩ (.int .i64 (a + 1))).drewN n)).setCell ⟨rb, ro + k * 11 + 10, none⟩ (.bool true)) B bp pv mv S { st3 with rs := st3.rs.set k (adv S (st3.rs.getD k default)) } C3 := by
  have h1 := machN (h.setAt hrv k (a + 1) hk) n
  have h2 := h1.setEnded (by simpa using hrv) k (by simpa using hk)
  have e0 : ({ st3 with rs := st3.rs.set k { st3.rs.getD k default with at_ := a + 1 } } : St).rs.getD k default = { st3.rs.getD k default with at_ := a + 1 } := PoolQ.getD_set_eq _ _ _ _ hk
  rw [e0] at h2
  have e1 : adv S (st3.rs.getD k default) = { st3.rs.getD k default with at_ := a + 1, ended := true } := by
    rw [hr]
    simp [adv, len, hl, hge]
  rw [e1]
  simpa using h2

theorem stepBelow {w w1 : World} (hB : B ≤ w.heap.size) (a b : Obj) (h : Below B ((w.alloc a).alloc b).drew w1) : Below B w w1 := ((below2 hB a b).drew).trans h

set_option maxRecDepth 8000 in
set_option maxHeartbeats 2000000 in
theorem step_chan (h : Mach w B bp pv mv S st C) (k : Nat) (hk : k < st.rs.length) (hn : st.rs.length ≤ 1000000) (he : (st.rs.getD k default).ended = false) (l : List Ins) (aa : Nat) (i : Ins) (hok : RunOk S st (st.rs.getD k default) l aa i)
    (o1 : 5 ≤ i.op) (o3 : i.op ≤ 7) (st' : St) (hev : st'.ev ≤ 1000000) (hk' : k < st'.rs.length) (hn' : st'.rs.length ≤ 1000000) (hat : -1000000 ≤ (st'.rs.getD k default).at_ ∧ (st'.rs.getD k default).at_ ≤ 1000000) (l' : List Ins) (hpl : S.progs[(st'.rs.getD k default).prog]? = some l')
    (hact : ∀ w1 eb, EvBlk w1 B eb C k i.op i.a 0 false → Mach w1 B bp pv mv S st C → Calls Try.prog 23 #[.pointer (some ⟨bp, 0, none⟩), .int .i64 k, .agg #[.int .i64 i.op, .int .i64 i.a, .int .i64 i.b, .int .i64 i.c], .pointer (some ⟨eb, 0, none⟩)] w1 fun e w' => e = .returned (.int .i64 0) ∧
      Did B bp pv mv S eb k i.op C.ev st' w1 w') :
    Calls Try.prog 17 #[.pointer (some ⟨bp, 0, none⟩), .int .i64 k] w fun e w' => e = .returned (.int .i64 0) ∧ ∃ C', Mach w' B bp pv mv S { st' with ev := st'.ev + 1, rs := st'.rs.set k (adv S (st'.rs.getD k default)) } C' ∧ Below B w w' := by
  obtain ⟨rb, ro, rc, hrv, hrb, hrB⟩ := h.rform (by omega)
  obtain ⟨p, a, x0, x1, x2, x3, x4, x5, x6, x7, e, hr⟩ := h.runner8 k hk
  rw [hr] at he hok
  simp only at he
  subst he
  obtain ⟨hp, ha, hi, hiok⟩ := hok
  simp only at hp ha
  subst ha
  have c5 := (h.wcell 5 _ rfl).trans (by rw [hrv])
  obtain ⟨k0, k1, k2, k3, k4, k5, k6, k7, k8, k9, k10⟩ := h.rall hrv k hk hr
  obtain ⟨pb, np, cp, ib, ni, ci, c0, pp, hnp, p0, pa, hni, i0, i1, i2, i3, pB, iB, -⟩ := h.insAt p aa l i hp hi
  have hbp := h.lt
  have hBs := h.bpB
  have lp : pb < w.heap.size := by omega
  have li : ib < w.heap.size := by omega
  have HM := Lib.hid h
  have HA := Lib.hid hact
  generalize hN : st.rs.length = nr at *
  have o2 : i.op ≤ 15 := by omega
  obtain ⟨op, a, b, c⟩ := i
  simp only at o1 o2 o3 i0 i1 i2 i3
  have HN := Lib.hid hN
  clear hN hr hrv h hp hi hiok hBs hact k2 k3 k4 k5 k6 k7 k8 k9 k10
  go_enter Try.func17, Try.ntmps17
  go_upto_region 1 with (fail)
  go_region
  go_upto_region 8 with (fail)
  have hB : B ≤ w.heap.size := by have := HM.out.bpB; omega
  go_upto_region 11 with (go_at_call 23; (refine (HA.out _ (w.heap.size + 1) (by first | exact evNew HM.out | exact (evNew HM.out).drewN 1) (by first | exact (HM.out.alloc _).alloc _ | exact ((HM.out.alloc _).alloc _).drew | exact ((HM.out.alloc _).drew.alloc _))).mono ?_); rintro e w1 ⟨rfl, C1, ea, hm1, hv1, he1, hb1⟩)
  obtain ⟨v1, s1, hbk⟩ := he1
  obtain ⟨i6, z6, hi, hz0, hz1, hz2, hz3⟩ := info66
  obtain ⟨xa, xc, hxe, -⟩ := hm1.ev.isSlice
  have f11 := (hm1.wcell 11 _ rfl).trans (by rw [hxe])
  have g0 : w1.cell? ⟨w.heap.size + 1, 0, none⟩ = some (.int .i64 k) := by rw [cell_of_row w1 _ 0 _ 66 (0, 0) hbk]; rfl
  have g1 : w1.cell? ⟨w.heap.size + 1, 1, none⟩ = some (.int .i64 op) := by rw [cell_of_row w1 _ 1 _ 66 (0, 0) hbk]; rfl
  have g2 : w1.cell? ⟨w.heap.size + 1, 2, none⟩ = some (.int .i64 ea) := by rw [cell_of_row w1 _ 2 _ 66 (0, 0) hbk]; rfl
  have g3 : w1.cell? ⟨w.heap.size + 1, 3, none⟩ = some (.int .i64 v1) := by rw [cell_of_row w1 _ 3 _ 66 (0, 0) hbk]; rfl
  have g4 : w1.cell? ⟨w.heap.size + 1, 4, none⟩ = some (.bool s1) := by rw [cell_of_row w1 _ 4 _ 66 (0, 0) hbk]; rfl
  have hb1p := hm1.lt
  have hB1 : B ≤ w1.heap.size := by have := hm1.bpB; omega
  have HM1 := Lib.hid hm1
  have HX := Lib.hid hxe
  clear hm1 hxe hbk c5 k0 k1 c0 pp p0 pa i0 i1 i2 i3
  generalize hE : st'.ev = ne at *
  have HE := Lib.hid hE
  clear hE
  refine region_flowG [0] [1,2,3,4,5] [6] [7,8,9,10] (fun w' => w'.cell? ⟨bp, 11, none⟩ = some (.slice xa ne xc) ∧ w'.cell? ⟨w.heap.size + 1, 0, none⟩ = some (.int .i64 k) ∧ w'.cell? ⟨w.heap.size + 1, 1, none⟩ = some (.int .i64 op) ∧
      w'.cell? ⟨w.heap.size + 1, 2, none⟩ = some (.int .i64 ea) ∧ w'.cell? ⟨w.heap.size + 1, 3, none⟩ = some (.int .i64 v1) ∧ w'.cell? ⟨w.heap.size + 1, 4, none⟩ = some (.bool s1))
    (by kernel_rfl) (by kernel_rfl) ?c0 (fun T0 hnT0 f0 T hnT f hf => ?c1)
  case c0 => refine ⟨?_, ?_, ?_, ?_, ?_, ?_⟩ <;> go_keep
  have y1 := fun x => (hf x).1
  have y2 := fun x => (hf x).2.1
  have y3 := fun x => (hf x).2.2.1
  have y4 := fun x => (hf x).2.2.2.1
  have y5 := fun x => (hf x).2.2.2.2.1
  have y6 := fun x => (hf x).2.2.2.2.2
  clear hf
  simp only [pick_cons, pick_nil, consO_some, List.getElem?_cons_zero, List.getElem?_cons_succ]
  repeat (go_big_quiet_step (fail))
  refine wpQuiet_nil ?_
  repeat (go_big_quiet_step (fail))
  refine wpQuiet_nil ?_
  clear y1 y2 y3 y4 y5 y6
  unfold wpChain
  go_wp2
  refine ⟨⟨?_, ?_, ?_, ?_, ?_, ?_⟩, ?_⟩
  · first | (go_keep; done) | (go_keep; exact cell?_alloc_some _ f11)
  · first | (go_keep; done) | (go_keep; exact cell?_alloc_some _ g0)
  · first | (go_keep; done) | (go_keep; exact cell?_alloc_some _ g1)
  · first | (go_keep; done) | (go_keep; exact cell?_alloc_some _ g2)
  · first | (go_keep; done) | (go_keep; exact cell?_alloc_some _ g3)
  · first | (go_keep; done) | (go_keep; exact cell?_alloc_some _ g4)
  unfold wpChain
  (at_builtin; refine wpList_append_ownS (v := .slice xa ne xc) rfl (.tmp 82) (.tmp 84) 36 rfl i6 z6 40 Try.underlying36 hi hz0 hz1 hz2 hz3 (by decide) rfl (evsAt (by first | exact HM1.out.alloc _ | exact (HM1.out.alloc _).drew) HX.out HE.out) ⟨_, 0, none⟩ 1 1 [.int .i64 k, .int .i64 op, .int .i64 ea, .int .i64 v1, .bool s1] rfl rfl ?d1 ?d2 ?d3 ?d4 ?d5 ?_)
  case d1 => exact new_cells_at _ _ _ _ (by simp)
  case d2 => intro u hu; simp at hu; rcases hu with rfl | rfl | rfl | rfl | rfl <;> rfl
  case d3 => unfold maxLen; omega
  case d4 => omega
  case d5 => simp; omega
  intro v' w2 hown' hgrow hfr
  obtain ⟨a', cap', rfl, -⟩ := hown'.isSlice
  have hbr : (Value.slice xa ne xc).ownBlock ≠ some bp := fun e => HM1.out.ev.ne_block HM1.out.blk (by decide) (by rw [HX.out]; exact e)
  have hc2 : w2.cell? ⟨bp, 11, none⟩ = some (.slice xa ne xc) := by
    rw [hgrow.cell_far _ (by simp; omega) (Ne.symm hbr)]
    first | (go_keep; done) | (go_keep; exact cell?_alloc_some _ f11)
  have hf2 : w2.frozen? ⟨bp, 11, none⟩ = false := by
    rw [hgrow.frozen_far _ (by simp; omega) (Ne.symm hbr)]
    first | exact (HM1.out.alloc _).wfree 11 | exact (HM1.out.alloc _).drew.wfree 11
  obtain ⟨hm3, hb3⟩ := evDone HM1.out HX.out HE.out hgrow hown'
  clear hown' hgrow hfr f11 g0 g1 g2 g3 g4
  go_upto_region 12 with (fail)
  clear hc2 hf2
  generalize w2.setCell ⟨bp, 11, none⟩ (.slice a' (ne + 1) cap') = w3 at *
  obtain ⟨rb3, ro3, rc3, hrv3, hrb3, hrB3⟩ := hm3.rform (by simpa using (by omega : 0 < st'.rs.length))
  simp only at hrv3
  obtain ⟨p3, a3, z0, z1, z2, z3, z4, z5, z6, z7, e3, hr3⟩ := hm3.runner8 k hk'
  simp only at hr3
  obtain ⟨j0, j1, j2, j3, j4, j5, j6, j7, j8, j9, j10⟩ := hm3.rall hrv3 k hk' hr3
  rw [hr3] at hat hpl
  simp only at hat hpl
  obtain ⟨hat1, hat2⟩ := hat
  have c53 := (hm3.wcell 5 _ rfl).trans (by rw [hrv3])
  have c03 := hm3.wcell 0 _ rfl
  obtain ⟨pb3, cp3, ib3, ci3, hpv3, hpb3, hpl3, hpr3⟩ := hm3.sys.progs
  obtain ⟨-, hlen3, pa3, -⟩ := hpr3 p3 l' hpl
  have hp3l := (List.getElem?_eq_some_iff.1 hpl).1
  rw [hpv3] at c03
  have hp3i : (p3 : Int) < (S.progs.length : Int) := by omega
  have hp3j : (0 : Int) ≤ (p3 : Int) := by omega
  have hkn : (k : Int) < (st'.rs.length : Int) := by omega
  have hkz : (0 : Int) ≤ (k : Int) := by omega
  have fr1 := fun j => hm3.rfree hrv3 j
  have hpbr : pb3 ≠ rb3 := by omega
  have hbr3 : bp ≠ rb3 := fun e => hm3.rs.ne_block hm3.blk (by decide) (by rw [hrv3, e]; rfl)
  have HM3 := Lib.hid hm3
  have HR3 := Lib.hid hrv3
  have HQ3 := Lib.hid hr3
  have HP3 := Lib.hid hpl
  clear hm3 hrv3 hr3 hpl hpr3 hpv3 hpl3 j2 j3 j4 j5 j6 j7 j8 j9
  generalize hL3 : l'.length = m3 at *
  have HL3 := Lib.hid hL3
  clear hL3
  generalize hN3 : st'.rs.length = n3 at *
  have HN3 := Lib.hid hN3
  clear hN3
  go_upto_region 15 with (fail)
  go_quiet (fail)
  go_wp2
  all_goals go_ret
  all_goals have hbw : Below B w w3 := (stepBelow hB _ _ hb1).trans hb3
  · refine ⟨rfl, _, adv_yes HM3.out (by rw [HN3.out]; exact HR3.out) (by rw [HN3.out]; exact hk') HQ3.out HP3.out (by rw [HL3.out]; omega) nq, ?_⟩
    exact (belowN (hbw.trans (belowSet hrB3)) nq).trans (belowSet hrB3)
  · refine ⟨rfl, _, machN (adv_no HM3.out (by rw [HN3.out]; exact HR3.out) (by rw [HN3.out]; exact hk') HQ3.out HP3.out (by rw [HL3.out]; omega)) nq, ?_⟩
    exact belowN (hbw.trans (belowSet hrB3)) nq
end Go.Proofs.Ytnfbipohajphgaa
