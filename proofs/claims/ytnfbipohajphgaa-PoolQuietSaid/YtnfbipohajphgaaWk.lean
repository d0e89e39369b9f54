/- Walk: a runner is begun. -/
import Derived.Test.YtnfbipohajphgaaWj
import Derived.Lib.SliceRun
set_option linter.unusedVariables false
set_option linter.unusedSimpArgs false
namespace Go.Proofs.Ytnfbipohajphgaa
open Go.RowKit Qn PoolQ

variable {w : World} {B bp : Nat} {pv mv : Value} {S : Psys} {st : St} {C : Comp}

theorem info62 : ∃ i z, Try.prog.info? 62 = some i ∧ i.zero = some z ∧ i.size = 11 ∧ i.bytes = 88 ∧ z.cells.size = 11 := by
  have h : (Try.prog.info? 62).map (fun i => (i.zero.map (fun z => z.cells.size), i.size, i.bytes)) = some (some 11, 11, 88) := by kernel_rfl
  cases hi : Try.prog.info? 62 with
  | none => rw [hi] at h; cases h
  | some i =>
    rw [hi] at h
    simp only [Option.map_some, Option.some.injEq, Prod.mk.injEq] at h
    obtain ⟨h1, h2, h3⟩ := h
    cases hz : i.zero with
    | none => rw [hz] at h1; cases h1
    | some z =>
      rw [hz] at h1
      exact ⟨i, z, rfl, hz, h2, h3, by simpa using h1⟩

theorem rsAt (h : Mach w B bp pv mv S st C) {V : Value} {n : Nat} (hrv : C.rv = V) (hN : st.rs.length = n) : OwnS w B 62 11 V n (flat st.rs) := hrv ▸ hN ▸ h.rs

theorem new_cells_at (w : World) (l : List Value) (t : TypeId) (b : Nat) (hb : b = w.heap.size) : ∀ j x, l[j]? = some x → (w.alloc (.cells l.toArray t)).cell? ((⟨b, 0, none⟩ : Addr).add j) = some x := by
  subst hb
  exact World.news_of_block (cs := l.toArray) (t := t) (fr := (0, 0)) (heap_alloc_new w _)

theorem new_done (h : Mach w B bp pv mv S st C) {eb : Nat} {who op a v : Int} {s : Bool} (he : EvBlk w B eb C who op a v s) (hB : B ≤ w.heap.size) (hebp : eb ≠ bp) {rb ro n rc : Nat} (hrv : C.rv = .slice (some ⟨rb, ro, none⟩) n rc) (hrB : B ≤ rb)
    {r : Rn} {l : List Value} (hR : rcells r = l) (h8 : r.regs.length = 8) (her : eb ≠ rb) {o1 o2 : Obj} {y : Int} {w2 : World} {rv' : Value}
    (hgrow : ((((w.setCell ⟨eb, 3, none⟩ (.int .i64 y)).alloc o1).alloc o2).drew).grownBy w2 (Value.slice (some ⟨rb, ro, none⟩) n rc).ownBlock)
    (hown' : OwnS w2 B 62 11 rv' (st.rs.length + 1) (flat st.rs ++ l)) :
    Did B bp pv mv S eb who op C.ev { st with rs := st.rs ++ [r] } w (w2.setCell ⟨bp, 5, none⟩ rv') := by
  subst hR
  have H1 := (((machEv h he 3 (.int .i64 y)).alloc o1).alloc o2).drew
  have HO := H1.rs
  have HY : EvBlk ((((w.setCell ⟨eb, 3, none⟩ (.int .i64 y)).alloc o1).alloc o2).drew) B eb C who op a y s := (((he.setV y).alloc o1).alloc o2).drewN 1
  rw [← hrv] at hgrow
  have HX := (HY.keepV hgrow (by intro e1; rw [hrv] at e1; exact her (by simpa [Value.ownBlock] using e1.symm))).keep (grownBy_setCell w2 bp 5 rv') hebp
  have b1 : Below B w (((w.setCell ⟨eb, 3, none⟩ (.int .i64 y)).alloc o1).alloc o2) := ((belowSet he.eB).alloc (by simpa [World.setCell] using hB) o1).alloc (by simp [World.setCell]; omega) o2
  exact ⟨_, _, H1.appendRs rv' r h8 hgrow hown', rfl, evAt_of HX, (b1.drew.trans (belowGrown HO hgrow (by simp [World.setCell]; omega))).trans (belowSet (by have := h.bpB; omega))⟩

set_option maxRecDepth 8000 in
set_option maxHeartbeats 2000000 in
theorem shared_new (h : Mach w B bp pv mv S st C) (k : Nat) (hk : k < st.rs.length) (hn : st.rs.length < 512) (an : Nat) (b c : Int) (ha : an < S.progs.length)
    (eb : Nat) (who op a v : Int) (s : Bool) (he : EvBlk w B eb C who op a v s) :
    Calls Try.prog 24 #[.pointer (some ⟨bp, 0, none⟩), .int .i64 k, .agg #[.int .i64 14, .int .i64 an, .int .i64 b, .int .i64 c], .pointer (some ⟨eb, 0, none⟩)] w fun e w' => e = .returned (.int .i64 0) ∧
      Did B bp pv mv S eb who op C.ev { st with rs := st.rs ++ [{ prog := an, at_ := 0, regs := (st.rs.getD k default).regs, ended := (S.progs[an]?.getD []).length == 0 }] } w w' := by
  obtain ⟨i0, z, hi, hz0, hz1, hz2, hz3⟩ := info62
  obtain ⟨rb, ro, rc, hrv, hrb, hrB⟩ := h.rform (by omega)
  have c5 := (h.wcell 5 _ rfl).trans (by rw [hrv])
  obtain ⟨p, a1, x0, x1, x2, x3, x4, x5, x6, x7, e, hr⟩ := h.runner8 k hk
  obtain ⟨k0, k1, k2, k3, k4, k5, k6, k7, k8, k9, k10⟩ := h.rall hrv k hk hr
  obtain ⟨pb, cp, ib, ci, rfl, hpb, hpl, hpr⟩ := h.sys.progs
  obtain ⟨pl, hpl1⟩ : ∃ pl, S.progs[an]? = some pl := ⟨_, List.getElem?_eq_getElem ha⟩
  obtain ⟨-, hpl2, pa, -⟩ := hpr an pl hpl1
  have c0 := h.wcell 0 _ rfl
  have ce3 : w.cell? ⟨eb, 3, none⟩ = some (.int .i64 v) := by rw [cell_of_row w eb 3 _ 66 (0, 0) he.blk]; rfl
  have fe3 : w.frozen? ⟨eb, 3, none⟩ = false := frozen_of_row w eb 3 _ 66 he.blk
  have fb5 := h.wfree 5
  have her : eb ≠ rb := he.neOwn h.rs (by decide) (by rw [hrv]; rfl)
  have hebp := he.neBlk h.blk (by decide)
  have helt := he.lt
  have hen : eb ≠ w.heap.size := by omega
  have heB := he.eB
  have hep : eb ≠ pb := by omega
  have hbp := h.lt
  have hB : B ≤ w.heap.size := by have := h.bpB; omega
  have hrbp : rb ≠ bp := fun e => h.rs.ne_block h.blk (by decide) (by rw [hrv, e]; rfl)
  have hkn : (k : Int) < (st.rs.length : Int) := by omega
  have hkz : (0 : Int) ≤ (k : Int) := by omega
  have ai1 : (an : Int) < (S.progs.length : Int) := by omega
  have aj1 : (0 : Int) ≤ an := by omega
  have hd : decide ((512 : Int) ≤ (st.rs.length : Int)) = false := by simp; omega
  obtain ⟨m, hm⟩ : ∃ m, pl.length = m := ⟨_, rfl⟩
  rw [hm] at pa hpl2
  obtain ⟨d, hd2⟩ : ∃ d, ((m : Int) == 0) = d := ⟨_, rfl⟩
  have hR : ({ prog := an, at_ := 0, regs := (st.rs.getD k default).regs, ended := (S.progs[an]?.getD []).length == 0 } : Rn) = { prog := an, at_ := 0, regs := [x0, x1, x2, x3, x4, x5, x6, x7], ended := d } := by
    rw [hr, hpl1]
    simp only [Option.getD_some, hm, ← hd2]
    congr 1
    cases m <;> simp <;> omega
  rw [hR]
  obtain ⟨PD, hPD⟩ : ∃ PD : World → Prop, ∀ w', PD w' ↔ Did B bp (.slice (some ⟨pb, 0, none⟩) S.progs.length cp) mv S eb who op C.ev { st with rs := st.rs ++ [{ prog := an, at_ := 0, regs := [x0, x1, x2, x3, x4, x5, x6, x7], ended := d }] } w w' := ⟨_, fun _ => Iff.rfl⟩
  suffices H : Calls Try.prog 24 #[.pointer (some ⟨bp, 0, none⟩), .int .i64 k, .agg #[.int .i64 14, .int .i64 an, .int .i64 b, .int .i64 c], .pointer (some ⟨eb, 0, none⟩)] w fun e w' => e = .returned (.int .i64 0) ∧ PD w' from
    H.mono fun e w' h => ⟨h.1, (hPD w').1 h.2⟩
  have HPD := Lib.hid hPD
  have HM := Lib.hid h
  have HE := Lib.hid he
  have HR := Lib.hid hrv
  clear h he hPD hrv hR hr hpr hpl1 hm k0 k1 k10
  generalize hN : st.rs.length = n at *
  generalize hQ : S.progs.length = np at *
  have HN := Lib.hid hN
  have HQ := Lib.hid hQ
  clear hN hQ
  have hsz : (w.setCell ⟨eb, 3, none⟩ (.int .i64 n)).heap.size = w.heap.size := by simp [World.setCell]
  have hin0 := heap_alloc_new (w.setCell ⟨eb, 3, none⟩ (.int .i64 n)) (.cells #[.int .i64 14, .int .i64 an, .int .i64 b, .int .i64 c] 43)
  rw [hsz] at hin0
  have hin2 : ((w.setCell ⟨eb, 3, none⟩ (.int .i64 n)).alloc (.cells #[.int .i64 14, .int .i64 an, .int .i64 b, .int .i64 c] 43)).cell? ⟨w.heap.size, 1, none⟩ = some (.int .i64 an) := by
    rw [cell_of_row _ w.heap.size 1 _ 43 (0, 0) hin0]; rfl
  clear hin0
  have t1 : ((w.setCell ⟨eb, 3, none⟩ (.int .i64 n)).alloc (.cells #[.int .i64 14, .int .i64 an, .int .i64 b, .int .i64 c] 43)).cell? ⟨bp, 5, none⟩ = some (.slice (some ⟨rb, ro, none⟩) n rc) := by go_keep
  have t2 : ((w.setCell ⟨eb, 3, none⟩ (.int .i64 n)).alloc (.cells #[.int .i64 14, .int .i64 an, .int .i64 b, .int .i64 c] 43)).cell? ⟨bp, 0, none⟩ = some (.slice (some ⟨pb, 0, none⟩) np cp) := by go_keep
  have t3 : ((w.setCell ⟨eb, 3, none⟩ (.int .i64 n)).alloc (.cells #[.int .i64 14, .int .i64 an, .int .i64 b, .int .i64 c] 43)).cell? ⟨pb, an, none⟩ = some (.slice (some ⟨ib an, 0, none⟩) m (ci an)) := by go_keep
  have t5 : ((w.setCell ⟨eb, 3, none⟩ (.int .i64 n)).alloc (.cells #[.int .i64 14, .int .i64 an, .int .i64 b, .int .i64 c] 43)).cell? ⟨rb, ro + k * 11 + 2, none⟩ = some (.int .i64 x0) := by go_keep
  have t6 : ((w.setCell ⟨eb, 3, none⟩ (.int .i64 n)).alloc (.cells #[.int .i64 14, .int .i64 an, .int .i64 b, .int .i64 c] 43)).cell? ⟨rb, ro + k * 11 + 3, none⟩ = some (.int .i64 x1) := by go_keep
  have t7 : ((w.setCell ⟨eb, 3, none⟩ (.int .i64 n)).alloc (.cells #[.int .i64 14, .int .i64 an, .int .i64 b, .int .i64 c] 43)).cell? ⟨rb, ro + k * 11 + 4, none⟩ = some (.int .i64 x2) := by go_keep
  have t8 : ((w.setCell ⟨eb, 3, none⟩ (.int .i64 n)).alloc (.cells #[.int .i64 14, .int .i64 an, .int .i64 b, .int .i64 c] 43)).cell? ⟨rb, ro + k * 11 + 5, none⟩ = some (.int .i64 x3) := by go_keep
  have t9 : ((w.setCell ⟨eb, 3, none⟩ (.int .i64 n)).alloc (.cells #[.int .i64 14, .int .i64 an, .int .i64 b, .int .i64 c] 43)).cell? ⟨rb, ro + k * 11 + 6, none⟩ = some (.int .i64 x4) := by go_keep
  have t10 : ((w.setCell ⟨eb, 3, none⟩ (.int .i64 n)).alloc (.cells #[.int .i64 14, .int .i64 an, .int .i64 b, .int .i64 c] 43)).cell? ⟨rb, ro + k * 11 + 7, none⟩ = some (.int .i64 x5) := by go_keep
  have t11 : ((w.setCell ⟨eb, 3, none⟩ (.int .i64 n)).alloc (.cells #[.int .i64 14, .int .i64 an, .int .i64 b, .int .i64 c] 43)).cell? ⟨rb, ro + k * 11 + 8, none⟩ = some (.int .i64 x6) := by go_keep
  have t12 : ((w.setCell ⟨eb, 3, none⟩ (.int .i64 n)).alloc (.cells #[.int .i64 14, .int .i64 an, .int .i64 b, .int .i64 c] 43)).cell? ⟨rb, ro + k * 11 + 9, none⟩ = some (.int .i64 x7) := by go_keep
  go_enter Try.func24, Try.ntmps24
  go_upto_region 25 with (fail)
  refine region_flowG [0] [1,2,3,4,5,6,7,8,9,10,11,12,13,14,15,16,17,18,19,20,21,22,23,24,25,26] [27] [28,29,30,31] (fun w' => w'.cell? ⟨bp, 5, none⟩ = some (.slice (some ⟨rb, ro, none⟩) n rc) ∧ w'.cell? ⟨bp, 0, none⟩ = some (.slice (some ⟨pb, 0, none⟩) np cp) ∧
      w'.cell? ⟨pb, an, none⟩ = some (.slice (some ⟨ib an, 0, none⟩) m (ci an)) ∧ w'.cell? ⟨w.heap.size, 1, none⟩ = some (.int .i64 an) ∧
      w'.cell? ⟨rb, ro + k * 11 + 2, none⟩ = some (.int .i64 x0) ∧ w'.cell? ⟨rb, ro + k * 11 + 3, none⟩ = some (.int .i64 x1) ∧ w'.cell? ⟨rb, ro + k * 11 + 4, none⟩ = some (.int .i64 x2) ∧ w'.cell? ⟨rb, ro + k * 11 + 5, none⟩ = some (.int .i64 x3) ∧
      w'.cell? ⟨rb, ro + k * 11 + 6, none⟩ = some (.int .i64 x4) ∧ w'.cell? ⟨rb, ro + k * 11 + 7, none⟩ = some (.int .i64 x5) ∧ w'.cell? ⟨rb, ro + k * 11 + 8, none⟩ = some (.int .i64 x6) ∧ w'.cell? ⟨rb, ro + k * 11 + 9, none⟩ = some (.int .i64 x7))
    (by kernel_rfl) (by kernel_rfl) ?c0 (fun T0 hnT0 f0 T hnT f hf => ?c1)
  case c0 => refine ⟨?_, ?_, ?_, ?_, ?_, ?_, ?_, ?_, ?_, ?_, ?_, ?_⟩ <;> go_keep
  have y1 := fun x => (hf x).1
  have y2 := fun x => (hf x).2.1
  have y3 := fun x => (hf x).2.2.1
  have y4 := fun x => (hf x).2.2.2.1
  have y5 := fun x => (hf x).2.2.2.2.1
  have y6 := fun x => (hf x).2.2.2.2.2.1
  have y7 := fun x => (hf x).2.2.2.2.2.2.1
  have y8 := fun x => (hf x).2.2.2.2.2.2.2.1
  have y9 := fun x => (hf x).2.2.2.2.2.2.2.2.1
  have y10 := fun x => (hf x).2.2.2.2.2.2.2.2.2.1
  have y11 := fun x => (hf x).2.2.2.2.2.2.2.2.2.2.1
  have y12 := fun x => (hf x).2.2.2.2.2.2.2.2.2.2.2
  clear hf
  simp only [pick_cons, pick_nil, consO_some, List.getElem?_cons_zero, List.getElem?_cons_succ]
  repeat (go_big_quiet_step (fail))
  refine wpQuiet_nil ?_
  repeat (go_big_quiet_step (fail))
  refine wpQuiet_nil ?_
  clear y1 y2 y3 y4 y5 y6 y7 y8 y9 y10 y11 y12
  unfold wpChain
  go_wp2
  refine ⟨⟨?_, ?_, ?_, ?_, ?_, ?_, ?_, ?_, ?_, ?_, ?_, ?_⟩, ?_⟩
  · first | (go_keep; done) | (go_keep; exact cell?_alloc_some _ t1)
  · first | (go_keep; done) | (go_keep; exact cell?_alloc_some _ t2)
  · first | (go_keep; done) | (go_keep; exact cell?_alloc_some _ t3)
  · first | (go_keep; done) | (go_keep; exact cell?_alloc_some _ hin2)
  · first | (go_keep; done) | (go_keep; exact cell?_alloc_some _ t5)
  · first | (go_keep; done) | (go_keep; exact cell?_alloc_some _ t6)
  · first | (go_keep; done) | (go_keep; exact cell?_alloc_some _ t7)
  · first | (go_keep; done) | (go_keep; exact cell?_alloc_some _ t8)
  · first | (go_keep; done) | (go_keep; exact cell?_alloc_some _ t9)
  · first | (go_keep; done) | (go_keep; exact cell?_alloc_some _ t10)
  · first | (go_keep; done) | (go_keep; exact cell?_alloc_some _ t11)
  · first | (go_keep; done) | (go_keep; exact cell?_alloc_some _ t12)
  unfold wpChain
  have hbr : (Value.slice (some ⟨rb, ro, none⟩) n rc).ownBlock ≠ some bp := fun e => hrbp (by simpa [Value.ownBlock] using e)
  (at_builtin; refine wpList_append_ownS (v := .slice (some ⟨rb, ro, none⟩) n rc) rfl (.tmp 183) (.tmp 206) 47 rfl i0 z 88 Try.underlying47 hi hz0 hz1 hz2 hz3 (by decide) rfl (rsAt (by first | exact ((machEv HM.out HE.out 3 _).alloc _).alloc _ | exact (((machEv HM.out HE.out 3 _).alloc _).alloc _).drew) HR.out HN.out) ⟨_, 0, none⟩ 1 1 (rcells { prog := an, at_ := 0, regs := [x0, x1, x2, x3, x4, x5, x6, x7], ended := d }) rfl rfl ?d1 ?d2 ?d3 ?d4 ?d5 ?_)
  case d1 => exact new_cells_at _ _ _ _ (by simp [World.setCell])
  case d2 => intro u hu; simp [rcells] at hu; rcases hu with rfl | rfl | rfl | rfl | rfl | rfl | rfl | rfl | rfl | rfl | rfl <;> rfl
  case d3 => unfold maxLen; omega
  case d4 => omega
  case d5 => simp [World.setCell]; omega
  intro v' w2 hown' hgrow hfr
  obtain ⟨a', cap', rfl, -⟩ := hown'.isSlice
  have hc2 : w2.cell? ⟨bp, 5, none⟩ = some (.slice (some ⟨rb, ro, none⟩) n rc) := by
    rw [hgrow.cell_far _ (by simp [World.setCell]; omega) (Ne.symm hbr)]
    first | (go_keep; done) | (go_keep; exact cell?_alloc_some _ t1)
  have hf2 : w2.frozen? ⟨bp, 5, none⟩ = false := by
    rw [hgrow.frozen_far _ (by simp [World.setCell]; omega) (Ne.symm hbr)]
    first | exact (((machEv HM.out HE.out 3 _).alloc _).alloc _).wfree 5 | exact ((((machEv HM.out HE.out 3 _).alloc _).alloc _).drew).wfree 5
  go_wp2
  go_ret
  have hN := HN.out
  subst hN
  have hQ := HQ.out
  subst hQ
  exact ⟨rfl, (HPD.out _).2 (new_done HM.out HE.out hB hebp HR.out hrB (hR := rfl) (h8 := rfl) her hgrow hown')⟩
end Go.Proofs.Ytnfbipohajphgaa
