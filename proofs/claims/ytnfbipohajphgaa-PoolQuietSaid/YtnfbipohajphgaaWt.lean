/- Walk: the run of the pool's system (f9). -/
import Derived.Test.YtnfbipohajphgaaWs
set_option linter.unusedVariables false
set_option linter.unusedSimpArgs false
namespace Go.Proofs.Ytnfbipohajphgaa
open Go.RowKit Qn PoolQ

variable {w : World} {B bp : Nat} {pv mv : Value} {st : St} {C : Comp} {W Q b jobs : Int}

theorem begun_forms {S : Psys} {nb nr : Nat} {e : Ending} {w' : World} (h : Begun pv mv S nb nr w e w') :
    ∃ bp st C a5 n5 c5 a6 n6 c6 a7 n7 c7 a9 n9 c9 a10 n10 c10 a11 n11 c11, e = .returned (.agg #[pv, mv, .int .i64 1, .int .i64 0, .int .i64 S.ncells, .slice a5 n5 c5, .slice a6 n6 c6, .slice a7 n7 c7, .slice none 0 0, .slice a9 n9 c9, .slice a10 n10 c10, .slice a11 n11 c11]) ∧
      (C.rv = .slice a5 n5 c5 ∧ C.hv = .slice a6 n6 c6 ∧ C.sv = .slice a7 n7 c7 ∧ C.lv = .slice none 0 0 ∧ C.gv = .slice a9 n9 c9 ∧ C.cv = .slice a10 n10 c10 ∧ C.ev = .slice a11 n11 c11) ∧
      Mach w' w.heap.size bp pv mv S st C ∧ BSt st nr nr 1 nb ∧ Below w.heap.size w w' := by
  obtain ⟨bp, st, C, rfl, hm, ⟨hs, hl⟩, hb⟩ := h
  obtain ⟨a5, c5, h5, -⟩ := hm.rs.isSlice
  obtain ⟨a6, c6, h6, -⟩ := hm.held.isSlice
  obtain ⟨a7, c7, h7, -⟩ := hm.shut.isSlice
  obtain ⟨a9, c9, h9, -⟩ := hm.groups.isSlice
  obtain ⟨a10, c10, h10, -⟩ := hm.cells.isSlice
  obtain ⟨a11, c11, h11, -⟩ := hm.ev.isSlice
  exact ⟨bp, st, C, _, _, _, _, _, _, _, _, _, _, _, _, _, _, _, _, _, _, by rw [h5, h6, h7, h9, h10, h11, hl], ⟨h5, h6, h7, hl, h9, h10, h11⟩, hm, hs, hb⟩

theorem sys_up {w' : World} {S : Psys} (h : SysMem w w.heap.size pv mv S) (hb : Below w.heap.size w w') : SysMem w' w'.heap.size pv mv S := by
  have h1 := h.carry (fun k hk => hb.block k hk)
  have hz := hb.size
  obtain ⟨⟨pb, cp, ib, ci, h1, h2, h3, h4⟩, mb, cm, k1, k2, k3, k4⟩ := h1
  refine ⟨⟨pb, cp, ib, ci, h1, by omega, h3, fun p l hp => ?_⟩, mb, cm, k1, by omega, k3, k4⟩
  obtain ⟨a1, a2⟩ := h4 p l hp
  exact ⟨by omega, a2⟩

/-- The picks, as they can be read. -/
def PicksAt (w : World) (B : Nat) (v : Value) (xs : List Int) : Prop :=
  (∀ x ∈ xs, -9223372036854775808 ≤ x ∧ x ≤ 9223372036854775807) ∧ xs.length ≤ 9223372036854775807 ∧ ∃ a cap, v = .slice a xs.length cap ∧ (xs = [] ∨ ∃ g o, a = some ⟨g, o, none⟩ ∧ g < B ∧ ∀ j x, xs[j]? = some x → w.cell? ⟨g, o + j, none⟩ = some (.int .i64 x))

def Played (W b jobs : Int) (w : World) (e : Ending) (w' : World) : Prop :=
  ∃ ea ec n ca cn cc, e = .returned (.agg #[.int .i64 1, .int .i64 0, .slice ea n ec, .int .i64 (W + 3), .slice ca cn cc]) ∧ (n : Int) = bound W b jobs ∧ Below w.heap.size w w'

theorem setCell_self {w : World} {g j : Nat} {c : Array Value} {e : TypeId} {fr : Nat × Nat} {u : Value} (hw : w.heap[g]? = some (.cells c e fr)) (hu : c[j]? = some u) : w.setCell ⟨g, j, none⟩ u = w := by
  have hj := (Array.getElem?_eq_some_iff.1 hu).1
  have h1 : c.setIfInBounds j u = c := by
    apply Array.ext_getElem?
    intro i
    rw [Array.getElem?_setIfInBounds]
    split
    · rename_i e1
      subst e1
      first | exact hu.symm | (simp only [hj, if_true]; exact hu.symm)
    · rfl
  have h2 : (w.setCell ⟨g, j, none⟩ u).heap = w.heap := by
    apply Array.ext_getElem?
    intro i
    simp only [World.setCell, Array.getElem?_modify]
    split
    · rename_i e1
      subst e1
      rw [hw]
      simp [h1]
    · rfl
  obtain ⟨heap, tape, drawn, os, output⟩ := w
  simp only [World.setCell] at h2 ⊢
  rw [h2]

/-- What holds at each round's head. -/
def PlayInv (W Q b jobs : Int) (pv mv : Value) (B b5 b6 : Nat) (w0 wr : World) (k : Nat) : Prop :=
  ∃ st C, Mach wr B b5 pv mv (poolB W Q b jobs (some b6)) st C ∧ Inv W Q b jobs st ∧ Small st ∧ st.ev = k ∧ Below B w0 wr

theorem playInv_start {wb : World} {C0 : Comp} {st0 : St} {b5 nb : Nat} (hP : Par W Q b jobs) (hnb : b = nb) (hb0 : Below B w wb) (hs0 : BSt st0 3 3 1 nb)
    (hm : Mach wb B b5 pv mv (poolSys W Q b jobs) st0 C0) :
    PlayInv W Q b jobs pv mv B wb.heap.size (wb.heap.size + 1) w ((wb.alloc (.cells #[pv, mv, .int .i64 1, .int .i64 0, .int .i64 b, C0.rv, C0.hv, C0.sv, C0.lv, C0.gv, C0.cv, C0.ev] 51)).alloc (.cells run0 38)) 0 := by
  have hB : B ≤ wb.heap.size := by have := hm.bpB; have := hm.lt; omega
  have e0 : st0 = PoolQ.start nb := by
    obtain ⟨h1, h2, h3, h4, h5, h6⟩ := hs0
    obtain ⟨rs, held, shut, groups, cells, ev⟩ := st0
    simp only at h1 h2 h3 h4 h5 h6
    subst h1 h2 h3 h4 h5 h6
    rfl
  subst e0 hnb
  have h2 := (hm.alloc (.cells #[pv, mv, .int .i64 1, .int .i64 0, .int .i64 (nb : Int), C0.rv, C0.hv, C0.sv, C0.lv, C0.gv, C0.cv, C0.ev] 51)).alloc (.cells run0 38)
  have h3 := h2.copied (b2 := wb.heap.size) hB (by
    simp only [heap_ext, Array.getElem?_push, Array.size_push]
    rw [if_neg (by omega)]
    simp
    rfl)
  refine ⟨_, _, ⟨⟨h3.sys.progs, h3.sys.rooms⟩, ?_, h3.bpB, h3.blk, h3.regs8, h3.rs, h3.held, h3.ql, h3.qs, h3.shut, h3.groups, h3.cells, h3.ev, h3.gc, h3.gq, h3.qq⟩, inv_start0 nb hP.Q.1, small_start nb, rfl, (hb0.alloc hB _).alloc (by simp; omega) _⟩
  intro g hg
  obtain rfl : wb.heap.size + 1 = g := by simpa [poolB] using hg
  simp only [heap_ext, Array.getElem?_push, Array.size_push]
  simp

theorem play_next {B b5 b6 k : Nat} {w0 w2 : World} (hP : Par W Q b jobs) (hm : Mach w2 B b5 pv mv (poolB W Q b jobs (some b6)) st C) (hI : Inv W Q b jobs st) (hs : Small st) (hev : st.ev = k) (hb : Below B w0 w2) {R : List Nat} (hR : readyN (poolB W Q b jobs (some b6)) st st.rs.length = R)
    {Bx g o vc m : Nat} (hv : OwnS w2 Bx 3 1 (.slice (some ⟨g, o, none⟩) m vc) m (R.map natI)) (pn : Nat) (hp : pn < m) (hRl : R.length = m) :
    ∃ kk : Nat, w2.cell? ⟨g, o + pn, none⟩ = some (.int .i64 kk) ∧ kk ≤ 1000000 ∧ Calls Try.prog 17 #[.pointer (some ⟨b5, 0, none⟩), .int .i64 kk] w2 fun e w' => e = .returned (.int .i64 0) ∧ PlayInv W Q b jobs pv mv B b5 b6 w0 w' (k + 1) := by
  have hpl : pn < R.length := by omega
  have hx : R[pn]? = some R[pn] := List.getElem?_eq_getElem hpl
  obtain ⟨h1, h2⟩ := ready_mem (S := poolB W Q b jobs (some b6)) (st := st) (n := st.rs.length) (j := pn) (k := R[pn]) (by rw [hR]; exact hx)
  obtain ⟨z1, z2, z3, -⟩ := sizes hP hI
  rw [canB] at h2
  refine ⟨R[pn], hv.cell pn _ (by rw [List.getElem?_map, hx]; rfl), by omega, ?_⟩
  refine (step_mem hP hm hI hs R[pn] h1 h2).mono ?_
  rintro e w' ⟨rfl, C', hm', hb'⟩
  have hok := step_ok hI hP.W.1 hP.W.2 hP.Q.1 hP.b.1 hP.b.2 hP.j.1 hP.j.2 h1 h2
  exact ⟨rfl, _, _, hm', hok.2, small_step hI hs hP.W hP.b hP.j h1 h2, by rw [step_ev, hev], hb.trans hb'⟩

set_option maxRecDepth 8000 in
set_option maxHeartbeats 4000000 in
theorem play_any (hP : Par W Q b jobs) (hS : SysMem w w.heap.size pv mv (poolSys W Q b jobs)) (pk : Value) (xs : List Int) (hpk : PicksAt w w.heap.size pk xs) :
    Calls Try.prog 9 #[.agg #[pv, mv, .int .i64 1, .int .i64 0, .int .i64 b], pk] w fun e w' => Played W b jobs w e w' := by
  obtain ⟨hx1, hx2, pa, pc, rfl, hpa⟩ := hpk
  obtain ⟨pb, cp, ib, ci, hpv, hpw, hpl, hpr⟩ := hS.progs
  obtain ⟨mb, cm, hmv, hmb, hml, -⟩ := hS.rooms
  subst hpv hmv
  obtain ⟨nb, hnb⟩ : ∃ nb : Nat, b = nb := ⟨b.toNat, by have := hP.b; omega⟩
  have hB : ∀ w1 : World, Below w.heap.size w w1 → Calls Try.prog 13 #[.agg #[.slice (some ⟨pb, 0, none⟩) (poolSys W Q b jobs).progs.length cp, .slice (some ⟨mb, 0, none⟩) (poolSys W Q b jobs).rooms.length cm, .int .i64 1, .int .i64 0, .int .i64 b]] w1 fun e w' =>
      Begun (.slice (some ⟨pb, 0, none⟩) (poolSys W Q b jobs).progs.length cp) (.slice (some ⟨mb, 0, none⟩) (poolSys W Q b jobs).rooms.length cm) (poolSys W Q b jobs) nb (poolSys W Q b jobs).rooms.length w1 e w' := fun w1 hb =>
    begin_any (sys_up hS hb) rfl (combP W) rfl (by simp [combP]) nb hnb (by have := hP.b; omega)
  have HBG := Lib.hid hB
  have HS := Lib.hid hS
  have HP := Lib.hid hP
  have HX := Lib.hid hx1
  have HA := Lib.hid hpa
  have HN := Lib.hid hnb
  clear hB hS hP hx1 hpa hnb hpr
  generalize hnp : (poolSys W Q b jobs).progs.length = np at *
  generalize hnr : (poolSys W Q b jobs).rooms.length = nr at *
  have HNP := Lib.hid hnp
  have HNR := Lib.hid hnr
  clear hnp hnr
  generalize hnx : xs.length = nx at *
  have HNX0 := Lib.hid hnx
  clear hnx
  go_enter Try.func9, Try.ntmps9
  go_upto_region 2 with (go_at_call 13; (refine (HBG.out _ (((Below.refl _ _).alloc (Nat.le_refl _) _).alloc (by simp) _)).mono ?_); rintro e wb hbg; obtain ⟨bp0, st0, C0, a5, n5, c5, a6, n6, c6, a7, n7, c7, a9, n9, c9, a10, n10, c10, a11, n11, c11, rfl, hc0, hm0, hs0, hb0⟩ := begun_forms hbg; clear hbg)
  obtain ⟨hc5, hc6, hc7, hc8, hc9, hc10, hc11⟩ := hc0
  rw [show ((w.alloc (.cells #[.slice (some ⟨pb, 0, none⟩) np cp, .slice (some ⟨mb, 0, none⟩) nr cm, .int .i64 1, .int .i64 0, .int .i64 b] 29)).alloc (.cells #[.int .i64 0, .int .i64 0, .slice none 0 0, .int .i64 0, .slice none 0 0] 38)).heap.size = w.heap.size + 1 + 1 from by simp] at hm0 hb0
  have HM0 := Lib.hid (And.intro hm0 (And.intro hs0 hb0))
  have HC := Lib.hid (And.intro hc5 (And.intro hc6 (And.intro hc7 (And.intro hc8 (And.intro hc9 (And.intro hc10 hc11))))))
  have hbpw : w.heap.size + 1 + 1 ≤ wb.heap.size := by have := hb0.size; simp only [World.alloc, Array.size_push] at this; omega
  clear hc5 hc6 hc7 hc8 hc9 hc10 hc11 hm0 hs0 hb0
  go_wp2
  go_loopw [7] (fun i wr => ∃ k : Nat, i = .int .i64 k ∧ k ≤ 40000 ∧ PlayInv W Q b jobs (.slice (some ⟨pb, 0, none⟩) np cp) (.slice (some ⟨mb, 0, none⟩) nr cm) (w.heap.size + 1 + 1) wb.heap.size (wb.heap.size + 1) ((w.alloc (.cells #[.slice (some ⟨pb, 0, none⟩) np cp, .slice (some ⟨mb, 0, none⟩) nr cm, .int .i64 1, .int .i64 0, .int .i64 b] 29)).alloc (.cells #[.int .i64 0, .int .i64 0, .slice none 0 0, .int .i64 0, .slice none 0 0] 38)) wr k) (fun i _ => 40000 - (intOf i).toNat)
  case atStart =>
    refine ⟨0, rfl, by omega, ?_⟩
    obtain ⟨hm0, hs0, hb0⟩ := HM0.out
    obtain ⟨q5, q6, q7, q8, q9, q10, q11⟩ := HC.out
    have e3 : nr = 3 := HNR.out.symm
    have := playInv_start HP.out HN.out hb0 (by rw [e3] at hs0; exact hs0) hm0
    rw [q5, q6, q7, q8, q9, q10, q11] at this
    exact this
  case round =>
    obtain ⟨k, rfl, hk, st, C, hm, hI, hs, hev, hb⟩ := hrel
    clear HM0 HC HBG
    obtain ⟨z1, z2, z3, -⟩ := sizes HP.out hI
    have hk4 : k < 40000 := by omega
    have hx6 := hm.box _ rfl
    have hl6 := hm.lt
    have x0 : wr.cell? ⟨wb.heap.size + 1, 0, none⟩ = some (.int .i64 0) := cell_of_row wr _ 0 run0 38 (0, 0) hx6
    have hrd := ready_any hm (by omega) z2 (by rw [hI.shl]; omega) (by rw [hI.hl]; omega) (by rw [hI.gl]; omega) (allOk HP.out hI)
    have hle := readyN_le (poolB W Q b jobs (some (wb.heap.size + 1))) st st.rs.length
    have HR := Lib.hid (And.intro hm (And.intro hI (And.intro hs (And.intro hev hb))))
    have HRD := Lib.hid hrd
    clear hm hI hs hev hb hrd hx6
    go_upto_region 7 with (go_at_call 14; refine (HRD.out).mono ?_; rintro e w2 ⟨v, rfl, hv, hb2⟩; obtain ⟨va, vc, rfl, hvc⟩ := hv.isSlice)
    generalize hRn : readyN (poolB W Q b jobs (some (wb.heap.size + 1))) st st.rs.length = R at *
    obtain ⟨hm, hI, hs, hev, hb⟩ := HR.out
    clear HR HRD
    have hm2 := hm.below hb2
    have hb02 := hb.trans (hb2.mono (by have := hm.bpB; omega))
    clear hm hb hb2 x0
    have hx6 := hm2.box _ rfl
    have hl6 := hm2.lt
    have x0 : w2.cell? ⟨wb.heap.size + 1, 0, none⟩ = some (.int .i64 0) := cell_of_row w2 _ 0 run0 38 (0, 0) hx6
    have x1 : w2.cell? ⟨wb.heap.size + 1, 1, none⟩ = some (.int .i64 0) := cell_of_row w2 _ 1 run0 38 (0, 0) hx6
    have x2 : w2.cell? ⟨wb.heap.size + 1, 2, none⟩ = some (.slice none 0 0) := cell_of_row w2 _ 2 run0 38 (0, 0) hx6
    have x3 : w2.cell? ⟨wb.heap.size + 1, 3, none⟩ = some (.int .i64 0) := cell_of_row w2 _ 3 run0 38 (0, 0) hx6
    have x4 : w2.cell? ⟨wb.heap.size + 1, 4, none⟩ = some (.slice none 0 0) := cell_of_row w2 _ 4 run0 38 (0, 0) hx6
    have xf := fun j => frozen_of_row w2 (wb.heap.size + 1) j run0 38 hx6
    have hend := end_any hm2 (by omega) z2 R.length (by omega) (by omega)
    have hpos := fun h => ready_pos HP.out hI h
    rw [← readyB (some (wb.heap.size + 1)), hRn] at hpos
    have HR := Lib.hid (And.intro hm2 (And.intro hI (And.intro hs (And.intro hev hb02))))
    have HV := Lib.hid hv
    have HRN := Lib.hid hRn
    cases hA : allEnded st.rs with
    | true =>
      rw [hA] at hend
      simp only [if_true] at hend
      have HEND := Lib.hid hend
      obtain ⟨hf1, hf2⟩ := over_final hI HP.out.W.1 (all_ended hA)
      have HF := Lib.hid (And.intro hf1 hf2)
      obtain ⟨ea, ec, h11e, -⟩ := hm2.ev.isSlice
      obtain ⟨ra, rc, h5e, -⟩ := hm2.rs.isSlice
      obtain ⟨ca, cc, h10e, -⟩ := hm2.cells.isSlice
      have c11 := (hm2.wcell 11 _ rfl).trans (by rw [h11e])
      have c5 := (hm2.wcell 5 _ rfl).trans (by rw [h5e])
      have c10 := (hm2.wcell 10 _ rfl).trans (by rw [h10e])
      have h4 : w2.heap[w.heap.size + 1]? = some (.cells run0 38 (0, 0)) := by
        rw [hb02.block _ (by omega)]
        simp only [heap_ext, Array.getElem?_push, Array.size_push]
        simp
        rfl
      have y0 : w2.cell? ⟨w.heap.size + 1, 0, none⟩ = some (.int .i64 0) := cell_of_row w2 _ 0 run0 38 (0, 0) h4
      have y1 : w2.cell? ⟨w.heap.size + 1, 1, none⟩ = some (.int .i64 0) := cell_of_row w2 _ 1 run0 38 (0, 0) h4
      have y2 : w2.cell? ⟨w.heap.size + 1, 2, none⟩ = some (.slice none 0 0) := cell_of_row w2 _ 2 run0 38 (0, 0) h4
      have y3 : w2.cell? ⟨w.heap.size + 1, 3, none⟩ = some (.int .i64 0) := cell_of_row w2 _ 3 run0 38 (0, 0) h4
      have y4 : w2.cell? ⟨w.heap.size + 1, 4, none⟩ = some (.slice none 0 0) := cell_of_row w2 _ 4 run0 38 (0, 0) h4
      have yf := fun j => frozen_of_row w2 (w.heap.size + 1) j run0 38 h4
      have d1 : ¬ w.heap.size + 1 = wb.heap.size := by omega
      have d2 : ¬ w.heap.size + 1 = wb.heap.size + 1 := by omega
      generalize st.ev = E at *
      generalize st.rs.length = N at *
      generalize st.cells.length = K at *
      clear h11e h5e h10e h4 hf1 hf2 z1 z2 z3
      clear hm2 hI hs hev hb02 hx6 hend hpos hA hv hRn
      generalize hRl : R.length = m at *
      clear hRl
      go_upto_region 8 with (go_at_call 15; refine (HEND.out).mono ?_; rintro e w3 ⟨rfl, rfl⟩)
      go_wp2
      refine bodyPost_ret (v := .agg #[.int .i64 1, .int .i64 0, .slice ea E ec, .int .i64 N, .slice ca K cc]) (by simp [results, Try.results9, go_sem, y0, y1, y2, y3, y4]) rfl ?_
      obtain ⟨-, -, -, -, hb02⟩ := HR.out
      have hb3 : Below w.heap.size w w2 := (((Below.refl _ _).alloc (Nat.le_refl _) _).alloc (by simp) _).trans (hb02.mono (by omega))
      refine ⟨ea, ec, E, ca, K, cc, by rw [HF.out.2], HF.out.1, ?_⟩
      exact (((((((((hb3.setCell (p := ⟨_, 0, none⟩) (by simp; omega) _).setCell (p := ⟨_, 2, none⟩) (by simp; omega) _).setCell (p := ⟨_, 3, none⟩) (by simp; omega) _).setCell (p := ⟨_, 4, none⟩) (by simp; omega) _).setCell (p := ⟨_, 0, none⟩) (by simp) _).setCell (p := ⟨_, 1, none⟩) (by simp) _).setCell (p := ⟨_, 2, none⟩) (by simp) _).setCell (p := ⟨_, 3, none⟩) (by simp) _).setCell (p := ⟨_, 4, none⟩) (by simp) _)
    | false =>
      have hpos' := hpos hA
      rw [hA] at hend
      simp only [Bool.false_eq_true, if_false, if_neg (show ¬ R.length = 0 by omega)] at hend
      have HEND := Lib.hid hend
      obtain ⟨g, o, cap, hva, -, hgl, -⟩ := hv.form hpos'
      simp only [Value.slice.injEq] at hva
      obtain ⟨rfl, -, rfl⟩ := hva
      have HNX := Lib.hid (fun pn hp => play_next HP.out hm2 hI hs hev hb02 hRn hv pn hp rfl)
      have hwc : ∀ g' o', g' < w.heap.size → w2.cell? ⟨g', o', none⟩ = w.cell? ⟨g', o', none⟩ := by
        intro g' o' hg'
        rw [hb02.cell (p := ⟨g', o', none⟩) (by simp; omega)]
        exact World.cell?_of_block (by
          simp only [heap_ext, Array.getElem?_push, Array.size_push]
          rw [if_neg (by omega), if_neg (by omega)])
      clear hm2 hI hs hev hb02 hend hpos hA hv hRn HR HV HRN
      generalize hRl : R.length = m at *
      clear hRl
      have hself := setCell_self (u := .int .i64 0) (j := 0) hx6 rfl
      have hzi : ∃ xi : Int, k < nx → (-9223372036854775808 ≤ xi ∧ xi ≤ 9223372036854775807) ∧ ∃ g' o', pa = some ⟨g', o', none⟩ ∧ w2.cell? ⟨g', o' + k, none⟩ = some (.int .i64 xi) := by
        by_cases hkx : k < nx
        · have hlx : k < xs.length := by rw [HNX0.out]; exact hkx
          refine ⟨xs[k], fun _ => ⟨HX.out _ (List.getElem_mem hlx), ?_⟩⟩
          rcases HA.out with h0 | ⟨g', o', h1, h2, h3⟩
          · subst h0; simp at hlx
          · exact ⟨g', o', h1, by rw [hwc _ _ h2]; exact h3 k _ (List.getElem?_eq_getElem hlx)⟩
        · exact ⟨0, fun h => absurd h hkx⟩
      obtain ⟨xi, hxi⟩ := hzi
      clear hwc
      by_cases hkx : k < nx
      · obtain ⟨⟨hx1, hx3⟩, g', o', rfl, hpc⟩ := hxi hkx
        obtain ⟨pn, hpn, hpm⟩ := rest_in xi m hpos'
        have hra := rest_any xi m w2 ⟨hx1, hx3⟩ (by omega) (by omega)
        rw [hpn] at hra
        obtain ⟨kk, hkc, hkl, hst⟩ := HNX.out pn hpm
        have HRA := Lib.hid hra
        have HST := Lib.hid hst
        clear hra hst hxi hpn HNX
        go_upto_region 8 with (go_at_call 15; refine (HEND.out).mono ?_; rintro e w3 ⟨rfl, rfl⟩)
        clear hself hx6 HEND
        go_upto_region 12 with (go_at_call 16; refine (HRA.out).mono ?_; rintro e w3 ⟨rfl, rfl⟩)
        go_wp2_with (go_at_call 17; refine (HST.out).mono ?_; rintro e w3 ⟨rfl, hpi⟩; have HPI := Lib.hid hpi; clear hpi)
        go_roundw
        case rel => exact ⟨k + 1, by go_num, by omega, HPI.out⟩
        case measure => simp [intOf]; omega
      · obtain ⟨kk, hkc, hkl, hst⟩ := HNX.out 0 hpos'
        have HST := Lib.hid hst
        clear hst hxi HNX
        simp only [Nat.add_zero] at hkc
        go_upto_region 8 with (go_at_call 15; refine (HEND.out).mono ?_; rintro e w3 ⟨rfl, rfl⟩)
        clear hself hx6 HEND
        go_upto_region 12 with (fail)
        go_wp2_with (go_at_call 17; refine (HST.out).mono ?_; rintro e w3 ⟨rfl, hpi⟩; have HPI := Lib.hid hpi; clear hpi)
        go_roundw
        case rel => exact ⟨k + 1, by go_num, by omega, HPI.out⟩
        case measure => simp [intOf]; omega
end Go.Proofs.Ytnfbipohajphgaa
