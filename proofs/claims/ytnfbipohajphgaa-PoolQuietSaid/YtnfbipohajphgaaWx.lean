/- Walk: may a system be (f8). -/
import Derived.Test.YtnfbipohajphgaaWw
import Derived.Test.YtnfbipohajphgaaMb
set_option linter.unusedVariables false
set_option linter.unusedSimpArgs false
namespace Go.Proofs.Ytnfbipohajphgaa
open Go.RowKit Qn PoolQ

def sysV (pv mv : Value) (b : Int) : Value := .agg #[pv, mv, .int .i64 1, .int .i64 0, .int .i64 b]
def insV (i : Ins) : Value := .agg #[.int .i64 i.op, .int .i64 i.a, .int .i64 i.b, .int .i64 i.c]

set_option maxRecDepth 8000 in
set_option maxHeartbeats 4000000 in
theorem sys_valid (w : World) (pv mv : Value) (S : Psys) (b : Int) (hb : 1 ≤ b ∧ b ≤ 64) (hS : SysMem w w.heap.size pv mv S) (hp : 0 < S.progs.length) (hr : ∀ (j : Nat) (r : Int), S.rooms[j]? = some r → 1 ≤ r ∧ r ≤ 1024)
    (hright : ∀ (p : Nat) (l : List Ins) (j : Nat) (i : Ins), S.progs[p]? = some l → l[j]? = some i → ∀ w1, Below w.heap.size w w1 → Calls Try.prog 12 #[.agg #[pv, mv, .int .i64 1, .int .i64 0, .int .i64 b], .int .i64 p, .agg #[.int .i64 i.op, .int .i64 i.a, .int .i64 i.b, .int .i64 i.c]] w1 fun e w' => e = .returned (.bool true) ∧ Below w1.heap.size w1 w') :
    Calls Try.prog 8 #[.agg #[pv, mv, .int .i64 1, .int .i64 0, .int .i64 b]] w fun e w' => e = .returned (.bool true) ∧ Below w.heap.size w w' := by
  obtain ⟨⟨pb, cp, ib, ci, h1, hpw, hpl, hpr⟩, mb, cm, k1, hmw, hml, hmr⟩ := hS
  subst h1 k1
  have HR := Lib.hid hr
  have HMR := Lib.hid hmr
  have HPR := Lib.hid hpr
  have HRT := Lib.hid hright
  clear hr hmr hpr hright
  obtain ⟨hb1, hb2⟩ := hb
  generalize hnp : S.progs.length = np at *
  have HNP := Lib.hid hnp
  generalize hnr : S.rooms.length = nr at *
  have HNR := Lib.hid hnr
  clear hnp hnr
  go_enter Try.func8, Try.ntmps8
  go_wp2
  go_loop [3] (fun i => ∃ k : Nat, k ≤ nr ∧ i = .int .i64 k) (fun i => nr - (intOf i).toNat)
  case atStart => exact ⟨0, by omega, rfl⟩
  case round =>
    obtain ⟨k, hk, rfl⟩ := hrel
    by_cases hlt : k < nr
    · have hkl : k < S.rooms.length := by rw [HNR.out]; exact hlt
      have hx : S.rooms[k]? = some S.rooms[k] := List.getElem?_eq_getElem hkl
      have hc := HMR.out k _ hx
      obtain ⟨hr1, hr2⟩ := HR.out k _ hx
      generalize S.rooms[k] = x at *
      clear hx hkl
      go_wp2
      go_round
      case rel => exact ⟨k + 1, by omega, by go_num⟩
      case measure => simp [intOf]; omega
    · obtain rfl : nr = k := by omega
      go_wp2
      go_loopw [4] (fun i wr => ∃ k : Nat, k ≤ np ∧ i = .int .i64 k ∧ Below (w.heap.size + 1) (w.alloc (.cells #[.slice (some ⟨pb, 0, none⟩) np cp, .slice (some ⟨mb, 0, none⟩) nr cm, .int .i64 1, .int .i64 0, .int .i64 b] 29)) wr) (fun i _ => np - (intOf i).toNat)
      case atStart => exact ⟨0, by omega, rfl, Below.refl _ _⟩
      case round =>
        obtain ⟨p, hpk, rfl, hbel⟩ := hrel
        have hbw : Below w.heap.size w wr := ((Below.refl _ _).alloc (Nat.le_refl _) _).trans (hbel.mono (by omega))
        have hX : wr.heap[w.heap.size]? = some (.cells #[.slice (some ⟨pb, 0, none⟩) np cp, .slice (some ⟨mb, 0, none⟩) nr cm, .int .i64 1, .int .i64 0, .int .i64 b] 29 (0, 0)) := by
          rw [hbel.block _ (by omega)]
          simp only [heap_ext', Array.getElem?_push]
          rw [if_pos trivial]
        have a0 : wr.cell? ⟨w.heap.size, 0, none⟩ = some (.slice (some ⟨pb, 0, none⟩) np cp) := cell_of_row wr _ 0 _ 29 (0, 0) hX
        by_cases hplt : p < np
        · have hpp : p < S.progs.length := by rw [HNP.out]; exact hplt
          have hxp : S.progs[p]? = some S.progs[p] := List.getElem?_eq_getElem hpp
          obtain ⟨q1, q2, q3, q4⟩ := HPR.out p _ hxp
          have hcp : wr.cell? ⟨pb, p, none⟩ = some (.slice (some ⟨ib p, 0, none⟩) S.progs[p].length (ci p)) := (hbw.cell (p := ⟨pb, p, none⟩) hpw).trans q3
          have HQ := Lib.hid (And.intro hxp q4)
          generalize S.progs[p] = l at *
          have HBW := Lib.hid (And.intro hbel hbw)
          clear hxp q3 q4 hX hbel hbw hpp
          generalize hll : l.length = nl at *
          have HLL := Lib.hid hll
          clear hll
          go_wp2
          obtain ⟨wo, hwo⟩ : ∃ wo : World, wo = wr := ⟨_, rfl⟩
          go_loopw [5] (fun i wr => ∃ k : Nat, k ≤ nl ∧ i = .int .i64 k ∧ Below (w.heap.size + 1) (w.alloc (.cells #[.slice (some ⟨pb, 0, none⟩) np cp, .slice (some ⟨mb, 0, none⟩) nr cm, .int .i64 1, .int .i64 0, .int .i64 b] 29)) wr) (fun i _ => nl - (intOf i).toNat)
          case atStart => exact ⟨0, by omega, rfl, HBW.out.1⟩
          case round =>
            obtain ⟨k, hk2, rfl, hbel⟩ := hrel
            have hbw : Below w.heap.size w wr := ((Below.refl _ _).alloc (Nat.le_refl _) _).trans (hbel.mono (by omega))
            clear hwo a0 hcp
            have hX : wr.heap[w.heap.size]? = some (.cells #[.slice (some ⟨pb, 0, none⟩) np cp, .slice (some ⟨mb, 0, none⟩) nr cm, .int .i64 1, .int .i64 0, .int .i64 b] 29 (0, 0)) := by
              rw [hbel.block _ (by omega)]
              simp only [heap_ext', Array.getElem?_push]
              rw [if_pos trivial]
            have a0 : wr.cell? ⟨w.heap.size, 0, none⟩ = some (.slice (some ⟨pb, 0, none⟩) np cp) := cell_of_row wr _ 0 _ 29 (0, 0) hX
            have a1 : wr.cell? ⟨w.heap.size, 1, none⟩ = some (.slice (some ⟨mb, 0, none⟩) nr cm) := cell_of_row wr _ 1 _ 29 (0, 0) hX
            have a2 : wr.cell? ⟨w.heap.size, 2, none⟩ = some (.int .i64 1) := cell_of_row wr _ 2 _ 29 (0, 0) hX
            have a3 : wr.cell? ⟨w.heap.size, 3, none⟩ = some (.int .i64 0) := cell_of_row wr _ 3 _ 29 (0, 0) hX
            have a4 : wr.cell? ⟨w.heap.size, 4, none⟩ = some (.int .i64 b) := cell_of_row wr _ 4 _ 29 (0, 0) hX
            obtain ⟨hxp, q4⟩ := HQ.out
            obtain ⟨-, -, q3, -⟩ := HPR.out p _ hxp
            have hcp : wr.cell? ⟨pb, p, none⟩ = some (.slice (some ⟨ib p, 0, none⟩) nl (ci p)) := ((hbw.cell (p := ⟨pb, p, none⟩) hpw).trans q3).trans (by rw [HLL.out])
            by_cases hkl : k < nl
            · have hkl' : k < l.length := by rw [HLL.out]; exact hkl
              have hxi : l[k]? = some l[k] := List.getElem?_eq_getElem hkl'
              obtain ⟨c0, c1, c2, c3⟩ := q4 k _ hxi
              have hrt := HRT.out p l k _ hxp hxi
              generalize l[k] = i at *
              have d0 := (hbw.cell (p := ⟨ib p, k * 4, none⟩) q1).trans c0
              have d1 := (hbw.cell (p := ⟨ib p, k * 4 + 1, none⟩) q1).trans c1
              have d2 := (hbw.cell (p := ⟨ib p, k * 4 + 2, none⟩) q1).trans c2
              have d3 := (hbw.cell (p := ⟨ib p, k * 4 + 3, none⟩) q1).trans c3
              have HB2 := Lib.hid (And.intro hbel hbw)
              have HRI := Lib.hid hrt
              obtain ⟨iop, ia, ibb, ic⟩ := i
              simp only at d0 d1 d2 d3
              have hzr : w.heap.size < wr.heap.size := by have := hbel.size; simp only [heap_ext', Array.size_push] at this; omega
              have g1 : (p : Int) < (np : Int) := by omega
              have g2 : (k : Int) < (nl : Int) := by omega
              have g3 : (0 : Int) ≤ p := by omega
              have g4 : (0 : Int) ≤ k := by omega
              clear hX hxp q3 q4 hxi hkl' c0 c1 c2 c3 hrt hbel hbw
              go_upto_region 18 with (fail)
              refine region_tail 10 (by kernel_rfl) (by kernel_rfl) ?_
              simp only [List.take_succ_cons, List.take_zero, List.drop_succ_cons, List.drop_zero]
              repeat still_step
              refine wpStill_nil ?_
              go_wp2_with (go_at_call 12; refine (HRI.out _ (by first | exact HB2.out.2.drew | exact HB2.out.2)).mono ?_; rintro e w9 ⟨rfl, hb9⟩; have HB9 := Lib.hid (HB2.out.1.drew.trans (hb9.mono (by simp; omega))); clear hb9)
              go_roundw
              case rel => exact ⟨k + 1, by omega, by go_num, HB9.out⟩
              case measure => simp [intOf]; omega
            · have e : k = nl := by omega
              have HB2 := Lib.hid hbel
              clear hX hbel hbw hxp q3 q4
              go_wp2
              go_roundw
              case rel => exact ⟨p + 1, by omega, by go_num, HB2.out⟩
              case measure => simp [intOf]; omega
        · have e : p = np := by omega
          go_wp2
          go_ret
          exact ⟨rfl, hbw⟩
end Go.Proofs.Ytnfbipohajphgaa
