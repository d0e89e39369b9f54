/- Walk: is an instruction right (f12). -/
import Derived.Test.YtnfbipohajphgaaWv
set_option linter.unusedVariables false
set_option linter.unusedSimpArgs false
namespace Go.Proofs.Ytnfbipohajphgaa
open Go.RowKit Qn PoolQ

set_option maxRecDepth 8000 in
set_option maxHeartbeats 4000000 in
theorem right_any (w : World) (s0 s1 s2 s3 : Value) (s4 p : Int) (op v0 v1 v2 : Int) (c0 c1 c2 : UInt8) (hs4 : 0 < s4) (hop : 1 ≤ op ∧ op ≤ 16) (n8 : op ≠ 8) (n9 : op ≠ 9) (hf : fieldsOf op = ⟨#[c0, c1, c2]⟩)
    (h0 : FieldOk (.agg #[s0, s1, s2, s3, .int .i64 s4]) p w c0 v0) (h1 : FieldOk (.agg #[s0, s1, s2, s3, .int .i64 s4]) p w c1 v1) (h2 : FieldOk (.agg #[s0, s1, s2, s3, .int .i64 s4]) p w c2 v2) :
    Calls Try.prog 12 #[.agg #[s0, s1, s2, s3, .int .i64 s4], .int .i64 p, .agg #[.int .i64 op, .int .i64 v0, .int .i64 v1, .int .i64 v2]] w fun e w' => e = .returned (.bool true) ∧ Below w.heap.size w w' := by
  have hfl := fun w => fields_any op w hop n8 n9
  rw [hf] at hfl
  have HFL := Lib.hid hfl
  have H0 := Lib.hid h0
  have H1 := Lib.hid h1
  have H2 := Lib.hid h2
  clear hfl hf h0 h1 h2
  go_enter Try.func12, Try.ntmps12
  go_wp2_with (go_at_call 19; refine (HFL.out _).mono ?_; rintro e w1 ⟨rfl, hb1⟩; obtain ⟨hcc, hff⟩ := bcell hb1; have hsz := hb1.size)
  have hz1 : w.heap.size + 1 < w1.heap.size := by simp only [heap_ext', Array.size_push] at hsz; omega
  have hA := (hb1.block _ (by simp; omega)).trans (blk0 w _ _)
  have hB := (hb1.block _ (by simp)).trans (blk1 w _ _)
  have hbw1 : Below w.heap.size w w1 := (((Below.refl _ _).alloc (Nat.le_refl _) _).alloc (by simp) _).trans (hb1.mono (by simp; omega))
  have HA := Lib.hid (And.intro hA (And.intro hB hbw1))
  clear hcc hff hsz hb1 hA hB hbw1
  go_loopw [9] (fun i wr => ∃ k : Nat, (k = 0 ∧ i = .int .i64 0 ∨ k = 1 ∧ i = .int .i64 1 ∨ k = 2 ∧ i = .int .i64 2 ∨ k = 3 ∧ i = .int .i64 3) ∧ Below (w1.heap.size + 1) (w1.alloc (.cells #[.int .i64 v0, .int .i64 v1, .int .i64 v2] 58)) wr) (fun i _ => 3 - (intOf i).toNat)
  case atStart => exact ⟨0, by simp, Below.refl _ _⟩
  case round =>
    obtain ⟨k, hki, hb2⟩ := hrel
    obtain ⟨hA, hB, hbw1⟩ := HA.out
    have hbw : Below w.heap.size w wr := (hbw1.alloc (by omega) _).trans (hb2.mono (by omega))
    have hA2 : wr.heap[w.heap.size]? = some (.cells #[s0, s1, s2, s3, .int .i64 s4] 29 (0, 0)) := by
      rw [hb2.block _ (by omega)]
      simp only [heap_ext', Array.getElem?_push]
      rw [if_neg (by omega)]
      exact hA
    have hB2 : wr.heap[w.heap.size + 1]? = some (.cells #[.int .i64 op, .int .i64 v0, .int .i64 v1, .int .i64 v2] 43 (0, 0)) := by
      rw [hb2.block _ (by omega)]
      simp only [heap_ext', Array.getElem?_push]
      rw [if_neg (by omega)]
      exact hB
    have hC2 : wr.heap[w1.heap.size]? = some (.cells #[.int .i64 v0, .int .i64 v1, .int .i64 v2] 58 (0, 0)) := by
      rw [hb2.block _ (by omega)]
      simp only [heap_ext', Array.getElem?_push]
      rw [if_pos trivial]
    have a0 : wr.cell? ⟨w.heap.size, 0, none⟩ = some s0 := cell_of_row wr _ 0 _ 29 (0, 0) hA2
    have a1 : wr.cell? ⟨w.heap.size, 1, none⟩ = some s1 := cell_of_row wr _ 1 _ 29 (0, 0) hA2
    have a2 : wr.cell? ⟨w.heap.size, 2, none⟩ = some s2 := cell_of_row wr _ 2 _ 29 (0, 0) hA2
    have a3 : wr.cell? ⟨w.heap.size, 3, none⟩ = some s3 := cell_of_row wr _ 3 _ 29 (0, 0) hA2
    have a4 : wr.cell? ⟨w.heap.size, 4, none⟩ = some (.int .i64 s4) := cell_of_row wr _ 4 _ 29 (0, 0) hA2
    have b0 : wr.cell? ⟨w.heap.size + 1, 0, none⟩ = some (.int .i64 op) := cell_of_row wr _ 0 _ 43 (0, 0) hB2
    have d0 : wr.cell? ⟨w1.heap.size, 0, none⟩ = some (.int .i64 v0) := cell_of_row wr _ 0 _ 58 (0, 0) hC2
    have d1 : wr.cell? ⟨w1.heap.size, 1, none⟩ = some (.int .i64 v1) := cell_of_row wr _ 1 _ 58 (0, 0) hC2
    have d2 : wr.cell? ⟨w1.heap.size, 2, none⟩ = some (.int .i64 v2) := cell_of_row wr _ 2 _ 58 (0, 0) hC2
    have hzr : w1.heap.size < wr.heap.size := by have := hb2.size; simp only [heap_ext', Array.size_push] at this; omega
    have l0 : w.heap.size < wr.heap.size := by omega
    clear hA hB hbw1 hA2 hB2 hC2
    rcases hki with ⟨rfl, rfl⟩ | ⟨rfl, rfl⟩ | ⟨rfl, rfl⟩ | ⟨rfl, rfl⟩
    · have hF := H0.out
      rcases hF with hc | ⟨hc, hv0, nb, hvn, hbd⟩
      · subst hc
        have g0 : ((⟨#[120, c1, c2]⟩ : ByteArray)[0]'(by show 0 < 3; decide)).toNat = 120 := rfl
        go_upto_region 8 with (fail)
        go_quiet (fail)
        go_wp2
        go_roundw
        case rel => exact ⟨1, by simp, bDrewN hb2 _⟩
        case measure => simp [intOf]
      · have g0 : ((⟨#[c0, c1, c2]⟩ : ByteArray)[0]'(by show 0 < 3; decide)).toNat = c0.toNat := rfl
        have hcn : ((c0.toNat : Int) == 120) = false := by
          have : c0.toNat ≠ 120 := fun e => hc (UInt8.toNat_inj.1 (by rw [e]; rfl))
          simp; omega
        have hcn2 : ((c0.toNat : Int) != 120) = true := by
          have : c0.toNat ≠ 120 := fun e => hc (UInt8.toNat_inj.1 (by rw [e]; rfl))
          simp; omega
        have HBD := Lib.hid hbd
        clear hc hbd
        have hd1 : decide (v0 < 0) = false := by simp; omega
        have hd2 : decide (nb ≤ v0) = false := by simp; omega
        go_upto_region 8 with (fail)
        go_region_held3 (fun w' => w'.cell? ⟨w.heap.size, 0, none⟩ = some s0 ∧ w'.cell? ⟨w.heap.size, 1, none⟩ = some s1 ∧ w'.cell? ⟨w.heap.size, 2, none⟩ = some s2 ∧ w'.cell? ⟨w.heap.size, 3, none⟩ = some s3 ∧ w'.cell? ⟨w.heap.size, 4, none⟩ = some (.int .i64 s4) ∧ w'.cell? ⟨w1.heap.size, 0, none⟩ = some (.int .i64 v0))
          (first | (go_keep; done) | (refine ⟨?_, ?_, ?_, ?_, ?_, ?_⟩ <;> (rw [hcc9 _ _ (by first | assumption | (simp; omega))]; go_keep))) ((go_at_call 20; refine (HBD.out _ (by first | exact hbw.drew | exact hbw)).mono ?_; rintro e w9 ⟨rfl, hb9⟩; obtain ⟨hcc9, hff9⟩ := bcell hb9; have hz9 := hb9.size))
        have HB9 := Lib.hid (hb2.drew.trans (hb9.mono (by simp; omega)))
        clear hcc9 hff9 hb9
        go_wp2
        go_roundw
        case rel => exact ⟨1, by simp, HB9.out⟩
        case measure => simp [intOf]
    · have hF := H1.out
      rcases hF with hc | ⟨hc, hv0, nb, hvn, hbd⟩
      · subst hc
        have g0 : ((⟨#[c0, 120, c2]⟩ : ByteArray)[1]'(by show 1 < 3; decide)).toNat = 120 := rfl
        go_upto_region 8 with (fail)
        go_quiet (fail)
        go_wp2
        go_roundw
        case rel => exact ⟨2, by simp, bDrewN hb2 _⟩
        case measure => simp [intOf]
      · have g0 : ((⟨#[c0, c1, c2]⟩ : ByteArray)[1]'(by show 1 < 3; decide)).toNat = c1.toNat := rfl
        have hcn : ((c1.toNat : Int) == 120) = false := by
          have : c1.toNat ≠ 120 := fun e => hc (UInt8.toNat_inj.1 (by rw [e]; rfl))
          simp; omega
        have hcn2 : ((c1.toNat : Int) != 120) = true := by
          have : c1.toNat ≠ 120 := fun e => hc (UInt8.toNat_inj.1 (by rw [e]; rfl))
          simp; omega
        have HBD := Lib.hid hbd
        clear hc hbd
        have hd1 : decide (v1 < 0) = false := by simp; omega
        have hd2 : decide (nb ≤ v1) = false := by simp; omega
        go_upto_region 8 with (fail)
        go_region_held3 (fun w' => w'.cell? ⟨w.heap.size, 0, none⟩ = some s0 ∧ w'.cell? ⟨w.heap.size, 1, none⟩ = some s1 ∧ w'.cell? ⟨w.heap.size, 2, none⟩ = some s2 ∧ w'.cell? ⟨w.heap.size, 3, none⟩ = some s3 ∧ w'.cell? ⟨w.heap.size, 4, none⟩ = some (.int .i64 s4) ∧ w'.cell? ⟨w1.heap.size, 1, none⟩ = some (.int .i64 v1))
          (first | (go_keep; done) | (refine ⟨?_, ?_, ?_, ?_, ?_, ?_⟩ <;> (rw [hcc9 _ _ (by first | assumption | (simp; omega))]; go_keep))) ((go_at_call 20; refine (HBD.out _ (by first | exact hbw.drew | exact hbw)).mono ?_; rintro e w9 ⟨rfl, hb9⟩; obtain ⟨hcc9, hff9⟩ := bcell hb9; have hz9 := hb9.size))
        have HB9 := Lib.hid (hb2.drew.trans (hb9.mono (by simp; omega)))
        clear hcc9 hff9 hb9
        go_wp2
        go_roundw
        case rel => exact ⟨2, by simp, HB9.out⟩
        case measure => simp [intOf]
    · have hF := H2.out
      rcases hF with hc | ⟨hc, hv0, nb, hvn, hbd⟩
      · subst hc
        have g0 : ((⟨#[c0, c1, 120]⟩ : ByteArray)[2]'(by show 2 < 3; decide)).toNat = 120 := rfl
        go_upto_region 8 with (fail)
        go_quiet (fail)
        go_wp2
        go_roundw
        case rel => exact ⟨3, by simp, bDrewN hb2 _⟩
        case measure => simp [intOf]
      · have g0 : ((⟨#[c0, c1, c2]⟩ : ByteArray)[2]'(by show 2 < 3; decide)).toNat = c2.toNat := rfl
        have hcn : ((c2.toNat : Int) == 120) = false := by
          have : c2.toNat ≠ 120 := fun e => hc (UInt8.toNat_inj.1 (by rw [e]; rfl))
          simp; omega
        have hcn2 : ((c2.toNat : Int) != 120) = true := by
          have : c2.toNat ≠ 120 := fun e => hc (UInt8.toNat_inj.1 (by rw [e]; rfl))
          simp; omega
        have HBD := Lib.hid hbd
        clear hc hbd
        have hd1 : decide (v2 < 0) = false := by simp; omega
        have hd2 : decide (nb ≤ v2) = false := by simp; omega
        go_upto_region 8 with (fail)
        go_region_held3 (fun w' => w'.cell? ⟨w.heap.size, 0, none⟩ = some s0 ∧ w'.cell? ⟨w.heap.size, 1, none⟩ = some s1 ∧ w'.cell? ⟨w.heap.size, 2, none⟩ = some s2 ∧ w'.cell? ⟨w.heap.size, 3, none⟩ = some s3 ∧ w'.cell? ⟨w.heap.size, 4, none⟩ = some (.int .i64 s4) ∧ w'.cell? ⟨w1.heap.size, 2, none⟩ = some (.int .i64 v2))
          (first | (go_keep; done) | (refine ⟨?_, ?_, ?_, ?_, ?_, ?_⟩ <;> (rw [hcc9 _ _ (by first | assumption | (simp; omega))]; go_keep))) ((go_at_call 20; refine (HBD.out _ (by first | exact hbw.drew | exact hbw)).mono ?_; rintro e w9 ⟨rfl, hb9⟩; obtain ⟨hcc9, hff9⟩ := bcell hb9; have hz9 := hb9.size))
        have HB9 := Lib.hid (hb2.drew.trans (hb9.mono (by simp; omega)))
        clear hcc9 hff9 hb9
        go_wp2
        go_roundw
        case rel => exact ⟨3, by simp, HB9.out⟩
        case measure => simp [intOf]
    · by_cases e12 : op = 12
      · subst e12
        go_wp2
        go_ret
        exact ⟨rfl, hbw⟩
      · by_cases e13 : op = 13
        · subst e13
          go_wp2
          go_ret
          exact ⟨rfl, hbw⟩
        · have d12 : (op == 12) = false := by simp; omega
          have d13 : (op == 13) = false := by simp; omega
          have d12' : (op != 12) = true := by simp; omega
          have d13' : (op != 13) = true := by simp; omega
          go_wp2
          go_ret
          exact ⟨rfl, hbw⟩
end Go.Proofs.Ytnfbipohajphgaa
