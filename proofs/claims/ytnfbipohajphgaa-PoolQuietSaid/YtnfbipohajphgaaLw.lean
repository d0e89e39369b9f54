/- Walks: Bound, awake, the law itself (f7, f4, f3). -/
import Derived.Test.YtnfbipohajphgaaWz
import Derived.Test.YtnfbipohajphgaaWy
import Derived.Test.YtnfbipohajphgaaWt
import Derived.WalkLawsBesides
set_option linter.unusedVariables false
set_option linter.unusedSimpArgs false
namespace Go.Proofs.Ytnfbipohajphgaa
open Go.RowKit Qn PoolQ

theorem made_forms {W Q b jobs : Int} {w w' : World} {e : Ending} (h : SysMade W Q b jobs w e w') :
    ∃ gp gm, e = .returned (.tuple #[.agg #[.slice (some ⟨gp, 0, none⟩) 4 4, .slice (some ⟨gm, 0, none⟩) 3 3, .int .i64 1, .int .i64 0, .int .i64 b], .int .i64 0]) ∧
    SysMem w' w'.heap.size (.slice (some ⟨gp, 0, none⟩) 4 4) (.slice (some ⟨gm, 0, none⟩) 3 3) (poolSys W Q b jobs) ∧ Below w.heap.size w w' := h

set_option maxHeartbeats 2000000 in
theorem bound_any (w : World) (W Q b jobs : Int) (h1 : 1 ≤ W) (h2 : W ≤ 256) (h3 : 1 ≤ Q) (h4 : Q ≤ 1024) (hb : b = if Q + W ≤ 64 then Q + W else 64) (hj1 : 0 ≤ jobs) (hj2 : jobs ≤ 1024) :
    Calls Try.prog 7 #[.int .i64 jobs, .agg #[.int .i64 W, .int .i64 Q]] w fun e w' => e = .returned (.tuple #[.int .i64 (bound W b jobs), .int .i64 0]) ∧ Below w.heap.size w w' := by
  have hb1 : 0 ≤ b := by rw [hb]; split <;> omega
  have hb2 : b ≤ 64 := by rw [hb]; split <;> omega
  have HB := Lib.hid hb
  clear hb
  go_enter Try.func7, Try.ntmps7
  go_upto_region 4 with (go_at_call 6; refine (system_any _ W Q b jobs h1 h2 h3 h4 HB.out hj1 hj2).mono ?_; rintro e w1 hmd; obtain ⟨gp, gm, rfl, hsm, hbl⟩ := made_forms hmd; clear hmd hsm; have hz := hbl.size; obtain ⟨hcc, hff⟩ := bcell hbl)
  simp only [heap_ext', Array.size_push] at hz
  have hz2 : w.heap.size < w1.heap.size := by omega
  have HBL := Lib.hid hbl
  clear hbl
  go_upto_region 5 with (go_at_call 10; refine (buffers_ok W Q b _ h1 h2 h3 h4 HB.out).mono ?_; rintro e w2 ⟨rfl, hb2x⟩; obtain ⟨hcc2, hff2⟩ := bcell hb2x)
  go_wp2
  go_ret2
  refine ⟨by simp only [bound]; rfl, ?_⟩
  exact ((((Below.refl _ _).alloc (Nat.le_refl _) _).trans (HBL.out.mono (by simp))).alloc (by omega) _).trans (hb2x.mono (by simp; omega))

theorem awake_any (w : World) : Calls Try.prog 4 #[] w fun e w' => e = .returned (.bool true) ∧ Below w.heap.size w w' := by
  have hbd := fun w => bound_any w 1 1 2 1 (by omega) (by omega) (by omega) (by omega) (by decide) (by omega) (by omega)
  have e1 : bound 1 2 1 = 54 := by decide
  rw [e1] at hbd
  have HB := Lib.hid hbd
  clear hbd e1
  go_enter Try.func4, Try.ntmps4
  go_wp2_with (go_at_call 7; refine (HB.out _).mono ?_; rintro e w1 ⟨rfl, hb1⟩; have HB1 := Lib.hid hb1; clear hb1)
  go_ret
  exact ⟨rfl, HB1.out⟩

theorem PicksAt.below {w w' : World} {B : Nat} {v : Value} {xs : List Int} (h : PicksAt w B v xs) (hb : Below B w w') (B' : Nat) (hB : B ≤ B') : PicksAt w' B' v xs := by
  obtain ⟨h1, h2, a, cap, h3, h4⟩ := h
  refine ⟨h1, h2, a, cap, h3, ?_⟩
  rcases h4 with h4 | ⟨g, o, h5, h6, h7⟩
  · exact .inl h4
  · exact .inr ⟨g, o, h5, by omega, fun j x hx => (hb.cell (p := ⟨g, o + j, none⟩) h6).trans (h7 j x hx)⟩

theorem law_bad (w : World) (j W Q : Int) (pk : Value) (h : ¬ (1 ≤ W ∧ W ≤ 256 ∧ 1 ≤ Q ∧ Q ≤ 1024)) :
    Calls Try.prog 3 #[.int .u8 j, .agg #[.int .i64 W, .int .i64 Q], pk] w fun e w' => e = .returned (.bool true) ∧ Below w.heap.size w w' := by
  have HH := Lib.hid h
  clear h
  go_enter Try.func3, Try.ntmps3
  go_upto_region 3 with (go_at_call 4; refine (awake_any _).mono ?_; rintro e w1 ⟨rfl, hb1⟩; obtain ⟨hcc, hff⟩ := bcell hb1)
  go_wp2_with (go_at_call 5; refine (valid_ref_bad W Q _ HH.out).mono ?_; rintro e w2 ⟨rfl, hb2⟩; have HB2 := Lib.hid hb2; clear hb2)
  go_ret
  exact ⟨rfl, (((Below.refl _ _).alloc (Nat.le_refl _) _).trans (hb1.mono (by simp))).trans (HB2.out.mono (by have := hb1.size; simp at this; omega))⟩

theorem played_forms {W b jobs : Int} {w w' : World} {e : Ending} (h : Played W b jobs w e w') :
    ∃ ea ec n ca cn cc, e = .returned (.agg #[.int .i64 1, .int .i64 0, .slice ea n ec, .int .i64 (W + 3), .slice ca cn cc]) ∧ (n : Int) = bound W b jobs ∧ Below w.heap.size w w' := h

set_option maxHeartbeats 2000000 in
theorem law_good (w : World) (j W Q : Int) (pk : Value) (xs : List Int) (hj1 : 0 ≤ j) (hj2 : j ≤ 255) (h1 : 1 ≤ W) (h2 : W ≤ 256) (h3 : 1 ≤ Q) (h4 : Q ≤ 1024) (hpk : PicksAt w w.heap.size pk xs) :
    Calls Try.prog 3 #[.int .u8 j, .agg #[.int .i64 W, .int .i64 Q], pk] w fun e w' => e = .returned (.bool true) ∧ Below w.heap.size w w' := by
  obtain ⟨b, hb⟩ : ∃ b, b = if Q + W ≤ 64 then Q + W else 64 := ⟨_, rfl⟩
  have hb1 : 1 ≤ b := by rw [hb]; split <;> omega
  have hb2 : b ≤ 64 := by rw [hb]; split <;> omega
  have hj3 : 0 ≤ j % 40 := by omega
  have hj4 : j % 40 ≤ 1024 := by omega
  have hP : Par W Q b (j % 40) := ⟨⟨h1, h2⟩, ⟨h3, h4⟩, ⟨hb1, hb2⟩, ⟨hj3, hj4⟩⟩
  have HB := Lib.hid hb
  have HP := Lib.hid hP
  have HPK := Lib.hid hpk
  clear hb hP hpk
  go_enter Try.func3, Try.ntmps3
  go_upto_region 3 with (go_at_call 4; refine (awake_any _).mono ?_; rintro e w1 ⟨rfl, hb1x⟩; obtain ⟨hcc, hff⟩ := bcell hb1x)
  go_upto_region 5 with (go_at_call 5; refine (valid_ref_ok W Q _ h1 h2 h3 h4).mono ?_; rintro e w2 ⟨rfl, hb2x⟩; obtain ⟨hcc2, hff2⟩ := bcell hb2x)
  go_upto_region 6 with (fail)
  have hz1 : w.heap.size < w1.heap.size := by have := hb1x.size; simp only [heap_ext', Array.size_push] at this; omega
  have hz2 := hb2x.size
  have hw2 : Below w.heap.size w w2 := (((Below.refl _ _).alloc (Nat.le_refl _) _).trans (hb1x.mono (by simp))).trans (hb2x.mono (by omega))
  have hX2 : w2.heap[w.heap.size]? = some (.cells #[.int .i64 W, .int .i64 Q] 23 (0, 0)) := (hb2x.block _ hz1).trans ((hb1x.block _ (by simp)).trans (heap_alloc_new _ _))
  have HW2 := Lib.hid (And.intro hw2 hX2)
  have a0 : w2.cell? ⟨w.heap.size, 0, none⟩ = some (.int .i64 W) := cell_of_row w2 _ 0 _ 23 (0, 0) hX2
  have a1 : w2.cell? ⟨w.heap.size, 1, none⟩ = some (.int .i64 Q) := cell_of_row w2 _ 1 _ 23 (0, 0) hX2
  clear hcc hff hcc2 hff2 hb1x hb2x hw2 hX2
  go_upto_region 7 with (go_at_call 6; refine (system_any _ W Q b (j % 40) h1 h2 h3 h4 HB.out hj3 hj4).mono ?_; rintro e w3 hmd; obtain ⟨gp, gm, rfl, hsm, hbl⟩ := made_forms hmd; clear hmd)
  have hz3 := hbl.size
  have hw3 : Below w.heap.size w w3 := HW2.out.1.trans (hbl.mono (by omega))
  have hX3 := (hbl.block _ (by omega)).trans HW2.out.2
  have b0 : w3.cell? ⟨w.heap.size, 0, none⟩ = some (.int .i64 W) := cell_of_row w3 _ 0 _ 23 (0, 0) hX3
  have b1 : w3.cell? ⟨w.heap.size, 1, none⟩ = some (.int .i64 Q) := cell_of_row w3 _ 1 _ 23 (0, 0) hX3
  have hw4 : Below w.heap.size w (w3.alloc (.cells #[.slice (some ⟨gp, 0, none⟩) 4 4, .slice (some ⟨gm, 0, none⟩) 3 3, .int .i64 1, .int .i64 0, .int .i64 b] 29)) := hw3.alloc (by omega) _
  have hS4 := sys_up hsm ((Below.refl w3.heap.size w3).alloc (Nat.le_refl _) (.cells #[.slice (some ⟨gp, 0, none⟩) 4 4, .slice (some ⟨gm, 0, none⟩) 3 3, .int .i64 1, .int .i64 0, .int .i64 b] 29))
  have hz3' : w.heap.size < w3.heap.size := by omega
  have HW4 := Lib.hid (And.intro hw4 (And.intro hS4 hX3))
  clear hw3 hX3 hw4 hS4 hbl hsm a0 a1 HW2
  go_upto_region 8 with (go_at_call 7; refine (bound_any _ W Q b (j % 40) h1 h2 h3 h4 HB.out hj3 hj4).mono ?_; rintro e w5 ⟨rfl, hb5⟩)
  have hz5 := hb5.size
  have hX5 : w5.heap[w3.heap.size]? = some (.cells #[.slice (some ⟨gp, 0, none⟩) 4 4, .slice (some ⟨gm, 0, none⟩) 3 3, .int .i64 1, .int .i64 0, .int .i64 b] 29 (0, 0)) := (hb5.block _ (by simp)).trans (heap_alloc_new _ _)
  have hY5 : w5.heap[w.heap.size]? = some (.cells #[.int .i64 W, .int .i64 Q] 23 (0, 0)) := (hb5.block _ (by simp; omega)).trans (((World.grownBy_alloc w3 _ none).block _ hz3' (by simp)).trans HW4.out.2.2)
  have hS5 := sys_up HW4.out.2.1 hb5
  have hw5 : Below w.heap.size w w5 := HW4.out.1.trans (hb5.mono (by simp; omega))
  simp only [heap_ext', Array.size_push] at hz5
  have c0 : w5.cell? ⟨w3.heap.size, 0, none⟩ = some (.slice (some ⟨gp, 0, none⟩) 4 4) := cell_of_row w5 _ 0 _ 29 (0, 0) hX5
  have c1 : w5.cell? ⟨w3.heap.size, 1, none⟩ = some (.slice (some ⟨gm, 0, none⟩) 3 3) := cell_of_row w5 _ 1 _ 29 (0, 0) hX5
  have c2 : w5.cell? ⟨w3.heap.size, 2, none⟩ = some (.int .i64 1) := cell_of_row w5 _ 2 _ 29 (0, 0) hX5
  have c3 : w5.cell? ⟨w3.heap.size, 3, none⟩ = some (.int .i64 0) := cell_of_row w5 _ 3 _ 29 (0, 0) hX5
  have c4 : w5.cell? ⟨w3.heap.size, 4, none⟩ = some (.int .i64 b) := cell_of_row w5 _ 4 _ 29 (0, 0) hX5
  have HW5 := Lib.hid (And.intro hw5 (And.intro hS5 (And.intro hX5 hY5)))
  clear hw5 hS5 hX5 hY5 hb5 b0 b1 HW4
  go_upto_region 10 with (go_at_call 8; refine (pool_valid HP.out _ _ _ HW5.out.2.1).mono ?_; rintro e w6 ⟨rfl, hb6⟩)
  have hz6 := hb6.size
  have hX6 := (hb6.block _ (by omega)).trans HW5.out.2.2.1
  have hY6 := (hb6.block _ (by omega)).trans HW5.out.2.2.2
  have hS6 := sys_up HW5.out.2.1 hb6
  have hw6 : Below w.heap.size w w6 := HW5.out.1.trans (hb6.mono (by omega))
  have c0 : w6.cell? ⟨w3.heap.size, 0, none⟩ = some (.slice (some ⟨gp, 0, none⟩) 4 4) := cell_of_row w6 _ 0 _ 29 (0, 0) hX6
  have c1 : w6.cell? ⟨w3.heap.size, 1, none⟩ = some (.slice (some ⟨gm, 0, none⟩) 3 3) := cell_of_row w6 _ 1 _ 29 (0, 0) hX6
  have c2 : w6.cell? ⟨w3.heap.size, 2, none⟩ = some (.int .i64 1) := cell_of_row w6 _ 2 _ 29 (0, 0) hX6
  have c3 : w6.cell? ⟨w3.heap.size, 3, none⟩ = some (.int .i64 0) := cell_of_row w6 _ 3 _ 29 (0, 0) hX6
  have c4 : w6.cell? ⟨w3.heap.size, 4, none⟩ = some (.int .i64 b) := cell_of_row w6 _ 4 _ 29 (0, 0) hX6
  have HPL := Lib.hid (play_any HP.out hS6 pk xs (HPK.out.below hw6 _ hw6.size))
  have HW6 := Lib.hid (And.intro hw6 hY6)
  clear hw6 hS6 hX6 hY6 hb6 HW5
  go_upto_region 11 with (go_at_call 9; refine (HPL.out).mono ?_; rintro e w7 hpl; obtain ⟨ea, ec, n, ca, cn, cc, rfl, hn, hb7⟩ := played_forms hpl; clear hpl)
  have hz7 := hb7.size
  have hY7 := (hb7.block _ (by omega)).trans HW6.out.2
  have d0 : w7.cell? ⟨w.heap.size, 0, none⟩ = some (.int .i64 W) := cell_of_row w7 _ 0 _ 23 (0, 0) hY7
  have hw7 : Below w.heap.size w w7 := HW6.out.1.trans (hb7.mono (by omega))
  have hz8 : w.heap.size < w7.heap.size := by omega
  have hnb : ((n : Int) == bound W b (j % 40)) = true := by rw [hn]; simp
  have HW7 := Lib.hid hw7
  clear hY7 hw7 hb7 hn c0 c1 c2 c3 c4
  go_wp2
  go_ret
  exact ⟨rfl, HW7.out.alloc (by omega) _⟩

end Go.Proofs.Ytnfbipohajphgaa
