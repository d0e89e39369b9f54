/- Walk: the rest of a division. -/
import Derived.Test.YtnfbipohajphgaaWg
import Derived.WalkLawsBesides
set_option linter.unusedVariables false
set_option linter.unusedSimpArgs false
namespace Go.Proofs.Ytnfbipohajphgaa
open Go.RowKit Qn PoolQ

theorem tmod_bounds (n m : Int) (hm : 0 < m) : -m < n.tmod m ∧ n.tmod m < m := by
  rcases Int.le_total 0 n with h | h
  · rw [Int.tmod_eq_emod_of_nonneg h]
    have a := Int.emod_nonneg n (show m ≠ 0 by omega)
    have b := Int.emod_lt_of_pos n hm
    omega
  · have e : n.tmod m = -((-n).tmod m) := by rw [Int.neg_tmod]; omega
    rw [e, Int.tmod_eq_emod_of_nonneg (show 0 ≤ -n by omega)]
    have a := Int.emod_nonneg (-n) (show m ≠ 0 by omega)
    have b := Int.emod_lt_of_pos (-n) hm
    omega

theorem rest_any (n m : Int) (w : World) (hn : -9223372036854775808 ≤ n ∧ n ≤ 9223372036854775807) (hm : 0 < m) (hm2 : m ≤ 1000000) :
    Calls Try.prog 16 #[.int .i64 n, .int .i64 m] w fun e w' => e = .returned (.int .i64 (rest n m)) ∧ w = w' := by
  obtain ⟨h1, h2⟩ := hn
  have hb := tmod_bounds n m hm
  have hb1 : -1000000 < n.tmod m := by omega
  have hb2 : n.tmod m < 1000000 := by omega
  have hne : ¬ m = 0 := by omega
  clear hb
  go_enter Try.func16, Try.ntmps16
  go_wp2
  all_goals go_ret
  · exact ⟨by simp [rest, *], rfl⟩
  · rename_i h0
    have e : rest n m = n.tmod m := by rw [rest, if_neg (by omega)]
    rw [e]
    exact ⟨rfl, rfl⟩
end Go.Proofs.Ytnfbipohajphgaa
