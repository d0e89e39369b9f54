/- Walks: a pool's Valid, Buffers, an instruction. -/
import Derived.Test.YtnfbipohajphgaaChecked
import Derived.Test.YtnfbipohajphgaaMm
import Derived.WalkLawsBesides
import Derived.Lib.Hide
import Derived.LoopTactic
set_option linter.unusedVariables false
set_option linter.unusedSimpArgs false
namespace Go.Proofs.Ytnfbipohajphgaa
open Go.RowKit Qn

theorem bcell {W W1 : World} (hb : Below W.heap.size W W1) : (∀ b o, b < W.heap.size → W1.cell? ⟨b, o, none⟩ = W.cell? ⟨b, o, none⟩) ∧ (∀ b o, b < W.heap.size → W1.frozen? ⟨b, o, none⟩ = W.frozen? ⟨b, o, none⟩) :=
  ⟨fun b o h => hb.cell (p := ⟨b, o, none⟩) h, fun b o h => hb.frozen (p := ⟨b, o, none⟩) h⟩

theorem valid_ref_ok (W Q : Int) (w : World) (h1 : 1 ≤ W) (h2 : W ≤ 256) (h3 : 1 ≤ Q) (h4 : Q ≤ 1024) :
    Calls Try.prog 5 #[.agg #[.int .i64 W, .int .i64 Q]] w fun e w' => e = .returned (.int .i64 0) ∧ Below w.heap.size w w' := by
  go_enter Try.func5, Try.ntmps5
  go_wp2
  go_ret
  exact ⟨rfl, (Below.refl _ _).alloc (Nat.le_refl _) _⟩

def SomeBad (w : World) (e : Ending) (w' : World) : Prop := e = .returned (.int .i64 150) ∧ Below w.heap.size w w'

theorem valid_ref_bad (W Q : Int) (w : World) (h : ¬ (1 ≤ W ∧ W ≤ 256 ∧ 1 ≤ Q ∧ Q ≤ 1024)) :
    Calls Try.prog 5 #[.agg #[.int .i64 W, .int .i64 Q]] w (SomeBad w) := by
  by_cases h1 : W < 1
  · go_enter Try.func5, Try.ntmps5
    go_wp2
    go_ret
    exact ⟨rfl, (Below.refl _ _).alloc (Nat.le_refl _) _⟩
  · by_cases h2 : 256 < W
    · go_enter Try.func5, Try.ntmps5
      go_wp2
      go_ret
      exact ⟨rfl, (Below.refl _ _).alloc (Nat.le_refl _) _⟩
    · by_cases h3 : Q < 1
      · clear h
        go_enter Try.func5, Try.ntmps5
        go_wp2
        go_ret
        exact ⟨rfl, (Below.refl _ _).alloc (Nat.le_refl _) _⟩
      · have h4 : 1024 < Q := by omega
        clear h
        go_enter Try.func5, Try.ntmps5
        go_wp2
        go_ret
        exact ⟨rfl, (Below.refl _ _).alloc (Nat.le_refl _) _⟩

theorem valid_ok (W Q : Int) (w : World) (h1 : 1 ≤ W) (h2 : W ≤ 256) (h3 : 1 ≤ Q) (h4 : Q ≤ 1024) :
    Calls Try.prog 18 #[.agg #[.int .i64 W, .int .i64 Q]] w fun e w' => e = .returned (.int .i64 0) ∧ Below w.heap.size w w' := by
  go_enter Try.func18, Try.ntmps18
  go_wp2
  go_ret
  exact ⟨rfl, (Below.refl _ _).alloc (Nat.le_refl _) _⟩

theorem buffers_ok (W Q b : Int) (w : World) (h1 : 1 ≤ W) (h2 : W ≤ 256) (h3 : 1 ≤ Q) (h4 : Q ≤ 1024) (hb : b = if Q + W ≤ 64 then Q + W else 64) :
    Calls Try.prog 10 #[.agg #[.int .i64 W, .int .i64 Q]] w fun e w' => e = .returned (.tuple #[.int .i64 b, .int .i64 0]) ∧ Below w.heap.size w w' := by
  by_cases hc : Q + W ≤ 64
  · rw [if_pos hc] at hb
    subst hb
    go_enter Try.func10, Try.ntmps10
    go_wp2_with (go_at_call 18; refine (valid_ok W Q _ h1 h2 h3 h4).mono ?_; rintro e w1 ⟨rfl, hb1⟩; obtain ⟨hcc, hff⟩ := bcell hb1)
    go_ret2
    exact ⟨rfl, ((Below.refl _ _).alloc (Nat.le_refl _) _).trans (hb1.mono (by simp))⟩
  · rw [if_neg hc] at hb
    subst hb
    go_enter Try.func10, Try.ntmps10
    go_wp2_with (go_at_call 18; refine (valid_ok W Q _ h1 h2 h3 h4).mono ?_; rintro e w1 ⟨rfl, hb1⟩; obtain ⟨hcc, hff⟩ := bcell hb1)
    go_ret2
    exact ⟨rfl, ((Below.refl _ _).alloc (Nat.le_refl _) _).trans (hb1.mono (by simp))⟩

def instOf (op : Int) (l : List Int) : Value := .agg #[.int .i64 op, .int .i64 (l[0]?.getD 0), .int .i64 (l[1]?.getD 0), .int .i64 (l[2]?.getD 0)]

theorem inst_take {l : List Int} {k : Nat} {x : Int} (h : l[k]? = some x) : l.take (k + 1) = l.take k ++ [x] := by
  rw [List.take_add_one, h]; rfl
theorem inst_app0 {m : List Int} {x : Int} {j : Nat} (h : j < m.length) : (m ++ [x])[j]?.getD 0 = m[j]?.getD 0 := by
  rw [List.getElem?_append_left h]
theorem inst_appl {m : List Int} {x : Int} {j : Nat} (h : m.length = j) : (m ++ [x])[j]?.getD 0 = x := by
  subst h; simp
theorem inst_far {m : List Int} {j : Nat} (h : m.length ≤ j) : m[j]?.getD 0 = 0 := by
  rw [List.getElem?_eq_none h]; rfl

set_option maxRecDepth 8000 in
/-- An instruction out of its fields. -/
theorem inst_any (w : World) (op : Int) (l : List Int) (hl : l.length ≤ 3) (v : Value) (hv : l = [] ∧ v = .slice none 0 0 ∨ ∃ g, v = .slice (some ⟨g, 0, none⟩) l.length l.length ∧ g < w.heap.size ∧ ∀ j x, l[j]? = some x → w.cell? ⟨g, j, none⟩ = some (.int .i64 x)) :
    Calls Try.prog 11 #[.int .i64 op, v] w fun e w' => e = .returned (instOf op l) ∧ Below w.heap.size w w' := by
  have hv' : ∃ a cap, v = .slice a l.length cap ∧ ∀ j x, l[j]? = some x → ∃ g, a = some ⟨g, 0, none⟩ ∧ g < w.heap.size ∧ w.cell? ⟨g, j, none⟩ = some (.int .i64 x) := by
    rcases hv with ⟨rfl, rfl⟩ | ⟨g, rfl, hg, hc⟩
    · exact ⟨none, 0, rfl, fun j x hx => by simp at hx⟩
    · exact ⟨_, _, rfl, fun j x hx => ⟨g, rfl, hg, hc j x hx⟩⟩
  obtain ⟨a, cap, rfl, hc⟩ := hv'
  have HC := Lib.hid hc
  clear hv hc
  generalize hn : l.length = n at *
  have HN := Lib.hid hn
  clear hn
  go_enter Try.func11, Try.ntmps11
  go_wp2
  go_loopw [12] (fun i wr => ∃ (k : Nat) (y0 y1 y2 : Int), (k = 0 ∧ i = .int .i64 0 ∨ k = 1 ∧ i = .int .i64 1 ∨ k = 2 ∧ i = .int .i64 2 ∨ k = 3 ∧ i = .int .i64 3) ∧ k ≤ n ∧ wr = (w.alloc (.cells #[.int .i64 0, .int .i64 0, .int .i64 0, .int .i64 0] 43)).alloc (.cells #[.int .i64 op, .int .i64 y0, .int .i64 y1, .int .i64 y2] 43) ∧
      y0 = ((l.take k)[0]?.getD 0) ∧ y1 = ((l.take k)[1]?.getD 0) ∧ y2 = ((l.take k)[2]?.getD 0)) (fun i _ => n - (intOf i).toNat)
  case atStart => exact ⟨0, 0, 0, 0, .inl ⟨rfl, rfl⟩, by omega, rfl, by simp, by simp, by simp⟩
  case round =>
    obtain ⟨k, y0, y1, y2, hki, hk, rfl, e0, e1, e2⟩ := hrel
    have HE := Lib.hid (And.intro e0 (And.intro e1 e2))
    have HT := Lib.hid (show (l.take k).length = k from by rw [List.length_take, HN.out]; omega)
    clear e0 e1 e2
    by_cases hlt : k < n
    · have hkl : k < l.length := by rw [HN.out]; exact hlt
      have hx : l[k]? = some l[k] := List.getElem?_eq_getElem hkl
      obtain ⟨g, rfl, hg, hcell⟩ := HC.out k _ hx
      have HX := Lib.hid hx
      generalize l[k] = x at *
      clear hx hkl HC
      rcases hki with ⟨rfl, rfl⟩ | ⟨rfl, rfl⟩ | ⟨rfl, rfl⟩ | ⟨rfl, rfl⟩
      · go_wp2
        go_roundw
        case rel => exact ⟨1, x, y1, y2, by simp, by omega, rfl, by rw [inst_take HX.out]; simp, by rw [HE.out.2.1]; rw [inst_take HX.out]; simp, by rw [HE.out.2.2, inst_take HX.out]; simp⟩
        case measure => simp [intOf]; omega
      · go_wp2
        go_roundw
        case rel => exact ⟨2, y0, x, y2, by simp, by omega, rfl, by rw [HE.out.1, inst_take HX.out, inst_app0 (by rw [HT.out]; omega)], by rw [inst_take HX.out, inst_appl (by rw [HT.out])], by rw [HE.out.2.2, inst_take HX.out, inst_far (by rw [HT.out]; omega), inst_far (by simp [HT.out])]⟩
        case measure => simp [intOf]; omega
      · go_wp2
        go_roundw
        case rel => exact ⟨3, y0, y1, x, by simp, by omega, rfl, by rw [HE.out.1, inst_take HX.out, inst_app0 (by rw [HT.out]; omega)], by rw [HE.out.2.1, inst_take HX.out, inst_app0 (by rw [HT.out]; omega)], by rw [inst_take HX.out, inst_appl (by rw [HT.out])]⟩
        case measure => simp [intOf]; omega
      · omega
    · have e : k = n := by omega
      have HK := Lib.hid e
      clear e
      have hfin : ∀ w' : World, Below w.heap.size w w' → Ending.returned (.agg #[.int .i64 op, .int .i64 y0, .int .i64 y1, .int .i64 y2]) = .returned (instOf op l) ∧ Below w.heap.size w w' := by
        intro w' hb
        have e1 : l.take k = l := List.take_of_length_le (by rw [HN.out, HK.out]; exact Nat.le_refl _)
        obtain ⟨q0, q1, q2⟩ := HE.out
        rw [e1] at q0 q1 q2
        exact ⟨by rw [q0, q1, q2]; rfl, hb⟩
      have HF := Lib.hid hfin
      clear hfin
      rcases hki with ⟨rfl, rfl⟩ | ⟨rfl, rfl⟩ | ⟨rfl, rfl⟩ | ⟨rfl, rfl⟩
      all_goals
        go_wp2
        refine bodyPost_ret (v := .agg #[.int .i64 op, .int .i64 y0, .int .i64 y1, .int .i64 y2]) (by simp [results, Try.results11, go_sem]) rfl ?_
        exact HF.out _ (((Below.refl _ _).alloc (Nat.le_refl _) _).alloc (by simp) _)
end Go.Proofs.Ytnfbipohajphgaa
