/- Walks: have all ended; who can go on; how a run ends here. -/
import Derived.Test.YtnfbipohajphgaaWb
set_option linter.unusedVariables false
set_option linter.unusedSimpArgs false
namespace Go.Proofs.Ytnfbipohajphgaa
open Go.RowKit Qn PoolQ

theorem info3 : (Try.prog.info? 3).map (fun i => (i.zero, i.size, i.bytes)) = some (some (.int .i64 0), 1, 8) := by kernel_rfl

variable {w : World} {B bp : Nat} {pv mv : Value} {S : Psys} {st : St} {C : Comp}

def allEnded (rs : List Rn) : Bool := rs.all (·.ended)

theorem all_take_false (rs : List Rn) (k : Nat) (hk : k < rs.length) (he : (rs.getD k default).ended = false) : allEnded rs = false := by
  unfold allEnded
  rw [List.all_eq_false]
  exact ⟨rs[k], List.getElem_mem hk, by simpa [List.getD, List.getElem?_eq_getElem hk] using he⟩

theorem over_any (h : Mach w B bp pv mv S st C) (hn : st.rs.length ≤ 1000000) (hpos : 0 < st.rs.length) :
    Calls Try.prog 22 #[.pointer (some ⟨bp, 0, none⟩)] w fun e w' => e = .returned (.bool (allEnded st.rs)) ∧ w = w' := by
  obtain ⟨rb, ro, rc, hrv, hrb, hrB⟩ := h.rform (by omega)
  have c5 := (h.wcell 5 _ rfl).trans (by rw [hrv])
  have hcell := fun k hk => h.rcell hrv k hk 10 (.bool (st.rs.getD k default).ended) (by
    obtain ⟨p, a, x0, x1, x2, x3, x4, x5, x6, x7, e, hr⟩ := h.runner8 k hk
    rw [hr]; rfl)
  clear h hrv
  have HA : Hid (∀ k, k < st.rs.length → w.cell? ⟨rb, ro + k * 11 + 10, none⟩ = some (.bool (st.rs.getD k default).ended)) := hcell
  clear hcell
  go_enter Try.func22, Try.ntmps22
  go_wp2
  go_loop [3] (fun i => ∃ k : Nat, k ≤ st.rs.length ∧ i = .int .i64 k ∧ ∀ j, j < k → (st.rs.getD j default).ended = true) (fun i => st.rs.length - (intOf i).toNat)
  case atStart => exact ⟨0, by omega, rfl, fun j hj => by omega⟩
  case round =>
    obtain ⟨k, hk, rfl, hj⟩ := hrel
    have HJ := Lib.hid hj
    clear hj
    by_cases hlt : k < st.rs.length
    · have hc := HA.out k hlt
      generalize hb : (st.rs.getD k default).ended = b at hc
      have HB := Lib.hid hb
      clear hb
      cases b with
      | true =>
        go_wp2
        go_round
        case rel => exact ⟨k + 1, by omega, by go_num, fun j hj => by
          by_cases e : j = k
          · rw [e]; exact HB.out
          · exact HJ.out j (by omega)⟩
        case measure => simp [intOf]; omega
      | false =>
        go_wp2
        go_ret
        rw [all_take_false st.rs k hlt HB.out]
        exact ⟨rfl, rfl⟩
    · have e : k = st.rs.length := by omega
      go_wp2
      go_ret
      have : allEnded st.rs = true := by
        unfold allEnded
        rw [List.all_eq_true]
        intro r hr
        obtain ⟨i, hi, rfl⟩ := List.mem_iff_getElem.1 hr
        have := HJ.out i (by omega)
        simpa [List.getD, List.getElem?_eq_getElem hi] using this
      rw [this]
      exact ⟨rfl, rfl⟩

set_option maxRecDepth 100000 in
theorem end_any (h : Mach w B bp pv mv S st C) (hn : st.rs.length ≤ 1000000) (hpos : 0 < st.rs.length) (m : Nat) (hm : m ≤ 1000000) (hev : st.ev < 40000) :
    Calls Try.prog 15 #[.pointer (some ⟨bp, 0, none⟩), .int .i64 m] w fun e w' => e = .returned (.int .i64 (if allEnded st.rs = true then 1 else if m = 0 then 2 else 0)) ∧ w = w' := by
  obtain ⟨ea, ec, hev2, -⟩ := h.ev.isSlice
  have c11 := (h.wcell 11 _ rfl).trans (by rw [hev2])
  generalize hA : allEnded st.rs = b
  have H := fun w => over_any (w := w) (B := B) (bp := bp) (pv := pv) (mv := mv) (S := S) (st := st) (C := C)
  have hO := over_any h hn hpos
  rw [hA] at hO
  have HO := Lib.hid hO
  clear hO H hA
  cases b with
  | true =>
    go_enter Try.func15, Try.ntmps15
    go_wp2_with (go_at_call 22; refine (HO.out).mono ?_; rintro e w' ⟨rfl, rfl⟩)
    go_ret
    exact ⟨by simp, rfl⟩
  | false =>
    have hg : decide ((40000 : Int) ≤ (st.ev : Int)) = false := by simp; omega
    clear hev
    by_cases hm0 : m = 0
    · subst hm0
      go_enter Try.func15, Try.ntmps15
      go_wp2_with (go_at_call 22; refine (HO.out).mono ?_; rintro e w' ⟨rfl, rfl⟩)
      go_ret
      exact ⟨by simp, rfl⟩
    · have hb : ((m : Int) == 0) = false := by simp; omega
      go_enter Try.func15, Try.ntmps15
      go_wp2_with (go_at_call 22; refine (HO.out).mono ?_; rintro e w' ⟨rfl, rfl⟩)
      go_ret
      exact ⟨by simp [hm0], rfl⟩

/-- Those that can go on, of the first n. -/
def readyN (S : Psys) (st : St) (n : Nat) : List Nat := (List.range n).filter fun k => can S st (st.rs.getD k default)

theorem readyN_succ (S : Psys) (st : St) (n : Nat) : readyN S st (n + 1) = readyN S st n ++ if can S st (st.rs.getD n default) = true then [n] else [] := by
  unfold readyN
  rw [List.range_succ, List.filter_append]
  congr 1
  by_cases h : can S st (st.rs.getD n default) = true
  · rw [if_pos h, List.filter_cons, if_pos h, List.filter_nil]
  · rw [if_neg h, List.filter_cons, if_neg h, List.filter_nil]
theorem readyN_le (S : Psys) (st : St) (n : Nat) : (readyN S st n).length ≤ n := by
  unfold readyN
  exact Nat.le_trans (List.length_filter_le _ _) (by simp)

def natI (k : Nat) : Value := .int .i64 (k : Int)

def AllOk (S : Psys) (st : St) : Prop := ∀ k, k < st.rs.length → (st.rs.getD k default).ended = false → ∃ l aa i, RunOk S st (st.rs.getD k default) l aa i

set_option maxHeartbeats 2000000 in
theorem ready_any (h : Mach w B bp pv mv S st C) (hn : st.rs.length ≤ 1000000) (hpos : 0 < st.rs.length) (hl3 : st.shut.length ≤ 64) (hl4 : st.held.length ≤ 64) (hl5 : st.groups.length ≤ 64) (hok : AllOk S st) :
    Calls Try.prog 14 #[.pointer (some ⟨bp, 0, none⟩)] w fun e w' => ∃ v, e = .returned v ∧ OwnS w' w.heap.size 3 1 v (readyN S st st.rs.length).length ((readyN S st st.rs.length).map natI) ∧ Below w.heap.size w w' := by
  obtain ⟨i0, hi, hz0, hz1, hz2⟩ := info_parts info3
  obtain ⟨rb, ro, rc, hrv, hrb, hrB⟩ := h.rform (by omega)
  have c5 := (h.wcell 5 _ rfl).trans (by rw [hrv])
  have hbp := h.lt
  have HM := Lib.hid h
  have HK := Lib.hid hok
  clear h hrv hok
  generalize hB0 : w.heap.size = B0 at *
  have HB0 := Lib.hid hB0
  clear hB0
  go_enter Try.func14, Try.ntmps14
  go_wp2
  go_loopw [3, 4] (fun v i wr => ∃ k : Nat, k ≤ st.rs.length ∧ i = .int .i64 k ∧ OwnS wr B0 3 1 v (readyN S st k).length ((readyN S st k).map natI) ∧ Below B0 w wr) (fun _ i _ => st.rs.length - (intOf i).toNat)
  case atStart => exact ⟨0, by omega, rfl, OwnS.nil _ _ _ _, Below.refl _ _⟩
  case round =>
    obtain ⟨k, hk, rfl, hown, hbel⟩ := hrel
    have hc5 : wr.cell? ⟨bp, 5, none⟩ = some (.slice (some ⟨rb, ro, none⟩) st.rs.length rc) := (hbel.cell (p := ⟨bp, 5, none⟩) hbp).trans c5
    have hM' : Mach wr B bp pv mv S st C := HM.out.below (by rw [HB0.out]; exact hbel)
    have HM' := Lib.hid hM'
    clear hM'
    have hsz : B0 ≤ wr.heap.size := by have := hbel.size; rw [HB0.out] at this; exact this
    by_cases hlt : k < st.rs.length
    · have hcan := can_any HM'.out k hlt hn hl3 hl4 hl5 (HK.out k hlt)
      have hsu := readyN_succ S st k
      have hle := readyN_le S st k
      generalize hb : can S st (st.rs.getD k default) = b at hcan hsu
      have HC := Lib.hid hcan
      clear hcan hb
      cases b with
      | true =>
        simp only [if_true] at hsu
        have HS := Lib.hid hsu
        clear hsu
        go_wp2_with (first
          | (go_at_call 21; refine (HC.out).mono ?_; rintro e w1 ⟨rfl, hb1⟩)
          | (at_builtin; refine wpList_append_ownS rfl (.tmp 17) (.tmp 19) 24 rfl i0 (.int .i64 0) 8 Try.underlying24 hi hz0 hz1 hz2 rfl (by decide) rfl ((OwnS.below hown hb1).alloc _) ⟨_, 0, none⟩ 1 1 [.int .i64 k] rfl rfl ?c1 ?c2 ?c3 ?c4 ?c5 ?_))
        case c1 => exact new_one _ _ _
        case c2 => intro u hu; simp at hu; subst hu; rfl
        case c3 => unfold maxLen; omega
        case c4 => omega
        case c5 => have := hb1.size; simp; omega
        intro v' w2 hown' hgrow hfr
        have HH := Lib.hid (And.intro hown' (And.intro hgrow (And.intro hb1 hown)))
        clear hown' hgrow hfr hb1 hown
        go_wp2
        go_roundw
        case rel =>
          obtain ⟨q1, q2, q3, q4⟩ := HH.out
          refine ⟨k + 1, by omega, by go_num, ?_, ?_⟩
          · rw [HS.out]
            simpa [natI] using q1
          · have hb0 : Below B0 w w1 := hbel.trans (q3.mono hsz)
            exact (hb0.alloc (by have := q3.size; omega) _).grown q2 (by have := q3.size; simp; omega) (fun g hg => (OwnS.lt q4 hg).1)
        case measure => simp [intOf]; omega
      | false =>
        simp only [Bool.false_eq_true, if_false, List.append_nil] at hsu
        have HS := Lib.hid hsu
        clear hsu
        have HO := Lib.hid hown
        clear hown
        go_wp2_with (go_at_call 21; refine (HC.out).mono ?_; rintro e w1 ⟨rfl, hb1⟩)
        go_roundw
        case rel => exact ⟨k + 1, by omega, by go_num, by rw [HS.out]; exact OwnS.below HO.out hb1, hbel.trans (hb1.mono hsz)⟩
        case measure => simp [intOf]; omega
    · have e : k = st.rs.length := by omega
      subst e
      have HO := Lib.hid (And.intro hown hbel)
      clear hown hbel
      go_wp2
      go_ret
      exact ⟨_, rfl, HO.out.1, HO.out.2⟩
end Go.Proofs.Ytnfbipohajphgaa
