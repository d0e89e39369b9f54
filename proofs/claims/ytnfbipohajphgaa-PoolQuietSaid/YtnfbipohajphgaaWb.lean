/- Walks: set, can, over, Ready, end of the reference's machine. -/
import Derived.Test.YtnfbipohajphgaaChecked
import Derived.Test.YtnfbipohajphgaaMa
import Derived.WalkKit
import Derived.Deep.QuietTactic
import Derived.BigQuiet
import Derived.WalkLawsBesides
import Derived.Deep.RegionHeld3
import Derived.Deep.Cut
import Derived.Lib.Hide
set_option linter.unusedVariables false
set_option linter.unusedSimpArgs false
namespace Go.Proofs.Ytnfbipohajphgaa
open Go.RowKit Qn PoolQ


theorem set_raw (w : World) (bp rb ro rc nr k g : Nat) (x : Int) (old : Value)
    (c5 : w.cell? ⟨bp, 5, none⟩ = some (.slice (some ⟨rb, ro, none⟩) nr rc)) (hk : k < nr) (hnr : nr ≤ 1000000) (hg : g < 8)
    (co : w.cell? ⟨rb, ro + k * 11 + 2 + g, none⟩ = some old) (cf : w.frozen? ⟨rb, ro + k * 11 + 2 + g, none⟩ = false) :
    Calls Try.prog 26 #[.pointer (some ⟨bp, 0, none⟩), .int .i64 k, .int .i64 g, .int .i64 x] w fun e w' => e = .returned (.tuple #[]) ∧ w' = w.setCell ⟨rb, ro + k * 11 + 2 + g, none⟩ (.int .i64 x) := by
  go_enter Try.func26, Try.ntmps26
  go_wp2
  go_end0
  exact ⟨rfl, rfl⟩

theorem belowN {B : Nat} {a w : World} (h : Below B a w) (n : Nat) : Below B a (w.drewN n) := ⟨h.os, h.tape, h.output, h.size, h.block⟩

variable {w : World} {B bp : Nat} {pv mv : Value} {S : Psys} {st : St} {C : Comp}

/-- What an instruction must be that the machine may come to. -/
structure InsOk (S : Psys) (st : St) (i : Ins) : Prop where
  op8 : i.op ≠ 8
  op9 : i.op ≠ 9
  opr : 1 ≤ i.op ∧ i.op ≤ 16
  chan : i.op = 5 ∨ i.op = 6 ∨ i.op = 7 → 0 ≤ i.a ∧ i.a.toNat < st.shut.length ∧ i.a.toNat < st.held.length ∧ i.a.toNat < S.rooms.length
  group : i.op = 10 ∨ i.op = 11 → 0 ≤ i.a ∧ i.a.toNat < st.groups.length
  c : -1000000 ≤ i.c ∧ i.c ≤ 1000000
  ra : i.op = 1 ∨ i.op = 2 ∨ i.op = 3 ∨ i.op = 12 ∨ i.op = 13 → 0 ≤ i.a ∧ i.a < 8
  rb : i.op = 2 ∨ i.op = 3 ∨ i.op = 5 ∨ i.op = 6 ∨ i.op = 7 ∨ i.op = 12 ∨ i.op = 13 ∨ i.op = 15 → 0 ≤ i.b ∧ i.b < 8
  prog : i.op = 14 → 0 ≤ i.a ∧ i.a.toNat < S.progs.length
  cells : i.op = 12 ∨ i.op = 13 → 0 < st.cells.length

structure RunOk (S : Psys) (st : St) (r : Rn) (l : List Ins) (at_ : Nat) (i : Ins) : Prop where
  prog : S.progs[r.prog]? = some l
  hat : r.at_ = at_
  ins : l[at_]? = some i
  ok : InsOk S st i

theorem RunOk.insOf {r : Rn} {l : List Ins} {at_ : Nat} {i : Ins} (h : RunOk S st r l at_ i) : insOf S r = i := by
  simp [PoolQ.insOf, h.prog, h.hat, h.ins]

theorem can_ended (h : Mach w B bp pv mv S st C) (k : Nat) (hk : k < st.rs.length) (hn : st.rs.length ≤ 1000000) (he : (st.rs.getD k default).ended = true) :
    Calls Try.prog 21 #[.pointer (some ⟨bp, 0, none⟩), .int .i64 k] w fun e w' => e = .returned (.bool false) ∧ Below w.heap.size w w' := by
  obtain ⟨rb, ro, rc, hrv, hrb, hrB⟩ := h.rform (by omega)
  obtain ⟨p, a, x0, x1, x2, x3, x4, x5, x6, x7, e, hr⟩ := h.runner8 k hk
  rw [hr] at he
  simp only at he
  subst he
  have c5 := (h.wcell 5 _ rfl).trans (by rw [hrv])
  obtain ⟨k0, k1, k2, k3, k4, k5, k6, k7, k8, k9, k10⟩ := h.rall hrv k hk hr
  generalize hN : st.rs.length = nr at *
  clear hN hr hrv
  go_enter Try.func21, Try.ntmps21
  go_wp2
  go_ret
  exact ⟨rfl, (Below.refl _ _).alloc (Nat.le_refl _) _⟩

set_option maxHeartbeats 1000000 in
theorem can_plain (h : Mach w B bp pv mv S st C) (k : Nat) (hk : k < st.rs.length) (hn : st.rs.length ≤ 1000000) (he : (st.rs.getD k default).ended = false) (l : List Ins) (aa : Nat) (i : Ins) (hok : RunOk S st (st.rs.getD k default) l aa i)
    (h5 : (i.op == 5) = false) (h6 : (i.op == 6) = false) (h8 : (i.op == 8) = false) (h11 : (i.op == 11) = false) :
    Calls Try.prog 21 #[.pointer (some ⟨bp, 0, none⟩), .int .i64 k] w fun e w' => e = .returned (.bool true) ∧ Below w.heap.size w w' := by
  obtain ⟨rb, ro, rc, hrv, hrb, hrB⟩ := h.rform (by omega)
  obtain ⟨p, a, x0, x1, x2, x3, x4, x5, x6, x7, e, hr⟩ := h.runner8 k hk
  rw [hr] at he hok
  simp only at he
  subst he
  obtain ⟨hp, ha, hi, hiok⟩ := hok
  simp only at hp ha
  subst ha
  have c5 := (h.wcell 5 _ rfl).trans (by rw [hrv])
  obtain ⟨k0, k1, k2, k3, k4, k5, k6, k7, k8, k9, k10⟩ := h.rall hrv k hk hr
  obtain ⟨pb, np, cp, ib, ni, ci, c0, pp, hnp, p0, pa, hni, i0, i1, i2, i3, pB, iB, -⟩ := h.insAt p aa l i hp hi
  have hbp := h.lt
  have hBs := h.bpB
  have lp : pb < w.heap.size := by omega
  have li : ib < w.heap.size := by omega
  generalize hN : st.rs.length = nr at *
  obtain ⟨op, a, b, c⟩ := i
  simp only at h5 h6 h8 h11 i0 i1 i2 i3
  clear hN hr hrv h hp hi hiok hBs
  go_enter Try.func21, Try.ntmps21
  go_upto_region 4 with (fail)
  go_region
  all_goals go_wp2
  all_goals go_ret
  all_goals exact ⟨rfl, (((Below.refl _ _).alloc (Nat.le_refl _) _).alloc (by simp) _).drew⟩


set_option maxHeartbeats 2000000 in
theorem can_send_shut (h : Mach w B bp pv mv S st C) (k : Nat) (hk : k < st.rs.length) (hn : st.rs.length ≤ 1000000) (he : (st.rs.getD k default).ended = false) (l : List Ins) (aa : Nat) (i : Ins) (hok : RunOk S st (st.rs.getD k default) l aa i)
    (h5 : i.op = 5 ∨ i.op = 6) (hs : shutAt st i.a = true) (hl3 : st.shut.length ≤ 64) :
    Calls Try.prog 21 #[.pointer (some ⟨bp, 0, none⟩), .int .i64 k] w fun e w' => e = .returned (.bool true) ∧ Below w.heap.size w w' := by
  obtain ⟨rb, ro, rc, hrv, hrb, hrB⟩ := h.rform (by omega)
  obtain ⟨p, a, x0, x1, x2, x3, x4, x5, x6, x7, e, hr⟩ := h.runner8 k hk
  rw [hr] at he hok
  simp only at he
  subst he
  obtain ⟨hp, ha, hi, hiok⟩ := hok
  simp only at hp ha
  subst ha
  have c5 := (h.wcell 5 _ rfl).trans (by rw [hrv])
  obtain ⟨k0, k1, k2, k3, k4, k5, k6, k7, k8, k9, k10⟩ := h.rall hrv k hk hr
  obtain ⟨pb, np, cp, ib, ni, ci, c0, pp, hnp, p0, pa, hni, i0, i1, i2, i3, pB, iB, -⟩ := h.insAt p aa l i hp hi
  have hbp := h.lt
  have hBs := h.bpB
  have lp : pb < w.heap.size := by omega
  have li : ib < w.heap.size := by omega
  generalize hN : st.rs.length = nr at *
  obtain ⟨op, a, b, c⟩ := i
  simp only at h5 hs i0 i1 i2 i3
  obtain ⟨a0, a1, a2, a3⟩ := hiok.chan (by rcases h5 with e | e <;> simp [e])
  simp only at a0 a1 a2 a3
  obtain ⟨an, rfl⟩ := Int.eq_ofNat_of_zero_le a0
  simp only [Int.toNat_natCast] at a1 a2 a3
  obtain ⟨sb, so, sc, hsv, hsb, -⟩ := h.sform (by omega)
  have c7 := (h.wcell 7 _ rfl).trans (by rw [hsv])
  have s0 := h.scell hsv an a1
  simp only [shutAt, Int.toNat_natCast] at hs
  rw [hs] at s0
  have b0 : (0 : Int) ≤ (an : Int) := by omega
  have b1 : (an : Int) < (st.shut.length : Int) := by omega
  generalize hM : st.shut.length = ns at *
  clear hN hr hrv h hp hi hiok hBs a2 a3 hM hs hsv
  rcases h5 with rfl | rfl
  · go_enter Try.func21, Try.ntmps21
    go_upto_region 4 with (fail)
    go_region
    go_upto_region 7 with (fail)
    go_quiet (fail)
    go_wp2
    go_ret
    exact ⟨rfl, belowN ((((Below.refl _ _).alloc (Nat.le_refl _) _).alloc (by simp) _).drew) _⟩
  · go_enter Try.func21, Try.ntmps21
    go_upto_region 4 with (fail)
    go_region
    go_upto_region 9 with (fail)
    go_quiet (fail)
    go_wp2
    go_ret
    exact ⟨rfl, belowN ((((Below.refl _ _).alloc (Nat.le_refl _) _).alloc (by simp) _).drew) _⟩


def openV (op : Int) (n : Nat) (room : Int) : Bool := if op = 5 then decide ((n : Int) < room) else decide (0 < (n : Int))

set_option maxHeartbeats 4000000 in
theorem can_send_open (h : Mach w B bp pv mv S st C) (k : Nat) (hk : k < st.rs.length) (hn : st.rs.length ≤ 1000000) (he : (st.rs.getD k default).ended = false) (l : List Ins) (aa : Nat) (i : Ins) (hok : RunOk S st (st.rs.getD k default) l aa i)
    (h5 : i.op = 5 ∨ i.op = 6) (hs : shutAt st i.a = false) (hl3 : st.shut.length ≤ 64) (hl4 : st.held.length ≤ 64) :
    Calls Try.prog 21 #[.pointer (some ⟨bp, 0, none⟩), .int .i64 k] w fun e w' => e = .returned (.bool (openV i.op (heldAt st i.a).length (S.rooms[i.a.toNat]?.getD 0))) ∧ Below w.heap.size w w' := by
  obtain ⟨rb, ro, rc, hrv, hrb, hrB⟩ := h.rform (by omega)
  obtain ⟨p, a, x0, x1, x2, x3, x4, x5, x6, x7, e, hr⟩ := h.runner8 k hk
  rw [hr] at he hok
  simp only at he
  subst he
  obtain ⟨hp, ha, hi, hiok⟩ := hok
  simp only at hp ha
  subst ha
  have c5 := (h.wcell 5 _ rfl).trans (by rw [hrv])
  obtain ⟨k0, k1, k2, k3, k4, k5, k6, k7, k8, k9, k10⟩ := h.rall hrv k hk hr
  obtain ⟨pb, np, cp, ib, ni, ci, c0, pp, hnp, p0, pa, hni, i0, i1, i2, i3, pB, iB, -⟩ := h.insAt p aa l i hp hi
  have hbp := h.lt
  have hBs := h.bpB
  have lp : pb < w.heap.size := by omega
  have li : ib < w.heap.size := by omega
  generalize hN : st.rs.length = nr at *
  obtain ⟨op, a, b, c⟩ := i
  simp only at h5 hs i0 i1 i2 i3
  obtain ⟨a0, a1, a2, a3⟩ := hiok.chan (by rcases h5 with e | e <;> simp [e])
  simp only at a0 a1 a2 a3
  obtain ⟨an, rfl⟩ := Int.eq_ofNat_of_zero_le a0
  simp only [Int.toNat_natCast] at a1 a2 a3
  obtain ⟨sb, so, sc, hsv, hsb, -⟩ := h.sform (by omega)
  have c7 := (h.wcell 7 _ rfl).trans (by rw [hsv])
  have s0 := h.scell hsv an a1
  simp only [shutAt, Int.toNat_natCast] at hs
  rw [hs] at s0
  obtain ⟨hb, ho, hc, hhv, hhb, -⟩ := h.hform (by rw [h.ql]; omega)
  have c6 := (h.wcell 6 _ rfl).trans (by rw [hhv])
  obtain ⟨qv, -, q1, q2⟩ := h.hcell hhv an a2
  obtain ⟨qa, qc, rfl, hqc⟩ := q2.isSlice
  clear q2
  obtain ⟨mb, cm, c1, hmB, hm64, m0⟩ := h.room
  have m1 := m0 an a3
  have lm : mb < w.heap.size := by omega
  have b0 : (0 : Int) ≤ (an : Int) := by omega
  have b1 : (an : Int) < (st.shut.length : Int) := by omega
  have b2 : (an : Int) < (C.qs.length : Int) := by rw [h.ql]; omega
  have b3 : (an : Int) < (S.rooms.length : Int) := by omega
  have hql : C.qs.length ≤ 64 := by rw [h.ql]; exact hl4
  simp only [heldAt, Int.toNat_natCast]
  generalize (st.held.getD an []).length = nl at *
  generalize S.rooms[an]?.getD 0 = room at *
  generalize hM : st.shut.length = ns at *
  generalize S.rooms.length = nm at *
  generalize C.qs.length = nq at *
  clear hN hr hrv h hp hi hiok hBs a2 a3 hM hs hsv hhv m0
  rcases h5 with rfl | rfl
  · go_enter Try.func21, Try.ntmps21
    go_upto_region 4 with (fail)
    go_region
    go_upto_region 7 with (fail)
    go_quiet (fail)
    go_wp2
    go_ret
    exact ⟨by simp [openV], belowN ((((Below.refl _ _).alloc (Nat.le_refl _) _).alloc (by simp) _).drew) _⟩
  · go_enter Try.func21, Try.ntmps21
    go_upto_region 4 with (fail)
    go_region
    go_upto_region 9 with (fail)
    go_quiet (fail)
    go_wp2
    go_ret
    exact ⟨by simp [openV], belowN ((((Below.refl _ _).alloc (Nat.le_refl _) _).alloc (by simp) _).drew) _⟩

set_option maxHeartbeats 2000000 in
theorem can_wait (h : Mach w B bp pv mv S st C) (k : Nat) (hk : k < st.rs.length) (hn : st.rs.length ≤ 1000000) (he : (st.rs.getD k default).ended = false) (l : List Ins) (aa : Nat) (i : Ins) (hok : RunOk S st (st.rs.getD k default) l aa i)
    (h11 : i.op = 11) (hl3 : st.groups.length ≤ 64) :
    Calls Try.prog 21 #[.pointer (some ⟨bp, 0, none⟩), .int .i64 k] w fun e w' => e = .returned (.bool (st.groups.getD i.a.toNat 0 == 0)) ∧ Below w.heap.size w w' := by
  obtain ⟨rb, ro, rc, hrv, hrb, hrB⟩ := h.rform (by omega)
  obtain ⟨p, a, x0, x1, x2, x3, x4, x5, x6, x7, e, hr⟩ := h.runner8 k hk
  rw [hr] at he hok
  simp only at he
  subst he
  obtain ⟨hp, ha, hi, hiok⟩ := hok
  simp only at hp ha
  subst ha
  have c5 := (h.wcell 5 _ rfl).trans (by rw [hrv])
  obtain ⟨k0, k1, k2, k3, k4, k5, k6, k7, k8, k9, k10⟩ := h.rall hrv k hk hr
  obtain ⟨pb, np, cp, ib, ni, ci, c0, pp, hnp, p0, pa, hni, i0, i1, i2, i3, pB, iB, -⟩ := h.insAt p aa l i hp hi
  have hbp := h.lt
  have hBs := h.bpB
  have lp : pb < w.heap.size := by omega
  have li : ib < w.heap.size := by omega
  generalize hN : st.rs.length = nr at *
  obtain ⟨op, a, b, c⟩ := i
  simp only at h11 i0 i1 i2 i3
  subst h11
  obtain ⟨a0, a1⟩ := hiok.group (.inr rfl)
  simp only at a0 a1
  obtain ⟨an, rfl⟩ := Int.eq_ofNat_of_zero_le a0
  simp only [Int.toNat_natCast] at a1
  obtain ⟨sb, so, sc, hsv, hsb, -⟩ := h.gform (by omega)
  have c9 := (h.wcell 9 _ rfl).trans (by rw [hsv])
  have s0 := h.gcell hsv an a1
  have b0 : (0 : Int) ≤ (an : Int) := by omega
  have b1 : (an : Int) < (st.groups.length : Int) := by omega
  simp only [Int.toNat_natCast]
  generalize st.groups.getD an 0 = gv at *
  generalize hM : st.groups.length = ns at *
  clear hN hr hrv h hp hi hiok hBs hM hsv
  go_enter Try.func21, Try.ntmps21
  go_upto_region 4 with (fail)
  go_region
  go_upto_region 13 with (fail)
  go_quiet (fail)
  go_wp2
  go_ret
  exact ⟨rfl, belowN ((((Below.refl _ _).alloc (Nat.le_refl _) _).alloc (by simp) _).drew) _⟩

/-- Can a runner go on? -/
theorem can_any (h : Mach w B bp pv mv S st C) (k : Nat) (hk : k < st.rs.length) (hn : st.rs.length ≤ 1000000) (hl3 : st.shut.length ≤ 64) (hl4 : st.held.length ≤ 64) (hl5 : st.groups.length ≤ 64)
    (hok : (st.rs.getD k default).ended = false → ∃ l aa i, RunOk S st (st.rs.getD k default) l aa i) :
    Calls Try.prog 21 #[.pointer (some ⟨bp, 0, none⟩), .int .i64 k] w fun e w' => e = .returned (.bool (can S st (st.rs.getD k default))) ∧ Below w.heap.size w w' := by
  by_cases he : (st.rs.getD k default).ended = true
  · have : can S st (st.rs.getD k default) = false := by simp only [can, he, if_true]
    rw [this]
    exact can_ended h k hk hn he
  · have he' : (st.rs.getD k default).ended = false := by simpa using he
    obtain ⟨l, aa, i, hr⟩ := hok he'
    have hi := hr.insOf
    have h8 := hr.ok.op8
    by_cases h5 : i.op = 5 ∨ i.op = 6
    · cases hs : shutAt st i.a with
      | true =>
        have : can S st (st.rs.getD k default) = true := by
          simp only [can, he', hi, hs]
          rcases h5 with e | e <;> simp [e]
        rw [this]
        exact can_send_shut h k hk hn he' l aa i hr h5 hs hl3
      | false =>
        have : can S st (st.rs.getD k default) = openV i.op (heldAt st i.a).length (S.rooms[i.a.toNat]?.getD 0) := by
          simp only [can, he', hi, hs, openV]
          rcases h5 with e | e <;> simp [e]
        rw [this]
        exact can_send_open h k hk hn he' l aa i hr h5 hs hl3 hl4
    · by_cases h11 : i.op = 11
      · have : can S st (st.rs.getD k default) = (st.groups.getD i.a.toNat 0 == 0) := by
          simp only [can, he', hi]
          simp [h11]
        rw [this]
        exact can_wait h k hk hn he' l aa i hr h11 hl5
      · have : can S st (st.rs.getD k default) = true := by
          simp only [can, he', hi]
          rw [if_neg (by simp), if_neg (by omega), if_neg (by omega), if_neg h8, if_neg h11]
        rw [this]
        exact can_plain h k hk hn he' l aa i hr (by simp; omega) (by simp; omega) (by simp; exact h8) (by simp; exact h11)

end Go.Proofs.Ytnfbipohajphgaa
