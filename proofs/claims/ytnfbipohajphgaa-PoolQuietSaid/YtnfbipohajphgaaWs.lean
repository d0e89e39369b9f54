/- The pool's machine in memory: what each walk asks, out of the invariants. -/
import Derived.Test.YtnfbipohajphgaaWr
import Derived.Test.YtnfbipohajphgaaWp
import Derived.Test.YtnfbipohajphgaaPf
set_option linter.unusedVariables false
set_option linter.unusedSimpArgs false
namespace Go.Proofs.Ytnfbipohajphgaa
open Go.RowKit Qn PoolQ

variable {w : World} {B bp : Nat} {pv mv : Value} {st : St} {C : Comp} {W Q b jobs : Int}

/-- The pool's system, with a block beside the machine. -/
def poolB (W Q b jobs : Int) (x : Option Nat) : Psys := { poolSys W Q b jobs with box := x }

theorem canB (x : Option Nat) (r : Rn) : can (poolB W Q b jobs x) st r = can (poolSys W Q b jobs) st r := rfl
theorem stepB (x : Option Nat) (k : Nat) : PoolQ.step (poolB W Q b jobs x) st k = PoolQ.step (poolSys W Q b jobs) st k := rfl
theorem readyB (x : Option Nat) (n : Nat) : readyN (poolB W Q b jobs x) st n = readyN (poolSys W Q b jobs) st n := rfl

variable {x : Option Nat}

theorem insOk (hP : Par W Q b jobs) (hI : Inv W Q b jobs st) {i : Ins} (h : Wf i) : InsOk (poolB W Q b jobs x) st i := by
  have h3 := hI.hl
  have h4 := hI.shl
  have h5 := hI.gl
  have h6 := hI.cl
  have hb := hP.b
  refine ⟨h.op8, h.op9, h.opr, fun e => ?_, fun e => ?_, by have := h.c; omega, h.ra, h.rb, fun e => ?_, fun e => by omega⟩
  · have := h.chan e
    refine ⟨this.1, by omega, by omega, ?_⟩
    show _ < 3
    omega
  · have := h.group e
    refine ⟨by omega, by omega⟩
  · have := h.prog e
    refine ⟨this.1, ?_⟩
    show _ < 4
    omega

theorem runOk (hP : Par W Q b jobs) (hI : Inv W Q b jobs st) (k : Nat) (hk : k < st.rs.length) (he : (st.rs.getD k default).ended = false) :
    ∃ l aa i, RunOk (poolB W Q b jobs x) st (st.rs.getD k default) l aa i ∧ Wf i ∧ aa ≤ 256 := by
  have hL := hI.li _ (mem_of_getD st.rs k hk)
  obtain ⟨l, aa, i, h1, h2, h3, h4, -⟩ := stands (Q := Q) hP.W hP.b hP.j hL he
  refine ⟨l, aa, i, ⟨h1, h2, h3, insOk hP hI h4⟩, h4, ?_⟩
  have := hL.atl
  have hp : plen (st.rs.getD k default).prog ≤ 19 := by
    unfold plen
    split
    · omega
    · split
      · omega
      · split <;> omega
  omega

theorem allOk (hP : Par W Q b jobs) (hI : Inv W Q b jobs st) : AllOk (poolB W Q b jobs x) st := fun k hk he => by
  obtain ⟨l, aa, i, h, -⟩ := runOk hP hI k hk he
  exact ⟨l, aa, i, h⟩

theorem held_le (hP : Par W Q b jobs) (hI : Inv W Q b jobs st) (i : Nat) : (st.held.getD i []).length ≤ 1000000 := by
  obtain ⟨-, -, -, h0, h1, h2, -⟩ := sizes hP hI
  have h3 := hI.hl
  match i with
  | 0 => have : (st.held.getD 0 []).length ≤ 1024 := h0; omega
  | 1 => have : (st.held.getD 1 []).length ≤ 1024 := h1; omega
  | 2 => have : (st.held.getD 2 []).length ≤ 1024 := h2; omega
  | i + 3 =>
    rw [List.getD_eq_getElem?_getD, List.getElem?_eq_none (by omega)]
    simp

/-- **A step, in memory.** -/
theorem step_mem (hP : Par W Q b jobs) (h : Mach w B bp pv mv (poolB W Q b jobs x) st C) (hI : Inv W Q b jobs st) (hs : Small st) (k : Nat) (hk : k < st.rs.length) (hcan : can (poolSys W Q b jobs) st (st.rs.getD k default) = true) :
    Calls Try.prog 17 #[.pointer (some ⟨bp, 0, none⟩), .int .i64 k] w (Stepped B bp pv mv (poolB W Q b jobs x) (PoolQ.step (poolSys W Q b jobs) st k).1 w) := by
  have he := can_not_ended hcan
  obtain ⟨l, aa, i, hok, hwf, haa⟩ := runOk (x := x) hP hI k hk he
  obtain ⟨z1, z2, z3, z4, z5, z6, z7, z8⟩ := sizes hP hI
  have h3 := hI.hl
  have h4 := hI.shl
  have h5 := hI.gl
  have h6 := hI.cl
  have hb := hP.b
  have h0 := (step_ok hI hP.W.1 hP.W.2 hP.Q.1 hP.b.1 hP.b.2 hP.j.1 hP.j.2 hk hcan).1
  have hm := mem_of_getD st.rs k hk
  rw [← stepB x] at h0 ⊢
  refine step_walk (l := l) (aa := aa) (i := i) ⟨hk, by omega, he, hok, haa, by omega, by omega, by omega, by omega, by omega, held_le hP hI, fun i => sm_reg (hs.regs _ hm) i⟩ h ?_ hwf.c.1 ?_ ?_
  · unfold PoolQ.step at h0
    dsimp only at h0
    rw [hok.insOf] at h0
    by_cases e : (act (poolB W Q b jobs x) st k (st.rs.getD k default) i).2 = 0
    · exact e
    · rw [if_pos e] at h0
      exact h0
  · intro e
    have := sum_ok (Q := Q) hP.W hP.b hP.j (hI.li _ hm) he (by rw [show insOf (poolSys W Q b jobs) (st.rs.getD k default) = i from hok.insOf]; exact e)
    rw [show insOf (poolSys W Q b jobs) (st.rs.getD k default) = i from hok.insOf] at this
    exact this
  · intro e
    have ha := hwf.group (.inl e)
    have hg := hwf.grp e
    rw [ha]
    show -1 ≤ i.b ∧ i.b ≤ 1 ∧ -1000 ≤ st.groups.getD 0 0 ∧ st.groups.getD 0 0 ≤ 1000
    omega

theorem _root_.Qn.Mach.rebase {S : Psys} {B' : Nat} (h : Mach w B bp pv mv S st C) (hS : SysMem w B' pv mv S) (hB : B' ≤ B) : Mach w B' bp pv mv S st C :=
  ⟨hS, h.box, by have := h.bpB; omega, h.blk, h.regs8, h.rs.mono hB, h.held.mono hB, h.ql, fun i v hv => (h.qs i v hv).mono hB, h.shut.mono hB, h.groups.mono hB, h.cells.mono hB, h.ev.mono hB, h.gc, h.gq, h.qq⟩

/-- Who can go on. -/
theorem ready_mem {k : Nat} {S : Psys} {n j : Nat} (h : (readyN S st n)[j]? = some k) : k < n ∧ can S st (st.rs.getD k default) = true := by
  have := List.mem_of_getElem? h
  unfold readyN at this
  rw [List.mem_filter, List.mem_range] at this
  exact this

theorem ready_pos (hP : Par W Q b jobs) (hI : Inv W Q b jobs st) (h : allEnded st.rs = false) : 0 < (readyN (poolSys W Q b jobs) st st.rs.length).length := by
  rcases Nat.eq_zero_or_pos (readyN (poolSys W Q b jobs) st st.rs.length).length with h0 | h0
  · exfalso
    have hnil := List.eq_nil_of_length_eq_zero h0
    have hno : ∀ r ∈ st.rs, can (poolSys W Q b jobs) st r = false := by
      intro r hr
      obtain ⟨k, hk, e⟩ := getD_of_mem st.rs r hr
      cases hc : can (poolSys W Q b jobs) st r with
      | false => rfl
      | true =>
        have : k ∈ readyN (poolSys W Q b jobs) st st.rs.length := by
          unfold readyN
          rw [List.mem_filter, List.mem_range]
          exact ⟨hk, by rw [e]; exact hc⟩
        rw [hnil] at this
        cases this
    have hall := never_stuck hI hP.W.1 hP.W.2 hP.Q.1 hP.b.1 hP.b.2 hno
    unfold allEnded at h
    rw [List.all_eq_false] at h
    obtain ⟨r, hr, he⟩ := h
    exact he (hall r hr)
  · exact h0

theorem all_ended (h : allEnded st.rs = true) : ∀ r ∈ st.rs, r.ended = true := by
  unfold allEnded at h
  exact List.all_eq_true.1 h

end Go.Proofs.Ytnfbipohajphgaa
