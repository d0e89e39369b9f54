/- More of the machine in memory: registers, places, the event of a step. -/
import Derived.Test.YtnfbipohajphgaaMa
import Derived.StillTailTactics
import Derived.Deep.Draws
set_option linter.unusedVariables false
set_option linter.unusedSimpArgs false
namespace Qn
open Go Go.RowKit PoolQ
variable {w w' : World} {B bp : Nat} {pv mv : Value} {S : Psys} {st : St} {C : Comp}

/-- A region that draws its order: reads, then a tail in one forced order: the world as the walk writes it. -/
theorem region_tail {P : Program} {id : Nat} {Q : Exit → Act → World → Prop} {a : Act} {w : World} {l : List Oper} (n : Nat) (hm : P.follows .mixedOrders = true) (hB : Region.lexTailB .any l.toArray n = true)
    (h : wpStill P l.toArray w.drew (fun a' => wpList P l.toArray Q (l.drop n) a' w.drew) (l.take n) a) : (Code.region id l.toArray true).wp P Q a w := wp_region_still_tail n hm hB h

theorem Mach.regcell (h : Mach w B bp pv mv S st C) {rb ro rc : Nat} (hrv : C.rv = .slice (some ⟨rb, ro, none⟩) st.rs.length rc) (k : Nat) (hk : k < st.rs.length) (g : Nat) (hg : g < 8) :
    w.cell? ⟨rb, ro + k * 11 + 2 + g, none⟩ = some (.int .i64 ((st.rs.getD k default).regs[g]?.getD 0)) := by
  obtain ⟨p, a, x0, x1, x2, x3, x4, x5, x6, x7, e, hr⟩ := h.runner8 k hk
  have q := h.rcell hrv k hk (2 + g)
  rw [hr] at q ⊢
  rw [Nat.add_assoc _ 2 g]
  apply q
  match g, hg with
  | 0, _ => rfl
  | 1, _ => rfl
  | 2, _ => rfl
  | 3, _ => rfl
  | 4, _ => rfl
  | 5, _ => rfl
  | 6, _ => rfl
  | 7, _ => rfl

theorem rcells_setReg (r : Rn) (g : Nat) (x : Int) (hg : g < 8) (h8 : r.regs.length = 8) : rcells (setReg r g x) = (rcells r).set (2 + g) (.int .i64 x) := by
  obtain ⟨p, a, l, e⟩ := r
  obtain ⟨x0, x1, x2, x3, x4, x5, x6, x7, rfl⟩ := regs_eight l h8
  match g, hg with
  | 0, _ => rfl
  | 1, _ => rfl
  | 2, _ => rfl
  | 3, _ => rfl
  | 4, _ => rfl
  | 5, _ => rfl
  | 6, _ => rfl
  | 7, _ => rfl

theorem Mach.setReg (h : Mach w B bp pv mv S st C) {rb ro rc : Nat} (hrv : C.rv = .slice (some ⟨rb, ro, none⟩) st.rs.length rc) (k g : Nat) (x : Int) (hk : k < st.rs.length) (hg : g < 8) :
    Mach (w.setCell ⟨rb, ro + k * 11 + 2 + g, none⟩ (.int .i64 x)) B bp pv mv S { st with rs := st.rs.set k (PoolQ.setReg (st.rs.getD k default) g x) } C := by
  have h8 := h.regs8 (st.rs.getD k default) (by simp [List.getD, List.getElem?_eq_getElem hk])
  have := h.setRunner hrv k (2 + g) (.int .i64 x) (PoolQ.setReg (st.rs.getD k default) g x) hk (by omega) (rcells_setReg _ g x hg h8) (by simp only [PoolQ.setReg, List.length_set]; exact h8)
  rwa [show ro + (k * 11 + (2 + g)) = ro + k * 11 + 2 + g from by omega] at this

theorem Mach.setAt (h : Mach w B bp pv mv S st C) {rb ro rc : Nat} (hrv : C.rv = .slice (some ⟨rb, ro, none⟩) st.rs.length rc) (k : Nat) (x : Int) (hk : k < st.rs.length) :
    Mach (w.setCell ⟨rb, ro + k * 11 + 1, none⟩ (.int .i64 x)) B bp pv mv S { st with rs := st.rs.set k { st.rs.getD k default with at_ := x } } C := by
  have h8 := h.regs8 (st.rs.getD k default) (by simp [List.getD, List.getElem?_eq_getElem hk])
  have := h.setRunner hrv k 1 (.int .i64 x) { st.rs.getD k default with at_ := x } hk (by omega) (by simp [rcells]) h8
  rwa [show ro + (k * 11 + 1) = ro + k * 11 + 1 from by omega] at this

theorem Mach.setEnded (h : Mach w B bp pv mv S st C) {rb ro rc : Nat} (hrv : C.rv = .slice (some ⟨rb, ro, none⟩) st.rs.length rc) (k : Nat) (hk : k < st.rs.length) :
    Mach (w.setCell ⟨rb, ro + k * 11 + 10, none⟩ (.bool true)) B bp pv mv S { st with rs := st.rs.set k { st.rs.getD k default with ended := true } } C := by
  have h8 := h.regs8 (st.rs.getD k default) (by simp [List.getD, List.getElem?_eq_getElem hk])
  have := h.setRunner hrv k 10 (.bool true) { st.rs.getD k default with ended := true } hk (by omega) (by
    obtain ⟨p, a, x0, x1, x2, x3, x4, x5, x6, x7, e, hr⟩ := h.runner8 k hk
    rw [hr]; rfl) h8
  rwa [show ro + (k * 11 + 10) = ro + k * 11 + 10 from by omega] at this

/-- The event of a step, which lies beside the machine. -/
def EvAt (w : World) (eb : Nat) (who op a : Int) : Prop := ∃ (v : Int) (s : Bool), w.heap[eb]? = some (.cells #[.int .i64 who, .int .i64 op, .int .i64 a, .int .i64 v, .bool s] 66 (0, 0))

/-- What a step has made of the machine. -/
def Did (B bp : Nat) (pv mv : Value) (S : Psys) (eb : Nat) (who op : Int) (ev0 : Value) (st' : St) (w w' : World) : Prop :=
  ∃ C' a, Mach w' B bp pv mv S st' C' ∧ C'.ev = ev0 ∧ EvAt w' eb who op a ∧ Below B w w'

theorem Mach.hfree (h : Mach w B bp pv mv S st C) {sb so sc : Nat} (hv : C.hv = .slice (some ⟨sb, so, none⟩) C.qs.length sc) (j : Nat) : w.frozen? ⟨sb, j, none⟩ = false := by
  have h1 := h.held
  rw [hv] at h1
  exact h1.frozen j
theorem Mach.sfree (h : Mach w B bp pv mv S st C) {sb so sc : Nat} (hv : C.sv = .slice (some ⟨sb, so, none⟩) st.shut.length sc) (j : Nat) : w.frozen? ⟨sb, j, none⟩ = false := by
  have h1 := h.shut
  rw [hv] at h1
  exact h1.frozen j
theorem Mach.gfree (h : Mach w B bp pv mv S st C) {sb so sc : Nat} (hv : C.gv = .slice (some ⟨sb, so, none⟩) st.groups.length sc) (j : Nat) : w.frozen? ⟨sb, j, none⟩ = false := by
  have h1 := h.groups
  rw [hv] at h1
  exact h1.frozen j
theorem Mach.cfree (h : Mach w B bp pv mv S st C) {sb so sc : Nat} (hv : C.cv = .slice (some ⟨sb, so, none⟩) st.cells.length sc) (j : Nat) : w.frozen? ⟨sb, j, none⟩ = false := by
  have h1 := h.cells
  rw [hv] at h1
  exact h1.frozen j

theorem Mach.hread (h : Mach w B bp pv mv S st C) {sb so sc : Nat} (hv : C.hv = .slice (some ⟨sb, so, none⟩) C.qs.length sc) (j : Nat) (u : Value) (hu : C.qs[j]? = some u) : w.cell? ⟨sb, so + j, none⟩ = some u := by
  have h1 := h.held
  rw [hv] at h1
  exact h1.cell j u hu

end Qn
