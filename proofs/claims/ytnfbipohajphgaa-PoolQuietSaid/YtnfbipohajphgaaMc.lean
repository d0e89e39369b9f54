/- The machine as it is built: a channel, a mark, a group, a cell are appended. -/
import Derived.Test.YtnfbipohajphgaaMb
set_option linter.unusedVariables false
set_option linter.unusedSimpArgs false
namespace Qn
open Go Go.RowKit PoolQ
variable {w w' : World} {B bp : Nat} {pv mv : Value} {S : Psys} {st : St} {C : Comp}

theorem Mach.blkAfter (h : Mach w B bp pv mv S st C) {u : Value} {e : TypeId} {z n : Nat} {xs : List Value} (hu : OwnS w B e z u n xs) (hne : e ≠ 51) (hg : w.grownBy w' u.ownBlock) :
    w'.heap[bp]? = some (.cells #[pv, mv, .int .i64 1, .int .i64 0, .int .i64 S.ncells, C.rv, C.hv, C.sv, C.lv, C.gv, C.cv, C.ev] 51 (0, 0)) :=
  (hg.block bp h.lt (fun e => hu.ne_block h.blk hne e.symm)).trans h.blk

theorem Mach.sysAfter (h : Mach w B bp pv mv S st C) {u u' : Value} {e : TypeId} {z n : Nat} {xs : List Value} (hu : OwnS w B e z u n xs) (hg : w.grownBy w' u.ownBlock) (j : Nat) : SysMem (w'.setCell ⟨bp, j, none⟩ u') B pv mv S := by
  have hlt := h.lt
  have hs := grownBy_setCell w' bp j u'
  refine h.sys.carry (fun i hi => ?_)
  have := h.bpB
  rw [hs.block i (by have := hg.size; omega) (by simp; omega)]
  refine hg.block i (by omega) ?_
  intro e
  have := (hu.lt e.symm).1
  omega

/-- Another part, where one part was appended to and stored anew. -/
theorem Mach.part (h : Mach w B bp pv mv S st C) {u u' : Value} {e : TypeId} {z n : Nat} {xs : List Value} (hu : OwnS w B e z u n xs) (he5 : e ≠ 51) (hg : w.grownBy w' u.ownBlock) (j : Nat)
    {v : Value} {e' : TypeId} {z' n' : Nat} {ys : List Value} (hv : OwnS w B e' z' v n' ys) (ha : Apart v u) (h5 : e' ≠ 51) : OwnS (w'.setCell ⟨bp, j, none⟩ u') B e' z' v n' ys :=
  (hv.keepV hg ha).keep (grownBy_setCell w' bp j u') ((hv.keepV hg ha).ne_block (h.blkAfter hu he5 hg) h5)

theorem Mach.appendHeld (h : Mach w B bp pv mv S st C) (hv' : Value) (hg : w.grownBy w' C.hv.ownBlock) (hn : OwnS w' B 24 1 hv' (C.qs.length + 1) (C.qs ++ [.slice none 0 0])) :
    Mach (w'.setCell ⟨bp, 6, none⟩ hv') B bp pv mv S { st with held := st.held ++ [[]] } { C with hv := hv', qs := C.qs ++ [.slice none 0 0] } := by
  have hblk := h.blkAfter h.held (by decide) hg
  have hs := grownBy_setCell w' bp 6 hv'
  have kp : ∀ {e : TypeId} {s : Nat} {v : Value} {n : Nat} {xs : List Value}, OwnS w B e s v n xs → e ≠ 24 → e ≠ 51 → OwnS (w'.setCell ⟨bp, 6, none⟩ hv') B e s v n xs := fun hv he h5 =>
    h.part h.held (by decide) hg 6 hv (hv.apart h.held he) h5
  refine ⟨h.sysAfter h.held hg 6, boxBp (boxOwn h.box h.held (by decide) hg) hblk hs, h.bpB, ?_, h.regs8, kp h.rs (by decide) (by decide), ?_, ?_, ?_, kp h.shut (by decide) (by decide), kp h.groups (by decide) (by decide), kp h.cells (by decide) (by decide), kp h.ev (by decide) (by decide), h.gc, ?_, ?_⟩
  · rw [heap_setCell_same w' bp 6 _ 51 hv' hblk]; rfl
  · have := hn.keep hs (hn.ne_block hblk (by decide))
    simpa using this
  · simpa using h.ql
  · intro i v hv
    simp only at hv ⊢
    by_cases hi : i < C.qs.length
    · rw [List.getElem?_append_left hi] at hv
      have e1 : (st.held ++ [[]]).getD i [] = st.held.getD i [] := by
        rw [List.getD_eq_getElem?_getD, List.getElem?_append_left (by rw [← h.ql]; exact hi), List.getD_eq_getElem?_getD]
      rw [e1]
      exact kp (h.qs i v hv) (by decide) (by decide)
    · have hl := (List.getElem?_eq_some_iff.1 hv).1
      simp at hl
      obtain rfl : i = C.qs.length := by omega
      simp at hv
      subst hv
      have e1 : (st.held ++ [[]]).getD C.qs.length [] = [] := by
        rw [List.getD_eq_getElem?_getD, h.ql]; simp
      rw [e1]
      exact OwnS.nil _ _ _ _
  · intro i v hv
    simp only at hv ⊢
    by_cases hi : i < C.qs.length
    · rw [List.getElem?_append_left hi] at hv
      exact h.gq i v hv
    · have hl := (List.getElem?_eq_some_iff.1 hv).1
      simp at hl
      obtain rfl : i = C.qs.length := by omega
      simp at hv
      subst hv
      exact ⟨fun g _ h2 => by simp [Value.ownBlock] at h2, fun g _ h2 => by simp [Value.ownBlock] at h2⟩
  · intro i j u v hij hu hv
    simp only at hu hv
    by_cases hi : i < C.qs.length
    · rw [List.getElem?_append_left hi] at hu
      by_cases hj : j < C.qs.length
      · rw [List.getElem?_append_left hj] at hv
        exact h.qq i j u v hij hu hv
      · have hl := (List.getElem?_eq_some_iff.1 hv).1
        simp at hl
        obtain rfl : j = C.qs.length := by omega
        simp at hv
        subst hv
        exact fun g _ h2 => by simp [Value.ownBlock] at h2
    · have hl := (List.getElem?_eq_some_iff.1 hu).1
      simp at hl
      obtain rfl : i = C.qs.length := by omega
      simp at hu
      subst hu
      exact fun g h2 _ => by simp [Value.ownBlock] at h2

theorem Mach.appendShut (h : Mach w B bp pv mv S st C) (sv' : Value) (b : Bool) (hg : w.grownBy w' C.sv.ownBlock) (hn : OwnS w' B 4 1 sv' (st.shut.length + 1) (st.shut.map Value.bool ++ [.bool b])) :
    Mach (w'.setCell ⟨bp, 7, none⟩ sv') B bp pv mv S { st with shut := st.shut ++ [b] } { C with sv := sv' } := by
  have hblk := h.blkAfter h.shut (by decide) hg
  have hs := grownBy_setCell w' bp 7 sv'
  have kp : ∀ {e : TypeId} {s : Nat} {v : Value} {n : Nat} {xs : List Value}, OwnS w B e s v n xs → e ≠ 4 → e ≠ 51 → OwnS (w'.setCell ⟨bp, 7, none⟩ sv') B e s v n xs := fun hv he h5 =>
    h.part h.shut (by decide) hg 7 hv (hv.apart h.shut he) h5
  refine ⟨h.sysAfter h.shut hg 7, boxBp (boxOwn h.box h.shut (by decide) hg) hblk hs, h.bpB, ?_, h.regs8, kp h.rs (by decide) (by decide), kp h.held (by decide) (by decide), h.ql, fun i v hv => kp (h.qs i v hv) (by decide) (by decide), ?_, kp h.groups (by decide) (by decide), kp h.cells (by decide) (by decide), kp h.ev (by decide) (by decide), h.gc, h.gq, h.qq⟩
  · rw [heap_setCell_same w' bp 7 _ 51 sv' hblk]; rfl
  · have := hn.keep hs (hn.ne_block hblk (by decide))
    simpa using this

theorem Mach.appendGroup (h : Mach w B bp pv mv S st C) (gv' : Value) (x : Int) (hg : w.grownBy w' C.gv.ownBlock) (hn : OwnS w' B 3 1 gv' (st.groups.length + 1) (st.groups.map (Value.int .i64) ++ [.int .i64 x]))
    (hfr : gv'.ownBlock = C.gv.ownBlock ∨ ∃ g, gv'.ownBlock = some g ∧ w.heap.size ≤ g) :
    Mach (w'.setCell ⟨bp, 9, none⟩ gv') B bp pv mv S { st with groups := st.groups ++ [x] } { C with gv := gv' } := by
  have hblk := h.blkAfter h.groups (by decide) hg
  have hs := grownBy_setCell w' bp 9 gv'
  have kp : ∀ {e : TypeId} {s : Nat} {v : Value} {n : Nat} {xs : List Value}, OwnS w B e s v n xs → Apart v C.gv → e ≠ 51 → OwnS (w'.setCell ⟨bp, 9, none⟩ gv') B e s v n xs := fun hv he h5 =>
    h.part h.groups (by decide) hg 9 hv he h5
  refine ⟨h.sysAfter h.groups hg 9, boxBp (boxOwn h.box h.groups (by decide) hg) hblk hs, h.bpB, ?_, h.regs8, kp h.rs (h.rs.apart h.groups (by decide)) (by decide), kp h.held (h.held.apart h.groups (by decide)) (by decide), h.ql, fun i v hv => kp (h.qs i v hv) (h.gq i v hv).1.symm (by decide), kp h.shut (h.shut.apart h.groups (by decide)) (by decide), ?_, kp h.cells h.gc.symm (by decide), kp h.ev (h.ev.apart h.groups (by decide)) (by decide),
    (Apart.grown h.cells h.gc.symm hfr).symm, fun i v hv => ⟨(Apart.grown (h.qs i v hv) (h.gq i v hv).1.symm hfr).symm, (h.gq i v hv).2⟩, h.qq⟩
  · rw [heap_setCell_same w' bp 9 _ 51 gv' hblk]; rfl
  · have := hn.keep hs (hn.ne_block hblk (by decide))
    simpa using this

theorem Mach.appendCell (h : Mach w B bp pv mv S st C) (cv' : Value) (x : Int) (hg : w.grownBy w' C.cv.ownBlock) (hn : OwnS w' B 3 1 cv' (st.cells.length + 1) (st.cells.map (Value.int .i64) ++ [.int .i64 x]))
    (hfr : cv'.ownBlock = C.cv.ownBlock ∨ ∃ g, cv'.ownBlock = some g ∧ w.heap.size ≤ g) :
    Mach (w'.setCell ⟨bp, 10, none⟩ cv') B bp pv mv S { st with cells := st.cells ++ [x] } { C with cv := cv' } := by
  have hblk := h.blkAfter h.cells (by decide) hg
  have hs := grownBy_setCell w' bp 10 cv'
  have kp : ∀ {e : TypeId} {s : Nat} {v : Value} {n : Nat} {xs : List Value}, OwnS w B e s v n xs → Apart v C.cv → e ≠ 51 → OwnS (w'.setCell ⟨bp, 10, none⟩ cv') B e s v n xs := fun hv he h5 =>
    h.part h.cells (by decide) hg 10 hv he h5
  refine ⟨h.sysAfter h.cells hg 10, boxBp (boxOwn h.box h.cells (by decide) hg) hblk hs, h.bpB, ?_, h.regs8, kp h.rs (h.rs.apart h.cells (by decide)) (by decide), kp h.held (h.held.apart h.cells (by decide)) (by decide), h.ql, fun i v hv => kp (h.qs i v hv) (h.gq i v hv).2.symm (by decide), kp h.shut (h.shut.apart h.cells (by decide)) (by decide), kp h.groups h.gc (by decide), ?_, kp h.ev (h.ev.apart h.cells (by decide)) (by decide),
    Apart.grown h.groups h.gc hfr, fun i v hv => ⟨(h.gq i v hv).1, (Apart.grown (h.qs i v hv) (h.gq i v hv).2.symm hfr).symm⟩, h.qq⟩
  · rw [heap_setCell_same w' bp 10 _ 51 cv' hblk]; rfl
  · have := hn.keep hs (hn.ne_block hblk (by decide))
    simpa using this

/-- The machine's block copied into another one. -/
theorem Mach.copied (h : Mach w B bp pv mv S st C) {b2 : Nat} (hB : B ≤ b2) (hb : w.heap[b2]? = some (.cells #[pv, mv, .int .i64 1, .int .i64 0, .int .i64 S.ncells, C.rv, C.hv, C.sv, C.lv, C.gv, C.cv, C.ev] 51 (0, 0))) :
    Mach w B b2 pv mv S st C := ⟨h.sys, h.box, hB, hb, h.regs8, h.rs, h.held, h.ql, h.qs, h.shut, h.groups, h.cells, h.ev, h.gc, h.gq, h.qq⟩

end Qn
