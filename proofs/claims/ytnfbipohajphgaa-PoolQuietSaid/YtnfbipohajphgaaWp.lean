/- Walk: the machine at first (f13). -/
import Derived.Test.YtnfbipohajphgaaWc
import Derived.Test.YtnfbipohajphgaaMc
import Derived.BigRegion
set_option linter.unusedVariables false
set_option linter.unusedSimpArgs false
namespace Go.Proofs.Ytnfbipohajphgaa
open Go.RowKit Qn PoolQ

variable {w : World} {B bp : Nat} {pv mv : Value} {S : Psys} {st : St} {C : Comp}

def r0 : Rn := ⟨0, 0, [0, 0, 0, 0, 0, 0, 0, 0], false⟩

theorem start_mach (hS : SysMem w B pv mv S) (hbx : S.box = none) {g : Nat} (hg : w.heap[g]? = some (.cells #[.int .i64 0, .int .i64 0, .int .i64 0, .int .i64 0, .int .i64 0, .int .i64 0, .int .i64 0, .int .i64 0, .int .i64 0, .int .i64 0, .bool false] 62 (0, 0)))
    (hb : w.heap[bp]? = some (.cells #[pv, mv, .int .i64 1, .int .i64 0, .int .i64 S.ncells, .slice (some ⟨g, 0, none⟩) 1 1, .slice none 0 0, .slice none 0 0, .slice none 0 0, .slice none 0 0, .slice none 0 0, .slice none 0 0] 51 (0, 0)))
    (hBg : B ≤ g) (hBb : B ≤ bp) :
    Mach w B bp pv mv S ⟨[r0], [], [], [], [], 0⟩ ⟨.slice (some ⟨g, 0, none⟩) 1 1, .slice none 0 0, .slice none 0 0, .slice none 0 0, .slice none 0 0, .slice none 0 0, .slice none 0 0, [], []⟩ := by
  refine ⟨hS, (fun g hg => by rw [hbx] at hg; cases hg), hBb, hb, by simp [r0], ⟨by simp [flat, rcells, r0], .inr ⟨g, 0, 1, _, rfl, hBg, hg, by simp, by unfold maxLen; omega, by simp, ?_⟩⟩, OwnS.nil _ _ _ _, rfl, by simp, OwnS.nil _ _ _ _, OwnS.nil _ _ _ _, OwnS.nil _ _ _ _, OwnS.nil _ _ _ _, ?_, by simp, by simp⟩
  · intro j u hu
    have hj := (List.getElem?_eq_some_iff.1 hu).1
    simp [flat, rcells, r0] at hj
    rcases j with _ | _ | _ | _ | _ | _ | _ | _ | _ | _ | _ | j <;> first | (simp [flat, rcells, r0] at hu; subst hu; rfl) | (simp [flat, rcells, r0] at hu) | omega
  · exact fun g h _ => by simp [Value.ownBlock] at h

theorem info24 : (Try.prog.info? 24).map (fun i => (i.zero, i.size, i.bytes)) = some (some (.slice none 0 0), 1, 24) := by kernel_rfl
theorem info4 : (Try.prog.info? 4).map (fun i => (i.zero, i.size, i.bytes)) = some (some (.bool false), 1, 1) := by kernel_rfl

theorem app_facts (h : Mach w B bp pv mv S st C) {u : Value} {e : TypeId} {z n : Nat} {xs : List Value} (hu : OwnS w B e z u n xs) (he5 : e ≠ 51) {o : Obj} {w2 : World} (hgrow : (w.alloc o).grownBy w2 u.ownBlock) (j : Nat) (x : Value)
    (hx : [pv, mv, Value.int .i64 1, .int .i64 0, .int .i64 S.ncells, C.rv, C.hv, C.sv, C.lv, C.gv, C.cv, C.ev][j]? = some x) : w2.cell? ⟨bp, j, none⟩ = some x ∧ w2.frozen? ⟨bp, j, none⟩ = false := by
  have hb := (h.alloc o).blkAfter (hu.alloc o) he5 hgrow
  refine ⟨?_, frozen_of_row w2 bp j _ 51 hb⟩
  rw [cell_of_row w2 bp j _ 51 (0, 0) hb]
  simpa using hx

/-- Another block, of another type, behind an append to a part of the machine and the store. -/
theorem app_box {tb : Nat} {cs : Array Value} (hx : w.heap[tb]? = some (.cells cs 29 (0, 0))) (h : Mach w B bp pv mv S st C) {u u' : Value} {e : TypeId} {z n : Nat} {xs : List Value} (hu : OwnS w B e z u n xs) (he5 : e ≠ 29) {o : Obj} {w2 : World} (hgrow : (w.alloc o).grownBy w2 u.ownBlock) (j : Nat) :
    (w2.setCell ⟨bp, j, none⟩ u').heap[tb]? = some (.cells cs 29 (0, 0)) := by
  have hlt := (Array.getElem?_eq_some_iff.1 hx).1
  have h1 : (w.alloc o).heap[tb]? = some (.cells cs 29 (0, 0)) := ((World.grownBy_alloc w o none).block tb hlt (by simp)).trans hx
  have h2 : w2.heap[tb]? = some (.cells cs 29 (0, 0)) := (hgrow.block tb (by simp; omega) (fun e1 => hu.ne_block hx he5 e1.symm)).trans h1
  have hne : tb ≠ bp := by
    intro e1
    have := h.blk
    rw [← e1, hx] at this
    simp at this
  exact ((grownBy_setCell w2 bp j u').block tb ((Array.getElem?_eq_some_iff.1 h2).1) (by simp; omega)).trans h2

theorem belowGrown' {v : Value} {e : TypeId} {z n : Nat} {xs : List Value} {w1 w2 : World} (hu : OwnS w1 B e z v n xs) (hg : w1.grownBy w2 v.ownBlock) (hB : B ≤ w1.heap.size) : Below B w1 w2 :=
  ⟨hg.os, hg.tape, hg.output, hg.size, fun k hk => hg.block k (by omega) (fun e => by have := (hu.lt e.symm).1; omega)⟩

theorem app_below (h : Mach w B bp pv mv S st C) {u u' : Value} {e : TypeId} {z n : Nat} {xs : List Value} (hu : OwnS w B e z u n xs) {o : Obj} {w2 : World} (hgrow : (w.alloc o).grownBy w2 u.ownBlock) (j : Nat) {w0 : World} (hb : Below B w0 w) :
    Below B w0 (w2.setCell ⟨bp, j, none⟩ u') :=
  hb.trans ((((Below.refl _ _).alloc (by have := h.lt; have := h.bpB; omega) o).trans (belowGrown' (hu.alloc o) hgrow (by have := h.lt; have := h.bpB; simp; omega))).setCell (p := ⟨bp, j, none⟩) h.bpB u')


def zs12 : Array Value := #[.slice none 0 0, .slice none 0 0, .int .i64 0, .int .i64 0, .int .i64 0, .slice none 0 0, .slice none 0 0, .slice none 0 0, .slice none 0 0, .slice none 0 0, .slice none 0 0, .slice none 0 0]

theorem heap_ext (w : World) (o : Obj) : (w.alloc o).heap = w.heap.push o := rfl

theorem app_blk {tb : Nat} {cs : Array Value} {ty : TypeId} (hx : w.heap[tb]? = some (.cells cs ty (0, 0))) (hne : tb ≠ bp) {u u' : Value} {e : TypeId} {z n : Nat} {xs : List Value} (hu : OwnS w B e z u n xs) (he5 : e ≠ ty) {o : Obj} {w2 : World} (hgrow : (w.alloc o).grownBy w2 u.ownBlock) (j : Nat) :
    (w2.setCell ⟨bp, j, none⟩ u').heap[tb]? = some (.cells cs ty (0, 0)) := by
  have hlt := (Array.getElem?_eq_some_iff.1 hx).1
  have h1 : (w.alloc o).heap[tb]? = some (.cells cs ty (0, 0)) := ((World.grownBy_alloc w o none).block tb hlt (by simp)).trans hx
  have h2 : w2.heap[tb]? = some (.cells cs ty (0, 0)) := (hgrow.block tb (by simp; omega) (fun e1 => hu.ne_block hx he5 e1.symm)).trans h1
  exact ((grownBy_setCell w2 bp j u').block tb ((Array.getElem?_eq_some_iff.1 h2).1) (by simp; omega)).trans h2

theorem app_boxes {cs : Array Value} (hx : w.heap[B]? = some (.cells cs 29 (0, 0)) ∧ w.heap[B + 1]? = some (.cells zs12 51 (0, 0)) ∧ B + 1 ≠ bp) (h : Mach w B bp pv mv S st C) {u u' : Value} {e : TypeId} {z n : Nat} {xs : List Value} (hu : OwnS w B e z u n xs) (he5 : e ≠ 29) (he51 : e ≠ 51) {o : Obj} {w2 : World} (hgrow : (w.alloc o).grownBy w2 u.ownBlock) (j : Nat) :
    (w2.setCell ⟨bp, j, none⟩ u').heap[B]? = some (.cells cs 29 (0, 0)) ∧ (w2.setCell ⟨bp, j, none⟩ u').heap[B + 1]? = some (.cells zs12 51 (0, 0)) ∧ B + 1 ≠ bp := by
  obtain ⟨h1, h2, hne⟩ := hx
  exact ⟨app_box h1 h hu he5 hgrow j, app_blk h2 hne hu he51 hgrow j, hne⟩

theorem _root_.Qn.Mach.result (h : Mach w B bp pv mv S st C) {w' : World} {g : Nat} {zs : Array Value} (hx : w.heap[g]? = some (.cells zs 51 (0, 0))) (hne : g ≠ bp) (hgB : B ≤ g) (hg : w.grownBy w' (some g)) : Mach w' B bp pv mv S st C :=
  h.other hg hne hgB (h.rs.ne_block hx (by decide)) (h.held.ne_block hx (by decide)) (h.shut.ne_block hx (by decide)) (h.groups.ne_block hx (by decide)) (h.cells.ne_block hx (by decide)) (h.ev.ne_block hx (by decide)) (fun i v hv => (h.qs i v hv).ne_block hx (by decide)) (boxTy h.box hx (by decide))

theorem row_facts {g n : Nat} {zs : Array Value} {ty : TypeId} (hx : w.heap[g]? = some (.cells zs ty (0, 0))) (hz : zs.size = n) : (∀ j, j < n → (w.cell? ⟨g, j, none⟩).isSome = true) ∧ ∀ j, w.frozen? ⟨g, j, none⟩ = false := by
  refine ⟨fun j hj => ?_, fun j => frozen_of_row w g j zs ty hx⟩
  rw [cell_of_row w g j zs ty (0, 0) hx]
  simp [hz, hj]

structure BSt (st : St) (a b c d : Nat) : Prop where
  rs : st.rs = [r0]
  held : st.held = List.replicate a []
  shut : st.shut = List.replicate b false
  groups : st.groups = List.replicate c 0
  cells : st.cells = List.replicate d 0
  ev : st.ev = 0

def BR (B bp : Nat) (pv mv : Value) (S : Psys) (cs : Array Value) (w0 wr : World) (a b c d : Nat) : Prop :=
  ∃ st C, Mach wr B bp pv mv S st C ∧ (BSt st a b c d ∧ C.lv = .slice none 0 0) ∧ (wr.heap[B]? = some (.cells cs 29 (0, 0)) ∧ wr.heap[B + 1]? = some (.cells zs12 51 (0, 0)) ∧ B + 1 ≠ bp) ∧ Below B w0 wr

theorem rep_snoc {α : Type} (k : Nat) (x : α) : List.replicate k x ++ [x] = List.replicate (k + 1) x := by
  rw [List.replicate_succ']

theorem held_next {wr w0 : World} {a b c d : Nat} {cs : Array Value} (h : Mach wr B bp pv mv S st C) (hs : BSt st a b c d ∧ C.lv = .slice none 0 0) (hx : wr.heap[B]? = some (.cells cs 29 (0, 0)) ∧ wr.heap[B + 1]? = some (.cells zs12 51 (0, 0)) ∧ B + 1 ≠ bp) (hb : Below B w0 wr) {o : Obj} {w2 : World} {v' xv : Value} (hxe : C.hv = xv) (hown : OwnS w2 B 24 1 v' (C.qs.length + 1) (C.qs ++ [.slice none 0 0]))
    (hgrow : (wr.alloc o).grownBy w2 xv.ownBlock) : BR B bp pv mv S cs w0 (w2.setCell ⟨bp, 6, none⟩ v') (a + 1) b c d := by
  subst hxe
  refine ⟨_, _, (h.alloc o).appendHeld v' hgrow hown, ⟨⟨hs.1.rs, ?_, hs.1.shut, hs.1.groups, hs.1.cells, hs.1.ev⟩, hs.2⟩,  app_boxes hx h h.held (by decide) (by decide) hgrow 6, app_below h h.held hgrow 6 hb⟩
  rw [hs.1.held]; exact rep_snoc a []
theorem shut_next {wr w0 : World} {a b c d : Nat} {cs : Array Value} (h : Mach wr B bp pv mv S st C) (hs : BSt st a b c d ∧ C.lv = .slice none 0 0) (hx : wr.heap[B]? = some (.cells cs 29 (0, 0)) ∧ wr.heap[B + 1]? = some (.cells zs12 51 (0, 0)) ∧ B + 1 ≠ bp) (hb : Below B w0 wr) {o : Obj} {w2 : World} {v' xv : Value} (hxe : C.sv = xv) (hown : OwnS w2 B 4 1 v' (st.shut.length + 1) (st.shut.map Value.bool ++ [.bool false]))
    (hgrow : (wr.alloc o).grownBy w2 xv.ownBlock) : BR B bp pv mv S cs w0 (w2.setCell ⟨bp, 7, none⟩ v') a (b + 1) c d := by
  subst hxe
  refine ⟨_, _, (h.alloc o).appendShut v' false hgrow hown, ⟨⟨hs.1.rs, hs.1.held, ?_, hs.1.groups, hs.1.cells, hs.1.ev⟩, hs.2⟩,  app_boxes hx h h.shut (by decide) (by decide) hgrow 7, app_below h h.shut hgrow 7 hb⟩
  rw [hs.1.shut]; exact rep_snoc b false
theorem group_next {wr w0 : World} {a b c d : Nat} {cs : Array Value} (h : Mach wr B bp pv mv S st C) (hs : BSt st a b c d ∧ C.lv = .slice none 0 0) (hx : wr.heap[B]? = some (.cells cs 29 (0, 0)) ∧ wr.heap[B + 1]? = some (.cells zs12 51 (0, 0)) ∧ B + 1 ≠ bp) (hb : Below B w0 wr) {o : Obj} {w2 : World} {v' xv : Value} (hxe : C.gv = xv) (hown : OwnS w2 B 3 1 v' (st.groups.length + 1) (st.groups.map (Value.int .i64) ++ [.int .i64 0]))
    (hgrow : (wr.alloc o).grownBy w2 xv.ownBlock) (hfr : v'.ownBlock = xv.ownBlock ∨ ∃ g, v'.ownBlock = some g ∧ wr.heap.size + 1 ≤ g) : BR B bp pv mv S cs w0 (w2.setCell ⟨bp, 9, none⟩ v') a b (c + 1) d := by
  subst hxe
  refine ⟨_, _, (h.alloc o).appendGroup v' 0 hgrow hown (by simpa using hfr), ⟨⟨hs.1.rs, hs.1.held, hs.1.shut, ?_, hs.1.cells, hs.1.ev⟩, hs.2⟩,  app_boxes hx h h.groups (by decide) (by decide) hgrow 9, app_below h h.groups hgrow 9 hb⟩
  rw [hs.1.groups]; exact rep_snoc c 0
theorem cell_next {wr w0 : World} {a b c d : Nat} {cs : Array Value} (h : Mach wr B bp pv mv S st C) (hs : BSt st a b c d ∧ C.lv = .slice none 0 0) (hx : wr.heap[B]? = some (.cells cs 29 (0, 0)) ∧ wr.heap[B + 1]? = some (.cells zs12 51 (0, 0)) ∧ B + 1 ≠ bp) (hb : Below B w0 wr) {o : Obj} {w2 : World} {v' xv : Value} (hxe : C.cv = xv) (hown : OwnS w2 B 3 1 v' (st.cells.length + 1) (st.cells.map (Value.int .i64) ++ [.int .i64 0]))
    (hgrow : (wr.alloc o).grownBy w2 xv.ownBlock) (hfr : v'.ownBlock = xv.ownBlock ∨ ∃ g, v'.ownBlock = some g ∧ wr.heap.size + 1 ≤ g) : BR B bp pv mv S cs w0 (w2.setCell ⟨bp, 10, none⟩ v') a b c (d + 1) := by
  subst hxe
  refine ⟨_, _, (h.alloc o).appendCell v' 0 hgrow hown (by simpa using hfr), ⟨⟨hs.1.rs, hs.1.held, hs.1.shut, hs.1.groups, ?_, hs.1.ev⟩, hs.2⟩,  app_boxes hx h h.cells (by decide) (by decide) hgrow 10, app_below h h.cells hgrow 10 hb⟩
  rw [hs.1.cells]; exact rep_snoc d 0


def Begun (pv mv : Value) (S : Psys) (b nr : Nat) (w : World) (e : Ending) (w' : World) : Prop :=
  ∃ bp st C, e = .returned (.agg #[pv, mv, .int .i64 1, .int .i64 0, .int .i64 S.ncells, C.rv, C.hv, C.sv, C.lv, C.gv, C.cv, C.ev]) ∧ Mach w' w.heap.size bp pv mv S st C ∧ (BSt st nr nr 1 b ∧ C.lv = .slice none 0 0) ∧ Below w.heap.size w w'

theorem below_sets {B : Nat} {w0 : World} (g : Nat) (hg : B ≤ g) : ∀ (vs : List Value) (o : Nat) (w : World), Below B w0 w → Below B w0 (w.setCells g o vs)
  | [], _, _, h => h
  | v :: vs, o, _, h => below_sets g hg vs (o + 1) _ (h.setCell (p := ⟨g, o, none⟩) hg v)

theorem begun_of {wr w0 : World} {b nr bp : Nat} (h : Mach wr w0.heap.size bp pv mv S st C) (hx : wr.heap[w0.heap.size + 1]? = some (.cells zs12 51 (0, 0))) (hne : w0.heap.size + 1 ≠ bp) (hs : BSt st nr nr 1 b ∧ C.lv = .slice none 0 0) (hb : Below w0.heap.size w0 wr)
    {v5 v6 v7 v9 v10 v11 : Value} (e5 : C.rv = v5) (e6 : C.hv = v6) (e7 : C.sv = v7) (e9 : C.gv = v9) (e10 : C.cv = v10) (e11 : C.ev = v11) (vs : List Value) :
    Begun pv mv S b nr w0 (.returned (.agg #[pv, mv, .int .i64 1, .int .i64 0, .int .i64 S.ncells, v5, v6, v7, .slice none 0 0, v9, v10, v11])) (wr.setCells (w0.heap.size + 1) 0 vs) := by
  subst e5 e6 e7 e9 e10 e11
  exact ⟨bp, st, C, by rw [hs.2], h.result hx hne (by omega) (grownBy_setCells _ _ _ _), hs, below_sets _ (by omega) _ _ _ hb⟩

theorem sys_below {w' : World} (h : SysMem w B pv mv S) (hb : Below w.heap.size w w') (hB : B ≤ w.heap.size) : SysMem w' B pv mv S := h.carry (fun k hk => hb.block k (by omega))


set_option maxHeartbeats 4000000 in
theorem begin_any (hS : SysMem w w.heap.size pv mv S) (hbx : S.box = none) (l0 : List Ins) (hl : S.progs[0]? = some l0) (hl0 : 0 < l0.length) (b : Nat) (hb : S.ncells = b) (hb2 : b ≤ 64) :
    Calls Try.prog 13 #[.agg #[pv, mv, .int .i64 1, .int .i64 0, .int .i64 S.ncells]] w fun e w' => Begun pv mv S b S.rooms.length w e w' := by
  obtain ⟨pb, cp, ib, ci, hpv, hpw, hpl, hpr⟩ := hS.progs
  obtain ⟨hib, hll, hp0, -⟩ := hpr 0 l0 hl
  obtain ⟨mb, cm, hmv, hmb, hml, -⟩ := hS.rooms
  obtain ⟨i24, hi24, hz240, hz241, hz242⟩ := info_parts info24
  obtain ⟨i4, hi4, hz40, hz41, hz42⟩ := info_parts info4
  obtain ⟨i3, hi3, hz30, hz31, hz32⟩ := info_parts info3
  have hlp := (List.getElem?_eq_some_iff.1 hl).1
  subst hpv hmv
  have HS := Lib.hid hS
  have HBX := Lib.hid hbx
  have HC := Lib.hid hb
  generalize hnl : l0.length = nl at *
  generalize hnp : S.progs.length = np at *
  generalize hnr : S.rooms.length = nr at *
  rw [hb]
  have p1 : pb < w.heap.size + 1 := by omega
  have p2 : pb < w.heap.size + 1 + 1 := by omega
  have p3 : pb < w.heap.size + 1 + 1 + 1 := by omega
  have hlz : ((nl : Int) == 0) = false := by simp; omega
  clear hS hl hpr hnl hnp hnr hb hbx
  go_enter Try.func13, Try.ntmps13
  go_upto_region 1 with (fail)
  go_region
  · go_wp2

    go_loopw [4] (fun i wr => ∃ k : Nat, k ≤ nr ∧ i = .int .i64 k ∧ BR w.heap.size (w.heap.size + 1 + 1 + 1) (.slice (some ⟨pb, 0, none⟩) np cp) (.slice (some ⟨mb, 0, none⟩) nr cm) S #[(.slice (some ⟨pb, 0, none⟩) np cp), (.slice (some ⟨mb, 0, none⟩) nr cm), .int .i64 1, .int .i64 0, .int .i64 b] w wr k k 0 0) (fun i _ => nr - (intOf i).toNat)
    case atStart =>
      refine ⟨0, by omega, rfl, _, _, start_mach (g := (w.heap.size + 1 + 1)) (sys_below HS.out ?e1 (Nat.le_refl _)) HBX.out ?e2 ?e3 (by omega) (by omega), ⟨⟨rfl, rfl, rfl, rfl, rfl, rfl⟩, rfl⟩, ?e4, ?e1⟩
      case e1 => exact (((((Below.refl _ _).alloc (Nat.le_refl _) _).alloc (by simp) _).alloc (by simp; omega) _).alloc (by simp; omega) _).drew
      case e2 => simp only [Go.heap_drew, heap_ext, Array.getElem?_push, Array.size_push]; simp [hlz]
      case e3 => simp only [Go.heap_drew, heap_ext, Array.getElem?_push, Array.size_push]; simp [HC.out]
      case e4 => (refine ⟨?_, ?_, by omega⟩ <;> (simp only [Go.heap_drew, heap_ext, Array.getElem?_push, Array.size_push]; (repeat rw [if_neg (by omega)]); rw [if_pos trivial]; try rfl))
    case round =>
      obtain ⟨k, hk, rfl, hbr⟩ := hrel
      have bx := hbr
      obtain ⟨st9, C9, hm9, -, hx9, -⟩ := bx
      have hsz9 := hm9.lt
      have hbB9 := hm9.bpB
      have b0 := (cell_of_row wr w.heap.size 1 _ 29 (0, 0) hx9.1).trans (show _ = some (.slice (some ⟨mb, 0, none⟩) nr cm) by rfl)
      clear hm9 hx9
      by_cases hlt : k < nr
      · skip
        obtain ⟨st1, C1, hm1, hs1, hx1, hb1⟩ := hbr
        have hle1 : C1.qs.length ≤ 1000 := by
          have h1 := hm1.ql; rw [hs1.1.held] at h1; simp at h1; omega
        obtain ⟨xa1, xc1, hxe1, -⟩ := hm1.held.isSlice
        have f1 := (hm1.wcell 6 _ rfl).trans (by rw [hxe1])
        have hsz1 := hm1.lt
        have hbB1 := hm1.bpB
        have HM1 := Lib.hid hm1
        have HX1 := Lib.hid hxe1
        have HO1 := Lib.hid (show OwnS _ w.heap.size 24 1 (.slice xa1 C1.qs.length xc1) C1.qs.length (C1.qs) from hxe1 ▸ hm1.held)
        have HR1 := Lib.hid (And.intro hs1 (And.intro hx1 hb1))
        clear hm1 hxe1 hs1 hx1 hb1
        generalize hL1 : C1.qs.length = L1 at *
        have HL1 := Lib.hid hL1
        clear hL1
        go_wp2_with ((at_builtin; refine wpList_append_ownS (v := .slice xa1 L1 xc1) rfl (.tmp 26) (.tmp 27) 48 rfl i24 (.slice none 0 0) 24 Try.underlying48 hi24 hz240 hz241 hz242 rfl (by decide) rfl (HO1.out.alloc _) ⟨_, 0, none⟩ 1 1 [.slice none 0 0] rfl rfl ?d11 ?d12 ?d13 ?d14 ?d15 ?_))
        case d11 => exact new_one _ _ _
        case d12 => intro u hu; simp at hu; subst hu; rfl
        case d13 => unfold maxLen; omega
        case d14 => omega
        case d15 => simp; omega
        intro v1 w1 hown hgrow hfr
        obtain ⟨a1, c1, rfl, -⟩ := hown.isSlice
        obtain ⟨g1, g2⟩ := app_facts HM1.out HM1.out.held (by decide) (by rw [HX1.out]; exact hgrow) 6 _ rfl
        have hbr := held_next HM1.out HR1.out.1 HR1.out.2.1 HR1.out.2.2 HX1.out (by rw [HL1.out]; exact hown) hgrow
        have HBR := Lib.hid hbr
        clear hown hgrow hfr hbr f1
        go_upto_region 6 with (fail)
        have hbr := HBR.out
        clear HBR g1 g2
        generalize w1.setCell ⟨(w.heap.size + 1 + 1 + 1), 6, none⟩ (.slice a1 (L1 + 1) c1) = u1 at *

        obtain ⟨st2, C2, hm2, hs2, hx2, hb2⟩ := hbr
        have hle2 : st2.shut.length ≤ 1000 := by
          rw [hs2.1.shut]; simp; omega
        obtain ⟨xa2, xc2, hxe2, -⟩ := hm2.shut.isSlice
        have f2 := (hm2.wcell 7 _ rfl).trans (by rw [hxe2])
        have hsz2 := hm2.lt
        have hbB2 := hm2.bpB
        have HM2 := Lib.hid hm2
        have HX2 := Lib.hid hxe2
        have HO2 := Lib.hid (show OwnS _ w.heap.size 4 1 (.slice xa2 st2.shut.length xc2) st2.shut.length (st2.shut.map Value.bool) from hxe2 ▸ hm2.shut)
        have HR2 := Lib.hid (And.intro hs2 (And.intro hx2 hb2))
        clear hm2 hxe2 hs2 hx2 hb2
        generalize hL2 : st2.shut.length = L2 at *
        have HL2 := Lib.hid hL2
        clear hL2
        go_wp2_with ((at_builtin; refine wpList_append_ownS (v := .slice xa2 L2 xc2) rfl (.tmp 31) (.tmp 32) 49 rfl i4 (.bool false) 1 Try.underlying49 hi4 hz40 hz41 hz42 rfl (by decide) rfl (HO2.out.alloc _) ⟨_, 0, none⟩ 1 1 [.bool false] rfl rfl ?d21 ?d22 ?d23 ?d24 ?d25 ?_))
        case d21 => exact new_one _ _ _
        case d22 => intro u hu; simp at hu; subst hu; rfl
        case d23 => unfold maxLen; omega
        case d24 => omega
        case d25 => simp; omega
        intro v2 w2 hown hgrow hfr
        obtain ⟨a2, c2, rfl, -⟩ := hown.isSlice
        obtain ⟨g1, g2⟩ := app_facts HM2.out HM2.out.shut (by decide) (by rw [HX2.out]; exact hgrow) 7 _ rfl
        have hbr := shut_next HM2.out HR2.out.1 HR2.out.2.1 HR2.out.2.2 HX2.out (by rw [HL2.out]; exact hown) hgrow
        have HBR := Lib.hid hbr
        clear hown hgrow hfr hbr f2
        go_wp2

        go_roundw
        case rel => exact ⟨k + 1, by omega, by go_num, HBR.out⟩
        case measure => simp [intOf]; omega
      · obtain rfl : nr = k := by omega
        clear hlt
        have HBR0 := Lib.hid hbr
        clear hbr
        go_wp2

        go_loopw [5] (fun i wr => i = .int .i64 0 ∧ BR w.heap.size (w.heap.size + 1 + 1 + 1) (.slice (some ⟨pb, 0, none⟩) np cp) (.slice (some ⟨mb, 0, none⟩) nr cm) S #[(.slice (some ⟨pb, 0, none⟩) np cp), (.slice (some ⟨mb, 0, none⟩) nr cm), .int .i64 1, .int .i64 0, .int .i64 b] w wr nr nr 0 0) (fun i _ => 0)
        case atStart => exact ⟨rfl, HBR0.out⟩
        case round =>
          obtain ⟨rfl, hbr⟩ := hrel
          clear HBR0
          have bx := hbr
          obtain ⟨st9, C9, hm9, -, hx9, -⟩ := bx
          have hsz9 := hm9.lt
          have hbB9 := hm9.bpB
          have b0 := (cell_of_row wr w.heap.size 3 _ 29 (0, 0) hx9.1).trans (show _ = some (.int .i64 0) by rfl)
          clear hm9 hx9
          have HBR0 := Lib.hid hbr
          clear hbr
          go_wp2

          go_loopw [6] (fun i wr => ∃ k : Nat, (k = 0 ∧ i = .int .i64 0 ∨ k = 1 ∧ i = .int .i64 1) ∧ BR w.heap.size (w.heap.size + 1 + 1 + 1) (.slice (some ⟨pb, 0, none⟩) np cp) (.slice (some ⟨mb, 0, none⟩) nr cm) S #[(.slice (some ⟨pb, 0, none⟩) np cp), (.slice (some ⟨mb, 0, none⟩) nr cm), .int .i64 1, .int .i64 0, .int .i64 b] w wr nr nr k 0) (fun i _ => 1 - (intOf i).toNat)
          case atStart => exact ⟨0, .inl ⟨rfl, rfl⟩, HBR0.out⟩
          case round =>
            obtain ⟨k, hki, hbr⟩ := hrel
            clear HBR0
            have bx := hbr
            obtain ⟨st9, C9, hm9, -, hx9, -⟩ := bx
            have hsz9 := hm9.lt
            have hbB9 := hm9.bpB
            have b0 := (cell_of_row wr w.heap.size 2 _ 29 (0, 0) hx9.1).trans (show _ = some (.int .i64 1) by rfl)
            clear hm9 hx9
            rcases hki with ⟨rfl, rfl⟩ | ⟨rfl, rfl⟩
            · skip
              obtain ⟨st4, C4, hm4, hs4, hx4, hb4⟩ := hbr
              have hle4 : st4.groups.length ≤ 1000 := by
                rw [hs4.1.groups]; simp
              obtain ⟨xa4, xc4, hxe4, -⟩ := hm4.groups.isSlice
              have f4 := (hm4.wcell 9 _ rfl).trans (by rw [hxe4])
              have hsz4 := hm4.lt
              have hbB4 := hm4.bpB
              have HM4 := Lib.hid hm4
              have HX4 := Lib.hid hxe4
              have HO4 := Lib.hid (show OwnS _ w.heap.size 3 1 (.slice xa4 st4.groups.length xc4) st4.groups.length (st4.groups.map (Value.int .i64)) from hxe4 ▸ hm4.groups)
              have HR4 := Lib.hid (And.intro hs4 (And.intro hx4 hb4))
              clear hm4 hxe4 hs4 hx4 hb4
              generalize hL4 : st4.groups.length = L4 at *
              have HL4 := Lib.hid hL4
              clear hL4
              go_wp2_with ((at_builtin; refine wpList_append_ownS (v := .slice xa4 L4 xc4) rfl (.tmp 53) (.tmp 54) 24 rfl i3 (.int .i64 0) 8 Try.underlying24 hi3 hz30 hz31 hz32 rfl (by decide) rfl (HO4.out.alloc _) ⟨_, 0, none⟩ 1 1 [.int .i64 0] rfl rfl ?d41 ?d42 ?d43 ?d44 ?d45 ?_))
              case d41 => exact new_one _ _ _
              case d42 => intro u hu; simp at hu; subst hu; rfl
              case d43 => unfold maxLen; omega
              case d44 => omega
              case d45 => simp; omega
              intro v4 w4 hown hgrow hfr
              obtain ⟨a4, c4, rfl, -⟩ := hown.isSlice
              obtain ⟨g1, g2⟩ := app_facts HM4.out HM4.out.groups (by decide) (by rw [HX4.out]; exact hgrow) 9 _ rfl
              have hbr := group_next HM4.out HR4.out.1 HR4.out.2.1 HR4.out.2.2 HX4.out (by rw [HL4.out]; exact hown) hgrow hfr
              have HBR := Lib.hid hbr
              clear hown hgrow hfr hbr f4
              go_wp2

              go_roundw
              case rel => exact ⟨1, .inr ⟨rfl, rfl⟩, HBR.out⟩
              case measure => simp [intOf]
            · skip
              have HBR0 := Lib.hid hbr
              clear hbr
              go_wp2

              go_loopw [7] (fun i wr => ∃ k : Nat, k ≤ b ∧ i = .int .i64 k ∧ BR w.heap.size (w.heap.size + 1 + 1 + 1) (.slice (some ⟨pb, 0, none⟩) np cp) (.slice (some ⟨mb, 0, none⟩) nr cm) S #[(.slice (some ⟨pb, 0, none⟩) np cp), (.slice (some ⟨mb, 0, none⟩) nr cm), .int .i64 1, .int .i64 0, .int .i64 b] w wr nr nr 1 k) (fun i _ => b - (intOf i).toNat)
              case atStart => exact ⟨0, by omega, rfl, HBR0.out⟩
              case round =>
                obtain ⟨k, hk, rfl, hbr⟩ := hrel
                clear HBR0
                have bx := hbr
                obtain ⟨st9, C9, hm9, -, hx9, -⟩ := bx
                have hsz9 := hm9.lt
                have hbB9 := hm9.bpB
                have b0 := (cell_of_row wr w.heap.size 4 _ 29 (0, 0) hx9.1).trans (show _ = some (.int .i64 b) by rfl)
                clear hm9 hx9
                by_cases hlt : k < b
                · skip
                  obtain ⟨st5, C5, hm5, hs5, hx5, hb5⟩ := hbr
                  have hle5 : st5.cells.length ≤ 1000 := by
                    rw [hs5.1.cells]; simp; omega
                  obtain ⟨xa5, xc5, hxe5, -⟩ := hm5.cells.isSlice
                  have f5 := (hm5.wcell 10 _ rfl).trans (by rw [hxe5])
                  have hsz5 := hm5.lt
                  have hbB5 := hm5.bpB
                  have HM5 := Lib.hid hm5
                  have HX5 := Lib.hid hxe5
                  have HO5 := Lib.hid (show OwnS _ w.heap.size 3 1 (.slice xa5 st5.cells.length xc5) st5.cells.length (st5.cells.map (Value.int .i64)) from hxe5 ▸ hm5.cells)
                  have HR5 := Lib.hid (And.intro hs5 (And.intro hx5 hb5))
                  clear hm5 hxe5 hs5 hx5 hb5
                  generalize hL5 : st5.cells.length = L5 at *
                  have HL5 := Lib.hid hL5
                  clear hL5
                  go_wp2_with ((at_builtin; refine wpList_append_ownS (v := .slice xa5 L5 xc5) rfl (.tmp 64) (.tmp 65) 24 rfl i3 (.int .i64 0) 8 Try.underlying24 hi3 hz30 hz31 hz32 rfl (by decide) rfl (HO5.out.alloc _) ⟨_, 0, none⟩ 1 1 [.int .i64 0] rfl rfl ?d51 ?d52 ?d53 ?d54 ?d55 ?_))
                  case d51 => exact new_one _ _ _
                  case d52 => intro u hu; simp at hu; subst hu; rfl
                  case d53 => unfold maxLen; omega
                  case d54 => omega
                  case d55 => simp; omega
                  intro v5 w5 hown hgrow hfr
                  obtain ⟨a5, c5, rfl, -⟩ := hown.isSlice
                  obtain ⟨g1, g2⟩ := app_facts HM5.out HM5.out.cells (by decide) (by rw [HX5.out]; exact hgrow) 10 _ rfl
                  have hbr := cell_next HM5.out HR5.out.1 HR5.out.2.1 HR5.out.2.2 HX5.out (by rw [HL5.out]; exact hown) hgrow hfr
                  have HBR := Lib.hid hbr
                  clear hown hgrow hfr hbr f5
                  go_wp2

                  go_roundw
                  case rel => exact ⟨k + 1, by omega, by go_num, HBR.out⟩
                  case measure => simp [intOf]; omega
                · obtain rfl : b = k := by omega
                  clear hlt
                  obtain ⟨st7, C7, hm7, hs7, ⟨-, hx7, hne7⟩, hb7⟩ := hbr
                  have z := fun j => cell_of_row wr (w.heap.size + 1) j zs12 51 (0, 0) hx7
                  have z0 := z 0
                  have z1 := z 1
                  have z2 := z 2
                  have z3 := z 3
                  have z4 := z 4
                  have z5 := z 5
                  have z6 := z 6
                  have z7 := z 7
                  have z8 := z 8
                  have z9 := z 9
                  have z10 := z 10
                  have z11 := z 11
                  have zf := fun j => frozen_of_row wr (w.heap.size + 1) j zs12 51 hx7
                  simp [zs12] at z0 z1 z2 z3 z4 z5 z6 z7 z8 z9 z10 z11
                  obtain ⟨ya5, yc5, h5e, -⟩ := hm7.rs.isSlice
                  obtain ⟨ya6, yc6, h6e, -⟩ := hm7.held.isSlice
                  obtain ⟨ya7, yc7, h7e, -⟩ := hm7.shut.isSlice
                  obtain ⟨ya9, yc9, h9e, -⟩ := hm7.groups.isSlice
                  obtain ⟨ya10, yc10, h10e, -⟩ := hm7.cells.isSlice
                  obtain ⟨ya11, yc11, h11e, -⟩ := hm7.ev.isSlice
                  generalize hL5 : st7.rs.length = L5 at h5e
                  generalize hL6 : C7.qs.length = L6 at h6e
                  generalize hL7 : st7.shut.length = L7 at h7e
                  generalize hL9 : st7.groups.length = L9 at h9e
                  generalize hL10 : st7.cells.length = L10 at h10e
                  generalize hL11 : st7.ev = L11 at h11e
                  have q0 := hm7.wcell 0 _ rfl
                  have q1 := hm7.wcell 1 _ rfl
                  have q2 := hm7.wcell 2 _ rfl
                  have q3 := hm7.wcell 3 _ rfl
                  have q4 := (hm7.wcell 4 _ rfl).trans (show _ = some (Value.int .i64 (b : Int)) by rw [HC.out])
                  have q5 := (hm7.wcell 5 _ rfl).trans (by rw [h5e])
                  have q6 := (hm7.wcell 6 _ rfl).trans (by rw [h6e])
                  have q7 := (hm7.wcell 7 _ rfl).trans (by rw [h7e])
                  have q8 := (hm7.wcell 8 _ rfl).trans (by rw [hs7.2])
                  have q9 := (hm7.wcell 9 _ rfl).trans (by rw [h9e])
                  have q10 := (hm7.wcell 10 _ rfl).trans (by rw [h10e])
                  have q11 := (hm7.wcell 11 _ rfl).trans (by rw [h11e])
                  have HS7 := Lib.hid hs7
                  have HB7 := Lib.hid hb7
                  have HX7 := Lib.hid hx7
                  have HE7 := Lib.hid (And.intro h5e (And.intro h6e (And.intro h7e (And.intro h9e (And.intro h10e h11e)))))
                  clear hs7 hb7 hx7 h5e h6e h7e h9e h10e h11e hL5 hL6 hL7 hL9 hL10 hL11
                  have hm := Lib.hid hm7
                  clear hm7 z
                  go_wp2
                  refine bodyPost_ret (v := .agg #[.slice (some ⟨pb, 0, none⟩) np cp, .slice (some ⟨mb, 0, none⟩) nr cm, .int .i64 1, .int .i64 0, .int .i64 S.ncells, .slice ya5 L5 yc5, .slice ya6 L6 yc6, .slice ya7 L7 yc7, .slice none 0 0, .slice ya9 L9 yc9, .slice ya10 L10 yc10, .slice ya11 L11 yc11]) (by simp [results, Try.results13, go_sem, HC.out, z0, z1, z2, z3, z4, z5, z6, z7, z8, z9, z10, z11]) rfl ?_
                  obtain ⟨e5, e6, e7, e9, e10, e11⟩ := HE7.out
                  have hF := begun_of hm.out HX7.out hne7 HS7.out HB7.out e5 e6 e7 e9 e10 e11 [.slice (some ⟨pb, 0, none⟩) np cp, .slice (some ⟨mb, 0, none⟩) nr cm, .int .i64 1, .int .i64 0, .int .i64 b, .slice ya5 L5 yc5, .slice ya6 L6 yc6, .slice ya7 L7 yc7, .slice none 0 0, .slice ya9 L9 yc9, .slice ya10 L10 yc10, .slice ya11 L11 yc11]
                  exact hF
  · go_wp2

    go_loopw [4] (fun i wr => ∃ k : Nat, k ≤ nr ∧ i = .int .i64 k ∧ BR w.heap.size (w.heap.size + 1 + 1) (.slice (some ⟨pb, 0, none⟩) np cp) (.slice (some ⟨mb, 0, none⟩) nr cm) S #[(.slice (some ⟨pb, 0, none⟩) np cp), (.slice (some ⟨mb, 0, none⟩) nr cm), .int .i64 1, .int .i64 0, .int .i64 b] w wr k k 0 0) (fun i _ => nr - (intOf i).toNat)
    case atStart =>
      refine ⟨0, by omega, rfl, _, _, start_mach (g := (w.heap.size + 1 + 1 + 1)) (sys_below HS.out ?e1 (Nat.le_refl _)) HBX.out ?e2 ?e3 (by omega) (by omega), ⟨⟨rfl, rfl, rfl, rfl, rfl, rfl⟩, rfl⟩, ?e4, ?e1⟩
      case e1 => exact (((((Below.refl _ _).alloc (Nat.le_refl _) _).alloc (by simp) _).alloc (by simp; omega) _).alloc (by simp; omega) _).drew
      case e2 => simp only [Go.heap_drew, heap_ext, Array.getElem?_push, Array.size_push]; simp [hlz]
      case e3 => simp only [Go.heap_drew, heap_ext, Array.getElem?_push, Array.size_push]; simp [HC.out]
      case e4 => (refine ⟨?_, ?_, by omega⟩ <;> (simp only [Go.heap_drew, heap_ext, Array.getElem?_push, Array.size_push]; (repeat rw [if_neg (by omega)]); rw [if_pos trivial]; try rfl))
    case round =>
      obtain ⟨k, hk, rfl, hbr⟩ := hrel
      have bx := hbr
      obtain ⟨st9, C9, hm9, -, hx9, -⟩ := bx
      have hsz9 := hm9.lt
      have hbB9 := hm9.bpB
      have b0 := (cell_of_row wr w.heap.size 1 _ 29 (0, 0) hx9.1).trans (show _ = some (.slice (some ⟨mb, 0, none⟩) nr cm) by rfl)
      clear hm9 hx9
      by_cases hlt : k < nr
      · skip
        obtain ⟨st1, C1, hm1, hs1, hx1, hb1⟩ := hbr
        have hle1 : C1.qs.length ≤ 1000 := by
          have h1 := hm1.ql; rw [hs1.1.held] at h1; simp at h1; omega
        obtain ⟨xa1, xc1, hxe1, -⟩ := hm1.held.isSlice
        have f1 := (hm1.wcell 6 _ rfl).trans (by rw [hxe1])
        have hsz1 := hm1.lt
        have hbB1 := hm1.bpB
        have HM1 := Lib.hid hm1
        have HX1 := Lib.hid hxe1
        have HO1 := Lib.hid (show OwnS _ w.heap.size 24 1 (.slice xa1 C1.qs.length xc1) C1.qs.length (C1.qs) from hxe1 ▸ hm1.held)
        have HR1 := Lib.hid (And.intro hs1 (And.intro hx1 hb1))
        clear hm1 hxe1 hs1 hx1 hb1
        generalize hL1 : C1.qs.length = L1 at *
        have HL1 := Lib.hid hL1
        clear hL1
        go_wp2_with ((at_builtin; refine wpList_append_ownS (v := .slice xa1 L1 xc1) rfl (.tmp 26) (.tmp 27) 48 rfl i24 (.slice none 0 0) 24 Try.underlying48 hi24 hz240 hz241 hz242 rfl (by decide) rfl (HO1.out.alloc _) ⟨_, 0, none⟩ 1 1 [.slice none 0 0] rfl rfl ?d11 ?d12 ?d13 ?d14 ?d15 ?_))
        case d11 => exact new_one _ _ _
        case d12 => intro u hu; simp at hu; subst hu; rfl
        case d13 => unfold maxLen; omega
        case d14 => omega
        case d15 => simp; omega
        intro v1 w1 hown hgrow hfr
        obtain ⟨a1, c1, rfl, -⟩ := hown.isSlice
        obtain ⟨g1, g2⟩ := app_facts HM1.out HM1.out.held (by decide) (by rw [HX1.out]; exact hgrow) 6 _ rfl
        have hbr := held_next HM1.out HR1.out.1 HR1.out.2.1 HR1.out.2.2 HX1.out (by rw [HL1.out]; exact hown) hgrow
        have HBR := Lib.hid hbr
        clear hown hgrow hfr hbr f1
        go_upto_region 6 with (fail)
        have hbr := HBR.out
        clear HBR g1 g2
        generalize w1.setCell ⟨(w.heap.size + 1 + 1), 6, none⟩ (.slice a1 (L1 + 1) c1) = u1 at *

        obtain ⟨st2, C2, hm2, hs2, hx2, hb2⟩ := hbr
        have hle2 : st2.shut.length ≤ 1000 := by
          rw [hs2.1.shut]; simp; omega
        obtain ⟨xa2, xc2, hxe2, -⟩ := hm2.shut.isSlice
        have f2 := (hm2.wcell 7 _ rfl).trans (by rw [hxe2])
        have hsz2 := hm2.lt
        have hbB2 := hm2.bpB
        have HM2 := Lib.hid hm2
        have HX2 := Lib.hid hxe2
        have HO2 := Lib.hid (show OwnS _ w.heap.size 4 1 (.slice xa2 st2.shut.length xc2) st2.shut.length (st2.shut.map Value.bool) from hxe2 ▸ hm2.shut)
        have HR2 := Lib.hid (And.intro hs2 (And.intro hx2 hb2))
        clear hm2 hxe2 hs2 hx2 hb2
        generalize hL2 : st2.shut.length = L2 at *
        have HL2 := Lib.hid hL2
        clear hL2
        go_wp2_with ((at_builtin; refine wpList_append_ownS (v := .slice xa2 L2 xc2) rfl (.tmp 31) (.tmp 32) 49 rfl i4 (.bool false) 1 Try.underlying49 hi4 hz40 hz41 hz42 rfl (by decide) rfl (HO2.out.alloc _) ⟨_, 0, none⟩ 1 1 [.bool false] rfl rfl ?d21 ?d22 ?d23 ?d24 ?d25 ?_))
        case d21 => exact new_one _ _ _
        case d22 => intro u hu; simp at hu; subst hu; rfl
        case d23 => unfold maxLen; omega
        case d24 => omega
        case d25 => simp; omega
        intro v2 w2 hown hgrow hfr
        obtain ⟨a2, c2, rfl, -⟩ := hown.isSlice
        obtain ⟨g1, g2⟩ := app_facts HM2.out HM2.out.shut (by decide) (by rw [HX2.out]; exact hgrow) 7 _ rfl
        have hbr := shut_next HM2.out HR2.out.1 HR2.out.2.1 HR2.out.2.2 HX2.out (by rw [HL2.out]; exact hown) hgrow
        have HBR := Lib.hid hbr
        clear hown hgrow hfr hbr f2
        go_wp2

        go_roundw
        case rel => exact ⟨k + 1, by omega, by go_num, HBR.out⟩
        case measure => simp [intOf]; omega
      · obtain rfl : nr = k := by omega
        clear hlt
        have HBR0 := Lib.hid hbr
        clear hbr
        go_wp2

        go_loopw [5] (fun i wr => i = .int .i64 0 ∧ BR w.heap.size (w.heap.size + 1 + 1) (.slice (some ⟨pb, 0, none⟩) np cp) (.slice (some ⟨mb, 0, none⟩) nr cm) S #[(.slice (some ⟨pb, 0, none⟩) np cp), (.slice (some ⟨mb, 0, none⟩) nr cm), .int .i64 1, .int .i64 0, .int .i64 b] w wr nr nr 0 0) (fun i _ => 0)
        case atStart => exact ⟨rfl, HBR0.out⟩
        case round =>
          obtain ⟨rfl, hbr⟩ := hrel
          clear HBR0
          have bx := hbr
          obtain ⟨st9, C9, hm9, -, hx9, -⟩ := bx
          have hsz9 := hm9.lt
          have hbB9 := hm9.bpB
          have b0 := (cell_of_row wr w.heap.size 3 _ 29 (0, 0) hx9.1).trans (show _ = some (.int .i64 0) by rfl)
          clear hm9 hx9
          have HBR0 := Lib.hid hbr
          clear hbr
          go_wp2

          go_loopw [6] (fun i wr => ∃ k : Nat, (k = 0 ∧ i = .int .i64 0 ∨ k = 1 ∧ i = .int .i64 1) ∧ BR w.heap.size (w.heap.size + 1 + 1) (.slice (some ⟨pb, 0, none⟩) np cp) (.slice (some ⟨mb, 0, none⟩) nr cm) S #[(.slice (some ⟨pb, 0, none⟩) np cp), (.slice (some ⟨mb, 0, none⟩) nr cm), .int .i64 1, .int .i64 0, .int .i64 b] w wr nr nr k 0) (fun i _ => 1 - (intOf i).toNat)
          case atStart => exact ⟨0, .inl ⟨rfl, rfl⟩, HBR0.out⟩
          case round =>
            obtain ⟨k, hki, hbr⟩ := hrel
            clear HBR0
            have bx := hbr
            obtain ⟨st9, C9, hm9, -, hx9, -⟩ := bx
            have hsz9 := hm9.lt
            have hbB9 := hm9.bpB
            have b0 := (cell_of_row wr w.heap.size 2 _ 29 (0, 0) hx9.1).trans (show _ = some (.int .i64 1) by rfl)
            clear hm9 hx9
            rcases hki with ⟨rfl, rfl⟩ | ⟨rfl, rfl⟩
            · skip
              obtain ⟨st4, C4, hm4, hs4, hx4, hb4⟩ := hbr
              have hle4 : st4.groups.length ≤ 1000 := by
                rw [hs4.1.groups]; simp
              obtain ⟨xa4, xc4, hxe4, -⟩ := hm4.groups.isSlice
              have f4 := (hm4.wcell 9 _ rfl).trans (by rw [hxe4])
              have hsz4 := hm4.lt
              have hbB4 := hm4.bpB
              have HM4 := Lib.hid hm4
              have HX4 := Lib.hid hxe4
              have HO4 := Lib.hid (show OwnS _ w.heap.size 3 1 (.slice xa4 st4.groups.length xc4) st4.groups.length (st4.groups.map (Value.int .i64)) from hxe4 ▸ hm4.groups)
              have HR4 := Lib.hid (And.intro hs4 (And.intro hx4 hb4))
              clear hm4 hxe4 hs4 hx4 hb4
              generalize hL4 : st4.groups.length = L4 at *
              have HL4 := Lib.hid hL4
              clear hL4
              go_wp2_with ((at_builtin; refine wpList_append_ownS (v := .slice xa4 L4 xc4) rfl (.tmp 53) (.tmp 54) 24 rfl i3 (.int .i64 0) 8 Try.underlying24 hi3 hz30 hz31 hz32 rfl (by decide) rfl (HO4.out.alloc _) ⟨_, 0, none⟩ 1 1 [.int .i64 0] rfl rfl ?d41 ?d42 ?d43 ?d44 ?d45 ?_))
              case d41 => exact new_one _ _ _
              case d42 => intro u hu; simp at hu; subst hu; rfl
              case d43 => unfold maxLen; omega
              case d44 => omega
              case d45 => simp; omega
              intro v4 w4 hown hgrow hfr
              obtain ⟨a4, c4, rfl, -⟩ := hown.isSlice
              obtain ⟨g1, g2⟩ := app_facts HM4.out HM4.out.groups (by decide) (by rw [HX4.out]; exact hgrow) 9 _ rfl
              have hbr := group_next HM4.out HR4.out.1 HR4.out.2.1 HR4.out.2.2 HX4.out (by rw [HL4.out]; exact hown) hgrow hfr
              have HBR := Lib.hid hbr
              clear hown hgrow hfr hbr f4
              go_wp2

              go_roundw
              case rel => exact ⟨1, .inr ⟨rfl, rfl⟩, HBR.out⟩
              case measure => simp [intOf]
            · skip
              have HBR0 := Lib.hid hbr
              clear hbr
              go_wp2

              go_loopw [7] (fun i wr => ∃ k : Nat, k ≤ b ∧ i = .int .i64 k ∧ BR w.heap.size (w.heap.size + 1 + 1) (.slice (some ⟨pb, 0, none⟩) np cp) (.slice (some ⟨mb, 0, none⟩) nr cm) S #[(.slice (some ⟨pb, 0, none⟩) np cp), (.slice (some ⟨mb, 0, none⟩) nr cm), .int .i64 1, .int .i64 0, .int .i64 b] w wr nr nr 1 k) (fun i _ => b - (intOf i).toNat)
              case atStart => exact ⟨0, by omega, rfl, HBR0.out⟩
              case round =>
                obtain ⟨k, hk, rfl, hbr⟩ := hrel
                clear HBR0
                have bx := hbr
                obtain ⟨st9, C9, hm9, -, hx9, -⟩ := bx
                have hsz9 := hm9.lt
                have hbB9 := hm9.bpB
                have b0 := (cell_of_row wr w.heap.size 4 _ 29 (0, 0) hx9.1).trans (show _ = some (.int .i64 b) by rfl)
                clear hm9 hx9
                by_cases hlt : k < b
                · skip
                  obtain ⟨st5, C5, hm5, hs5, hx5, hb5⟩ := hbr
                  have hle5 : st5.cells.length ≤ 1000 := by
                    rw [hs5.1.cells]; simp; omega
                  obtain ⟨xa5, xc5, hxe5, -⟩ := hm5.cells.isSlice
                  have f5 := (hm5.wcell 10 _ rfl).trans (by rw [hxe5])
                  have hsz5 := hm5.lt
                  have hbB5 := hm5.bpB
                  have HM5 := Lib.hid hm5
                  have HX5 := Lib.hid hxe5
                  have HO5 := Lib.hid (show OwnS _ w.heap.size 3 1 (.slice xa5 st5.cells.length xc5) st5.cells.length (st5.cells.map (Value.int .i64)) from hxe5 ▸ hm5.cells)
                  have HR5 := Lib.hid (And.intro hs5 (And.intro hx5 hb5))
                  clear hm5 hxe5 hs5 hx5 hb5
                  generalize hL5 : st5.cells.length = L5 at *
                  have HL5 := Lib.hid hL5
                  clear hL5
                  go_wp2_with ((at_builtin; refine wpList_append_ownS (v := .slice xa5 L5 xc5) rfl (.tmp 64) (.tmp 65) 24 rfl i3 (.int .i64 0) 8 Try.underlying24 hi3 hz30 hz31 hz32 rfl (by decide) rfl (HO5.out.alloc _) ⟨_, 0, none⟩ 1 1 [.int .i64 0] rfl rfl ?d51 ?d52 ?d53 ?d54 ?d55 ?_))
                  case d51 => exact new_one _ _ _
                  case d52 => intro u hu; simp at hu; subst hu; rfl
                  case d53 => unfold maxLen; omega
                  case d54 => omega
                  case d55 => simp; omega
                  intro v5 w5 hown hgrow hfr
                  obtain ⟨a5, c5, rfl, -⟩ := hown.isSlice
                  obtain ⟨g1, g2⟩ := app_facts HM5.out HM5.out.cells (by decide) (by rw [HX5.out]; exact hgrow) 10 _ rfl
                  have hbr := cell_next HM5.out HR5.out.1 HR5.out.2.1 HR5.out.2.2 HX5.out (by rw [HL5.out]; exact hown) hgrow hfr
                  have HBR := Lib.hid hbr
                  clear hown hgrow hfr hbr f5
                  go_wp2

                  go_roundw
                  case rel => exact ⟨k + 1, by omega, by go_num, HBR.out⟩
                  case measure => simp [intOf]; omega
                · obtain rfl : b = k := by omega
                  clear hlt
                  obtain ⟨st7, C7, hm7, hs7, ⟨-, hx7, hne7⟩, hb7⟩ := hbr
                  have z := fun j => cell_of_row wr (w.heap.size + 1) j zs12 51 (0, 0) hx7
                  have z0 := z 0
                  have z1 := z 1
                  have z2 := z 2
                  have z3 := z 3
                  have z4 := z 4
                  have z5 := z 5
                  have z6 := z 6
                  have z7 := z 7
                  have z8 := z 8
                  have z9 := z 9
                  have z10 := z 10
                  have z11 := z 11
                  have zf := fun j => frozen_of_row wr (w.heap.size + 1) j zs12 51 hx7
                  simp [zs12] at z0 z1 z2 z3 z4 z5 z6 z7 z8 z9 z10 z11
                  obtain ⟨ya5, yc5, h5e, -⟩ := hm7.rs.isSlice
                  obtain ⟨ya6, yc6, h6e, -⟩ := hm7.held.isSlice
                  obtain ⟨ya7, yc7, h7e, -⟩ := hm7.shut.isSlice
                  obtain ⟨ya9, yc9, h9e, -⟩ := hm7.groups.isSlice
                  obtain ⟨ya10, yc10, h10e, -⟩ := hm7.cells.isSlice
                  obtain ⟨ya11, yc11, h11e, -⟩ := hm7.ev.isSlice
                  generalize hL5 : st7.rs.length = L5 at h5e
                  generalize hL6 : C7.qs.length = L6 at h6e
                  generalize hL7 : st7.shut.length = L7 at h7e
                  generalize hL9 : st7.groups.length = L9 at h9e
                  generalize hL10 : st7.cells.length = L10 at h10e
                  generalize hL11 : st7.ev = L11 at h11e
                  have q0 := hm7.wcell 0 _ rfl
                  have q1 := hm7.wcell 1 _ rfl
                  have q2 := hm7.wcell 2 _ rfl
                  have q3 := hm7.wcell 3 _ rfl
                  have q4 := (hm7.wcell 4 _ rfl).trans (show _ = some (Value.int .i64 (b : Int)) by rw [HC.out])
                  have q5 := (hm7.wcell 5 _ rfl).trans (by rw [h5e])
                  have q6 := (hm7.wcell 6 _ rfl).trans (by rw [h6e])
                  have q7 := (hm7.wcell 7 _ rfl).trans (by rw [h7e])
                  have q8 := (hm7.wcell 8 _ rfl).trans (by rw [hs7.2])
                  have q9 := (hm7.wcell 9 _ rfl).trans (by rw [h9e])
                  have q10 := (hm7.wcell 10 _ rfl).trans (by rw [h10e])
                  have q11 := (hm7.wcell 11 _ rfl).trans (by rw [h11e])
                  have HS7 := Lib.hid hs7
                  have HB7 := Lib.hid hb7
                  have HX7 := Lib.hid hx7
                  have HE7 := Lib.hid (And.intro h5e (And.intro h6e (And.intro h7e (And.intro h9e (And.intro h10e h11e)))))
                  clear hs7 hb7 hx7 h5e h6e h7e h9e h10e h11e hL5 hL6 hL7 hL9 hL10 hL11
                  have hm := Lib.hid hm7
                  clear hm7 z
                  go_wp2
                  refine bodyPost_ret (v := .agg #[.slice (some ⟨pb, 0, none⟩) np cp, .slice (some ⟨mb, 0, none⟩) nr cm, .int .i64 1, .int .i64 0, .int .i64 S.ncells, .slice ya5 L5 yc5, .slice ya6 L6 yc6, .slice ya7 L7 yc7, .slice none 0 0, .slice ya9 L9 yc9, .slice ya10 L10 yc10, .slice ya11 L11 yc11]) (by simp [results, Try.results13, go_sem, HC.out, z0, z1, z2, z3, z4, z5, z6, z7, z8, z9, z10, z11]) rfl ?_
                  obtain ⟨e5, e6, e7, e9, e10, e11⟩ := HE7.out
                  have hF := begun_of hm.out HX7.out hne7 HS7.out HB7.out e5 e6 e7 e9 e10 e11 [.slice (some ⟨pb, 0, none⟩) np cp, .slice (some ⟨mb, 0, none⟩) nr cm, .int .i64 1, .int .i64 0, .int .i64 b, .slice ya5 L5 yc5, .slice ya6 L6 yc6, .slice ya7 L7 yc7, .slice none 0 0, .slice ya9 L9 yc9, .slice ya10 L10 yc10, .slice ya11 L11 yc11]
                  exact hF
end Go.Proofs.Ytnfbipohajphgaa
