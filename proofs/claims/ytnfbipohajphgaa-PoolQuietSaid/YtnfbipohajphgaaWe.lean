/- Walks: send, take, close. -/
import Derived.Test.YtnfbipohajphgaaWd
import Derived.Deep.AppendLies
import Derived.Test.YtnfbipohajphgaaRg
set_option linter.unusedVariables false
set_option linter.unusedSimpArgs false
namespace Go.Proofs.Ytnfbipohajphgaa
open Go.RowKit Qn PoolQ

variable {w : World} {B bp : Nat} {pv mv : Value} {S : Psys} {st : St} {C : Comp}

/-- The event that a step fills lies beside the machine, in a block of its own. -/
structure EvBlk (w : World) (B eb : Nat) (C : Comp) (who op a : Int) (v : Int) (s : Bool) : Prop where
  blk : w.heap[eb]? = some (.cells #[.int .i64 who, .int .i64 op, .int .i64 a, .int .i64 v, .bool s] 66 (0, 0))
  eB : B ≤ eb
  ne : C.ev.ownBlock ≠ some eb

theorem EvBlk.lt {eb : Nat} {who op a v : Int} {s : Bool} (h : EvBlk w B eb C who op a v s) : eb < w.heap.size := (Array.getElem?_eq_some_iff.1 h.blk).1
theorem EvBlk.neBlk {eb : Nat} {who op a v : Int} {s : Bool} (h : EvBlk w B eb C who op a v s) {b : Nat} {c : Array Value} {t : TypeId} (hb : w.heap[b]? = some (.cells c t (0, 0))) (ht : t ≠ 66) : eb ≠ b := by
  intro e
  have := h.blk
  rw [e, hb] at this
  simp at this
  exact ht this.2
theorem EvBlk.neOwn {eb : Nat} {who op a v : Int} {s : Bool} (h : EvBlk w B eb C who op a v s) {u : Value} {e : TypeId} {z n : Nat} {xs : List Value} (hu : OwnS w B e z u n xs) (ht : e ≠ 66) {g : Nat} (hg : u.ownBlock = some g) : eb ≠ g := by
  intro e1
  exact hu.ne_block h.blk ht (by rw [hg, e1])

theorem EvBlk.grown {w' : World} {eb : Nat} {who op a v : Int} {s : Bool} (h : EvBlk w B eb C who op a v s) (hg : w.grownBy w' none) : EvBlk w' B eb C who op a v s :=
  ⟨(hg.block eb h.lt (by simp)).trans h.blk, h.eB, h.ne⟩
theorem EvBlk.alloc {eb : Nat} {who op a v : Int} {s : Bool} (h : EvBlk w B eb C who op a v s) (o : Obj) : EvBlk (w.alloc o) B eb C who op a v s := h.grown (World.grownBy_alloc w o none)
theorem EvBlk.drewN {eb : Nat} {who op a v : Int} {s : Bool} (h : EvBlk w B eb C who op a v s) (n : Nat) : EvBlk (w.drewN n) B eb C who op a v s := h.grown ⟨rfl, rfl, rfl, Nat.le_refl _, fun _ _ _ => rfl⟩
theorem EvBlk.setV {eb : Nat} {who op a v : Int} {s : Bool} (h : EvBlk w B eb C who op a v s) (x : Int) : EvBlk (w.setCell ⟨eb, 3, none⟩ (.int .i64 x)) B eb C who op a x s :=
  ⟨by rw [heap_setCell_same w eb 3 _ 66 _ h.blk]; rfl, h.eB, h.ne⟩
theorem EvBlk.setS {eb : Nat} {who op a v : Int} {s : Bool} (h : EvBlk w B eb C who op a v s) (x : Bool) : EvBlk (w.setCell ⟨eb, 4, none⟩ (.bool x)) B eb C who op a v x :=
  ⟨by rw [heap_setCell_same w eb 4 _ 66 _ h.blk]; rfl, h.eB, h.ne⟩
theorem EvBlk.keep {w' : World} {eb g : Nat} {who op a v : Int} {s : Bool} (h : EvBlk w B eb C who op a v s) (hg : w.grownBy w' (some g)) (hne : eb ≠ g) : EvBlk w' B eb C who op a v s :=
  ⟨(hg.block eb h.lt (by simp [hne])).trans h.blk, h.eB, h.ne⟩
theorem EvBlk.keepV {w' : World} {eb : Nat} {who op a v : Int} {s : Bool} (h : EvBlk w B eb C who op a v s) {u : Value} (hg : w.grownBy w' u.ownBlock) (hne : u.ownBlock ≠ some eb) : EvBlk w' B eb C who op a v s :=
  ⟨(hg.block eb h.lt (fun e => hne e.symm)).trans h.blk, h.eB, h.ne⟩

/-- Storing into the event leaves the machine. -/
theorem new_one_at (w : World) (u : Value) (t : TypeId) (b : Nat) (hb : b = w.heap.size) : ∀ j x, [u][j]? = some x → (w.alloc (.cells #[u] t)).cell? ((⟨b, 0, none⟩ : Addr).add j) = some x := by
  subst hb; exact new_one w u t

theorem machEv (h : Mach w B bp pv mv S st C) {eb : Nat} {who op a v : Int} {s : Bool} (he : EvBlk w B eb C who op a v s) (j : Nat) (u : Value) : Mach (w.setCell ⟨eb, j, none⟩ u) B bp pv mv S st C := by
  refine h.other (grownBy_setCell w eb j u) (he.neBlk h.blk (by decide)) he.eB (h.rs.ne_block he.blk (by decide)) (h.held.ne_block he.blk (by decide)) (h.shut.ne_block he.blk (by decide)) (h.groups.ne_block he.blk (by decide)) (h.cells.ne_block he.blk (by decide)) he.ne (fun i v hv => (h.qs i v hv).ne_block he.blk (by decide)) (boxTy h.box he.blk (by decide))

theorem belowGrown {v : Value} {e : TypeId} {z n : Nat} {xs : List Value} {w1 w2 : World} (hu : OwnS w1 B e z v n xs) (hg : w1.grownBy w2 v.ownBlock) (hB : B ≤ w1.heap.size) : Below B w1 w2 :=
  ⟨hg.os, hg.tape, hg.output, hg.size, fun k hk => hg.block k (by omega) (fun e => by have := (hu.lt e.symm).1; omega)⟩

theorem evAt_of {eb : Nat} {who op a v : Int} {s : Bool} (h : EvBlk w B eb C who op a v s) : EvAt w eb who op a := ⟨v, s, h.blk⟩

theorem qsAt (h : Mach w B bp pv mv S st C) {an : Nat} {qv : Value} {L : List Int} (hqv : C.qs[an]? = some qv) (hL : st.held.getD an [] = L) : OwnS w B 3 1 qv L.length (L.map (Value.int .i64)) := hL ▸ h.qs an qv hqv

theorem send_done (h : Mach w B bp pv mv S st C) {eb : Nat} {who op a v : Int} {s : Bool} (he : EvBlk w B eb C who op a v s) (hB : B ≤ w.heap.size) {hb ho hc : Nat} (hhv : C.hv = .slice (some ⟨hb, ho, none⟩) C.qs.length hc) (hhB : B ≤ hb)
    (heh : eb ≠ hb) {an : Nat} {qv v' : Value} (hqv : C.qs[an]? = some qv) {o1 o2 : Obj} {n1 n2 : Nat} {y : Int} {w2 : World}
    (hgrow : (((((w.alloc o1).drewN n1).setCell ⟨eb, 3, none⟩ (.int .i64 y)).drewN n2).alloc o2).grownBy w2 qv.ownBlock)
    (hown' : OwnS w2 B 3 1 v' ((st.held.getD an []).length + 1) ((st.held.getD an []).map (Value.int .i64) ++ [.int .i64 y]))
    (hfr : v'.ownBlock = qv.ownBlock ∨ ∃ g, v'.ownBlock = some g ∧ (((((w.alloc o1).drewN n1).setCell ⟨eb, 3, none⟩ (.int .i64 y)).drewN n2).alloc o2).heap.size ≤ g) :
    Did B bp pv mv S eb who op C.ev { st with held := st.held.set an (st.held.getD an [] ++ [y]) } w (w2.setCell ⟨hb, ho + an, none⟩ v') := by
  have H1 := ((machN (machEv (machN (h.alloc o1) n1) ((he.alloc o1).drewN n1) 3 (.int .i64 y)) n2).alloc o2)
  have HO := H1.qs an qv hqv
  have HZ := H1.setHeld hhv an qv v' (st.held.getD an [] ++ [y]) hqv hgrow (by simpa using hown') hfr
  have HY := ((((he.alloc o1).drewN n1).setV y).drewN n2).alloc o2
  have HX := (HY.keepV hgrow (by intro e1; exact HY.neOwn HO (by decide) e1 rfl)).keep (grownBy_setCell w2 hb (ho + an) v') heh
  have b1 : Below B w ((((w.alloc o1).drewN n1).setCell ⟨eb, 3, none⟩ (.int .i64 y)).drewN n2) := belowN ((belowN ((Below.refl _ _).alloc hB _) _).trans (belowSet he.eB)) _
  have b2 := b1.alloc (by simp [World.setCell]; omega) o2
  exact ⟨_, _, HZ, rfl, evAt_of HX, (b2.trans (belowGrown HO hgrow (by simp [World.setCell]; omega))).trans (belowSet hhB)⟩

set_option maxHeartbeats 1000000 in
theorem chan_send (h : Mach w B bp pv mv S st C) (k : Nat) (hk : k < st.rs.length) (hn : st.rs.length ≤ 1000000) (an g : Nat) (c : Int) (hg : g < 8) (ha1 : an < st.shut.length) (ha2 : an < st.held.length) (hl3 : st.shut.length ≤ 64) (hl4 : st.held.length ≤ 64)
    (hs : st.shut.getD an false = false) (hql : (st.held.getD an []).length ≤ 1000000) (eb : Nat) (who op a v : Int) (s : Bool) (he : EvBlk w B eb C who op a v s) :
    Calls Try.prog 23 #[.pointer (some ⟨bp, 0, none⟩), .int .i64 k, .agg #[.int .i64 5, .int .i64 an, .int .i64 g, .int .i64 c], .pointer (some ⟨eb, 0, none⟩)] w fun e w' => e = .returned (.int .i64 0) ∧
      Did B bp pv mv S eb who op C.ev { st with held := st.held.set an (st.held.getD an [] ++ [reg (st.rs.getD k default) g]) } w w' := by
  obtain ⟨i0, hi, hz0, hz1, hz2⟩ := info_parts info3
  obtain ⟨rb, ro, rc, hrv, hrb, hrB⟩ := h.rform (by omega)
  have c5 := (h.wcell 5 _ rfl).trans (by rw [hrv])
  have r0 := h.regcell hrv k hk g hg
  obtain ⟨sb, so, sc, hsv, hsb, -⟩ := h.sform (by omega)
  have c7 := (h.wcell 7 _ rfl).trans (by rw [hsv])
  have s0 := h.scell hsv an ha1
  rw [hs] at s0
  obtain ⟨hb, ho, hc, hhv, hhb, hhB⟩ := h.hform (by rw [h.ql]; omega)
  have c6 := (h.wcell 6 _ rfl).trans (by rw [hhv])
  obtain ⟨qv, hqv, q1, q2⟩ := h.hcell hhv an ha2
  have ceb : w.cell? ⟨eb, 3, none⟩ = some (.int .i64 v) := by rw [cell_of_row w eb 3 _ 66 (0, 0) he.blk]; rfl
  have feb : w.frozen? ⟨eb, 3, none⟩ = false := frozen_of_row w eb 3 _ 66 he.blk
  have hebp := he.neBlk h.blk (by decide)
  have heh : eb ≠ hb := he.neOwn h.held (by decide) (by rw [hhv]; rfl)
  have hes : eb ≠ sb := he.neOwn h.shut (by decide) (by rw [hsv]; rfl)
  have helt := he.lt
  have hen : eb ≠ w.heap.size := by omega
  have hbp := h.lt
  have hB : B ≤ w.heap.size := by have := h.bpB; omega
  have hkn : (k : Int) < (st.rs.length : Int) := by omega
  have hkz : (0 : Int) ≤ (k : Int) := by omega
  have gi1 : (g : Int) < 8 := by omega
  have gj1 : (0 : Int) ≤ g := by omega
  have ai1 : (an : Int) < (st.shut.length : Int) := by omega
  have aj1 : (0 : Int) ≤ an := by omega
  have ai2 : (an : Int) < (C.qs.length : Int) := by rw [h.ql]; omega
  have ai3 : C.qs.length ≤ 64 := by rw [h.ql]; omega
  have e1 : (st.rs.getD k default).regs[g]?.getD 0 = reg (st.rs.getD k default) g := by simp [reg]
  rw [e1] at r0
  generalize reg (st.rs.getD k default) g = y at *
  have q3 : OwnS w B 3 1 qv (st.held.getD an []).length ((st.held.getD an []).map (Value.int .i64)) := h.qs an qv hqv
  obtain ⟨L, hL⟩ : ∃ L, st.held.getD an [] = L := ⟨_, rfl⟩
  rw [hL] at hql q2 q3 ⊢
  have HL := Lib.hid hL
  have HM := Lib.hid h
  have HE := Lib.hid he
  clear h he e1 hL q2
  go_enter Try.func23, Try.ntmps23
  go_upto_region 1 with (fail)
  go_quiet (fail)
  go_upto_region 5 with (fail)
  go_quiet (fail)
  go_upto_region 7 with (fail)
  have hbq : qv.ownBlock ≠ some bp := (HM.out.qs an qv hqv).ne_block HM.out.blk (by decide)
  have hnq : qv.ownBlock ≠ some w.heap.size := fun e => by have := ((HM.out.qs an qv hqv).lt e).2; omega
  have hhq : qv.ownBlock ≠ some hb := fun e => (HM.out.held.apart (HM.out.qs an qv hqv) (by decide)) hb (by rw [hhv]; rfl) e
  have hfz : w.frozen? ⟨hb, ho + an, none⟩ = false := HM.out.hfree hhv _
  have nB := hB
  refine region_flow [0,1,2,3,4,5,6,7,8,9,10,11,12,13,14] [15,16] [17,18] (fun w' : World => w'.cell? ⟨bp, 6, none⟩ = some (.slice (some ⟨hb, ho, none⟩) C.qs.length hc) ∧ w'.cell? ⟨hb, ho + an, none⟩ = some qv ∧ w'.cell? ⟨w.heap.size, 1, none⟩ = some (.int .i64 an))
    (by kernel_rfl) (by kernel_rfl) ?c0 (fun T hnT f hf => ?c1)
  case c0 => refine ⟨?_, ?_, ?_⟩ <;> go_keep
  have x1 := fun x => (hf x).1
  have x2 := fun x => (hf x).2.1
  have x3 := fun x => (hf x).2.2
  clear hf
  simp only [pick_cons, pick_nil, consO_some, List.getElem?_cons_zero, List.getElem?_cons_succ]
  repeat (go_big_quiet_step (fail))
  refine wpQuiet_nil ?_
  clear x1 x2 x3
  unfold wpChain
  go_wp2
  refine ⟨⟨?_, ?_, ?_⟩, ?_⟩
  · go_keep
  · go_keep
  · go_keep
  unfold wpChain
  (at_builtin; refine wpList_append_ownS (v := qv) rfl (.tmp 50) (.tmp 52) 24 rfl i0 (.int .i64 0) 8 Try.underlying24 hi hz0 hz1 hz2 rfl (by decide) rfl (qsAt ((machN (machEv (machN (HM.out.alloc _) _) ((HE.out.alloc _).drewN _) 3 _) _).alloc _) hqv HL.out) ⟨_, 0, none⟩ 1 1 [.int .i64 y] rfl rfl ?d1 ?d2 ?d3 ?d4 ?d5 ?_)
  case d1 => exact new_one_at _ _ _ _ (by simp [World.setCell])
  case d2 => simp [Value.oneCell']
  case d3 => unfold maxLen; omega
  case d4 => omega
  case d5 => simp [World.setCell]; omega
  intro v' w2 hown' hgrow hfr
  have hf2 : w2.frozen? ⟨hb, ho + an, none⟩ = false := (by rw [hgrow.frozen_far _ (by simp [World.setCell]; omega) (Ne.symm hhq)]; exact (((machN (machEv (machN (HM.out.alloc _) _) ((HE.out.alloc _).drewN _) 3 _) _).alloc _).hfree hhv _))
  have hc2 : w2.cell? ⟨hb, ho + an, none⟩ = some qv := (by rw [hgrow.cell_far _ (by simp [World.setCell]; omega) (Ne.symm hhq)]; exact (((machN (machEv (machN (HM.out.alloc _) _) ((HE.out.alloc _).drewN _) 3 _) _).alloc _).hread hhv _ _ hqv))
  have hc3 : w2.cell? ⟨bp, 6, none⟩ = some (.slice (some ⟨hb, ho, none⟩) C.qs.length hc) := (by rw [hgrow.cell_far _ (by simp [World.setCell]; omega) (Ne.symm hbq)]; go_keep)
  have hc4 : w2.cell? ⟨w.heap.size, 1, none⟩ = some (.int .i64 an) := (by rw [hgrow.cell_far _ (by simp [World.setCell]; omega) (Ne.symm hnq)]; go_keep)
  obtain ⟨a', cap', rfl, -⟩ := hown'.isSlice
  go_wp2
  refine ⟨⟨hc3, hc2, hc4⟩, ?_⟩
  unfold wpChain
  go_wp2
  go_ret
  have hL := HL.out
  subst hL
  exact ⟨rfl, send_done HM.out HE.out hB hhv hhB heh hqv hgrow hown' hfr⟩
end Go.Proofs.Ytnfbipohajphgaa
