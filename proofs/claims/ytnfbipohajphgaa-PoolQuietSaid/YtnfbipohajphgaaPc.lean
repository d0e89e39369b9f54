/- One step of each instruction of the pool's programs keeps what holds (printed by pool_cases_gen.py). -/
import Derived.Test.YtnfbipohajphgaaPl
namespace PoolQ
set_option linter.unusedVariables false
set_option linter.unusedSimpArgs false

theorem st_0_0 {W Q b jobs : Int} {st : St} (hI : Inv W Q b jobs st) (hW : 1 ≤ W) (hW2 : W ≤ 256) (hQ : 1 ≤ Q) (hb : 1 ≤ b) (hb2 : b ≤ 64) (hj : 0 ≤ jobs) (hj2 : jobs ≤ 1024) {k : Nat} (hk : k < st.rs.length) (x0 x1 x2 x3 x4 x5 x6 x7 : Int)
    (hr : st.rs.getD k default = ⟨0, 0, [x0, x1, x2, x3, x4, x5, x6, x7], false⟩) (hL : LI W b jobs ⟨0, 0, [x0, x1, x2, x3, x4, x5, x6, x7], false⟩)  :
    (step (poolSys W Q b jobs) st k).2 = 0 ∧ Inv W Q b jobs (step (poolSys W Q b jobs) st k).1 := by
  obtain ⟨l8, -, -, -, -, hC, hF⟩ := hL
  simp [-List.getD_eq_getElem?_getD, condC, condF, reg] at hC hF
  have hn := hI.n
  have hl := hI.hl
  have shl := hI.shl
  have gl := hI.gl
  have hl0 : 0 < st.held.length := by omega
  have hl1 : 1 < st.held.length := by omega
  have hl2 : 2 < st.held.length := by omega
  have sl0 : 0 < st.shut.length := by omega
  have sl1 : 1 < st.shut.length := by omega
  have gl0 : 0 < st.groups.length := by omega
  simp only [S_split _ st.rs k hk, hr] at hn
  have hR := ri_of W b jobs hW hW2 hb hb2 (st.rs.eraseIdx k) (fun x hx => hI.li x (List.mem_of_mem_eraseIdx hx))
  obtain ⟨r0, r1, r2, r3, r4, r5, r6, r7, r8, r9, r10, r11, r12, r13, r14, r15, r16, r17, r18, r19, r20, r21, r22, r23, r24⟩ := hR
  rw [S_mul] at r5 r12
  rw [S_add] at r24
  simp only [c0, c1, c2, c3, ws, fs, ls, tok, sent, grp, pot, potC, potW, potF, fpast, lw, lpast, wpast, cpast, reg, F0, shutAt, heldAt, Int.reduceLE, Int.reduceLT, Int.reduceEq, ge_iff_le, Int.le_refl, ↓reduceIte, and_true, true_and, and_false, false_and, List.getElem?_cons_succ, List.getElem?_cons_zero, Option.getD_some, List.length_append, List.length_cons, List.length_nil, Nat.reduceEqDiff, Nat.reduceLT, Nat.zero_ne_one, Nat.one_ne_zero, Int.reduceToNat, gt_iff_lt, reduceCtorEq, if_true, if_false] at hn
  obtain ⟨h00, h01, h02, h03, h04, h05, h06, h07, h08, h09, h10, h11, h12, h13, h14, h15⟩ := hn
  skip
  have hA : act (poolSys W Q b jobs) st k ⟨0, 0, [x0, x1, x2, x3, x4, x5, x6, x7], false⟩ (insOf (poolSys W Q b jobs) ⟨0, 0, [x0, x1, x2, x3, x4, x5, x6, x7], false⟩) = ({ rs := st.rs.set k ⟨0, 0, [0, x1, x2, x3, x4, x5, x6, x7], false⟩, held := st.held, shut := st.shut, groups := st.groups, cells := st.cells, ev := st.ev }, 0) := by
    simp [-List.getD_eq_getElem?_getD, act, insOf, poolSys, combP, I, reg, setReg, heldAt, shutAt, set_self _ _ _ _ hk hr]
  rw [step_put _ _ _ _ ⟨0, 0, [0, x1, x2, x3, x4, x5, x6, x7], false⟩ { rs := st.rs.set k ⟨0, 0, [0, x1, x2, x3, x4, x5, x6, x7], false⟩, held := st.held, shut := st.shut, groups := st.groups, cells := st.cells, ev := st.ev } hk hr hA]
  have hadv : adv (poolSys W Q b jobs) ⟨0, 0, [0, x1, x2, x3, x4, x5, x6, x7], false⟩ = ⟨0, 1, [0, x1, x2, x3, x4, x5, x6, x7], false⟩ := by simp [-List.getD_eq_getElem?_getD, adv, len, poolSys, combP]
  rw [hadv]
  refine ⟨rfl, inv_next hI hk ⟨0, 1, [0, x1, x2, x3, x4, x5, x6, x7], false⟩ ?_ _ _ _ _ ?_ ?_ ?_ ?_ ?_⟩
  case refine_1 =>
    refine ⟨rfl, by simp, by simp, by simp [-List.getD_eq_getElem?_getD, plen], by simp [-List.getD_eq_getElem?_getD, plen], ?_, ?_⟩
    · simp [-List.getD_eq_getElem?_getD, condC, reg] <;> omega
    · simp [-List.getD_eq_getElem?_getD, condF, reg] <;> omega
  case refine_6 =>
    constructor <;> (try simp only [c0, c1, c2, c3, ws, fs, ls, tok, sent, grp, pot, potC, potW, potF, fpast, lw, lpast, wpast, cpast, reg, F0, shutAt, heldAt, getD_set' _ _ _ _ _ hl0, getD_set' _ _ _ _ _ hl1, getD_set' _ _ _ _ _ hl2, getD_set' _ _ _ _ _ sl0, getD_set' _ _ _ _ _ sl1, getD_set' _ _ _ _ _ gl0, ge_iff_le, Int.le_refl, ↓reduceIte, and_true, true_and, and_false, false_and, List.getElem?_cons_succ, List.getElem?_cons_zero, Option.getD_some, List.length_append, List.length_cons, List.length_nil, Nat.reduceEqDiff, Nat.reduceLT, Nat.zero_ne_one, Nat.one_ne_zero, Int.reduceToNat, gt_iff_lt, reduceCtorEq, if_true, if_false]) <;> first | omega | assumption | exact ⟨fun h => by have := h08.1 h; omega, fun h => h08.2 (by omega)⟩ | exact ⟨fun h => by have := h09.1 h; omega, fun h => h09.2 (by omega)⟩ | (simp only [Int.le_refl, if_true]; omega) | (simp; omega)
  all_goals first | exact hI.hl | exact hI.shl | exact hI.gl | exact hI.cl | (simp [-List.getD_eq_getElem?_getD, hI.hl, hI.shl, hI.gl]; done) | (simpa using hI.cl)

theorem st_0_1 {W Q b jobs : Int} {st : St} (hI : Inv W Q b jobs st) (hW : 1 ≤ W) (hW2 : W ≤ 256) (hQ : 1 ≤ Q) (hb : 1 ≤ b) (hb2 : b ≤ 64) (hj : 0 ≤ jobs) (hj2 : jobs ≤ 1024) {k : Nat} (hk : k < st.rs.length) (x0 x1 x2 x3 x4 x5 x6 x7 : Int)
    (hr : st.rs.getD k default = ⟨0, 1, [x0, x1, x2, x3, x4, x5, x6, x7], false⟩) (hL : LI W b jobs ⟨0, 1, [x0, x1, x2, x3, x4, x5, x6, x7], false⟩)  :
    (step (poolSys W Q b jobs) st k).2 = 0 ∧ Inv W Q b jobs (step (poolSys W Q b jobs) st k).1 := by
  obtain ⟨l8, -, -, -, -, hC, hF⟩ := hL
  simp [-List.getD_eq_getElem?_getD, condC, condF, reg] at hC hF
  have hn := hI.n
  have hl := hI.hl
  have shl := hI.shl
  have gl := hI.gl
  have hl0 : 0 < st.held.length := by omega
  have hl1 : 1 < st.held.length := by omega
  have hl2 : 2 < st.held.length := by omega
  have sl0 : 0 < st.shut.length := by omega
  have sl1 : 1 < st.shut.length := by omega
  have gl0 : 0 < st.groups.length := by omega
  simp only [S_split _ st.rs k hk, hr] at hn
  have hR := ri_of W b jobs hW hW2 hb hb2 (st.rs.eraseIdx k) (fun x hx => hI.li x (List.mem_of_mem_eraseIdx hx))
  obtain ⟨r0, r1, r2, r3, r4, r5, r6, r7, r8, r9, r10, r11, r12, r13, r14, r15, r16, r17, r18, r19, r20, r21, r22, r23, r24⟩ := hR
  rw [S_mul] at r5 r12
  rw [S_add] at r24
  simp only [c0, c1, c2, c3, ws, fs, ls, tok, sent, grp, pot, potC, potW, potF, fpast, lw, lpast, wpast, cpast, reg, F0, shutAt, heldAt, Int.reduceLE, Int.reduceLT, Int.reduceEq, ge_iff_le, Int.le_refl, ↓reduceIte, and_true, true_and, and_false, false_and, List.getElem?_cons_succ, List.getElem?_cons_zero, Option.getD_some, List.length_append, List.length_cons, List.length_nil, Nat.reduceEqDiff, Nat.reduceLT, Nat.zero_ne_one, Nat.one_ne_zero, Int.reduceToNat, gt_iff_lt, reduceCtorEq, if_true, if_false] at hn
  obtain ⟨h00, h01, h02, h03, h04, h05, h06, h07, h08, h09, h10, h11, h12, h13, h14, h15⟩ := hn
  skip
  have hA : act (poolSys W Q b jobs) st k ⟨0, 1, [x0, x1, x2, x3, x4, x5, x6, x7], false⟩ (insOf (poolSys W Q b jobs) ⟨0, 1, [x0, x1, x2, x3, x4, x5, x6, x7], false⟩) = ({ rs := st.rs.set k ⟨0, 1, [x0, W, x2, x3, x4, x5, x6, x7], false⟩, held := st.held, shut := st.shut, groups := st.groups, cells := st.cells, ev := st.ev }, 0) := by
    simp [-List.getD_eq_getElem?_getD, act, insOf, poolSys, combP, I, reg, setReg, heldAt, shutAt, set_self _ _ _ _ hk hr]
  rw [step_put _ _ _ _ ⟨0, 1, [x0, W, x2, x3, x4, x5, x6, x7], false⟩ { rs := st.rs.set k ⟨0, 1, [x0, W, x2, x3, x4, x5, x6, x7], false⟩, held := st.held, shut := st.shut, groups := st.groups, cells := st.cells, ev := st.ev } hk hr hA]
  have hadv : adv (poolSys W Q b jobs) ⟨0, 1, [x0, W, x2, x3, x4, x5, x6, x7], false⟩ = ⟨0, 2, [x0, W, x2, x3, x4, x5, x6, x7], false⟩ := by simp [-List.getD_eq_getElem?_getD, adv, len, poolSys, combP]
  rw [hadv]
  refine ⟨rfl, inv_next hI hk ⟨0, 2, [x0, W, x2, x3, x4, x5, x6, x7], false⟩ ?_ _ _ _ _ ?_ ?_ ?_ ?_ ?_⟩
  case refine_1 =>
    refine ⟨rfl, by simp, by simp, by simp [-List.getD_eq_getElem?_getD, plen], by simp [-List.getD_eq_getElem?_getD, plen], ?_, ?_⟩
    · simp [-List.getD_eq_getElem?_getD, condC, reg] <;> omega
    · simp [-List.getD_eq_getElem?_getD, condF, reg] <;> omega
  case refine_6 =>
    constructor <;> (try simp only [c0, c1, c2, c3, ws, fs, ls, tok, sent, grp, pot, potC, potW, potF, fpast, lw, lpast, wpast, cpast, reg, F0, shutAt, heldAt, getD_set' _ _ _ _ _ hl0, getD_set' _ _ _ _ _ hl1, getD_set' _ _ _ _ _ hl2, getD_set' _ _ _ _ _ sl0, getD_set' _ _ _ _ _ sl1, getD_set' _ _ _ _ _ gl0, ge_iff_le, Int.le_refl, ↓reduceIte, and_true, true_and, and_false, false_and, List.getElem?_cons_succ, List.getElem?_cons_zero, Option.getD_some, List.length_append, List.length_cons, List.length_nil, Nat.reduceEqDiff, Nat.reduceLT, Nat.zero_ne_one, Nat.one_ne_zero, Int.reduceToNat, gt_iff_lt, reduceCtorEq, if_true, if_false]) <;> first | omega | assumption | exact ⟨fun h => by have := h08.1 h; omega, fun h => h08.2 (by omega)⟩ | exact ⟨fun h => by have := h09.1 h; omega, fun h => h09.2 (by omega)⟩ | (simp only [Int.le_refl, if_true]; omega) | (simp; omega)
  all_goals first | exact hI.hl | exact hI.shl | exact hI.gl | exact hI.cl | (simp [-List.getD_eq_getElem?_getD, hI.hl, hI.shl, hI.gl]; done) | (simpa using hI.cl)

theorem st_0_2 {W Q b jobs : Int} {st : St} (hI : Inv W Q b jobs st) (hW : 1 ≤ W) (hW2 : W ≤ 256) (hQ : 1 ≤ Q) (hb : 1 ≤ b) (hb2 : b ≤ 64) (hj : 0 ≤ jobs) (hj2 : jobs ≤ 1024) {k : Nat} (hk : k < st.rs.length) (x0 x1 x2 x3 x4 x5 x6 x7 : Int)
    (hr : st.rs.getD k default = ⟨0, 2, [x0, x1, x2, x3, x4, x5, x6, x7], false⟩) (hL : LI W b jobs ⟨0, 2, [x0, x1, x2, x3, x4, x5, x6, x7], false⟩)  :
    (step (poolSys W Q b jobs) st k).2 = 0 ∧ Inv W Q b jobs (step (poolSys W Q b jobs) st k).1 := by
  obtain ⟨l8, -, -, -, -, hC, hF⟩ := hL
  simp [-List.getD_eq_getElem?_getD, condC, condF, reg] at hC hF
  have hn := hI.n
  have hl := hI.hl
  have shl := hI.shl
  have gl := hI.gl
  have hl0 : 0 < st.held.length := by omega
  have hl1 : 1 < st.held.length := by omega
  have hl2 : 2 < st.held.length := by omega
  have sl0 : 0 < st.shut.length := by omega
  have sl1 : 1 < st.shut.length := by omega
  have gl0 : 0 < st.groups.length := by omega
  simp only [S_split _ st.rs k hk, hr] at hn
  have hR := ri_of W b jobs hW hW2 hb hb2 (st.rs.eraseIdx k) (fun x hx => hI.li x (List.mem_of_mem_eraseIdx hx))
  obtain ⟨r0, r1, r2, r3, r4, r5, r6, r7, r8, r9, r10, r11, r12, r13, r14, r15, r16, r17, r18, r19, r20, r21, r22, r23, r24⟩ := hR
  rw [S_mul] at r5 r12
  rw [S_add] at r24
  simp only [c0, c1, c2, c3, ws, fs, ls, tok, sent, grp, pot, potC, potW, potF, fpast, lw, lpast, wpast, cpast, reg, F0, shutAt, heldAt, Int.reduceLE, Int.reduceLT, Int.reduceEq, ge_iff_le, Int.le_refl, ↓reduceIte, and_true, true_and, and_false, false_and, List.getElem?_cons_succ, List.getElem?_cons_zero, Option.getD_some, List.length_append, List.length_cons, List.length_nil, Nat.reduceEqDiff, Nat.reduceLT, Nat.zero_ne_one, Nat.one_ne_zero, Int.reduceToNat, gt_iff_lt, reduceCtorEq, if_true, if_false] at hn
  obtain ⟨h00, h01, h02, h03, h04, h05, h06, h07, h08, h09, h10, h11, h12, h13, h14, h15⟩ := hn
  skip
  have hA : act (poolSys W Q b jobs) st k ⟨0, 2, [x0, x1, x2, x3, x4, x5, x6, x7], false⟩ (insOf (poolSys W Q b jobs) ⟨0, 2, [x0, x1, x2, x3, x4, x5, x6, x7], false⟩) = ({ rs := st.rs.set k ⟨0, 2, [x0, x1, 1, x3, x4, x5, x6, x7], false⟩, held := st.held, shut := st.shut, groups := st.groups, cells := st.cells, ev := st.ev }, 0) := by
    simp [-List.getD_eq_getElem?_getD, act, insOf, poolSys, combP, I, reg, setReg, heldAt, shutAt, set_self _ _ _ _ hk hr]
  rw [step_put _ _ _ _ ⟨0, 2, [x0, x1, 1, x3, x4, x5, x6, x7], false⟩ { rs := st.rs.set k ⟨0, 2, [x0, x1, 1, x3, x4, x5, x6, x7], false⟩, held := st.held, shut := st.shut, groups := st.groups, cells := st.cells, ev := st.ev } hk hr hA]
  have hadv : adv (poolSys W Q b jobs) ⟨0, 2, [x0, x1, 1, x3, x4, x5, x6, x7], false⟩ = ⟨0, 3, [x0, x1, 1, x3, x4, x5, x6, x7], false⟩ := by simp [-List.getD_eq_getElem?_getD, adv, len, poolSys, combP]
  rw [hadv]
  refine ⟨rfl, inv_next hI hk ⟨0, 3, [x0, x1, 1, x3, x4, x5, x6, x7], false⟩ ?_ _ _ _ _ ?_ ?_ ?_ ?_ ?_⟩
  case refine_1 =>
    refine ⟨rfl, by simp, by simp, by simp [-List.getD_eq_getElem?_getD, plen], by simp [-List.getD_eq_getElem?_getD, plen], ?_, ?_⟩
    · simp [-List.getD_eq_getElem?_getD, condC, reg] <;> omega
    · simp [-List.getD_eq_getElem?_getD, condF, reg] <;> omega
  case refine_6 =>
    constructor <;> (try simp only [c0, c1, c2, c3, ws, fs, ls, tok, sent, grp, pot, potC, potW, potF, fpast, lw, lpast, wpast, cpast, reg, F0, shutAt, heldAt, getD_set' _ _ _ _ _ hl0, getD_set' _ _ _ _ _ hl1, getD_set' _ _ _ _ _ hl2, getD_set' _ _ _ _ _ sl0, getD_set' _ _ _ _ _ sl1, getD_set' _ _ _ _ _ gl0, ge_iff_le, Int.le_refl, ↓reduceIte, and_true, true_and, and_false, false_and, List.getElem?_cons_succ, List.getElem?_cons_zero, Option.getD_some, List.length_append, List.length_cons, List.length_nil, Nat.reduceEqDiff, Nat.reduceLT, Nat.zero_ne_one, Nat.one_ne_zero, Int.reduceToNat, gt_iff_lt, reduceCtorEq, if_true, if_false]) <;> first | omega | assumption | exact ⟨fun h => by have := h08.1 h; omega, fun h => h08.2 (by omega)⟩ | exact ⟨fun h => by have := h09.1 h; omega, fun h => h09.2 (by omega)⟩ | (simp only [Int.le_refl, if_true]; omega) | (simp; omega)
  all_goals first | exact hI.hl | exact hI.shl | exact hI.gl | exact hI.cl | (simp [-List.getD_eq_getElem?_getD, hI.hl, hI.shl, hI.gl]; done) | (simpa using hI.cl)

theorem st_0_3y {W Q b jobs : Int} {st : St} (hI : Inv W Q b jobs st) (hW : 1 ≤ W) (hW2 : W ≤ 256) (hQ : 1 ≤ Q) (hb : 1 ≤ b) (hb2 : b ≤ 64) (hj : 0 ≤ jobs) (hj2 : jobs ≤ 1024) {k : Nat} (hk : k < st.rs.length) (x0 x1 x2 x3 x4 x5 x6 x7 : Int)
    (hr : st.rs.getD k default = ⟨0, 3, [x0, x1, x2, x3, x4, x5, x6, x7], false⟩) (hL : LI W b jobs ⟨0, 3, [x0, x1, x2, x3, x4, x5, x6, x7], false⟩) (hx : x0 < W) :
    (step (poolSys W Q b jobs) st k).2 = 0 ∧ Inv W Q b jobs (step (poolSys W Q b jobs) st k).1 := by
  obtain ⟨l8, -, -, -, -, hC, hF⟩ := hL
  simp [-List.getD_eq_getElem?_getD, condC, condF, reg] at hC hF
  have hn := hI.n
  have hl := hI.hl
  have shl := hI.shl
  have gl := hI.gl
  have hl0 : 0 < st.held.length := by omega
  have hl1 : 1 < st.held.length := by omega
  have hl2 : 2 < st.held.length := by omega
  have sl0 : 0 < st.shut.length := by omega
  have sl1 : 1 < st.shut.length := by omega
  have gl0 : 0 < st.groups.length := by omega
  simp only [S_split _ st.rs k hk, hr] at hn
  have hR := ri_of W b jobs hW hW2 hb hb2 (st.rs.eraseIdx k) (fun x hx => hI.li x (List.mem_of_mem_eraseIdx hx))
  obtain ⟨r0, r1, r2, r3, r4, r5, r6, r7, r8, r9, r10, r11, r12, r13, r14, r15, r16, r17, r18, r19, r20, r21, r22, r23, r24⟩ := hR
  rw [S_mul] at r5 r12
  rw [S_add] at r24
  simp only [c0, c1, c2, c3, ws, fs, ls, tok, sent, grp, pot, potC, potW, potF, fpast, lw, lpast, wpast, cpast, reg, F0, shutAt, heldAt, Int.reduceLE, Int.reduceLT, Int.reduceEq, ge_iff_le, Int.le_refl, ↓reduceIte, and_true, true_and, and_false, false_and, List.getElem?_cons_succ, List.getElem?_cons_zero, Option.getD_some, List.length_append, List.length_cons, List.length_nil, Nat.reduceEqDiff, Nat.reduceLT, Nat.zero_ne_one, Nat.one_ne_zero, Int.reduceToNat, gt_iff_lt, reduceCtorEq, if_true, if_false] at hn
  obtain ⟨h00, h01, h02, h03, h04, h05, h06, h07, h08, h09, h10, h11, h12, h13, h14, h15⟩ := hn
  have hlt : x0 < x1 := by omega
  have hA : act (poolSys W Q b jobs) st k ⟨0, 3, [x0, x1, x2, x3, x4, x5, x6, x7], false⟩ (insOf (poolSys W Q b jobs) ⟨0, 3, [x0, x1, x2, x3, x4, x5, x6, x7], false⟩) = ({ rs := st.rs.set k ⟨0, 4, [x0, x1, x2, x3, x4, x5, x6, x7], false⟩, held := st.held, shut := st.shut, groups := st.groups, cells := st.cells, ev := st.ev }, 0) := by
    simp [-List.getD_eq_getElem?_getD, act, insOf, poolSys, combP, I, reg, setReg, heldAt, shutAt, set_self _ _ _ _ hk hr, hlt, hx]
  rw [step_put _ _ _ _ ⟨0, 4, [x0, x1, x2, x3, x4, x5, x6, x7], false⟩ { rs := st.rs.set k ⟨0, 4, [x0, x1, x2, x3, x4, x5, x6, x7], false⟩, held := st.held, shut := st.shut, groups := st.groups, cells := st.cells, ev := st.ev } hk hr hA]
  have hadv : adv (poolSys W Q b jobs) ⟨0, 4, [x0, x1, x2, x3, x4, x5, x6, x7], false⟩ = ⟨0, 5, [x0, x1, x2, x3, x4, x5, x6, x7], false⟩ := by simp [-List.getD_eq_getElem?_getD, adv, len, poolSys, combP]
  rw [hadv]
  refine ⟨rfl, inv_next hI hk ⟨0, 5, [x0, x1, x2, x3, x4, x5, x6, x7], false⟩ ?_ _ _ _ _ ?_ ?_ ?_ ?_ ?_⟩
  case refine_1 =>
    refine ⟨rfl, by simp, by simp, by simp [-List.getD_eq_getElem?_getD, plen], by simp [-List.getD_eq_getElem?_getD, plen], ?_, ?_⟩
    · simp [-List.getD_eq_getElem?_getD, condC, reg] <;> omega
    · simp [-List.getD_eq_getElem?_getD, condF, reg] <;> omega
  case refine_6 =>
    constructor <;> (try simp only [c0, c1, c2, c3, ws, fs, ls, tok, sent, grp, pot, potC, potW, potF, fpast, lw, lpast, wpast, cpast, reg, F0, shutAt, heldAt, getD_set' _ _ _ _ _ hl0, getD_set' _ _ _ _ _ hl1, getD_set' _ _ _ _ _ hl2, getD_set' _ _ _ _ _ sl0, getD_set' _ _ _ _ _ sl1, getD_set' _ _ _ _ _ gl0, ge_iff_le, Int.le_refl, ↓reduceIte, and_true, true_and, and_false, false_and, List.getElem?_cons_succ, List.getElem?_cons_zero, Option.getD_some, List.length_append, List.length_cons, List.length_nil, Nat.reduceEqDiff, Nat.reduceLT, Nat.zero_ne_one, Nat.one_ne_zero, Int.reduceToNat, gt_iff_lt, reduceCtorEq, if_true, if_false]) <;> first | omega | assumption | exact ⟨fun h => by have := h08.1 h; omega, fun h => h08.2 (by omega)⟩ | exact ⟨fun h => by have := h09.1 h; omega, fun h => h09.2 (by omega)⟩ | (simp only [Int.le_refl, if_true]; omega) | (simp; omega)
  all_goals first | exact hI.hl | exact hI.shl | exact hI.gl | exact hI.cl | (simp [-List.getD_eq_getElem?_getD, hI.hl, hI.shl, hI.gl]; done) | (simpa using hI.cl)

theorem st_0_3n {W Q b jobs : Int} {st : St} (hI : Inv W Q b jobs st) (hW : 1 ≤ W) (hW2 : W ≤ 256) (hQ : 1 ≤ Q) (hb : 1 ≤ b) (hb2 : b ≤ 64) (hj : 0 ≤ jobs) (hj2 : jobs ≤ 1024) {k : Nat} (hk : k < st.rs.length) (x0 x1 x2 x3 x4 x5 x6 x7 : Int)
    (hr : st.rs.getD k default = ⟨0, 3, [x0, x1, x2, x3, x4, x5, x6, x7], false⟩) (hL : LI W b jobs ⟨0, 3, [x0, x1, x2, x3, x4, x5, x6, x7], false⟩) (hx : ¬ x0 < W) :
    (step (poolSys W Q b jobs) st k).2 = 0 ∧ Inv W Q b jobs (step (poolSys W Q b jobs) st k).1 := by
  obtain ⟨l8, -, -, -, -, hC, hF⟩ := hL
  simp [-List.getD_eq_getElem?_getD, condC, condF, reg] at hC hF
  have hn := hI.n
  have hl := hI.hl
  have shl := hI.shl
  have gl := hI.gl
  have hl0 : 0 < st.held.length := by omega
  have hl1 : 1 < st.held.length := by omega
  have hl2 : 2 < st.held.length := by omega
  have sl0 : 0 < st.shut.length := by omega
  have sl1 : 1 < st.shut.length := by omega
  have gl0 : 0 < st.groups.length := by omega
  simp only [S_split _ st.rs k hk, hr] at hn
  have hR := ri_of W b jobs hW hW2 hb hb2 (st.rs.eraseIdx k) (fun x hx => hI.li x (List.mem_of_mem_eraseIdx hx))
  obtain ⟨r0, r1, r2, r3, r4, r5, r6, r7, r8, r9, r10, r11, r12, r13, r14, r15, r16, r17, r18, r19, r20, r21, r22, r23, r24⟩ := hR
  rw [S_mul] at r5 r12
  rw [S_add] at r24
  simp only [c0, c1, c2, c3, ws, fs, ls, tok, sent, grp, pot, potC, potW, potF, fpast, lw, lpast, wpast, cpast, reg, F0, shutAt, heldAt, Int.reduceLE, Int.reduceLT, Int.reduceEq, ge_iff_le, Int.le_refl, ↓reduceIte, and_true, true_and, and_false, false_and, List.getElem?_cons_succ, List.getElem?_cons_zero, Option.getD_some, List.length_append, List.length_cons, List.length_nil, Nat.reduceEqDiff, Nat.reduceLT, Nat.zero_ne_one, Nat.one_ne_zero, Int.reduceToNat, gt_iff_lt, reduceCtorEq, if_true, if_false] at hn
  obtain ⟨h00, h01, h02, h03, h04, h05, h06, h07, h08, h09, h10, h11, h12, h13, h14, h15⟩ := hn
  have hlt : ¬ x0 < x1 := by omega
  have hA : act (poolSys W Q b jobs) st k ⟨0, 3, [x0, x1, x2, x3, x4, x5, x6, x7], false⟩ (insOf (poolSys W Q b jobs) ⟨0, 3, [x0, x1, x2, x3, x4, x5, x6, x7], false⟩) = ({ rs := st.rs.set k ⟨0, 3, [x0, x1, x2, x3, x4, x5, x6, x7], false⟩, held := st.held, shut := st.shut, groups := st.groups, cells := st.cells, ev := st.ev }, 0) := by
    simp [-List.getD_eq_getElem?_getD, act, insOf, poolSys, combP, I, reg, setReg, heldAt, shutAt, set_self _ _ _ _ hk hr, hlt, hx]
  rw [step_put _ _ _ _ ⟨0, 3, [x0, x1, x2, x3, x4, x5, x6, x7], false⟩ { rs := st.rs.set k ⟨0, 3, [x0, x1, x2, x3, x4, x5, x6, x7], false⟩, held := st.held, shut := st.shut, groups := st.groups, cells := st.cells, ev := st.ev } hk hr hA]
  have hadv : adv (poolSys W Q b jobs) ⟨0, 3, [x0, x1, x2, x3, x4, x5, x6, x7], false⟩ = ⟨0, 4, [x0, x1, x2, x3, x4, x5, x6, x7], false⟩ := by simp [-List.getD_eq_getElem?_getD, adv, len, poolSys, combP]
  rw [hadv]
  refine ⟨rfl, inv_next hI hk ⟨0, 4, [x0, x1, x2, x3, x4, x5, x6, x7], false⟩ ?_ _ _ _ _ ?_ ?_ ?_ ?_ ?_⟩
  case refine_1 =>
    refine ⟨rfl, by simp, by simp, by simp [-List.getD_eq_getElem?_getD, plen], by simp [-List.getD_eq_getElem?_getD, plen], ?_, ?_⟩
    · simp [-List.getD_eq_getElem?_getD, condC, reg] <;> omega
    · simp [-List.getD_eq_getElem?_getD, condF, reg] <;> omega
  case refine_6 =>
    constructor <;> (try simp only [c0, c1, c2, c3, ws, fs, ls, tok, sent, grp, pot, potC, potW, potF, fpast, lw, lpast, wpast, cpast, reg, F0, shutAt, heldAt, getD_set' _ _ _ _ _ hl0, getD_set' _ _ _ _ _ hl1, getD_set' _ _ _ _ _ hl2, getD_set' _ _ _ _ _ sl0, getD_set' _ _ _ _ _ sl1, getD_set' _ _ _ _ _ gl0, ge_iff_le, Int.le_refl, ↓reduceIte, and_true, true_and, and_false, false_and, List.getElem?_cons_succ, List.getElem?_cons_zero, Option.getD_some, List.length_append, List.length_cons, List.length_nil, Nat.reduceEqDiff, Nat.reduceLT, Nat.zero_ne_one, Nat.one_ne_zero, Int.reduceToNat, gt_iff_lt, reduceCtorEq, if_true, if_false]) <;> first | omega | assumption | exact ⟨fun h => by have := h08.1 h; omega, fun h => h08.2 (by omega)⟩ | exact ⟨fun h => by have := h09.1 h; omega, fun h => h09.2 (by omega)⟩ | (simp only [Int.le_refl, if_true]; omega) | (simp; omega)
  all_goals first | exact hI.hl | exact hI.shl | exact hI.gl | exact hI.cl | (simp [-List.getD_eq_getElem?_getD, hI.hl, hI.shl, hI.gl]; done) | (simpa using hI.cl)

theorem st_0_4 {W Q b jobs : Int} {st : St} (hI : Inv W Q b jobs st) (hW : 1 ≤ W) (hW2 : W ≤ 256) (hQ : 1 ≤ Q) (hb : 1 ≤ b) (hb2 : b ≤ 64) (hj : 0 ≤ jobs) (hj2 : jobs ≤ 1024) {k : Nat} (hk : k < st.rs.length) (x0 x1 x2 x3 x4 x5 x6 x7 : Int)
    (hr : st.rs.getD k default = ⟨0, 4, [x0, x1, x2, x3, x4, x5, x6, x7], false⟩) (hL : LI W b jobs ⟨0, 4, [x0, x1, x2, x3, x4, x5, x6, x7], false⟩)  :
    (step (poolSys W Q b jobs) st k).2 = 0 ∧ Inv W Q b jobs (step (poolSys W Q b jobs) st k).1 := by
  obtain ⟨l8, -, -, -, -, hC, hF⟩ := hL
  simp [-List.getD_eq_getElem?_getD, condC, condF, reg] at hC hF
  have hn := hI.n
  have hl := hI.hl
  have shl := hI.shl
  have gl := hI.gl
  have hl0 : 0 < st.held.length := by omega
  have hl1 : 1 < st.held.length := by omega
  have hl2 : 2 < st.held.length := by omega
  have sl0 : 0 < st.shut.length := by omega
  have sl1 : 1 < st.shut.length := by omega
  have gl0 : 0 < st.groups.length := by omega
  simp only [S_split _ st.rs k hk, hr] at hn
  have hR := ri_of W b jobs hW hW2 hb hb2 (st.rs.eraseIdx k) (fun x hx => hI.li x (List.mem_of_mem_eraseIdx hx))
  obtain ⟨r0, r1, r2, r3, r4, r5, r6, r7, r8, r9, r10, r11, r12, r13, r14, r15, r16, r17, r18, r19, r20, r21, r22, r23, r24⟩ := hR
  rw [S_mul] at r5 r12
  rw [S_add] at r24
  simp only [c0, c1, c2, c3, ws, fs, ls, tok, sent, grp, pot, potC, potW, potF, fpast, lw, lpast, wpast, cpast, reg, F0, shutAt, heldAt, Int.reduceLE, Int.reduceLT, Int.reduceEq, ge_iff_le, Int.le_refl, ↓reduceIte, and_true, true_and, and_false, false_and, List.getElem?_cons_succ, List.getElem?_cons_zero, Option.getD_some, List.length_append, List.length_cons, List.length_nil, Nat.reduceEqDiff, Nat.reduceLT, Nat.zero_ne_one, Nat.one_ne_zero, Int.reduceToNat, gt_iff_lt, reduceCtorEq, if_true, if_false] at hn
  obtain ⟨h00, h01, h02, h03, h04, h05, h06, h07, h08, h09, h10, h11, h12, h13, h14, h15⟩ := hn
  skip
  have hA : act (poolSys W Q b jobs) st k ⟨0, 4, [x0, x1, x2, x3, x4, x5, x6, x7], false⟩ (insOf (poolSys W Q b jobs) ⟨0, 4, [x0, x1, x2, x3, x4, x5, x6, x7], false⟩) = ({ rs := st.rs.set k ⟨0, 8, [x0, x1, x2, x3, x4, x5, x6, x7], false⟩, held := st.held, shut := st.shut, groups := st.groups, cells := st.cells, ev := st.ev }, 0) := by
    simp [-List.getD_eq_getElem?_getD, act, insOf, poolSys, combP, I, reg, setReg, heldAt, shutAt, set_self _ _ _ _ hk hr]
  rw [step_put _ _ _ _ ⟨0, 8, [x0, x1, x2, x3, x4, x5, x6, x7], false⟩ { rs := st.rs.set k ⟨0, 8, [x0, x1, x2, x3, x4, x5, x6, x7], false⟩, held := st.held, shut := st.shut, groups := st.groups, cells := st.cells, ev := st.ev } hk hr hA]
  have hadv : adv (poolSys W Q b jobs) ⟨0, 8, [x0, x1, x2, x3, x4, x5, x6, x7], false⟩ = ⟨0, 9, [x0, x1, x2, x3, x4, x5, x6, x7], false⟩ := by simp [-List.getD_eq_getElem?_getD, adv, len, poolSys, combP]
  rw [hadv]
  refine ⟨rfl, inv_next hI hk ⟨0, 9, [x0, x1, x2, x3, x4, x5, x6, x7], false⟩ ?_ _ _ _ _ ?_ ?_ ?_ ?_ ?_⟩
  case refine_1 =>
    refine ⟨rfl, by simp, by simp, by simp [-List.getD_eq_getElem?_getD, plen], by simp [-List.getD_eq_getElem?_getD, plen], ?_, ?_⟩
    · simp [-List.getD_eq_getElem?_getD, condC, reg] <;> omega
    · simp [-List.getD_eq_getElem?_getD, condF, reg] <;> omega
  case refine_6 =>
    constructor <;> (try simp only [c0, c1, c2, c3, ws, fs, ls, tok, sent, grp, pot, potC, potW, potF, fpast, lw, lpast, wpast, cpast, reg, F0, shutAt, heldAt, getD_set' _ _ _ _ _ hl0, getD_set' _ _ _ _ _ hl1, getD_set' _ _ _ _ _ hl2, getD_set' _ _ _ _ _ sl0, getD_set' _ _ _ _ _ sl1, getD_set' _ _ _ _ _ gl0, ge_iff_le, Int.le_refl, ↓reduceIte, and_true, true_and, and_false, false_and, List.getElem?_cons_succ, List.getElem?_cons_zero, Option.getD_some, List.length_append, List.length_cons, List.length_nil, Nat.reduceEqDiff, Nat.reduceLT, Nat.zero_ne_one, Nat.one_ne_zero, Int.reduceToNat, gt_iff_lt, reduceCtorEq, if_true, if_false]) <;> first | omega | assumption | exact ⟨fun h => by have := h08.1 h; omega, fun h => h08.2 (by omega)⟩ | exact ⟨fun h => by have := h09.1 h; omega, fun h => h09.2 (by omega)⟩ | (simp only [Int.le_refl, if_true]; omega) | (simp; omega)
  all_goals first | exact hI.hl | exact hI.shl | exact hI.gl | exact hI.cl | (simp [-List.getD_eq_getElem?_getD, hI.hl, hI.shl, hI.gl]; done) | (simpa using hI.cl)

theorem st_0_5 {W Q b jobs : Int} {st : St} (hI : Inv W Q b jobs st) (hW : 1 ≤ W) (hW2 : W ≤ 256) (hQ : 1 ≤ Q) (hb : 1 ≤ b) (hb2 : b ≤ 64) (hj : 0 ≤ jobs) (hj2 : jobs ≤ 1024) {k : Nat} (hk : k < st.rs.length) (x0 x1 x2 x3 x4 x5 x6 x7 : Int)
    (hr : st.rs.getD k default = ⟨0, 5, [x0, x1, x2, x3, x4, x5, x6, x7], false⟩) (hL : LI W b jobs ⟨0, 5, [x0, x1, x2, x3, x4, x5, x6, x7], false⟩)  :
    (step (poolSys W Q b jobs) st k).2 = 0 ∧ Inv W Q b jobs (step (poolSys W Q b jobs) st k).1 := by
  obtain ⟨l8, -, -, -, -, hC, hF⟩ := hL
  simp [-List.getD_eq_getElem?_getD, condC, condF, reg] at hC hF
  have hn := hI.n
  have hl := hI.hl
  have shl := hI.shl
  have gl := hI.gl
  have hl0 : 0 < st.held.length := by omega
  have hl1 : 1 < st.held.length := by omega
  have hl2 : 2 < st.held.length := by omega
  have sl0 : 0 < st.shut.length := by omega
  have sl1 : 1 < st.shut.length := by omega
  have gl0 : 0 < st.groups.length := by omega
  simp only [S_split _ st.rs k hk, hr] at hn
  have hR := ri_of W b jobs hW hW2 hb hb2 (st.rs.eraseIdx k) (fun x hx => hI.li x (List.mem_of_mem_eraseIdx hx))
  obtain ⟨r0, r1, r2, r3, r4, r5, r6, r7, r8, r9, r10, r11, r12, r13, r14, r15, r16, r17, r18, r19, r20, r21, r22, r23, r24⟩ := hR
  rw [S_mul] at r5 r12
  rw [S_add] at r24
  simp only [c0, c1, c2, c3, ws, fs, ls, tok, sent, grp, pot, potC, potW, potF, fpast, lw, lpast, wpast, cpast, reg, F0, shutAt, heldAt, Int.reduceLE, Int.reduceLT, Int.reduceEq, ge_iff_le, Int.le_refl, ↓reduceIte, and_true, true_and, and_false, false_and, List.getElem?_cons_succ, List.getElem?_cons_zero, Option.getD_some, List.length_append, List.length_cons, List.length_nil, Nat.reduceEqDiff, Nat.reduceLT, Nat.zero_ne_one, Nat.one_ne_zero, Int.reduceToNat, gt_iff_lt, reduceCtorEq, if_true, if_false] at hn
  obtain ⟨h00, h01, h02, h03, h04, h05, h06, h07, h08, h09, h10, h11, h12, h13, h14, h15⟩ := hn
  have hw : wrap (st.groups.getD 0 0 + 1) = st.groups.getD 0 0 + 1 := wrap_in _ (by omega)
  have hge : ¬ st.groups.getD 0 0 + 1 < 0 := by omega
  have hA : act (poolSys W Q b jobs) st k ⟨0, 5, [x0, x1, x2, x3, x4, x5, x6, x7], false⟩ (insOf (poolSys W Q b jobs) ⟨0, 5, [x0, x1, x2, x3, x4, x5, x6, x7], false⟩) = ({ rs := st.rs.set k ⟨0, 5, [x0, x1, x2, x3, x4, x5, x6, x7], false⟩, held := st.held, shut := st.shut, groups := (st.groups.set 0 (st.groups.getD 0 0 + 1)), cells := st.cells, ev := st.ev }, 0) := by
    simp [-List.getD_eq_getElem?_getD, act, insOf, poolSys, combP, I, reg, setReg, heldAt, shutAt, set_self _ _ _ _ hk hr, hw, hge]
  rw [step_put _ _ _ _ ⟨0, 5, [x0, x1, x2, x3, x4, x5, x6, x7], false⟩ { rs := st.rs.set k ⟨0, 5, [x0, x1, x2, x3, x4, x5, x6, x7], false⟩, held := st.held, shut := st.shut, groups := (st.groups.set 0 (st.groups.getD 0 0 + 1)), cells := st.cells, ev := st.ev } hk hr hA]
  have hadv : adv (poolSys W Q b jobs) ⟨0, 5, [x0, x1, x2, x3, x4, x5, x6, x7], false⟩ = ⟨0, 6, [x0, x1, x2, x3, x4, x5, x6, x7], false⟩ := by simp [-List.getD_eq_getElem?_getD, adv, len, poolSys, combP]
  rw [hadv]
  refine ⟨rfl, inv_next hI hk ⟨0, 6, [x0, x1, x2, x3, x4, x5, x6, x7], false⟩ ?_ _ _ _ _ ?_ ?_ ?_ ?_ ?_⟩
  case refine_1 =>
    refine ⟨rfl, by simp, by simp, by simp [-List.getD_eq_getElem?_getD, plen], by simp [-List.getD_eq_getElem?_getD, plen], ?_, ?_⟩
    · simp [-List.getD_eq_getElem?_getD, condC, reg] <;> omega
    · simp [-List.getD_eq_getElem?_getD, condF, reg] <;> omega
  case refine_6 =>
    constructor <;> (try simp only [c0, c1, c2, c3, ws, fs, ls, tok, sent, grp, pot, potC, potW, potF, fpast, lw, lpast, wpast, cpast, reg, F0, shutAt, heldAt, getD_set' _ _ _ _ _ hl0, getD_set' _ _ _ _ _ hl1, getD_set' _ _ _ _ _ hl2, getD_set' _ _ _ _ _ sl0, getD_set' _ _ _ _ _ sl1, getD_set' _ _ _ _ _ gl0, ge_iff_le, Int.le_refl, ↓reduceIte, and_true, true_and, and_false, false_and, List.getElem?_cons_succ, List.getElem?_cons_zero, Option.getD_some, List.length_append, List.length_cons, List.length_nil, Nat.reduceEqDiff, Nat.reduceLT, Nat.zero_ne_one, Nat.one_ne_zero, Int.reduceToNat, gt_iff_lt, reduceCtorEq, if_true, if_false]) <;> first | omega | assumption | exact ⟨fun h => by have := h08.1 h; omega, fun h => h08.2 (by omega)⟩ | exact ⟨fun h => by have := h09.1 h; omega, fun h => h09.2 (by omega)⟩ | (simp only [Int.le_refl, if_true]; omega) | (simp; omega)
  all_goals first | exact hI.hl | exact hI.shl | exact hI.gl | exact hI.cl | (simp [-List.getD_eq_getElem?_getD, hI.hl, hI.shl, hI.gl]; done) | (simpa using hI.cl)

theorem st_0_7 {W Q b jobs : Int} {st : St} (hI : Inv W Q b jobs st) (hW : 1 ≤ W) (hW2 : W ≤ 256) (hQ : 1 ≤ Q) (hb : 1 ≤ b) (hb2 : b ≤ 64) (hj : 0 ≤ jobs) (hj2 : jobs ≤ 1024) {k : Nat} (hk : k < st.rs.length) (x0 x1 x2 x3 x4 x5 x6 x7 : Int)
    (hr : st.rs.getD k default = ⟨0, 7, [x0, x1, x2, x3, x4, x5, x6, x7], false⟩) (hL : LI W b jobs ⟨0, 7, [x0, x1, x2, x3, x4, x5, x6, x7], false⟩)  :
    (step (poolSys W Q b jobs) st k).2 = 0 ∧ Inv W Q b jobs (step (poolSys W Q b jobs) st k).1 := by
  obtain ⟨l8, -, -, -, -, hC, hF⟩ := hL
  simp [-List.getD_eq_getElem?_getD, condC, condF, reg] at hC hF
  have hn := hI.n
  have hl := hI.hl
  have shl := hI.shl
  have gl := hI.gl
  have hl0 : 0 < st.held.length := by omega
  have hl1 : 1 < st.held.length := by omega
  have hl2 : 2 < st.held.length := by omega
  have sl0 : 0 < st.shut.length := by omega
  have sl1 : 1 < st.shut.length := by omega
  have gl0 : 0 < st.groups.length := by omega
  simp only [S_split _ st.rs k hk, hr] at hn
  have hR := ri_of W b jobs hW hW2 hb hb2 (st.rs.eraseIdx k) (fun x hx => hI.li x (List.mem_of_mem_eraseIdx hx))
  obtain ⟨r0, r1, r2, r3, r4, r5, r6, r7, r8, r9, r10, r11, r12, r13, r14, r15, r16, r17, r18, r19, r20, r21, r22, r23, r24⟩ := hR
  rw [S_mul] at r5 r12
  rw [S_add] at r24
  simp only [c0, c1, c2, c3, ws, fs, ls, tok, sent, grp, pot, potC, potW, potF, fpast, lw, lpast, wpast, cpast, reg, F0, shutAt, heldAt, Int.reduceLE, Int.reduceLT, Int.reduceEq, ge_iff_le, Int.le_refl, ↓reduceIte, and_true, true_and, and_false, false_and, List.getElem?_cons_succ, List.getElem?_cons_zero, Option.getD_some, List.length_append, List.length_cons, List.length_nil, Nat.reduceEqDiff, Nat.reduceLT, Nat.zero_ne_one, Nat.one_ne_zero, Int.reduceToNat, gt_iff_lt, reduceCtorEq, if_true, if_false] at hn
  obtain ⟨h00, h01, h02, h03, h04, h05, h06, h07, h08, h09, h10, h11, h12, h13, h14, h15⟩ := hn
  have hw : wrap (x0 + x2) = x0 + 1 := by rw [wrap_in _ (by omega)]; omega
  have hA : act (poolSys W Q b jobs) st k ⟨0, 7, [x0, x1, x2, x3, x4, x5, x6, x7], false⟩ (insOf (poolSys W Q b jobs) ⟨0, 7, [x0, x1, x2, x3, x4, x5, x6, x7], false⟩) = ({ rs := st.rs.set k ⟨0, 7, [(x0 + 1), x1, x2, x3, x4, x5, x6, x7], false⟩, held := st.held, shut := st.shut, groups := st.groups, cells := st.cells, ev := st.ev }, 0) := by
    simp [-List.getD_eq_getElem?_getD, act, insOf, poolSys, combP, I, reg, setReg, heldAt, shutAt, set_self _ _ _ _ hk hr, hw]
  rw [step_put _ _ _ _ ⟨0, 7, [(x0 + 1), x1, x2, x3, x4, x5, x6, x7], false⟩ { rs := st.rs.set k ⟨0, 7, [(x0 + 1), x1, x2, x3, x4, x5, x6, x7], false⟩, held := st.held, shut := st.shut, groups := st.groups, cells := st.cells, ev := st.ev } hk hr hA]
  have hadv : adv (poolSys W Q b jobs) ⟨0, 7, [(x0 + 1), x1, x2, x3, x4, x5, x6, x7], false⟩ = ⟨0, 8, [(x0 + 1), x1, x2, x3, x4, x5, x6, x7], false⟩ := by simp [-List.getD_eq_getElem?_getD, adv, len, poolSys, combP]
  rw [hadv]
  refine ⟨rfl, inv_next hI hk ⟨0, 8, [(x0 + 1), x1, x2, x3, x4, x5, x6, x7], false⟩ ?_ _ _ _ _ ?_ ?_ ?_ ?_ ?_⟩
  case refine_1 =>
    refine ⟨rfl, by simp, by simp, by simp [-List.getD_eq_getElem?_getD, plen], by simp [-List.getD_eq_getElem?_getD, plen], ?_, ?_⟩
    · simp [-List.getD_eq_getElem?_getD, condC, reg] <;> omega
    · simp [-List.getD_eq_getElem?_getD, condF, reg] <;> omega
  case refine_6 =>
    constructor <;> (try simp only [c0, c1, c2, c3, ws, fs, ls, tok, sent, grp, pot, potC, potW, potF, fpast, lw, lpast, wpast, cpast, reg, F0, shutAt, heldAt, getD_set' _ _ _ _ _ hl0, getD_set' _ _ _ _ _ hl1, getD_set' _ _ _ _ _ hl2, getD_set' _ _ _ _ _ sl0, getD_set' _ _ _ _ _ sl1, getD_set' _ _ _ _ _ gl0, ge_iff_le, Int.le_refl, ↓reduceIte, and_true, true_and, and_false, false_and, List.getElem?_cons_succ, List.getElem?_cons_zero, Option.getD_some, List.length_append, List.length_cons, List.length_nil, Nat.reduceEqDiff, Nat.reduceLT, Nat.zero_ne_one, Nat.one_ne_zero, Int.reduceToNat, gt_iff_lt, reduceCtorEq, if_true, if_false]) <;> first | omega | assumption | exact ⟨fun h => by have := h08.1 h; omega, fun h => h08.2 (by omega)⟩ | exact ⟨fun h => by have := h09.1 h; omega, fun h => h09.2 (by omega)⟩ | (simp only [Int.le_refl, if_true]; omega) | (simp; omega)
  all_goals first | exact hI.hl | exact hI.shl | exact hI.gl | exact hI.cl | (simp [-List.getD_eq_getElem?_getD, hI.hl, hI.shl, hI.gl]; done) | (simpa using hI.cl)

theorem st_0_8 {W Q b jobs : Int} {st : St} (hI : Inv W Q b jobs st) (hW : 1 ≤ W) (hW2 : W ≤ 256) (hQ : 1 ≤ Q) (hb : 1 ≤ b) (hb2 : b ≤ 64) (hj : 0 ≤ jobs) (hj2 : jobs ≤ 1024) {k : Nat} (hk : k < st.rs.length) (x0 x1 x2 x3 x4 x5 x6 x7 : Int)
    (hr : st.rs.getD k default = ⟨0, 8, [x0, x1, x2, x3, x4, x5, x6, x7], false⟩) (hL : LI W b jobs ⟨0, 8, [x0, x1, x2, x3, x4, x5, x6, x7], false⟩)  :
    (step (poolSys W Q b jobs) st k).2 = 0 ∧ Inv W Q b jobs (step (poolSys W Q b jobs) st k).1 := by
  obtain ⟨l8, -, -, -, -, hC, hF⟩ := hL
  simp [-List.getD_eq_getElem?_getD, condC, condF, reg] at hC hF
  have hn := hI.n
  have hl := hI.hl
  have shl := hI.shl
  have gl := hI.gl
  have hl0 : 0 < st.held.length := by omega
  have hl1 : 1 < st.held.length := by omega
  have hl2 : 2 < st.held.length := by omega
  have sl0 : 0 < st.shut.length := by omega
  have sl1 : 1 < st.shut.length := by omega
  have gl0 : 0 < st.groups.length := by omega
  simp only [S_split _ st.rs k hk, hr] at hn
  have hR := ri_of W b jobs hW hW2 hb hb2 (st.rs.eraseIdx k) (fun x hx => hI.li x (List.mem_of_mem_eraseIdx hx))
  obtain ⟨r0, r1, r2, r3, r4, r5, r6, r7, r8, r9, r10, r11, r12, r13, r14, r15, r16, r17, r18, r19, r20, r21, r22, r23, r24⟩ := hR
  rw [S_mul] at r5 r12
  rw [S_add] at r24
  simp only [c0, c1, c2, c3, ws, fs, ls, tok, sent, grp, pot, potC, potW, potF, fpast, lw, lpast, wpast, cpast, reg, F0, shutAt, heldAt, Int.reduceLE, Int.reduceLT, Int.reduceEq, ge_iff_le, Int.le_refl, ↓reduceIte, and_true, true_and, and_false, false_and, List.getElem?_cons_succ, List.getElem?_cons_zero, Option.getD_some, List.length_append, List.length_cons, List.length_nil, Nat.reduceEqDiff, Nat.reduceLT, Nat.zero_ne_one, Nat.one_ne_zero, Int.reduceToNat, gt_iff_lt, reduceCtorEq, if_true, if_false] at hn
  obtain ⟨h00, h01, h02, h03, h04, h05, h06, h07, h08, h09, h10, h11, h12, h13, h14, h15⟩ := hn
  skip
  have hA : act (poolSys W Q b jobs) st k ⟨0, 8, [x0, x1, x2, x3, x4, x5, x6, x7], false⟩ (insOf (poolSys W Q b jobs) ⟨0, 8, [x0, x1, x2, x3, x4, x5, x6, x7], false⟩) = ({ rs := st.rs.set k ⟨0, 2, [x0, x1, x2, x3, x4, x5, x6, x7], false⟩, held := st.held, shut := st.shut, groups := st.groups, cells := st.cells, ev := st.ev }, 0) := by
    simp [-List.getD_eq_getElem?_getD, act, insOf, poolSys, combP, I, reg, setReg, heldAt, shutAt, set_self _ _ _ _ hk hr]
  rw [step_put _ _ _ _ ⟨0, 2, [x0, x1, x2, x3, x4, x5, x6, x7], false⟩ { rs := st.rs.set k ⟨0, 2, [x0, x1, x2, x3, x4, x5, x6, x7], false⟩, held := st.held, shut := st.shut, groups := st.groups, cells := st.cells, ev := st.ev } hk hr hA]
  have hadv : adv (poolSys W Q b jobs) ⟨0, 2, [x0, x1, x2, x3, x4, x5, x6, x7], false⟩ = ⟨0, 3, [x0, x1, x2, x3, x4, x5, x6, x7], false⟩ := by simp [-List.getD_eq_getElem?_getD, adv, len, poolSys, combP]
  rw [hadv]
  refine ⟨rfl, inv_next hI hk ⟨0, 3, [x0, x1, x2, x3, x4, x5, x6, x7], false⟩ ?_ _ _ _ _ ?_ ?_ ?_ ?_ ?_⟩
  case refine_1 =>
    refine ⟨rfl, by simp, by simp, by simp [-List.getD_eq_getElem?_getD, plen], by simp [-List.getD_eq_getElem?_getD, plen], ?_, ?_⟩
    · simp [-List.getD_eq_getElem?_getD, condC, reg] <;> omega
    · simp [-List.getD_eq_getElem?_getD, condF, reg] <;> omega
  case refine_6 =>
    constructor <;> (try simp only [c0, c1, c2, c3, ws, fs, ls, tok, sent, grp, pot, potC, potW, potF, fpast, lw, lpast, wpast, cpast, reg, F0, shutAt, heldAt, getD_set' _ _ _ _ _ hl0, getD_set' _ _ _ _ _ hl1, getD_set' _ _ _ _ _ hl2, getD_set' _ _ _ _ _ sl0, getD_set' _ _ _ _ _ sl1, getD_set' _ _ _ _ _ gl0, ge_iff_le, Int.le_refl, ↓reduceIte, and_true, true_and, and_false, false_and, List.getElem?_cons_succ, List.getElem?_cons_zero, Option.getD_some, List.length_append, List.length_cons, List.length_nil, Nat.reduceEqDiff, Nat.reduceLT, Nat.zero_ne_one, Nat.one_ne_zero, Int.reduceToNat, gt_iff_lt, reduceCtorEq, if_true, if_false]) <;> first | omega | assumption | exact ⟨fun h => by have := h08.1 h; omega, fun h => h08.2 (by omega)⟩ | exact ⟨fun h => by have := h09.1 h; omega, fun h => h09.2 (by omega)⟩ | (simp only [Int.le_refl, if_true]; omega) | (simp; omega)
  all_goals first | exact hI.hl | exact hI.shl | exact hI.gl | exact hI.cl | (simp [-List.getD_eq_getElem?_getD, hI.hl, hI.shl, hI.gl]; done) | (simpa using hI.cl)

theorem st_0_11y {W Q b jobs : Int} {st : St} (hI : Inv W Q b jobs st) (hW : 1 ≤ W) (hW2 : W ≤ 256) (hQ : 1 ≤ Q) (hb : 1 ≤ b) (hb2 : b ≤ 64) (hj : 0 ≤ jobs) (hj2 : jobs ≤ 1024) {k : Nat} (hk : k < st.rs.length) (x0 x1 x2 x3 x4 x5 x6 x7 : Int)
    (hr : st.rs.getD k default = ⟨0, 11, [x0, x1, x2, x3, x4, x5, x6, x7], false⟩) (hL : LI W b jobs ⟨0, 11, [x0, x1, x2, x3, x4, x5, x6, x7], false⟩) (v : Int) (l : List Int) (hx : st.held.getD 1 [] = v :: l) :
    (step (poolSys W Q b jobs) st k).2 = 0 ∧ Inv W Q b jobs (step (poolSys W Q b jobs) st k).1 := by
  obtain ⟨l8, -, -, -, -, hC, hF⟩ := hL
  simp [-List.getD_eq_getElem?_getD, condC, condF, reg] at hC hF
  have hn := hI.n
  have hl := hI.hl
  have shl := hI.shl
  have gl := hI.gl
  have hl0 : 0 < st.held.length := by omega
  have hl1 : 1 < st.held.length := by omega
  have hl2 : 2 < st.held.length := by omega
  have sl0 : 0 < st.shut.length := by omega
  have sl1 : 1 < st.shut.length := by omega
  have gl0 : 0 < st.groups.length := by omega
  simp only [S_split _ st.rs k hk, hr] at hn
  have hR := ri_of W b jobs hW hW2 hb hb2 (st.rs.eraseIdx k) (fun x hx => hI.li x (List.mem_of_mem_eraseIdx hx))
  obtain ⟨r0, r1, r2, r3, r4, r5, r6, r7, r8, r9, r10, r11, r12, r13, r14, r15, r16, r17, r18, r19, r20, r21, r22, r23, r24⟩ := hR
  rw [S_mul] at r5 r12
  rw [S_add] at r24
  simp only [c0, c1, c2, c3, ws, fs, ls, tok, sent, grp, pot, potC, potW, potF, fpast, lw, lpast, wpast, cpast, reg, F0, shutAt, heldAt, Int.reduceLE, Int.reduceLT, Int.reduceEq, ge_iff_le, Int.le_refl, ↓reduceIte, and_true, true_and, and_false, false_and, List.getElem?_cons_succ, List.getElem?_cons_zero, Option.getD_some, List.length_append, List.length_cons, List.length_nil, Nat.reduceEqDiff, Nat.reduceLT, Nat.zero_ne_one, Nat.one_ne_zero, Int.reduceToNat, gt_iff_lt, reduceCtorEq, if_true, if_false, hx] at hn
  obtain ⟨h00, h01, h02, h03, h04, h05, h06, h07, h08, h09, h10, h11, h12, h13, h14, h15⟩ := hn
  skip
  have hA : act (poolSys W Q b jobs) st k ⟨0, 11, [x0, x1, x2, x3, x4, x5, x6, x7], false⟩ (insOf (poolSys W Q b jobs) ⟨0, 11, [x0, x1, x2, x3, x4, x5, x6, x7], false⟩) = ({ rs := st.rs.set k ⟨0, 11, [x0, x1, x2, v, x4, x5, x6, x7], false⟩, held := (st.held.set 1 l), shut := st.shut, groups := st.groups, cells := st.cells, ev := st.ev }, 0) := by
    simp [-List.getD_eq_getElem?_getD, act, insOf, poolSys, combP, I, reg, setReg, heldAt, shutAt, set_self _ _ _ _ hk hr, hx]
  rw [step_put _ _ _ _ ⟨0, 11, [x0, x1, x2, v, x4, x5, x6, x7], false⟩ { rs := st.rs.set k ⟨0, 11, [x0, x1, x2, v, x4, x5, x6, x7], false⟩, held := (st.held.set 1 l), shut := st.shut, groups := st.groups, cells := st.cells, ev := st.ev } hk hr hA]
  have hadv : adv (poolSys W Q b jobs) ⟨0, 11, [x0, x1, x2, v, x4, x5, x6, x7], false⟩ = ⟨0, 12, [x0, x1, x2, v, x4, x5, x6, x7], false⟩ := by simp [-List.getD_eq_getElem?_getD, adv, len, poolSys, combP]
  rw [hadv]
  refine ⟨rfl, inv_next hI hk ⟨0, 12, [x0, x1, x2, v, x4, x5, x6, x7], false⟩ ?_ _ _ _ _ ?_ ?_ ?_ ?_ ?_⟩
  case refine_1 =>
    refine ⟨rfl, by simp, by simp, by simp [-List.getD_eq_getElem?_getD, plen], by simp [-List.getD_eq_getElem?_getD, plen], ?_, ?_⟩
    · simp [-List.getD_eq_getElem?_getD, condC, reg] <;> omega
    · simp [-List.getD_eq_getElem?_getD, condF, reg] <;> omega
  case refine_6 =>
    constructor <;> (try simp only [c0, c1, c2, c3, ws, fs, ls, tok, sent, grp, pot, potC, potW, potF, fpast, lw, lpast, wpast, cpast, reg, F0, shutAt, heldAt, getD_set' _ _ _ _ _ hl0, getD_set' _ _ _ _ _ hl1, getD_set' _ _ _ _ _ hl2, getD_set' _ _ _ _ _ sl0, getD_set' _ _ _ _ _ sl1, getD_set' _ _ _ _ _ gl0, ge_iff_le, Int.le_refl, ↓reduceIte, and_true, true_and, and_false, false_and, List.getElem?_cons_succ, List.getElem?_cons_zero, Option.getD_some, List.length_append, List.length_cons, List.length_nil, Nat.reduceEqDiff, Nat.reduceLT, Nat.zero_ne_one, Nat.one_ne_zero, Int.reduceToNat, gt_iff_lt, reduceCtorEq, if_true, if_false, hx]) <;> first | omega | assumption | exact ⟨fun h => by have := h08.1 h; omega, fun h => h08.2 (by omega)⟩ | exact ⟨fun h => by have := h09.1 h; omega, fun h => h09.2 (by omega)⟩ | (simp only [Int.le_refl, if_true]; omega) | (simp; omega)
  all_goals first | exact hI.hl | exact hI.shl | exact hI.gl | exact hI.cl | (simp [-List.getD_eq_getElem?_getD, hI.hl, hI.shl, hI.gl]; done) | (simpa using hI.cl)

theorem st_0_11n {W Q b jobs : Int} {st : St} (hI : Inv W Q b jobs st) (hW : 1 ≤ W) (hW2 : W ≤ 256) (hQ : 1 ≤ Q) (hb : 1 ≤ b) (hb2 : b ≤ 64) (hj : 0 ≤ jobs) (hj2 : jobs ≤ 1024) {k : Nat} (hk : k < st.rs.length) (x0 x1 x2 x3 x4 x5 x6 x7 : Int)
    (hr : st.rs.getD k default = ⟨0, 11, [x0, x1, x2, x3, x4, x5, x6, x7], false⟩) (hL : LI W b jobs ⟨0, 11, [x0, x1, x2, x3, x4, x5, x6, x7], false⟩) (hx : st.held.getD 1 [] = []) (hs : st.shut.getD 1 false = true) :
    (step (poolSys W Q b jobs) st k).2 = 0 ∧ Inv W Q b jobs (step (poolSys W Q b jobs) st k).1 := by
  obtain ⟨l8, -, -, -, -, hC, hF⟩ := hL
  simp [-List.getD_eq_getElem?_getD, condC, condF, reg] at hC hF
  have hn := hI.n
  have hl := hI.hl
  have shl := hI.shl
  have gl := hI.gl
  have hl0 : 0 < st.held.length := by omega
  have hl1 : 1 < st.held.length := by omega
  have hl2 : 2 < st.held.length := by omega
  have sl0 : 0 < st.shut.length := by omega
  have sl1 : 1 < st.shut.length := by omega
  have gl0 : 0 < st.groups.length := by omega
  simp only [S_split _ st.rs k hk, hr] at hn
  have hR := ri_of W b jobs hW hW2 hb hb2 (st.rs.eraseIdx k) (fun x hx => hI.li x (List.mem_of_mem_eraseIdx hx))
  obtain ⟨r0, r1, r2, r3, r4, r5, r6, r7, r8, r9, r10, r11, r12, r13, r14, r15, r16, r17, r18, r19, r20, r21, r22, r23, r24⟩ := hR
  rw [S_mul] at r5 r12
  rw [S_add] at r24
  simp only [c0, c1, c2, c3, ws, fs, ls, tok, sent, grp, pot, potC, potW, potF, fpast, lw, lpast, wpast, cpast, reg, F0, shutAt, heldAt, Int.reduceLE, Int.reduceLT, Int.reduceEq, ge_iff_le, Int.le_refl, ↓reduceIte, and_true, true_and, and_false, false_and, List.getElem?_cons_succ, List.getElem?_cons_zero, Option.getD_some, List.length_append, List.length_cons, List.length_nil, Nat.reduceEqDiff, Nat.reduceLT, Nat.zero_ne_one, Nat.one_ne_zero, Int.reduceToNat, gt_iff_lt, reduceCtorEq, if_true, if_false, hx] at hn
  obtain ⟨h00, h01, h02, h03, h04, h05, h06, h07, h08, h09, h10, h11, h12, h13, h14, h15⟩ := hn
  have hs2 := h09.1 hs
  have hA : act (poolSys W Q b jobs) st k ⟨0, 11, [x0, x1, x2, x3, x4, x5, x6, x7], false⟩ (insOf (poolSys W Q b jobs) ⟨0, 11, [x0, x1, x2, x3, x4, x5, x6, x7], false⟩) = ({ rs := st.rs.set k ⟨0, 13, [x0, x1, x2, x3, x4, x5, x6, x7], false⟩, held := st.held, shut := st.shut, groups := st.groups, cells := st.cells, ev := st.ev }, 0) := by
    simp [-List.getD_eq_getElem?_getD, act, insOf, poolSys, combP, I, reg, setReg, heldAt, shutAt, set_self _ _ _ _ hk hr, hx, hs]
  rw [step_put _ _ _ _ ⟨0, 13, [x0, x1, x2, x3, x4, x5, x6, x7], false⟩ { rs := st.rs.set k ⟨0, 13, [x0, x1, x2, x3, x4, x5, x6, x7], false⟩, held := st.held, shut := st.shut, groups := st.groups, cells := st.cells, ev := st.ev } hk hr hA]
  have hadv : adv (poolSys W Q b jobs) ⟨0, 13, [x0, x1, x2, x3, x4, x5, x6, x7], false⟩ = ⟨0, 14, [x0, x1, x2, x3, x4, x5, x6, x7], false⟩ := by simp [-List.getD_eq_getElem?_getD, adv, len, poolSys, combP]
  rw [hadv]
  refine ⟨rfl, inv_next hI hk ⟨0, 14, [x0, x1, x2, x3, x4, x5, x6, x7], false⟩ ?_ _ _ _ _ ?_ ?_ ?_ ?_ ?_⟩
  case refine_1 =>
    refine ⟨rfl, by simp, by simp, by simp [-List.getD_eq_getElem?_getD, plen], by simp [-List.getD_eq_getElem?_getD, plen], ?_, ?_⟩
    · simp [-List.getD_eq_getElem?_getD, condC, reg] <;> omega
    · simp [-List.getD_eq_getElem?_getD, condF, reg] <;> omega
  case refine_6 =>
    constructor <;> (try simp only [c0, c1, c2, c3, ws, fs, ls, tok, sent, grp, pot, potC, potW, potF, fpast, lw, lpast, wpast, cpast, reg, F0, shutAt, heldAt, getD_set' _ _ _ _ _ hl0, getD_set' _ _ _ _ _ hl1, getD_set' _ _ _ _ _ hl2, getD_set' _ _ _ _ _ sl0, getD_set' _ _ _ _ _ sl1, getD_set' _ _ _ _ _ gl0, ge_iff_le, Int.le_refl, ↓reduceIte, and_true, true_and, and_false, false_and, List.getElem?_cons_succ, List.getElem?_cons_zero, Option.getD_some, List.length_append, List.length_cons, List.length_nil, Nat.reduceEqDiff, Nat.reduceLT, Nat.zero_ne_one, Nat.one_ne_zero, Int.reduceToNat, gt_iff_lt, reduceCtorEq, if_true, if_false, hx]) <;> first | omega | assumption | exact ⟨fun h => by have := h08.1 h; omega, fun h => h08.2 (by omega)⟩ | exact ⟨fun h => by have := h09.1 h; omega, fun h => h09.2 (by omega)⟩ | (simp only [Int.le_refl, if_true]; omega) | (simp; omega)
  all_goals first | exact hI.hl | exact hI.shl | exact hI.gl | exact hI.cl | (simp [-List.getD_eq_getElem?_getD, hI.hl, hI.shl, hI.gl]; done) | (simpa using hI.cl)

theorem st_0_12 {W Q b jobs : Int} {st : St} (hI : Inv W Q b jobs st) (hW : 1 ≤ W) (hW2 : W ≤ 256) (hQ : 1 ≤ Q) (hb : 1 ≤ b) (hb2 : b ≤ 64) (hj : 0 ≤ jobs) (hj2 : jobs ≤ 1024) {k : Nat} (hk : k < st.rs.length) (x0 x1 x2 x3 x4 x5 x6 x7 : Int)
    (hr : st.rs.getD k default = ⟨0, 12, [x0, x1, x2, x3, x4, x5, x6, x7], false⟩) (hL : LI W b jobs ⟨0, 12, [x0, x1, x2, x3, x4, x5, x6, x7], false⟩)  :
    (step (poolSys W Q b jobs) st k).2 = 0 ∧ Inv W Q b jobs (step (poolSys W Q b jobs) st k).1 := by
  obtain ⟨l8, -, -, -, -, hC, hF⟩ := hL
  simp [-List.getD_eq_getElem?_getD, condC, condF, reg] at hC hF
  have hn := hI.n
  have hl := hI.hl
  have shl := hI.shl
  have gl := hI.gl
  have hl0 : 0 < st.held.length := by omega
  have hl1 : 1 < st.held.length := by omega
  have hl2 : 2 < st.held.length := by omega
  have sl0 : 0 < st.shut.length := by omega
  have sl1 : 1 < st.shut.length := by omega
  have gl0 : 0 < st.groups.length := by omega
  simp only [S_split _ st.rs k hk, hr] at hn
  have hR := ri_of W b jobs hW hW2 hb hb2 (st.rs.eraseIdx k) (fun x hx => hI.li x (List.mem_of_mem_eraseIdx hx))
  obtain ⟨r0, r1, r2, r3, r4, r5, r6, r7, r8, r9, r10, r11, r12, r13, r14, r15, r16, r17, r18, r19, r20, r21, r22, r23, r24⟩ := hR
  rw [S_mul] at r5 r12
  rw [S_add] at r24
  simp only [c0, c1, c2, c3, ws, fs, ls, tok, sent, grp, pot, potC, potW, potF, fpast, lw, lpast, wpast, cpast, reg, F0, shutAt, heldAt, Int.reduceLE, Int.reduceLT, Int.reduceEq, ge_iff_le, Int.le_refl, ↓reduceIte, and_true, true_and, and_false, false_and, List.getElem?_cons_succ, List.getElem?_cons_zero, Option.getD_some, List.length_append, List.length_cons, List.length_nil, Nat.reduceEqDiff, Nat.reduceLT, Nat.zero_ne_one, Nat.one_ne_zero, Int.reduceToNat, gt_iff_lt, reduceCtorEq, if_true, if_false] at hn
  obtain ⟨h00, h01, h02, h03, h04, h05, h06, h07, h08, h09, h10, h11, h12, h13, h14, h15⟩ := hn
  skip
  have hA : act (poolSys W Q b jobs) st k ⟨0, 12, [x0, x1, x2, x3, x4, x5, x6, x7], false⟩ (insOf (poolSys W Q b jobs) ⟨0, 12, [x0, x1, x2, x3, x4, x5, x6, x7], false⟩) = ({ rs := st.rs.set k ⟨0, 12, [x0, x1, x2, x3, x4, x5, x6, x7], false⟩, held := st.held, shut := st.shut, groups := st.groups, cells := st.cells, ev := st.ev }, 0) := by
    simp [-List.getD_eq_getElem?_getD, act, insOf, poolSys, combP, I, reg, setReg, heldAt, shutAt, set_self _ _ _ _ hk hr]
  rw [step_put _ _ _ _ ⟨0, 12, [x0, x1, x2, x3, x4, x5, x6, x7], false⟩ { rs := st.rs.set k ⟨0, 12, [x0, x1, x2, x3, x4, x5, x6, x7], false⟩, held := st.held, shut := st.shut, groups := st.groups, cells := st.cells, ev := st.ev } hk hr hA]
  have hadv : adv (poolSys W Q b jobs) ⟨0, 12, [x0, x1, x2, x3, x4, x5, x6, x7], false⟩ = ⟨0, 13, [x0, x1, x2, x3, x4, x5, x6, x7], false⟩ := by simp [-List.getD_eq_getElem?_getD, adv, len, poolSys, combP]
  rw [hadv]
  refine ⟨rfl, inv_next hI hk ⟨0, 13, [x0, x1, x2, x3, x4, x5, x6, x7], false⟩ ?_ _ _ _ _ ?_ ?_ ?_ ?_ ?_⟩
  case refine_1 =>
    refine ⟨rfl, by simp, by simp, by simp [-List.getD_eq_getElem?_getD, plen], by simp [-List.getD_eq_getElem?_getD, plen], ?_, ?_⟩
    · simp [-List.getD_eq_getElem?_getD, condC, reg] <;> omega
    · simp [-List.getD_eq_getElem?_getD, condF, reg] <;> omega
  case refine_6 =>
    constructor <;> (try simp only [c0, c1, c2, c3, ws, fs, ls, tok, sent, grp, pot, potC, potW, potF, fpast, lw, lpast, wpast, cpast, reg, F0, shutAt, heldAt, getD_set' _ _ _ _ _ hl0, getD_set' _ _ _ _ _ hl1, getD_set' _ _ _ _ _ hl2, getD_set' _ _ _ _ _ sl0, getD_set' _ _ _ _ _ sl1, getD_set' _ _ _ _ _ gl0, ge_iff_le, Int.le_refl, ↓reduceIte, and_true, true_and, and_false, false_and, List.getElem?_cons_succ, List.getElem?_cons_zero, Option.getD_some, List.length_append, List.length_cons, List.length_nil, Nat.reduceEqDiff, Nat.reduceLT, Nat.zero_ne_one, Nat.one_ne_zero, Int.reduceToNat, gt_iff_lt, reduceCtorEq, if_true, if_false]) <;> first | omega | assumption | exact ⟨fun h => by have := h08.1 h; omega, fun h => h08.2 (by omega)⟩ | exact ⟨fun h => by have := h09.1 h; omega, fun h => h09.2 (by omega)⟩ | (simp only [Int.le_refl, if_true]; omega) | (simp; omega)
  all_goals first | exact hI.hl | exact hI.shl | exact hI.gl | exact hI.cl | (simp [-List.getD_eq_getElem?_getD, hI.hl, hI.shl, hI.gl]; done) | (simpa using hI.cl)

theorem st_0_13 {W Q b jobs : Int} {st : St} (hI : Inv W Q b jobs st) (hW : 1 ≤ W) (hW2 : W ≤ 256) (hQ : 1 ≤ Q) (hb : 1 ≤ b) (hb2 : b ≤ 64) (hj : 0 ≤ jobs) (hj2 : jobs ≤ 1024) {k : Nat} (hk : k < st.rs.length) (x0 x1 x2 x3 x4 x5 x6 x7 : Int)
    (hr : st.rs.getD k default = ⟨0, 13, [x0, x1, x2, x3, x4, x5, x6, x7], false⟩) (hL : LI W b jobs ⟨0, 13, [x0, x1, x2, x3, x4, x5, x6, x7], false⟩)  :
    (step (poolSys W Q b jobs) st k).2 = 0 ∧ Inv W Q b jobs (step (poolSys W Q b jobs) st k).1 := by
  obtain ⟨l8, -, -, -, -, hC, hF⟩ := hL
  simp [-List.getD_eq_getElem?_getD, condC, condF, reg] at hC hF
  have hn := hI.n
  have hl := hI.hl
  have shl := hI.shl
  have gl := hI.gl
  have hl0 : 0 < st.held.length := by omega
  have hl1 : 1 < st.held.length := by omega
  have hl2 : 2 < st.held.length := by omega
  have sl0 : 0 < st.shut.length := by omega
  have sl1 : 1 < st.shut.length := by omega
  have gl0 : 0 < st.groups.length := by omega
  simp only [S_split _ st.rs k hk, hr] at hn
  have hR := ri_of W b jobs hW hW2 hb hb2 (st.rs.eraseIdx k) (fun x hx => hI.li x (List.mem_of_mem_eraseIdx hx))
  obtain ⟨r0, r1, r2, r3, r4, r5, r6, r7, r8, r9, r10, r11, r12, r13, r14, r15, r16, r17, r18, r19, r20, r21, r22, r23, r24⟩ := hR
  rw [S_mul] at r5 r12
  rw [S_add] at r24
  simp only [c0, c1, c2, c3, ws, fs, ls, tok, sent, grp, pot, potC, potW, potF, fpast, lw, lpast, wpast, cpast, reg, F0, shutAt, heldAt, Int.reduceLE, Int.reduceLT, Int.reduceEq, ge_iff_le, Int.le_refl, ↓reduceIte, and_true, true_and, and_false, false_and, List.getElem?_cons_succ, List.getElem?_cons_zero, Option.getD_some, List.length_append, List.length_cons, List.length_nil, Nat.reduceEqDiff, Nat.reduceLT, Nat.zero_ne_one, Nat.one_ne_zero, Int.reduceToNat, gt_iff_lt, reduceCtorEq, if_true, if_false] at hn
  obtain ⟨h00, h01, h02, h03, h04, h05, h06, h07, h08, h09, h10, h11, h12, h13, h14, h15⟩ := hn
  skip
  have hA : act (poolSys W Q b jobs) st k ⟨0, 13, [x0, x1, x2, x3, x4, x5, x6, x7], false⟩ (insOf (poolSys W Q b jobs) ⟨0, 13, [x0, x1, x2, x3, x4, x5, x6, x7], false⟩) = ({ rs := st.rs.set k ⟨0, 10, [x0, x1, x2, x3, x4, x5, x6, x7], false⟩, held := st.held, shut := st.shut, groups := st.groups, cells := st.cells, ev := st.ev }, 0) := by
    simp [-List.getD_eq_getElem?_getD, act, insOf, poolSys, combP, I, reg, setReg, heldAt, shutAt, set_self _ _ _ _ hk hr]
  rw [step_put _ _ _ _ ⟨0, 10, [x0, x1, x2, x3, x4, x5, x6, x7], false⟩ { rs := st.rs.set k ⟨0, 10, [x0, x1, x2, x3, x4, x5, x6, x7], false⟩, held := st.held, shut := st.shut, groups := st.groups, cells := st.cells, ev := st.ev } hk hr hA]
  have hadv : adv (poolSys W Q b jobs) ⟨0, 10, [x0, x1, x2, x3, x4, x5, x6, x7], false⟩ = ⟨0, 11, [x0, x1, x2, x3, x4, x5, x6, x7], false⟩ := by simp [-List.getD_eq_getElem?_getD, adv, len, poolSys, combP]
  rw [hadv]
  refine ⟨rfl, inv_next hI hk ⟨0, 11, [x0, x1, x2, x3, x4, x5, x6, x7], false⟩ ?_ _ _ _ _ ?_ ?_ ?_ ?_ ?_⟩
  case refine_1 =>
    refine ⟨rfl, by simp, by simp, by simp [-List.getD_eq_getElem?_getD, plen], by simp [-List.getD_eq_getElem?_getD, plen], ?_, ?_⟩
    · simp [-List.getD_eq_getElem?_getD, condC, reg] <;> omega
    · simp [-List.getD_eq_getElem?_getD, condF, reg] <;> omega
  case refine_6 =>
    constructor <;> (try simp only [c0, c1, c2, c3, ws, fs, ls, tok, sent, grp, pot, potC, potW, potF, fpast, lw, lpast, wpast, cpast, reg, F0, shutAt, heldAt, getD_set' _ _ _ _ _ hl0, getD_set' _ _ _ _ _ hl1, getD_set' _ _ _ _ _ hl2, getD_set' _ _ _ _ _ sl0, getD_set' _ _ _ _ _ sl1, getD_set' _ _ _ _ _ gl0, ge_iff_le, Int.le_refl, ↓reduceIte, and_true, true_and, and_false, false_and, List.getElem?_cons_succ, List.getElem?_cons_zero, Option.getD_some, List.length_append, List.length_cons, List.length_nil, Nat.reduceEqDiff, Nat.reduceLT, Nat.zero_ne_one, Nat.one_ne_zero, Int.reduceToNat, gt_iff_lt, reduceCtorEq, if_true, if_false]) <;> first | omega | assumption | exact ⟨fun h => by have := h08.1 h; omega, fun h => h08.2 (by omega)⟩ | exact ⟨fun h => by have := h09.1 h; omega, fun h => h09.2 (by omega)⟩ | (simp only [Int.le_refl, if_true]; omega) | (simp; omega)
  all_goals first | exact hI.hl | exact hI.shl | exact hI.gl | exact hI.cl | (simp [-List.getD_eq_getElem?_getD, hI.hl, hI.shl, hI.gl]; done) | (simpa using hI.cl)

theorem st_0_14 {W Q b jobs : Int} {st : St} (hI : Inv W Q b jobs st) (hW : 1 ≤ W) (hW2 : W ≤ 256) (hQ : 1 ≤ Q) (hb : 1 ≤ b) (hb2 : b ≤ 64) (hj : 0 ≤ jobs) (hj2 : jobs ≤ 1024) {k : Nat} (hk : k < st.rs.length) (x0 x1 x2 x3 x4 x5 x6 x7 : Int)
    (hr : st.rs.getD k default = ⟨0, 14, [x0, x1, x2, x3, x4, x5, x6, x7], false⟩) (hL : LI W b jobs ⟨0, 14, [x0, x1, x2, x3, x4, x5, x6, x7], false⟩)  :
    (step (poolSys W Q b jobs) st k).2 = 0 ∧ Inv W Q b jobs (step (poolSys W Q b jobs) st k).1 := by
  obtain ⟨l8, -, -, -, -, hC, hF⟩ := hL
  simp [-List.getD_eq_getElem?_getD, condC, condF, reg] at hC hF
  have hn := hI.n
  have hl := hI.hl
  have shl := hI.shl
  have gl := hI.gl
  have hl0 : 0 < st.held.length := by omega
  have hl1 : 1 < st.held.length := by omega
  have hl2 : 2 < st.held.length := by omega
  have sl0 : 0 < st.shut.length := by omega
  have sl1 : 1 < st.shut.length := by omega
  have gl0 : 0 < st.groups.length := by omega
  simp only [S_split _ st.rs k hk, hr] at hn
  have hR := ri_of W b jobs hW hW2 hb hb2 (st.rs.eraseIdx k) (fun x hx => hI.li x (List.mem_of_mem_eraseIdx hx))
  obtain ⟨r0, r1, r2, r3, r4, r5, r6, r7, r8, r9, r10, r11, r12, r13, r14, r15, r16, r17, r18, r19, r20, r21, r22, r23, r24⟩ := hR
  rw [S_mul] at r5 r12
  rw [S_add] at r24
  simp only [c0, c1, c2, c3, ws, fs, ls, tok, sent, grp, pot, potC, potW, potF, fpast, lw, lpast, wpast, cpast, reg, F0, shutAt, heldAt, Int.reduceLE, Int.reduceLT, Int.reduceEq, ge_iff_le, Int.le_refl, ↓reduceIte, and_true, true_and, and_false, false_and, List.getElem?_cons_succ, List.getElem?_cons_zero, Option.getD_some, List.length_append, List.length_cons, List.length_nil, Nat.reduceEqDiff, Nat.reduceLT, Nat.zero_ne_one, Nat.one_ne_zero, Int.reduceToNat, gt_iff_lt, reduceCtorEq, if_true, if_false] at hn
  obtain ⟨h00, h01, h02, h03, h04, h05, h06, h07, h08, h09, h10, h11, h12, h13, h14, h15⟩ := hn
  skip
  have hA : act (poolSys W Q b jobs) st k ⟨0, 14, [x0, x1, x2, x3, x4, x5, x6, x7], false⟩ (insOf (poolSys W Q b jobs) ⟨0, 14, [x0, x1, x2, x3, x4, x5, x6, x7], false⟩) = ({ rs := st.rs.set k ⟨0, 14, [x0, x1, x2, x3, x4, x5, x6, x7], true⟩, held := st.held, shut := st.shut, groups := st.groups, cells := st.cells, ev := st.ev }, 0) := by
    simp [-List.getD_eq_getElem?_getD, act, insOf, poolSys, combP, I, reg, setReg, heldAt, shutAt, set_self _ _ _ _ hk hr]
  rw [step_put _ _ _ _ ⟨0, 14, [x0, x1, x2, x3, x4, x5, x6, x7], true⟩ { rs := st.rs.set k ⟨0, 14, [x0, x1, x2, x3, x4, x5, x6, x7], true⟩, held := st.held, shut := st.shut, groups := st.groups, cells := st.cells, ev := st.ev } hk hr hA]
  have hadv : adv (poolSys W Q b jobs) ⟨0, 14, [x0, x1, x2, x3, x4, x5, x6, x7], true⟩ = ⟨0, 15, [x0, x1, x2, x3, x4, x5, x6, x7], true⟩ := by simp [-List.getD_eq_getElem?_getD, adv, len, poolSys, combP]
  rw [hadv]
  refine ⟨rfl, inv_next hI hk ⟨0, 15, [x0, x1, x2, x3, x4, x5, x6, x7], true⟩ ?_ _ _ _ _ ?_ ?_ ?_ ?_ ?_⟩
  case refine_1 =>
    refine ⟨rfl, by simp, by simp, by simp [-List.getD_eq_getElem?_getD, plen], by simp [-List.getD_eq_getElem?_getD, plen], ?_, ?_⟩
    · simp [-List.getD_eq_getElem?_getD, condC, reg] <;> omega
    · simp [-List.getD_eq_getElem?_getD, condF, reg] <;> omega
  case refine_6 =>
    constructor <;> (try simp only [c0, c1, c2, c3, ws, fs, ls, tok, sent, grp, pot, potC, potW, potF, fpast, lw, lpast, wpast, cpast, reg, F0, shutAt, heldAt, getD_set' _ _ _ _ _ hl0, getD_set' _ _ _ _ _ hl1, getD_set' _ _ _ _ _ hl2, getD_set' _ _ _ _ _ sl0, getD_set' _ _ _ _ _ sl1, getD_set' _ _ _ _ _ gl0, ge_iff_le, Int.le_refl, ↓reduceIte, and_true, true_and, and_false, false_and, List.getElem?_cons_succ, List.getElem?_cons_zero, Option.getD_some, List.length_append, List.length_cons, List.length_nil, Nat.reduceEqDiff, Nat.reduceLT, Nat.zero_ne_one, Nat.one_ne_zero, Int.reduceToNat, gt_iff_lt, reduceCtorEq, if_true, if_false]) <;> first | omega | assumption | exact ⟨fun h => by have := h08.1 h; omega, fun h => h08.2 (by omega)⟩ | exact ⟨fun h => by have := h09.1 h; omega, fun h => h09.2 (by omega)⟩ | (simp only [Int.le_refl, if_true]; omega) | (simp; omega)
  all_goals first | exact hI.hl | exact hI.shl | exact hI.gl | exact hI.cl | (simp [-List.getD_eq_getElem?_getD, hI.hl, hI.shl, hI.gl]; done) | (simpa using hI.cl)

theorem st_1_0y {W Q b jobs : Int} {st : St} (hI : Inv W Q b jobs st) (hW : 1 ≤ W) (hW2 : W ≤ 256) (hQ : 1 ≤ Q) (hb : 1 ≤ b) (hb2 : b ≤ 64) (hj : 0 ≤ jobs) (hj2 : jobs ≤ 1024) {k : Nat} (hk : k < st.rs.length) (x0 x1 x2 x3 x4 x5 x6 x7 : Int)
    (hr : st.rs.getD k default = ⟨1, 0, [x0, x1, x2, x3, x4, x5, x6, x7], false⟩) (hL : LI W b jobs ⟨1, 0, [x0, x1, x2, x3, x4, x5, x6, x7], false⟩) (v : Int) (l : List Int) (hx : st.held.getD 0 [] = v :: l) :
    (step (poolSys W Q b jobs) st k).2 = 0 ∧ Inv W Q b jobs (step (poolSys W Q b jobs) st k).1 := by
  obtain ⟨l8, -, -, -, -, hC, hF⟩ := hL
  simp [-List.getD_eq_getElem?_getD, condC, condF, reg] at hC hF
  have hn := hI.n
  have hl := hI.hl
  have shl := hI.shl
  have gl := hI.gl
  have hl0 : 0 < st.held.length := by omega
  have hl1 : 1 < st.held.length := by omega
  have hl2 : 2 < st.held.length := by omega
  have sl0 : 0 < st.shut.length := by omega
  have sl1 : 1 < st.shut.length := by omega
  have gl0 : 0 < st.groups.length := by omega
  simp only [S_split _ st.rs k hk, hr] at hn
  have hR := ri_of W b jobs hW hW2 hb hb2 (st.rs.eraseIdx k) (fun x hx => hI.li x (List.mem_of_mem_eraseIdx hx))
  obtain ⟨r0, r1, r2, r3, r4, r5, r6, r7, r8, r9, r10, r11, r12, r13, r14, r15, r16, r17, r18, r19, r20, r21, r22, r23, r24⟩ := hR
  rw [S_mul] at r5 r12
  rw [S_add] at r24
  simp only [c0, c1, c2, c3, ws, fs, ls, tok, sent, grp, pot, potC, potW, potF, fpast, lw, lpast, wpast, cpast, reg, F0, shutAt, heldAt, Int.reduceLE, Int.reduceLT, Int.reduceEq, ge_iff_le, Int.le_refl, ↓reduceIte, and_true, true_and, and_false, false_and, List.getElem?_cons_succ, List.getElem?_cons_zero, Option.getD_some, List.length_append, List.length_cons, List.length_nil, Nat.reduceEqDiff, Nat.reduceLT, Nat.zero_ne_one, Nat.one_ne_zero, Int.reduceToNat, gt_iff_lt, reduceCtorEq, if_true, if_false, hx] at hn
  obtain ⟨h00, h01, h02, h03, h04, h05, h06, h07, h08, h09, h10, h11, h12, h13, h14, h15⟩ := hn
  skip
  have hA : act (poolSys W Q b jobs) st k ⟨1, 0, [x0, x1, x2, x3, x4, x5, x6, x7], false⟩ (insOf (poolSys W Q b jobs) ⟨1, 0, [x0, x1, x2, x3, x4, x5, x6, x7], false⟩) = ({ rs := st.rs.set k ⟨1, 0, [x0, x1, x2, v, x4, x5, x6, x7], false⟩, held := (st.held.set 0 l), shut := st.shut, groups := st.groups, cells := st.cells, ev := st.ev }, 0) := by
    simp [-List.getD_eq_getElem?_getD, act, insOf, poolSys, workP, I, reg, setReg, heldAt, shutAt, set_self _ _ _ _ hk hr, hx]
  rw [step_put _ _ _ _ ⟨1, 0, [x0, x1, x2, v, x4, x5, x6, x7], false⟩ { rs := st.rs.set k ⟨1, 0, [x0, x1, x2, v, x4, x5, x6, x7], false⟩, held := (st.held.set 0 l), shut := st.shut, groups := st.groups, cells := st.cells, ev := st.ev } hk hr hA]
  have hadv : adv (poolSys W Q b jobs) ⟨1, 0, [x0, x1, x2, v, x4, x5, x6, x7], false⟩ = ⟨1, 1, [x0, x1, x2, v, x4, x5, x6, x7], false⟩ := by simp [-List.getD_eq_getElem?_getD, adv, len, poolSys, workP]
  rw [hadv]
  refine ⟨rfl, inv_next hI hk ⟨1, 1, [x0, x1, x2, v, x4, x5, x6, x7], false⟩ ?_ _ _ _ _ ?_ ?_ ?_ ?_ ?_⟩
  case refine_1 =>
    refine ⟨rfl, by simp, by simp, by simp [-List.getD_eq_getElem?_getD, plen], by simp [-List.getD_eq_getElem?_getD, plen], ?_, ?_⟩
    · simp [-List.getD_eq_getElem?_getD, condC, reg] <;> omega
    · simp [-List.getD_eq_getElem?_getD, condF, reg] <;> omega
  case refine_6 =>
    constructor <;> (try simp only [c0, c1, c2, c3, ws, fs, ls, tok, sent, grp, pot, potC, potW, potF, fpast, lw, lpast, wpast, cpast, reg, F0, shutAt, heldAt, getD_set' _ _ _ _ _ hl0, getD_set' _ _ _ _ _ hl1, getD_set' _ _ _ _ _ hl2, getD_set' _ _ _ _ _ sl0, getD_set' _ _ _ _ _ sl1, getD_set' _ _ _ _ _ gl0, ge_iff_le, Int.le_refl, ↓reduceIte, and_true, true_and, and_false, false_and, List.getElem?_cons_succ, List.getElem?_cons_zero, Option.getD_some, List.length_append, List.length_cons, List.length_nil, Nat.reduceEqDiff, Nat.reduceLT, Nat.zero_ne_one, Nat.one_ne_zero, Int.reduceToNat, gt_iff_lt, reduceCtorEq, if_true, if_false, hx]) <;> first | omega | assumption | exact ⟨fun h => by have := h08.1 h; omega, fun h => h08.2 (by omega)⟩ | exact ⟨fun h => by have := h09.1 h; omega, fun h => h09.2 (by omega)⟩ | (simp only [Int.le_refl, if_true]; omega) | (simp; omega)
  all_goals first | exact hI.hl | exact hI.shl | exact hI.gl | exact hI.cl | (simp [-List.getD_eq_getElem?_getD, hI.hl, hI.shl, hI.gl]; done) | (simpa using hI.cl)

theorem st_1_0n {W Q b jobs : Int} {st : St} (hI : Inv W Q b jobs st) (hW : 1 ≤ W) (hW2 : W ≤ 256) (hQ : 1 ≤ Q) (hb : 1 ≤ b) (hb2 : b ≤ 64) (hj : 0 ≤ jobs) (hj2 : jobs ≤ 1024) {k : Nat} (hk : k < st.rs.length) (x0 x1 x2 x3 x4 x5 x6 x7 : Int)
    (hr : st.rs.getD k default = ⟨1, 0, [x0, x1, x2, x3, x4, x5, x6, x7], false⟩) (hL : LI W b jobs ⟨1, 0, [x0, x1, x2, x3, x4, x5, x6, x7], false⟩) (hx : st.held.getD 0 [] = []) (hs : st.shut.getD 0 false = true) :
    (step (poolSys W Q b jobs) st k).2 = 0 ∧ Inv W Q b jobs (step (poolSys W Q b jobs) st k).1 := by
  obtain ⟨l8, -, -, -, -, hC, hF⟩ := hL
  simp [-List.getD_eq_getElem?_getD, condC, condF, reg] at hC hF
  have hn := hI.n
  have hl := hI.hl
  have shl := hI.shl
  have gl := hI.gl
  have hl0 : 0 < st.held.length := by omega
  have hl1 : 1 < st.held.length := by omega
  have hl2 : 2 < st.held.length := by omega
  have sl0 : 0 < st.shut.length := by omega
  have sl1 : 1 < st.shut.length := by omega
  have gl0 : 0 < st.groups.length := by omega
  simp only [S_split _ st.rs k hk, hr] at hn
  have hR := ri_of W b jobs hW hW2 hb hb2 (st.rs.eraseIdx k) (fun x hx => hI.li x (List.mem_of_mem_eraseIdx hx))
  obtain ⟨r0, r1, r2, r3, r4, r5, r6, r7, r8, r9, r10, r11, r12, r13, r14, r15, r16, r17, r18, r19, r20, r21, r22, r23, r24⟩ := hR
  rw [S_mul] at r5 r12
  rw [S_add] at r24
  simp only [c0, c1, c2, c3, ws, fs, ls, tok, sent, grp, pot, potC, potW, potF, fpast, lw, lpast, wpast, cpast, reg, F0, shutAt, heldAt, Int.reduceLE, Int.reduceLT, Int.reduceEq, ge_iff_le, Int.le_refl, ↓reduceIte, and_true, true_and, and_false, false_and, List.getElem?_cons_succ, List.getElem?_cons_zero, Option.getD_some, List.length_append, List.length_cons, List.length_nil, Nat.reduceEqDiff, Nat.reduceLT, Nat.zero_ne_one, Nat.one_ne_zero, Int.reduceToNat, gt_iff_lt, reduceCtorEq, if_true, if_false, hx] at hn
  obtain ⟨h00, h01, h02, h03, h04, h05, h06, h07, h08, h09, h10, h11, h12, h13, h14, h15⟩ := hn
  have hs2 := h08.1 hs
  have hA : act (poolSys W Q b jobs) st k ⟨1, 0, [x0, x1, x2, x3, x4, x5, x6, x7], false⟩ (insOf (poolSys W Q b jobs) ⟨1, 0, [x0, x1, x2, x3, x4, x5, x6, x7], false⟩) = ({ rs := st.rs.set k ⟨1, 5, [x0, x1, x2, x3, x4, x5, x6, x7], false⟩, held := st.held, shut := st.shut, groups := st.groups, cells := st.cells, ev := st.ev }, 0) := by
    simp [-List.getD_eq_getElem?_getD, act, insOf, poolSys, workP, I, reg, setReg, heldAt, shutAt, set_self _ _ _ _ hk hr, hx, hs]
  rw [step_put _ _ _ _ ⟨1, 5, [x0, x1, x2, x3, x4, x5, x6, x7], false⟩ { rs := st.rs.set k ⟨1, 5, [x0, x1, x2, x3, x4, x5, x6, x7], false⟩, held := st.held, shut := st.shut, groups := st.groups, cells := st.cells, ev := st.ev } hk hr hA]
  have hadv : adv (poolSys W Q b jobs) ⟨1, 5, [x0, x1, x2, x3, x4, x5, x6, x7], false⟩ = ⟨1, 6, [x0, x1, x2, x3, x4, x5, x6, x7], false⟩ := by simp [-List.getD_eq_getElem?_getD, adv, len, poolSys, workP]
  rw [hadv]
  refine ⟨rfl, inv_next hI hk ⟨1, 6, [x0, x1, x2, x3, x4, x5, x6, x7], false⟩ ?_ _ _ _ _ ?_ ?_ ?_ ?_ ?_⟩
  case refine_1 =>
    refine ⟨rfl, by simp, by simp, by simp [-List.getD_eq_getElem?_getD, plen], by simp [-List.getD_eq_getElem?_getD, plen], ?_, ?_⟩
    · simp [-List.getD_eq_getElem?_getD, condC, reg] <;> omega
    · simp [-List.getD_eq_getElem?_getD, condF, reg] <;> omega
  case refine_6 =>
    constructor <;> (try simp only [c0, c1, c2, c3, ws, fs, ls, tok, sent, grp, pot, potC, potW, potF, fpast, lw, lpast, wpast, cpast, reg, F0, shutAt, heldAt, getD_set' _ _ _ _ _ hl0, getD_set' _ _ _ _ _ hl1, getD_set' _ _ _ _ _ hl2, getD_set' _ _ _ _ _ sl0, getD_set' _ _ _ _ _ sl1, getD_set' _ _ _ _ _ gl0, ge_iff_le, Int.le_refl, ↓reduceIte, and_true, true_and, and_false, false_and, List.getElem?_cons_succ, List.getElem?_cons_zero, Option.getD_some, List.length_append, List.length_cons, List.length_nil, Nat.reduceEqDiff, Nat.reduceLT, Nat.zero_ne_one, Nat.one_ne_zero, Int.reduceToNat, gt_iff_lt, reduceCtorEq, if_true, if_false, hx]) <;> first | omega | assumption | exact ⟨fun h => by have := h08.1 h; omega, fun h => h08.2 (by omega)⟩ | exact ⟨fun h => by have := h09.1 h; omega, fun h => h09.2 (by omega)⟩ | (simp only [Int.le_refl, if_true]; omega) | (simp; omega)
  all_goals first | exact hI.hl | exact hI.shl | exact hI.gl | exact hI.cl | (simp [-List.getD_eq_getElem?_getD, hI.hl, hI.shl, hI.gl]; done) | (simpa using hI.cl)

theorem st_1_1 {W Q b jobs : Int} {st : St} (hI : Inv W Q b jobs st) (hW : 1 ≤ W) (hW2 : W ≤ 256) (hQ : 1 ≤ Q) (hb : 1 ≤ b) (hb2 : b ≤ 64) (hj : 0 ≤ jobs) (hj2 : jobs ≤ 1024) {k : Nat} (hk : k < st.rs.length) (x0 x1 x2 x3 x4 x5 x6 x7 : Int)
    (hr : st.rs.getD k default = ⟨1, 1, [x0, x1, x2, x3, x4, x5, x6, x7], false⟩) (hL : LI W b jobs ⟨1, 1, [x0, x1, x2, x3, x4, x5, x6, x7], false⟩)  :
    (step (poolSys W Q b jobs) st k).2 = 0 ∧ Inv W Q b jobs (step (poolSys W Q b jobs) st k).1 := by
  obtain ⟨l8, -, -, -, -, hC, hF⟩ := hL
  simp [-List.getD_eq_getElem?_getD, condC, condF, reg] at hC hF
  have hn := hI.n
  have hl := hI.hl
  have shl := hI.shl
  have gl := hI.gl
  have hl0 : 0 < st.held.length := by omega
  have hl1 : 1 < st.held.length := by omega
  have hl2 : 2 < st.held.length := by omega
  have sl0 : 0 < st.shut.length := by omega
  have sl1 : 1 < st.shut.length := by omega
  have gl0 : 0 < st.groups.length := by omega
  simp only [S_split _ st.rs k hk, hr] at hn
  have hR := ri_of W b jobs hW hW2 hb hb2 (st.rs.eraseIdx k) (fun x hx => hI.li x (List.mem_of_mem_eraseIdx hx))
  obtain ⟨r0, r1, r2, r3, r4, r5, r6, r7, r8, r9, r10, r11, r12, r13, r14, r15, r16, r17, r18, r19, r20, r21, r22, r23, r24⟩ := hR
  rw [S_mul] at r5 r12
  rw [S_add] at r24
  simp only [c0, c1, c2, c3, ws, fs, ls, tok, sent, grp, pot, potC, potW, potF, fpast, lw, lpast, wpast, cpast, reg, F0, shutAt, heldAt, Int.reduceLE, Int.reduceLT, Int.reduceEq, ge_iff_le, Int.le_refl, ↓reduceIte, and_true, true_and, and_false, false_and, List.getElem?_cons_succ, List.getElem?_cons_zero, Option.getD_some, List.length_append, List.length_cons, List.length_nil, Nat.reduceEqDiff, Nat.reduceLT, Nat.zero_ne_one, Nat.one_ne_zero, Int.reduceToNat, gt_iff_lt, reduceCtorEq, if_true, if_false] at hn
  obtain ⟨h00, h01, h02, h03, h04, h05, h06, h07, h08, h09, h10, h11, h12, h13, h14, h15⟩ := hn
  skip
  have hA : act (poolSys W Q b jobs) st k ⟨1, 1, [x0, x1, x2, x3, x4, x5, x6, x7], false⟩ (insOf (poolSys W Q b jobs) ⟨1, 1, [x0, x1, x2, x3, x4, x5, x6, x7], false⟩) = ({ rs := st.rs.set k ⟨1, 1, [x0, x1, x2, x3, (st.cells.getD (rest x3 st.cells.length).toNat 0), x5, x6, x7], false⟩, held := st.held, shut := st.shut, groups := st.groups, cells := st.cells, ev := st.ev }, 0) := by
    simp [-List.getD_eq_getElem?_getD, act, insOf, poolSys, workP, I, reg, setReg, heldAt, shutAt, set_self _ _ _ _ hk hr]
  rw [step_put _ _ _ _ ⟨1, 1, [x0, x1, x2, x3, (st.cells.getD (rest x3 st.cells.length).toNat 0), x5, x6, x7], false⟩ { rs := st.rs.set k ⟨1, 1, [x0, x1, x2, x3, (st.cells.getD (rest x3 st.cells.length).toNat 0), x5, x6, x7], false⟩, held := st.held, shut := st.shut, groups := st.groups, cells := st.cells, ev := st.ev } hk hr hA]
  have hadv : adv (poolSys W Q b jobs) ⟨1, 1, [x0, x1, x2, x3, (st.cells.getD (rest x3 st.cells.length).toNat 0), x5, x6, x7], false⟩ = ⟨1, 2, [x0, x1, x2, x3, (st.cells.getD (rest x3 st.cells.length).toNat 0), x5, x6, x7], false⟩ := by simp [-List.getD_eq_getElem?_getD, adv, len, poolSys, workP]
  rw [hadv]
  refine ⟨rfl, inv_next hI hk ⟨1, 2, [x0, x1, x2, x3, (st.cells.getD (rest x3 st.cells.length).toNat 0), x5, x6, x7], false⟩ ?_ _ _ _ _ ?_ ?_ ?_ ?_ ?_⟩
  case refine_1 =>
    refine ⟨rfl, by simp, by simp, by simp [-List.getD_eq_getElem?_getD, plen], by simp [-List.getD_eq_getElem?_getD, plen], ?_, ?_⟩
    · simp [-List.getD_eq_getElem?_getD, condC, reg] <;> omega
    · simp [-List.getD_eq_getElem?_getD, condF, reg] <;> omega
  case refine_6 =>
    constructor <;> (try simp only [c0, c1, c2, c3, ws, fs, ls, tok, sent, grp, pot, potC, potW, potF, fpast, lw, lpast, wpast, cpast, reg, F0, shutAt, heldAt, getD_set' _ _ _ _ _ hl0, getD_set' _ _ _ _ _ hl1, getD_set' _ _ _ _ _ hl2, getD_set' _ _ _ _ _ sl0, getD_set' _ _ _ _ _ sl1, getD_set' _ _ _ _ _ gl0, ge_iff_le, Int.le_refl, ↓reduceIte, and_true, true_and, and_false, false_and, List.getElem?_cons_succ, List.getElem?_cons_zero, Option.getD_some, List.length_append, List.length_cons, List.length_nil, Nat.reduceEqDiff, Nat.reduceLT, Nat.zero_ne_one, Nat.one_ne_zero, Int.reduceToNat, gt_iff_lt, reduceCtorEq, if_true, if_false]) <;> first | omega | assumption | exact ⟨fun h => by have := h08.1 h; omega, fun h => h08.2 (by omega)⟩ | exact ⟨fun h => by have := h09.1 h; omega, fun h => h09.2 (by omega)⟩ | (simp only [Int.le_refl, if_true]; omega) | (simp; omega)
  all_goals first | exact hI.hl | exact hI.shl | exact hI.gl | exact hI.cl | (simp [-List.getD_eq_getElem?_getD, hI.hl, hI.shl, hI.gl]; done) | (simpa using hI.cl)

theorem st_1_2 {W Q b jobs : Int} {st : St} (hI : Inv W Q b jobs st) (hW : 1 ≤ W) (hW2 : W ≤ 256) (hQ : 1 ≤ Q) (hb : 1 ≤ b) (hb2 : b ≤ 64) (hj : 0 ≤ jobs) (hj2 : jobs ≤ 1024) {k : Nat} (hk : k < st.rs.length) (x0 x1 x2 x3 x4 x5 x6 x7 : Int)
    (hr : st.rs.getD k default = ⟨1, 2, [x0, x1, x2, x3, x4, x5, x6, x7], false⟩) (hL : LI W b jobs ⟨1, 2, [x0, x1, x2, x3, x4, x5, x6, x7], false⟩)  :
    (step (poolSys W Q b jobs) st k).2 = 0 ∧ Inv W Q b jobs (step (poolSys W Q b jobs) st k).1 := by
  obtain ⟨l8, -, -, -, -, hC, hF⟩ := hL
  simp [-List.getD_eq_getElem?_getD, condC, condF, reg] at hC hF
  have hn := hI.n
  have hl := hI.hl
  have shl := hI.shl
  have gl := hI.gl
  have hl0 : 0 < st.held.length := by omega
  have hl1 : 1 < st.held.length := by omega
  have hl2 : 2 < st.held.length := by omega
  have sl0 : 0 < st.shut.length := by omega
  have sl1 : 1 < st.shut.length := by omega
  have gl0 : 0 < st.groups.length := by omega
  simp only [S_split _ st.rs k hk, hr] at hn
  have hR := ri_of W b jobs hW hW2 hb hb2 (st.rs.eraseIdx k) (fun x hx => hI.li x (List.mem_of_mem_eraseIdx hx))
  obtain ⟨r0, r1, r2, r3, r4, r5, r6, r7, r8, r9, r10, r11, r12, r13, r14, r15, r16, r17, r18, r19, r20, r21, r22, r23, r24⟩ := hR
  rw [S_mul] at r5 r12
  rw [S_add] at r24
  simp only [c0, c1, c2, c3, ws, fs, ls, tok, sent, grp, pot, potC, potW, potF, fpast, lw, lpast, wpast, cpast, reg, F0, shutAt, heldAt, Int.reduceLE, Int.reduceLT, Int.reduceEq, ge_iff_le, Int.le_refl, ↓reduceIte, and_true, true_and, and_false, false_and, List.getElem?_cons_succ, List.getElem?_cons_zero, Option.getD_some, List.length_append, List.length_cons, List.length_nil, Nat.reduceEqDiff, Nat.reduceLT, Nat.zero_ne_one, Nat.one_ne_zero, Int.reduceToNat, gt_iff_lt, reduceCtorEq, if_true, if_false] at hn
  obtain ⟨h00, h01, h02, h03, h04, h05, h06, h07, h08, h09, h10, h11, h12, h13, h14, h15⟩ := hn
  skip
  have hA : act (poolSys W Q b jobs) st k ⟨1, 2, [x0, x1, x2, x3, x4, x5, x6, x7], false⟩ (insOf (poolSys W Q b jobs) ⟨1, 2, [x0, x1, x2, x3, x4, x5, x6, x7], false⟩) = ({ rs := st.rs.set k ⟨1, 2, [x0, x1, x2, x3, x4, x5, x6, x7], false⟩, held := st.held, shut := st.shut, groups := st.groups, cells := st.cells, ev := st.ev }, 0) := by
    simp [-List.getD_eq_getElem?_getD, act, insOf, poolSys, workP, I, reg, setReg, heldAt, shutAt, set_self _ _ _ _ hk hr]
  rw [step_put _ _ _ _ ⟨1, 2, [x0, x1, x2, x3, x4, x5, x6, x7], false⟩ { rs := st.rs.set k ⟨1, 2, [x0, x1, x2, x3, x4, x5, x6, x7], false⟩, held := st.held, shut := st.shut, groups := st.groups, cells := st.cells, ev := st.ev } hk hr hA]
  have hadv : adv (poolSys W Q b jobs) ⟨1, 2, [x0, x1, x2, x3, x4, x5, x6, x7], false⟩ = ⟨1, 3, [x0, x1, x2, x3, x4, x5, x6, x7], false⟩ := by simp [-List.getD_eq_getElem?_getD, adv, len, poolSys, workP]
  rw [hadv]
  refine ⟨rfl, inv_next hI hk ⟨1, 3, [x0, x1, x2, x3, x4, x5, x6, x7], false⟩ ?_ _ _ _ _ ?_ ?_ ?_ ?_ ?_⟩
  case refine_1 =>
    refine ⟨rfl, by simp, by simp, by simp [-List.getD_eq_getElem?_getD, plen], by simp [-List.getD_eq_getElem?_getD, plen], ?_, ?_⟩
    · simp [-List.getD_eq_getElem?_getD, condC, reg] <;> omega
    · simp [-List.getD_eq_getElem?_getD, condF, reg] <;> omega
  case refine_6 =>
    constructor <;> (try simp only [c0, c1, c2, c3, ws, fs, ls, tok, sent, grp, pot, potC, potW, potF, fpast, lw, lpast, wpast, cpast, reg, F0, shutAt, heldAt, getD_set' _ _ _ _ _ hl0, getD_set' _ _ _ _ _ hl1, getD_set' _ _ _ _ _ hl2, getD_set' _ _ _ _ _ sl0, getD_set' _ _ _ _ _ sl1, getD_set' _ _ _ _ _ gl0, ge_iff_le, Int.le_refl, ↓reduceIte, and_true, true_and, and_false, false_and, List.getElem?_cons_succ, List.getElem?_cons_zero, Option.getD_some, List.length_append, List.length_cons, List.length_nil, Nat.reduceEqDiff, Nat.reduceLT, Nat.zero_ne_one, Nat.one_ne_zero, Int.reduceToNat, gt_iff_lt, reduceCtorEq, if_true, if_false]) <;> first | omega | assumption | exact ⟨fun h => by have := h08.1 h; omega, fun h => h08.2 (by omega)⟩ | exact ⟨fun h => by have := h09.1 h; omega, fun h => h09.2 (by omega)⟩ | (simp only [Int.le_refl, if_true]; omega) | (simp; omega)
  all_goals first | exact hI.hl | exact hI.shl | exact hI.gl | exact hI.cl | (simp [-List.getD_eq_getElem?_getD, hI.hl, hI.shl, hI.gl]; done) | (simpa using hI.cl)

theorem st_1_3 {W Q b jobs : Int} {st : St} (hI : Inv W Q b jobs st) (hW : 1 ≤ W) (hW2 : W ≤ 256) (hQ : 1 ≤ Q) (hb : 1 ≤ b) (hb2 : b ≤ 64) (hj : 0 ≤ jobs) (hj2 : jobs ≤ 1024) {k : Nat} (hk : k < st.rs.length) (x0 x1 x2 x3 x4 x5 x6 x7 : Int)
    (hr : st.rs.getD k default = ⟨1, 3, [x0, x1, x2, x3, x4, x5, x6, x7], false⟩) (hL : LI W b jobs ⟨1, 3, [x0, x1, x2, x3, x4, x5, x6, x7], false⟩)  :
    (step (poolSys W Q b jobs) st k).2 = 0 ∧ Inv W Q b jobs (step (poolSys W Q b jobs) st k).1 := by
  obtain ⟨l8, -, -, -, -, hC, hF⟩ := hL
  simp [-List.getD_eq_getElem?_getD, condC, condF, reg] at hC hF
  have hn := hI.n
  have hl := hI.hl
  have shl := hI.shl
  have gl := hI.gl
  have hl0 : 0 < st.held.length := by omega
  have hl1 : 1 < st.held.length := by omega
  have hl2 : 2 < st.held.length := by omega
  have sl0 : 0 < st.shut.length := by omega
  have sl1 : 1 < st.shut.length := by omega
  have gl0 : 0 < st.groups.length := by omega
  simp only [S_split _ st.rs k hk, hr] at hn
  have hR := ri_of W b jobs hW hW2 hb hb2 (st.rs.eraseIdx k) (fun x hx => hI.li x (List.mem_of_mem_eraseIdx hx))
  obtain ⟨r0, r1, r2, r3, r4, r5, r6, r7, r8, r9, r10, r11, r12, r13, r14, r15, r16, r17, r18, r19, r20, r21, r22, r23, r24⟩ := hR
  rw [S_mul] at r5 r12
  rw [S_add] at r24
  simp only [c0, c1, c2, c3, ws, fs, ls, tok, sent, grp, pot, potC, potW, potF, fpast, lw, lpast, wpast, cpast, reg, F0, shutAt, heldAt, Int.reduceLE, Int.reduceLT, Int.reduceEq, ge_iff_le, Int.le_refl, ↓reduceIte, and_true, true_and, and_false, false_and, List.getElem?_cons_succ, List.getElem?_cons_zero, Option.getD_some, List.length_append, List.length_cons, List.length_nil, Nat.reduceEqDiff, Nat.reduceLT, Nat.zero_ne_one, Nat.one_ne_zero, Int.reduceToNat, gt_iff_lt, reduceCtorEq, if_true, if_false] at hn
  obtain ⟨h00, h01, h02, h03, h04, h05, h06, h07, h08, h09, h10, h11, h12, h13, h14, h15⟩ := hn
  have hsf : st.shut.getD 2 false = false := h10
  have hA : act (poolSys W Q b jobs) st k ⟨1, 3, [x0, x1, x2, x3, x4, x5, x6, x7], false⟩ (insOf (poolSys W Q b jobs) ⟨1, 3, [x0, x1, x2, x3, x4, x5, x6, x7], false⟩) = ({ rs := st.rs.set k ⟨1, 3, [x0, x1, x2, x3, x4, x5, x6, x7], false⟩, held := (st.held.set 2 (st.held.getD 2 [] ++ [x3])), shut := st.shut, groups := st.groups, cells := st.cells, ev := st.ev }, 0) := by
    simp [-List.getD_eq_getElem?_getD, act, insOf, poolSys, workP, I, reg, setReg, heldAt, shutAt, set_self _ _ _ _ hk hr, hsf]
  rw [step_put _ _ _ _ ⟨1, 3, [x0, x1, x2, x3, x4, x5, x6, x7], false⟩ { rs := st.rs.set k ⟨1, 3, [x0, x1, x2, x3, x4, x5, x6, x7], false⟩, held := (st.held.set 2 (st.held.getD 2 [] ++ [x3])), shut := st.shut, groups := st.groups, cells := st.cells, ev := st.ev } hk hr hA]
  have hadv : adv (poolSys W Q b jobs) ⟨1, 3, [x0, x1, x2, x3, x4, x5, x6, x7], false⟩ = ⟨1, 4, [x0, x1, x2, x3, x4, x5, x6, x7], false⟩ := by simp [-List.getD_eq_getElem?_getD, adv, len, poolSys, workP]
  rw [hadv]
  refine ⟨rfl, inv_next hI hk ⟨1, 4, [x0, x1, x2, x3, x4, x5, x6, x7], false⟩ ?_ _ _ _ _ ?_ ?_ ?_ ?_ ?_⟩
  case refine_1 =>
    refine ⟨rfl, by simp, by simp, by simp [-List.getD_eq_getElem?_getD, plen], by simp [-List.getD_eq_getElem?_getD, plen], ?_, ?_⟩
    · simp [-List.getD_eq_getElem?_getD, condC, reg] <;> omega
    · simp [-List.getD_eq_getElem?_getD, condF, reg] <;> omega
  case refine_6 =>
    constructor <;> (try simp only [c0, c1, c2, c3, ws, fs, ls, tok, sent, grp, pot, potC, potW, potF, fpast, lw, lpast, wpast, cpast, reg, F0, shutAt, heldAt, getD_set' _ _ _ _ _ hl0, getD_set' _ _ _ _ _ hl1, getD_set' _ _ _ _ _ hl2, getD_set' _ _ _ _ _ sl0, getD_set' _ _ _ _ _ sl1, getD_set' _ _ _ _ _ gl0, ge_iff_le, Int.le_refl, ↓reduceIte, and_true, true_and, and_false, false_and, List.getElem?_cons_succ, List.getElem?_cons_zero, Option.getD_some, List.length_append, List.length_cons, List.length_nil, Nat.reduceEqDiff, Nat.reduceLT, Nat.zero_ne_one, Nat.one_ne_zero, Int.reduceToNat, gt_iff_lt, reduceCtorEq, if_true, if_false]) <;> first | omega | assumption | exact ⟨fun h => by have := h08.1 h; omega, fun h => h08.2 (by omega)⟩ | exact ⟨fun h => by have := h09.1 h; omega, fun h => h09.2 (by omega)⟩ | (simp only [Int.le_refl, if_true]; omega) | (simp; omega)
  all_goals first | exact hI.hl | exact hI.shl | exact hI.gl | exact hI.cl | (simp [-List.getD_eq_getElem?_getD, hI.hl, hI.shl, hI.gl]; done) | (simpa using hI.cl)

theorem st_1_4 {W Q b jobs : Int} {st : St} (hI : Inv W Q b jobs st) (hW : 1 ≤ W) (hW2 : W ≤ 256) (hQ : 1 ≤ Q) (hb : 1 ≤ b) (hb2 : b ≤ 64) (hj : 0 ≤ jobs) (hj2 : jobs ≤ 1024) {k : Nat} (hk : k < st.rs.length) (x0 x1 x2 x3 x4 x5 x6 x7 : Int)
    (hr : st.rs.getD k default = ⟨1, 4, [x0, x1, x2, x3, x4, x5, x6, x7], false⟩) (hL : LI W b jobs ⟨1, 4, [x0, x1, x2, x3, x4, x5, x6, x7], false⟩) (hq : ((st.held.getD 1 []).length : Int) < Q) :
    (step (poolSys W Q b jobs) st k).2 = 0 ∧ Inv W Q b jobs (step (poolSys W Q b jobs) st k).1 := by
  obtain ⟨l8, -, -, -, -, hC, hF⟩ := hL
  simp [-List.getD_eq_getElem?_getD, condC, condF, reg] at hC hF
  have hn := hI.n
  have hl := hI.hl
  have shl := hI.shl
  have gl := hI.gl
  have hl0 : 0 < st.held.length := by omega
  have hl1 : 1 < st.held.length := by omega
  have hl2 : 2 < st.held.length := by omega
  have sl0 : 0 < st.shut.length := by omega
  have sl1 : 1 < st.shut.length := by omega
  have gl0 : 0 < st.groups.length := by omega
  simp only [S_split _ st.rs k hk, hr] at hn
  have hR := ri_of W b jobs hW hW2 hb hb2 (st.rs.eraseIdx k) (fun x hx => hI.li x (List.mem_of_mem_eraseIdx hx))
  obtain ⟨r0, r1, r2, r3, r4, r5, r6, r7, r8, r9, r10, r11, r12, r13, r14, r15, r16, r17, r18, r19, r20, r21, r22, r23, r24⟩ := hR
  rw [S_mul] at r5 r12
  rw [S_add] at r24
  simp only [c0, c1, c2, c3, ws, fs, ls, tok, sent, grp, pot, potC, potW, potF, fpast, lw, lpast, wpast, cpast, reg, F0, shutAt, heldAt, Int.reduceLE, Int.reduceLT, Int.reduceEq, ge_iff_le, Int.le_refl, ↓reduceIte, and_true, true_and, and_false, false_and, List.getElem?_cons_succ, List.getElem?_cons_zero, Option.getD_some, List.length_append, List.length_cons, List.length_nil, Nat.reduceEqDiff, Nat.reduceLT, Nat.zero_ne_one, Nat.one_ne_zero, Int.reduceToNat, gt_iff_lt, reduceCtorEq, if_true, if_false] at hn
  obtain ⟨h00, h01, h02, h03, h04, h05, h06, h07, h08, h09, h10, h11, h12, h13, h14, h15⟩ := hn
  have hsf : st.shut.getD 1 false = false := by
    cases h : st.shut.getD 1 false
    · rfl
    · exfalso
      have h' := h09.1 h
      omega
  have hA : act (poolSys W Q b jobs) st k ⟨1, 4, [x0, x1, x2, x3, x4, x5, x6, x7], false⟩ (insOf (poolSys W Q b jobs) ⟨1, 4, [x0, x1, x2, x3, x4, x5, x6, x7], false⟩) = ({ rs := st.rs.set k ⟨1, 4, [x0, x1, x2, x3, x4, x5, x6, x7], false⟩, held := (st.held.set 1 (st.held.getD 1 [] ++ [x4])), shut := st.shut, groups := st.groups, cells := st.cells, ev := st.ev }, 0) := by
    simp [-List.getD_eq_getElem?_getD, act, insOf, poolSys, workP, I, reg, setReg, heldAt, shutAt, set_self _ _ _ _ hk hr, hsf]
  rw [step_put _ _ _ _ ⟨1, 4, [x0, x1, x2, x3, x4, x5, x6, x7], false⟩ { rs := st.rs.set k ⟨1, 4, [x0, x1, x2, x3, x4, x5, x6, x7], false⟩, held := (st.held.set 1 (st.held.getD 1 [] ++ [x4])), shut := st.shut, groups := st.groups, cells := st.cells, ev := st.ev } hk hr hA]
  have hadv : adv (poolSys W Q b jobs) ⟨1, 4, [x0, x1, x2, x3, x4, x5, x6, x7], false⟩ = ⟨1, 5, [x0, x1, x2, x3, x4, x5, x6, x7], false⟩ := by simp [-List.getD_eq_getElem?_getD, adv, len, poolSys, workP]
  rw [hadv]
  refine ⟨rfl, inv_next hI hk ⟨1, 5, [x0, x1, x2, x3, x4, x5, x6, x7], false⟩ ?_ _ _ _ _ ?_ ?_ ?_ ?_ ?_⟩
  case refine_1 =>
    refine ⟨rfl, by simp, by simp, by simp [-List.getD_eq_getElem?_getD, plen], by simp [-List.getD_eq_getElem?_getD, plen], ?_, ?_⟩
    · simp [-List.getD_eq_getElem?_getD, condC, reg] <;> omega
    · simp [-List.getD_eq_getElem?_getD, condF, reg] <;> omega
  case refine_6 =>
    constructor <;> (try simp only [c0, c1, c2, c3, ws, fs, ls, tok, sent, grp, pot, potC, potW, potF, fpast, lw, lpast, wpast, cpast, reg, F0, shutAt, heldAt, getD_set' _ _ _ _ _ hl0, getD_set' _ _ _ _ _ hl1, getD_set' _ _ _ _ _ hl2, getD_set' _ _ _ _ _ sl0, getD_set' _ _ _ _ _ sl1, getD_set' _ _ _ _ _ gl0, ge_iff_le, Int.le_refl, ↓reduceIte, and_true, true_and, and_false, false_and, List.getElem?_cons_succ, List.getElem?_cons_zero, Option.getD_some, List.length_append, List.length_cons, List.length_nil, Nat.reduceEqDiff, Nat.reduceLT, Nat.zero_ne_one, Nat.one_ne_zero, Int.reduceToNat, gt_iff_lt, reduceCtorEq, if_true, if_false]) <;> first | omega | assumption | exact ⟨fun h => by have := h08.1 h; omega, fun h => h08.2 (by omega)⟩ | exact ⟨fun h => by have := h09.1 h; omega, fun h => h09.2 (by omega)⟩ | (simp only [Int.le_refl, if_true]; omega) | (simp; omega)
  all_goals first | exact hI.hl | exact hI.shl | exact hI.gl | exact hI.cl | (simp [-List.getD_eq_getElem?_getD, hI.hl, hI.shl, hI.gl]; done) | (simpa using hI.cl)

theorem st_1_5 {W Q b jobs : Int} {st : St} (hI : Inv W Q b jobs st) (hW : 1 ≤ W) (hW2 : W ≤ 256) (hQ : 1 ≤ Q) (hb : 1 ≤ b) (hb2 : b ≤ 64) (hj : 0 ≤ jobs) (hj2 : jobs ≤ 1024) {k : Nat} (hk : k < st.rs.length) (x0 x1 x2 x3 x4 x5 x6 x7 : Int)
    (hr : st.rs.getD k default = ⟨1, 5, [x0, x1, x2, x3, x4, x5, x6, x7], false⟩) (hL : LI W b jobs ⟨1, 5, [x0, x1, x2, x3, x4, x5, x6, x7], false⟩)  :
    (step (poolSys W Q b jobs) st k).2 = 0 ∧ Inv W Q b jobs (step (poolSys W Q b jobs) st k).1 := by
  obtain ⟨l8, -, -, -, -, hC, hF⟩ := hL
  simp [-List.getD_eq_getElem?_getD, condC, condF, reg] at hC hF
  have hn := hI.n
  have hl := hI.hl
  have shl := hI.shl
  have gl := hI.gl
  have hl0 : 0 < st.held.length := by omega
  have hl1 : 1 < st.held.length := by omega
  have hl2 : 2 < st.held.length := by omega
  have sl0 : 0 < st.shut.length := by omega
  have sl1 : 1 < st.shut.length := by omega
  have gl0 : 0 < st.groups.length := by omega
  simp only [S_split _ st.rs k hk, hr] at hn
  have hR := ri_of W b jobs hW hW2 hb hb2 (st.rs.eraseIdx k) (fun x hx => hI.li x (List.mem_of_mem_eraseIdx hx))
  obtain ⟨r0, r1, r2, r3, r4, r5, r6, r7, r8, r9, r10, r11, r12, r13, r14, r15, r16, r17, r18, r19, r20, r21, r22, r23, r24⟩ := hR
  rw [S_mul] at r5 r12
  rw [S_add] at r24
  simp only [c0, c1, c2, c3, ws, fs, ls, tok, sent, grp, pot, potC, potW, potF, fpast, lw, lpast, wpast, cpast, reg, F0, shutAt, heldAt, Int.reduceLE, Int.reduceLT, Int.reduceEq, ge_iff_le, Int.le_refl, ↓reduceIte, and_true, true_and, and_false, false_and, List.getElem?_cons_succ, List.getElem?_cons_zero, Option.getD_some, List.length_append, List.length_cons, List.length_nil, Nat.reduceEqDiff, Nat.reduceLT, Nat.zero_ne_one, Nat.one_ne_zero, Int.reduceToNat, gt_iff_lt, reduceCtorEq, if_true, if_false] at hn
  obtain ⟨h00, h01, h02, h03, h04, h05, h06, h07, h08, h09, h10, h11, h12, h13, h14, h15⟩ := hn
  skip
  have hA : act (poolSys W Q b jobs) st k ⟨1, 5, [x0, x1, x2, x3, x4, x5, x6, x7], false⟩ (insOf (poolSys W Q b jobs) ⟨1, 5, [x0, x1, x2, x3, x4, x5, x6, x7], false⟩) = ({ rs := st.rs.set k ⟨1, -1, [x0, x1, x2, x3, x4, x5, x6, x7], false⟩, held := st.held, shut := st.shut, groups := st.groups, cells := st.cells, ev := st.ev }, 0) := by
    simp [-List.getD_eq_getElem?_getD, act, insOf, poolSys, workP, I, reg, setReg, heldAt, shutAt, set_self _ _ _ _ hk hr]
  rw [step_put _ _ _ _ ⟨1, -1, [x0, x1, x2, x3, x4, x5, x6, x7], false⟩ { rs := st.rs.set k ⟨1, -1, [x0, x1, x2, x3, x4, x5, x6, x7], false⟩, held := st.held, shut := st.shut, groups := st.groups, cells := st.cells, ev := st.ev } hk hr hA]
  have hadv : adv (poolSys W Q b jobs) ⟨1, -1, [x0, x1, x2, x3, x4, x5, x6, x7], false⟩ = ⟨1, 0, [x0, x1, x2, x3, x4, x5, x6, x7], false⟩ := by simp [-List.getD_eq_getElem?_getD, adv, len, poolSys, workP]
  rw [hadv]
  refine ⟨rfl, inv_next hI hk ⟨1, 0, [x0, x1, x2, x3, x4, x5, x6, x7], false⟩ ?_ _ _ _ _ ?_ ?_ ?_ ?_ ?_⟩
  case refine_1 =>
    refine ⟨rfl, by simp, by simp, by simp [-List.getD_eq_getElem?_getD, plen], by simp [-List.getD_eq_getElem?_getD, plen], ?_, ?_⟩
    · simp [-List.getD_eq_getElem?_getD, condC, reg] <;> omega
    · simp [-List.getD_eq_getElem?_getD, condF, reg] <;> omega
  case refine_6 =>
    constructor <;> (try simp only [c0, c1, c2, c3, ws, fs, ls, tok, sent, grp, pot, potC, potW, potF, fpast, lw, lpast, wpast, cpast, reg, F0, shutAt, heldAt, getD_set' _ _ _ _ _ hl0, getD_set' _ _ _ _ _ hl1, getD_set' _ _ _ _ _ hl2, getD_set' _ _ _ _ _ sl0, getD_set' _ _ _ _ _ sl1, getD_set' _ _ _ _ _ gl0, ge_iff_le, Int.le_refl, ↓reduceIte, and_true, true_and, and_false, false_and, List.getElem?_cons_succ, List.getElem?_cons_zero, Option.getD_some, List.length_append, List.length_cons, List.length_nil, Nat.reduceEqDiff, Nat.reduceLT, Nat.zero_ne_one, Nat.one_ne_zero, Int.reduceToNat, gt_iff_lt, reduceCtorEq, if_true, if_false]) <;> first | omega | assumption | exact ⟨fun h => by have := h08.1 h; omega, fun h => h08.2 (by omega)⟩ | exact ⟨fun h => by have := h09.1 h; omega, fun h => h09.2 (by omega)⟩ | (simp only [Int.le_refl, if_true]; omega) | (simp; omega)
  all_goals first | exact hI.hl | exact hI.shl | exact hI.gl | exact hI.cl | (simp [-List.getD_eq_getElem?_getD, hI.hl, hI.shl, hI.gl]; done) | (simpa using hI.cl)

theorem st_1_6 {W Q b jobs : Int} {st : St} (hI : Inv W Q b jobs st) (hW : 1 ≤ W) (hW2 : W ≤ 256) (hQ : 1 ≤ Q) (hb : 1 ≤ b) (hb2 : b ≤ 64) (hj : 0 ≤ jobs) (hj2 : jobs ≤ 1024) {k : Nat} (hk : k < st.rs.length) (x0 x1 x2 x3 x4 x5 x6 x7 : Int)
    (hr : st.rs.getD k default = ⟨1, 6, [x0, x1, x2, x3, x4, x5, x6, x7], false⟩) (hL : LI W b jobs ⟨1, 6, [x0, x1, x2, x3, x4, x5, x6, x7], false⟩)  :
    (step (poolSys W Q b jobs) st k).2 = 0 ∧ Inv W Q b jobs (step (poolSys W Q b jobs) st k).1 := by
  obtain ⟨l8, -, -, -, -, hC, hF⟩ := hL
  simp [-List.getD_eq_getElem?_getD, condC, condF, reg] at hC hF
  have hn := hI.n
  have hl := hI.hl
  have shl := hI.shl
  have gl := hI.gl
  have hl0 : 0 < st.held.length := by omega
  have hl1 : 1 < st.held.length := by omega
  have hl2 : 2 < st.held.length := by omega
  have sl0 : 0 < st.shut.length := by omega
  have sl1 : 1 < st.shut.length := by omega
  have gl0 : 0 < st.groups.length := by omega
  simp only [S_split _ st.rs k hk, hr] at hn
  have hR := ri_of W b jobs hW hW2 hb hb2 (st.rs.eraseIdx k) (fun x hx => hI.li x (List.mem_of_mem_eraseIdx hx))
  obtain ⟨r0, r1, r2, r3, r4, r5, r6, r7, r8, r9, r10, r11, r12, r13, r14, r15, r16, r17, r18, r19, r20, r21, r22, r23, r24⟩ := hR
  rw [S_mul] at r5 r12
  rw [S_add] at r24
  simp only [c0, c1, c2, c3, ws, fs, ls, tok, sent, grp, pot, potC, potW, potF, fpast, lw, lpast, wpast, cpast, reg, F0, shutAt, heldAt, Int.reduceLE, Int.reduceLT, Int.reduceEq, ge_iff_le, Int.le_refl, ↓reduceIte, and_true, true_and, and_false, false_and, List.getElem?_cons_succ, List.getElem?_cons_zero, Option.getD_some, List.length_append, List.length_cons, List.length_nil, Nat.reduceEqDiff, Nat.reduceLT, Nat.zero_ne_one, Nat.one_ne_zero, Int.reduceToNat, gt_iff_lt, reduceCtorEq, if_true, if_false] at hn
  obtain ⟨h00, h01, h02, h03, h04, h05, h06, h07, h08, h09, h10, h11, h12, h13, h14, h15⟩ := hn
  have hw : wrap (st.groups.getD 0 0 + (-1)) = st.groups.getD 0 0 + (-1) := wrap_in _ (by omega)
  have hge : ¬ st.groups.getD 0 0 + (-1) < 0 := by omega
  have hA : act (poolSys W Q b jobs) st k ⟨1, 6, [x0, x1, x2, x3, x4, x5, x6, x7], false⟩ (insOf (poolSys W Q b jobs) ⟨1, 6, [x0, x1, x2, x3, x4, x5, x6, x7], false⟩) = ({ rs := st.rs.set k ⟨1, 6, [x0, x1, x2, x3, x4, x5, x6, x7], false⟩, held := st.held, shut := st.shut, groups := (st.groups.set 0 (st.groups.getD 0 0 + (-1))), cells := st.cells, ev := st.ev }, 0) := by
    simp [-List.getD_eq_getElem?_getD, act, insOf, poolSys, workP, I, reg, setReg, heldAt, shutAt, set_self _ _ _ _ hk hr, hw, hge]
  rw [step_put _ _ _ _ ⟨1, 6, [x0, x1, x2, x3, x4, x5, x6, x7], false⟩ { rs := st.rs.set k ⟨1, 6, [x0, x1, x2, x3, x4, x5, x6, x7], false⟩, held := st.held, shut := st.shut, groups := (st.groups.set 0 (st.groups.getD 0 0 + (-1))), cells := st.cells, ev := st.ev } hk hr hA]
  have hadv : adv (poolSys W Q b jobs) ⟨1, 6, [x0, x1, x2, x3, x4, x5, x6, x7], false⟩ = ⟨1, 7, [x0, x1, x2, x3, x4, x5, x6, x7], false⟩ := by simp [-List.getD_eq_getElem?_getD, adv, len, poolSys, workP]
  rw [hadv]
  refine ⟨rfl, inv_next hI hk ⟨1, 7, [x0, x1, x2, x3, x4, x5, x6, x7], false⟩ ?_ _ _ _ _ ?_ ?_ ?_ ?_ ?_⟩
  case refine_1 =>
    refine ⟨rfl, by simp, by simp, by simp [-List.getD_eq_getElem?_getD, plen], by simp [-List.getD_eq_getElem?_getD, plen], ?_, ?_⟩
    · simp [-List.getD_eq_getElem?_getD, condC, reg] <;> omega
    · simp [-List.getD_eq_getElem?_getD, condF, reg] <;> omega
  case refine_6 =>
    constructor <;> (try simp only [c0, c1, c2, c3, ws, fs, ls, tok, sent, grp, pot, potC, potW, potF, fpast, lw, lpast, wpast, cpast, reg, F0, shutAt, heldAt, getD_set' _ _ _ _ _ hl0, getD_set' _ _ _ _ _ hl1, getD_set' _ _ _ _ _ hl2, getD_set' _ _ _ _ _ sl0, getD_set' _ _ _ _ _ sl1, getD_set' _ _ _ _ _ gl0, ge_iff_le, Int.le_refl, ↓reduceIte, and_true, true_and, and_false, false_and, List.getElem?_cons_succ, List.getElem?_cons_zero, Option.getD_some, List.length_append, List.length_cons, List.length_nil, Nat.reduceEqDiff, Nat.reduceLT, Nat.zero_ne_one, Nat.one_ne_zero, Int.reduceToNat, gt_iff_lt, reduceCtorEq, if_true, if_false]) <;> first | omega | assumption | exact ⟨fun h => by have := h08.1 h; omega, fun h => h08.2 (by omega)⟩ | exact ⟨fun h => by have := h09.1 h; omega, fun h => h09.2 (by omega)⟩ | (simp only [Int.le_refl, if_true]; omega) | (simp; omega)
  all_goals first | exact hI.hl | exact hI.shl | exact hI.gl | exact hI.cl | (simp [-List.getD_eq_getElem?_getD, hI.hl, hI.shl, hI.gl]; done) | (simpa using hI.cl)

theorem st_1_7 {W Q b jobs : Int} {st : St} (hI : Inv W Q b jobs st) (hW : 1 ≤ W) (hW2 : W ≤ 256) (hQ : 1 ≤ Q) (hb : 1 ≤ b) (hb2 : b ≤ 64) (hj : 0 ≤ jobs) (hj2 : jobs ≤ 1024) {k : Nat} (hk : k < st.rs.length) (x0 x1 x2 x3 x4 x5 x6 x7 : Int)
    (hr : st.rs.getD k default = ⟨1, 7, [x0, x1, x2, x3, x4, x5, x6, x7], false⟩) (hL : LI W b jobs ⟨1, 7, [x0, x1, x2, x3, x4, x5, x6, x7], false⟩)  :
    (step (poolSys W Q b jobs) st k).2 = 0 ∧ Inv W Q b jobs (step (poolSys W Q b jobs) st k).1 := by
  obtain ⟨l8, -, -, -, -, hC, hF⟩ := hL
  simp [-List.getD_eq_getElem?_getD, condC, condF, reg] at hC hF
  have hn := hI.n
  have hl := hI.hl
  have shl := hI.shl
  have gl := hI.gl
  have hl0 : 0 < st.held.length := by omega
  have hl1 : 1 < st.held.length := by omega
  have hl2 : 2 < st.held.length := by omega
  have sl0 : 0 < st.shut.length := by omega
  have sl1 : 1 < st.shut.length := by omega
  have gl0 : 0 < st.groups.length := by omega
  simp only [S_split _ st.rs k hk, hr] at hn
  have hR := ri_of W b jobs hW hW2 hb hb2 (st.rs.eraseIdx k) (fun x hx => hI.li x (List.mem_of_mem_eraseIdx hx))
  obtain ⟨r0, r1, r2, r3, r4, r5, r6, r7, r8, r9, r10, r11, r12, r13, r14, r15, r16, r17, r18, r19, r20, r21, r22, r23, r24⟩ := hR
  rw [S_mul] at r5 r12
  rw [S_add] at r24
  simp only [c0, c1, c2, c3, ws, fs, ls, tok, sent, grp, pot, potC, potW, potF, fpast, lw, lpast, wpast, cpast, reg, F0, shutAt, heldAt, Int.reduceLE, Int.reduceLT, Int.reduceEq, ge_iff_le, Int.le_refl, ↓reduceIte, and_true, true_and, and_false, false_and, List.getElem?_cons_succ, List.getElem?_cons_zero, Option.getD_some, List.length_append, List.length_cons, List.length_nil, Nat.reduceEqDiff, Nat.reduceLT, Nat.zero_ne_one, Nat.one_ne_zero, Int.reduceToNat, gt_iff_lt, reduceCtorEq, if_true, if_false] at hn
  obtain ⟨h00, h01, h02, h03, h04, h05, h06, h07, h08, h09, h10, h11, h12, h13, h14, h15⟩ := hn
  skip
  have hA : act (poolSys W Q b jobs) st k ⟨1, 7, [x0, x1, x2, x3, x4, x5, x6, x7], false⟩ (insOf (poolSys W Q b jobs) ⟨1, 7, [x0, x1, x2, x3, x4, x5, x6, x7], false⟩) = ({ rs := st.rs.set k ⟨1, 7, [x0, x1, x2, x3, x4, x5, x6, x7], true⟩, held := st.held, shut := st.shut, groups := st.groups, cells := st.cells, ev := st.ev }, 0) := by
    simp [-List.getD_eq_getElem?_getD, act, insOf, poolSys, workP, I, reg, setReg, heldAt, shutAt, set_self _ _ _ _ hk hr]
  rw [step_put _ _ _ _ ⟨1, 7, [x0, x1, x2, x3, x4, x5, x6, x7], true⟩ { rs := st.rs.set k ⟨1, 7, [x0, x1, x2, x3, x4, x5, x6, x7], true⟩, held := st.held, shut := st.shut, groups := st.groups, cells := st.cells, ev := st.ev } hk hr hA]
  have hadv : adv (poolSys W Q b jobs) ⟨1, 7, [x0, x1, x2, x3, x4, x5, x6, x7], true⟩ = ⟨1, 8, [x0, x1, x2, x3, x4, x5, x6, x7], true⟩ := by simp [-List.getD_eq_getElem?_getD, adv, len, poolSys, workP]
  rw [hadv]
  refine ⟨rfl, inv_next hI hk ⟨1, 8, [x0, x1, x2, x3, x4, x5, x6, x7], true⟩ ?_ _ _ _ _ ?_ ?_ ?_ ?_ ?_⟩
  case refine_1 =>
    refine ⟨rfl, by simp, by simp, by simp [-List.getD_eq_getElem?_getD, plen], by simp [-List.getD_eq_getElem?_getD, plen], ?_, ?_⟩
    · simp [-List.getD_eq_getElem?_getD, condC, reg] <;> omega
    · simp [-List.getD_eq_getElem?_getD, condF, reg] <;> omega
  case refine_6 =>
    constructor <;> (try simp only [c0, c1, c2, c3, ws, fs, ls, tok, sent, grp, pot, potC, potW, potF, fpast, lw, lpast, wpast, cpast, reg, F0, shutAt, heldAt, getD_set' _ _ _ _ _ hl0, getD_set' _ _ _ _ _ hl1, getD_set' _ _ _ _ _ hl2, getD_set' _ _ _ _ _ sl0, getD_set' _ _ _ _ _ sl1, getD_set' _ _ _ _ _ gl0, ge_iff_le, Int.le_refl, ↓reduceIte, and_true, true_and, and_false, false_and, List.getElem?_cons_succ, List.getElem?_cons_zero, Option.getD_some, List.length_append, List.length_cons, List.length_nil, Nat.reduceEqDiff, Nat.reduceLT, Nat.zero_ne_one, Nat.one_ne_zero, Int.reduceToNat, gt_iff_lt, reduceCtorEq, if_true, if_false]) <;> first | omega | assumption | exact ⟨fun h => by have := h08.1 h; omega, fun h => h08.2 (by omega)⟩ | exact ⟨fun h => by have := h09.1 h; omega, fun h => h09.2 (by omega)⟩ | (simp only [Int.le_refl, if_true]; omega) | (simp; omega)
  all_goals first | exact hI.hl | exact hI.shl | exact hI.gl | exact hI.cl | (simp [-List.getD_eq_getElem?_getD, hI.hl, hI.shl, hI.gl]; done) | (simpa using hI.cl)

theorem st_2_0 {W Q b jobs : Int} {st : St} (hI : Inv W Q b jobs st) (hW : 1 ≤ W) (hW2 : W ≤ 256) (hQ : 1 ≤ Q) (hb : 1 ≤ b) (hb2 : b ≤ 64) (hj : 0 ≤ jobs) (hj2 : jobs ≤ 1024) {k : Nat} (hk : k < st.rs.length) (x0 x1 x2 x3 x4 x5 x6 x7 : Int)
    (hr : st.rs.getD k default = ⟨2, 0, [x0, x1, x2, x3, x4, x5, x6, x7], false⟩) (hL : LI W b jobs ⟨2, 0, [x0, x1, x2, x3, x4, x5, x6, x7], false⟩)  :
    (step (poolSys W Q b jobs) st k).2 = 0 ∧ Inv W Q b jobs (step (poolSys W Q b jobs) st k).1 := by
  obtain ⟨l8, -, -, -, -, hC, hF⟩ := hL
  simp [-List.getD_eq_getElem?_getD, condC, condF, reg] at hC hF
  have hn := hI.n
  have hl := hI.hl
  have shl := hI.shl
  have gl := hI.gl
  have hl0 : 0 < st.held.length := by omega
  have hl1 : 1 < st.held.length := by omega
  have hl2 : 2 < st.held.length := by omega
  have sl0 : 0 < st.shut.length := by omega
  have sl1 : 1 < st.shut.length := by omega
  have gl0 : 0 < st.groups.length := by omega
  simp only [S_split _ st.rs k hk, hr] at hn
  have hR := ri_of W b jobs hW hW2 hb hb2 (st.rs.eraseIdx k) (fun x hx => hI.li x (List.mem_of_mem_eraseIdx hx))
  obtain ⟨r0, r1, r2, r3, r4, r5, r6, r7, r8, r9, r10, r11, r12, r13, r14, r15, r16, r17, r18, r19, r20, r21, r22, r23, r24⟩ := hR
  rw [S_mul] at r5 r12
  rw [S_add] at r24
  simp only [c0, c1, c2, c3, ws, fs, ls, tok, sent, grp, pot, potC, potW, potF, fpast, lw, lpast, wpast, cpast, reg, F0, shutAt, heldAt, Int.reduceLE, Int.reduceLT, Int.reduceEq, ge_iff_le, Int.le_refl, ↓reduceIte, and_true, true_and, and_false, false_and, List.getElem?_cons_succ, List.getElem?_cons_zero, Option.getD_some, List.length_append, List.length_cons, List.length_nil, Nat.reduceEqDiff, Nat.reduceLT, Nat.zero_ne_one, Nat.one_ne_zero, Int.reduceToNat, gt_iff_lt, reduceCtorEq, if_true, if_false] at hn
  obtain ⟨h00, h01, h02, h03, h04, h05, h06, h07, h08, h09, h10, h11, h12, h13, h14, h15⟩ := hn
  skip
  have hA : act (poolSys W Q b jobs) st k ⟨2, 0, [x0, x1, x2, x3, x4, x5, x6, x7], false⟩ (insOf (poolSys W Q b jobs) ⟨2, 0, [x0, x1, x2, x3, x4, x5, x6, x7], false⟩) = ({ rs := st.rs.set k ⟨2, 0, [0, x1, x2, x3, x4, x5, x6, x7], false⟩, held := st.held, shut := st.shut, groups := st.groups, cells := st.cells, ev := st.ev }, 0) := by
    simp [-List.getD_eq_getElem?_getD, act, insOf, poolSys, feedP, I, reg, setReg, heldAt, shutAt, set_self _ _ _ _ hk hr]
  rw [step_put _ _ _ _ ⟨2, 0, [0, x1, x2, x3, x4, x5, x6, x7], false⟩ { rs := st.rs.set k ⟨2, 0, [0, x1, x2, x3, x4, x5, x6, x7], false⟩, held := st.held, shut := st.shut, groups := st.groups, cells := st.cells, ev := st.ev } hk hr hA]
  have hadv : adv (poolSys W Q b jobs) ⟨2, 0, [0, x1, x2, x3, x4, x5, x6, x7], false⟩ = ⟨2, 1, [0, x1, x2, x3, x4, x5, x6, x7], false⟩ := by simp [-List.getD_eq_getElem?_getD, adv, len, poolSys, feedP]
  rw [hadv]
  refine ⟨rfl, inv_next hI hk ⟨2, 1, [0, x1, x2, x3, x4, x5, x6, x7], false⟩ ?_ _ _ _ _ ?_ ?_ ?_ ?_ ?_⟩
  case refine_1 =>
    refine ⟨rfl, by simp, by simp, by simp [-List.getD_eq_getElem?_getD, plen], by simp [-List.getD_eq_getElem?_getD, plen], ?_, ?_⟩
    · simp [-List.getD_eq_getElem?_getD, condC, reg] <;> omega
    · simp [-List.getD_eq_getElem?_getD, condF, reg] <;> omega
  case refine_6 =>
    constructor <;> (try simp only [c0, c1, c2, c3, ws, fs, ls, tok, sent, grp, pot, potC, potW, potF, fpast, lw, lpast, wpast, cpast, reg, F0, shutAt, heldAt, getD_set' _ _ _ _ _ hl0, getD_set' _ _ _ _ _ hl1, getD_set' _ _ _ _ _ hl2, getD_set' _ _ _ _ _ sl0, getD_set' _ _ _ _ _ sl1, getD_set' _ _ _ _ _ gl0, ge_iff_le, Int.le_refl, ↓reduceIte, and_true, true_and, and_false, false_and, List.getElem?_cons_succ, List.getElem?_cons_zero, Option.getD_some, List.length_append, List.length_cons, List.length_nil, Nat.reduceEqDiff, Nat.reduceLT, Nat.zero_ne_one, Nat.one_ne_zero, Int.reduceToNat, gt_iff_lt, reduceCtorEq, if_true, if_false]) <;> first | omega | assumption | exact ⟨fun h => by have := h08.1 h; omega, fun h => h08.2 (by omega)⟩ | exact ⟨fun h => by have := h09.1 h; omega, fun h => h09.2 (by omega)⟩ | (simp only [Int.le_refl, if_true]; omega) | (simp; omega)
  all_goals first | exact hI.hl | exact hI.shl | exact hI.gl | exact hI.cl | (simp [-List.getD_eq_getElem?_getD, hI.hl, hI.shl, hI.gl]; done) | (simpa using hI.cl)

theorem st_2_1 {W Q b jobs : Int} {st : St} (hI : Inv W Q b jobs st) (hW : 1 ≤ W) (hW2 : W ≤ 256) (hQ : 1 ≤ Q) (hb : 1 ≤ b) (hb2 : b ≤ 64) (hj : 0 ≤ jobs) (hj2 : jobs ≤ 1024) {k : Nat} (hk : k < st.rs.length) (x0 x1 x2 x3 x4 x5 x6 x7 : Int)
    (hr : st.rs.getD k default = ⟨2, 1, [x0, x1, x2, x3, x4, x5, x6, x7], false⟩) (hL : LI W b jobs ⟨2, 1, [x0, x1, x2, x3, x4, x5, x6, x7], false⟩)  :
    (step (poolSys W Q b jobs) st k).2 = 0 ∧ Inv W Q b jobs (step (poolSys W Q b jobs) st k).1 := by
  obtain ⟨l8, -, -, -, -, hC, hF⟩ := hL
  simp [-List.getD_eq_getElem?_getD, condC, condF, reg] at hC hF
  have hn := hI.n
  have hl := hI.hl
  have shl := hI.shl
  have gl := hI.gl
  have hl0 : 0 < st.held.length := by omega
  have hl1 : 1 < st.held.length := by omega
  have hl2 : 2 < st.held.length := by omega
  have sl0 : 0 < st.shut.length := by omega
  have sl1 : 1 < st.shut.length := by omega
  have gl0 : 0 < st.groups.length := by omega
  simp only [S_split _ st.rs k hk, hr] at hn
  have hR := ri_of W b jobs hW hW2 hb hb2 (st.rs.eraseIdx k) (fun x hx => hI.li x (List.mem_of_mem_eraseIdx hx))
  obtain ⟨r0, r1, r2, r3, r4, r5, r6, r7, r8, r9, r10, r11, r12, r13, r14, r15, r16, r17, r18, r19, r20, r21, r22, r23, r24⟩ := hR
  rw [S_mul] at r5 r12
  rw [S_add] at r24
  simp only [c0, c1, c2, c3, ws, fs, ls, tok, sent, grp, pot, potC, potW, potF, fpast, lw, lpast, wpast, cpast, reg, F0, shutAt, heldAt, Int.reduceLE, Int.reduceLT, Int.reduceEq, ge_iff_le, Int.le_refl, ↓reduceIte, and_true, true_and, and_false, false_and, List.getElem?_cons_succ, List.getElem?_cons_zero, Option.getD_some, List.length_append, List.length_cons, List.length_nil, Nat.reduceEqDiff, Nat.reduceLT, Nat.zero_ne_one, Nat.one_ne_zero, Int.reduceToNat, gt_iff_lt, reduceCtorEq, if_true, if_false] at hn
  obtain ⟨h00, h01, h02, h03, h04, h05, h06, h07, h08, h09, h10, h11, h12, h13, h14, h15⟩ := hn
  skip
  have hA : act (poolSys W Q b jobs) st k ⟨2, 1, [x0, x1, x2, x3, x4, x5, x6, x7], false⟩ (insOf (poolSys W Q b jobs) ⟨2, 1, [x0, x1, x2, x3, x4, x5, x6, x7], false⟩) = ({ rs := st.rs.set k ⟨2, 1, [x0, b, x2, x3, x4, x5, x6, x7], false⟩, held := st.held, shut := st.shut, groups := st.groups, cells := st.cells, ev := st.ev }, 0) := by
    simp [-List.getD_eq_getElem?_getD, act, insOf, poolSys, feedP, I, reg, setReg, heldAt, shutAt, set_self _ _ _ _ hk hr]
  rw [step_put _ _ _ _ ⟨2, 1, [x0, b, x2, x3, x4, x5, x6, x7], false⟩ { rs := st.rs.set k ⟨2, 1, [x0, b, x2, x3, x4, x5, x6, x7], false⟩, held := st.held, shut := st.shut, groups := st.groups, cells := st.cells, ev := st.ev } hk hr hA]
  have hadv : adv (poolSys W Q b jobs) ⟨2, 1, [x0, b, x2, x3, x4, x5, x6, x7], false⟩ = ⟨2, 2, [x0, b, x2, x3, x4, x5, x6, x7], false⟩ := by simp [-List.getD_eq_getElem?_getD, adv, len, poolSys, feedP]
  rw [hadv]
  refine ⟨rfl, inv_next hI hk ⟨2, 2, [x0, b, x2, x3, x4, x5, x6, x7], false⟩ ?_ _ _ _ _ ?_ ?_ ?_ ?_ ?_⟩
  case refine_1 =>
    refine ⟨rfl, by simp, by simp, by simp [-List.getD_eq_getElem?_getD, plen], by simp [-List.getD_eq_getElem?_getD, plen], ?_, ?_⟩
    · simp [-List.getD_eq_getElem?_getD, condC, reg] <;> omega
    · simp [-List.getD_eq_getElem?_getD, condF, reg] <;> omega
  case refine_6 =>
    constructor <;> (try simp only [c0, c1, c2, c3, ws, fs, ls, tok, sent, grp, pot, potC, potW, potF, fpast, lw, lpast, wpast, cpast, reg, F0, shutAt, heldAt, getD_set' _ _ _ _ _ hl0, getD_set' _ _ _ _ _ hl1, getD_set' _ _ _ _ _ hl2, getD_set' _ _ _ _ _ sl0, getD_set' _ _ _ _ _ sl1, getD_set' _ _ _ _ _ gl0, ge_iff_le, Int.le_refl, ↓reduceIte, and_true, true_and, and_false, false_and, List.getElem?_cons_succ, List.getElem?_cons_zero, Option.getD_some, List.length_append, List.length_cons, List.length_nil, Nat.reduceEqDiff, Nat.reduceLT, Nat.zero_ne_one, Nat.one_ne_zero, Int.reduceToNat, gt_iff_lt, reduceCtorEq, if_true, if_false]) <;> first | omega | assumption | exact ⟨fun h => by have := h08.1 h; omega, fun h => h08.2 (by omega)⟩ | exact ⟨fun h => by have := h09.1 h; omega, fun h => h09.2 (by omega)⟩ | (simp only [Int.le_refl, if_true]; omega) | (simp; omega)
  all_goals first | exact hI.hl | exact hI.shl | exact hI.gl | exact hI.cl | (simp [-List.getD_eq_getElem?_getD, hI.hl, hI.shl, hI.gl]; done) | (simpa using hI.cl)

theorem st_2_2 {W Q b jobs : Int} {st : St} (hI : Inv W Q b jobs st) (hW : 1 ≤ W) (hW2 : W ≤ 256) (hQ : 1 ≤ Q) (hb : 1 ≤ b) (hb2 : b ≤ 64) (hj : 0 ≤ jobs) (hj2 : jobs ≤ 1024) {k : Nat} (hk : k < st.rs.length) (x0 x1 x2 x3 x4 x5 x6 x7 : Int)
    (hr : st.rs.getD k default = ⟨2, 2, [x0, x1, x2, x3, x4, x5, x6, x7], false⟩) (hL : LI W b jobs ⟨2, 2, [x0, x1, x2, x3, x4, x5, x6, x7], false⟩)  :
    (step (poolSys W Q b jobs) st k).2 = 0 ∧ Inv W Q b jobs (step (poolSys W Q b jobs) st k).1 := by
  obtain ⟨l8, -, -, -, -, hC, hF⟩ := hL
  simp [-List.getD_eq_getElem?_getD, condC, condF, reg] at hC hF
  have hn := hI.n
  have hl := hI.hl
  have shl := hI.shl
  have gl := hI.gl
  have hl0 : 0 < st.held.length := by omega
  have hl1 : 1 < st.held.length := by omega
  have hl2 : 2 < st.held.length := by omega
  have sl0 : 0 < st.shut.length := by omega
  have sl1 : 1 < st.shut.length := by omega
  have gl0 : 0 < st.groups.length := by omega
  simp only [S_split _ st.rs k hk, hr] at hn
  have hR := ri_of W b jobs hW hW2 hb hb2 (st.rs.eraseIdx k) (fun x hx => hI.li x (List.mem_of_mem_eraseIdx hx))
  obtain ⟨r0, r1, r2, r3, r4, r5, r6, r7, r8, r9, r10, r11, r12, r13, r14, r15, r16, r17, r18, r19, r20, r21, r22, r23, r24⟩ := hR
  rw [S_mul] at r5 r12
  rw [S_add] at r24
  simp only [c0, c1, c2, c3, ws, fs, ls, tok, sent, grp, pot, potC, potW, potF, fpast, lw, lpast, wpast, cpast, reg, F0, shutAt, heldAt, Int.reduceLE, Int.reduceLT, Int.reduceEq, ge_iff_le, Int.le_refl, ↓reduceIte, and_true, true_and, and_false, false_and, List.getElem?_cons_succ, List.getElem?_cons_zero, Option.getD_some, List.length_append, List.length_cons, List.length_nil, Nat.reduceEqDiff, Nat.reduceLT, Nat.zero_ne_one, Nat.one_ne_zero, Int.reduceToNat, gt_iff_lt, reduceCtorEq, if_true, if_false] at hn
  obtain ⟨h00, h01, h02, h03, h04, h05, h06, h07, h08, h09, h10, h11, h12, h13, h14, h15⟩ := hn
  skip
  have hA : act (poolSys W Q b jobs) st k ⟨2, 2, [x0, x1, x2, x3, x4, x5, x6, x7], false⟩ (insOf (poolSys W Q b jobs) ⟨2, 2, [x0, x1, x2, x3, x4, x5, x6, x7], false⟩) = ({ rs := st.rs.set k ⟨2, 2, [x0, x1, 1, x3, x4, x5, x6, x7], false⟩, held := st.held, shut := st.shut, groups := st.groups, cells := st.cells, ev := st.ev }, 0) := by
    simp [-List.getD_eq_getElem?_getD, act, insOf, poolSys, feedP, I, reg, setReg, heldAt, shutAt, set_self _ _ _ _ hk hr]
  rw [step_put _ _ _ _ ⟨2, 2, [x0, x1, 1, x3, x4, x5, x6, x7], false⟩ { rs := st.rs.set k ⟨2, 2, [x0, x1, 1, x3, x4, x5, x6, x7], false⟩, held := st.held, shut := st.shut, groups := st.groups, cells := st.cells, ev := st.ev } hk hr hA]
  have hadv : adv (poolSys W Q b jobs) ⟨2, 2, [x0, x1, 1, x3, x4, x5, x6, x7], false⟩ = ⟨2, 3, [x0, x1, 1, x3, x4, x5, x6, x7], false⟩ := by simp [-List.getD_eq_getElem?_getD, adv, len, poolSys, feedP]
  rw [hadv]
  refine ⟨rfl, inv_next hI hk ⟨2, 3, [x0, x1, 1, x3, x4, x5, x6, x7], false⟩ ?_ _ _ _ _ ?_ ?_ ?_ ?_ ?_⟩
  case refine_1 =>
    refine ⟨rfl, by simp, by simp, by simp [-List.getD_eq_getElem?_getD, plen], by simp [-List.getD_eq_getElem?_getD, plen], ?_, ?_⟩
    · simp [-List.getD_eq_getElem?_getD, condC, reg] <;> omega
    · simp [-List.getD_eq_getElem?_getD, condF, reg] <;> omega
  case refine_6 =>
    constructor <;> (try simp only [c0, c1, c2, c3, ws, fs, ls, tok, sent, grp, pot, potC, potW, potF, fpast, lw, lpast, wpast, cpast, reg, F0, shutAt, heldAt, getD_set' _ _ _ _ _ hl0, getD_set' _ _ _ _ _ hl1, getD_set' _ _ _ _ _ hl2, getD_set' _ _ _ _ _ sl0, getD_set' _ _ _ _ _ sl1, getD_set' _ _ _ _ _ gl0, ge_iff_le, Int.le_refl, ↓reduceIte, and_true, true_and, and_false, false_and, List.getElem?_cons_succ, List.getElem?_cons_zero, Option.getD_some, List.length_append, List.length_cons, List.length_nil, Nat.reduceEqDiff, Nat.reduceLT, Nat.zero_ne_one, Nat.one_ne_zero, Int.reduceToNat, gt_iff_lt, reduceCtorEq, if_true, if_false]) <;> first | omega | assumption | exact ⟨fun h => by have := h08.1 h; omega, fun h => h08.2 (by omega)⟩ | exact ⟨fun h => by have := h09.1 h; omega, fun h => h09.2 (by omega)⟩ | (simp only [Int.le_refl, if_true]; omega) | (simp; omega)
  all_goals first | exact hI.hl | exact hI.shl | exact hI.gl | exact hI.cl | (simp [-List.getD_eq_getElem?_getD, hI.hl, hI.shl, hI.gl]; done) | (simpa using hI.cl)

theorem st_2_3y {W Q b jobs : Int} {st : St} (hI : Inv W Q b jobs st) (hW : 1 ≤ W) (hW2 : W ≤ 256) (hQ : 1 ≤ Q) (hb : 1 ≤ b) (hb2 : b ≤ 64) (hj : 0 ≤ jobs) (hj2 : jobs ≤ 1024) {k : Nat} (hk : k < st.rs.length) (x0 x1 x2 x3 x4 x5 x6 x7 : Int)
    (hr : st.rs.getD k default = ⟨2, 3, [x0, x1, x2, x3, x4, x5, x6, x7], false⟩) (hL : LI W b jobs ⟨2, 3, [x0, x1, x2, x3, x4, x5, x6, x7], false⟩) (hx : x0 < b) :
    (step (poolSys W Q b jobs) st k).2 = 0 ∧ Inv W Q b jobs (step (poolSys W Q b jobs) st k).1 := by
  obtain ⟨l8, -, -, -, -, hC, hF⟩ := hL
  simp [-List.getD_eq_getElem?_getD, condC, condF, reg] at hC hF
  have hn := hI.n
  have hl := hI.hl
  have shl := hI.shl
  have gl := hI.gl
  have hl0 : 0 < st.held.length := by omega
  have hl1 : 1 < st.held.length := by omega
  have hl2 : 2 < st.held.length := by omega
  have sl0 : 0 < st.shut.length := by omega
  have sl1 : 1 < st.shut.length := by omega
  have gl0 : 0 < st.groups.length := by omega
  simp only [S_split _ st.rs k hk, hr] at hn
  have hR := ri_of W b jobs hW hW2 hb hb2 (st.rs.eraseIdx k) (fun x hx => hI.li x (List.mem_of_mem_eraseIdx hx))
  obtain ⟨r0, r1, r2, r3, r4, r5, r6, r7, r8, r9, r10, r11, r12, r13, r14, r15, r16, r17, r18, r19, r20, r21, r22, r23, r24⟩ := hR
  rw [S_mul] at r5 r12
  rw [S_add] at r24
  simp only [c0, c1, c2, c3, ws, fs, ls, tok, sent, grp, pot, potC, potW, potF, fpast, lw, lpast, wpast, cpast, reg, F0, shutAt, heldAt, Int.reduceLE, Int.reduceLT, Int.reduceEq, ge_iff_le, Int.le_refl, ↓reduceIte, and_true, true_and, and_false, false_and, List.getElem?_cons_succ, List.getElem?_cons_zero, Option.getD_some, List.length_append, List.length_cons, List.length_nil, Nat.reduceEqDiff, Nat.reduceLT, Nat.zero_ne_one, Nat.one_ne_zero, Int.reduceToNat, gt_iff_lt, reduceCtorEq, if_true, if_false] at hn
  obtain ⟨h00, h01, h02, h03, h04, h05, h06, h07, h08, h09, h10, h11, h12, h13, h14, h15⟩ := hn
  have hlt : x0 < x1 := by omega
  have hA : act (poolSys W Q b jobs) st k ⟨2, 3, [x0, x1, x2, x3, x4, x5, x6, x7], false⟩ (insOf (poolSys W Q b jobs) ⟨2, 3, [x0, x1, x2, x3, x4, x5, x6, x7], false⟩) = ({ rs := st.rs.set k ⟨2, 4, [x0, x1, x2, x3, x4, x5, x6, x7], false⟩, held := st.held, shut := st.shut, groups := st.groups, cells := st.cells, ev := st.ev }, 0) := by
    simp [-List.getD_eq_getElem?_getD, act, insOf, poolSys, feedP, I, reg, setReg, heldAt, shutAt, set_self _ _ _ _ hk hr, hlt, hx]
  rw [step_put _ _ _ _ ⟨2, 4, [x0, x1, x2, x3, x4, x5, x6, x7], false⟩ { rs := st.rs.set k ⟨2, 4, [x0, x1, x2, x3, x4, x5, x6, x7], false⟩, held := st.held, shut := st.shut, groups := st.groups, cells := st.cells, ev := st.ev } hk hr hA]
  have hadv : adv (poolSys W Q b jobs) ⟨2, 4, [x0, x1, x2, x3, x4, x5, x6, x7], false⟩ = ⟨2, 5, [x0, x1, x2, x3, x4, x5, x6, x7], false⟩ := by simp [-List.getD_eq_getElem?_getD, adv, len, poolSys, feedP]
  rw [hadv]
  refine ⟨rfl, inv_next hI hk ⟨2, 5, [x0, x1, x2, x3, x4, x5, x6, x7], false⟩ ?_ _ _ _ _ ?_ ?_ ?_ ?_ ?_⟩
  case refine_1 =>
    refine ⟨rfl, by simp, by simp, by simp [-List.getD_eq_getElem?_getD, plen], by simp [-List.getD_eq_getElem?_getD, plen], ?_, ?_⟩
    · simp [-List.getD_eq_getElem?_getD, condC, reg] <;> omega
    · simp [-List.getD_eq_getElem?_getD, condF, reg] <;> omega
  case refine_6 =>
    constructor <;> (try simp only [c0, c1, c2, c3, ws, fs, ls, tok, sent, grp, pot, potC, potW, potF, fpast, lw, lpast, wpast, cpast, reg, F0, shutAt, heldAt, getD_set' _ _ _ _ _ hl0, getD_set' _ _ _ _ _ hl1, getD_set' _ _ _ _ _ hl2, getD_set' _ _ _ _ _ sl0, getD_set' _ _ _ _ _ sl1, getD_set' _ _ _ _ _ gl0, ge_iff_le, Int.le_refl, ↓reduceIte, and_true, true_and, and_false, false_and, List.getElem?_cons_succ, List.getElem?_cons_zero, Option.getD_some, List.length_append, List.length_cons, List.length_nil, Nat.reduceEqDiff, Nat.reduceLT, Nat.zero_ne_one, Nat.one_ne_zero, Int.reduceToNat, gt_iff_lt, reduceCtorEq, if_true, if_false]) <;> first | omega | assumption | exact ⟨fun h => by have := h08.1 h; omega, fun h => h08.2 (by omega)⟩ | exact ⟨fun h => by have := h09.1 h; omega, fun h => h09.2 (by omega)⟩ | (simp only [Int.le_refl, if_true]; omega) | (simp; omega)
  all_goals first | exact hI.hl | exact hI.shl | exact hI.gl | exact hI.cl | (simp [-List.getD_eq_getElem?_getD, hI.hl, hI.shl, hI.gl]; done) | (simpa using hI.cl)

theorem st_2_3n {W Q b jobs : Int} {st : St} (hI : Inv W Q b jobs st) (hW : 1 ≤ W) (hW2 : W ≤ 256) (hQ : 1 ≤ Q) (hb : 1 ≤ b) (hb2 : b ≤ 64) (hj : 0 ≤ jobs) (hj2 : jobs ≤ 1024) {k : Nat} (hk : k < st.rs.length) (x0 x1 x2 x3 x4 x5 x6 x7 : Int)
    (hr : st.rs.getD k default = ⟨2, 3, [x0, x1, x2, x3, x4, x5, x6, x7], false⟩) (hL : LI W b jobs ⟨2, 3, [x0, x1, x2, x3, x4, x5, x6, x7], false⟩) (hx : ¬ x0 < b) :
    (step (poolSys W Q b jobs) st k).2 = 0 ∧ Inv W Q b jobs (step (poolSys W Q b jobs) st k).1 := by
  obtain ⟨l8, -, -, -, -, hC, hF⟩ := hL
  simp [-List.getD_eq_getElem?_getD, condC, condF, reg] at hC hF
  have hn := hI.n
  have hl := hI.hl
  have shl := hI.shl
  have gl := hI.gl
  have hl0 : 0 < st.held.length := by omega
  have hl1 : 1 < st.held.length := by omega
  have hl2 : 2 < st.held.length := by omega
  have sl0 : 0 < st.shut.length := by omega
  have sl1 : 1 < st.shut.length := by omega
  have gl0 : 0 < st.groups.length := by omega
  simp only [S_split _ st.rs k hk, hr] at hn
  have hR := ri_of W b jobs hW hW2 hb hb2 (st.rs.eraseIdx k) (fun x hx => hI.li x (List.mem_of_mem_eraseIdx hx))
  obtain ⟨r0, r1, r2, r3, r4, r5, r6, r7, r8, r9, r10, r11, r12, r13, r14, r15, r16, r17, r18, r19, r20, r21, r22, r23, r24⟩ := hR
  rw [S_mul] at r5 r12
  rw [S_add] at r24
  simp only [c0, c1, c2, c3, ws, fs, ls, tok, sent, grp, pot, potC, potW, potF, fpast, lw, lpast, wpast, cpast, reg, F0, shutAt, heldAt, Int.reduceLE, Int.reduceLT, Int.reduceEq, ge_iff_le, Int.le_refl, ↓reduceIte, and_true, true_and, and_false, false_and, List.getElem?_cons_succ, List.getElem?_cons_zero, Option.getD_some, List.length_append, List.length_cons, List.length_nil, Nat.reduceEqDiff, Nat.reduceLT, Nat.zero_ne_one, Nat.one_ne_zero, Int.reduceToNat, gt_iff_lt, reduceCtorEq, if_true, if_false] at hn
  obtain ⟨h00, h01, h02, h03, h04, h05, h06, h07, h08, h09, h10, h11, h12, h13, h14, h15⟩ := hn
  have hlt : ¬ x0 < x1 := by omega
  have hA : act (poolSys W Q b jobs) st k ⟨2, 3, [x0, x1, x2, x3, x4, x5, x6, x7], false⟩ (insOf (poolSys W Q b jobs) ⟨2, 3, [x0, x1, x2, x3, x4, x5, x6, x7], false⟩) = ({ rs := st.rs.set k ⟨2, 3, [x0, x1, x2, x3, x4, x5, x6, x7], false⟩, held := st.held, shut := st.shut, groups := st.groups, cells := st.cells, ev := st.ev }, 0) := by
    simp [-List.getD_eq_getElem?_getD, act, insOf, poolSys, feedP, I, reg, setReg, heldAt, shutAt, set_self _ _ _ _ hk hr, hlt, hx]
  rw [step_put _ _ _ _ ⟨2, 3, [x0, x1, x2, x3, x4, x5, x6, x7], false⟩ { rs := st.rs.set k ⟨2, 3, [x0, x1, x2, x3, x4, x5, x6, x7], false⟩, held := st.held, shut := st.shut, groups := st.groups, cells := st.cells, ev := st.ev } hk hr hA]
  have hadv : adv (poolSys W Q b jobs) ⟨2, 3, [x0, x1, x2, x3, x4, x5, x6, x7], false⟩ = ⟨2, 4, [x0, x1, x2, x3, x4, x5, x6, x7], false⟩ := by simp [-List.getD_eq_getElem?_getD, adv, len, poolSys, feedP]
  rw [hadv]
  refine ⟨rfl, inv_next hI hk ⟨2, 4, [x0, x1, x2, x3, x4, x5, x6, x7], false⟩ ?_ _ _ _ _ ?_ ?_ ?_ ?_ ?_⟩
  case refine_1 =>
    refine ⟨rfl, by simp, by simp, by simp [-List.getD_eq_getElem?_getD, plen], by simp [-List.getD_eq_getElem?_getD, plen], ?_, ?_⟩
    · simp [-List.getD_eq_getElem?_getD, condC, reg] <;> omega
    · simp [-List.getD_eq_getElem?_getD, condF, reg] <;> omega
  case refine_6 =>
    constructor <;> (try simp only [c0, c1, c2, c3, ws, fs, ls, tok, sent, grp, pot, potC, potW, potF, fpast, lw, lpast, wpast, cpast, reg, F0, shutAt, heldAt, getD_set' _ _ _ _ _ hl0, getD_set' _ _ _ _ _ hl1, getD_set' _ _ _ _ _ hl2, getD_set' _ _ _ _ _ sl0, getD_set' _ _ _ _ _ sl1, getD_set' _ _ _ _ _ gl0, ge_iff_le, Int.le_refl, ↓reduceIte, and_true, true_and, and_false, false_and, List.getElem?_cons_succ, List.getElem?_cons_zero, Option.getD_some, List.length_append, List.length_cons, List.length_nil, Nat.reduceEqDiff, Nat.reduceLT, Nat.zero_ne_one, Nat.one_ne_zero, Int.reduceToNat, gt_iff_lt, reduceCtorEq, if_true, if_false]) <;> first | omega | assumption | exact ⟨fun h => by have := h08.1 h; omega, fun h => h08.2 (by omega)⟩ | exact ⟨fun h => by have := h09.1 h; omega, fun h => h09.2 (by omega)⟩ | (simp only [Int.le_refl, if_true]; omega) | (simp; omega)
  all_goals first | exact hI.hl | exact hI.shl | exact hI.gl | exact hI.cl | (simp [-List.getD_eq_getElem?_getD, hI.hl, hI.shl, hI.gl]; done) | (simpa using hI.cl)

theorem st_2_4 {W Q b jobs : Int} {st : St} (hI : Inv W Q b jobs st) (hW : 1 ≤ W) (hW2 : W ≤ 256) (hQ : 1 ≤ Q) (hb : 1 ≤ b) (hb2 : b ≤ 64) (hj : 0 ≤ jobs) (hj2 : jobs ≤ 1024) {k : Nat} (hk : k < st.rs.length) (x0 x1 x2 x3 x4 x5 x6 x7 : Int)
    (hr : st.rs.getD k default = ⟨2, 4, [x0, x1, x2, x3, x4, x5, x6, x7], false⟩) (hL : LI W b jobs ⟨2, 4, [x0, x1, x2, x3, x4, x5, x6, x7], false⟩)  :
    (step (poolSys W Q b jobs) st k).2 = 0 ∧ Inv W Q b jobs (step (poolSys W Q b jobs) st k).1 := by
  obtain ⟨l8, -, -, -, -, hC, hF⟩ := hL
  simp [-List.getD_eq_getElem?_getD, condC, condF, reg] at hC hF
  have hn := hI.n
  have hl := hI.hl
  have shl := hI.shl
  have gl := hI.gl
  have hl0 : 0 < st.held.length := by omega
  have hl1 : 1 < st.held.length := by omega
  have hl2 : 2 < st.held.length := by omega
  have sl0 : 0 < st.shut.length := by omega
  have sl1 : 1 < st.shut.length := by omega
  have gl0 : 0 < st.groups.length := by omega
  simp only [S_split _ st.rs k hk, hr] at hn
  have hR := ri_of W b jobs hW hW2 hb hb2 (st.rs.eraseIdx k) (fun x hx => hI.li x (List.mem_of_mem_eraseIdx hx))
  obtain ⟨r0, r1, r2, r3, r4, r5, r6, r7, r8, r9, r10, r11, r12, r13, r14, r15, r16, r17, r18, r19, r20, r21, r22, r23, r24⟩ := hR
  rw [S_mul] at r5 r12
  rw [S_add] at r24
  simp only [c0, c1, c2, c3, ws, fs, ls, tok, sent, grp, pot, potC, potW, potF, fpast, lw, lpast, wpast, cpast, reg, F0, shutAt, heldAt, Int.reduceLE, Int.reduceLT, Int.reduceEq, ge_iff_le, Int.le_refl, ↓reduceIte, and_true, true_and, and_false, false_and, List.getElem?_cons_succ, List.getElem?_cons_zero, Option.getD_some, List.length_append, List.length_cons, List.length_nil, Nat.reduceEqDiff, Nat.reduceLT, Nat.zero_ne_one, Nat.one_ne_zero, Int.reduceToNat, gt_iff_lt, reduceCtorEq, if_true, if_false] at hn
  obtain ⟨h00, h01, h02, h03, h04, h05, h06, h07, h08, h09, h10, h11, h12, h13, h14, h15⟩ := hn
  skip
  have hA : act (poolSys W Q b jobs) st k ⟨2, 4, [x0, x1, x2, x3, x4, x5, x6, x7], false⟩ (insOf (poolSys W Q b jobs) ⟨2, 4, [x0, x1, x2, x3, x4, x5, x6, x7], false⟩) = ({ rs := st.rs.set k ⟨2, 7, [x0, x1, x2, x3, x4, x5, x6, x7], false⟩, held := st.held, shut := st.shut, groups := st.groups, cells := st.cells, ev := st.ev }, 0) := by
    simp [-List.getD_eq_getElem?_getD, act, insOf, poolSys, feedP, I, reg, setReg, heldAt, shutAt, set_self _ _ _ _ hk hr]
  rw [step_put _ _ _ _ ⟨2, 7, [x0, x1, x2, x3, x4, x5, x6, x7], false⟩ { rs := st.rs.set k ⟨2, 7, [x0, x1, x2, x3, x4, x5, x6, x7], false⟩, held := st.held, shut := st.shut, groups := st.groups, cells := st.cells, ev := st.ev } hk hr hA]
  have hadv : adv (poolSys W Q b jobs) ⟨2, 7, [x0, x1, x2, x3, x4, x5, x6, x7], false⟩ = ⟨2, 8, [x0, x1, x2, x3, x4, x5, x6, x7], false⟩ := by simp [-List.getD_eq_getElem?_getD, adv, len, poolSys, feedP]
  rw [hadv]
  refine ⟨rfl, inv_next hI hk ⟨2, 8, [x0, x1, x2, x3, x4, x5, x6, x7], false⟩ ?_ _ _ _ _ ?_ ?_ ?_ ?_ ?_⟩
  case refine_1 =>
    refine ⟨rfl, by simp, by simp, by simp [-List.getD_eq_getElem?_getD, plen], by simp [-List.getD_eq_getElem?_getD, plen], ?_, ?_⟩
    · simp [-List.getD_eq_getElem?_getD, condC, reg] <;> omega
    · simp [-List.getD_eq_getElem?_getD, condF, reg] <;> omega
  case refine_6 =>
    constructor <;> (try simp only [c0, c1, c2, c3, ws, fs, ls, tok, sent, grp, pot, potC, potW, potF, fpast, lw, lpast, wpast, cpast, reg, F0, shutAt, heldAt, getD_set' _ _ _ _ _ hl0, getD_set' _ _ _ _ _ hl1, getD_set' _ _ _ _ _ hl2, getD_set' _ _ _ _ _ sl0, getD_set' _ _ _ _ _ sl1, getD_set' _ _ _ _ _ gl0, ge_iff_le, Int.le_refl, ↓reduceIte, and_true, true_and, and_false, false_and, List.getElem?_cons_succ, List.getElem?_cons_zero, Option.getD_some, List.length_append, List.length_cons, List.length_nil, Nat.reduceEqDiff, Nat.reduceLT, Nat.zero_ne_one, Nat.one_ne_zero, Int.reduceToNat, gt_iff_lt, reduceCtorEq, if_true, if_false]) <;> first | omega | assumption | exact ⟨fun h => by have := h08.1 h; omega, fun h => h08.2 (by omega)⟩ | exact ⟨fun h => by have := h09.1 h; omega, fun h => h09.2 (by omega)⟩ | (simp only [Int.le_refl, if_true]; omega) | (simp; omega)
  all_goals first | exact hI.hl | exact hI.shl | exact hI.gl | exact hI.cl | (simp [-List.getD_eq_getElem?_getD, hI.hl, hI.shl, hI.gl]; done) | (simpa using hI.cl)

theorem st_2_5 {W Q b jobs : Int} {st : St} (hI : Inv W Q b jobs st) (hW : 1 ≤ W) (hW2 : W ≤ 256) (hQ : 1 ≤ Q) (hb : 1 ≤ b) (hb2 : b ≤ 64) (hj : 0 ≤ jobs) (hj2 : jobs ≤ 1024) {k : Nat} (hk : k < st.rs.length) (x0 x1 x2 x3 x4 x5 x6 x7 : Int)
    (hr : st.rs.getD k default = ⟨2, 5, [x0, x1, x2, x3, x4, x5, x6, x7], false⟩) (hL : LI W b jobs ⟨2, 5, [x0, x1, x2, x3, x4, x5, x6, x7], false⟩)  :
    (step (poolSys W Q b jobs) st k).2 = 0 ∧ Inv W Q b jobs (step (poolSys W Q b jobs) st k).1 := by
  obtain ⟨l8, -, -, -, -, hC, hF⟩ := hL
  simp [-List.getD_eq_getElem?_getD, condC, condF, reg] at hC hF
  have hn := hI.n
  have hl := hI.hl
  have shl := hI.shl
  have gl := hI.gl
  have hl0 : 0 < st.held.length := by omega
  have hl1 : 1 < st.held.length := by omega
  have hl2 : 2 < st.held.length := by omega
  have sl0 : 0 < st.shut.length := by omega
  have sl1 : 1 < st.shut.length := by omega
  have gl0 : 0 < st.groups.length := by omega
  simp only [S_split _ st.rs k hk, hr] at hn
  have hR := ri_of W b jobs hW hW2 hb hb2 (st.rs.eraseIdx k) (fun x hx => hI.li x (List.mem_of_mem_eraseIdx hx))
  obtain ⟨r0, r1, r2, r3, r4, r5, r6, r7, r8, r9, r10, r11, r12, r13, r14, r15, r16, r17, r18, r19, r20, r21, r22, r23, r24⟩ := hR
  rw [S_mul] at r5 r12
  rw [S_add] at r24
  simp only [c0, c1, c2, c3, ws, fs, ls, tok, sent, grp, pot, potC, potW, potF, fpast, lw, lpast, wpast, cpast, reg, F0, shutAt, heldAt, Int.reduceLE, Int.reduceLT, Int.reduceEq, ge_iff_le, Int.le_refl, ↓reduceIte, and_true, true_and, and_false, false_and, List.getElem?_cons_succ, List.getElem?_cons_zero, Option.getD_some, List.length_append, List.length_cons, List.length_nil, Nat.reduceEqDiff, Nat.reduceLT, Nat.zero_ne_one, Nat.one_ne_zero, Int.reduceToNat, gt_iff_lt, reduceCtorEq, if_true, if_false] at hn
  obtain ⟨h00, h01, h02, h03, h04, h05, h06, h07, h08, h09, h10, h11, h12, h13, h14, h15⟩ := hn
  have hsf : st.shut.getD 2 false = false := h10
  have hA : act (poolSys W Q b jobs) st k ⟨2, 5, [x0, x1, x2, x3, x4, x5, x6, x7], false⟩ (insOf (poolSys W Q b jobs) ⟨2, 5, [x0, x1, x2, x3, x4, x5, x6, x7], false⟩) = ({ rs := st.rs.set k ⟨2, 5, [x0, x1, x2, x3, x4, x5, x6, x7], false⟩, held := (st.held.set 2 (st.held.getD 2 [] ++ [x0])), shut := st.shut, groups := st.groups, cells := st.cells, ev := st.ev }, 0) := by
    simp [-List.getD_eq_getElem?_getD, act, insOf, poolSys, feedP, I, reg, setReg, heldAt, shutAt, set_self _ _ _ _ hk hr, hsf]
  rw [step_put _ _ _ _ ⟨2, 5, [x0, x1, x2, x3, x4, x5, x6, x7], false⟩ { rs := st.rs.set k ⟨2, 5, [x0, x1, x2, x3, x4, x5, x6, x7], false⟩, held := (st.held.set 2 (st.held.getD 2 [] ++ [x0])), shut := st.shut, groups := st.groups, cells := st.cells, ev := st.ev } hk hr hA]
  have hadv : adv (poolSys W Q b jobs) ⟨2, 5, [x0, x1, x2, x3, x4, x5, x6, x7], false⟩ = ⟨2, 6, [x0, x1, x2, x3, x4, x5, x6, x7], false⟩ := by simp [-List.getD_eq_getElem?_getD, adv, len, poolSys, feedP]
  rw [hadv]
  refine ⟨rfl, inv_next hI hk ⟨2, 6, [x0, x1, x2, x3, x4, x5, x6, x7], false⟩ ?_ _ _ _ _ ?_ ?_ ?_ ?_ ?_⟩
  case refine_1 =>
    refine ⟨rfl, by simp, by simp, by simp [-List.getD_eq_getElem?_getD, plen], by simp [-List.getD_eq_getElem?_getD, plen], ?_, ?_⟩
    · simp [-List.getD_eq_getElem?_getD, condC, reg] <;> omega
    · simp [-List.getD_eq_getElem?_getD, condF, reg] <;> omega
  case refine_6 =>
    constructor <;> (try simp only [c0, c1, c2, c3, ws, fs, ls, tok, sent, grp, pot, potC, potW, potF, fpast, lw, lpast, wpast, cpast, reg, F0, shutAt, heldAt, getD_set' _ _ _ _ _ hl0, getD_set' _ _ _ _ _ hl1, getD_set' _ _ _ _ _ hl2, getD_set' _ _ _ _ _ sl0, getD_set' _ _ _ _ _ sl1, getD_set' _ _ _ _ _ gl0, ge_iff_le, Int.le_refl, ↓reduceIte, and_true, true_and, and_false, false_and, List.getElem?_cons_succ, List.getElem?_cons_zero, Option.getD_some, List.length_append, List.length_cons, List.length_nil, Nat.reduceEqDiff, Nat.reduceLT, Nat.zero_ne_one, Nat.one_ne_zero, Int.reduceToNat, gt_iff_lt, reduceCtorEq, if_true, if_false]) <;> first | omega | assumption | exact ⟨fun h => by have := h08.1 h; omega, fun h => h08.2 (by omega)⟩ | exact ⟨fun h => by have := h09.1 h; omega, fun h => h09.2 (by omega)⟩ | (simp only [Int.le_refl, if_true]; omega) | (simp; omega)
  all_goals first | exact hI.hl | exact hI.shl | exact hI.gl | exact hI.cl | (simp [-List.getD_eq_getElem?_getD, hI.hl, hI.shl, hI.gl]; done) | (simpa using hI.cl)

theorem st_2_6 {W Q b jobs : Int} {st : St} (hI : Inv W Q b jobs st) (hW : 1 ≤ W) (hW2 : W ≤ 256) (hQ : 1 ≤ Q) (hb : 1 ≤ b) (hb2 : b ≤ 64) (hj : 0 ≤ jobs) (hj2 : jobs ≤ 1024) {k : Nat} (hk : k < st.rs.length) (x0 x1 x2 x3 x4 x5 x6 x7 : Int)
    (hr : st.rs.getD k default = ⟨2, 6, [x0, x1, x2, x3, x4, x5, x6, x7], false⟩) (hL : LI W b jobs ⟨2, 6, [x0, x1, x2, x3, x4, x5, x6, x7], false⟩)  :
    (step (poolSys W Q b jobs) st k).2 = 0 ∧ Inv W Q b jobs (step (poolSys W Q b jobs) st k).1 := by
  obtain ⟨l8, -, -, -, -, hC, hF⟩ := hL
  simp [-List.getD_eq_getElem?_getD, condC, condF, reg] at hC hF
  have hn := hI.n
  have hl := hI.hl
  have shl := hI.shl
  have gl := hI.gl
  have hl0 : 0 < st.held.length := by omega
  have hl1 : 1 < st.held.length := by omega
  have hl2 : 2 < st.held.length := by omega
  have sl0 : 0 < st.shut.length := by omega
  have sl1 : 1 < st.shut.length := by omega
  have gl0 : 0 < st.groups.length := by omega
  simp only [S_split _ st.rs k hk, hr] at hn
  have hR := ri_of W b jobs hW hW2 hb hb2 (st.rs.eraseIdx k) (fun x hx => hI.li x (List.mem_of_mem_eraseIdx hx))
  obtain ⟨r0, r1, r2, r3, r4, r5, r6, r7, r8, r9, r10, r11, r12, r13, r14, r15, r16, r17, r18, r19, r20, r21, r22, r23, r24⟩ := hR
  rw [S_mul] at r5 r12
  rw [S_add] at r24
  simp only [c0, c1, c2, c3, ws, fs, ls, tok, sent, grp, pot, potC, potW, potF, fpast, lw, lpast, wpast, cpast, reg, F0, shutAt, heldAt, Int.reduceLE, Int.reduceLT, Int.reduceEq, ge_iff_le, Int.le_refl, ↓reduceIte, and_true, true_and, and_false, false_and, List.getElem?_cons_succ, List.getElem?_cons_zero, Option.getD_some, List.length_append, List.length_cons, List.length_nil, Nat.reduceEqDiff, Nat.reduceLT, Nat.zero_ne_one, Nat.one_ne_zero, Int.reduceToNat, gt_iff_lt, reduceCtorEq, if_true, if_false] at hn
  obtain ⟨h00, h01, h02, h03, h04, h05, h06, h07, h08, h09, h10, h11, h12, h13, h14, h15⟩ := hn
  have hw : wrap (x0 + x2) = x0 + 1 := by rw [wrap_in _ (by omega)]; omega
  have hA : act (poolSys W Q b jobs) st k ⟨2, 6, [x0, x1, x2, x3, x4, x5, x6, x7], false⟩ (insOf (poolSys W Q b jobs) ⟨2, 6, [x0, x1, x2, x3, x4, x5, x6, x7], false⟩) = ({ rs := st.rs.set k ⟨2, 6, [(x0 + 1), x1, x2, x3, x4, x5, x6, x7], false⟩, held := st.held, shut := st.shut, groups := st.groups, cells := st.cells, ev := st.ev }, 0) := by
    simp [-List.getD_eq_getElem?_getD, act, insOf, poolSys, feedP, I, reg, setReg, heldAt, shutAt, set_self _ _ _ _ hk hr, hw]
  rw [step_put _ _ _ _ ⟨2, 6, [(x0 + 1), x1, x2, x3, x4, x5, x6, x7], false⟩ { rs := st.rs.set k ⟨2, 6, [(x0 + 1), x1, x2, x3, x4, x5, x6, x7], false⟩, held := st.held, shut := st.shut, groups := st.groups, cells := st.cells, ev := st.ev } hk hr hA]
  have hadv : adv (poolSys W Q b jobs) ⟨2, 6, [(x0 + 1), x1, x2, x3, x4, x5, x6, x7], false⟩ = ⟨2, 7, [(x0 + 1), x1, x2, x3, x4, x5, x6, x7], false⟩ := by simp [-List.getD_eq_getElem?_getD, adv, len, poolSys, feedP]
  rw [hadv]
  refine ⟨rfl, inv_next hI hk ⟨2, 7, [(x0 + 1), x1, x2, x3, x4, x5, x6, x7], false⟩ ?_ _ _ _ _ ?_ ?_ ?_ ?_ ?_⟩
  case refine_1 =>
    refine ⟨rfl, by simp, by simp, by simp [-List.getD_eq_getElem?_getD, plen], by simp [-List.getD_eq_getElem?_getD, plen], ?_, ?_⟩
    · simp [-List.getD_eq_getElem?_getD, condC, reg] <;> omega
    · simp [-List.getD_eq_getElem?_getD, condF, reg] <;> omega
  case refine_6 =>
    constructor <;> (try simp only [c0, c1, c2, c3, ws, fs, ls, tok, sent, grp, pot, potC, potW, potF, fpast, lw, lpast, wpast, cpast, reg, F0, shutAt, heldAt, getD_set' _ _ _ _ _ hl0, getD_set' _ _ _ _ _ hl1, getD_set' _ _ _ _ _ hl2, getD_set' _ _ _ _ _ sl0, getD_set' _ _ _ _ _ sl1, getD_set' _ _ _ _ _ gl0, ge_iff_le, Int.le_refl, ↓reduceIte, and_true, true_and, and_false, false_and, List.getElem?_cons_succ, List.getElem?_cons_zero, Option.getD_some, List.length_append, List.length_cons, List.length_nil, Nat.reduceEqDiff, Nat.reduceLT, Nat.zero_ne_one, Nat.one_ne_zero, Int.reduceToNat, gt_iff_lt, reduceCtorEq, if_true, if_false]) <;> first | omega | assumption | exact ⟨fun h => by have := h08.1 h; omega, fun h => h08.2 (by omega)⟩ | exact ⟨fun h => by have := h09.1 h; omega, fun h => h09.2 (by omega)⟩ | (simp only [Int.le_refl, if_true]; omega) | (simp; omega)
  all_goals first | exact hI.hl | exact hI.shl | exact hI.gl | exact hI.cl | (simp [-List.getD_eq_getElem?_getD, hI.hl, hI.shl, hI.gl]; done) | (simpa using hI.cl)

theorem st_2_7 {W Q b jobs : Int} {st : St} (hI : Inv W Q b jobs st) (hW : 1 ≤ W) (hW2 : W ≤ 256) (hQ : 1 ≤ Q) (hb : 1 ≤ b) (hb2 : b ≤ 64) (hj : 0 ≤ jobs) (hj2 : jobs ≤ 1024) {k : Nat} (hk : k < st.rs.length) (x0 x1 x2 x3 x4 x5 x6 x7 : Int)
    (hr : st.rs.getD k default = ⟨2, 7, [x0, x1, x2, x3, x4, x5, x6, x7], false⟩) (hL : LI W b jobs ⟨2, 7, [x0, x1, x2, x3, x4, x5, x6, x7], false⟩)  :
    (step (poolSys W Q b jobs) st k).2 = 0 ∧ Inv W Q b jobs (step (poolSys W Q b jobs) st k).1 := by
  obtain ⟨l8, -, -, -, -, hC, hF⟩ := hL
  simp [-List.getD_eq_getElem?_getD, condC, condF, reg] at hC hF
  have hn := hI.n
  have hl := hI.hl
  have shl := hI.shl
  have gl := hI.gl
  have hl0 : 0 < st.held.length := by omega
  have hl1 : 1 < st.held.length := by omega
  have hl2 : 2 < st.held.length := by omega
  have sl0 : 0 < st.shut.length := by omega
  have sl1 : 1 < st.shut.length := by omega
  have gl0 : 0 < st.groups.length := by omega
  simp only [S_split _ st.rs k hk, hr] at hn
  have hR := ri_of W b jobs hW hW2 hb hb2 (st.rs.eraseIdx k) (fun x hx => hI.li x (List.mem_of_mem_eraseIdx hx))
  obtain ⟨r0, r1, r2, r3, r4, r5, r6, r7, r8, r9, r10, r11, r12, r13, r14, r15, r16, r17, r18, r19, r20, r21, r22, r23, r24⟩ := hR
  rw [S_mul] at r5 r12
  rw [S_add] at r24
  simp only [c0, c1, c2, c3, ws, fs, ls, tok, sent, grp, pot, potC, potW, potF, fpast, lw, lpast, wpast, cpast, reg, F0, shutAt, heldAt, Int.reduceLE, Int.reduceLT, Int.reduceEq, ge_iff_le, Int.le_refl, ↓reduceIte, and_true, true_and, and_false, false_and, List.getElem?_cons_succ, List.getElem?_cons_zero, Option.getD_some, List.length_append, List.length_cons, List.length_nil, Nat.reduceEqDiff, Nat.reduceLT, Nat.zero_ne_one, Nat.one_ne_zero, Int.reduceToNat, gt_iff_lt, reduceCtorEq, if_true, if_false] at hn
  obtain ⟨h00, h01, h02, h03, h04, h05, h06, h07, h08, h09, h10, h11, h12, h13, h14, h15⟩ := hn
  skip
  have hA : act (poolSys W Q b jobs) st k ⟨2, 7, [x0, x1, x2, x3, x4, x5, x6, x7], false⟩ (insOf (poolSys W Q b jobs) ⟨2, 7, [x0, x1, x2, x3, x4, x5, x6, x7], false⟩) = ({ rs := st.rs.set k ⟨2, 2, [x0, x1, x2, x3, x4, x5, x6, x7], false⟩, held := st.held, shut := st.shut, groups := st.groups, cells := st.cells, ev := st.ev }, 0) := by
    simp [-List.getD_eq_getElem?_getD, act, insOf, poolSys, feedP, I, reg, setReg, heldAt, shutAt, set_self _ _ _ _ hk hr]
  rw [step_put _ _ _ _ ⟨2, 2, [x0, x1, x2, x3, x4, x5, x6, x7], false⟩ { rs := st.rs.set k ⟨2, 2, [x0, x1, x2, x3, x4, x5, x6, x7], false⟩, held := st.held, shut := st.shut, groups := st.groups, cells := st.cells, ev := st.ev } hk hr hA]
  have hadv : adv (poolSys W Q b jobs) ⟨2, 2, [x0, x1, x2, x3, x4, x5, x6, x7], false⟩ = ⟨2, 3, [x0, x1, x2, x3, x4, x5, x6, x7], false⟩ := by simp [-List.getD_eq_getElem?_getD, adv, len, poolSys, feedP]
  rw [hadv]
  refine ⟨rfl, inv_next hI hk ⟨2, 3, [x0, x1, x2, x3, x4, x5, x6, x7], false⟩ ?_ _ _ _ _ ?_ ?_ ?_ ?_ ?_⟩
  case refine_1 =>
    refine ⟨rfl, by simp, by simp, by simp [-List.getD_eq_getElem?_getD, plen], by simp [-List.getD_eq_getElem?_getD, plen], ?_, ?_⟩
    · simp [-List.getD_eq_getElem?_getD, condC, reg] <;> omega
    · simp [-List.getD_eq_getElem?_getD, condF, reg] <;> omega
  case refine_6 =>
    constructor <;> (try simp only [c0, c1, c2, c3, ws, fs, ls, tok, sent, grp, pot, potC, potW, potF, fpast, lw, lpast, wpast, cpast, reg, F0, shutAt, heldAt, getD_set' _ _ _ _ _ hl0, getD_set' _ _ _ _ _ hl1, getD_set' _ _ _ _ _ hl2, getD_set' _ _ _ _ _ sl0, getD_set' _ _ _ _ _ sl1, getD_set' _ _ _ _ _ gl0, ge_iff_le, Int.le_refl, ↓reduceIte, and_true, true_and, and_false, false_and, List.getElem?_cons_succ, List.getElem?_cons_zero, Option.getD_some, List.length_append, List.length_cons, List.length_nil, Nat.reduceEqDiff, Nat.reduceLT, Nat.zero_ne_one, Nat.one_ne_zero, Int.reduceToNat, gt_iff_lt, reduceCtorEq, if_true, if_false]) <;> first | omega | assumption | exact ⟨fun h => by have := h08.1 h; omega, fun h => h08.2 (by omega)⟩ | exact ⟨fun h => by have := h09.1 h; omega, fun h => h09.2 (by omega)⟩ | (simp only [Int.le_refl, if_true]; omega) | (simp; omega)
  all_goals first | exact hI.hl | exact hI.shl | exact hI.gl | exact hI.cl | (simp [-List.getD_eq_getElem?_getD, hI.hl, hI.shl, hI.gl]; done) | (simpa using hI.cl)

theorem st_2_8 {W Q b jobs : Int} {st : St} (hI : Inv W Q b jobs st) (hW : 1 ≤ W) (hW2 : W ≤ 256) (hQ : 1 ≤ Q) (hb : 1 ≤ b) (hb2 : b ≤ 64) (hj : 0 ≤ jobs) (hj2 : jobs ≤ 1024) {k : Nat} (hk : k < st.rs.length) (x0 x1 x2 x3 x4 x5 x6 x7 : Int)
    (hr : st.rs.getD k default = ⟨2, 8, [x0, x1, x2, x3, x4, x5, x6, x7], false⟩) (hL : LI W b jobs ⟨2, 8, [x0, x1, x2, x3, x4, x5, x6, x7], false⟩)  :
    (step (poolSys W Q b jobs) st k).2 = 0 ∧ Inv W Q b jobs (step (poolSys W Q b jobs) st k).1 := by
  obtain ⟨l8, -, -, -, -, hC, hF⟩ := hL
  simp [-List.getD_eq_getElem?_getD, condC, condF, reg] at hC hF
  have hn := hI.n
  have hl := hI.hl
  have shl := hI.shl
  have gl := hI.gl
  have hl0 : 0 < st.held.length := by omega
  have hl1 : 1 < st.held.length := by omega
  have hl2 : 2 < st.held.length := by omega
  have sl0 : 0 < st.shut.length := by omega
  have sl1 : 1 < st.shut.length := by omega
  have gl0 : 0 < st.groups.length := by omega
  simp only [S_split _ st.rs k hk, hr] at hn
  have hR := ri_of W b jobs hW hW2 hb hb2 (st.rs.eraseIdx k) (fun x hx => hI.li x (List.mem_of_mem_eraseIdx hx))
  obtain ⟨r0, r1, r2, r3, r4, r5, r6, r7, r8, r9, r10, r11, r12, r13, r14, r15, r16, r17, r18, r19, r20, r21, r22, r23, r24⟩ := hR
  rw [S_mul] at r5 r12
  rw [S_add] at r24
  simp only [c0, c1, c2, c3, ws, fs, ls, tok, sent, grp, pot, potC, potW, potF, fpast, lw, lpast, wpast, cpast, reg, F0, shutAt, heldAt, Int.reduceLE, Int.reduceLT, Int.reduceEq, ge_iff_le, Int.le_refl, ↓reduceIte, and_true, true_and, and_false, false_and, List.getElem?_cons_succ, List.getElem?_cons_zero, Option.getD_some, List.length_append, List.length_cons, List.length_nil, Nat.reduceEqDiff, Nat.reduceLT, Nat.zero_ne_one, Nat.one_ne_zero, Int.reduceToNat, gt_iff_lt, reduceCtorEq, if_true, if_false] at hn
  obtain ⟨h00, h01, h02, h03, h04, h05, h06, h07, h08, h09, h10, h11, h12, h13, h14, h15⟩ := hn
  skip
  have hA : act (poolSys W Q b jobs) st k ⟨2, 8, [x0, x1, x2, x3, x4, x5, x6, x7], false⟩ (insOf (poolSys W Q b jobs) ⟨2, 8, [x0, x1, x2, x3, x4, x5, x6, x7], false⟩) = ({ rs := st.rs.set k ⟨2, 8, [0, x1, x2, x3, x4, x5, x6, x7], false⟩, held := st.held, shut := st.shut, groups := st.groups, cells := st.cells, ev := st.ev }, 0) := by
    simp [-List.getD_eq_getElem?_getD, act, insOf, poolSys, feedP, I, reg, setReg, heldAt, shutAt, set_self _ _ _ _ hk hr]
  rw [step_put _ _ _ _ ⟨2, 8, [0, x1, x2, x3, x4, x5, x6, x7], false⟩ { rs := st.rs.set k ⟨2, 8, [0, x1, x2, x3, x4, x5, x6, x7], false⟩, held := st.held, shut := st.shut, groups := st.groups, cells := st.cells, ev := st.ev } hk hr hA]
  have hadv : adv (poolSys W Q b jobs) ⟨2, 8, [0, x1, x2, x3, x4, x5, x6, x7], false⟩ = ⟨2, 9, [0, x1, x2, x3, x4, x5, x6, x7], false⟩ := by simp [-List.getD_eq_getElem?_getD, adv, len, poolSys, feedP]
  rw [hadv]
  refine ⟨rfl, inv_next hI hk ⟨2, 9, [0, x1, x2, x3, x4, x5, x6, x7], false⟩ ?_ _ _ _ _ ?_ ?_ ?_ ?_ ?_⟩
  case refine_1 =>
    refine ⟨rfl, by simp, by simp, by simp [-List.getD_eq_getElem?_getD, plen], by simp [-List.getD_eq_getElem?_getD, plen], ?_, ?_⟩
    · simp [-List.getD_eq_getElem?_getD, condC, reg] <;> omega
    · simp [-List.getD_eq_getElem?_getD, condF, reg] <;> omega
  case refine_6 =>
    constructor <;> (try simp only [c0, c1, c2, c3, ws, fs, ls, tok, sent, grp, pot, potC, potW, potF, fpast, lw, lpast, wpast, cpast, reg, F0, shutAt, heldAt, getD_set' _ _ _ _ _ hl0, getD_set' _ _ _ _ _ hl1, getD_set' _ _ _ _ _ hl2, getD_set' _ _ _ _ _ sl0, getD_set' _ _ _ _ _ sl1, getD_set' _ _ _ _ _ gl0, ge_iff_le, Int.le_refl, ↓reduceIte, and_true, true_and, and_false, false_and, List.getElem?_cons_succ, List.getElem?_cons_zero, Option.getD_some, List.length_append, List.length_cons, List.length_nil, Nat.reduceEqDiff, Nat.reduceLT, Nat.zero_ne_one, Nat.one_ne_zero, Int.reduceToNat, gt_iff_lt, reduceCtorEq, if_true, if_false]) <;> first | omega | assumption | exact ⟨fun h => by have := h08.1 h; omega, fun h => h08.2 (by omega)⟩ | exact ⟨fun h => by have := h09.1 h; omega, fun h => h09.2 (by omega)⟩ | (simp only [Int.le_refl, if_true]; omega) | (simp; omega)
  all_goals first | exact hI.hl | exact hI.shl | exact hI.gl | exact hI.cl | (simp [-List.getD_eq_getElem?_getD, hI.hl, hI.shl, hI.gl]; done) | (simpa using hI.cl)

theorem st_2_9 {W Q b jobs : Int} {st : St} (hI : Inv W Q b jobs st) (hW : 1 ≤ W) (hW2 : W ≤ 256) (hQ : 1 ≤ Q) (hb : 1 ≤ b) (hb2 : b ≤ 64) (hj : 0 ≤ jobs) (hj2 : jobs ≤ 1024) {k : Nat} (hk : k < st.rs.length) (x0 x1 x2 x3 x4 x5 x6 x7 : Int)
    (hr : st.rs.getD k default = ⟨2, 9, [x0, x1, x2, x3, x4, x5, x6, x7], false⟩) (hL : LI W b jobs ⟨2, 9, [x0, x1, x2, x3, x4, x5, x6, x7], false⟩)  :
    (step (poolSys W Q b jobs) st k).2 = 0 ∧ Inv W Q b jobs (step (poolSys W Q b jobs) st k).1 := by
  obtain ⟨l8, -, -, -, -, hC, hF⟩ := hL
  simp [-List.getD_eq_getElem?_getD, condC, condF, reg] at hC hF
  have hn := hI.n
  have hl := hI.hl
  have shl := hI.shl
  have gl := hI.gl
  have hl0 : 0 < st.held.length := by omega
  have hl1 : 1 < st.held.length := by omega
  have hl2 : 2 < st.held.length := by omega
  have sl0 : 0 < st.shut.length := by omega
  have sl1 : 1 < st.shut.length := by omega
  have gl0 : 0 < st.groups.length := by omega
  simp only [S_split _ st.rs k hk, hr] at hn
  have hR := ri_of W b jobs hW hW2 hb hb2 (st.rs.eraseIdx k) (fun x hx => hI.li x (List.mem_of_mem_eraseIdx hx))
  obtain ⟨r0, r1, r2, r3, r4, r5, r6, r7, r8, r9, r10, r11, r12, r13, r14, r15, r16, r17, r18, r19, r20, r21, r22, r23, r24⟩ := hR
  rw [S_mul] at r5 r12
  rw [S_add] at r24
  simp only [c0, c1, c2, c3, ws, fs, ls, tok, sent, grp, pot, potC, potW, potF, fpast, lw, lpast, wpast, cpast, reg, F0, shutAt, heldAt, Int.reduceLE, Int.reduceLT, Int.reduceEq, ge_iff_le, Int.le_refl, ↓reduceIte, and_true, true_and, and_false, false_and, List.getElem?_cons_succ, List.getElem?_cons_zero, Option.getD_some, List.length_append, List.length_cons, List.length_nil, Nat.reduceEqDiff, Nat.reduceLT, Nat.zero_ne_one, Nat.one_ne_zero, Int.reduceToNat, gt_iff_lt, reduceCtorEq, if_true, if_false] at hn
  obtain ⟨h00, h01, h02, h03, h04, h05, h06, h07, h08, h09, h10, h11, h12, h13, h14, h15⟩ := hn
  skip
  have hA : act (poolSys W Q b jobs) st k ⟨2, 9, [x0, x1, x2, x3, x4, x5, x6, x7], false⟩ (insOf (poolSys W Q b jobs) ⟨2, 9, [x0, x1, x2, x3, x4, x5, x6, x7], false⟩) = ({ rs := st.rs.set k ⟨2, 9, [x0, jobs, x2, x3, x4, x5, x6, x7], false⟩, held := st.held, shut := st.shut, groups := st.groups, cells := st.cells, ev := st.ev }, 0) := by
    simp [-List.getD_eq_getElem?_getD, act, insOf, poolSys, feedP, I, reg, setReg, heldAt, shutAt, set_self _ _ _ _ hk hr]
  rw [step_put _ _ _ _ ⟨2, 9, [x0, jobs, x2, x3, x4, x5, x6, x7], false⟩ { rs := st.rs.set k ⟨2, 9, [x0, jobs, x2, x3, x4, x5, x6, x7], false⟩, held := st.held, shut := st.shut, groups := st.groups, cells := st.cells, ev := st.ev } hk hr hA]
  have hadv : adv (poolSys W Q b jobs) ⟨2, 9, [x0, jobs, x2, x3, x4, x5, x6, x7], false⟩ = ⟨2, 10, [x0, jobs, x2, x3, x4, x5, x6, x7], false⟩ := by simp [-List.getD_eq_getElem?_getD, adv, len, poolSys, feedP]
  rw [hadv]
  refine ⟨rfl, inv_next hI hk ⟨2, 10, [x0, jobs, x2, x3, x4, x5, x6, x7], false⟩ ?_ _ _ _ _ ?_ ?_ ?_ ?_ ?_⟩
  case refine_1 =>
    refine ⟨rfl, by simp, by simp, by simp [-List.getD_eq_getElem?_getD, plen], by simp [-List.getD_eq_getElem?_getD, plen], ?_, ?_⟩
    · simp [-List.getD_eq_getElem?_getD, condC, reg] <;> omega
    · simp [-List.getD_eq_getElem?_getD, condF, reg] <;> omega
  case refine_6 =>
    constructor <;> (try simp only [c0, c1, c2, c3, ws, fs, ls, tok, sent, grp, pot, potC, potW, potF, fpast, lw, lpast, wpast, cpast, reg, F0, shutAt, heldAt, getD_set' _ _ _ _ _ hl0, getD_set' _ _ _ _ _ hl1, getD_set' _ _ _ _ _ hl2, getD_set' _ _ _ _ _ sl0, getD_set' _ _ _ _ _ sl1, getD_set' _ _ _ _ _ gl0, ge_iff_le, Int.le_refl, ↓reduceIte, and_true, true_and, and_false, false_and, List.getElem?_cons_succ, List.getElem?_cons_zero, Option.getD_some, List.length_append, List.length_cons, List.length_nil, Nat.reduceEqDiff, Nat.reduceLT, Nat.zero_ne_one, Nat.one_ne_zero, Int.reduceToNat, gt_iff_lt, reduceCtorEq, if_true, if_false]) <;> first | omega | assumption | exact ⟨fun h => by have := h08.1 h; omega, fun h => h08.2 (by omega)⟩ | exact ⟨fun h => by have := h09.1 h; omega, fun h => h09.2 (by omega)⟩ | (simp only [Int.le_refl, if_true]; omega) | (simp; omega)
  all_goals first | exact hI.hl | exact hI.shl | exact hI.gl | exact hI.cl | (simp [-List.getD_eq_getElem?_getD, hI.hl, hI.shl, hI.gl]; done) | (simpa using hI.cl)

theorem st_2_10y {W Q b jobs : Int} {st : St} (hI : Inv W Q b jobs st) (hW : 1 ≤ W) (hW2 : W ≤ 256) (hQ : 1 ≤ Q) (hb : 1 ≤ b) (hb2 : b ≤ 64) (hj : 0 ≤ jobs) (hj2 : jobs ≤ 1024) {k : Nat} (hk : k < st.rs.length) (x0 x1 x2 x3 x4 x5 x6 x7 : Int)
    (hr : st.rs.getD k default = ⟨2, 10, [x0, x1, x2, x3, x4, x5, x6, x7], false⟩) (hL : LI W b jobs ⟨2, 10, [x0, x1, x2, x3, x4, x5, x6, x7], false⟩) (hx : x0 < jobs) :
    (step (poolSys W Q b jobs) st k).2 = 0 ∧ Inv W Q b jobs (step (poolSys W Q b jobs) st k).1 := by
  obtain ⟨l8, -, -, -, -, hC, hF⟩ := hL
  simp [-List.getD_eq_getElem?_getD, condC, condF, reg] at hC hF
  have hn := hI.n
  have hl := hI.hl
  have shl := hI.shl
  have gl := hI.gl
  have hl0 : 0 < st.held.length := by omega
  have hl1 : 1 < st.held.length := by omega
  have hl2 : 2 < st.held.length := by omega
  have sl0 : 0 < st.shut.length := by omega
  have sl1 : 1 < st.shut.length := by omega
  have gl0 : 0 < st.groups.length := by omega
  simp only [S_split _ st.rs k hk, hr] at hn
  have hR := ri_of W b jobs hW hW2 hb hb2 (st.rs.eraseIdx k) (fun x hx => hI.li x (List.mem_of_mem_eraseIdx hx))
  obtain ⟨r0, r1, r2, r3, r4, r5, r6, r7, r8, r9, r10, r11, r12, r13, r14, r15, r16, r17, r18, r19, r20, r21, r22, r23, r24⟩ := hR
  rw [S_mul] at r5 r12
  rw [S_add] at r24
  simp only [c0, c1, c2, c3, ws, fs, ls, tok, sent, grp, pot, potC, potW, potF, fpast, lw, lpast, wpast, cpast, reg, F0, shutAt, heldAt, Int.reduceLE, Int.reduceLT, Int.reduceEq, ge_iff_le, Int.le_refl, ↓reduceIte, and_true, true_and, and_false, false_and, List.getElem?_cons_succ, List.getElem?_cons_zero, Option.getD_some, List.length_append, List.length_cons, List.length_nil, Nat.reduceEqDiff, Nat.reduceLT, Nat.zero_ne_one, Nat.one_ne_zero, Int.reduceToNat, gt_iff_lt, reduceCtorEq, if_true, if_false] at hn
  obtain ⟨h00, h01, h02, h03, h04, h05, h06, h07, h08, h09, h10, h11, h12, h13, h14, h15⟩ := hn
  have hlt : x0 < x1 := by omega
  have hA : act (poolSys W Q b jobs) st k ⟨2, 10, [x0, x1, x2, x3, x4, x5, x6, x7], false⟩ (insOf (poolSys W Q b jobs) ⟨2, 10, [x0, x1, x2, x3, x4, x5, x6, x7], false⟩) = ({ rs := st.rs.set k ⟨2, 11, [x0, x1, x2, x3, x4, x5, x6, x7], false⟩, held := st.held, shut := st.shut, groups := st.groups, cells := st.cells, ev := st.ev }, 0) := by
    simp [-List.getD_eq_getElem?_getD, act, insOf, poolSys, feedP, I, reg, setReg, heldAt, shutAt, set_self _ _ _ _ hk hr, hlt, hx]
  rw [step_put _ _ _ _ ⟨2, 11, [x0, x1, x2, x3, x4, x5, x6, x7], false⟩ { rs := st.rs.set k ⟨2, 11, [x0, x1, x2, x3, x4, x5, x6, x7], false⟩, held := st.held, shut := st.shut, groups := st.groups, cells := st.cells, ev := st.ev } hk hr hA]
  have hadv : adv (poolSys W Q b jobs) ⟨2, 11, [x0, x1, x2, x3, x4, x5, x6, x7], false⟩ = ⟨2, 12, [x0, x1, x2, x3, x4, x5, x6, x7], false⟩ := by simp [-List.getD_eq_getElem?_getD, adv, len, poolSys, feedP]
  rw [hadv]
  refine ⟨rfl, inv_next hI hk ⟨2, 12, [x0, x1, x2, x3, x4, x5, x6, x7], false⟩ ?_ _ _ _ _ ?_ ?_ ?_ ?_ ?_⟩
  case refine_1 =>
    refine ⟨rfl, by simp, by simp, by simp [-List.getD_eq_getElem?_getD, plen], by simp [-List.getD_eq_getElem?_getD, plen], ?_, ?_⟩
    · simp [-List.getD_eq_getElem?_getD, condC, reg] <;> omega
    · simp [-List.getD_eq_getElem?_getD, condF, reg] <;> omega
  case refine_6 =>
    constructor <;> (try simp only [c0, c1, c2, c3, ws, fs, ls, tok, sent, grp, pot, potC, potW, potF, fpast, lw, lpast, wpast, cpast, reg, F0, shutAt, heldAt, getD_set' _ _ _ _ _ hl0, getD_set' _ _ _ _ _ hl1, getD_set' _ _ _ _ _ hl2, getD_set' _ _ _ _ _ sl0, getD_set' _ _ _ _ _ sl1, getD_set' _ _ _ _ _ gl0, ge_iff_le, Int.le_refl, ↓reduceIte, and_true, true_and, and_false, false_and, List.getElem?_cons_succ, List.getElem?_cons_zero, Option.getD_some, List.length_append, List.length_cons, List.length_nil, Nat.reduceEqDiff, Nat.reduceLT, Nat.zero_ne_one, Nat.one_ne_zero, Int.reduceToNat, gt_iff_lt, reduceCtorEq, if_true, if_false]) <;> first | omega | assumption | exact ⟨fun h => by have := h08.1 h; omega, fun h => h08.2 (by omega)⟩ | exact ⟨fun h => by have := h09.1 h; omega, fun h => h09.2 (by omega)⟩ | (simp only [Int.le_refl, if_true]; omega) | (simp; omega)
  all_goals first | exact hI.hl | exact hI.shl | exact hI.gl | exact hI.cl | (simp [-List.getD_eq_getElem?_getD, hI.hl, hI.shl, hI.gl]; done) | (simpa using hI.cl)

theorem st_2_10n {W Q b jobs : Int} {st : St} (hI : Inv W Q b jobs st) (hW : 1 ≤ W) (hW2 : W ≤ 256) (hQ : 1 ≤ Q) (hb : 1 ≤ b) (hb2 : b ≤ 64) (hj : 0 ≤ jobs) (hj2 : jobs ≤ 1024) {k : Nat} (hk : k < st.rs.length) (x0 x1 x2 x3 x4 x5 x6 x7 : Int)
    (hr : st.rs.getD k default = ⟨2, 10, [x0, x1, x2, x3, x4, x5, x6, x7], false⟩) (hL : LI W b jobs ⟨2, 10, [x0, x1, x2, x3, x4, x5, x6, x7], false⟩) (hx : ¬ x0 < jobs) :
    (step (poolSys W Q b jobs) st k).2 = 0 ∧ Inv W Q b jobs (step (poolSys W Q b jobs) st k).1 := by
  obtain ⟨l8, -, -, -, -, hC, hF⟩ := hL
  simp [-List.getD_eq_getElem?_getD, condC, condF, reg] at hC hF
  have hn := hI.n
  have hl := hI.hl
  have shl := hI.shl
  have gl := hI.gl
  have hl0 : 0 < st.held.length := by omega
  have hl1 : 1 < st.held.length := by omega
  have hl2 : 2 < st.held.length := by omega
  have sl0 : 0 < st.shut.length := by omega
  have sl1 : 1 < st.shut.length := by omega
  have gl0 : 0 < st.groups.length := by omega
  simp only [S_split _ st.rs k hk, hr] at hn
  have hR := ri_of W b jobs hW hW2 hb hb2 (st.rs.eraseIdx k) (fun x hx => hI.li x (List.mem_of_mem_eraseIdx hx))
  obtain ⟨r0, r1, r2, r3, r4, r5, r6, r7, r8, r9, r10, r11, r12, r13, r14, r15, r16, r17, r18, r19, r20, r21, r22, r23, r24⟩ := hR
  rw [S_mul] at r5 r12
  rw [S_add] at r24
  simp only [c0, c1, c2, c3, ws, fs, ls, tok, sent, grp, pot, potC, potW, potF, fpast, lw, lpast, wpast, cpast, reg, F0, shutAt, heldAt, Int.reduceLE, Int.reduceLT, Int.reduceEq, ge_iff_le, Int.le_refl, ↓reduceIte, and_true, true_and, and_false, false_and, List.getElem?_cons_succ, List.getElem?_cons_zero, Option.getD_some, List.length_append, List.length_cons, List.length_nil, Nat.reduceEqDiff, Nat.reduceLT, Nat.zero_ne_one, Nat.one_ne_zero, Int.reduceToNat, gt_iff_lt, reduceCtorEq, if_true, if_false] at hn
  obtain ⟨h00, h01, h02, h03, h04, h05, h06, h07, h08, h09, h10, h11, h12, h13, h14, h15⟩ := hn
  have hlt : ¬ x0 < x1 := by omega
  have hA : act (poolSys W Q b jobs) st k ⟨2, 10, [x0, x1, x2, x3, x4, x5, x6, x7], false⟩ (insOf (poolSys W Q b jobs) ⟨2, 10, [x0, x1, x2, x3, x4, x5, x6, x7], false⟩) = ({ rs := st.rs.set k ⟨2, 10, [x0, x1, x2, x3, x4, x5, x6, x7], false⟩, held := st.held, shut := st.shut, groups := st.groups, cells := st.cells, ev := st.ev }, 0) := by
    simp [-List.getD_eq_getElem?_getD, act, insOf, poolSys, feedP, I, reg, setReg, heldAt, shutAt, set_self _ _ _ _ hk hr, hlt, hx]
  rw [step_put _ _ _ _ ⟨2, 10, [x0, x1, x2, x3, x4, x5, x6, x7], false⟩ { rs := st.rs.set k ⟨2, 10, [x0, x1, x2, x3, x4, x5, x6, x7], false⟩, held := st.held, shut := st.shut, groups := st.groups, cells := st.cells, ev := st.ev } hk hr hA]
  have hadv : adv (poolSys W Q b jobs) ⟨2, 10, [x0, x1, x2, x3, x4, x5, x6, x7], false⟩ = ⟨2, 11, [x0, x1, x2, x3, x4, x5, x6, x7], false⟩ := by simp [-List.getD_eq_getElem?_getD, adv, len, poolSys, feedP]
  rw [hadv]
  refine ⟨rfl, inv_next hI hk ⟨2, 11, [x0, x1, x2, x3, x4, x5, x6, x7], false⟩ ?_ _ _ _ _ ?_ ?_ ?_ ?_ ?_⟩
  case refine_1 =>
    refine ⟨rfl, by simp, by simp, by simp [-List.getD_eq_getElem?_getD, plen], by simp [-List.getD_eq_getElem?_getD, plen], ?_, ?_⟩
    · simp [-List.getD_eq_getElem?_getD, condC, reg] <;> omega
    · simp [-List.getD_eq_getElem?_getD, condF, reg] <;> omega
  case refine_6 =>
    constructor <;> (try simp only [c0, c1, c2, c3, ws, fs, ls, tok, sent, grp, pot, potC, potW, potF, fpast, lw, lpast, wpast, cpast, reg, F0, shutAt, heldAt, getD_set' _ _ _ _ _ hl0, getD_set' _ _ _ _ _ hl1, getD_set' _ _ _ _ _ hl2, getD_set' _ _ _ _ _ sl0, getD_set' _ _ _ _ _ sl1, getD_set' _ _ _ _ _ gl0, ge_iff_le, Int.le_refl, ↓reduceIte, and_true, true_and, and_false, false_and, List.getElem?_cons_succ, List.getElem?_cons_zero, Option.getD_some, List.length_append, List.length_cons, List.length_nil, Nat.reduceEqDiff, Nat.reduceLT, Nat.zero_ne_one, Nat.one_ne_zero, Int.reduceToNat, gt_iff_lt, reduceCtorEq, if_true, if_false]) <;> first | omega | assumption | exact ⟨fun h => by have := h08.1 h; omega, fun h => h08.2 (by omega)⟩ | exact ⟨fun h => by have := h09.1 h; omega, fun h => h09.2 (by omega)⟩ | (simp only [Int.le_refl, if_true]; omega) | (simp; omega)
  all_goals first | exact hI.hl | exact hI.shl | exact hI.gl | exact hI.cl | (simp [-List.getD_eq_getElem?_getD, hI.hl, hI.shl, hI.gl]; done) | (simpa using hI.cl)

theorem st_2_11 {W Q b jobs : Int} {st : St} (hI : Inv W Q b jobs st) (hW : 1 ≤ W) (hW2 : W ≤ 256) (hQ : 1 ≤ Q) (hb : 1 ≤ b) (hb2 : b ≤ 64) (hj : 0 ≤ jobs) (hj2 : jobs ≤ 1024) {k : Nat} (hk : k < st.rs.length) (x0 x1 x2 x3 x4 x5 x6 x7 : Int)
    (hr : st.rs.getD k default = ⟨2, 11, [x0, x1, x2, x3, x4, x5, x6, x7], false⟩) (hL : LI W b jobs ⟨2, 11, [x0, x1, x2, x3, x4, x5, x6, x7], false⟩)  :
    (step (poolSys W Q b jobs) st k).2 = 0 ∧ Inv W Q b jobs (step (poolSys W Q b jobs) st k).1 := by
  obtain ⟨l8, -, -, -, -, hC, hF⟩ := hL
  simp [-List.getD_eq_getElem?_getD, condC, condF, reg] at hC hF
  have hn := hI.n
  have hl := hI.hl
  have shl := hI.shl
  have gl := hI.gl
  have hl0 : 0 < st.held.length := by omega
  have hl1 : 1 < st.held.length := by omega
  have hl2 : 2 < st.held.length := by omega
  have sl0 : 0 < st.shut.length := by omega
  have sl1 : 1 < st.shut.length := by omega
  have gl0 : 0 < st.groups.length := by omega
  simp only [S_split _ st.rs k hk, hr] at hn
  have hR := ri_of W b jobs hW hW2 hb hb2 (st.rs.eraseIdx k) (fun x hx => hI.li x (List.mem_of_mem_eraseIdx hx))
  obtain ⟨r0, r1, r2, r3, r4, r5, r6, r7, r8, r9, r10, r11, r12, r13, r14, r15, r16, r17, r18, r19, r20, r21, r22, r23, r24⟩ := hR
  rw [S_mul] at r5 r12
  rw [S_add] at r24
  simp only [c0, c1, c2, c3, ws, fs, ls, tok, sent, grp, pot, potC, potW, potF, fpast, lw, lpast, wpast, cpast, reg, F0, shutAt, heldAt, Int.reduceLE, Int.reduceLT, Int.reduceEq, ge_iff_le, Int.le_refl, ↓reduceIte, and_true, true_and, and_false, false_and, List.getElem?_cons_succ, List.getElem?_cons_zero, Option.getD_some, List.length_append, List.length_cons, List.length_nil, Nat.reduceEqDiff, Nat.reduceLT, Nat.zero_ne_one, Nat.one_ne_zero, Int.reduceToNat, gt_iff_lt, reduceCtorEq, if_true, if_false] at hn
  obtain ⟨h00, h01, h02, h03, h04, h05, h06, h07, h08, h09, h10, h11, h12, h13, h14, h15⟩ := hn
  skip
  have hA : act (poolSys W Q b jobs) st k ⟨2, 11, [x0, x1, x2, x3, x4, x5, x6, x7], false⟩ (insOf (poolSys W Q b jobs) ⟨2, 11, [x0, x1, x2, x3, x4, x5, x6, x7], false⟩) = ({ rs := st.rs.set k ⟨2, 16, [x0, x1, x2, x3, x4, x5, x6, x7], false⟩, held := st.held, shut := st.shut, groups := st.groups, cells := st.cells, ev := st.ev }, 0) := by
    simp [-List.getD_eq_getElem?_getD, act, insOf, poolSys, feedP, I, reg, setReg, heldAt, shutAt, set_self _ _ _ _ hk hr]
  rw [step_put _ _ _ _ ⟨2, 16, [x0, x1, x2, x3, x4, x5, x6, x7], false⟩ { rs := st.rs.set k ⟨2, 16, [x0, x1, x2, x3, x4, x5, x6, x7], false⟩, held := st.held, shut := st.shut, groups := st.groups, cells := st.cells, ev := st.ev } hk hr hA]
  have hadv : adv (poolSys W Q b jobs) ⟨2, 16, [x0, x1, x2, x3, x4, x5, x6, x7], false⟩ = ⟨2, 17, [x0, x1, x2, x3, x4, x5, x6, x7], false⟩ := by simp [-List.getD_eq_getElem?_getD, adv, len, poolSys, feedP]
  rw [hadv]
  refine ⟨rfl, inv_next hI hk ⟨2, 17, [x0, x1, x2, x3, x4, x5, x6, x7], false⟩ ?_ _ _ _ _ ?_ ?_ ?_ ?_ ?_⟩
  case refine_1 =>
    refine ⟨rfl, by simp, by simp, by simp [-List.getD_eq_getElem?_getD, plen], by simp [-List.getD_eq_getElem?_getD, plen], ?_, ?_⟩
    · simp [-List.getD_eq_getElem?_getD, condC, reg] <;> omega
    · simp [-List.getD_eq_getElem?_getD, condF, reg] <;> omega
  case refine_6 =>
    constructor <;> (try simp only [c0, c1, c2, c3, ws, fs, ls, tok, sent, grp, pot, potC, potW, potF, fpast, lw, lpast, wpast, cpast, reg, F0, shutAt, heldAt, getD_set' _ _ _ _ _ hl0, getD_set' _ _ _ _ _ hl1, getD_set' _ _ _ _ _ hl2, getD_set' _ _ _ _ _ sl0, getD_set' _ _ _ _ _ sl1, getD_set' _ _ _ _ _ gl0, ge_iff_le, Int.le_refl, ↓reduceIte, and_true, true_and, and_false, false_and, List.getElem?_cons_succ, List.getElem?_cons_zero, Option.getD_some, List.length_append, List.length_cons, List.length_nil, Nat.reduceEqDiff, Nat.reduceLT, Nat.zero_ne_one, Nat.one_ne_zero, Int.reduceToNat, gt_iff_lt, reduceCtorEq, if_true, if_false]) <;> first | omega | assumption | exact ⟨fun h => by have := h08.1 h; omega, fun h => h08.2 (by omega)⟩ | exact ⟨fun h => by have := h09.1 h; omega, fun h => h09.2 (by omega)⟩ | (simp only [Int.le_refl, if_true]; omega) | (simp; omega)
  all_goals first | exact hI.hl | exact hI.shl | exact hI.gl | exact hI.cl | (simp [-List.getD_eq_getElem?_getD, hI.hl, hI.shl, hI.gl]; done) | (simpa using hI.cl)

theorem st_2_12y {W Q b jobs : Int} {st : St} (hI : Inv W Q b jobs st) (hW : 1 ≤ W) (hW2 : W ≤ 256) (hQ : 1 ≤ Q) (hb : 1 ≤ b) (hb2 : b ≤ 64) (hj : 0 ≤ jobs) (hj2 : jobs ≤ 1024) {k : Nat} (hk : k < st.rs.length) (x0 x1 x2 x3 x4 x5 x6 x7 : Int)
    (hr : st.rs.getD k default = ⟨2, 12, [x0, x1, x2, x3, x4, x5, x6, x7], false⟩) (hL : LI W b jobs ⟨2, 12, [x0, x1, x2, x3, x4, x5, x6, x7], false⟩) (v : Int) (l : List Int) (hx : st.held.getD 2 [] = v :: l) :
    (step (poolSys W Q b jobs) st k).2 = 0 ∧ Inv W Q b jobs (step (poolSys W Q b jobs) st k).1 := by
  obtain ⟨l8, -, -, -, -, hC, hF⟩ := hL
  simp [-List.getD_eq_getElem?_getD, condC, condF, reg] at hC hF
  have hn := hI.n
  have hl := hI.hl
  have shl := hI.shl
  have gl := hI.gl
  have hl0 : 0 < st.held.length := by omega
  have hl1 : 1 < st.held.length := by omega
  have hl2 : 2 < st.held.length := by omega
  have sl0 : 0 < st.shut.length := by omega
  have sl1 : 1 < st.shut.length := by omega
  have gl0 : 0 < st.groups.length := by omega
  simp only [S_split _ st.rs k hk, hr] at hn
  have hR := ri_of W b jobs hW hW2 hb hb2 (st.rs.eraseIdx k) (fun x hx => hI.li x (List.mem_of_mem_eraseIdx hx))
  obtain ⟨r0, r1, r2, r3, r4, r5, r6, r7, r8, r9, r10, r11, r12, r13, r14, r15, r16, r17, r18, r19, r20, r21, r22, r23, r24⟩ := hR
  rw [S_mul] at r5 r12
  rw [S_add] at r24
  simp only [c0, c1, c2, c3, ws, fs, ls, tok, sent, grp, pot, potC, potW, potF, fpast, lw, lpast, wpast, cpast, reg, F0, shutAt, heldAt, Int.reduceLE, Int.reduceLT, Int.reduceEq, ge_iff_le, Int.le_refl, ↓reduceIte, and_true, true_and, and_false, false_and, List.getElem?_cons_succ, List.getElem?_cons_zero, Option.getD_some, List.length_append, List.length_cons, List.length_nil, Nat.reduceEqDiff, Nat.reduceLT, Nat.zero_ne_one, Nat.one_ne_zero, Int.reduceToNat, gt_iff_lt, reduceCtorEq, if_true, if_false, hx] at hn
  obtain ⟨h00, h01, h02, h03, h04, h05, h06, h07, h08, h09, h10, h11, h12, h13, h14, h15⟩ := hn
  skip
  have hA : act (poolSys W Q b jobs) st k ⟨2, 12, [x0, x1, x2, x3, x4, x5, x6, x7], false⟩ (insOf (poolSys W Q b jobs) ⟨2, 12, [x0, x1, x2, x3, x4, x5, x6, x7], false⟩) = ({ rs := st.rs.set k ⟨2, 12, [x0, x1, x2, v, x4, x5, x6, x7], false⟩, held := (st.held.set 2 l), shut := st.shut, groups := st.groups, cells := st.cells, ev := st.ev }, 0) := by
    simp [-List.getD_eq_getElem?_getD, act, insOf, poolSys, feedP, I, reg, setReg, heldAt, shutAt, set_self _ _ _ _ hk hr, hx]
  rw [step_put _ _ _ _ ⟨2, 12, [x0, x1, x2, v, x4, x5, x6, x7], false⟩ { rs := st.rs.set k ⟨2, 12, [x0, x1, x2, v, x4, x5, x6, x7], false⟩, held := (st.held.set 2 l), shut := st.shut, groups := st.groups, cells := st.cells, ev := st.ev } hk hr hA]
  have hadv : adv (poolSys W Q b jobs) ⟨2, 12, [x0, x1, x2, v, x4, x5, x6, x7], false⟩ = ⟨2, 13, [x0, x1, x2, v, x4, x5, x6, x7], false⟩ := by simp [-List.getD_eq_getElem?_getD, adv, len, poolSys, feedP]
  rw [hadv]
  refine ⟨rfl, inv_next hI hk ⟨2, 13, [x0, x1, x2, v, x4, x5, x6, x7], false⟩ ?_ _ _ _ _ ?_ ?_ ?_ ?_ ?_⟩
  case refine_1 =>
    refine ⟨rfl, by simp, by simp, by simp [-List.getD_eq_getElem?_getD, plen], by simp [-List.getD_eq_getElem?_getD, plen], ?_, ?_⟩
    · simp [-List.getD_eq_getElem?_getD, condC, reg] <;> omega
    · simp [-List.getD_eq_getElem?_getD, condF, reg] <;> omega
  case refine_6 =>
    constructor <;> (try simp only [c0, c1, c2, c3, ws, fs, ls, tok, sent, grp, pot, potC, potW, potF, fpast, lw, lpast, wpast, cpast, reg, F0, shutAt, heldAt, getD_set' _ _ _ _ _ hl0, getD_set' _ _ _ _ _ hl1, getD_set' _ _ _ _ _ hl2, getD_set' _ _ _ _ _ sl0, getD_set' _ _ _ _ _ sl1, getD_set' _ _ _ _ _ gl0, ge_iff_le, Int.le_refl, ↓reduceIte, and_true, true_and, and_false, false_and, List.getElem?_cons_succ, List.getElem?_cons_zero, Option.getD_some, List.length_append, List.length_cons, List.length_nil, Nat.reduceEqDiff, Nat.reduceLT, Nat.zero_ne_one, Nat.one_ne_zero, Int.reduceToNat, gt_iff_lt, reduceCtorEq, if_true, if_false, hx]) <;> first | omega | assumption | exact ⟨fun h => by have := h08.1 h; omega, fun h => h08.2 (by omega)⟩ | exact ⟨fun h => by have := h09.1 h; omega, fun h => h09.2 (by omega)⟩ | (simp only [Int.le_refl, if_true]; omega) | (simp; omega)
  all_goals first | exact hI.hl | exact hI.shl | exact hI.gl | exact hI.cl | (simp [-List.getD_eq_getElem?_getD, hI.hl, hI.shl, hI.gl]; done) | (simpa using hI.cl)

theorem st_2_13 {W Q b jobs : Int} {st : St} (hI : Inv W Q b jobs st) (hW : 1 ≤ W) (hW2 : W ≤ 256) (hQ : 1 ≤ Q) (hb : 1 ≤ b) (hb2 : b ≤ 64) (hj : 0 ≤ jobs) (hj2 : jobs ≤ 1024) {k : Nat} (hk : k < st.rs.length) (x0 x1 x2 x3 x4 x5 x6 x7 : Int)
    (hr : st.rs.getD k default = ⟨2, 13, [x0, x1, x2, x3, x4, x5, x6, x7], false⟩) (hL : LI W b jobs ⟨2, 13, [x0, x1, x2, x3, x4, x5, x6, x7], false⟩)  :
    (step (poolSys W Q b jobs) st k).2 = 0 ∧ Inv W Q b jobs (step (poolSys W Q b jobs) st k).1 := by
  obtain ⟨l8, -, -, -, -, hC, hF⟩ := hL
  simp [-List.getD_eq_getElem?_getD, condC, condF, reg] at hC hF
  have hn := hI.n
  have hl := hI.hl
  have shl := hI.shl
  have gl := hI.gl
  have hl0 : 0 < st.held.length := by omega
  have hl1 : 1 < st.held.length := by omega
  have hl2 : 2 < st.held.length := by omega
  have sl0 : 0 < st.shut.length := by omega
  have sl1 : 1 < st.shut.length := by omega
  have gl0 : 0 < st.groups.length := by omega
  simp only [S_split _ st.rs k hk, hr] at hn
  have hR := ri_of W b jobs hW hW2 hb hb2 (st.rs.eraseIdx k) (fun x hx => hI.li x (List.mem_of_mem_eraseIdx hx))
  obtain ⟨r0, r1, r2, r3, r4, r5, r6, r7, r8, r9, r10, r11, r12, r13, r14, r15, r16, r17, r18, r19, r20, r21, r22, r23, r24⟩ := hR
  rw [S_mul] at r5 r12
  rw [S_add] at r24
  simp only [c0, c1, c2, c3, ws, fs, ls, tok, sent, grp, pot, potC, potW, potF, fpast, lw, lpast, wpast, cpast, reg, F0, shutAt, heldAt, Int.reduceLE, Int.reduceLT, Int.reduceEq, ge_iff_le, Int.le_refl, ↓reduceIte, and_true, true_and, and_false, false_and, List.getElem?_cons_succ, List.getElem?_cons_zero, Option.getD_some, List.length_append, List.length_cons, List.length_nil, Nat.reduceEqDiff, Nat.reduceLT, Nat.zero_ne_one, Nat.one_ne_zero, Int.reduceToNat, gt_iff_lt, reduceCtorEq, if_true, if_false] at hn
  obtain ⟨h00, h01, h02, h03, h04, h05, h06, h07, h08, h09, h10, h11, h12, h13, h14, h15⟩ := hn
  skip
  have hA : act (poolSys W Q b jobs) st k ⟨2, 13, [x0, x1, x2, x3, x4, x5, x6, x7], false⟩ (insOf (poolSys W Q b jobs) ⟨2, 13, [x0, x1, x2, x3, x4, x5, x6, x7], false⟩) = ({ rs := st.rs.set k ⟨2, 13, [x0, x1, x2, x3, x4, x5, x6, x7], false⟩, held := st.held, shut := st.shut, groups := st.groups, cells := (st.cells.set (rest x3 st.cells.length).toNat x0), ev := st.ev }, 0) := by
    simp [-List.getD_eq_getElem?_getD, act, insOf, poolSys, feedP, I, reg, setReg, heldAt, shutAt, set_self _ _ _ _ hk hr]
  rw [step_put _ _ _ _ ⟨2, 13, [x0, x1, x2, x3, x4, x5, x6, x7], false⟩ { rs := st.rs.set k ⟨2, 13, [x0, x1, x2, x3, x4, x5, x6, x7], false⟩, held := st.held, shut := st.shut, groups := st.groups, cells := (st.cells.set (rest x3 st.cells.length).toNat x0), ev := st.ev } hk hr hA]
  have hadv : adv (poolSys W Q b jobs) ⟨2, 13, [x0, x1, x2, x3, x4, x5, x6, x7], false⟩ = ⟨2, 14, [x0, x1, x2, x3, x4, x5, x6, x7], false⟩ := by simp [-List.getD_eq_getElem?_getD, adv, len, poolSys, feedP]
  rw [hadv]
  refine ⟨rfl, inv_next hI hk ⟨2, 14, [x0, x1, x2, x3, x4, x5, x6, x7], false⟩ ?_ _ _ _ _ ?_ ?_ ?_ ?_ ?_⟩
  case refine_1 =>
    refine ⟨rfl, by simp, by simp, by simp [-List.getD_eq_getElem?_getD, plen], by simp [-List.getD_eq_getElem?_getD, plen], ?_, ?_⟩
    · simp [-List.getD_eq_getElem?_getD, condC, reg] <;> omega
    · simp [-List.getD_eq_getElem?_getD, condF, reg] <;> omega
  case refine_6 =>
    constructor <;> (try simp only [c0, c1, c2, c3, ws, fs, ls, tok, sent, grp, pot, potC, potW, potF, fpast, lw, lpast, wpast, cpast, reg, F0, shutAt, heldAt, getD_set' _ _ _ _ _ hl0, getD_set' _ _ _ _ _ hl1, getD_set' _ _ _ _ _ hl2, getD_set' _ _ _ _ _ sl0, getD_set' _ _ _ _ _ sl1, getD_set' _ _ _ _ _ gl0, ge_iff_le, Int.le_refl, ↓reduceIte, and_true, true_and, and_false, false_and, List.getElem?_cons_succ, List.getElem?_cons_zero, Option.getD_some, List.length_append, List.length_cons, List.length_nil, Nat.reduceEqDiff, Nat.reduceLT, Nat.zero_ne_one, Nat.one_ne_zero, Int.reduceToNat, gt_iff_lt, reduceCtorEq, if_true, if_false]) <;> first | omega | assumption | exact ⟨fun h => by have := h08.1 h; omega, fun h => h08.2 (by omega)⟩ | exact ⟨fun h => by have := h09.1 h; omega, fun h => h09.2 (by omega)⟩ | (simp only [Int.le_refl, if_true]; omega) | (simp; omega)
  all_goals first | exact hI.hl | exact hI.shl | exact hI.gl | exact hI.cl | (simp [-List.getD_eq_getElem?_getD, hI.hl, hI.shl, hI.gl]; done) | (simpa using hI.cl)

theorem st_2_14 {W Q b jobs : Int} {st : St} (hI : Inv W Q b jobs st) (hW : 1 ≤ W) (hW2 : W ≤ 256) (hQ : 1 ≤ Q) (hb : 1 ≤ b) (hb2 : b ≤ 64) (hj : 0 ≤ jobs) (hj2 : jobs ≤ 1024) {k : Nat} (hk : k < st.rs.length) (x0 x1 x2 x3 x4 x5 x6 x7 : Int)
    (hr : st.rs.getD k default = ⟨2, 14, [x0, x1, x2, x3, x4, x5, x6, x7], false⟩) (hL : LI W b jobs ⟨2, 14, [x0, x1, x2, x3, x4, x5, x6, x7], false⟩) (hq : ((st.held.getD 0 []).length : Int) < Q) :
    (step (poolSys W Q b jobs) st k).2 = 0 ∧ Inv W Q b jobs (step (poolSys W Q b jobs) st k).1 := by
  obtain ⟨l8, -, -, -, -, hC, hF⟩ := hL
  simp [-List.getD_eq_getElem?_getD, condC, condF, reg] at hC hF
  have hn := hI.n
  have hl := hI.hl
  have shl := hI.shl
  have gl := hI.gl
  have hl0 : 0 < st.held.length := by omega
  have hl1 : 1 < st.held.length := by omega
  have hl2 : 2 < st.held.length := by omega
  have sl0 : 0 < st.shut.length := by omega
  have sl1 : 1 < st.shut.length := by omega
  have gl0 : 0 < st.groups.length := by omega
  simp only [S_split _ st.rs k hk, hr] at hn
  have hR := ri_of W b jobs hW hW2 hb hb2 (st.rs.eraseIdx k) (fun x hx => hI.li x (List.mem_of_mem_eraseIdx hx))
  obtain ⟨r0, r1, r2, r3, r4, r5, r6, r7, r8, r9, r10, r11, r12, r13, r14, r15, r16, r17, r18, r19, r20, r21, r22, r23, r24⟩ := hR
  rw [S_mul] at r5 r12
  rw [S_add] at r24
  simp only [c0, c1, c2, c3, ws, fs, ls, tok, sent, grp, pot, potC, potW, potF, fpast, lw, lpast, wpast, cpast, reg, F0, shutAt, heldAt, Int.reduceLE, Int.reduceLT, Int.reduceEq, ge_iff_le, Int.le_refl, ↓reduceIte, and_true, true_and, and_false, false_and, List.getElem?_cons_succ, List.getElem?_cons_zero, Option.getD_some, List.length_append, List.length_cons, List.length_nil, Nat.reduceEqDiff, Nat.reduceLT, Nat.zero_ne_one, Nat.one_ne_zero, Int.reduceToNat, gt_iff_lt, reduceCtorEq, if_true, if_false] at hn
  obtain ⟨h00, h01, h02, h03, h04, h05, h06, h07, h08, h09, h10, h11, h12, h13, h14, h15⟩ := hn
  have hsf : st.shut.getD 0 false = false := by
    cases h : st.shut.getD 0 false
    · rfl
    · exfalso
      have h' := h08.1 h
      omega
  have hA : act (poolSys W Q b jobs) st k ⟨2, 14, [x0, x1, x2, x3, x4, x5, x6, x7], false⟩ (insOf (poolSys W Q b jobs) ⟨2, 14, [x0, x1, x2, x3, x4, x5, x6, x7], false⟩) = ({ rs := st.rs.set k ⟨2, 14, [x0, x1, x2, x3, x4, x5, x6, x7], false⟩, held := (st.held.set 0 (st.held.getD 0 [] ++ [x3])), shut := st.shut, groups := st.groups, cells := st.cells, ev := st.ev }, 0) := by
    simp [-List.getD_eq_getElem?_getD, act, insOf, poolSys, feedP, I, reg, setReg, heldAt, shutAt, set_self _ _ _ _ hk hr, hsf]
  rw [step_put _ _ _ _ ⟨2, 14, [x0, x1, x2, x3, x4, x5, x6, x7], false⟩ { rs := st.rs.set k ⟨2, 14, [x0, x1, x2, x3, x4, x5, x6, x7], false⟩, held := (st.held.set 0 (st.held.getD 0 [] ++ [x3])), shut := st.shut, groups := st.groups, cells := st.cells, ev := st.ev } hk hr hA]
  have hadv : adv (poolSys W Q b jobs) ⟨2, 14, [x0, x1, x2, x3, x4, x5, x6, x7], false⟩ = ⟨2, 15, [x0, x1, x2, x3, x4, x5, x6, x7], false⟩ := by simp [-List.getD_eq_getElem?_getD, adv, len, poolSys, feedP]
  rw [hadv]
  refine ⟨rfl, inv_next hI hk ⟨2, 15, [x0, x1, x2, x3, x4, x5, x6, x7], false⟩ ?_ _ _ _ _ ?_ ?_ ?_ ?_ ?_⟩
  case refine_1 =>
    refine ⟨rfl, by simp, by simp, by simp [-List.getD_eq_getElem?_getD, plen], by simp [-List.getD_eq_getElem?_getD, plen], ?_, ?_⟩
    · simp [-List.getD_eq_getElem?_getD, condC, reg] <;> omega
    · simp [-List.getD_eq_getElem?_getD, condF, reg] <;> omega
  case refine_6 =>
    constructor <;> (try simp only [c0, c1, c2, c3, ws, fs, ls, tok, sent, grp, pot, potC, potW, potF, fpast, lw, lpast, wpast, cpast, reg, F0, shutAt, heldAt, getD_set' _ _ _ _ _ hl0, getD_set' _ _ _ _ _ hl1, getD_set' _ _ _ _ _ hl2, getD_set' _ _ _ _ _ sl0, getD_set' _ _ _ _ _ sl1, getD_set' _ _ _ _ _ gl0, ge_iff_le, Int.le_refl, ↓reduceIte, and_true, true_and, and_false, false_and, List.getElem?_cons_succ, List.getElem?_cons_zero, Option.getD_some, List.length_append, List.length_cons, List.length_nil, Nat.reduceEqDiff, Nat.reduceLT, Nat.zero_ne_one, Nat.one_ne_zero, Int.reduceToNat, gt_iff_lt, reduceCtorEq, if_true, if_false]) <;> first | omega | assumption | exact ⟨fun h => by have := h08.1 h; omega, fun h => h08.2 (by omega)⟩ | exact ⟨fun h => by have := h09.1 h; omega, fun h => h09.2 (by omega)⟩ | (simp only [Int.le_refl, if_true]; omega) | (simp; omega)
  all_goals first | exact hI.hl | exact hI.shl | exact hI.gl | exact hI.cl | (simp [-List.getD_eq_getElem?_getD, hI.hl, hI.shl, hI.gl]; done) | (simpa using hI.cl)

theorem st_2_15 {W Q b jobs : Int} {st : St} (hI : Inv W Q b jobs st) (hW : 1 ≤ W) (hW2 : W ≤ 256) (hQ : 1 ≤ Q) (hb : 1 ≤ b) (hb2 : b ≤ 64) (hj : 0 ≤ jobs) (hj2 : jobs ≤ 1024) {k : Nat} (hk : k < st.rs.length) (x0 x1 x2 x3 x4 x5 x6 x7 : Int)
    (hr : st.rs.getD k default = ⟨2, 15, [x0, x1, x2, x3, x4, x5, x6, x7], false⟩) (hL : LI W b jobs ⟨2, 15, [x0, x1, x2, x3, x4, x5, x6, x7], false⟩)  :
    (step (poolSys W Q b jobs) st k).2 = 0 ∧ Inv W Q b jobs (step (poolSys W Q b jobs) st k).1 := by
  obtain ⟨l8, -, -, -, -, hC, hF⟩ := hL
  simp [-List.getD_eq_getElem?_getD, condC, condF, reg] at hC hF
  have hn := hI.n
  have hl := hI.hl
  have shl := hI.shl
  have gl := hI.gl
  have hl0 : 0 < st.held.length := by omega
  have hl1 : 1 < st.held.length := by omega
  have hl2 : 2 < st.held.length := by omega
  have sl0 : 0 < st.shut.length := by omega
  have sl1 : 1 < st.shut.length := by omega
  have gl0 : 0 < st.groups.length := by omega
  simp only [S_split _ st.rs k hk, hr] at hn
  have hR := ri_of W b jobs hW hW2 hb hb2 (st.rs.eraseIdx k) (fun x hx => hI.li x (List.mem_of_mem_eraseIdx hx))
  obtain ⟨r0, r1, r2, r3, r4, r5, r6, r7, r8, r9, r10, r11, r12, r13, r14, r15, r16, r17, r18, r19, r20, r21, r22, r23, r24⟩ := hR
  rw [S_mul] at r5 r12
  rw [S_add] at r24
  simp only [c0, c1, c2, c3, ws, fs, ls, tok, sent, grp, pot, potC, potW, potF, fpast, lw, lpast, wpast, cpast, reg, F0, shutAt, heldAt, Int.reduceLE, Int.reduceLT, Int.reduceEq, ge_iff_le, Int.le_refl, ↓reduceIte, and_true, true_and, and_false, false_and, List.getElem?_cons_succ, List.getElem?_cons_zero, Option.getD_some, List.length_append, List.length_cons, List.length_nil, Nat.reduceEqDiff, Nat.reduceLT, Nat.zero_ne_one, Nat.one_ne_zero, Int.reduceToNat, gt_iff_lt, reduceCtorEq, if_true, if_false] at hn
  obtain ⟨h00, h01, h02, h03, h04, h05, h06, h07, h08, h09, h10, h11, h12, h13, h14, h15⟩ := hn
  have hw : wrap (x0 + x2) = x0 + 1 := by rw [wrap_in _ (by omega)]; omega
  have hA : act (poolSys W Q b jobs) st k ⟨2, 15, [x0, x1, x2, x3, x4, x5, x6, x7], false⟩ (insOf (poolSys W Q b jobs) ⟨2, 15, [x0, x1, x2, x3, x4, x5, x6, x7], false⟩) = ({ rs := st.rs.set k ⟨2, 15, [(x0 + 1), x1, x2, x3, x4, x5, x6, x7], false⟩, held := st.held, shut := st.shut, groups := st.groups, cells := st.cells, ev := st.ev }, 0) := by
    simp [-List.getD_eq_getElem?_getD, act, insOf, poolSys, feedP, I, reg, setReg, heldAt, shutAt, set_self _ _ _ _ hk hr, hw]
  rw [step_put _ _ _ _ ⟨2, 15, [(x0 + 1), x1, x2, x3, x4, x5, x6, x7], false⟩ { rs := st.rs.set k ⟨2, 15, [(x0 + 1), x1, x2, x3, x4, x5, x6, x7], false⟩, held := st.held, shut := st.shut, groups := st.groups, cells := st.cells, ev := st.ev } hk hr hA]
  have hadv : adv (poolSys W Q b jobs) ⟨2, 15, [(x0 + 1), x1, x2, x3, x4, x5, x6, x7], false⟩ = ⟨2, 16, [(x0 + 1), x1, x2, x3, x4, x5, x6, x7], false⟩ := by simp [-List.getD_eq_getElem?_getD, adv, len, poolSys, feedP]
  rw [hadv]
  refine ⟨rfl, inv_next hI hk ⟨2, 16, [(x0 + 1), x1, x2, x3, x4, x5, x6, x7], false⟩ ?_ _ _ _ _ ?_ ?_ ?_ ?_ ?_⟩
  case refine_1 =>
    refine ⟨rfl, by simp, by simp, by simp [-List.getD_eq_getElem?_getD, plen], by simp [-List.getD_eq_getElem?_getD, plen], ?_, ?_⟩
    · simp [-List.getD_eq_getElem?_getD, condC, reg] <;> omega
    · simp [-List.getD_eq_getElem?_getD, condF, reg] <;> omega
  case refine_6 =>
    constructor <;> (try simp only [c0, c1, c2, c3, ws, fs, ls, tok, sent, grp, pot, potC, potW, potF, fpast, lw, lpast, wpast, cpast, reg, F0, shutAt, heldAt, getD_set' _ _ _ _ _ hl0, getD_set' _ _ _ _ _ hl1, getD_set' _ _ _ _ _ hl2, getD_set' _ _ _ _ _ sl0, getD_set' _ _ _ _ _ sl1, getD_set' _ _ _ _ _ gl0, ge_iff_le, Int.le_refl, ↓reduceIte, and_true, true_and, and_false, false_and, List.getElem?_cons_succ, List.getElem?_cons_zero, Option.getD_some, List.length_append, List.length_cons, List.length_nil, Nat.reduceEqDiff, Nat.reduceLT, Nat.zero_ne_one, Nat.one_ne_zero, Int.reduceToNat, gt_iff_lt, reduceCtorEq, if_true, if_false]) <;> first | omega | assumption | exact ⟨fun h => by have := h08.1 h; omega, fun h => h08.2 (by omega)⟩ | exact ⟨fun h => by have := h09.1 h; omega, fun h => h09.2 (by omega)⟩ | (simp only [Int.le_refl, if_true]; omega) | (simp; omega)
  all_goals first | exact hI.hl | exact hI.shl | exact hI.gl | exact hI.cl | (simp [-List.getD_eq_getElem?_getD, hI.hl, hI.shl, hI.gl]; done) | (simpa using hI.cl)

theorem st_2_16 {W Q b jobs : Int} {st : St} (hI : Inv W Q b jobs st) (hW : 1 ≤ W) (hW2 : W ≤ 256) (hQ : 1 ≤ Q) (hb : 1 ≤ b) (hb2 : b ≤ 64) (hj : 0 ≤ jobs) (hj2 : jobs ≤ 1024) {k : Nat} (hk : k < st.rs.length) (x0 x1 x2 x3 x4 x5 x6 x7 : Int)
    (hr : st.rs.getD k default = ⟨2, 16, [x0, x1, x2, x3, x4, x5, x6, x7], false⟩) (hL : LI W b jobs ⟨2, 16, [x0, x1, x2, x3, x4, x5, x6, x7], false⟩)  :
    (step (poolSys W Q b jobs) st k).2 = 0 ∧ Inv W Q b jobs (step (poolSys W Q b jobs) st k).1 := by
  obtain ⟨l8, -, -, -, -, hC, hF⟩ := hL
  simp [-List.getD_eq_getElem?_getD, condC, condF, reg] at hC hF
  have hn := hI.n
  have hl := hI.hl
  have shl := hI.shl
  have gl := hI.gl
  have hl0 : 0 < st.held.length := by omega
  have hl1 : 1 < st.held.length := by omega
  have hl2 : 2 < st.held.length := by omega
  have sl0 : 0 < st.shut.length := by omega
  have sl1 : 1 < st.shut.length := by omega
  have gl0 : 0 < st.groups.length := by omega
  simp only [S_split _ st.rs k hk, hr] at hn
  have hR := ri_of W b jobs hW hW2 hb hb2 (st.rs.eraseIdx k) (fun x hx => hI.li x (List.mem_of_mem_eraseIdx hx))
  obtain ⟨r0, r1, r2, r3, r4, r5, r6, r7, r8, r9, r10, r11, r12, r13, r14, r15, r16, r17, r18, r19, r20, r21, r22, r23, r24⟩ := hR
  rw [S_mul] at r5 r12
  rw [S_add] at r24
  simp only [c0, c1, c2, c3, ws, fs, ls, tok, sent, grp, pot, potC, potW, potF, fpast, lw, lpast, wpast, cpast, reg, F0, shutAt, heldAt, Int.reduceLE, Int.reduceLT, Int.reduceEq, ge_iff_le, Int.le_refl, ↓reduceIte, and_true, true_and, and_false, false_and, List.getElem?_cons_succ, List.getElem?_cons_zero, Option.getD_some, List.length_append, List.length_cons, List.length_nil, Nat.reduceEqDiff, Nat.reduceLT, Nat.zero_ne_one, Nat.one_ne_zero, Int.reduceToNat, gt_iff_lt, reduceCtorEq, if_true, if_false] at hn
  obtain ⟨h00, h01, h02, h03, h04, h05, h06, h07, h08, h09, h10, h11, h12, h13, h14, h15⟩ := hn
  skip
  have hA : act (poolSys W Q b jobs) st k ⟨2, 16, [x0, x1, x2, x3, x4, x5, x6, x7], false⟩ (insOf (poolSys W Q b jobs) ⟨2, 16, [x0, x1, x2, x3, x4, x5, x6, x7], false⟩) = ({ rs := st.rs.set k ⟨2, 9, [x0, x1, x2, x3, x4, x5, x6, x7], false⟩, held := st.held, shut := st.shut, groups := st.groups, cells := st.cells, ev := st.ev }, 0) := by
    simp [-List.getD_eq_getElem?_getD, act, insOf, poolSys, feedP, I, reg, setReg, heldAt, shutAt, set_self _ _ _ _ hk hr]
  rw [step_put _ _ _ _ ⟨2, 9, [x0, x1, x2, x3, x4, x5, x6, x7], false⟩ { rs := st.rs.set k ⟨2, 9, [x0, x1, x2, x3, x4, x5, x6, x7], false⟩, held := st.held, shut := st.shut, groups := st.groups, cells := st.cells, ev := st.ev } hk hr hA]
  have hadv : adv (poolSys W Q b jobs) ⟨2, 9, [x0, x1, x2, x3, x4, x5, x6, x7], false⟩ = ⟨2, 10, [x0, x1, x2, x3, x4, x5, x6, x7], false⟩ := by simp [-List.getD_eq_getElem?_getD, adv, len, poolSys, feedP]
  rw [hadv]
  refine ⟨rfl, inv_next hI hk ⟨2, 10, [x0, x1, x2, x3, x4, x5, x6, x7], false⟩ ?_ _ _ _ _ ?_ ?_ ?_ ?_ ?_⟩
  case refine_1 =>
    refine ⟨rfl, by simp, by simp, by simp [-List.getD_eq_getElem?_getD, plen], by simp [-List.getD_eq_getElem?_getD, plen], ?_, ?_⟩
    · simp [-List.getD_eq_getElem?_getD, condC, reg] <;> omega
    · simp [-List.getD_eq_getElem?_getD, condF, reg] <;> omega
  case refine_6 =>
    constructor <;> (try simp only [c0, c1, c2, c3, ws, fs, ls, tok, sent, grp, pot, potC, potW, potF, fpast, lw, lpast, wpast, cpast, reg, F0, shutAt, heldAt, getD_set' _ _ _ _ _ hl0, getD_set' _ _ _ _ _ hl1, getD_set' _ _ _ _ _ hl2, getD_set' _ _ _ _ _ sl0, getD_set' _ _ _ _ _ sl1, getD_set' _ _ _ _ _ gl0, ge_iff_le, Int.le_refl, ↓reduceIte, and_true, true_and, and_false, false_and, List.getElem?_cons_succ, List.getElem?_cons_zero, Option.getD_some, List.length_append, List.length_cons, List.length_nil, Nat.reduceEqDiff, Nat.reduceLT, Nat.zero_ne_one, Nat.one_ne_zero, Int.reduceToNat, gt_iff_lt, reduceCtorEq, if_true, if_false]) <;> first | omega | assumption | exact ⟨fun h => by have := h08.1 h; omega, fun h => h08.2 (by omega)⟩ | exact ⟨fun h => by have := h09.1 h; omega, fun h => h09.2 (by omega)⟩ | (simp only [Int.le_refl, if_true]; omega) | (simp; omega)
  all_goals first | exact hI.hl | exact hI.shl | exact hI.gl | exact hI.cl | (simp [-List.getD_eq_getElem?_getD, hI.hl, hI.shl, hI.gl]; done) | (simpa using hI.cl)

theorem st_2_17 {W Q b jobs : Int} {st : St} (hI : Inv W Q b jobs st) (hW : 1 ≤ W) (hW2 : W ≤ 256) (hQ : 1 ≤ Q) (hb : 1 ≤ b) (hb2 : b ≤ 64) (hj : 0 ≤ jobs) (hj2 : jobs ≤ 1024) {k : Nat} (hk : k < st.rs.length) (x0 x1 x2 x3 x4 x5 x6 x7 : Int)
    (hr : st.rs.getD k default = ⟨2, 17, [x0, x1, x2, x3, x4, x5, x6, x7], false⟩) (hL : LI W b jobs ⟨2, 17, [x0, x1, x2, x3, x4, x5, x6, x7], false⟩)  :
    (step (poolSys W Q b jobs) st k).2 = 0 ∧ Inv W Q b jobs (step (poolSys W Q b jobs) st k).1 := by
  obtain ⟨l8, -, -, -, -, hC, hF⟩ := hL
  simp [-List.getD_eq_getElem?_getD, condC, condF, reg] at hC hF
  have hn := hI.n
  have hl := hI.hl
  have shl := hI.shl
  have gl := hI.gl
  have hl0 : 0 < st.held.length := by omega
  have hl1 : 1 < st.held.length := by omega
  have hl2 : 2 < st.held.length := by omega
  have sl0 : 0 < st.shut.length := by omega
  have sl1 : 1 < st.shut.length := by omega
  have gl0 : 0 < st.groups.length := by omega
  simp only [S_split _ st.rs k hk, hr] at hn
  have hR := ri_of W b jobs hW hW2 hb hb2 (st.rs.eraseIdx k) (fun x hx => hI.li x (List.mem_of_mem_eraseIdx hx))
  obtain ⟨r0, r1, r2, r3, r4, r5, r6, r7, r8, r9, r10, r11, r12, r13, r14, r15, r16, r17, r18, r19, r20, r21, r22, r23, r24⟩ := hR
  rw [S_mul] at r5 r12
  rw [S_add] at r24
  simp only [c0, c1, c2, c3, ws, fs, ls, tok, sent, grp, pot, potC, potW, potF, fpast, lw, lpast, wpast, cpast, reg, F0, shutAt, heldAt, Int.reduceLE, Int.reduceLT, Int.reduceEq, ge_iff_le, Int.le_refl, ↓reduceIte, and_true, true_and, and_false, false_and, List.getElem?_cons_succ, List.getElem?_cons_zero, Option.getD_some, List.length_append, List.length_cons, List.length_nil, Nat.reduceEqDiff, Nat.reduceLT, Nat.zero_ne_one, Nat.one_ne_zero, Int.reduceToNat, gt_iff_lt, reduceCtorEq, if_true, if_false] at hn
  obtain ⟨h00, h01, h02, h03, h04, h05, h06, h07, h08, h09, h10, h11, h12, h13, h14, h15⟩ := hn
  have hsf : st.shut.getD 0 false = false := by
    cases h : st.shut.getD 0 false
    · rfl
    · exfalso
      have h' := h08.1 h
      omega
  have hA : act (poolSys W Q b jobs) st k ⟨2, 17, [x0, x1, x2, x3, x4, x5, x6, x7], false⟩ (insOf (poolSys W Q b jobs) ⟨2, 17, [x0, x1, x2, x3, x4, x5, x6, x7], false⟩) = ({ rs := st.rs.set k ⟨2, 17, [x0, x1, x2, x3, x4, x5, x6, x7], false⟩, held := st.held, shut := (st.shut.set 0 true), groups := st.groups, cells := st.cells, ev := st.ev }, 0) := by
    simp [-List.getD_eq_getElem?_getD, act, insOf, poolSys, feedP, I, reg, setReg, heldAt, shutAt, set_self _ _ _ _ hk hr, hsf]
  rw [step_put _ _ _ _ ⟨2, 17, [x0, x1, x2, x3, x4, x5, x6, x7], false⟩ { rs := st.rs.set k ⟨2, 17, [x0, x1, x2, x3, x4, x5, x6, x7], false⟩, held := st.held, shut := (st.shut.set 0 true), groups := st.groups, cells := st.cells, ev := st.ev } hk hr hA]
  have hadv : adv (poolSys W Q b jobs) ⟨2, 17, [x0, x1, x2, x3, x4, x5, x6, x7], false⟩ = ⟨2, 18, [x0, x1, x2, x3, x4, x5, x6, x7], false⟩ := by simp [-List.getD_eq_getElem?_getD, adv, len, poolSys, feedP]
  rw [hadv]
  refine ⟨rfl, inv_next hI hk ⟨2, 18, [x0, x1, x2, x3, x4, x5, x6, x7], false⟩ ?_ _ _ _ _ ?_ ?_ ?_ ?_ ?_⟩
  case refine_1 =>
    refine ⟨rfl, by simp, by simp, by simp [-List.getD_eq_getElem?_getD, plen], by simp [-List.getD_eq_getElem?_getD, plen], ?_, ?_⟩
    · simp [-List.getD_eq_getElem?_getD, condC, reg] <;> omega
    · simp [-List.getD_eq_getElem?_getD, condF, reg] <;> omega
  case refine_6 =>
    constructor <;> (try simp only [c0, c1, c2, c3, ws, fs, ls, tok, sent, grp, pot, potC, potW, potF, fpast, lw, lpast, wpast, cpast, reg, F0, shutAt, heldAt, getD_set' _ _ _ _ _ hl0, getD_set' _ _ _ _ _ hl1, getD_set' _ _ _ _ _ hl2, getD_set' _ _ _ _ _ sl0, getD_set' _ _ _ _ _ sl1, getD_set' _ _ _ _ _ gl0, ge_iff_le, Int.le_refl, ↓reduceIte, and_true, true_and, and_false, false_and, List.getElem?_cons_succ, List.getElem?_cons_zero, Option.getD_some, List.length_append, List.length_cons, List.length_nil, Nat.reduceEqDiff, Nat.reduceLT, Nat.zero_ne_one, Nat.one_ne_zero, Int.reduceToNat, gt_iff_lt, reduceCtorEq, if_true, if_false]) <;> first | omega | assumption | exact ⟨fun h => by have := h08.1 h; omega, fun h => h08.2 (by omega)⟩ | exact ⟨fun h => by have := h09.1 h; omega, fun h => h09.2 (by omega)⟩ | (simp only [Int.le_refl, if_true]; omega) | (simp; omega)
  all_goals first | exact hI.hl | exact hI.shl | exact hI.gl | exact hI.cl | (simp [-List.getD_eq_getElem?_getD, hI.hl, hI.shl, hI.gl]; done) | (simpa using hI.cl)

theorem st_2_18 {W Q b jobs : Int} {st : St} (hI : Inv W Q b jobs st) (hW : 1 ≤ W) (hW2 : W ≤ 256) (hQ : 1 ≤ Q) (hb : 1 ≤ b) (hb2 : b ≤ 64) (hj : 0 ≤ jobs) (hj2 : jobs ≤ 1024) {k : Nat} (hk : k < st.rs.length) (x0 x1 x2 x3 x4 x5 x6 x7 : Int)
    (hr : st.rs.getD k default = ⟨2, 18, [x0, x1, x2, x3, x4, x5, x6, x7], false⟩) (hL : LI W b jobs ⟨2, 18, [x0, x1, x2, x3, x4, x5, x6, x7], false⟩)  :
    (step (poolSys W Q b jobs) st k).2 = 0 ∧ Inv W Q b jobs (step (poolSys W Q b jobs) st k).1 := by
  obtain ⟨l8, -, -, -, -, hC, hF⟩ := hL
  simp [-List.getD_eq_getElem?_getD, condC, condF, reg] at hC hF
  have hn := hI.n
  have hl := hI.hl
  have shl := hI.shl
  have gl := hI.gl
  have hl0 : 0 < st.held.length := by omega
  have hl1 : 1 < st.held.length := by omega
  have hl2 : 2 < st.held.length := by omega
  have sl0 : 0 < st.shut.length := by omega
  have sl1 : 1 < st.shut.length := by omega
  have gl0 : 0 < st.groups.length := by omega
  simp only [S_split _ st.rs k hk, hr] at hn
  have hR := ri_of W b jobs hW hW2 hb hb2 (st.rs.eraseIdx k) (fun x hx => hI.li x (List.mem_of_mem_eraseIdx hx))
  obtain ⟨r0, r1, r2, r3, r4, r5, r6, r7, r8, r9, r10, r11, r12, r13, r14, r15, r16, r17, r18, r19, r20, r21, r22, r23, r24⟩ := hR
  rw [S_mul] at r5 r12
  rw [S_add] at r24
  simp only [c0, c1, c2, c3, ws, fs, ls, tok, sent, grp, pot, potC, potW, potF, fpast, lw, lpast, wpast, cpast, reg, F0, shutAt, heldAt, Int.reduceLE, Int.reduceLT, Int.reduceEq, ge_iff_le, Int.le_refl, ↓reduceIte, and_true, true_and, and_false, false_and, List.getElem?_cons_succ, List.getElem?_cons_zero, Option.getD_some, List.length_append, List.length_cons, List.length_nil, Nat.reduceEqDiff, Nat.reduceLT, Nat.zero_ne_one, Nat.one_ne_zero, Int.reduceToNat, gt_iff_lt, reduceCtorEq, if_true, if_false] at hn
  obtain ⟨h00, h01, h02, h03, h04, h05, h06, h07, h08, h09, h10, h11, h12, h13, h14, h15⟩ := hn
  skip
  have hA : act (poolSys W Q b jobs) st k ⟨2, 18, [x0, x1, x2, x3, x4, x5, x6, x7], false⟩ (insOf (poolSys W Q b jobs) ⟨2, 18, [x0, x1, x2, x3, x4, x5, x6, x7], false⟩) = ({ rs := st.rs.set k ⟨2, 18, [x0, x1, x2, x3, x4, x5, x6, x7], true⟩, held := st.held, shut := st.shut, groups := st.groups, cells := st.cells, ev := st.ev }, 0) := by
    simp [-List.getD_eq_getElem?_getD, act, insOf, poolSys, feedP, I, reg, setReg, heldAt, shutAt, set_self _ _ _ _ hk hr]
  rw [step_put _ _ _ _ ⟨2, 18, [x0, x1, x2, x3, x4, x5, x6, x7], true⟩ { rs := st.rs.set k ⟨2, 18, [x0, x1, x2, x3, x4, x5, x6, x7], true⟩, held := st.held, shut := st.shut, groups := st.groups, cells := st.cells, ev := st.ev } hk hr hA]
  have hadv : adv (poolSys W Q b jobs) ⟨2, 18, [x0, x1, x2, x3, x4, x5, x6, x7], true⟩ = ⟨2, 19, [x0, x1, x2, x3, x4, x5, x6, x7], true⟩ := by simp [-List.getD_eq_getElem?_getD, adv, len, poolSys, feedP]
  rw [hadv]
  refine ⟨rfl, inv_next hI hk ⟨2, 19, [x0, x1, x2, x3, x4, x5, x6, x7], true⟩ ?_ _ _ _ _ ?_ ?_ ?_ ?_ ?_⟩
  case refine_1 =>
    refine ⟨rfl, by simp, by simp, by simp [-List.getD_eq_getElem?_getD, plen], by simp [-List.getD_eq_getElem?_getD, plen], ?_, ?_⟩
    · simp [-List.getD_eq_getElem?_getD, condC, reg] <;> omega
    · simp [-List.getD_eq_getElem?_getD, condF, reg] <;> omega
  case refine_6 =>
    constructor <;> (try simp only [c0, c1, c2, c3, ws, fs, ls, tok, sent, grp, pot, potC, potW, potF, fpast, lw, lpast, wpast, cpast, reg, F0, shutAt, heldAt, getD_set' _ _ _ _ _ hl0, getD_set' _ _ _ _ _ hl1, getD_set' _ _ _ _ _ hl2, getD_set' _ _ _ _ _ sl0, getD_set' _ _ _ _ _ sl1, getD_set' _ _ _ _ _ gl0, ge_iff_le, Int.le_refl, ↓reduceIte, and_true, true_and, and_false, false_and, List.getElem?_cons_succ, List.getElem?_cons_zero, Option.getD_some, List.length_append, List.length_cons, List.length_nil, Nat.reduceEqDiff, Nat.reduceLT, Nat.zero_ne_one, Nat.one_ne_zero, Int.reduceToNat, gt_iff_lt, reduceCtorEq, if_true, if_false]) <;> first | omega | assumption | exact ⟨fun h => by have := h08.1 h; omega, fun h => h08.2 (by omega)⟩ | exact ⟨fun h => by have := h09.1 h; omega, fun h => h09.2 (by omega)⟩ | (simp only [Int.le_refl, if_true]; omega) | (simp; omega)
  all_goals first | exact hI.hl | exact hI.shl | exact hI.gl | exact hI.cl | (simp [-List.getD_eq_getElem?_getD, hI.hl, hI.shl, hI.gl]; done) | (simpa using hI.cl)

theorem st_3_0 {W Q b jobs : Int} {st : St} (hI : Inv W Q b jobs st) (hW : 1 ≤ W) (hW2 : W ≤ 256) (hQ : 1 ≤ Q) (hb : 1 ≤ b) (hb2 : b ≤ 64) (hj : 0 ≤ jobs) (hj2 : jobs ≤ 1024) {k : Nat} (hk : k < st.rs.length) (x0 x1 x2 x3 x4 x5 x6 x7 : Int)
    (hr : st.rs.getD k default = ⟨3, 0, [x0, x1, x2, x3, x4, x5, x6, x7], false⟩) (hL : LI W b jobs ⟨3, 0, [x0, x1, x2, x3, x4, x5, x6, x7], false⟩) (hg : st.groups.getD 0 0 = 0) :
    (step (poolSys W Q b jobs) st k).2 = 0 ∧ Inv W Q b jobs (step (poolSys W Q b jobs) st k).1 := by
  obtain ⟨l8, -, -, -, -, hC, hF⟩ := hL
  simp [-List.getD_eq_getElem?_getD, condC, condF, reg] at hC hF
  have hn := hI.n
  have hl := hI.hl
  have shl := hI.shl
  have gl := hI.gl
  have hl0 : 0 < st.held.length := by omega
  have hl1 : 1 < st.held.length := by omega
  have hl2 : 2 < st.held.length := by omega
  have sl0 : 0 < st.shut.length := by omega
  have sl1 : 1 < st.shut.length := by omega
  have gl0 : 0 < st.groups.length := by omega
  simp only [S_split _ st.rs k hk, hr] at hn
  have hR := ri_of W b jobs hW hW2 hb hb2 (st.rs.eraseIdx k) (fun x hx => hI.li x (List.mem_of_mem_eraseIdx hx))
  obtain ⟨r0, r1, r2, r3, r4, r5, r6, r7, r8, r9, r10, r11, r12, r13, r14, r15, r16, r17, r18, r19, r20, r21, r22, r23, r24⟩ := hR
  rw [S_mul] at r5 r12
  rw [S_add] at r24
  simp only [c0, c1, c2, c3, ws, fs, ls, tok, sent, grp, pot, potC, potW, potF, fpast, lw, lpast, wpast, cpast, reg, F0, shutAt, heldAt, Int.reduceLE, Int.reduceLT, Int.reduceEq, ge_iff_le, Int.le_refl, ↓reduceIte, and_true, true_and, and_false, false_and, List.getElem?_cons_succ, List.getElem?_cons_zero, Option.getD_some, List.length_append, List.length_cons, List.length_nil, Nat.reduceEqDiff, Nat.reduceLT, Nat.zero_ne_one, Nat.one_ne_zero, Int.reduceToNat, gt_iff_lt, reduceCtorEq, if_true, if_false] at hn
  obtain ⟨h00, h01, h02, h03, h04, h05, h06, h07, h08, h09, h10, h11, h12, h13, h14, h15⟩ := hn
  skip
  have hA : act (poolSys W Q b jobs) st k ⟨3, 0, [x0, x1, x2, x3, x4, x5, x6, x7], false⟩ (insOf (poolSys W Q b jobs) ⟨3, 0, [x0, x1, x2, x3, x4, x5, x6, x7], false⟩) = ({ rs := st.rs.set k ⟨3, 0, [x0, x1, x2, x3, x4, x5, x6, x7], false⟩, held := st.held, shut := st.shut, groups := st.groups, cells := st.cells, ev := st.ev }, 0) := by
    simp [-List.getD_eq_getElem?_getD, act, insOf, poolSys, closP, I, reg, setReg, heldAt, shutAt, set_self _ _ _ _ hk hr]
  rw [step_put _ _ _ _ ⟨3, 0, [x0, x1, x2, x3, x4, x5, x6, x7], false⟩ { rs := st.rs.set k ⟨3, 0, [x0, x1, x2, x3, x4, x5, x6, x7], false⟩, held := st.held, shut := st.shut, groups := st.groups, cells := st.cells, ev := st.ev } hk hr hA]
  have hadv : adv (poolSys W Q b jobs) ⟨3, 0, [x0, x1, x2, x3, x4, x5, x6, x7], false⟩ = ⟨3, 1, [x0, x1, x2, x3, x4, x5, x6, x7], false⟩ := by simp [-List.getD_eq_getElem?_getD, adv, len, poolSys, closP]
  rw [hadv]
  refine ⟨rfl, inv_next hI hk ⟨3, 1, [x0, x1, x2, x3, x4, x5, x6, x7], false⟩ ?_ _ _ _ _ ?_ ?_ ?_ ?_ ?_⟩
  case refine_1 =>
    refine ⟨rfl, by simp, by simp, by simp [-List.getD_eq_getElem?_getD, plen], by simp [-List.getD_eq_getElem?_getD, plen], ?_, ?_⟩
    · simp [-List.getD_eq_getElem?_getD, condC, reg] <;> omega
    · simp [-List.getD_eq_getElem?_getD, condF, reg] <;> omega
  case refine_6 =>
    constructor <;> (try simp only [c0, c1, c2, c3, ws, fs, ls, tok, sent, grp, pot, potC, potW, potF, fpast, lw, lpast, wpast, cpast, reg, F0, shutAt, heldAt, getD_set' _ _ _ _ _ hl0, getD_set' _ _ _ _ _ hl1, getD_set' _ _ _ _ _ hl2, getD_set' _ _ _ _ _ sl0, getD_set' _ _ _ _ _ sl1, getD_set' _ _ _ _ _ gl0, ge_iff_le, Int.le_refl, ↓reduceIte, and_true, true_and, and_false, false_and, List.getElem?_cons_succ, List.getElem?_cons_zero, Option.getD_some, List.length_append, List.length_cons, List.length_nil, Nat.reduceEqDiff, Nat.reduceLT, Nat.zero_ne_one, Nat.one_ne_zero, Int.reduceToNat, gt_iff_lt, reduceCtorEq, if_true, if_false]) <;> first | omega | assumption | exact ⟨fun h => by have := h08.1 h; omega, fun h => h08.2 (by omega)⟩ | exact ⟨fun h => by have := h09.1 h; omega, fun h => h09.2 (by omega)⟩ | (simp only [Int.le_refl, if_true]; omega) | (simp; omega)
  all_goals first | exact hI.hl | exact hI.shl | exact hI.gl | exact hI.cl | (simp [-List.getD_eq_getElem?_getD, hI.hl, hI.shl, hI.gl]; done) | (simpa using hI.cl)

theorem st_3_1 {W Q b jobs : Int} {st : St} (hI : Inv W Q b jobs st) (hW : 1 ≤ W) (hW2 : W ≤ 256) (hQ : 1 ≤ Q) (hb : 1 ≤ b) (hb2 : b ≤ 64) (hj : 0 ≤ jobs) (hj2 : jobs ≤ 1024) {k : Nat} (hk : k < st.rs.length) (x0 x1 x2 x3 x4 x5 x6 x7 : Int)
    (hr : st.rs.getD k default = ⟨3, 1, [x0, x1, x2, x3, x4, x5, x6, x7], false⟩) (hL : LI W b jobs ⟨3, 1, [x0, x1, x2, x3, x4, x5, x6, x7], false⟩)  :
    (step (poolSys W Q b jobs) st k).2 = 0 ∧ Inv W Q b jobs (step (poolSys W Q b jobs) st k).1 := by
  obtain ⟨l8, -, -, -, -, hC, hF⟩ := hL
  simp [-List.getD_eq_getElem?_getD, condC, condF, reg] at hC hF
  have hn := hI.n
  have hl := hI.hl
  have shl := hI.shl
  have gl := hI.gl
  have hl0 : 0 < st.held.length := by omega
  have hl1 : 1 < st.held.length := by omega
  have hl2 : 2 < st.held.length := by omega
  have sl0 : 0 < st.shut.length := by omega
  have sl1 : 1 < st.shut.length := by omega
  have gl0 : 0 < st.groups.length := by omega
  simp only [S_split _ st.rs k hk, hr] at hn
  have hR := ri_of W b jobs hW hW2 hb hb2 (st.rs.eraseIdx k) (fun x hx => hI.li x (List.mem_of_mem_eraseIdx hx))
  obtain ⟨r0, r1, r2, r3, r4, r5, r6, r7, r8, r9, r10, r11, r12, r13, r14, r15, r16, r17, r18, r19, r20, r21, r22, r23, r24⟩ := hR
  rw [S_mul] at r5 r12
  rw [S_add] at r24
  simp only [c0, c1, c2, c3, ws, fs, ls, tok, sent, grp, pot, potC, potW, potF, fpast, lw, lpast, wpast, cpast, reg, F0, shutAt, heldAt, Int.reduceLE, Int.reduceLT, Int.reduceEq, ge_iff_le, Int.le_refl, ↓reduceIte, and_true, true_and, and_false, false_and, List.getElem?_cons_succ, List.getElem?_cons_zero, Option.getD_some, List.length_append, List.length_cons, List.length_nil, Nat.reduceEqDiff, Nat.reduceLT, Nat.zero_ne_one, Nat.one_ne_zero, Int.reduceToNat, gt_iff_lt, reduceCtorEq, if_true, if_false] at hn
  obtain ⟨h00, h01, h02, h03, h04, h05, h06, h07, h08, h09, h10, h11, h12, h13, h14, h15⟩ := hn
  have hsf : st.shut.getD 1 false = false := by
    cases h : st.shut.getD 1 false
    · rfl
    · exfalso
      have h' := h09.1 h
      omega
  have hA : act (poolSys W Q b jobs) st k ⟨3, 1, [x0, x1, x2, x3, x4, x5, x6, x7], false⟩ (insOf (poolSys W Q b jobs) ⟨3, 1, [x0, x1, x2, x3, x4, x5, x6, x7], false⟩) = ({ rs := st.rs.set k ⟨3, 1, [x0, x1, x2, x3, x4, x5, x6, x7], false⟩, held := st.held, shut := (st.shut.set 1 true), groups := st.groups, cells := st.cells, ev := st.ev }, 0) := by
    simp [-List.getD_eq_getElem?_getD, act, insOf, poolSys, closP, I, reg, setReg, heldAt, shutAt, set_self _ _ _ _ hk hr, hsf]
  rw [step_put _ _ _ _ ⟨3, 1, [x0, x1, x2, x3, x4, x5, x6, x7], false⟩ { rs := st.rs.set k ⟨3, 1, [x0, x1, x2, x3, x4, x5, x6, x7], false⟩, held := st.held, shut := (st.shut.set 1 true), groups := st.groups, cells := st.cells, ev := st.ev } hk hr hA]
  have hadv : adv (poolSys W Q b jobs) ⟨3, 1, [x0, x1, x2, x3, x4, x5, x6, x7], false⟩ = ⟨3, 2, [x0, x1, x2, x3, x4, x5, x6, x7], false⟩ := by simp [-List.getD_eq_getElem?_getD, adv, len, poolSys, closP]
  rw [hadv]
  refine ⟨rfl, inv_next hI hk ⟨3, 2, [x0, x1, x2, x3, x4, x5, x6, x7], false⟩ ?_ _ _ _ _ ?_ ?_ ?_ ?_ ?_⟩
  case refine_1 =>
    refine ⟨rfl, by simp, by simp, by simp [-List.getD_eq_getElem?_getD, plen], by simp [-List.getD_eq_getElem?_getD, plen], ?_, ?_⟩
    · simp [-List.getD_eq_getElem?_getD, condC, reg] <;> omega
    · simp [-List.getD_eq_getElem?_getD, condF, reg] <;> omega
  case refine_6 =>
    constructor <;> (try simp only [c0, c1, c2, c3, ws, fs, ls, tok, sent, grp, pot, potC, potW, potF, fpast, lw, lpast, wpast, cpast, reg, F0, shutAt, heldAt, getD_set' _ _ _ _ _ hl0, getD_set' _ _ _ _ _ hl1, getD_set' _ _ _ _ _ hl2, getD_set' _ _ _ _ _ sl0, getD_set' _ _ _ _ _ sl1, getD_set' _ _ _ _ _ gl0, ge_iff_le, Int.le_refl, ↓reduceIte, and_true, true_and, and_false, false_and, List.getElem?_cons_succ, List.getElem?_cons_zero, Option.getD_some, List.length_append, List.length_cons, List.length_nil, Nat.reduceEqDiff, Nat.reduceLT, Nat.zero_ne_one, Nat.one_ne_zero, Int.reduceToNat, gt_iff_lt, reduceCtorEq, if_true, if_false]) <;> first | omega | assumption | exact ⟨fun h => by have := h08.1 h; omega, fun h => h08.2 (by omega)⟩ | exact ⟨fun h => by have := h09.1 h; omega, fun h => h09.2 (by omega)⟩ | (simp only [Int.le_refl, if_true]; omega) | (simp; omega)
  all_goals first | exact hI.hl | exact hI.shl | exact hI.gl | exact hI.cl | (simp [-List.getD_eq_getElem?_getD, hI.hl, hI.shl, hI.gl]; done) | (simpa using hI.cl)

theorem st_3_2 {W Q b jobs : Int} {st : St} (hI : Inv W Q b jobs st) (hW : 1 ≤ W) (hW2 : W ≤ 256) (hQ : 1 ≤ Q) (hb : 1 ≤ b) (hb2 : b ≤ 64) (hj : 0 ≤ jobs) (hj2 : jobs ≤ 1024) {k : Nat} (hk : k < st.rs.length) (x0 x1 x2 x3 x4 x5 x6 x7 : Int)
    (hr : st.rs.getD k default = ⟨3, 2, [x0, x1, x2, x3, x4, x5, x6, x7], false⟩) (hL : LI W b jobs ⟨3, 2, [x0, x1, x2, x3, x4, x5, x6, x7], false⟩)  :
    (step (poolSys W Q b jobs) st k).2 = 0 ∧ Inv W Q b jobs (step (poolSys W Q b jobs) st k).1 := by
  obtain ⟨l8, -, -, -, -, hC, hF⟩ := hL
  simp [-List.getD_eq_getElem?_getD, condC, condF, reg] at hC hF
  have hn := hI.n
  have hl := hI.hl
  have shl := hI.shl
  have gl := hI.gl
  have hl0 : 0 < st.held.length := by omega
  have hl1 : 1 < st.held.length := by omega
  have hl2 : 2 < st.held.length := by omega
  have sl0 : 0 < st.shut.length := by omega
  have sl1 : 1 < st.shut.length := by omega
  have gl0 : 0 < st.groups.length := by omega
  simp only [S_split _ st.rs k hk, hr] at hn
  have hR := ri_of W b jobs hW hW2 hb hb2 (st.rs.eraseIdx k) (fun x hx => hI.li x (List.mem_of_mem_eraseIdx hx))
  obtain ⟨r0, r1, r2, r3, r4, r5, r6, r7, r8, r9, r10, r11, r12, r13, r14, r15, r16, r17, r18, r19, r20, r21, r22, r23, r24⟩ := hR
  rw [S_mul] at r5 r12
  rw [S_add] at r24
  simp only [c0, c1, c2, c3, ws, fs, ls, tok, sent, grp, pot, potC, potW, potF, fpast, lw, lpast, wpast, cpast, reg, F0, shutAt, heldAt, Int.reduceLE, Int.reduceLT, Int.reduceEq, ge_iff_le, Int.le_refl, ↓reduceIte, and_true, true_and, and_false, false_and, List.getElem?_cons_succ, List.getElem?_cons_zero, Option.getD_some, List.length_append, List.length_cons, List.length_nil, Nat.reduceEqDiff, Nat.reduceLT, Nat.zero_ne_one, Nat.one_ne_zero, Int.reduceToNat, gt_iff_lt, reduceCtorEq, if_true, if_false] at hn
  obtain ⟨h00, h01, h02, h03, h04, h05, h06, h07, h08, h09, h10, h11, h12, h13, h14, h15⟩ := hn
  skip
  have hA : act (poolSys W Q b jobs) st k ⟨3, 2, [x0, x1, x2, x3, x4, x5, x6, x7], false⟩ (insOf (poolSys W Q b jobs) ⟨3, 2, [x0, x1, x2, x3, x4, x5, x6, x7], false⟩) = ({ rs := st.rs.set k ⟨3, 2, [x0, x1, x2, x3, x4, x5, x6, x7], true⟩, held := st.held, shut := st.shut, groups := st.groups, cells := st.cells, ev := st.ev }, 0) := by
    simp [-List.getD_eq_getElem?_getD, act, insOf, poolSys, closP, I, reg, setReg, heldAt, shutAt, set_self _ _ _ _ hk hr]
  rw [step_put _ _ _ _ ⟨3, 2, [x0, x1, x2, x3, x4, x5, x6, x7], true⟩ { rs := st.rs.set k ⟨3, 2, [x0, x1, x2, x3, x4, x5, x6, x7], true⟩, held := st.held, shut := st.shut, groups := st.groups, cells := st.cells, ev := st.ev } hk hr hA]
  have hadv : adv (poolSys W Q b jobs) ⟨3, 2, [x0, x1, x2, x3, x4, x5, x6, x7], true⟩ = ⟨3, 3, [x0, x1, x2, x3, x4, x5, x6, x7], true⟩ := by simp [-List.getD_eq_getElem?_getD, adv, len, poolSys, closP]
  rw [hadv]
  refine ⟨rfl, inv_next hI hk ⟨3, 3, [x0, x1, x2, x3, x4, x5, x6, x7], true⟩ ?_ _ _ _ _ ?_ ?_ ?_ ?_ ?_⟩
  case refine_1 =>
    refine ⟨rfl, by simp, by simp, by simp [-List.getD_eq_getElem?_getD, plen], by simp [-List.getD_eq_getElem?_getD, plen], ?_, ?_⟩
    · simp [-List.getD_eq_getElem?_getD, condC, reg] <;> omega
    · simp [-List.getD_eq_getElem?_getD, condF, reg] <;> omega
  case refine_6 =>
    constructor <;> (try simp only [c0, c1, c2, c3, ws, fs, ls, tok, sent, grp, pot, potC, potW, potF, fpast, lw, lpast, wpast, cpast, reg, F0, shutAt, heldAt, getD_set' _ _ _ _ _ hl0, getD_set' _ _ _ _ _ hl1, getD_set' _ _ _ _ _ hl2, getD_set' _ _ _ _ _ sl0, getD_set' _ _ _ _ _ sl1, getD_set' _ _ _ _ _ gl0, ge_iff_le, Int.le_refl, ↓reduceIte, and_true, true_and, and_false, false_and, List.getElem?_cons_succ, List.getElem?_cons_zero, Option.getD_some, List.length_append, List.length_cons, List.length_nil, Nat.reduceEqDiff, Nat.reduceLT, Nat.zero_ne_one, Nat.one_ne_zero, Int.reduceToNat, gt_iff_lt, reduceCtorEq, if_true, if_false]) <;> first | omega | assumption | exact ⟨fun h => by have := h08.1 h; omega, fun h => h08.2 (by omega)⟩ | exact ⟨fun h => by have := h09.1 h; omega, fun h => h09.2 (by omega)⟩ | (simp only [Int.le_refl, if_true]; omega) | (simp; omega)
  all_goals first | exact hI.hl | exact hI.shl | exact hI.gl | exact hI.cl | (simp [-List.getD_eq_getElem?_getD, hI.hl, hI.shl, hI.gl]; done) | (simpa using hI.cl)

theorem st_0_6 {W Q b jobs : Int} {st : St} (hI : Inv W Q b jobs st) (hW : 1 ≤ W) (hW2 : W ≤ 256) (hb : 1 ≤ b) (hb2 : b ≤ 64) (hj : 0 ≤ jobs) (hj2 : jobs ≤ 1024) {k : Nat} (hk : k < st.rs.length) (x0 x1 x2 x3 x4 x5 x6 x7 : Int)
    (hr : st.rs.getD k default = ⟨0, 6, [x0, x1, x2, x3, x4, x5, x6, x7], false⟩) (hL : LI W b jobs ⟨0, 6, [x0, x1, x2, x3, x4, x5, x6, x7], false⟩) :
    (step (poolSys W Q b jobs) st k).2 = 0 ∧ Inv W Q b jobs (step (poolSys W Q b jobs) st k).1 := by
  obtain ⟨l8, -, -, -, -, hC, hF⟩ := hL
  simp [-List.getD_eq_getElem?_getD, condC, condF, reg] at hC hF
  have hn := hI.n
  have hl := hI.hl
  have shl := hI.shl
  have gl := hI.gl
  simp only [S_split _ st.rs k hk, hr] at hn
  have hR := ri_of W b jobs hW hW2 hb hb2 (st.rs.eraseIdx k) (fun x hx => hI.li x (List.mem_of_mem_eraseIdx hx))
  obtain ⟨r0, r1, r2, r3, r4, r5, r6, r7, r8, r9, r10, r11, r12, r13, r14, r15, r16, r17, r18, r19, r20, r21, r22, r23, r24⟩ := hR
  rw [S_mul] at r5 r12
  rw [S_add] at r24
  simp only [c0, c1, c2, c3, ws, fs, ls, tok, sent, grp, pot, potC, potW, potF, fpast, lw, lpast, wpast, cpast, reg, F0, shutAt, heldAt, Int.reduceLE, Int.reduceLT, Int.reduceEq, ge_iff_le, Int.le_refl, ↓reduceIte, and_true, true_and, and_false, false_and, List.getElem?_cons_succ, List.getElem?_cons_zero, Option.getD_some, List.length_append, List.length_cons, List.length_nil, Nat.reduceEqDiff, Nat.reduceLT, Nat.zero_ne_one, Nat.one_ne_zero, Int.reduceToNat, gt_iff_lt, reduceCtorEq, if_true, if_false] at hn
  obtain ⟨h00, h01, h02, h03, h04, h05, h06, h07, h08, h09, h10, h11, h12, h13, h14, h15⟩ := hn
  have hlen : ¬ 512 ≤ st.rs.length := by omega
  have hA : act (poolSys W Q b jobs) st k ⟨0, 6, [x0, x1, x2, x3, x4, x5, x6, x7], false⟩ (insOf (poolSys W Q b jobs) ⟨0, 6, [x0, x1, x2, x3, x4, x5, x6, x7], false⟩) = ({ st with rs := st.rs ++ [⟨1, 0, [x0, x1, x2, x3, x4, x5, x6, x7], false⟩] }, 0) := by
    simp [-List.getD_eq_getElem?_getD, act, insOf, poolSys, combP, workP, I, reg, setReg, heldAt, shutAt, hlen]
  rw [step_start _ _ _ _ ⟨1, 0, [x0, x1, x2, x3, x4, x5, x6, x7], false⟩ hk hr hA]
  have hadv : adv (poolSys W Q b jobs) ⟨0, 6, [x0, x1, x2, x3, x4, x5, x6, x7], false⟩ = ⟨0, 7, [x0, x1, x2, x3, x4, x5, x6, x7], false⟩ := by simp [adv, len, poolSys, combP]
  rw [hadv]
  refine ⟨rfl, inv_start hI hk ⟨0, 7, [x0, x1, x2, x3, x4, x5, x6, x7], false⟩ ⟨1, 0, [x0, x1, x2, x3, x4, x5, x6, x7], false⟩ ?_ ?_ ?_⟩
  case refine_1 =>
    refine ⟨rfl, by simp, by simp, by simp [plen], by simp [plen], ?_, ?_⟩
    · simp [condC, reg] <;> omega
    · simp [condF, reg] <;> omega
  case refine_2 =>
    refine ⟨rfl, by simp, by simp, by simp [plen], by simp [plen], ?_, ?_⟩
    · simp [condC, reg] <;> omega
    · simp [condF, reg] <;> omega
  case refine_3 =>
    constructor <;> (try simp only [c0, c1, c2, c3, ws, fs, ls, tok, sent, grp, pot, potC, potW, potF, fpast, lw, lpast, wpast, cpast, reg, F0, shutAt, heldAt, Int.reduceLE, Int.reduceLT, Int.reduceEq, ge_iff_le, Int.le_refl, ↓reduceIte, and_true, true_and, and_false, false_and, List.getElem?_cons_succ, List.getElem?_cons_zero, Option.getD_some, List.length_append, List.length_cons, List.length_nil, Nat.reduceEqDiff, Nat.reduceLT, Nat.zero_ne_one, Nat.one_ne_zero, Int.reduceToNat, gt_iff_lt, reduceCtorEq, if_true, if_false]) <;> first | omega | assumption | exact ⟨fun h => by have := h08.1 h; omega, fun h => h08.2 (by omega)⟩ | exact ⟨fun h => by have := h09.1 h; omega, fun h => h09.2 (by omega)⟩ | (simp only [Int.le_refl, if_true]; omega) | (simp; omega)

theorem st_0_9 {W Q b jobs : Int} {st : St} (hI : Inv W Q b jobs st) (hW : 1 ≤ W) (hW2 : W ≤ 256) (hb : 1 ≤ b) (hb2 : b ≤ 64) (hj : 0 ≤ jobs) (hj2 : jobs ≤ 1024) {k : Nat} (hk : k < st.rs.length) (x0 x1 x2 x3 x4 x5 x6 x7 : Int)
    (hr : st.rs.getD k default = ⟨0, 9, [x0, x1, x2, x3, x4, x5, x6, x7], false⟩) (hL : LI W b jobs ⟨0, 9, [x0, x1, x2, x3, x4, x5, x6, x7], false⟩) :
    (step (poolSys W Q b jobs) st k).2 = 0 ∧ Inv W Q b jobs (step (poolSys W Q b jobs) st k).1 := by
  obtain ⟨l8, -, -, -, -, hC, hF⟩ := hL
  simp [-List.getD_eq_getElem?_getD, condC, condF, reg] at hC hF
  have hn := hI.n
  have hl := hI.hl
  have shl := hI.shl
  have gl := hI.gl
  simp only [S_split _ st.rs k hk, hr] at hn
  have hR := ri_of W b jobs hW hW2 hb hb2 (st.rs.eraseIdx k) (fun x hx => hI.li x (List.mem_of_mem_eraseIdx hx))
  obtain ⟨r0, r1, r2, r3, r4, r5, r6, r7, r8, r9, r10, r11, r12, r13, r14, r15, r16, r17, r18, r19, r20, r21, r22, r23, r24⟩ := hR
  rw [S_mul] at r5 r12
  rw [S_add] at r24
  simp only [c0, c1, c2, c3, ws, fs, ls, tok, sent, grp, pot, potC, potW, potF, fpast, lw, lpast, wpast, cpast, reg, F0, shutAt, heldAt, Int.reduceLE, Int.reduceLT, Int.reduceEq, ge_iff_le, Int.le_refl, ↓reduceIte, and_true, true_and, and_false, false_and, List.getElem?_cons_succ, List.getElem?_cons_zero, Option.getD_some, List.length_append, List.length_cons, List.length_nil, Nat.reduceEqDiff, Nat.reduceLT, Nat.zero_ne_one, Nat.one_ne_zero, Int.reduceToNat, gt_iff_lt, reduceCtorEq, if_true, if_false] at hn
  obtain ⟨h00, h01, h02, h03, h04, h05, h06, h07, h08, h09, h10, h11, h12, h13, h14, h15⟩ := hn
  have hlen : ¬ 512 ≤ st.rs.length := by omega
  have hA : act (poolSys W Q b jobs) st k ⟨0, 9, [x0, x1, x2, x3, x4, x5, x6, x7], false⟩ (insOf (poolSys W Q b jobs) ⟨0, 9, [x0, x1, x2, x3, x4, x5, x6, x7], false⟩) = ({ st with rs := st.rs ++ [⟨2, 0, [x0, x1, x2, x3, x4, x5, x6, x7], false⟩] }, 0) := by
    simp [-List.getD_eq_getElem?_getD, act, insOf, poolSys, combP, feedP, I, reg, setReg, heldAt, shutAt, hlen]
  rw [step_start _ _ _ _ ⟨2, 0, [x0, x1, x2, x3, x4, x5, x6, x7], false⟩ hk hr hA]
  have hadv : adv (poolSys W Q b jobs) ⟨0, 9, [x0, x1, x2, x3, x4, x5, x6, x7], false⟩ = ⟨0, 10, [x0, x1, x2, x3, x4, x5, x6, x7], false⟩ := by simp [adv, len, poolSys, combP]
  rw [hadv]
  refine ⟨rfl, inv_start hI hk ⟨0, 10, [x0, x1, x2, x3, x4, x5, x6, x7], false⟩ ⟨2, 0, [x0, x1, x2, x3, x4, x5, x6, x7], false⟩ ?_ ?_ ?_⟩
  case refine_1 =>
    refine ⟨rfl, by simp, by simp, by simp [plen], by simp [plen], ?_, ?_⟩
    · simp [condC, reg] <;> omega
    · simp [condF, reg] <;> omega
  case refine_2 =>
    refine ⟨rfl, by simp, by simp, by simp [plen], by simp [plen], ?_, ?_⟩
    · simp [condC, reg] <;> omega
    · simp [condF, reg] <;> omega
  case refine_3 =>
    constructor <;> (try simp only [c0, c1, c2, c3, ws, fs, ls, tok, sent, grp, pot, potC, potW, potF, fpast, lw, lpast, wpast, cpast, reg, F0, shutAt, heldAt, Int.reduceLE, Int.reduceLT, Int.reduceEq, ge_iff_le, Int.le_refl, ↓reduceIte, and_true, true_and, and_false, false_and, List.getElem?_cons_succ, List.getElem?_cons_zero, Option.getD_some, List.length_append, List.length_cons, List.length_nil, Nat.reduceEqDiff, Nat.reduceLT, Nat.zero_ne_one, Nat.one_ne_zero, Int.reduceToNat, gt_iff_lt, reduceCtorEq, if_true, if_false]) <;> first | omega | assumption | exact ⟨fun h => by have := h08.1 h; omega, fun h => h08.2 (by omega)⟩ | exact ⟨fun h => by have := h09.1 h; omega, fun h => h09.2 (by omega)⟩ | (simp only [Int.le_refl, if_true]; omega) | (simp; omega)

theorem st_0_10 {W Q b jobs : Int} {st : St} (hI : Inv W Q b jobs st) (hW : 1 ≤ W) (hW2 : W ≤ 256) (hb : 1 ≤ b) (hb2 : b ≤ 64) (hj : 0 ≤ jobs) (hj2 : jobs ≤ 1024) {k : Nat} (hk : k < st.rs.length) (x0 x1 x2 x3 x4 x5 x6 x7 : Int)
    (hr : st.rs.getD k default = ⟨0, 10, [x0, x1, x2, x3, x4, x5, x6, x7], false⟩) (hL : LI W b jobs ⟨0, 10, [x0, x1, x2, x3, x4, x5, x6, x7], false⟩) :
    (step (poolSys W Q b jobs) st k).2 = 0 ∧ Inv W Q b jobs (step (poolSys W Q b jobs) st k).1 := by
  obtain ⟨l8, -, -, -, -, hC, hF⟩ := hL
  simp [-List.getD_eq_getElem?_getD, condC, condF, reg] at hC hF
  have hn := hI.n
  have hl := hI.hl
  have shl := hI.shl
  have gl := hI.gl
  simp only [S_split _ st.rs k hk, hr] at hn
  have hR := ri_of W b jobs hW hW2 hb hb2 (st.rs.eraseIdx k) (fun x hx => hI.li x (List.mem_of_mem_eraseIdx hx))
  obtain ⟨r0, r1, r2, r3, r4, r5, r6, r7, r8, r9, r10, r11, r12, r13, r14, r15, r16, r17, r18, r19, r20, r21, r22, r23, r24⟩ := hR
  rw [S_mul] at r5 r12
  rw [S_add] at r24
  simp only [c0, c1, c2, c3, ws, fs, ls, tok, sent, grp, pot, potC, potW, potF, fpast, lw, lpast, wpast, cpast, reg, F0, shutAt, heldAt, Int.reduceLE, Int.reduceLT, Int.reduceEq, ge_iff_le, Int.le_refl, ↓reduceIte, and_true, true_and, and_false, false_and, List.getElem?_cons_succ, List.getElem?_cons_zero, Option.getD_some, List.length_append, List.length_cons, List.length_nil, Nat.reduceEqDiff, Nat.reduceLT, Nat.zero_ne_one, Nat.one_ne_zero, Int.reduceToNat, gt_iff_lt, reduceCtorEq, if_true, if_false] at hn
  obtain ⟨h00, h01, h02, h03, h04, h05, h06, h07, h08, h09, h10, h11, h12, h13, h14, h15⟩ := hn
  have hlen : ¬ 512 ≤ st.rs.length := by omega
  have hA : act (poolSys W Q b jobs) st k ⟨0, 10, [x0, x1, x2, x3, x4, x5, x6, x7], false⟩ (insOf (poolSys W Q b jobs) ⟨0, 10, [x0, x1, x2, x3, x4, x5, x6, x7], false⟩) = ({ st with rs := st.rs ++ [⟨3, 0, [x0, x1, x2, x3, x4, x5, x6, x7], false⟩] }, 0) := by
    simp [-List.getD_eq_getElem?_getD, act, insOf, poolSys, combP, closP, I, reg, setReg, heldAt, shutAt, hlen]
  rw [step_start _ _ _ _ ⟨3, 0, [x0, x1, x2, x3, x4, x5, x6, x7], false⟩ hk hr hA]
  have hadv : adv (poolSys W Q b jobs) ⟨0, 10, [x0, x1, x2, x3, x4, x5, x6, x7], false⟩ = ⟨0, 11, [x0, x1, x2, x3, x4, x5, x6, x7], false⟩ := by simp [adv, len, poolSys, combP]
  rw [hadv]
  refine ⟨rfl, inv_start hI hk ⟨0, 11, [x0, x1, x2, x3, x4, x5, x6, x7], false⟩ ⟨3, 0, [x0, x1, x2, x3, x4, x5, x6, x7], false⟩ ?_ ?_ ?_⟩
  case refine_1 =>
    refine ⟨rfl, by simp, by simp, by simp [plen], by simp [plen], ?_, ?_⟩
    · simp [condC, reg] <;> omega
    · simp [condF, reg] <;> omega
  case refine_2 =>
    refine ⟨rfl, by simp, by simp, by simp [plen], by simp [plen], ?_, ?_⟩
    · simp [condC, reg] <;> omega
    · simp [condF, reg] <;> omega
  case refine_3 =>
    constructor <;> (try simp only [c0, c1, c2, c3, ws, fs, ls, tok, sent, grp, pot, potC, potW, potF, fpast, lw, lpast, wpast, cpast, reg, F0, shutAt, heldAt, Int.reduceLE, Int.reduceLT, Int.reduceEq, ge_iff_le, Int.le_refl, ↓reduceIte, and_true, true_and, and_false, false_and, List.getElem?_cons_succ, List.getElem?_cons_zero, Option.getD_some, List.length_append, List.length_cons, List.length_nil, Nat.reduceEqDiff, Nat.reduceLT, Nat.zero_ne_one, Nat.one_ne_zero, Int.reduceToNat, gt_iff_lt, reduceCtorEq, if_true, if_false]) <;> first | omega | assumption | exact ⟨fun h => by have := h08.1 h; omega, fun h => h08.2 (by omega)⟩ | exact ⟨fun h => by have := h09.1 h; omega, fun h => h09.2 (by omega)⟩ | (simp only [Int.le_refl, if_true]; omega) | (simp; omega)

end PoolQ
