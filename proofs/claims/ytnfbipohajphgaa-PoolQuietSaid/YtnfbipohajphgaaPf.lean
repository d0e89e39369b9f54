/- More of the pool's machine: its sizes, the count of events, who can go on (no program in sight). -/
import Derived.Test.YtnfbipohajphgaaPe
set_option linter.unusedVariables false
set_option linter.unusedSimpArgs false
namespace PoolQ

structure Par (W Q b jobs : Int) : Prop where
  W : 1 ≤ W ∧ W ≤ 256
  Q : 1 ≤ Q ∧ Q ≤ 1024
  b : 1 ≤ b ∧ b ≤ 64
  j : 0 ≤ jobs ∧ jobs ≤ 1024

theorem sizes {W Q b jobs : Int} {st : St} (hP : Par W Q b jobs) (hI : Inv W Q b jobs st) :
    st.rs.length ≤ 300 ∧ 0 < st.rs.length ∧ st.ev < 40000 ∧ (heldAt st 0).length ≤ 1024 ∧ (heldAt st 1).length ≤ 1024 ∧ (heldAt st 2).length ≤ 1024 ∧ 0 ≤ st.groups.getD 0 0 ∧ st.groups.getD 0 0 ≤ 600 := by
  have hR := ri_of W b jobs hP.W.1 hP.W.2 hP.b.1 hP.b.2 st.rs hI.li
  obtain ⟨r0, r1, r2, r3, r4, r5, r6, r7, r8, r9, r10, r11, r12, r13, r14, r15, r16, r17, r18, r19, r20, r21, r22, r23, r24⟩ := hR
  rw [S_mul] at r5 r12
  rw [S_add] at r24
  obtain ⟨g0, g1, g2, g3, gs, gt, gg, gp, s0, s1, s2, g6, g7, g8, q0, q1⟩ := hI.n
  have he := ev_le hI hP.W.1 hP.b.1 hP.j.1
  unfold bound at he
  have := hP.W
  have := hP.Q
  have := hP.b
  have := hP.j
  refine ⟨by omega, by omega, by omega, by omega, by omega, by omega, by omega, by omega⟩

theorem act_ev (S : Psys) (st : St) (k : Nat) (r : Rn) (i : Ins) : (act S st k r i).1.ev = st.ev := by
  unfold act
  dsimp only
  by_cases e5 : i.op = 5
  · rw [if_pos e5]; split <;> rfl
  rw [if_neg e5]
  by_cases e6 : i.op = 6
  · rw [if_pos e6]; split <;> rfl
  rw [if_neg e6]
  by_cases e7 : i.op = 7
  · rw [if_pos e7]; split <;> rfl
  rw [if_neg e7]
  by_cases e10 : i.op = 10
  · rw [if_pos e10]; split <;> rfl
  rw [if_neg e10]
  by_cases e12 : i.op = 12
  · rw [if_pos e12]
  rw [if_neg e12]
  by_cases e13 : i.op = 13
  · rw [if_pos e13]
  rw [if_neg e13]
  by_cases e14 : i.op = 14
  · rw [if_pos e14]; split <;> rfl
  rw [if_neg e14]
  by_cases e15 : i.op = 15
  · rw [if_pos e15]
  rw [if_neg e15]
  by_cases e1 : i.op = 1
  · rw [if_pos e1]
  rw [if_neg e1]
  by_cases e2 : i.op = 2
  · rw [if_pos e2]
  rw [if_neg e2]
  by_cases e3 : i.op = 3
  · rw [if_pos e3]; split <;> rfl
  rw [if_neg e3]
  by_cases e4 : i.op = 4
  · rw [if_pos e4]
  rw [if_neg e4]
  by_cases e16 : i.op = 16
  · rw [if_pos e16]
  rw [if_neg e16]

theorem step_ev (S : Psys) (st : St) (k : Nat) : (step S st k).1.ev = st.ev + 1 := by
  unfold step
  dsimp only
  split
  · simp only [act_ev]
  · simp only [act_ev]

theorem can_not_ended {S : Psys} {st : St} {r : Rn} (h : can S st r = true) : r.ended = false := by
  cases e : r.ended with
  | false => rfl
  | true => simp only [can, e, if_true] at h; cases h

end PoolQ
