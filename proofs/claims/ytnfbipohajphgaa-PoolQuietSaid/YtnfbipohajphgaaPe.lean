/- What the walk of a step asks of the pool's machine: its instructions are well formed, its numbers small (no program in sight). -/
import Derived.Test.YtnfbipohajphgaaPd
set_option linter.unusedVariables false
set_option linter.unusedSimpArgs false
namespace PoolQ

/-- What every instruction of the four programs is. -/
structure Wf (i : Ins) : Prop where
  op8 : i.op ≠ 8
  op9 : i.op ≠ 9
  opr : 1 ≤ i.op ∧ i.op ≤ 16
  chan : i.op = 5 ∨ i.op = 6 ∨ i.op = 7 → 0 ≤ i.a ∧ i.a < 3
  group : i.op = 10 ∨ i.op = 11 → i.a = 0
  c : 0 ≤ i.c ∧ i.c ≤ 1000
  ra : i.op = 1 ∨ i.op = 2 ∨ i.op = 3 ∨ i.op = 12 ∨ i.op = 13 → 0 ≤ i.a ∧ i.a < 8
  rb : i.op = 2 ∨ i.op = 3 ∨ i.op = 5 ∨ i.op = 6 ∨ i.op = 7 ∨ i.op = 12 ∨ i.op = 13 ∨ i.op = 15 → 0 ≤ i.b ∧ i.b < 8
  prog : i.op = 14 → 0 ≤ i.a ∧ i.a < 4
  set : i.op = 1 → -5000 ≤ i.b ∧ i.b ≤ 5000
  grp : i.op = 10 → i.b = 1 ∨ i.b = -1

theorem wf_comb (W : Int) (h : 1 ≤ W ∧ W ≤ 256) : ∀ i ∈ combP W, Wf i := by
  intro i hi
  simp only [combP, List.mem_cons, List.not_mem_nil, or_false] at hi
  rcases hi with rfl | rfl | rfl | rfl | rfl | rfl | rfl | rfl | rfl | rfl | rfl | rfl | rfl | rfl | rfl <;> constructor <;> simp [I] <;> omega
theorem wf_work : ∀ i ∈ workP, Wf i := by
  intro i hi
  simp only [workP, List.mem_cons, List.not_mem_nil, or_false] at hi
  rcases hi with rfl | rfl | rfl | rfl | rfl | rfl | rfl | rfl <;> constructor <;> simp [I]
theorem wf_feed (b jobs : Int) (h : 1 ≤ b ∧ b ≤ 64) (hj : 0 ≤ jobs ∧ jobs ≤ 1024) : ∀ i ∈ feedP b jobs, Wf i := by
  intro i hi
  simp only [feedP, List.mem_cons, List.not_mem_nil, or_false] at hi
  rcases hi with rfl | rfl | rfl | rfl | rfl | rfl | rfl | rfl | rfl | rfl | rfl | rfl | rfl | rfl | rfl | rfl | rfl | rfl | rfl <;> constructor <;> simp [I] <;> omega
theorem wf_clos : ∀ i ∈ closP, Wf i := by
  intro i hi
  simp only [closP, List.mem_cons, List.not_mem_nil, or_false] at hi
  rcases hi with rfl | rfl | rfl <;> constructor <;> simp [I]

/-- Where a runner stands that has not ended. -/
theorem stands {W Q b jobs : Int} (hW : 1 ≤ W ∧ W ≤ 256) (hb : 1 ≤ b ∧ b ≤ 64) (hj : 0 ≤ jobs ∧ jobs ≤ 1024) {r : Rn} (hL : LI W b jobs r) (he : r.ended = false) :
    ∃ l aa i, (poolSys W Q b jobs).progs[r.prog]? = some l ∧ r.at_ = (aa : Nat) ∧ l[aa]? = some i ∧ Wf i ∧ insOf (poolSys W Q b jobs) r = i := by
  have h0 := hL.at0
  have hlt : r.at_ < plen r.prog := by
    have h1 := hL.ended
    rw [he] at h1
    have h2 := of_decide_eq_false h1.symm
    omega
  have hp := hL.prog
  obtain ⟨p, a, regs, e⟩ := r
  simp only at hp h0 hlt
  have key : ∀ l : List Ins, (poolSys W Q b jobs).progs[p]? = some l → (l.length : Int) = plen p → (∀ i ∈ l, Wf i) → ∃ l aa i, (poolSys W Q b jobs).progs[p]? = some l ∧ a = (aa : Nat) ∧ l[aa]? = some i ∧ Wf i ∧ insOf (poolSys W Q b jobs) ⟨p, a, regs, e⟩ = i := by
    intro l hl hlen hwf
    have hlt' : a.toNat < l.length := by omega
    refine ⟨l, a.toNat, l[a.toNat], hl, by omega, List.getElem?_eq_getElem hlt', hwf _ (List.getElem_mem hlt'), ?_⟩
    simp [insOf, hl, hlt']
  match p, hp with
  | 0, _ => exact key (combP W) rfl rfl (wf_comb W hW)
  | 1, _ => exact key workP rfl rfl wf_work
  | 2, _ => exact key (feedP b jobs) rfl rfl (wf_feed b jobs hb hj)
  | 3, _ => exact key closP rfl rfl wf_clos

/-- A sum of registers is small. -/
theorem sum_ok {W Q b jobs : Int} (hW : 1 ≤ W ∧ W ≤ 256) (hb : 1 ≤ b ∧ b ≤ 64) (hj : 0 ≤ jobs ∧ jobs ≤ 1024) {r : Rn} (hL : LI W b jobs r) (he : r.ended = false) (h2 : (insOf (poolSys W Q b jobs) r).op = 2) :
    -5000 ≤ reg r (insOf (poolSys W Q b jobs) r).a + reg r (insOf (poolSys W Q b jobs) r).b ∧ reg r (insOf (poolSys W Q b jobs) r).a + reg r (insOf (poolSys W Q b jobs) r).b ≤ 5000 := by
  have hlt : r.at_ < plen r.prog := by
    have h1 := hL.ended
    rw [he] at h1
    have h2 := of_decide_eq_false h1.symm
    omega
  obtain ⟨l8, hp, h0, hl, hd, hC, hF⟩ := hL
  obtain ⟨p, a, regs, e⟩ := r
  simp only at hp h0 hl hd hC hF hlt
  match p, hp with
  | 0, _ =>
    have C := hC rfl
    unfold condC at C
    rcases cases15 a h0 (by simpa [plen] using hlt) with rfl | rfl | rfl | rfl | rfl | rfl | rfl | rfl | rfl | rfl | rfl | rfl | rfl | rfl | rfl <;> simp [insOf, poolSys, combP, I] at h2
    obtain ⟨-, -, C3, -⟩ := C
    obtain ⟨-, c2, c3, c4⟩ := C3 (by omega)
    show -5000 ≤ reg _ 0 + reg _ 2 ∧ reg _ 0 + reg _ 2 ≤ 5000
    omega
  | 1, _ =>
    rcases cases8 a h0 (by simpa [plen] using hlt) with rfl | rfl | rfl | rfl | rfl | rfl | rfl | rfl <;> simp [insOf, poolSys, workP, I] at h2
  | 2, _ =>
    have C := hF rfl
    unfold condF at C
    obtain ⟨-, -, C3, C4, -, -, -, C5, -⟩ := C
    rcases cases19 a h0 (by simpa [plen] using hlt) with rfl | rfl | rfl | rfl | rfl | rfl | rfl | rfl | rfl | rfl | rfl | rfl | rfl | rfl | rfl | rfl | rfl | rfl | rfl <;> simp [insOf, poolSys, feedP, I] at h2
    · obtain ⟨-, c3, c4⟩ := C4 (by omega)
      have c2 := C3 (by omega)
      show -5000 ≤ reg _ 0 + reg _ 2 ∧ reg _ 0 + reg _ 2 ≤ 5000
      omega
    · obtain ⟨-, c3, c4⟩ := C5 (by omega)
      have c2 := C3 (by omega)
      show -5000 ≤ reg _ 0 + reg _ 2 ∧ reg _ 0 + reg _ 2 ≤ 5000
      omega
  | 3, _ =>
    rcases cases3 a h0 (by simpa [plen] using hlt) with rfl | rfl | rfl <;> simp [insOf, poolSys, closP, I] at h2

def Sm (x : Int) : Prop := -5000 ≤ x ∧ x ≤ 5000

/-- All numbers are small. -/
structure Small (st : St) : Prop where
  regs : ∀ r ∈ st.rs, ∀ x ∈ r.regs, Sm x
  held : ∀ q ∈ st.held, ∀ x ∈ q, Sm x
  cells : ∀ x ∈ st.cells, Sm x

theorem getD_of_or {α : Type} (l : List α) (k : Nat) (d : α) : l.getD k d ∈ l ∨ l.getD k d = d := by
  by_cases h : k < l.length
  · exact .inl (by simp [List.getD, List.getElem?_eq_getElem h])
  · exact .inr (by simp [List.getD, List.getElem?_eq_none (Nat.le_of_not_lt h)])

theorem sm_reg {r : Rn} (h : ∀ x ∈ r.regs, Sm x) (i : Int) : Sm (reg r i) := by
  unfold reg
  cases hx : r.regs[i.toNat]? with
  | none => exact ⟨by simp, by simp⟩
  | some x => exact h x (List.mem_of_getElem? hx)

theorem sm_set {l : List Int} {k : Nat} {v : Int} (h : ∀ x ∈ l, Sm x) (hv : Sm v) : ∀ x ∈ l.set k v, Sm x := by
  intro x hx
  rcases List.mem_or_eq_of_mem_set hx with hx | rfl
  · exact h x hx
  · exact hv

/-- The runner put in a place: its registers are small. -/
theorem small_put {st : St} (h : Small st) (k : Nat) (r' : Rn) (hr : ∀ x ∈ r'.regs, Sm x) : Small { st with rs := st.rs.set k r' } :=
  ⟨fun r hm x hx => by
    rcases List.mem_or_eq_of_mem_set hm with hm | rfl
    · exact h.regs r hm x hx
    · exact hr x hx, h.held, h.cells⟩

theorem small_ev {st : St} (h : Small st) (n : Nat) : Small { st with ev := n } := ⟨h.regs, h.held, h.cells⟩

theorem small_act {S : Psys} {st : St} (h : Small st) {k : Nat} {r : Rn} (hr : ∀ x ∈ r.regs, Sm x) (i : Ins) (h1 : i.op = 1 → Sm i.b) (h2 : i.op = 2 → Sm (reg r i.a + reg r i.b)) : Small (act S st k r i).1 := by
  have hw : i.op = 2 → wrap (reg r i.a + reg r i.b) = reg r i.a + reg r i.b := fun e => wrap_in _ (by have := h2 e; unfold Sm at this; omega)
  have hz : Sm 0 := ⟨by omega, by omega⟩
  unfold act
  dsimp only
  by_cases e5 : i.op = 5
  · rw [if_pos e5]
    split
    · exact h
    · refine ⟨h.regs, ?_, h.cells⟩
      intro q hq x hx
      rcases List.mem_or_eq_of_mem_set hq with hq | rfl
      · exact h.held q hq x hx
      · rcases List.mem_append.1 hx with hx | hx
        · unfold heldAt at hx
          rcases getD_of_or st.held i.a.toNat [] with hm | hm
          · exact h.held _ hm x hx
          · rw [hm] at hx; cases hx
        · rw [List.mem_singleton.1 hx]; exact sm_reg hr _
  rw [if_neg e5]
  by_cases e6 : i.op = 6
  · rw [if_pos e6]
    split
    · exact small_put h k _ hr
    · rename_i v l hv
      have hq : ∀ x ∈ v :: l, Sm x := by
        intro x hx
        rw [← hv] at hx
        unfold heldAt at hx
        rcases getD_of_or st.held i.a.toNat [] with hm | hm
        · exact h.held _ hm x hx
        · rw [hm] at hx; cases hx
      have h3 := small_put h k (setReg r i.b v) (sm_set hr (hq v (by simp)))
      refine ⟨h3.regs, ?_, h.cells⟩
      intro q hq' x hx
      rcases List.mem_or_eq_of_mem_set hq' with hq' | rfl
      · exact h.held q hq' x hx
      · exact hq x (by simp [hx])
  rw [if_neg e6]
  by_cases e7 : i.op = 7
  · rw [if_pos e7]
    split
    · exact h
    · exact ⟨h.regs, h.held, h.cells⟩
  rw [if_neg e7]
  by_cases e10 : i.op = 10
  · rw [if_pos e10]
    split
    · exact h
    · exact ⟨h.regs, h.held, h.cells⟩
  rw [if_neg e10]
  by_cases e12 : i.op = 12
  · rw [if_pos e12]
    refine small_put h k _ (sm_set hr ?_)
    rcases getD_of_or st.cells (rest (reg r i.a) st.cells.length).toNat 0 with hm | hm
    · exact h.cells _ hm
    · rw [hm]; exact hz
  rw [if_neg e12]
  by_cases e13 : i.op = 13
  · rw [if_pos e13]
    exact ⟨h.regs, h.held, sm_set h.cells (sm_reg hr _)⟩
  rw [if_neg e13]
  by_cases e14 : i.op = 14
  · rw [if_pos e14]
    split
    · exact h
    · refine ⟨?_, h.held, h.cells⟩
      intro r2 hm x hx
      rcases List.mem_append.1 hm with hm | hm
      · exact h.regs r2 hm x hx
      · rw [List.mem_singleton.1 hm] at hx; exact hr x hx
  rw [if_neg e14]
  by_cases e15 : i.op = 15
  · rw [if_pos e15]
    exact h
  rw [if_neg e15]
  by_cases e1 : i.op = 1
  · rw [if_pos e1]
    exact small_put h k _ (sm_set hr (h1 e1))
  rw [if_neg e1]
  by_cases e2 : i.op = 2
  · rw [if_pos e2]
    exact small_put h k _ (sm_set hr (by rw [hw e2]; exact h2 e2))
  rw [if_neg e2]
  by_cases e3 : i.op = 3
  · rw [if_pos e3]
    split
    · exact small_put h k _ hr
    · exact h
  rw [if_neg e3]
  by_cases e4 : i.op = 4
  · rw [if_pos e4]
    exact small_put h k _ hr
  rw [if_neg e4]
  by_cases e16 : i.op = 16
  · rw [if_pos e16]
    exact small_put h k _ hr
  rw [if_neg e16]
  exact h

theorem small_step {W Q b jobs : Int} {st : St} (hI : Inv W Q b jobs st) (hs : Small st) (hW : 1 ≤ W ∧ W ≤ 256) (hb : 1 ≤ b ∧ b ≤ 64) (hj : 0 ≤ jobs ∧ jobs ≤ 1024) {k : Nat} (hk : k < st.rs.length)
    (hcan : can (poolSys W Q b jobs) st (st.rs.getD k default) = true) : Small (step (poolSys W Q b jobs) st k).1 := by
  have hm := mem_of_getD st.rs k hk
  have he : (st.rs.getD k default).ended = false := by
    cases h : (st.rs.getD k default).ended with
    | false => rfl
    | true => simp only [can, h, if_true] at hcan; cases hcan
  obtain ⟨l, aa, i, h1, h2, h3, hwf, hi⟩ := stands (Q := Q) hW hb hj (hI.li _ hm) he
  have hso := sum_ok (Q := Q) hW hb hj (hI.li _ hm) he
  have ha := small_act (S := poolSys W Q b jobs) hs (k := k) (hs.regs _ hm) (insOf (poolSys W Q b jobs) (st.rs.getD k default)) (by rw [hi]; exact fun e => hwf.set e) (fun e => hso e)
  unfold step
  dsimp only
  split
  · exact small_ev ha _
  · refine small_put (st := { (act (poolSys W Q b jobs) st k (st.rs.getD k default) (insOf (poolSys W Q b jobs) (st.rs.getD k default))).1 with ev := (act (poolSys W Q b jobs) st k (st.rs.getD k default) (insOf (poolSys W Q b jobs) (st.rs.getD k default))).1.ev + 1 }) (small_ev ha _) k _ ?_
    intro x hx
    simp only [adv] at hx
    rcases getD_of_or (act (poolSys W Q b jobs) st k (st.rs.getD k default) (insOf (poolSys W Q b jobs) (st.rs.getD k default))).1.rs k default with hm2 | hm2
    · exact ha.regs _ hm2 x hx
    · rw [hm2] at hx; simp [default, instInhabitedRn.default] at hx

theorem small_start (b : Nat) : Small (start b) := by
  refine ⟨?_, ?_, ?_⟩
  · intro r hr x hx
    simp [start] at hr
    subst hr
    simp at hx
    subst hx
    exact ⟨by omega, by omega⟩
  · intro q hq x hx
    simp [start] at hq
    subst hq
    cases hx
  · intro x hx
    simp [start] at hx
    rw [hx.2]
    exact ⟨by omega, by omega⟩

end PoolQ
