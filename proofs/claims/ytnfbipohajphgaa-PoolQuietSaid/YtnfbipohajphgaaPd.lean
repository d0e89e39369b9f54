/- Every step keeps what holds; nobody is ever stuck; at the end the steps are as many as told. -/
import Derived.Test.YtnfbipohajphgaaPc
set_option linter.unusedVariables false
set_option linter.unusedSimpArgs false
namespace PoolQ

theorem S_pos (f : Rn → Int) : ∀ (l : List Rn), 0 < S f l → ∃ r ∈ l, 0 < f r
  | [], h => by simp [S] at h
  | x :: l, h => by
    rw [S_cons] at h
    by_cases hx : 0 < f x
    · exact ⟨x, by simp, hx⟩
    · obtain ⟨r, hr, h2⟩ := S_pos f l (by omega)
      exact ⟨r, by simp [hr], h2⟩

theorem getD_of_mem (l : List Rn) (r : Rn) (h : r ∈ l) : ∃ k, k < l.length ∧ l.getD k default = r := by
  obtain ⟨k, hk, e⟩ := List.mem_iff_getElem.1 h
  exact ⟨k, hk, by simp [List.getD, List.getElem?_eq_getElem hk, e]⟩

theorem mem_of_getD (l : List Rn) (k : Nat) (h : k < l.length) : l.getD k default ∈ l := by
  simp [List.getD, List.getElem?_eq_getElem h]

theorem regs8 (l : List Int) (h : l.length = 8) : ∃ x0 x1 x2 x3 x4 x5 x6 x7, l = [x0, x1, x2, x3, x4, x5, x6, x7] := by
  match l, h with
  | [x0, x1, x2, x3, x4, x5, x6, x7], _ => exact ⟨x0, x1, x2, x3, x4, x5, x6, x7, rfl⟩

theorem cases15 (a : Int) (h0 : 0 ≤ a) (h : a < 15) : a = 0 ∨ a = 1 ∨ a = 2 ∨ a = 3 ∨ a = 4 ∨ a = 5 ∨ a = 6 ∨ a = 7 ∨ a = 8 ∨ a = 9 ∨ a = 10 ∨ a = 11 ∨ a = 12 ∨ a = 13 ∨ a = 14 := by omega
theorem cases8 (a : Int) (h0 : 0 ≤ a) (h : a < 8) : a = 0 ∨ a = 1 ∨ a = 2 ∨ a = 3 ∨ a = 4 ∨ a = 5 ∨ a = 6 ∨ a = 7 := by omega
theorem cases19 (a : Int) (h0 : 0 ≤ a) (h : a < 19) : a = 0 ∨ a = 1 ∨ a = 2 ∨ a = 3 ∨ a = 4 ∨ a = 5 ∨ a = 6 ∨ a = 7 ∨ a = 8 ∨ a = 9 ∨ a = 10 ∨ a = 11 ∨ a = 12 ∨ a = 13 ∨ a = 14 ∨ a = 15 ∨ a = 16 ∨ a = 17 ∨ a = 18 := by omega
theorem cases3 (a : Int) (h0 : 0 ≤ a) (h : a < 3) : a = 0 ∨ a = 1 ∨ a = 2 := by omega

theorem hshut1 {W Q b jobs : Int} {st : St} (hI : Inv W Q b jobs st) (hW : 1 ≤ W) (hW2 : W ≤ 256) (hb : 1 ≤ b) (hb2 : b ≤ 64) {k : Nat} (hk : k < st.rs.length) {r : Rn}
    (hr : st.rs.getD k default = r) (hp : r.prog = 1) (ha : r.at_ ≤ 6) : st.shut.getD 1 false = false := by
  have hn := hI.n
  simp only [S_split _ st.rs k hk, hr] at hn
  have hR := ri_of W b jobs hW hW2 hb hb2 (st.rs.eraseIdx k) (fun x hx => hI.li x (List.mem_of_mem_eraseIdx hx))
  have e1 : grp r = 1 := by simp [grp, hp, ha]
  have e2 : lw r = 0 := by simp [lw, hp]
  have e3 : lpast r = 0 := by simp [lpast, hp]
  cases h : st.shut.getD 1 false
  · rfl
  · exfalso
    have h1 := hn.s1.1 h
    have h2 := hn.g7
    have h3 := hR.b7
    have h4 := hR.b3
    omega

theorem hshut0 {W Q b jobs : Int} {st : St} (hI : Inv W Q b jobs st) (hW : 1 ≤ W) (hW2 : W ≤ 256) (hb : 1 ≤ b) (hb2 : b ≤ 64) {k : Nat} (hk : k < st.rs.length) {r : Rn}
    (hr : st.rs.getD k default = r) (hp : r.prog = 2) (ha : r.at_ ≤ 17) : st.shut.getD 0 false = false := by
  have hn := hI.n
  simp only [S_split _ st.rs k hk, hr] at hn
  have hR := ri_of W b jobs hW hW2 hb hb2 (st.rs.eraseIdx k) (fun x hx => hI.li x (List.mem_of_mem_eraseIdx hx))
  have e1 : c2 r = 1 := by simp [c2, hp]
  have e2 : fs r = 0 := by simp [fs, hp]
  have e3 : fpast r = 0 := by simp [fpast, hp]; omega
  have e4 : c0 r = 0 := by simp [c0, hp]
  cases h : st.shut.getD 0 false
  · rfl
  · exfalso
    have h1 := hn.s0.1 h
    have h2 := hn.g2
    have h3 := hn.g0
    have h4 := hR.a7
    have h5 := hR.b5
    omega

/-- A runner of one of the four programs that has not ended. -/
theorem step_ok {W Q b jobs : Int} {st : St} (hI : Inv W Q b jobs st) (hW : 1 ≤ W) (hW2 : W ≤ 256) (hQ : 1 ≤ Q) (hb : 1 ≤ b) (hb2 : b ≤ 64) (hj : 0 ≤ jobs) (hj2 : jobs ≤ 1024) {k : Nat} (hk : k < st.rs.length)
    (hcan : can (poolSys W Q b jobs) st (st.rs.getD k default) = true) :
    (step (poolSys W Q b jobs) st k).2 = 0 ∧ Inv W Q b jobs (step (poolSys W Q b jobs) st k).1 := by
  have hL := hI.li _ (mem_of_getD st.rs k hk)
  generalize hr : st.rs.getD k default = r at hcan hL
  have hL' := hL
  obtain ⟨l8, hp, h0, hl, he, -, -⟩ := hL'
  obtain ⟨p, a, regs, e⟩ := r
  simp only at l8 hp h0 hl he
  obtain ⟨x0, x1, x2, x3, x4, x5, x6, x7, rfl⟩ := regs8 regs l8
  have he' : e = false := by
    cases e
    · rfl
    · simp [can] at hcan
  subst he'
  have hlt : a < plen p := by
    have := he.symm
    simp only [decide_eq_false_iff_not] at this
    omega
  clear he hl
  match p, hp with
  | 0, _ =>
    rcases cases15 a h0 (by simpa [plen] using hlt) with rfl | rfl | rfl | rfl | rfl | rfl | rfl | rfl | rfl | rfl | rfl | rfl | rfl | rfl | rfl
    · exact st_0_0 hI hW hW2 hQ hb hb2 hj hj2 hk _ _ _ _ _ _ _ _ hr hL
    · exact st_0_1 hI hW hW2 hQ hb hb2 hj hj2 hk _ _ _ _ _ _ _ _ hr hL
    · exact st_0_2 hI hW hW2 hQ hb hb2 hj hj2 hk _ _ _ _ _ _ _ _ hr hL
    · by_cases hx : x0 < W
      · exact st_0_3y hI hW hW2 hQ hb hb2 hj hj2 hk _ _ _ _ _ _ _ _ hr hL hx
      · exact st_0_3n hI hW hW2 hQ hb hb2 hj hj2 hk _ _ _ _ _ _ _ _ hr hL hx
    · exact st_0_4 hI hW hW2 hQ hb hb2 hj hj2 hk _ _ _ _ _ _ _ _ hr hL
    · exact st_0_5 hI hW hW2 hQ hb hb2 hj hj2 hk _ _ _ _ _ _ _ _ hr hL
    · exact st_0_6 hI hW hW2 hb hb2 hj hj2 hk _ _ _ _ _ _ _ _ hr hL
    · exact st_0_7 hI hW hW2 hQ hb hb2 hj hj2 hk _ _ _ _ _ _ _ _ hr hL
    · exact st_0_8 hI hW hW2 hQ hb hb2 hj hj2 hk _ _ _ _ _ _ _ _ hr hL
    · exact st_0_9 hI hW hW2 hb hb2 hj hj2 hk _ _ _ _ _ _ _ _ hr hL
    · exact st_0_10 hI hW hW2 hb hb2 hj hj2 hk _ _ _ _ _ _ _ _ hr hL
    · match hx : st.held.getD 1 [] with
      | v :: l => exact st_0_11y hI hW hW2 hQ hb hb2 hj hj2 hk _ _ _ _ _ _ _ _ hr hL v l hx
      | [] =>
        refine st_0_11n hI hW hW2 hQ hb hb2 hj hj2 hk _ _ _ _ _ _ _ _ hr hL hx ?_
        simpa [-List.getD_eq_getElem?_getD, can, insOf, poolSys, combP, I, shutAt, heldAt, hx] using hcan
    · exact st_0_12 hI hW hW2 hQ hb hb2 hj hj2 hk _ _ _ _ _ _ _ _ hr hL
    · exact st_0_13 hI hW hW2 hQ hb hb2 hj hj2 hk _ _ _ _ _ _ _ _ hr hL
    · exact st_0_14 hI hW hW2 hQ hb hb2 hj hj2 hk _ _ _ _ _ _ _ _ hr hL
  | 1, _ =>
    rcases cases8 a h0 (by simpa [plen] using hlt) with rfl | rfl | rfl | rfl | rfl | rfl | rfl | rfl
    · match hx : st.held.getD 0 [] with
      | v :: l => exact st_1_0y hI hW hW2 hQ hb hb2 hj hj2 hk _ _ _ _ _ _ _ _ hr hL v l hx
      | [] =>
        refine st_1_0n hI hW hW2 hQ hb hb2 hj hj2 hk _ _ _ _ _ _ _ _ hr hL hx ?_
        simpa [-List.getD_eq_getElem?_getD, can, insOf, poolSys, workP, I, shutAt, heldAt, hx] using hcan
    · exact st_1_1 hI hW hW2 hQ hb hb2 hj hj2 hk _ _ _ _ _ _ _ _ hr hL
    · exact st_1_2 hI hW hW2 hQ hb hb2 hj hj2 hk _ _ _ _ _ _ _ _ hr hL
    · exact st_1_3 hI hW hW2 hQ hb hb2 hj hj2 hk _ _ _ _ _ _ _ _ hr hL
    · by_cases hq : ((st.held.getD 1 []).length : Int) < Q
      · exact st_1_4 hI hW hW2 hQ hb hb2 hj hj2 hk _ _ _ _ _ _ _ _ hr hL hq
      · exfalso
        have hs : st.shut.getD 1 false = true := by
          simpa [-List.getD_eq_getElem?_getD, can, insOf, poolSys, workP, I, shutAt, heldAt, hq] using hcan
        exact absurd (hshut1 hI hW hW2 hb hb2 hk hr rfl (by simp)) (by rw [hs]; decide)
    · exact st_1_5 hI hW hW2 hQ hb hb2 hj hj2 hk _ _ _ _ _ _ _ _ hr hL
    · exact st_1_6 hI hW hW2 hQ hb hb2 hj hj2 hk _ _ _ _ _ _ _ _ hr hL
    · exact st_1_7 hI hW hW2 hQ hb hb2 hj hj2 hk _ _ _ _ _ _ _ _ hr hL
  | 2, _ =>
    rcases cases19 a h0 (by simpa [plen] using hlt) with rfl | rfl | rfl | rfl | rfl | rfl | rfl | rfl | rfl | rfl | rfl | rfl | rfl | rfl | rfl | rfl | rfl | rfl | rfl
    · exact st_2_0 hI hW hW2 hQ hb hb2 hj hj2 hk _ _ _ _ _ _ _ _ hr hL
    · exact st_2_1 hI hW hW2 hQ hb hb2 hj hj2 hk _ _ _ _ _ _ _ _ hr hL
    · exact st_2_2 hI hW hW2 hQ hb hb2 hj hj2 hk _ _ _ _ _ _ _ _ hr hL
    · by_cases hx : x0 < b
      · exact st_2_3y hI hW hW2 hQ hb hb2 hj hj2 hk _ _ _ _ _ _ _ _ hr hL hx
      · exact st_2_3n hI hW hW2 hQ hb hb2 hj hj2 hk _ _ _ _ _ _ _ _ hr hL hx
    · exact st_2_4 hI hW hW2 hQ hb hb2 hj hj2 hk _ _ _ _ _ _ _ _ hr hL
    · exact st_2_5 hI hW hW2 hQ hb hb2 hj hj2 hk _ _ _ _ _ _ _ _ hr hL
    · exact st_2_6 hI hW hW2 hQ hb hb2 hj hj2 hk _ _ _ _ _ _ _ _ hr hL
    · exact st_2_7 hI hW hW2 hQ hb hb2 hj hj2 hk _ _ _ _ _ _ _ _ hr hL
    · exact st_2_8 hI hW hW2 hQ hb hb2 hj hj2 hk _ _ _ _ _ _ _ _ hr hL
    · exact st_2_9 hI hW hW2 hQ hb hb2 hj hj2 hk _ _ _ _ _ _ _ _ hr hL
    · by_cases hx : x0 < jobs
      · exact st_2_10y hI hW hW2 hQ hb hb2 hj hj2 hk _ _ _ _ _ _ _ _ hr hL hx
      · exact st_2_10n hI hW hW2 hQ hb hb2 hj hj2 hk _ _ _ _ _ _ _ _ hr hL hx
    · exact st_2_11 hI hW hW2 hQ hb hb2 hj hj2 hk _ _ _ _ _ _ _ _ hr hL
    · match hx : st.held.getD 2 [] with
      | v :: l => exact st_2_12y hI hW hW2 hQ hb hb2 hj hj2 hk _ _ _ _ _ _ _ _ hr hL v l hx
      | [] =>
        exfalso
        have hs : st.shut.getD 2 false = true := by
          simpa [-List.getD_eq_getElem?_getD, can, insOf, poolSys, feedP, I, shutAt, heldAt, hx] using hcan
        have := hI.n.s2
        simp only [shutAt] at this
        exact absurd this (by show ¬ st.shut.getD 2 false = false; rw [hs]; decide)
    · exact st_2_13 hI hW hW2 hQ hb hb2 hj hj2 hk _ _ _ _ _ _ _ _ hr hL
    · by_cases hq : ((st.held.getD 0 []).length : Int) < Q
      · exact st_2_14 hI hW hW2 hQ hb hb2 hj hj2 hk _ _ _ _ _ _ _ _ hr hL hq
      · exfalso
        have hs : st.shut.getD 0 false = true := by
          simpa [-List.getD_eq_getElem?_getD, can, insOf, poolSys, feedP, I, shutAt, heldAt, hq] using hcan
        exact absurd (hshut0 hI hW hW2 hb hb2 hk hr rfl (by simp)) (by rw [hs]; decide)
    · exact st_2_15 hI hW hW2 hQ hb hb2 hj hj2 hk _ _ _ _ _ _ _ _ hr hL
    · exact st_2_16 hI hW hW2 hQ hb hb2 hj hj2 hk _ _ _ _ _ _ _ _ hr hL
    · exact st_2_17 hI hW hW2 hQ hb hb2 hj hj2 hk _ _ _ _ _ _ _ _ hr hL
    · exact st_2_18 hI hW hW2 hQ hb hb2 hj hj2 hk _ _ _ _ _ _ _ _ hr hL
  | 3, _ =>
    rcases cases3 a h0 (by simpa [plen] using hlt) with rfl | rfl | rfl
    · refine st_3_0 hI hW hW2 hQ hb hb2 hj hj2 hk _ _ _ _ _ _ _ _ hr hL ?_
      simpa [-List.getD_eq_getElem?_getD, can, insOf, poolSys, closP, I, shutAt, heldAt] using hcan
    · exact st_3_1 hI hW hW2 hQ hb hb2 hj hj2 hk _ _ _ _ _ _ _ _ hr hL
    · exact st_3_2 hI hW hW2 hQ hb hb2 hj hj2 hk _ _ _ _ _ _ _ _ hr hL

end PoolQ
namespace PoolQ

/-- What a runner that can't go on stands at. -/
structure Stuck (b Q : Int) (n0 n1 n2 g : Int) (s0 s1 s2 : Bool) (r : Rn) : Prop where
  c : r.prog = 0 → r.at_ = 15 ∨ (r.at_ = 11 ∧ n1 = 0 ∧ s1 = false)
  w : r.prog = 1 → r.at_ = 8 ∨ (r.at_ = 0 ∧ n0 = 0 ∧ s0 = false) ∨ (r.at_ = 3 ∧ n2 ≥ b) ∨ (r.at_ = 4 ∧ n1 ≥ Q)
  f : r.prog = 2 → r.at_ = 19 ∨ (r.at_ = 5 ∧ n2 ≥ b) ∨ (r.at_ = 12 ∧ n2 = 0) ∨ (r.at_ = 14 ∧ n0 ≥ Q)
  l : r.prog = 3 → r.at_ = 3 ∨ (r.at_ = 0 ∧ g ≠ 0)

theorem stuck_of {W Q b jobs : Int} {st : St} {r : Rn} (hL : LI W b jobs r) (h : can (poolSys W Q b jobs) st r = false) :
    Stuck b Q (heldAt st 0).length (heldAt st 1).length (heldAt st 2).length (st.groups.getD 0 0) (shutAt st 0) (shutAt st 1) (shutAt st 2) r := by
  obtain ⟨l8, hp, h0, hl, he, -, -⟩ := hL
  obtain ⟨p, a, regs, e⟩ := r
  simp only at l8 hp h0 hl
  have he' : e = decide (a ≥ plen p) := he
  clear he
  subst he'
  simp only [plen] at hl
  constructor
  · intro h1
    simp only at h1
    subst h1
    simp only [↓reduceIte] at hl
    by_cases hlt : a < 15
    · right
      rcases cases15 a h0 hlt with rfl | rfl | rfl | rfl | rfl | rfl | rfl | rfl | rfl | rfl | rfl | rfl | rfl | rfl | rfl <;>
        simp [-List.getD_eq_getElem?_getD, can, insOf, poolSys, combP, I, shutAt, heldAt, plen] at h
      exact ⟨rfl, by simp [-List.getD_eq_getElem?_getD, heldAt, h.2], by simpa [-List.getD_eq_getElem?_getD, shutAt] using h.1⟩
    · left; show a = 15; omega
  · intro h1
    simp only at h1
    subst h1
    simp only [Nat.one_ne_zero, ↓reduceIte] at hl
    by_cases hlt : a < 8
    · right
      rcases cases8 a h0 hlt with rfl | rfl | rfl | rfl | rfl | rfl | rfl | rfl <;>
        simp [-List.getD_eq_getElem?_getD, can, insOf, poolSys, workP, I, shutAt, heldAt, plen] at h
      · exact .inl ⟨rfl, by simp [-List.getD_eq_getElem?_getD, heldAt, h.2], by simpa [-List.getD_eq_getElem?_getD, shutAt] using h.1⟩
      · exact .inr (.inl ⟨rfl, by simpa [-List.getD_eq_getElem?_getD, heldAt] using h.2⟩)
      · exact .inr (.inr ⟨rfl, by simpa [-List.getD_eq_getElem?_getD, heldAt] using h.2⟩)
    · left; show a = 8; omega
  · intro h1
    simp only at h1
    subst h1
    simp only [Nat.reduceEqDiff, ↓reduceIte] at hl
    by_cases hlt : a < 19
    · right
      rcases cases19 a h0 hlt with rfl | rfl | rfl | rfl | rfl | rfl | rfl | rfl | rfl | rfl | rfl | rfl | rfl | rfl | rfl | rfl | rfl | rfl | rfl <;>
        simp [-List.getD_eq_getElem?_getD, can, insOf, poolSys, feedP, I, shutAt, heldAt, plen] at h
      · exact .inl ⟨rfl, by simpa [-List.getD_eq_getElem?_getD, heldAt] using h.2⟩
      · exact .inr (.inl ⟨rfl, by simp [-List.getD_eq_getElem?_getD, heldAt, h.2]⟩)
      · exact .inr (.inr ⟨rfl, by simpa [-List.getD_eq_getElem?_getD, heldAt] using h.2⟩)
    · left; show a = 19; omega
  · intro h1
    simp only at h1
    subst h1
    simp only [Nat.reduceEqDiff, ↓reduceIte] at hl
    by_cases hlt : a < 3
    · right
      rcases cases3 a h0 hlt with rfl | rfl | rfl <;>
        simp [-List.getD_eq_getElem?_getD, can, insOf, poolSys, closP, I, shutAt, heldAt, plen] at h
      exact ⟨rfl, h⟩
    · left; show a = 3; omega

theorem S_at_le (f : Rn → Int) (l : List Rn) (r : Rn) (hr : r ∈ l) (h : ∀ x ∈ l, 0 ≤ f x) : f r ≤ S f l := by
  obtain ⟨k, hk, e⟩ := getD_of_mem l r hr
  rw [S_split f l k hk, e]
  have := S_nonneg f (l.eraseIdx k) (fun x hx => h x (List.mem_of_mem_eraseIdx hx))
  omega

theorem ended_iff {W b jobs : Int} {r : Rn} (hL : LI W b jobs r) : r.ended = true ↔ r.at_ = plen r.prog := by
  have := hL.atl
  rw [hL.ended]
  simp only [decide_eq_true_eq]
  omega

/-- Nobody is ever stuck: where somebody has not ended, somebody can go on. -/
theorem never_stuck {W Q b jobs : Int} {st : St} (hI : Inv W Q b jobs st) (hW : 1 ≤ W) (hW2 : W ≤ 256) (hQ : 1 ≤ Q) (hb : 1 ≤ b) (hb2 : b ≤ 64)
    (hno : ∀ r ∈ st.rs, can (poolSys W Q b jobs) st r = false) : ∀ r ∈ st.rs, r.ended = true := by
  have hB : ∀ r ∈ st.rs, Stuck b Q (heldAt st 0).length (heldAt st 1).length (heldAt st 2).length (st.groups.getD 0 0) (shutAt st 0) (shutAt st 1) (shutAt st 2) r :=
    fun r hr => stuck_of (hI.li r hr) (hno r hr)
  have hn := hI.n
  have hA := ri_of W b jobs hW hW2 hb hb2 st.rs hI.li
  obtain ⟨r0, r1, r2, r3, r4, r5, r6, r7, r8, r9, r10, r11, r12, r13, r14, r15, r16, r17, r18, r19, r20, r21, r22, r23, r24⟩ := hA
  rw [S_mul] at r5 r12
  rw [S_add] at r24
  generalize (heldAt st 0).length = n0 at hn hB
  generalize (heldAt st 1).length = n1 at hn hB
  generalize (heldAt st 2).length = n2 at hn hB
  generalize st.groups.getD 0 0 = g at hn hB
  generalize shutAt st 0 = s0 at hn hB
  generalize shutAt st 1 = s1 at hn hB
  generalize shutAt st 2 = s2 at hn hB
  obtain ⟨h00, h01, h02, h03, h04, h05, h06, h07, h08, h09, h10, h11, h12, h13, h14, h15⟩ := hn
  by_cases hc : 1 ≤ S cpast st.rs
  · -- the combiner has ended
    have p1 := h13 (by omega)
    have p2 := h12 (by omega)
    have e1 : S cpast st.rs ≤ S (ws W) st.rs := by
      apply S_le; intro r hr
      have L := (hI.li r hr).comb
      unfold cpast ws
      split
      · rename_i hp
        have C := L hp
        unfold condC at C
        split
        · rw [if_neg (by omega), if_neg (by omega), if_neg (by omega)]; exact hW
        · split
          · omega
          · split
            · omega
            · split <;> omega
      · omega
    have e2 : S c1 st.rs ≤ S (fun r => wpast r + grp r) st.rs := by
      apply S_le; intro r hr
      simp only [c1, wpast, grp]
      repeat' split
      all_goals omega
    rw [S_add] at e2
    have p3 := h11 (by omega)
    have q1 : s1 = true := h09.2 p1.1
    intro r hr
    have B := hB r hr
    have L := hI.li r hr
    rw [ended_iff L]
    have hp := L.prog
    have hg : 0 ≤ grp r ∧ grp r ≤ S grp st.rs := ⟨by simp only [grp]; repeat' split
                                                     all_goals omega, S_at_le grp _ r hr (fun x _ => by simp only [grp]; repeat' split
                                                                                                        all_goals omega)⟩
    have hpr : r.prog = 0 ∨ r.prog = 1 ∨ r.prog = 2 ∨ r.prog = 3 := by omega
    rcases hpr with h | h | h | h
    · rcases B.c h with e | e
      · simp [plen, h, e]
      · exact absurd e.2.2 (by rw [q1]; decide)
    · have hg1 : ¬ r.at_ ≤ 6 := by
        intro hle
        have : grp r = 1 := by simp [grp, h, hle]
        omega
      rcases B.w h with e | e | e | e
      · simp [plen, h, e]
      · omega
      · omega
      · omega
    · have hf : ¬ r.at_ ≤ 17 := by
        intro hle
        obtain ⟨k, hk, e⟩ := getD_of_mem _ _ hr
        have hR := ri_of W b jobs hW hW2 hb hb2 (st.rs.eraseIdx k) (fun x hx => hI.li x (List.mem_of_mem_eraseIdx hx))
        have t1 := S_split fpast st.rs k hk
        have t2 := S_split c2 st.rs k hk
        have f1 : fpast r = 0 := by simp [fpast, h]; omega
        have f2 : c2 r = 1 := by simp [c2, h]
        rw [e] at t1 t2
        have := hR.b5
        omega
      rcases B.f h with e | e | e | e
      · simp [plen, h, e]
      · omega
      · omega
      · omega
    · rcases B.l h with e | e
      · simp [plen, h, e]
      · omega
  · -- the combiner waits for results
    exfalso
    have C0 : ∀ r ∈ st.rs, r.prog = 0 → r.at_ = 11 ∧ (n1 : Int) = 0 ∧ s1 = false := by
      intro r hr h
      rcases (hB r hr).c h with e | e
      · have := S_at_le cpast st.rs r hr (fun x _ => by simp only [cpast]; repeat' split
                                                        all_goals omega)
        have e2 : cpast r = 1 := by simp [cpast, h, e]
        omega
      · exact e
    obtain ⟨rc, hrc, hpc⟩ := S_pos c0 st.rs (by omega)
    have hpc0 : rc.prog = 0 := by simp only [c0] at hpc; split at hpc <;> omega
    obtain ⟨-, hn1, hs1⟩ := C0 rc hrc hpc0
    have E1 : S (fun r => W * c0 r) st.rs ≤ S (ws W) st.rs := by
      apply S_le; intro r hr
      by_cases h : r.prog = 0
      · have := (C0 r hr h).1
        simp [c0, ws, h, this]
      · simp [c0, ws, h]
    have E2 : S c0 st.rs ≤ S fs st.rs := by
      apply S_le; intro r hr
      by_cases h : r.prog = 0
      · have := (C0 r hr h).1
        simp [c0, fs, h, this]
      · simp [c0, fs, h]
    have E3 : S c0 st.rs ≤ S ls st.rs := by
      apply S_le; intro r hr
      by_cases h : r.prog = 0
      · have := (C0 r hr h).1
        simp [c0, ls, h, this]
      · simp [c0, ls, h]
    rw [S_mul, h00] at E1
    have hSent : S (sent b) st.rs ≤ S (fun r => b * c2 r) st.rs := by
      apply S_le; intro r hr
      have L := (hI.li r hr).feed
      unfold sent c2
      split
      · rename_i hp
        have C := L hp
        unfold condF at C
        split
        · omega
        · split
          · omega
          · split <;> omega
      · omega
    rw [S_mul] at hSent
    have hC2 : S c2 st.rs = 1 := by omega
    rw [hC2] at hSent
    have hC1 : W ≤ S c1 st.rs := by omega
    have Wk : ∀ r ∈ st.rs, r.prog = 1 → r.at_ = 8 ∨ (r.at_ = 0 ∧ n0 = 0 ∧ s0 = false) := by
      intro r hr h
      rcases (hB r hr).w h with e | e | e | e
      · exact .inl e
      · exact .inr ⟨e.1, by omega, e.2.2⟩
      · have := S_at_le tok st.rs r hr (fun x _ => by simp only [tok]; repeat' split
                                                      all_goals omega)
        have e2 : tok r = 1 := by simp [tok, h, e.1]
        omega
      · omega
    -- where no worker waits, all have ended
    have allEnd : (∀ r ∈ st.rs, r.prog = 1 → r.at_ = 8) → S c1 st.rs ≤ S wpast st.rs := by
      intro hh
      apply S_le; intro r hr
      by_cases h : r.prog = 1
      · have := hh r hr h
        simp [c1, wpast, h, this]
      · simp [c1, wpast, h]
    obtain ⟨rf, hrf, hpf⟩ := S_pos c2 st.rs (by omega)
    have hpf0 : rf.prog = 2 := by simp only [c2] at hpf; split at hpf <;> omega
    obtain ⟨kf, hkf, ef⟩ := getD_of_mem _ _ hrf
    have hR := ri_of W b jobs hW hW2 hb hb2 (st.rs.eraseIdx kf) (fun x hx => hI.li x (List.mem_of_mem_eraseIdx hx))
    have t2 := S_split c2 st.rs kf hkf
    have f2 : c2 rf = 1 := by simp [c2, hpf0]
    rw [ef] at t2
    have tS := S_split (sent b) st.rs kf hkf
    rw [ef] at tS
    have hb12 := hR.b2
    rw [S_mul] at hb12
    have hb1' := hR.b1
    have notW : 1 ≤ n0 → False := by
      intro h1
      have := allEnd (fun r hr h => by rcases Wk r hr h with e | e <;> omega)
      have := h11 (by omega)
      omega
    have hF := (hI.li rf hrf).feed hpf0
    unfold condF at hF
    rcases (hB rf hrf).f hpf0 with e | e | e | e
    · -- the feeder has ended: so have the workers, and the closer goes on
      have f1 : 1 ≤ S fpast st.rs := by
        have := S_at_le fpast st.rs rf hrf (fun x _ => by simp only [fpast]; repeat' split
                                                          all_goals omega)
        have e2 : fpast rf = 1 := by simp [fpast, hpf0, e]
        omega
      have q0 : s0 = true := h08.2 f1
      have hg0 : S grp st.rs ≤ S (fun _ => 0) st.rs := by
        apply S_le; intro r hr
        by_cases h : r.prog = 0
        · have := (C0 r hr h).1
          simp [grp, h, this]
        · by_cases h1 : r.prog = 1
          · rcases Wk r hr h1 with e | e
            · simp [grp, h1, e]
            · exact absurd e.2.2 (by rw [q0]; decide)
          · simp [grp, h, h1]
      rw [S_zero] at hg0
      obtain ⟨rl, hrl, hpl⟩ := S_pos c3 st.rs (by omega)
      have hpl0 : rl.prog = 3 := by simp only [c3] at hpl; split at hpl <;> omega
      rcases (hB rl hrl).l hpl0 with e | e
      · have := S_at_le lpast st.rs rl hrl (fun x _ => by simp only [lpast]; repeat' split
                                                          all_goals omega)
        have e2 : lpast rl = 1 := by simp [lpast, hpl0, e]
        have := h09.2 (by omega)
        rw [hs1] at this
        exact absurd this (by decide)
      · omega
    · have : sent b rf = reg rf 0 := by simp [sent, hpf0, e.1]
      omega
    · have hs : sent b rf = b := by simp [sent, hpf0, e.1]
      have ht : S tok st.rs ≤ S (fun r => 0) st.rs := by
        apply S_le; intro r hr
        by_cases h1 : r.prog = 1
        · rcases Wk r hr h1 with e | e
          · simp [tok, h1, e]
          · simp [tok, h1, e.1]
        · by_cases h2 : r.prog = 2
          · obtain ⟨k, hk, ek⟩ := getD_of_mem _ _ hr
            rcases (hB r hr).f h2 with e' | e' | e' | e'
            · simp [tok, h2, e']
            · simp [tok, h2, e'.1]
            · simp [tok, h2, e'.1]
            · exact (notW (by omega)).elim
          · simp [tok, h1, h2]
      rw [S_zero] at ht
      exact notW (by omega)
    · exact notW (by omega)


theorem pot_nonneg {W b jobs : Int} (hW : 1 ≤ W) (hb : 1 ≤ b) (hj : 0 ≤ jobs) {r : Rn} (hL : LI W b jobs r) : 0 ≤ pot W b jobs r := by
  obtain ⟨l8, hp, h0, hl, he, hC, hF⟩ := hL
  have hpr : r.prog = 0 ∨ r.prog = 1 ∨ r.prog = 2 ∨ r.prog = 3 := by omega
  rcases hpr with h | h | h | h
  · have C := hC h
    simp only [plen, h, ↓reduceIte] at hl
    unfold condC at C
    by_cases hlt : r.at_ < 15
    · rcases cases15 _ h0 hlt with e | e | e | e | e | e | e | e | e | e | e | e | e | e | e <;> simp [e] at C <;> simp [pot, potC, F0, h, e] <;> omega
    · have e : r.at_ = 15 := by omega
      simp [pot, potC, h, e]
  · simp only [pot, h, Nat.one_ne_zero, ↓reduceIte]
    unfold potW
    repeat' split
    all_goals omega
  · have C := hF h
    simp only [plen, h, Nat.reduceEqDiff, ↓reduceIte] at hl
    unfold condF at C
    by_cases hlt : r.at_ < 19
    · rcases cases19 _ h0 hlt with e | e | e | e | e | e | e | e | e | e | e | e | e | e | e | e | e | e | e <;> simp [e] at C <;> simp [pot, potF, F0, h, e] <;> omega
    · have e : r.at_ = 19 := by omega
      simp [pot, potF, h, e]
  · simp only [plen, h, Nat.reduceEqDiff, ↓reduceIte] at hl
    simp only [pot, h, Nat.reduceEqDiff, ↓reduceIte]
    omega

def bound (W b jobs : Int) : Int := 23 + 8 * W + 4 * b + 15 * jobs

theorem ev_le {W Q b jobs : Int} {st : St} (hI : Inv W Q b jobs st) (hW : 1 ≤ W) (hb : 1 ≤ b) (hj : 0 ≤ jobs) : (st.ev : Int) ≤ bound W b jobs := by
  have h := hI.n.pots
  have := S_nonneg (pot W b jobs) st.rs (fun r hr => pot_nonneg hW hb hj (hI.li r hr))
  unfold bound
  omega

/-- Where all have ended: as many steps as told, as many runners. -/
theorem over_final {W Q b jobs : Int} {st : St} (hI : Inv W Q b jobs st) (hW : 1 ≤ W)
    (h : ∀ r ∈ st.rs, r.ended = true) : (st.ev : Int) = bound W b jobs ∧ (st.rs.length : Int) = W + 3 := by
  have hat : ∀ r ∈ st.rs, r.at_ = plen r.prog := fun r hr => (ended_iff (hI.li r hr)).1 (h r hr)
  obtain ⟨h00, h01, h02, h03, h04, h05, h06, h07, h08, h09, h10, h11, h12, h13, h14, h15⟩ := hI.n
  have E1 : S (pot W b jobs) st.rs ≤ S (fun _ => 0) st.rs := by
    apply S_le; intro r hr
    have hp := (hI.li r hr).prog
    have ha := hat r hr
    have hpr : r.prog = 0 ∨ r.prog = 1 ∨ r.prog = 2 ∨ r.prog = 3 := by omega
    rcases hpr with h | h | h | h <;> simp [plen, h] at ha <;> simp [pot, h, ha, potC, potW, potF]
  have E1' : S (fun _ => 0) st.rs ≤ S (pot W b jobs) st.rs := by
    apply S_le; intro r hr
    have hp := (hI.li r hr).prog
    have ha := hat r hr
    have hpr : r.prog = 0 ∨ r.prog = 1 ∨ r.prog = 2 ∨ r.prog = 3 := by omega
    rcases hpr with h | h | h | h <;> simp [plen, h] at ha <;> simp [pot, h, ha, potC, potW, potF]
  rw [S_zero] at E1 E1'
  have pw : ∀ (f : Rn → Int), (∀ r : Rn, r.at_ = plen r.prog → f r = c0 r) → S f st.rs = S c0 st.rs := by
    intro f hf
    have a1 : S f st.rs ≤ S c0 st.rs := S_le _ _ _ fun r hr => by rw [hf r (hat r hr)]; exact Int.le_refl _
    have a2 : S c0 st.rs ≤ S f st.rs := S_le _ _ _ fun r hr => by rw [hf r (hat r hr)]; exact Int.le_refl _
    omega
  have f1 : S fs st.rs = S c0 st.rs := pw fs (fun r ha => by
    by_cases h : r.prog = 0
    · simp [plen, h] at ha; simp [fs, c0, h, ha]
    · simp [fs, c0, h])
  have f2 : S ls st.rs = S c0 st.rs := pw ls (fun r ha => by
    by_cases h : r.prog = 0
    · simp [plen, h] at ha; simp [ls, c0, h, ha]
    · simp [ls, c0, h])
  have f3 : S cpast st.rs = S c0 st.rs := pw cpast (fun r ha => by
    by_cases h : r.prog = 0
    · simp [plen, h] at ha; simp [cpast, c0, h, ha]
    · simp [cpast, c0, h])
  have f4a : S (ws W) st.rs ≤ S (fun r => W * c0 r) st.rs := S_le _ _ _ fun r hr => by
    have ha := hat r hr
    by_cases h : r.prog = 0
    · simp [plen, h] at ha; simp [ws, c0, h, ha]
    · simp [ws, c0, h]
  have f4b : S (fun r => W * c0 r) st.rs ≤ S (ws W) st.rs := S_le _ _ _ fun r hr => by
    have ha := hat r hr
    by_cases h : r.prog = 0
    · simp [plen, h] at ha; simp [ws, c0, h, ha]
    · simp [ws, c0, h]
  have f5 : S c1 st.rs ≤ S wpast st.rs := S_le _ _ _ fun r hr => by
    have ha := hat r hr
    by_cases h : r.prog = 1
    · simp [plen, h] at ha; simp [wpast, c1, h, ha]
    · simp [wpast, c1, h]
  rw [S_mul, h00] at f4a f4b
  have p1 := h13 (by omega)
  have p2 := h11 (by omega)
  unfold bound
  omega

def start (b : Nat) : St := { rs := [⟨0, 0, [0, 0, 0, 0, 0, 0, 0, 0], false⟩], held := [[], [], []], shut := [false, false, false], groups := [0], cells := List.replicate b 0, ev := 0 }

theorem inv_start0 {W Q jobs : Int} (b : Nat) (hQ : 1 ≤ Q) : Inv W Q b jobs (start b) := by
  refine ⟨?_, rfl, rfl, rfl, by simp [start], ?_⟩
  · intro r hr
    simp only [start, List.mem_singleton] at hr
    subst hr
    exact ⟨rfl, by simp, by simp, by simp [plen], by simp [plen], by simp [condC], by simp [condF]⟩
  · constructor <;> simp [start, S, c0, c1, c2, c3, ws, fs, ls, tok, sent, grp, pot, potC, fpast, lw, lpast, wpast, cpast, heldAt, shutAt, F0] <;> omega

end PoolQ
