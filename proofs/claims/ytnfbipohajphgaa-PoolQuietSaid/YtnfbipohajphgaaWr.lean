/- A step of the pool's machine, in memory. -/
import Derived.Test.YtnfbipohajphgaaWm
import Derived.Test.YtnfbipohajphgaaWo
import Derived.Test.YtnfbipohajphgaaWq
import Derived.Test.YtnfbipohajphgaaPe
set_option linter.unusedVariables false
set_option linter.unusedSimpArgs false
namespace Go.Proofs.Ytnfbipohajphgaa
open Go.RowKit Qn PoolQ

variable {w : World} {B bp : Nat} {pv mv : Value} {S : Psys} {st : St} {C : Comp}

/-- What a step leaves behind. -/
def Stepped (B bp : Nat) (pv mv : Value) (S : Psys) (st1 : St) (w : World) (e : Ending) (w' : World) : Prop :=
  e = .returned (.int .i64 0) ∧ ∃ C', Mach w' B bp pv mv S st1 C' ∧ Below B w w'

theorem step_eq {k : Nat} {r : Rn} {i : Ins} {st' : St} (hr : st.rs.getD k default = r) (hi : insOf S r = i) (ha : act S st k r i = (st', 0)) :
    (PoolQ.step S st k).1 = { st' with ev := st'.ev + 1, rs := st'.rs.set k (adv S (st'.rs.getD k default)) } := by
  subst hr hi
  simp only [PoolQ.step, ha, ne_eq, not_true_eq_false, if_false]

structure Now (S : Psys) (st : St) (k : Nat) (l : List Ins) (aa : Nat) (i : Ins) : Prop where
  hk : k < st.rs.length
  hn : st.rs.length < 512
  he : (st.rs.getD k default).ended = false
  ok : RunOk S st (st.rs.getD k default) l aa i
  haa : aa ≤ 256
  ev : st.ev ≤ 1000000
  sl : st.shut.length ≤ 64
  hl : st.held.length ≤ 64
  gl : st.groups.length ≤ 64
  cl : st.cells.length ≤ 64
  ql : ∀ i, (st.held.getD i []).length ≤ 1000000
  rg : ∀ i, Sm (reg (st.rs.getD k default) i)

theorem Now.chan {k : Nat} {l : List Ins} {aa : Nat} {i : Ins} (N : Now S st k l aa i) (h : Mach w B bp pv mv S st C) (o1 : 5 ≤ i.op) (o3 : i.op ≤ 7) (st' : St) (ha : act S st k (st.rs.getD k default) i = (st', 0)) (hev : st'.ev = st.ev) (hl : st'.rs.length = st.rs.length)
    (hp : (st'.rs.getD k default).prog = (st.rs.getD k default).prog) (hat : -1000000 ≤ (st'.rs.getD k default).at_ ∧ (st'.rs.getD k default).at_ ≤ 1000000)
    (hact : ∀ w1 eb, EvBlk w1 B eb C k i.op i.a 0 false → Mach w1 B bp pv mv S st C → Calls Try.prog 23 #[.pointer (some ⟨bp, 0, none⟩), .int .i64 k, .agg #[.int .i64 i.op, .int .i64 i.a, .int .i64 i.b, .int .i64 i.c], .pointer (some ⟨eb, 0, none⟩)] w1 fun e w' => e = .returned (.int .i64 0) ∧
      Did B bp pv mv S eb k i.op C.ev st' w1 w') :
    Calls Try.prog 17 #[.pointer (some ⟨bp, 0, none⟩), .int .i64 k] w (Stepped B bp pv mv S (PoolQ.step S st k).1 w) := by
  rw [step_eq rfl N.ok.insOf ha]
  exact step_chan h k N.hk (by have := N.hn; omega) N.he l aa i N.ok o1 o3 st' (by rw [hev]; exact N.ev) (by rw [hl]; exact N.hk) (by rw [hl]; have := N.hn; omega) hat l (by rw [hp]; exact N.ok.prog) hact

theorem Now.shared {k : Nat} {l : List Ins} {aa : Nat} {i : Ins} (N : Now S st k l aa i) (h : Mach w B bp pv mv S st C) (o1 : 8 ≤ i.op) (o3 : i.op ≤ 15) (st' : St) (ha : act S st k (st.rs.getD k default) i = (st', 0)) (hev : st'.ev = st.ev) (hl : st.rs.length ≤ st'.rs.length) (hl2 : st'.rs.length ≤ st.rs.length + 1)
    (hp : (st'.rs.getD k default).prog = (st.rs.getD k default).prog) (hat : -1000000 ≤ (st'.rs.getD k default).at_ ∧ (st'.rs.getD k default).at_ ≤ 1000000)
    (hact : ∀ w1 eb, EvBlk w1 B eb C k i.op i.a 0 false → Mach w1 B bp pv mv S st C → Calls Try.prog 24 #[.pointer (some ⟨bp, 0, none⟩), .int .i64 k, .agg #[.int .i64 i.op, .int .i64 i.a, .int .i64 i.b, .int .i64 i.c], .pointer (some ⟨eb, 0, none⟩)] w1 fun e w' => e = .returned (.int .i64 0) ∧
      Did B bp pv mv S eb k i.op C.ev st' w1 w') :
    Calls Try.prog 17 #[.pointer (some ⟨bp, 0, none⟩), .int .i64 k] w (Stepped B bp pv mv S (PoolQ.step S st k).1 w) := by
  rw [step_eq rfl N.ok.insOf ha]
  exact step_shared h k N.hk (by have := N.hn; omega) N.he l aa i N.ok o1 o3 st' (by rw [hev]; exact N.ev) (by have := N.hk; omega) (by have := N.hn; omega) hat l (by rw [hp]; exact N.ok.prog) hact

theorem Now.own {k : Nat} {l : List Ins} {aa : Nat} {i : Ins} (N : Now S st k l aa i) (h : Mach w B bp pv mv S st C) (o1 : 1 ≤ i.op) (o3 : i.op ≤ 4 ∨ i.op = 16) (st' : St) (ha : act S st k (st.rs.getD k default) i = (st', 0)) (hev : st'.ev = st.ev) (hl : st'.rs.length = st.rs.length)
    (hp : (st'.rs.getD k default).prog = (st.rs.getD k default).prog) (hat : -1000000 ≤ (st'.rs.getD k default).at_ ∧ (st'.rs.getD k default).at_ ≤ 1000000)
    (hact : ∀ w1, Mach w1 B bp pv mv S st C → Calls Try.prog 25 #[.pointer (some ⟨bp, 0, none⟩), .int .i64 k, .agg #[.int .i64 i.op, .int .i64 i.a, .int .i64 i.b, .int .i64 i.c]] w1 fun e w' => e = .returned (.tuple #[]) ∧
      OwnDid B bp pv mv S st' C w1 w') :
    Calls Try.prog 17 #[.pointer (some ⟨bp, 0, none⟩), .int .i64 k] w (Stepped B bp pv mv S (PoolQ.step S st k).1 w) := by
  rw [step_eq rfl N.ok.insOf ha]
  rcases o3 with o3 | o3
  · exact step_own_low h k N.hk (by have := N.hn; omega) N.he l aa i N.ok o3 o1 st' (by rw [hev]; exact N.ev) (by rw [hl]; exact N.hk) (by rw [hl]; have := N.hn; omega) hat l (by rw [hp]; exact N.ok.prog) hact
  · exact step_own_end h k N.hk (by have := N.hn; omega) N.he l aa i N.ok o3 st' (by rw [hev]; exact N.ev) (by rw [hl]; exact N.hk) (by rw [hl]; have := N.hn; omega) hat l (by rw [hp]; exact N.ok.prog) hact

theorem regN (r : Rn) (g : Nat) : reg r (g : Int) = r.regs[g]?.getD 0 := by simp [reg]

theorem step_walk {k : Nat} {l : List Ins} {aa : Nat} {i : Ins} (N : Now S st k l aa i) (h : Mach w B bp pv mv S st C) (h0 : (act S st k (st.rs.getD k default) i).2 = 0)
    (hc0 : 0 ≤ i.c) (h2 : i.op = 2 → Sm (reg (st.rs.getD k default) i.a + reg (st.rs.getD k default) i.b)) (hg : i.op = 10 → -1 ≤ i.b ∧ i.b ≤ 1 ∧ -1000 ≤ st.groups.getD i.a.toNat 0 ∧ st.groups.getD i.a.toNat 0 ≤ 1000) :
    Calls Try.prog 17 #[.pointer (some ⟨bp, 0, none⟩), .int .i64 k] w (Stepped B bp pv mv S (PoolQ.step S st k).1 w) := by
  have hk := N.hk
  have hn : st.rs.length ≤ 1000000 := by have := N.hn; omega
  have hat0 : -1000000 ≤ (st.rs.getD k default).at_ ∧ (st.rs.getD k default).at_ ≤ 1000000 := by have := N.ok.hat; have := N.haa; omega
  have I := N.ok.ok
  have hc := I.c
  obtain ⟨op, a, b, c⟩ := i
  have hop := I.opr
  have n8 := I.op8
  have n9 := I.op9
  simp only at hop n8 n9 hc
  have hops : op = 1 ∨ op = 2 ∨ op = 3 ∨ op = 4 ∨ op = 5 ∨ op = 6 ∨ op = 7 ∨ op = 10 ∨ op = 11 ∨ op = 12 ∨ op = 13 ∨ op = 14 ∨ op = 15 ∨ op = 16 := by omega
  have eset : ∀ r' : Rn, (st.rs.set k r').getD k default = r' := fun r' => getD_set_eq _ _ _ _ hk
  have hc0' : 0 ≤ c := hc0
  rcases hops with rfl | rfl | rfl | rfl | rfl | rfl | rfl | rfl | rfl | rfl | rfl | rfl | rfl | rfl
  · obtain ⟨ra1, ra2⟩ := I.ra (by simp)
    obtain ⟨an, rfl⟩ := Int.eq_ofNat_of_zero_le ra1
    simp only at ra2
    refine N.own h (by simp) (by simp) { st with rs := st.rs.set k (setReg (st.rs.getD k default) an b) } (by simp [act]) rfl (by simp) (by rw [eset]; rfl) (by rw [eset]; exact hat0) (fun w1 hm => ?_)
    exact own_set hm k hk hn an (by omega) b c
  · obtain ⟨ra1, ra2⟩ := I.ra (by simp)
    obtain ⟨rb1, rb2⟩ := I.rb (by simp)
    obtain ⟨an, rfl⟩ := Int.eq_ofNat_of_zero_le ra1
    obtain ⟨bn, rfl⟩ := Int.eq_ofNat_of_zero_le rb1
    simp only at ra2 rb2
    have hs := h2 rfl
    unfold Sm at hs
    simp only at hs
    have hwr := wrap_in (reg (st.rs.getD k default) an + reg (st.rs.getD k default) bn) (by omega)
    refine N.own h (by simp) (by simp) { st with rs := st.rs.set k (setReg (st.rs.getD k default) an (reg (st.rs.getD k default) an + reg (st.rs.getD k default) bn)) } (by simp [-List.getD_eq_getElem?_getD, act, hwr]) rfl (by simp) (by rw [eset]; rfl) (by rw [eset]; exact hat0) (fun w1 hm => ?_)
    exact own_sum hm k hk hn an bn (by omega) (by omega) c (by omega)
  · obtain ⟨ra1, ra2⟩ := I.ra (by simp)
    obtain ⟨rb1, rb2⟩ := I.rb (by simp)
    obtain ⟨an, rfl⟩ := Int.eq_ofNat_of_zero_le ra1
    obtain ⟨bn, rfl⟩ := Int.eq_ofNat_of_zero_le rb1
    simp only at ra2 rb2
    by_cases hlt : reg (st.rs.getD k default) an < reg (st.rs.getD k default) bn
    · refine N.own h (by simp) (by simp) { st with rs := st.rs.set k { st.rs.getD k default with at_ := c - 1 } } (by simp [-List.getD_eq_getElem?_getD, act, hlt]) rfl (by simp) (by rw [eset]) (by rw [eset]; simp only; omega) (fun w1 hm => ?_)
      exact own_less_yes hm k hk hn an bn (by omega) (by omega) c hc hlt
    · refine N.own h (by simp) (by simp) st (by simp [-List.getD_eq_getElem?_getD, act, hlt]) rfl rfl rfl hat0 (fun w1 hm => ?_)
      exact own_less_no hm k hk hn an bn (by omega) (by omega) c hlt
  · refine N.own h (by simp) (by simp) { st with rs := st.rs.set k { st.rs.getD k default with at_ := c - 1 } } (by simp [act]) rfl (by simp) (by rw [eset]) (by rw [eset]; simp only; omega) (fun w1 hm => ?_)
    exact own_jump hm k hk hn a b c hc
  · obtain ⟨ca1, ca2, ca3, ca4⟩ := I.chan (by simp)
    obtain ⟨rb1, rb2⟩ := I.rb (by simp)
    obtain ⟨an, rfl⟩ := Int.eq_ofNat_of_zero_le ca1
    obtain ⟨bn, rfl⟩ := Int.eq_ofNat_of_zero_le rb1
    simp only [Int.toNat_natCast] at ca2 ca3 ca4 rb2
    have hs : st.shut.getD an false = false := by
      cases hs : st.shut.getD an false with
      | false => rfl
      | true => simp only [act, shutAt, Int.toNat_natCast, hs, if_true] at h0; cases h0
    refine N.chan h (by simp) (by simp) { st with held := st.held.set an (st.held.getD an [] ++ [reg (st.rs.getD k default) bn]) } (by simp only [act, shutAt, heldAt, Int.toNat_natCast, hs, if_true, Bool.false_eq_true, if_false]) rfl rfl rfl hat0 (fun w1 eb hev hm => ?_)
    exact chan_send hm k hk hn an bn c (by omega) ca2 ca3 N.sl N.hl hs (N.ql an) eb _ _ _ _ _ hev
  · obtain ⟨ca1, ca2, ca3, ca4⟩ := I.chan (by simp)
    obtain ⟨rb1, rb2⟩ := I.rb (by simp)
    obtain ⟨an, rfl⟩ := Int.eq_ofNat_of_zero_le ca1
    obtain ⟨bn, rfl⟩ := Int.eq_ofNat_of_zero_le rb1
    simp only [Int.toNat_natCast] at ca2 ca3 ca4 rb2
    have hql := N.ql an
    cases hL : st.held.getD an [] with
    | nil =>
      refine N.chan h (by simp) (by simp) { st with rs := st.rs.set k { st.rs.getD k default with at_ := c - 1 } } (by simp [-List.getD_eq_getElem?_getD, act, heldAt, hL]) rfl (by simp) (by rw [eset]) (by rw [eset]; simp only; omega) (fun w1 eb hev hm => ?_)
      exact chan_take_none hm k hk hn an bn c (by omega) ca3 N.hl hc hL eb _ _ _ _ _ hev
    | cons x L =>
      rw [hL] at hql
      refine N.chan h (by simp) (by simp) { st with rs := st.rs.set k (setReg (st.rs.getD k default) bn x), held := st.held.set an L } (by simp [-List.getD_eq_getElem?_getD, act, heldAt, hL]) rfl (by simp) (by rw [eset]; rfl) (by rw [eset]; exact hat0) (fun w1 eb hev hm => ?_)
      exact chan_take_some hm k hk hn an bn c (by omega) ca3 N.hl x L (by simp at hql; omega) hL eb _ _ _ _ _ hev
  · obtain ⟨ca1, ca2, ca3, ca4⟩ := I.chan (by simp)
    obtain ⟨rb1, rb2⟩ := I.rb (by simp)
    obtain ⟨an, rfl⟩ := Int.eq_ofNat_of_zero_le ca1
    obtain ⟨bn, rfl⟩ := Int.eq_ofNat_of_zero_le rb1
    simp only [Int.toNat_natCast] at ca2 ca3 ca4 rb2
    have hs : st.shut.getD an false = false := by
      cases hs : st.shut.getD an false with
      | false => rfl
      | true => simp [-List.getD_eq_getElem?_getD, act, shutAt, hs] at h0
    refine N.chan h (by simp) (by simp) { st with shut := st.shut.set an true } (by simp [-List.getD_eq_getElem?_getD, act, shutAt, hs]) rfl rfl rfl hat0 (fun w1 eb hev hm => ?_)
    exact chan_close hm k hk hn an bn c (by omega) ca2 N.sl hs eb _ _ _ _ _ hev
  · obtain ⟨ga1, ga2⟩ := I.group (by simp)
    obtain ⟨an, rfl⟩ := Int.eq_ofNat_of_zero_le ga1
    obtain ⟨g1, g2, g3, g4⟩ := hg rfl
    simp only [Int.toNat_natCast] at ga2 g1 g2 g3 g4
    have hw : wrap (st.groups.getD an 0 + b) = st.groups.getD an 0 + b := wrap_in _ (by omega)
    have hs : ¬ st.groups.getD an 0 + b < 0 := by
      intro hlt
      simp [-List.getD_eq_getElem?_getD, act, hw, hlt] at h0
    refine N.shared h (by simp) (by simp) { st with groups := st.groups.set an (st.groups.getD an 0 + b) } (by simp [-List.getD_eq_getElem?_getD, act, hw, hs]) rfl (Nat.le_refl _) (by simp) rfl hat0 (fun w1 eb hev hm => ?_)
    exact shared_group hm k hk hn an b c ga2 N.gl (by omega) eb _ _ _ _ _ hev
  · refine N.shared h (by simp) (by simp) st (by simp [act]) rfl (Nat.le_refl _) (by simp) rfl hat0 (fun w1 eb hev hm => ?_)
    exact shared_wait hm k a b c eb _ _ _ _ _ hev
  · obtain ⟨ra1, ra2⟩ := I.ra (by simp)
    obtain ⟨rb1, rb2⟩ := I.rb (by simp)
    obtain ⟨an, rfl⟩ := Int.eq_ofNat_of_zero_le ra1
    obtain ⟨bn, rfl⟩ := Int.eq_ofNat_of_zero_le rb1
    simp only at ra2 rb2
    have hr := N.rg an
    unfold Sm at hr
    refine N.shared h (by simp) (by simp) { st with rs := st.rs.set k (setReg (st.rs.getD k default) bn (st.cells.getD (rest (reg (st.rs.getD k default) an) st.cells.length).toNat 0)) } (by simp [act]) rfl (by simp) (by simp) (by rw [eset]; rfl) (by rw [eset]; exact hat0) (fun w1 eb hev hm => ?_)
    exact shared_load hm k hk hn an bn c (by omega) (by omega) (by have := N.cl; omega) (I.cells (by simp)) (by omega) eb _ _ _ _ _ hev
  · obtain ⟨ra1, ra2⟩ := I.ra (by simp)
    obtain ⟨rb1, rb2⟩ := I.rb (by simp)
    obtain ⟨an, rfl⟩ := Int.eq_ofNat_of_zero_le ra1
    obtain ⟨bn, rfl⟩ := Int.eq_ofNat_of_zero_le rb1
    simp only at ra2 rb2
    have hr := N.rg an
    unfold Sm at hr
    refine N.shared h (by simp) (by simp) { st with cells := st.cells.set (rest (reg (st.rs.getD k default) an) st.cells.length).toNat (reg (st.rs.getD k default) bn) } (by simp [act]) rfl (Nat.le_refl _) (by simp) rfl hat0 (fun w1 eb hev hm => ?_)
    exact shared_store hm k hk hn an bn c (by omega) (by omega) (by have := N.cl; omega) (I.cells (by simp)) (by omega) eb _ _ _ _ _ hev
  · obtain ⟨pa1, pa2⟩ := I.prog (by simp)
    obtain ⟨an, rfl⟩ := Int.eq_ofNat_of_zero_le pa1
    simp only [Int.toNat_natCast] at pa2
    have hlt : ¬ 512 ≤ st.rs.length := by have := N.hn; omega
    have eap : (st.rs ++ [({ prog := an, at_ := 0, regs := (st.rs.getD k default).regs, ended := (S.progs[an]?.getD []).length == 0 } : Rn)]).getD k default = st.rs.getD k default := by
      simp only [List.getD, List.getElem?_append_left hk]
    refine N.shared h (by simp) (by simp) { st with rs := st.rs ++ [{ prog := an, at_ := 0, regs := (st.rs.getD k default).regs, ended := (S.progs[an]?.getD []).length == 0 }] } (by simp [act, hlt]) rfl (by simp) (by simp) (by rw [eap]) (by rw [eap]; exact hat0) (fun w1 eb hev hm => ?_)
    exact shared_new hm k hk N.hn an b c pa2 eb _ _ _ _ _ hev
  · obtain ⟨rb1, rb2⟩ := I.rb (by simp)
    obtain ⟨bn, rfl⟩ := Int.eq_ofNat_of_zero_le rb1
    simp only at rb2
    refine N.shared h (by simp) (by simp) st (by simp [act]) rfl (Nat.le_refl _) (by simp) rfl hat0 (fun w1 eb hev hm => ?_)
    exact shared_work hm k hk hn a bn c (by omega) eb _ _ _ _ _ hev
  · refine N.own h (by simp) (by simp) { st with rs := st.rs.set k { st.rs.getD k default with ended := true } } (by simp [act]) rfl (by simp) (by rw [eset]) (by rw [eset]; exact hat0) (fun w1 hm => ?_)
    exact own_end hm k hk hn a b c
end Go.Proofs.Ytnfbipohajphgaa
