/- The reference's machine in memory: where its world lies, and what a store into one part of it does to the others. -/
import Derived.Test.YtnfbipohajphgaaMm
import Derived.Test.YtnfbipohajphgaaPl
set_option linter.unusedVariables false
set_option linter.unusedSimpArgs false
namespace Qn
open Go Go.RowKit PoolQ

def rcells (r : Rn) : List Value := .int .i64 r.prog :: .int .i64 r.at_ :: (r.regs.map (Value.int .i64) ++ [.bool r.ended])
def flat (rs : List Rn) : List Value := rs.flatMap rcells

theorem rcells_length (r : Rn) (h : r.regs.length = 8) : (rcells r).length = 11 := by simp [rcells, h]
theorem flat_length : ∀ (rs : List Rn), (∀ r ∈ rs, r.regs.length = 8) → (flat rs).length = rs.length * 11
  | [], _ => rfl
  | r :: rs, h => by
    have h1 := flat_length rs (fun x hx => h x (by simp [hx]))
    have h2 := rcells_length r (h r (by simp))
    simp only [flat, List.flatMap_cons, List.length_append, List.length_cons] at h1 ⊢
    omega
theorem flat_get : ∀ (rs : List Rn) (k j : Nat) (u : Value), (∀ r ∈ rs, r.regs.length = 8) → k < rs.length → (rcells (rs.getD k default))[j]? = some u → (flat rs)[k * 11 + j]? = some u
  | [], k, j, u, _, hk, _ => by simp at hk
  | r :: rs, 0, j, u, h, _, hu => by
    have h2 := rcells_length r (h r (by simp))
    simp only [List.getD_cons_zero] at hu
    have hj := (List.getElem?_eq_some_iff.1 hu).1
    simp only [flat, List.flatMap_cons, Nat.zero_mul, Nat.zero_add]
    rw [List.getElem?_append_left (by omega)]
    exact hu
  | r :: rs, k + 1, j, u, h, hk, hu => by
    have h2 := rcells_length r (h r (by simp))
    have ih := flat_get rs k j u (fun x hx => h x (by simp [hx])) (by simpa using hk) (by simpa using hu)
    simp only [flat, List.flatMap_cons] at ih ⊢
    rw [List.getElem?_append_right (by omega), h2, show (k + 1) * 11 + j - 11 = k * 11 + j from by omega]
    exact ih
theorem flat_set : ∀ (rs : List Rn) (k j : Nat) (u : Value) (r' : Rn), (∀ r ∈ rs, r.regs.length = 8) → k < rs.length → j < 11 → rcells r' = (rcells (rs.getD k default)).set j u → flat (rs.set k r') = (flat rs).set (k * 11 + j) u
  | [], k, j, u, _, _, hk, _, _ => by simp at hk
  | r :: rs, 0, j, u, r', h, _, hj, hu => by
    have h2 := rcells_length r (h r (by simp))
    simp only [List.getD_cons_zero] at hu
    simp only [flat, List.set_cons_zero, List.flatMap_cons, Nat.zero_mul, Nat.zero_add, hu]
    rw [List.set_append_left _ _ (by omega)]
  | r :: rs, k + 1, j, u, r', h, hk, hj, hu => by
    have h2 := rcells_length r (h r (by simp))
    have ih := flat_set rs k j u r' (fun x hx => h x (by simp [hx])) (by simpa using hk) hj (by simpa using hu)
    simp only [flat, List.set_cons_succ, List.flatMap_cons] at ih ⊢
    rw [ih, List.set_append_right _ _ (by omega), h2, show (k + 1) * 11 + j - 11 = k * 11 + j from by omega]
theorem flat_append (rs : List Rn) (r : Rn) : flat (rs ++ [r]) = flat rs ++ rcells r := by simp [flat]

/-- The system that is played lies below block B, and is not written. -/
structure SysMem (w : World) (B : Nat) (pv mv : Value) (S : Psys) : Prop where
  progs : ∃ (pb cp : Nat) (ib ci : Nat → Nat), pv = .slice (some ⟨pb, 0, none⟩) S.progs.length cp ∧ pb < B ∧ S.progs.length ≤ 64 ∧
    ∀ p l, S.progs[p]? = some l → ib p < B ∧ l.length ≤ 256 ∧ w.cell? ⟨pb, p, none⟩ = some (.slice (some ⟨ib p, 0, none⟩) l.length (ci p)) ∧
      ∀ j i, l[j]? = some i → w.cell? ⟨ib p, j * 4, none⟩ = some (.int .i64 i.op) ∧ w.cell? ⟨ib p, j * 4 + 1, none⟩ = some (.int .i64 i.a) ∧
        w.cell? ⟨ib p, j * 4 + 2, none⟩ = some (.int .i64 i.b) ∧ w.cell? ⟨ib p, j * 4 + 3, none⟩ = some (.int .i64 i.c)
  rooms : ∃ mb cm : Nat, mv = .slice (some ⟨mb, 0, none⟩) S.rooms.length cm ∧ mb < B ∧ S.rooms.length ≤ 64 ∧ ∀ j r, S.rooms[j]? = some r → w.cell? ⟨mb, j, none⟩ = some (.int .i64 r)

theorem SysMem.carry {w w' : World} {B : Nat} {pv mv : Value} {S : Psys} (h : SysMem w B pv mv S) (hb : ∀ k, k < B → w'.heap[k]? = w.heap[k]?) : SysMem w' B pv mv S := by
  have hc : ∀ b o, b < B → w'.cell? ⟨b, o, none⟩ = w.cell? ⟨b, o, none⟩ := fun b o hlt => World.cell?_of_block (hb b hlt)
  obtain ⟨⟨pb, cp, ib, ci, h1, h2, h3, h4⟩, mb, cm, k1, k2, k3, k4⟩ := h
  refine ⟨⟨pb, cp, ib, ci, h1, h2, h3, fun p l hp => ?_⟩, mb, cm, k1, k2, k3, fun j r hj => by rw [hc _ _ k2]; exact k4 j r hj⟩
  obtain ⟨a1, a2, a3, a4⟩ := h4 p l hp
  refine ⟨a1, a2, by rw [hc _ _ h2]; exact a3, fun j i hj => ?_⟩
  obtain ⟨b1, b2, b3, b4⟩ := a4 j i hj
  exact ⟨by rw [hc _ _ a1]; exact b1, by rw [hc _ _ a1]; exact b2, by rw [hc _ _ a1]; exact b3, by rw [hc _ _ a1]; exact b4⟩

structure Comp where
  rv : Value
  hv : Value
  sv : Value
  lv : Value
  gv : Value
  cv : Value
  ev : Value
  qs : List Value
  xs : List Value

def Apart (u v : Value) : Prop := ∀ g, u.ownBlock = some g → v.ownBlock ≠ some g
theorem Apart.symm {u v : Value} (h : Apart u v) : Apart v u := fun g h1 h2 => h g h2 h1

theorem OwnS.apart {w : World} {B B' : Nat} {e e' : TypeId} {s s' : Nat} {u v : Value} {n m : Nat} {xs ys : List Value} (h : OwnS w B e s u n xs) (k : OwnS w B' e' s' v m ys) (hne : e ≠ e') : Apart u v := by
  intro g h1 h2
  rcases h.2 with ⟨rfl, _⟩ | ⟨g1, o1, c1, cur1, rfl, _, hg1, _⟩
  · simp [Value.ownBlock] at h1
  · rcases k.2 with ⟨rfl, _⟩ | ⟨g2, o2, c2, cur2, rfl, _, hg2, _⟩
    · simp [Value.ownBlock] at h2
    · simp [Value.ownBlock] at h1 h2
      subst h1
      subst h2
      rw [hg1] at hg2
      simp at hg2
      exact hne hg2.2

theorem OwnS.ne_block {w : World} {B : Nat} {e e' : TypeId} {s : Nat} {u : Value} {n : Nat} {xs : List Value} {b : Nat} {c : Array Value} (h : OwnS w B e s u n xs) (hb : w.heap[b]? = some (.cells c e' (0, 0))) (hne : e ≠ e') : u.ownBlock ≠ some b := by
  intro h1
  rcases h.2 with ⟨rfl, _⟩ | ⟨g1, o1, c1, cur1, rfl, _, hg1, _⟩
  · simp [Value.ownBlock] at h1
  · simp [Value.ownBlock] at h1
    subst h1
    rw [hg1] at hb
    simp at hb
    exact hne hb.2

theorem OwnS.keep {w w' : World} {B : Nat} {e : TypeId} {s : Nat} {u : Value} {n : Nat} {xs : List Value} {g : Nat} (h : OwnS w B e s u n xs) (hg : w.grownBy w' (some g)) (hne : u.ownBlock ≠ some g) : OwnS w' B e s u n xs := h.kept hg (.inr hne)

theorem OwnS.keepV {w w' : World} {B : Nat} {e : TypeId} {s : Nat} {u v : Value} {n : Nat} {xs : List Value} (h : OwnS w B e s u n xs) (hg : w.grownBy w' v.ownBlock) (hne : Apart u v) : OwnS w' B e s u n xs := by
  refine h.kept hg ?_
  cases hu : u.ownBlock with
  | none => exact .inl rfl
  | some g => exact .inr (fun e => hne g hu e.symm)

theorem OwnS.lt {w : World} {B : Nat} {e : TypeId} {s : Nat} {u : Value} {n : Nat} {xs : List Value} (h : OwnS w B e s u n xs) {g : Nat} (hg : u.ownBlock = some g) : B ≤ g ∧ g < w.heap.size := by
  rcases h.2 with ⟨rfl, _⟩ | ⟨g1, o1, c1, cur1, rfl, hb, hg1, _⟩
  · simp [Value.ownBlock] at hg
  · simp [Value.ownBlock] at hg
    subst hg
    exact ⟨hb, (Array.getElem?_eq_some_iff.1 hg1).1⟩

/-- A slice that is new, or was there before, is apart from another one that was there before and is apart from the elder. -/
theorem Apart.grown {w : World} {B : Nat} {e : TypeId} {s : Nat} {u v v' : Value} {n : Nat} {xs : List Value} (hu : OwnS w B e s u n xs) (ha : Apart u v) (h : v'.ownBlock = v.ownBlock ∨ ∃ g, v'.ownBlock = some g ∧ w.heap.size ≤ g) : Apart u v' := by
  intro g h1 h2
  rcases h with h | ⟨g', h3, h4⟩
  · exact ha g h1 (by rw [← h]; exact h2)
  · rw [h3] at h2
    simp at h2
    subst h2
    have := (hu.lt h1).2
    omega

/-- The result's block as it is at first. -/
def run0 : Array Value := #[.int .i64 0, .int .i64 0, .slice none 0 0, .int .i64 0, .slice none 0 0]

/-- A block beside the machine that it leaves as it is. -/
def BoxOk (S : Psys) (w : World) : Prop := ∀ g, S.box = some g → w.heap[g]? = some (.cells run0 38 (0, 0))

theorem BoxOk.lt {S : Psys} {w : World} (h : BoxOk S w) {g : Nat} (hg : S.box = some g) : g < w.heap.size := (Array.getElem?_eq_some_iff.1 (h g hg)).1
theorem boxNone {S : Psys} {w w' : World} (h : BoxOk S w) (hg : w.grownBy w' none) : BoxOk S w' := fun g hb => (hg.block g (h.lt hb) (by simp)).trans (h g hb)
theorem boxNe {S : Psys} {w w' : World} {r : Nat} (h : BoxOk S w) (hg : w.grownBy w' (some r)) (hne : S.box ≠ some r) : BoxOk S w' := fun g hb =>
  (hg.block g (h.lt hb) (fun e => hne (by rw [hb, ← e]))).trans (h g hb)
theorem boxTy {S : Psys} {w : World} {r : Nat} {c : Array Value} {t : TypeId} (h : BoxOk S w) (hr : w.heap[r]? = some (.cells c t (0, 0))) (ht : t ≠ 38) : S.box ≠ some r := fun e => by
  have := h r e
  rw [hr] at this
  simp at this
  exact ht this.2
theorem boxBp {S : Psys} {w w' : World} {r : Nat} {c : Array Value} (h : BoxOk S w) (hr : w.heap[r]? = some (.cells c 51 (0, 0))) (hg : w.grownBy w' (some r)) : BoxOk S w' := boxNe h hg (boxTy h hr (by decide))
theorem boxOwn {S : Psys} {w w' : World} {B : Nat} {e : TypeId} {z n : Nat} {u : Value} {xs : List Value} (h : BoxOk S w) (hu : OwnS w B e z u n xs) (he : e ≠ 38) (hg : w.grownBy w' u.ownBlock) : BoxOk S w' := fun g hb =>
  (hg.block g (h.lt hb) (fun e1 => hu.ne_block (h g hb) he e1.symm)).trans (h g hb)

structure Mach (w : World) (B bp : Nat) (pv mv : Value) (S : Psys) (st : St) (C : Comp) : Prop where
  sys : SysMem w B pv mv S
  box : BoxOk S w
  bpB : B ≤ bp
  blk : w.heap[bp]? = some (.cells #[pv, mv, .int .i64 1, .int .i64 0, .int .i64 S.ncells, C.rv, C.hv, C.sv, C.lv, C.gv, C.cv, C.ev] 51 (0, 0))
  regs8 : ∀ r ∈ st.rs, r.regs.length = 8
  rs : OwnS w B 62 11 C.rv st.rs.length (flat st.rs)
  held : OwnS w B 24 1 C.hv C.qs.length C.qs
  ql : C.qs.length = st.held.length
  qs : ∀ (i : Nat) (v : Value), C.qs[i]? = some v → OwnS w B 3 1 v (st.held.getD i []).length ((st.held.getD i []).map (Value.int .i64))
  shut : OwnS w B 4 1 C.sv st.shut.length (st.shut.map Value.bool)
  groups : OwnS w B 3 1 C.gv st.groups.length (st.groups.map (Value.int .i64))
  cells : OwnS w B 3 1 C.cv st.cells.length (st.cells.map (Value.int .i64))
  ev : OwnS w B 66 5 C.ev st.ev C.xs
  gc : Apart C.gv C.cv
  gq : ∀ (i : Nat) (v : Value), C.qs[i]? = some v → Apart C.gv v ∧ Apart C.cv v
  qq : ∀ (i j : Nat) (u v : Value), i ≠ j → C.qs[i]? = some u → C.qs[j]? = some v → Apart u v

variable {w w' : World} {B bp : Nat} {pv mv : Value} {S : Psys} {st : St} {C : Comp}

theorem Mach.lt (h : Mach w B bp pv mv S st C) : bp < w.heap.size := (Array.getElem?_eq_some_iff.1 h.blk).1

/-- New blocks and draws turn nothing. -/
theorem Mach.grown (h : Mach w B bp pv mv S st C) (hg : w.grownBy w' none) : Mach w' B bp pv mv S st C := by
  have k : ∀ {e : TypeId} {s : Nat} {v : Value} {n : Nat} {xs : List Value}, OwnS w B e s v n xs → OwnS w' B e s v n xs := fun h => h.kept hg (by
    rename_i v _ _
    cases hv : v.ownBlock <;> simp)
  have hlt := h.lt
  exact ⟨h.sys.carry (fun i hi => hg.block i (by have := h.bpB; omega) (by simp)), boxNone h.box hg, h.bpB, (hg.block bp hlt (by simp)).trans h.blk, h.regs8, k h.rs, k h.held, h.ql, fun i v hv => k (h.qs i v hv), k h.shut, k h.groups, k h.cells, k h.ev, h.gc, h.gq, h.qq⟩

theorem Mach.alloc (h : Mach w B bp pv mv S st C) (o : Obj) : Mach (w.alloc o) B bp pv mv S st C := h.grown (World.grownBy_alloc w o none)
theorem Mach.drew (h : Mach w B bp pv mv S st C) : Mach w.drew B bp pv mv S st C := h.grown (grownBy_drew w none)

/-- A store into a new block of the caller's own. -/
theorem Mach.other (h : Mach w B bp pv mv S st C) {g : Nat} (hg : w.grownBy w' (some g)) (hbp : g ≠ bp) (hgB : B ≤ g) (hr : C.rv.ownBlock ≠ some g) (hh : C.hv.ownBlock ≠ some g) (hs : C.sv.ownBlock ≠ some g)
    (hgr : C.gv.ownBlock ≠ some g) (hc : C.cv.ownBlock ≠ some g) (he : C.ev.ownBlock ≠ some g) (hq : ∀ (i : Nat) (v : Value), C.qs[i]? = some v → v.ownBlock ≠ some g) (hx : S.box ≠ some g) : Mach w' B bp pv mv S st C := by
  have hlt := h.lt
  exact ⟨h.sys.carry (fun i hi => hg.block i (by have := h.bpB; omega) (by simp; omega)), boxNe h.box hg hx, h.bpB, (hg.block bp hlt (by simp; omega)).trans h.blk, h.regs8, h.rs.keep hg hr, h.held.keep hg hh, h.ql,
    fun i v hv => (h.qs i v hv).keep hg (hq i v hv), h.shut.keep hg hs, h.groups.keep hg hgr, h.cells.keep hg hc, h.ev.keep hg he, h.gc, h.gq, h.qq⟩

/-- A cell of a runner is stored. -/
theorem Mach.setRunner (h : Mach w B bp pv mv S st C) {rb ro rc : Nat} (hrv : C.rv = .slice (some ⟨rb, ro, none⟩) st.rs.length rc) (k j : Nat) (u : Value) (r' : Rn) (hk : k < st.rs.length) (hj : j < 11)
    (hr : rcells r' = (rcells (st.rs.getD k default)).set j u) (h8 : r'.regs.length = 8) :
    Mach (w.setCell ⟨rb, ro + (k * 11 + j), none⟩ u) B bp pv mv S { st with rs := st.rs.set k r' } C := by
  have hlt := h.lt
  have hg := grownBy_setCell w rb (ro + (k * 11 + j)) u
  have hob : C.rv.ownBlock = some rb := by rw [hrv]; rfl
  have hbp : rb ≠ bp := fun e => (h.rs.ne_block h.blk (by decide)) (by rw [hob, e])
  have hrB := (h.rs.lt hob).1
  have hrs : OwnS (w.setCell ⟨rb, ro + (k * 11 + j), none⟩ u) B 62 11 C.rv st.rs.length ((flat st.rs).set (k * 11 + j) u) := by
    have := h.rs
    rw [hrv] at this ⊢
    exact this.stored _ u
  have ap : ∀ {e : TypeId} {s : Nat} {v : Value} {n : Nat} {xs : List Value}, OwnS w B e s v n xs → e ≠ 62 → v.ownBlock ≠ some rb := fun hv he hvb => (hv.apart h.rs he) rb hvb hob
  refine ⟨h.sys.carry (fun i hi => hg.block i (by have := h.bpB; omega) (by simp; omega)), boxOwn h.box h.rs (by decide) (by rw [hob]; exact hg), h.bpB, (hg.block bp hlt (by simp; omega)).trans h.blk, ?_, ?_, h.held.keep hg (ap h.held (by decide)), h.ql,
    fun i v hv => (h.qs i v hv).keep hg (ap (h.qs i v hv) (by decide)), h.shut.keep hg (ap h.shut (by decide)), h.groups.keep hg (ap h.groups (by decide)), h.cells.keep hg (ap h.cells (by decide)), h.ev.keep hg (ap h.ev (by decide)), h.gc, h.gq, h.qq⟩
  · intro r hr
    rcases List.mem_or_eq_of_mem_set hr with hr | rfl
    · exact h.regs8 r hr
    · exact h8
  · rw [flat_set st.rs k j u r' h.regs8 hk hj hr]
    simpa using hrs

/-- A channel is shut. -/
theorem Mach.setShut (h : Mach w B bp pv mv S st C) {sb so sc : Nat} (hsv : C.sv = .slice (some ⟨sb, so, none⟩) st.shut.length sc) (i : Nat) (x : Bool) :
    Mach (w.setCell ⟨sb, so + i, none⟩ (.bool x)) B bp pv mv S { st with shut := st.shut.set i x } C := by
  have hlt := h.lt
  have hg := grownBy_setCell w sb (so + i) (.bool x)
  have hob : C.sv.ownBlock = some sb := by rw [hsv]; rfl
  have hbp : sb ≠ bp := fun e => (h.shut.ne_block h.blk (by decide)) (by rw [hob, e])
  have hrB := (h.shut.lt hob).1
  have hrs : OwnS (w.setCell ⟨sb, so + i, none⟩ (.bool x)) B 4 1 C.sv st.shut.length ((st.shut.map Value.bool).set i (.bool x)) := by
    have := h.shut
    rw [hsv] at this ⊢
    exact this.stored _ _
  have ap : ∀ {e : TypeId} {s : Nat} {v : Value} {n : Nat} {xs : List Value}, OwnS w B e s v n xs → e ≠ 4 → v.ownBlock ≠ some sb := fun hv he hvb => (hv.apart h.shut he) sb hvb hob
  refine ⟨h.sys.carry (fun i hi => hg.block i (by have := h.bpB; omega) (by simp; omega)), boxOwn h.box h.shut (by decide) (by rw [hob]; exact hg), h.bpB, (hg.block bp hlt (by simp; omega)).trans h.blk, h.regs8, h.rs.keep hg (ap h.rs (by decide)), h.held.keep hg (ap h.held (by decide)), h.ql,
    fun i v hv => (h.qs i v hv).keep hg (ap (h.qs i v hv) (by decide)), ?_, h.groups.keep hg (ap h.groups (by decide)), h.cells.keep hg (ap h.cells (by decide)), h.ev.keep hg (ap h.ev (by decide)), h.gc, h.gq, h.qq⟩
  simpa [List.map_set] using hrs

/-- A group is written. -/
theorem Mach.setGroup (h : Mach w B bp pv mv S st C) {sb so sc : Nat} (hsv : C.gv = .slice (some ⟨sb, so, none⟩) st.groups.length sc) (i : Nat) (x : Int) :
    Mach (w.setCell ⟨sb, so + i, none⟩ (.int .i64 x)) B bp pv mv S { st with groups := st.groups.set i x } C := by
  have hlt := h.lt
  have hg := grownBy_setCell w sb (so + i) (.int .i64 x)
  have hob : C.gv.ownBlock = some sb := by rw [hsv]; rfl
  have hbp : sb ≠ bp := fun e => (h.groups.ne_block h.blk (by decide)) (by rw [hob, e])
  have hrB := (h.groups.lt hob).1
  have hrs : OwnS (w.setCell ⟨sb, so + i, none⟩ (.int .i64 x)) B 3 1 C.gv st.groups.length ((st.groups.map (Value.int .i64)).set i (.int .i64 x)) := by
    have := h.groups
    rw [hsv] at this ⊢
    exact this.stored _ _
  have ap : ∀ {e : TypeId} {s : Nat} {v : Value} {n : Nat} {xs : List Value}, OwnS w B e s v n xs → e ≠ 3 → v.ownBlock ≠ some sb := fun hv he hvb => (hv.apart h.groups he) sb hvb hob
  refine ⟨h.sys.carry (fun i hi => hg.block i (by have := h.bpB; omega) (by simp; omega)), boxOwn h.box h.groups (by decide) (by rw [hob]; exact hg), h.bpB, (hg.block bp hlt (by simp; omega)).trans h.blk, h.regs8, h.rs.keep hg (ap h.rs (by decide)), h.held.keep hg (ap h.held (by decide)), h.ql,
    fun i v hv => (h.qs i v hv).keep hg (fun hvb => (h.gq i v hv).1 sb hob hvb), h.shut.keep hg (ap h.shut (by decide)), ?_, h.cells.keep hg (fun hvb => h.gc sb hob hvb), h.ev.keep hg (ap h.ev (by decide)), h.gc, h.gq, h.qq⟩
  simpa [List.map_set] using hrs

/-- A cell is written. -/
theorem Mach.setCellOf (h : Mach w B bp pv mv S st C) {sb so sc : Nat} (hsv : C.cv = .slice (some ⟨sb, so, none⟩) st.cells.length sc) (i : Nat) (x : Int) :
    Mach (w.setCell ⟨sb, so + i, none⟩ (.int .i64 x)) B bp pv mv S { st with cells := st.cells.set i x } C := by
  have hlt := h.lt
  have hg := grownBy_setCell w sb (so + i) (.int .i64 x)
  have hob : C.cv.ownBlock = some sb := by rw [hsv]; rfl
  have hbp : sb ≠ bp := fun e => (h.cells.ne_block h.blk (by decide)) (by rw [hob, e])
  have hrB := (h.cells.lt hob).1
  have hrs : OwnS (w.setCell ⟨sb, so + i, none⟩ (.int .i64 x)) B 3 1 C.cv st.cells.length ((st.cells.map (Value.int .i64)).set i (.int .i64 x)) := by
    have := h.cells
    rw [hsv] at this ⊢
    exact this.stored _ _
  have ap : ∀ {e : TypeId} {s : Nat} {v : Value} {n : Nat} {xs : List Value}, OwnS w B e s v n xs → e ≠ 3 → v.ownBlock ≠ some sb := fun hv he hvb => (hv.apart h.cells he) sb hvb hob
  refine ⟨h.sys.carry (fun i hi => hg.block i (by have := h.bpB; omega) (by simp; omega)), boxOwn h.box h.cells (by decide) (by rw [hob]; exact hg), h.bpB, (hg.block bp hlt (by simp; omega)).trans h.blk, h.regs8, h.rs.keep hg (ap h.rs (by decide)), h.held.keep hg (ap h.held (by decide)), h.ql,
    fun i v hv => (h.qs i v hv).keep hg (fun hvb => (h.gq i v hv).2 sb hob hvb), h.shut.keep hg (ap h.shut (by decide)), h.groups.keep hg (fun hvb => h.gc sb hvb hob), ?_, h.ev.keep hg (ap h.ev (by decide)), h.gc, h.gq, h.qq⟩
  simpa [List.map_set] using hrs


/-- The runners were appended to, and the new slice was stored. -/
theorem Mach.appendRs (h : Mach w B bp pv mv S st C) (rv' : Value) (r : Rn) (h8 : r.regs.length = 8) (hg : w.grownBy w' C.rv.ownBlock) (hn : OwnS w' B 62 11 rv' (st.rs.length + 1) (flat st.rs ++ rcells r)) :
    Mach (w'.setCell ⟨bp, 5, none⟩ rv') B bp pv mv S { st with rs := st.rs ++ [r] } { C with rv := rv' } := by
  have hlt := h.lt
  have hs := grownBy_setCell w' bp 5 rv'
  have hblk : w'.heap[bp]? = some (.cells #[pv, mv, .int .i64 1, .int .i64 0, .int .i64 S.ncells, C.rv, C.hv, C.sv, C.lv, C.gv, C.cv, C.ev] 51 (0, 0)) :=
    (hg.block bp hlt (fun e => h.rs.ne_block h.blk (by decide) e.symm)).trans h.blk
  have kp : ∀ {e : TypeId} {s : Nat} {v : Value} {n : Nat} {xs : List Value}, OwnS w B e s v n xs → e ≠ 62 → e ≠ 51 → OwnS (w'.setCell ⟨bp, 5, none⟩ rv') B e s v n xs := fun hv he h5 =>
    (hv.keepV hg (hv.apart h.rs he)).keep hs ((hv.keepV hg (hv.apart h.rs he)).ne_block hblk h5)
  refine ⟨h.sys.carry (fun i hi => ?_), boxBp (boxOwn h.box h.rs (by decide) hg) hblk hs, h.bpB, ?_, ?_, ?_, kp h.held (by decide) (by decide), h.ql, fun i v hv => kp (h.qs i v hv) (by decide) (by decide), kp h.shut (by decide) (by decide), kp h.groups (by decide) (by decide), kp h.cells (by decide) (by decide), kp h.ev (by decide) (by decide), h.gc, h.gq, h.qq⟩
  · have := h.bpB
    rw [hs.block i (by have := hg.size; omega) (by simp; omega)]
    refine hg.block i (by omega) ?_
    intro e
    have := (h.rs.lt e.symm).1
    omega
  · rw [heap_setCell_same w' bp 5 _ 51 rv' hblk]
    rfl
  · intro x hx
    rcases List.mem_append.1 hx with hx | hx
    · exact h.regs8 x hx
    · rw [List.mem_singleton.1 hx]; exact h8
  · have := hn.keep hs (hn.ne_block hblk (by decide))
    rw [flat_append]
    simpa using this

/-- An event was appended, and the new slice was stored. -/
theorem Mach.appendEv (h : Mach w B bp pv mv S st C) (ev' : Value) (xs' : List Value) (hg : w.grownBy w' C.ev.ownBlock) (hn : OwnS w' B 66 5 ev' (st.ev + 1) xs') :
    Mach (w'.setCell ⟨bp, 11, none⟩ ev') B bp pv mv S { st with ev := st.ev + 1 } { C with ev := ev', xs := xs' } := by
  have hlt := h.lt
  have hs := grownBy_setCell w' bp 11 ev'
  have hblk : w'.heap[bp]? = some (.cells #[pv, mv, .int .i64 1, .int .i64 0, .int .i64 S.ncells, C.rv, C.hv, C.sv, C.lv, C.gv, C.cv, C.ev] 51 (0, 0)) :=
    (hg.block bp hlt (fun e => h.ev.ne_block h.blk (by decide) e.symm)).trans h.blk
  have kp : ∀ {e : TypeId} {s : Nat} {v : Value} {n : Nat} {xs : List Value}, OwnS w B e s v n xs → e ≠ 66 → e ≠ 51 → OwnS (w'.setCell ⟨bp, 11, none⟩ ev') B e s v n xs := fun hv he h5 =>
    (hv.keepV hg (hv.apart h.ev he)).keep hs ((hv.keepV hg (hv.apart h.ev he)).ne_block hblk h5)
  refine ⟨h.sys.carry (fun i hi => ?_), boxBp (boxOwn h.box h.ev (by decide) hg) hblk hs, h.bpB, ?_, h.regs8, kp h.rs (by decide) (by decide), kp h.held (by decide) (by decide), h.ql, fun i v hv => kp (h.qs i v hv) (by decide) (by decide), kp h.shut (by decide) (by decide), kp h.groups (by decide) (by decide), kp h.cells (by decide) (by decide), ?_, h.gc, h.gq, h.qq⟩
  · have := h.bpB
    rw [hs.block i (by have := hg.size; omega) (by simp; omega)]
    refine hg.block i (by omega) ?_
    intro e
    have := (h.ev.lt e.symm).1
    omega
  · rw [heap_setCell_same w' bp 11 _ 51 ev' hblk]
    rfl
  · exact hn.keep hs (hn.ne_block hblk (by decide))

/-- What waits in a channel has turned (an append to it, its first cut off), and the new slice was stored in its place. -/
theorem Mach.setHeld (h : Mach w B bp pv mv S st C) {hb ho hc : Nat} (hhv : C.hv = .slice (some ⟨hb, ho, none⟩) C.qs.length hc) (i : Nat) (v v' : Value) (l' : List Int) (hv : C.qs[i]? = some v)
    (hg : w.grownBy w' v.ownBlock) (hn : OwnS w' B 3 1 v' l'.length (l'.map (Value.int .i64))) (hfr : v'.ownBlock = v.ownBlock ∨ ∃ g, v'.ownBlock = some g ∧ w.heap.size ≤ g) :
    Mach (w'.setCell ⟨hb, ho + i, none⟩ v') B bp pv mv S { st with held := st.held.set i l' } { C with qs := C.qs.set i v' } := by
  have hlt := h.lt
  have hs := grownBy_setCell w' hb (ho + i) v'
  have hqv := h.qs i v hv
  have hi : i < C.qs.length := (List.getElem?_eq_some_iff.1 hv).1
  have hob : C.hv.ownBlock = some hb := by rw [hhv]; rfl
  have hblk : w'.heap[bp]? = some (.cells #[pv, mv, .int .i64 1, .int .i64 0, .int .i64 S.ncells, C.rv, C.hv, C.sv, C.lv, C.gv, C.cv, C.ev] 51 (0, 0)) :=
    (hg.block bp hlt (fun e => hqv.ne_block h.blk (by decide) e.symm)).trans h.blk
  have hheld : OwnS w' B 24 1 C.hv C.qs.length C.qs := h.held.keepV hg (h.held.apart hqv (by decide))
  have hbbp : hb ≠ bp := fun e => (hheld.ne_block hblk (by decide)) (by rw [hob, e])
  have kp : ∀ {e : TypeId} {s : Nat} {u : Value} {n : Nat} {xs : List Value}, OwnS w B e s u n xs → e ≠ 24 → Apart u v → OwnS (w'.setCell ⟨hb, ho + i, none⟩ v') B e s u n xs := fun hu he ha =>
    (hu.keepV hg ha).keep hs (fun e1 => ((hu.keepV hg ha).apart hheld he) hb e1 hob)
  have hnB : OwnS (w'.setCell ⟨hb, ho + i, none⟩ v') B 3 1 v' l'.length (l'.map (Value.int .i64)) := hn.keep hs (fun e1 => (hn.apart hheld (by decide)) hb e1 hob)
  have hBs := h.bpB
  refine ⟨h.sys.carry (fun k hk => ?_), boxOwn (boxOwn h.box hqv (by decide) hg) hheld (by decide) (by rw [hob]; exact hs), h.bpB, ?_, h.regs8, kp h.rs (by decide) (h.rs.apart hqv (by decide)), ?_, ?_, ?_, kp h.shut (by decide) (h.shut.apart hqv (by decide)), kp h.groups (by decide) (h.gq i v hv).1, kp h.cells (by decide) (h.gq i v hv).2, kp h.ev (by decide) (h.ev.apart hqv (by decide)), h.gc, ?_, ?_⟩
  · have h1 := (h.held.lt hob).1
    rw [hs.block k (by have := hg.size; omega) (by simp; omega)]
    refine hg.block k (by omega) ?_
    intro e
    have := (hqv.lt e.symm).1
    omega
  · rw [hs.block bp (by have := hg.size; omega) (by simp; omega)]
    exact hblk
  · have := hheld
    rw [hhv] at this ⊢
    simpa using this.stored i v'
  · simpa using h.ql
  · intro j u hu
    simp only at hu ⊢
    by_cases e : i = j
    · subst e
      rw [List.getElem?_set_self hi] at hu
      simp at hu
      subst hu
      have : (st.held.set i l').getD i [] = l' := by
        rw [List.getD_eq_getElem?_getD, List.getElem?_set_self (by rw [← h.ql]; exact hi)]; rfl
      rw [this]
      exact hnB
    · rw [List.getElem?_set_ne e] at hu
      have : (st.held.set i l').getD j [] = st.held.getD j [] := by
        rw [List.getD_eq_getElem?_getD, List.getElem?_set_ne e, List.getD_eq_getElem?_getD]
      rw [this]
      exact kp (h.qs j u hu) (by decide) (h.qq j i u v (Ne.symm e) hu hv)
  · intro j u hu
    simp only at hu ⊢
    by_cases e : i = j
    · subst e
      rw [List.getElem?_set_self hi] at hu
      simp at hu
      subst hu
      exact ⟨Apart.grown h.groups (h.gq i v hv).1 hfr, Apart.grown h.cells (h.gq i v hv).2 hfr⟩
    · rw [List.getElem?_set_ne e] at hu
      exact h.gq j u hu
  · intro j k u x hjk hu hx
    simp only at hu hx
    by_cases e : i = j
    · subst e
      rw [List.getElem?_set_self hi] at hu
      rw [List.getElem?_set_ne hjk] at hx
      simp at hu
      subst hu
      exact (Apart.grown (h.qs k x hx) (h.qq k i x v (Ne.symm hjk) hx hv) hfr).symm
    · rw [List.getElem?_set_ne e] at hu
      by_cases e2 : i = k
      · subst e2
        rw [List.getElem?_set_self hi] at hx
        simp at hx
        subst hx
        exact Apart.grown (h.qs j u hu) (h.qq j i u v hjk hu hv) hfr
      · rw [List.getElem?_set_ne e2] at hx
        exact h.qq j k u x hjk hu hx


/-! ### What the walks ask -/
theorem Mach.wcell (h : Mach w B bp pv mv S st C) (j : Nat) (u : Value) (hu : [pv, mv, Value.int .i64 1, .int .i64 0, .int .i64 S.ncells, C.rv, C.hv, C.sv, C.lv, C.gv, C.cv, C.ev][j]? = some u) : w.cell? ⟨bp, j, none⟩ = some u := by
  rw [cell_of_row w bp j _ 51 (0, 0) h.blk]
  simpa using hu
theorem Mach.wfree (h : Mach w B bp pv mv S st C) (j : Nat) : w.frozen? ⟨bp, j, none⟩ = false := frozen_of_row w bp j _ 51 h.blk

theorem Mach.rform (h : Mach w B bp pv mv S st C) (hk : 0 < st.rs.length) : ∃ rb ro rc, C.rv = .slice (some ⟨rb, ro, none⟩) st.rs.length rc ∧ rb < w.heap.size ∧ B ≤ rb := by
  obtain ⟨g, o, cap, h1, h2, h3, _⟩ := h.rs.form hk
  exact ⟨g, o, cap, h1, h3, h2⟩

theorem Mach.rcell (h : Mach w B bp pv mv S st C) {rb ro rc : Nat} (hrv : C.rv = .slice (some ⟨rb, ro, none⟩) st.rs.length rc) (k : Nat) (hk : k < st.rs.length) (j : Nat) (u : Value)
    (hu : (rcells (st.rs.getD k default))[j]? = some u) : w.cell? ⟨rb, ro + k * 11 + j, none⟩ = some u := by
  have h1 := h.rs
  rw [hrv] at h1
  rw [Nat.add_assoc]
  exact h1.cell _ _ (flat_get st.rs k j u h.regs8 hk hu)
theorem Mach.rcell0 (h : Mach w B bp pv mv S st C) {rb ro rc : Nat} (hrv : C.rv = .slice (some ⟨rb, ro, none⟩) st.rs.length rc) (k : Nat) (hk : k < st.rs.length) :
    w.cell? ⟨rb, ro + k * 11, none⟩ = some (.int .i64 (st.rs.getD k default).prog) := h.rcell hrv k hk 0 _ rfl
theorem Mach.rfree (h : Mach w B bp pv mv S st C) {rb ro rc : Nat} (hrv : C.rv = .slice (some ⟨rb, ro, none⟩) st.rs.length rc) (j : Nat) : w.frozen? ⟨rb, j, none⟩ = false := by
  have h1 := h.rs
  rw [hrv] at h1
  exact h1.frozen j

/-- The eleven cells of a runner that is written out. -/
theorem Mach.rall (h : Mach w B bp pv mv S st C) {rb ro rc : Nat} (hrv : C.rv = .slice (some ⟨rb, ro, none⟩) st.rs.length rc) (k : Nat) (hk : k < st.rs.length) {p : Nat} {a : Int} {x0 x1 x2 x3 x4 x5 x6 x7 : Int} {e : Bool}
    (hr : st.rs.getD k default = ⟨p, a, [x0, x1, x2, x3, x4, x5, x6, x7], e⟩) :
    w.cell? ⟨rb, ro + k * 11, none⟩ = some (.int .i64 p) ∧ w.cell? ⟨rb, ro + k * 11 + 1, none⟩ = some (.int .i64 a) ∧ w.cell? ⟨rb, ro + k * 11 + 2, none⟩ = some (.int .i64 x0) ∧
    w.cell? ⟨rb, ro + k * 11 + 3, none⟩ = some (.int .i64 x1) ∧ w.cell? ⟨rb, ro + k * 11 + 4, none⟩ = some (.int .i64 x2) ∧ w.cell? ⟨rb, ro + k * 11 + 5, none⟩ = some (.int .i64 x3) ∧
    w.cell? ⟨rb, ro + k * 11 + 6, none⟩ = some (.int .i64 x4) ∧ w.cell? ⟨rb, ro + k * 11 + 7, none⟩ = some (.int .i64 x5) ∧ w.cell? ⟨rb, ro + k * 11 + 8, none⟩ = some (.int .i64 x6) ∧
    w.cell? ⟨rb, ro + k * 11 + 9, none⟩ = some (.int .i64 x7) ∧ w.cell? ⟨rb, ro + k * 11 + 10, none⟩ = some (.bool e) := by
  have q := h.rcell hrv k hk
  rw [hr] at q
  exact ⟨q 0 _ rfl, q 1 _ rfl, q 2 _ rfl, q 3 _ rfl, q 4 _ rfl, q 5 _ rfl, q 6 _ rfl, q 7 _ rfl, q 8 _ rfl, q 9 _ rfl, q 10 _ rfl⟩

theorem regs_eight (l : List Int) (h : l.length = 8) : ∃ x0 x1 x2 x3 x4 x5 x6 x7, l = [x0, x1, x2, x3, x4, x5, x6, x7] := by
  match l, h with
  | [x0, x1, x2, x3, x4, x5, x6, x7], _ => exact ⟨x0, x1, x2, x3, x4, x5, x6, x7, rfl⟩

theorem Mach.runner8 (h : Mach w B bp pv mv S st C) (k : Nat) (hk : k < st.rs.length) : ∃ p a x0 x1 x2 x3 x4 x5 x6 x7 e, st.rs.getD k default = ⟨p, a, [x0, x1, x2, x3, x4, x5, x6, x7], e⟩ := by
  have h8 := h.regs8 (st.rs.getD k default) (by simp [List.getD, List.getElem?_eq_getElem hk])
  generalize st.rs.getD k default = r at h8
  obtain ⟨p, a, l, e⟩ := r
  obtain ⟨x0, x1, x2, x3, x4, x5, x6, x7, rfl⟩ := regs_eight l h8
  exact ⟨p, a, x0, x1, x2, x3, x4, x5, x6, x7, e, rfl⟩

/-- The instruction at which a runner stands. -/
structure InsAt (w : World) (B bp : Nat) (S : Psys) (p at_ : Nat) (i : Ins) (pb np cp ib ni ci : Nat) : Prop where
  c0 : w.cell? ⟨bp, 0, none⟩ = some (.slice (some ⟨pb, 0, none⟩) np cp)
  pp : p < np
  hnp : np ≤ 64
  p0 : w.cell? ⟨pb, p, none⟩ = some (.slice (some ⟨ib, 0, none⟩) ni ci)
  pa : at_ < ni
  hni : ni ≤ 256
  i0 : w.cell? ⟨ib, at_ * 4, none⟩ = some (.int .i64 i.op)
  i1 : w.cell? ⟨ib, at_ * 4 + 1, none⟩ = some (.int .i64 i.a)
  i2 : w.cell? ⟨ib, at_ * 4 + 2, none⟩ = some (.int .i64 i.b)
  i3 : w.cell? ⟨ib, at_ * 4 + 3, none⟩ = some (.int .i64 i.c)
  pB : pb < B
  iB : ib < B
  hl : ∃ l, S.progs[p]? = some l ∧ l.length = ni

theorem Mach.insAt (h : Mach w B bp pv mv S st C) (p at_ : Nat) (l : List Ins) (i : Ins) (hl : S.progs[p]? = some l) (hi : l[at_]? = some i) : ∃ pb np cp ib ni ci, InsAt w B bp S p at_ i pb np cp ib ni ci := by
  obtain ⟨pb, cp, ib, ci, h1, h2, h3, h4⟩ := h.sys.progs
  obtain ⟨a1, a2, a3, a4⟩ := h4 p l hl
  obtain ⟨b1, b2, b3, b4⟩ := a4 at_ i hi
  exact ⟨pb, S.progs.length, cp, ib p, l.length, ci p, (h.wcell 0 pv rfl).trans (by rw [h1]), (List.getElem?_eq_some_iff.1 hl).1, h3, a3, (List.getElem?_eq_some_iff.1 hi).1, a2, b1, b2, b3, b4, h2, a1, l, hl, rfl⟩


theorem Mach.sform (h : Mach w B bp pv mv S st C) (hk : 0 < st.shut.length) : ∃ sb so sc, C.sv = .slice (some ⟨sb, so, none⟩) st.shut.length sc ∧ sb < w.heap.size ∧ B ≤ sb := by
  obtain ⟨g, o, cap, h1, h2, h3, _⟩ := h.shut.form hk
  exact ⟨g, o, cap, h1, h3, h2⟩
theorem Mach.scell (h : Mach w B bp pv mv S st C) {sb so sc : Nat} (hv : C.sv = .slice (some ⟨sb, so, none⟩) st.shut.length sc) (k : Nat) (hk : k < st.shut.length) : w.cell? ⟨sb, so + k, none⟩ = some (.bool (st.shut.getD k false)) := by
  have h1 := h.shut
  rw [hv] at h1
  refine h1.cell _ _ ?_
  simp [List.getD, List.getElem?_eq_getElem hk]
theorem Mach.gform (h : Mach w B bp pv mv S st C) (hk : 0 < st.groups.length) : ∃ sb so sc, C.gv = .slice (some ⟨sb, so, none⟩) st.groups.length sc ∧ sb < w.heap.size ∧ B ≤ sb := by
  obtain ⟨g, o, cap, h1, h2, h3, _⟩ := h.groups.form hk
  exact ⟨g, o, cap, h1, h3, h2⟩
theorem Mach.gcell (h : Mach w B bp pv mv S st C) {sb so sc : Nat} (hv : C.gv = .slice (some ⟨sb, so, none⟩) st.groups.length sc) (k : Nat) (hk : k < st.groups.length) : w.cell? ⟨sb, so + k, none⟩ = some (.int .i64 (st.groups.getD k 0)) := by
  have h1 := h.groups
  rw [hv] at h1
  refine h1.cell _ _ ?_
  simp [List.getD, List.getElem?_eq_getElem hk]
theorem Mach.cform (h : Mach w B bp pv mv S st C) (hk : 0 < st.cells.length) : ∃ sb so sc, C.cv = .slice (some ⟨sb, so, none⟩) st.cells.length sc ∧ sb < w.heap.size ∧ B ≤ sb := by
  obtain ⟨g, o, cap, h1, h2, h3, _⟩ := h.cells.form hk
  exact ⟨g, o, cap, h1, h3, h2⟩
theorem Mach.ccell (h : Mach w B bp pv mv S st C) {sb so sc : Nat} (hv : C.cv = .slice (some ⟨sb, so, none⟩) st.cells.length sc) (k : Nat) (hk : k < st.cells.length) : w.cell? ⟨sb, so + k, none⟩ = some (.int .i64 (st.cells.getD k 0)) := by
  have h1 := h.cells
  rw [hv] at h1
  refine h1.cell _ _ ?_
  simp [List.getD, List.getElem?_eq_getElem hk]
theorem Mach.hform (h : Mach w B bp pv mv S st C) (hk : 0 < C.qs.length) : ∃ sb so sc, C.hv = .slice (some ⟨sb, so, none⟩) C.qs.length sc ∧ sb < w.heap.size ∧ B ≤ sb := by
  obtain ⟨g, o, cap, h1, h2, h3, _⟩ := h.held.form hk
  exact ⟨g, o, cap, h1, h3, h2⟩
/-- What waits in a channel: the slice that stands in its place. -/
theorem Mach.hcell (h : Mach w B bp pv mv S st C) {sb so sc : Nat} (hv : C.hv = .slice (some ⟨sb, so, none⟩) C.qs.length sc) (k : Nat) (hk : k < st.held.length) :
    ∃ v, C.qs[k]? = some v ∧ w.cell? ⟨sb, so + k, none⟩ = some v ∧ OwnS w B 3 1 v (st.held.getD k []).length ((st.held.getD k []).map (Value.int .i64)) := by
  have h1 := h.held
  rw [hv] at h1
  have hk' : k < C.qs.length := by rw [h.ql]; exact hk
  have e : C.qs[k]? = some C.qs[k] := List.getElem?_eq_getElem hk'
  exact ⟨_, e, h1.cell _ _ e, h.qs k _ e⟩
theorem Mach.room (h : Mach w B bp pv mv S st C) : ∃ mb cm, w.cell? ⟨bp, 1, none⟩ = some (.slice (some ⟨mb, 0, none⟩) S.rooms.length cm) ∧ mb < B ∧ S.rooms.length ≤ 64 ∧ ∀ k, k < S.rooms.length → w.cell? ⟨mb, k, none⟩ = some (.int .i64 (S.rooms[k]?.getD 0)) := by
  obtain ⟨mb, cm, h1, h2, h3, h4⟩ := h.sys.rooms
  refine ⟨mb, cm, (h.wcell 1 mv rfl).trans (by rw [h1]), h2, h3, fun k hk => ?_⟩
  have := h4 k S.rooms[k] (List.getElem?_eq_getElem hk)
  rw [this]
  simp [List.getElem?_eq_getElem hk]


theorem Mach.below (h : Mach w B bp pv mv S st C) (hb : Below w.heap.size w w') : Mach w' B bp pv mv S st C := h.grown ⟨hb.os, hb.tape, hb.output, hb.size, fun k hk _ => hb.block k hk⟩


end Qn
