/- Walk: the pool's system (f6). -/
import Derived.Test.YtnfbipohajphgaaWv
import Derived.Test.YtnfbipohajphgaaRl
import Derived.Test.YtnfbipohajphgaaMa
import Derived.Deep.DeepCutAuto
set_option linter.unusedVariables false
set_option linter.unusedSimpArgs false
namespace Go.Proofs.Ytnfbipohajphgaa
open Go.RowKit Qn PoolQ

theorem kAt_of {B : Nat} {ks : List Kd} {i : Nat} {v : Value} {w : World} {k : Kd} (h : ks[i]? = some k) (hk : KOk B k v w) : kAt B ks i v w := by
  unfold kAt; rw [h]; exact hk
theorem kAt_to {B : Nat} {ks : List Kd} {i : Nat} {v : Value} {w : World} {k : Kd} (h : ks[i]? = some k) (hk : kAt B ks i v w) : KOk B k v w := by
  unfold kAt at hk; rw [h] at hk; exact hk
theorem kAt_val {B : Nat} {ks : List Kd} {i : Nat} {v u : Value} {w : World} (h : ks[i]? = some (.val u)) (hk : kAt B ks i v w) : v = u := kAt_to h hk
theorem kAt_ints {B : Nat} {ks : List Kd} {i : Nat} {v : Value} {w : World} {n : Nat} {l : List Int} (h : ks[i]? = some (.ints n l)) (hk : kAt B ks i v w) :
    ∃ g, v = .slice (some ⟨g, 0, none⟩) n n ∧ B ≤ g ∧ w.heap[g]? = some (.cells (l.map (Value.int .i64)).toArray 3 (0, 0)) := by
  obtain ⟨g, h1, h2, -, h4⟩ := kAt_to h hk
  exact ⟨g, h1, h2, h4⟩
theorem kAt_prog {B : Nat} {ks : List Kd} {i : Nat} {v : Value} {w : World} {n : Nat} {t : TypeId} {cs : Array Value} (h : ks[i]? = some (.prog n t cs)) (hk : kAt B ks i v w) :
    ∃ g, v = .slice (some ⟨g, 0, none⟩) n n ∧ B ≤ g ∧ w.heap[g]? = some (.cells cs t (0, 0)) := kAt_to h hk
theorem ints_ok {B g n : Nat} {l : List Int} {w : World} (hB : B ≤ g) (hl : l.length = n) (h : w.heap[g]? = some (.cells (l.map (Value.int .i64)).toArray 3 (0, 0))) : KOk B (.ints n l) (.slice (some ⟨g, 0, none⟩) n n) w := ⟨g, rfl, hB, hl, h⟩
theorem prog_ok {B g n : Nat} {t : TypeId} {cs : Array Value} {w : World} (hB : B ≤ g) (h : w.heap[g]? = some (.cells cs t (0, 0))) : KOk B (.prog n t cs) (.slice (some ⟨g, 0, none⟩) n n) w := ⟨g, rfl, hB, h⟩
theorem cells_of {g : Nat} {l : List Int} {w : World} (h : w.heap[g]? = some (.cells (l.map (Value.int .i64)).toArray 3 (0, 0))) : ∀ j x, l[j]? = some x → w.cell? ⟨g, j, none⟩ = some (.int .i64 x) := by
  intro j x hx
  rw [cell_of_row w g j _ 3 (0, 0) h]
  simp [hx]

def SysMade (W Q b jobs : Int) (w : World) (e : Ending) (w' : World) : Prop :=
  ∃ gp gm, e = .returned (.tuple #[.agg #[.slice (some ⟨gp, 0, none⟩) 4 4, .slice (some ⟨gm, 0, none⟩) 3 3, .int .i64 1, .int .i64 0, .int .i64 b], .int .i64 0]) ∧
    SysMem w' w'.heap.size (.slice (some ⟨gp, 0, none⟩) 4 4) (.slice (some ⟨gm, 0, none⟩) 3 3) (poolSys W Q b jobs) ∧ Below w.heap.size w w'

def icells (l : List Ins) : List Value := l.flatMap fun i => [.int .i64 i.op, .int .i64 i.a, .int .i64 i.b, .int .i64 i.c]

theorem icells_get : ∀ (l : List Ins) (j : Nat) (i : Ins), l[j]? = some i → (icells l)[j * 4]? = some (.int .i64 i.op) ∧ (icells l)[j * 4 + 1]? = some (.int .i64 i.a) ∧ (icells l)[j * 4 + 2]? = some (.int .i64 i.b) ∧ (icells l)[j * 4 + 3]? = some (.int .i64 i.c)
  | [], j, i, h => by simp at h
  | x :: l, 0, i, h => by
    simp at h
    subst h
    simp [icells]
  | x :: l, j + 1, i, h => by
    have ih := icells_get l j i (by simpa using h)
    have e : ∀ k, (icells (x :: l))[(j + 1) * 4 + k]? = (icells l)[j * 4 + k]? := by
      intro k
      have : icells (x :: l) = [.int .i64 x.op, .int .i64 x.a, .int .i64 x.b, .int .i64 x.c] ++ icells l := rfl
      rw [this, List.getElem?_append_right (by simp; omega)]
      congr 1
      simp
      omega
    exact ⟨(e 0).trans ih.1, (e 1).trans ih.2.1, (e 2).trans ih.2.2.1, (e 3).trans ih.2.2.2⟩

theorem sysMem_of {w' : World} {W Q b jobs : Int} {gp gm g8 g9 g10 g11 : Nat}
    (hp : w'.heap[gp]? = some (.cells #[.slice (some ⟨g8, 0, none⟩) 15 15, .slice (some ⟨g9, 0, none⟩) 8 8, .slice (some ⟨g10, 0, none⟩) 19 19, .slice (some ⟨g11, 0, none⟩) 3 3] 45 (0, 0)))
    (hm : w'.heap[gm]? = some (.cells #[.int .i64 Q, .int .i64 Q, .int .i64 b] 3 (0, 0)))
    (h8 : w'.heap[g8]? = some (.cells (icells (combP W)).toArray 43 (0, 0))) (h9 : w'.heap[g9]? = some (.cells (icells workP).toArray 43 (0, 0)))
    (h10 : w'.heap[g10]? = some (.cells (icells (feedP b jobs)).toArray 43 (0, 0))) (h11 : w'.heap[g11]? = some (.cells (icells closP).toArray 43 (0, 0))) :
    SysMem w' w'.heap.size (.slice (some ⟨gp, 0, none⟩) 4 4) (.slice (some ⟨gm, 0, none⟩) 3 3) (poolSys W Q b jobs) := by
  have lt : ∀ {g : Nat} {o : Obj}, w'.heap[g]? = some o → g < w'.heap.size := fun h => (Array.getElem?_eq_some_iff.1 h).1
  have ins : ∀ {g : Nat} {l : List Ins}, w'.heap[g]? = some (.cells (icells l).toArray 43 (0, 0)) → ∀ (j : Nat) (i : Ins), l[j]? = some i → w'.cell? ⟨g, j * 4, none⟩ = some (.int .i64 i.op) ∧ w'.cell? ⟨g, j * 4 + 1, none⟩ = some (.int .i64 i.a) ∧ w'.cell? ⟨g, j * 4 + 2, none⟩ = some (.int .i64 i.b) ∧ w'.cell? ⟨g, j * 4 + 3, none⟩ = some (.int .i64 i.c) := by
    intro g l h j i hi
    obtain ⟨q0, q1, q2, q3⟩ := icells_get l j i hi
    refine ⟨?_, ?_, ?_, ?_⟩
    · rw [cell_of_row w' g _ _ 43 (0, 0) h]; simpa using q0
    · rw [cell_of_row w' g _ _ 43 (0, 0) h]; simpa using q1
    · rw [cell_of_row w' g _ _ 43 (0, 0) h]; simpa using q2
    · rw [cell_of_row w' g _ _ 43 (0, 0) h]; simpa using q3
  refine ⟨⟨gp, 4, fun p => if p = 0 then g8 else if p = 1 then g9 else if p = 2 then g10 else g11, fun p => if p = 0 then 15 else if p = 1 then 8 else if p = 2 then 19 else 3, rfl, lt hp, by simp [poolSys], ?_⟩, gm, 3, rfl, lt hm, by simp [poolSys], ?_⟩
  · intro p l hl
    match p, hl with
    | 0, hl => cases hl; exact ⟨lt h8, by simp [combP], (cell_of_row w' gp 0 _ 45 (0, 0) hp).trans rfl, ins h8⟩
    | 1, hl => cases hl; exact ⟨lt h9, by simp [workP], (cell_of_row w' gp 1 _ 45 (0, 0) hp).trans rfl, ins h9⟩
    | 2, hl => cases hl; exact ⟨lt h10, by simp [feedP], (cell_of_row w' gp 2 _ 45 (0, 0) hp).trans rfl, ins h10⟩
    | 3, hl => cases hl; exact ⟨lt h11, by simp [closP], (cell_of_row w' gp 3 _ 45 (0, 0) hp).trans rfl, ins h11⟩
    | p + 4, hl => simp [poolSys] at hl
  · intro j r hr
    match j, hr with
    | 0, hr => cases hr; exact (cell_of_row w' gm 0 _ 3 (0, 0) hm).trans rfl
    | 1, hr => cases hr; exact (cell_of_row w' gm 1 _ 3 (0, 0) hm).trans rfl
    | 2, hr => cases hr; exact (cell_of_row w' gm 2 _ 3 (0, 0) hm).trans rfl
    | j + 3, hr => simp [poolSys] at hr

theorem setCells_size (b : Nat) : ∀ (vs : List Value) (o : Nat) (w : World), (w.setCells b o vs).heap.size = w.heap.size
  | [], _, _ => rfl
  | v :: vs, o, w => by rw [World.setCells, setCells_size b vs]; simp [World.setCell]

theorem made_of {w w9 : World} {W Q b jobs : Int} {g8 g9 g10 g11 : Nat} (hb : Below w.heap.size w w9) (n8 : w.heap.size + 1 ≠ g8) (n9 : w.heap.size + 1 ≠ g9) (n10 : w.heap.size + 1 ≠ g10) (n11 : w.heap.size + 1 ≠ g11)
    (h8 : w9.heap[g8]? = some (.cells (icells (combP W)).toArray 43 (0, 0))) (h9 : w9.heap[g9]? = some (.cells (icells workP).toArray 43 (0, 0)))
    (h10 : w9.heap[g10]? = some (.cells (icells (feedP b jobs)).toArray 43 (0, 0))) (h11 : w9.heap[g11]? = some (.cells (icells closP).toArray 43 (0, 0))) (vs : List Value) :
    SysMade W Q b jobs w (.returned (.tuple #[.agg #[.slice (some ⟨w9.heap.size, 0, none⟩) 4 4, .slice (some ⟨w9.heap.size + 1, 0, none⟩) 3 3, .int .i64 1, .int .i64 0, .int .i64 b], .int .i64 0]))
      (((w9.setCells (w.heap.size + 1) 0 vs).alloc (.cells #[.slice (some ⟨g8, 0, none⟩) 15 15, .slice (some ⟨g9, 0, none⟩) 8 8, .slice (some ⟨g10, 0, none⟩) 19 19, .slice (some ⟨g11, 0, none⟩) 3 3] 45)).alloc (.cells #[.int .i64 Q, .int .i64 Q, .int .i64 b] 3)) := by
  have hs := grownBy_setCells (w.heap.size + 1) vs 0 w9
  have hz := setCells_size (w.heap.size + 1) vs 0 w9
  have lt : ∀ {w : World} {g : Nat} {o : Obj}, w.heap[g]? = some o → g < w.heap.size := fun h => (Array.getElem?_eq_some_iff.1 h).1
  have c8 := (hs.block g8 (lt h8) (by simp; omega)).trans h8
  have c9 := (hs.block g9 (lt h9) (by simp; omega)).trans h9
  have c10 := (hs.block g10 (lt h10) (by simp; omega)).trans h10
  have c11 := (hs.block g11 (lt h11) (by simp; omega)).trans h11
  have hbs : Below w.heap.size w (w9.setCells (w.heap.size + 1) 0 vs) := hb.trans ⟨hs.os, hs.tape, hs.output, hs.size, fun k hk => by
    by_cases hk9 : k < w9.heap.size
    · exact hs.block k hk9 (by simp; omega)
    · have := hb.size; omega⟩
  generalize w9.setCells (w.heap.size + 1) 0 vs = ws at *
  rw [← hz]
  have hA := ((Below.refl ws.heap.size ws).alloc (Nat.le_refl _) (.cells #[.slice (some ⟨g8, 0, none⟩) 15 15, .slice (some ⟨g9, 0, none⟩) 8 8, .slice (some ⟨g10, 0, none⟩) 19 19, .slice (some ⟨g11, 0, none⟩) 3 3] 45)).alloc (by simp) (.cells #[.int .i64 Q, .int .i64 Q, .int .i64 b] 3)
  have cp : ∀ {g : Nat} {o : Obj}, ws.heap[g]? = some o → ((ws.alloc (.cells #[.slice (some ⟨g8, 0, none⟩) 15 15, .slice (some ⟨g9, 0, none⟩) 8 8, .slice (some ⟨g10, 0, none⟩) 19 19, .slice (some ⟨g11, 0, none⟩) 3 3] 45)).alloc (.cells #[.int .i64 Q, .int .i64 Q, .int .i64 b] 3)).heap[g]? = some o := fun h =>
    (hA.block _ (lt h)).trans h
  exact ⟨ws.heap.size, ws.heap.size + 1, rfl, sysMem_of (blk0 ws _ _) (blk1 ws _ _) (cp c8) (cp c9) (cp c10) (cp c11), hbs.trans (hA.mono hbs.size)⟩

set_option maxRecDepth 8000 in
set_option maxHeartbeats 8000000 in
theorem system_any (w : World) (W Q b jobs : Int) (h1 : 1 ≤ W) (h2 : W ≤ 256) (h3 : 1 ≤ Q) (h4 : Q ≤ 1024) (hb : b = if Q + W ≤ 64 then Q + W else 64) (hj1 : 0 ≤ jobs) (hj2 : jobs ≤ 1024) :
    Calls Try.prog 6 #[.int .i64 jobs, .agg #[.int .i64 W, .int .i64 Q]] w (SysMade W Q b jobs w) := by
  have HBV := Lib.hid hb
  clear hb
  go_enter Try.func6, Try.ntmps6
  go_upto_region 6 with (go_at_call 10; refine (buffers_ok W Q b _ h1 h2 h3 h4 HBV.out).mono ?_; rintro e w5 ⟨rfl, hb5⟩; obtain ⟨hcc5, hff5⟩ := bcell hb5)
  have hsz5 := hb5.size
  simp only [World.alloc, Array.size_push] at hsz5
  have hbox : w5.drew.cell? ⟨w.heap.size, 0, none⟩ = some (.int .i64 W) := by
    rw [World.cell?_drew]
    rw [hcc5 _ _ (by simp; omega)]
    simp
  refine region_rely [28, 29, 30, 31, 32, 33, 34, 35, 36, 37, 38, 39, 40, 41, 42, 43, 44, 45, 46, 47, 48, 49, 50, 51, 52, 53, 54, 55, 56, 57, 58, 59, 8] (kAt (w.heap.size + 1 + 1) [.ints 2 [0, 0], .val (.agg #[.int .i64 1, .int .i64 0, .int .i64 0, .int .i64 0]), .val (.pointer (some ⟨w.heap.size, 0, none⟩)), .val (.int .i64 W), .ints 2 [1, W], .val (.agg #[.int .i64 1, .int .i64 1, .int .i64 W, .int .i64 0]), .ints 2 [2, 1], .val (.agg #[.int .i64 1, .int .i64 2, .int .i64 1, .int .i64 0]), .ints 3 [0, 1, 5], .val (.agg #[.int .i64 3, .int .i64 0, .int .i64 1, .int .i64 5]), .ints 3 [0, 0, 9], .val (.agg #[.int .i64 4, .int .i64 0, .int .i64 0, .int .i64 9]), .ints 2 [0, 1], .val (.agg #[.int .i64 10, .int .i64 0, .int .i64 1, .int .i64 0]), .ints 1 [1], .val (.agg #[.int .i64 14, .int .i64 1, .int .i64 0, .int .i64 0]), .ints 2 [0, 2], .val (.agg #[.int .i64 2, .int .i64 0, .int .i64 2, .int .i64 0]), .ints 3 [0, 0, 3], .val (.agg #[.int .i64 4, .int .i64 0, .int .i64 0, .int .i64 3]), .ints 1 [2], .val (.agg #[.int .i64 14, .int .i64 2, .int .i64 0, .int .i64 0]), .ints 1 [3], .val (.agg #[.int .i64 14, .int .i64 3, .int .i64 0, .int .i64 0]), .ints 3 [1, 3, 14], .val (.agg #[.int .i64 6, .int .i64 1, .int .i64 3, .int .i64 14]), .ints 2 [1, 3], .val (.agg #[.int .i64 15, .int .i64 1, .int .i64 3, .int .i64 0]), .ints 3 [0, 0, 11], .val (.agg #[.int .i64 4, .int .i64 0, .int .i64 0, .int .i64 11]), .val (.agg #[.int .i64 16, .int .i64 0, .int .i64 0, .int .i64 0]), .prog 15 43 #[.int .i64 1, .int .i64 0, .int .i64 0, .int .i64 0, .int .i64 1, .int .i64 1, .int .i64 W, .int .i64 0, .int .i64 1, .int .i64 2, .int .i64 1, .int .i64 0, .int .i64 3, .int .i64 0, .int .i64 1, .int .i64 5, .int .i64 4, .int .i64 0, .int .i64 0, .int .i64 9, .int .i64 10, .int .i64 0, .int .i64 1, .int .i64 0, .int .i64 14, .int .i64 1, .int .i64 0, .int .i64 0, .int .i64 2, .int .i64 0, .int .i64 2, .int .i64 0, .int .i64 4, .int .i64 0, .int .i64 0, .int .i64 3, .int .i64 14, .int .i64 2, .int .i64 0, .int .i64 0, .int .i64 14, .int .i64 3, .int .i64 0, .int .i64 0, .int .i64 6, .int .i64 1, .int .i64 3, .int .i64 14, .int .i64 15, .int .i64 1, .int .i64 3, .int .i64 0, .int .i64 4, .int .i64 0, .int .i64 0, .int .i64 11, .int .i64 16, .int .i64 0, .int .i64 0, .int .i64 0], .prog 15 43 #[.int .i64 1, .int .i64 0, .int .i64 0, .int .i64 0, .int .i64 1, .int .i64 1, .int .i64 W, .int .i64 0, .int .i64 1, .int .i64 2, .int .i64 1, .int .i64 0, .int .i64 3, .int .i64 0, .int .i64 1, .int .i64 5, .int .i64 4, .int .i64 0, .int .i64 0, .int .i64 9, .int .i64 10, .int .i64 0, .int .i64 1, .int .i64 0, .int .i64 14, .int .i64 1, .int .i64 0, .int .i64 0, .int .i64 2, .int .i64 0, .int .i64 2, .int .i64 0, .int .i64 4, .int .i64 0, .int .i64 0, .int .i64 3, .int .i64 14, .int .i64 2, .int .i64 0, .int .i64 0, .int .i64 14, .int .i64 3, .int .i64 0, .int .i64 0, .int .i64 6, .int .i64 1, .int .i64 3, .int .i64 14, .int .i64 15, .int .i64 1, .int .i64 3, .int .i64 0, .int .i64 4, .int .i64 0, .int .i64 0, .int .i64 11, .int .i64 16, .int .i64 0, .int .i64 0, .int .i64 0]]) (fun w' => w'.cell? ⟨w.heap.size, 0, none⟩ = some (.int .i64 W)) (by kernel_rfl) (by kernel_rfl) (by kernel_rfl) ?i60 ?i61 (kAt_mono _ _) ?i62 (fun vs w6 hI6 hb6 hφ => ?_)
  case i60 => exact hbox
  case i61 => exact fun w1 w2 h hb => (hb.cell (p := ⟨w.heap.size, 0, none⟩) (World.block_lt_of_cell? w1 _ h)).trans h
  case i62 =>
    intro i o d ho hd a' w' hra hI hb hφ
    match i, ho, hd with
    | 0, ho, hd =>
      cases ho; cases hd
      go_simp
      exact ⟨_, rfl, (Below.refl _ _).alloc (Nat.le_refl _) _, kAt_of rfl (ints_ok (by have := hb.size; omega) rfl (heap_alloc_new _ _))⟩
    | 1, ho, hd =>
      cases ho; cases hd
      obtain ⟨g, hv, hBg, hh⟩ := kAt_ints (n := 2) (l := [0, 0]) rfl (hφ ⟨0, .data⟩ (by simp) rfl 28 rfl)
      go_simp
      refine (inst_any w' 1 [0, 0] (by simp) _ (.inr ⟨g, rfl, (Array.getElem?_eq_some_iff.1 hh).1, cells_of hh⟩)).mono ?_
      rintro e w2 ⟨rfl, hb2⟩
      exact ⟨_, rfl, hb2, kAt_of rfl rfl⟩
    | 2, ho, hd =>
      cases ho; cases hd
      have e3 : a'.tmps.getD 3 undef = .pointer (some ⟨w.heap.size, 0, none⟩) := by rw [hra.slot 3 (by decide)]; rfl
      go_simp
      exact ⟨_, rfl, Below.refl _ _, kAt_of rfl rfl⟩
    | 3, ho, hd =>
      cases ho; cases hd
      have e30 : a'.tmps.getD 30 undef = .pointer (some ⟨w.heap.size, 0, none⟩) := kAt_val rfl (hφ ⟨2, .data⟩ (by simp) rfl 30 rfl)
      have e30' : a'.tmps[30]?.getD undef = .pointer (some ⟨w.heap.size, 0, none⟩) := by rw [← Array.getD_eq_getD_getElem?]; exact e30
      have hI' := hI
      go_simp
      exact ⟨_, rfl, Below.refl _ _, kAt_of rfl rfl⟩
    | 4, ho, hd =>
      cases ho; cases hd
      have e31 : a'.tmps.getD 31 undef = .int .i64 W := kAt_val rfl (hφ ⟨3, .data⟩ (by simp) rfl 31 rfl)
      have e31' : a'.tmps[31]?.getD undef = .int .i64 W := by rw [← Array.getD_eq_getD_getElem?]; exact e31
      go_simp
      exact ⟨_, rfl, (Below.refl _ _).alloc (Nat.le_refl _) _, kAt_of rfl (ints_ok (by have := hb.size; omega) rfl (heap_alloc_new _ _))⟩
    | 5, ho, hd =>
      cases ho; cases hd
      obtain ⟨g, hv, hBg, hh⟩ := kAt_ints (n := 2) (l := [1, W]) rfl (hφ ⟨4, .data⟩ (by simp) rfl 32 rfl)
      go_simp
      refine (inst_any w' 1 [1, W] (by simp) _ (.inr ⟨g, rfl, (Array.getElem?_eq_some_iff.1 hh).1, cells_of hh⟩)).mono ?_
      rintro e w2 ⟨rfl, hb2⟩
      exact ⟨_, rfl, hb2, kAt_of rfl rfl⟩
    | 6, ho, hd =>
      cases ho; cases hd
      go_simp
      exact ⟨_, rfl, (Below.refl _ _).alloc (Nat.le_refl _) _, kAt_of rfl (ints_ok (by have := hb.size; omega) rfl (heap_alloc_new _ _))⟩
    | 7, ho, hd =>
      cases ho; cases hd
      obtain ⟨g, hv, hBg, hh⟩ := kAt_ints (n := 2) (l := [2, 1]) rfl (hφ ⟨6, .data⟩ (by simp) rfl 34 rfl)
      go_simp
      refine (inst_any w' 1 [2, 1] (by simp) _ (.inr ⟨g, rfl, (Array.getElem?_eq_some_iff.1 hh).1, cells_of hh⟩)).mono ?_
      rintro e w2 ⟨rfl, hb2⟩
      exact ⟨_, rfl, hb2, kAt_of rfl rfl⟩
    | 8, ho, hd =>
      cases ho; cases hd
      go_simp
      exact ⟨_, rfl, (Below.refl _ _).alloc (Nat.le_refl _) _, kAt_of rfl (ints_ok (by have := hb.size; omega) rfl (heap_alloc_new _ _))⟩
    | 9, ho, hd =>
      cases ho; cases hd
      obtain ⟨g, hv, hBg, hh⟩ := kAt_ints (n := 3) (l := [0, 1, 5]) rfl (hφ ⟨8, .data⟩ (by simp) rfl 36 rfl)
      go_simp
      refine (inst_any w' 3 [0, 1, 5] (by simp) _ (.inr ⟨g, rfl, (Array.getElem?_eq_some_iff.1 hh).1, cells_of hh⟩)).mono ?_
      rintro e w2 ⟨rfl, hb2⟩
      exact ⟨_, rfl, hb2, kAt_of rfl rfl⟩
    | 10, ho, hd =>
      cases ho; cases hd
      go_simp
      exact ⟨_, rfl, (Below.refl _ _).alloc (Nat.le_refl _) _, kAt_of rfl (ints_ok (by have := hb.size; omega) rfl (heap_alloc_new _ _))⟩
    | 11, ho, hd =>
      cases ho; cases hd
      obtain ⟨g, hv, hBg, hh⟩ := kAt_ints (n := 3) (l := [0, 0, 9]) rfl (hφ ⟨10, .data⟩ (by simp) rfl 38 rfl)
      go_simp
      refine (inst_any w' 4 [0, 0, 9] (by simp) _ (.inr ⟨g, rfl, (Array.getElem?_eq_some_iff.1 hh).1, cells_of hh⟩)).mono ?_
      rintro e w2 ⟨rfl, hb2⟩
      exact ⟨_, rfl, hb2, kAt_of rfl rfl⟩
    | 12, ho, hd =>
      cases ho; cases hd
      go_simp
      exact ⟨_, rfl, (Below.refl _ _).alloc (Nat.le_refl _) _, kAt_of rfl (ints_ok (by have := hb.size; omega) rfl (heap_alloc_new _ _))⟩
    | 13, ho, hd =>
      cases ho; cases hd
      obtain ⟨g, hv, hBg, hh⟩ := kAt_ints (n := 2) (l := [0, 1]) rfl (hφ ⟨12, .data⟩ (by simp) rfl 40 rfl)
      go_simp
      refine (inst_any w' 10 [0, 1] (by simp) _ (.inr ⟨g, rfl, (Array.getElem?_eq_some_iff.1 hh).1, cells_of hh⟩)).mono ?_
      rintro e w2 ⟨rfl, hb2⟩
      exact ⟨_, rfl, hb2, kAt_of rfl rfl⟩
    | 14, ho, hd =>
      cases ho; cases hd
      go_simp
      exact ⟨_, rfl, (Below.refl _ _).alloc (Nat.le_refl _) _, kAt_of rfl (ints_ok (by have := hb.size; omega) rfl (heap_alloc_new _ _))⟩
    | 15, ho, hd =>
      cases ho; cases hd
      obtain ⟨g, hv, hBg, hh⟩ := kAt_ints (n := 1) (l := [1]) rfl (hφ ⟨14, .data⟩ (by simp) rfl 42 rfl)
      go_simp
      refine (inst_any w' 14 [1] (by simp) _ (.inr ⟨g, rfl, (Array.getElem?_eq_some_iff.1 hh).1, cells_of hh⟩)).mono ?_
      rintro e w2 ⟨rfl, hb2⟩
      exact ⟨_, rfl, hb2, kAt_of rfl rfl⟩
    | 16, ho, hd =>
      cases ho; cases hd
      go_simp
      exact ⟨_, rfl, (Below.refl _ _).alloc (Nat.le_refl _) _, kAt_of rfl (ints_ok (by have := hb.size; omega) rfl (heap_alloc_new _ _))⟩
    | 17, ho, hd =>
      cases ho; cases hd
      obtain ⟨g, hv, hBg, hh⟩ := kAt_ints (n := 2) (l := [0, 2]) rfl (hφ ⟨16, .data⟩ (by simp) rfl 44 rfl)
      go_simp
      refine (inst_any w' 2 [0, 2] (by simp) _ (.inr ⟨g, rfl, (Array.getElem?_eq_some_iff.1 hh).1, cells_of hh⟩)).mono ?_
      rintro e w2 ⟨rfl, hb2⟩
      exact ⟨_, rfl, hb2, kAt_of rfl rfl⟩
    | 18, ho, hd =>
      cases ho; cases hd
      go_simp
      exact ⟨_, rfl, (Below.refl _ _).alloc (Nat.le_refl _) _, kAt_of rfl (ints_ok (by have := hb.size; omega) rfl (heap_alloc_new _ _))⟩
    | 19, ho, hd =>
      cases ho; cases hd
      obtain ⟨g, hv, hBg, hh⟩ := kAt_ints (n := 3) (l := [0, 0, 3]) rfl (hφ ⟨18, .data⟩ (by simp) rfl 46 rfl)
      go_simp
      refine (inst_any w' 4 [0, 0, 3] (by simp) _ (.inr ⟨g, rfl, (Array.getElem?_eq_some_iff.1 hh).1, cells_of hh⟩)).mono ?_
      rintro e w2 ⟨rfl, hb2⟩
      exact ⟨_, rfl, hb2, kAt_of rfl rfl⟩
    | 20, ho, hd =>
      cases ho; cases hd
      go_simp
      exact ⟨_, rfl, (Below.refl _ _).alloc (Nat.le_refl _) _, kAt_of rfl (ints_ok (by have := hb.size; omega) rfl (heap_alloc_new _ _))⟩
    | 21, ho, hd =>
      cases ho; cases hd
      obtain ⟨g, hv, hBg, hh⟩ := kAt_ints (n := 1) (l := [2]) rfl (hφ ⟨20, .data⟩ (by simp) rfl 48 rfl)
      go_simp
      refine (inst_any w' 14 [2] (by simp) _ (.inr ⟨g, rfl, (Array.getElem?_eq_some_iff.1 hh).1, cells_of hh⟩)).mono ?_
      rintro e w2 ⟨rfl, hb2⟩
      exact ⟨_, rfl, hb2, kAt_of rfl rfl⟩
    | 22, ho, hd =>
      cases ho; cases hd
      go_simp
      exact ⟨_, rfl, (Below.refl _ _).alloc (Nat.le_refl _) _, kAt_of rfl (ints_ok (by have := hb.size; omega) rfl (heap_alloc_new _ _))⟩
    | 23, ho, hd =>
      cases ho; cases hd
      obtain ⟨g, hv, hBg, hh⟩ := kAt_ints (n := 1) (l := [3]) rfl (hφ ⟨22, .data⟩ (by simp) rfl 50 rfl)
      go_simp
      refine (inst_any w' 14 [3] (by simp) _ (.inr ⟨g, rfl, (Array.getElem?_eq_some_iff.1 hh).1, cells_of hh⟩)).mono ?_
      rintro e w2 ⟨rfl, hb2⟩
      exact ⟨_, rfl, hb2, kAt_of rfl rfl⟩
    | 24, ho, hd =>
      cases ho; cases hd
      go_simp
      exact ⟨_, rfl, (Below.refl _ _).alloc (Nat.le_refl _) _, kAt_of rfl (ints_ok (by have := hb.size; omega) rfl (heap_alloc_new _ _))⟩
    | 25, ho, hd =>
      cases ho; cases hd
      obtain ⟨g, hv, hBg, hh⟩ := kAt_ints (n := 3) (l := [1, 3, 14]) rfl (hφ ⟨24, .data⟩ (by simp) rfl 52 rfl)
      go_simp
      refine (inst_any w' 6 [1, 3, 14] (by simp) _ (.inr ⟨g, rfl, (Array.getElem?_eq_some_iff.1 hh).1, cells_of hh⟩)).mono ?_
      rintro e w2 ⟨rfl, hb2⟩
      exact ⟨_, rfl, hb2, kAt_of rfl rfl⟩
    | 26, ho, hd =>
      cases ho; cases hd
      go_simp
      exact ⟨_, rfl, (Below.refl _ _).alloc (Nat.le_refl _) _, kAt_of rfl (ints_ok (by have := hb.size; omega) rfl (heap_alloc_new _ _))⟩
    | 27, ho, hd =>
      cases ho; cases hd
      obtain ⟨g, hv, hBg, hh⟩ := kAt_ints (n := 2) (l := [1, 3]) rfl (hφ ⟨26, .data⟩ (by simp) rfl 54 rfl)
      go_simp
      refine (inst_any w' 15 [1, 3] (by simp) _ (.inr ⟨g, rfl, (Array.getElem?_eq_some_iff.1 hh).1, cells_of hh⟩)).mono ?_
      rintro e w2 ⟨rfl, hb2⟩
      exact ⟨_, rfl, hb2, kAt_of rfl rfl⟩
    | 28, ho, hd =>
      cases ho; cases hd
      go_simp
      exact ⟨_, rfl, (Below.refl _ _).alloc (Nat.le_refl _) _, kAt_of rfl (ints_ok (by have := hb.size; omega) rfl (heap_alloc_new _ _))⟩
    | 29, ho, hd =>
      cases ho; cases hd
      obtain ⟨g, hv, hBg, hh⟩ := kAt_ints (n := 3) (l := [0, 0, 11]) rfl (hφ ⟨28, .data⟩ (by simp) rfl 56 rfl)
      go_simp
      refine (inst_any w' 4 [0, 0, 11] (by simp) _ (.inr ⟨g, rfl, (Array.getElem?_eq_some_iff.1 hh).1, cells_of hh⟩)).mono ?_
      rintro e w2 ⟨rfl, hb2⟩
      exact ⟨_, rfl, hb2, kAt_of rfl rfl⟩
    | 30, ho, hd =>
      cases ho; cases hd
      go_simp
      refine (inst_any w' 16 [] (by simp) _ (.inl ⟨rfl, rfl⟩)).mono ?_
      rintro e w2 ⟨rfl, hb2⟩
      exact ⟨_, rfl, hb2, kAt_of rfl rfl⟩
    | 31, ho, hd =>
      cases ho; cases hd
      have e29 : a'.tmps[29]?.getD undef = .agg #[.int .i64 1, .int .i64 0, .int .i64 0, .int .i64 0] := by rw [← Array.getD_eq_getD_getElem?]; exact kAt_val rfl (hφ ⟨1, .data⟩ (by simp) rfl 29 rfl)
      have e33 : a'.tmps[33]?.getD undef = .agg #[.int .i64 1, .int .i64 1, .int .i64 W, .int .i64 0] := by rw [← Array.getD_eq_getD_getElem?]; exact kAt_val rfl (hφ ⟨5, .data⟩ (by simp) rfl 33 rfl)
      have e35 : a'.tmps[35]?.getD undef = .agg #[.int .i64 1, .int .i64 2, .int .i64 1, .int .i64 0] := by rw [← Array.getD_eq_getD_getElem?]; exact kAt_val rfl (hφ ⟨7, .data⟩ (by simp) rfl 35 rfl)
      have e37 : a'.tmps[37]?.getD undef = .agg #[.int .i64 3, .int .i64 0, .int .i64 1, .int .i64 5] := by rw [← Array.getD_eq_getD_getElem?]; exact kAt_val rfl (hφ ⟨9, .data⟩ (by simp) rfl 37 rfl)
      have e39 : a'.tmps[39]?.getD undef = .agg #[.int .i64 4, .int .i64 0, .int .i64 0, .int .i64 9] := by rw [← Array.getD_eq_getD_getElem?]; exact kAt_val rfl (hφ ⟨11, .data⟩ (by simp) rfl 39 rfl)
      have e41 : a'.tmps[41]?.getD undef = .agg #[.int .i64 10, .int .i64 0, .int .i64 1, .int .i64 0] := by rw [← Array.getD_eq_getD_getElem?]; exact kAt_val rfl (hφ ⟨13, .data⟩ (by simp) rfl 41 rfl)
      have e43 : a'.tmps[43]?.getD undef = .agg #[.int .i64 14, .int .i64 1, .int .i64 0, .int .i64 0] := by rw [← Array.getD_eq_getD_getElem?]; exact kAt_val rfl (hφ ⟨15, .data⟩ (by simp) rfl 43 rfl)
      have e45 : a'.tmps[45]?.getD undef = .agg #[.int .i64 2, .int .i64 0, .int .i64 2, .int .i64 0] := by rw [← Array.getD_eq_getD_getElem?]; exact kAt_val rfl (hφ ⟨17, .data⟩ (by simp) rfl 45 rfl)
      have e47 : a'.tmps[47]?.getD undef = .agg #[.int .i64 4, .int .i64 0, .int .i64 0, .int .i64 3] := by rw [← Array.getD_eq_getD_getElem?]; exact kAt_val rfl (hφ ⟨19, .data⟩ (by simp) rfl 47 rfl)
      have e49 : a'.tmps[49]?.getD undef = .agg #[.int .i64 14, .int .i64 2, .int .i64 0, .int .i64 0] := by rw [← Array.getD_eq_getD_getElem?]; exact kAt_val rfl (hφ ⟨21, .data⟩ (by simp) rfl 49 rfl)
      have e51 : a'.tmps[51]?.getD undef = .agg #[.int .i64 14, .int .i64 3, .int .i64 0, .int .i64 0] := by rw [← Array.getD_eq_getD_getElem?]; exact kAt_val rfl (hφ ⟨23, .data⟩ (by simp) rfl 51 rfl)
      have e53 : a'.tmps[53]?.getD undef = .agg #[.int .i64 6, .int .i64 1, .int .i64 3, .int .i64 14] := by rw [← Array.getD_eq_getD_getElem?]; exact kAt_val rfl (hφ ⟨25, .data⟩ (by simp) rfl 53 rfl)
      have e55 : a'.tmps[55]?.getD undef = .agg #[.int .i64 15, .int .i64 1, .int .i64 3, .int .i64 0] := by rw [← Array.getD_eq_getD_getElem?]; exact kAt_val rfl (hφ ⟨27, .data⟩ (by simp) rfl 55 rfl)
      have e57 : a'.tmps[57]?.getD undef = .agg #[.int .i64 4, .int .i64 0, .int .i64 0, .int .i64 11] := by rw [← Array.getD_eq_getD_getElem?]; exact kAt_val rfl (hφ ⟨29, .data⟩ (by simp) rfl 57 rfl)
      have e58 : a'.tmps[58]?.getD undef = .agg #[.int .i64 16, .int .i64 0, .int .i64 0, .int .i64 0] := by rw [← Array.getD_eq_getD_getElem?]; exact kAt_val rfl (hφ ⟨30, .data⟩ (by simp) rfl 58 rfl)
      go_simp
      exact ⟨_, rfl, (Below.refl _ _).alloc (Nat.le_refl _) _, kAt_of rfl (prog_ok (by have := hb.size; omega) (heap_alloc_new _ _))⟩
    | 32, ho, hd =>
      cases ho; cases hd
      obtain ⟨g, hv, hBg, hh⟩ := kAt_prog rfl (hφ ⟨31, .data⟩ (by simp) rfl 59 rfl)
      go_simp
      exact ⟨_, rfl, Below.refl _ _, kAt_of rfl (prog_ok hBg hh)⟩
    | i + 33, ho, hd => (simp at ho)
  obtain ⟨g8, e8, hB8, hh8⟩ := kAt_prog rfl (hφ 32 8 rfl)
  have hz6 := hb6.size
  clear hφ
  simp only [putAll]
  go_simp

  go_upto_region 7 with (fail)
  refine region_relyP [60, 61, 62, 63, 64, 65, 66, 67, 68, 69, 70, 71, 72, 73, 74, 75, 9] (kAt (w.heap.size + 1 + 1) [.ints 3 [0, 3, 6], .val (.agg #[.int .i64 6, .int .i64 0, .int .i64 3, .int .i64 6]), .ints 2 [3, 4], .val (.agg #[.int .i64 12, .int .i64 3, .int .i64 4, .int .i64 0]), .ints 2 [0, 4], .val (.agg #[.int .i64 15, .int .i64 0, .int .i64 4, .int .i64 0]), .ints 2 [2, 3], .val (.agg #[.int .i64 5, .int .i64 2, .int .i64 3, .int .i64 0]), .ints 2 [1, 4], .val (.agg #[.int .i64 5, .int .i64 1, .int .i64 4, .int .i64 0]), .ints 3 [0, 0, 0], .val (.agg #[.int .i64 4, .int .i64 0, .int .i64 0, .int .i64 0]), .ints 2 [0, -1], .val (.agg #[.int .i64 10, .int .i64 0, .int .i64 (-1), .int .i64 0]), .val (.agg #[.int .i64 16, .int .i64 0, .int .i64 0, .int .i64 0]), .prog 8 43 #[.int .i64 6, .int .i64 0, .int .i64 3, .int .i64 6, .int .i64 12, .int .i64 3, .int .i64 4, .int .i64 0, .int .i64 15, .int .i64 0, .int .i64 4, .int .i64 0, .int .i64 5, .int .i64 2, .int .i64 3, .int .i64 0, .int .i64 5, .int .i64 1, .int .i64 4, .int .i64 0, .int .i64 4, .int .i64 0, .int .i64 0, .int .i64 0, .int .i64 10, .int .i64 0, .int .i64 (-1), .int .i64 0, .int .i64 16, .int .i64 0, .int .i64 0, .int .i64 0], .prog 8 43 #[.int .i64 6, .int .i64 0, .int .i64 3, .int .i64 6, .int .i64 12, .int .i64 3, .int .i64 4, .int .i64 0, .int .i64 15, .int .i64 0, .int .i64 4, .int .i64 0, .int .i64 5, .int .i64 2, .int .i64 3, .int .i64 0, .int .i64 5, .int .i64 1, .int .i64 4, .int .i64 0, .int .i64 4, .int .i64 0, .int .i64 0, .int .i64 0, .int .i64 10, .int .i64 0, .int .i64 (-1), .int .i64 0, .int .i64 16, .int .i64 0, .int .i64 0, .int .i64 0]]) (fun _ => True) (by kernel_rfl) (by kernel_rfl) trivial (fun _ _ _ _ => trivial) (kAt_mono _ _) ?i72 (fun vs w7 hI7 hb7 hφ => ?_)
  case i72 =>
    intro i o d ho hd a' w' hra hI hb hφ
    match i, ho, hd with
    | 0, ho, hd =>
      cases ho; cases hd
      go_simp
      exact ⟨_, rfl, (Below.refl _ _).alloc (Nat.le_refl _) _, kAt_of rfl (ints_ok (by have := hb.size; omega) rfl (heap_alloc_new _ _))⟩
    | 1, ho, hd =>
      cases ho; cases hd
      obtain ⟨g, hv, hBg, hh⟩ := kAt_ints (n := 3) (l := [0, 3, 6]) rfl (hφ ⟨0, .data⟩ (by simp) rfl 60 rfl)
      go_simp
      refine (inst_any w' 6 [0, 3, 6] (by simp) _ (.inr ⟨g, rfl, (Array.getElem?_eq_some_iff.1 hh).1, cells_of hh⟩)).mono ?_
      rintro e w2 ⟨rfl, hb2⟩
      exact ⟨_, rfl, hb2, kAt_of rfl rfl⟩
    | 2, ho, hd =>
      cases ho; cases hd
      go_simp
      exact ⟨_, rfl, (Below.refl _ _).alloc (Nat.le_refl _) _, kAt_of rfl (ints_ok (by have := hb.size; omega) rfl (heap_alloc_new _ _))⟩
    | 3, ho, hd =>
      cases ho; cases hd
      obtain ⟨g, hv, hBg, hh⟩ := kAt_ints (n := 2) (l := [3, 4]) rfl (hφ ⟨2, .data⟩ (by simp) rfl 62 rfl)
      go_simp
      refine (inst_any w' 12 [3, 4] (by simp) _ (.inr ⟨g, rfl, (Array.getElem?_eq_some_iff.1 hh).1, cells_of hh⟩)).mono ?_
      rintro e w2 ⟨rfl, hb2⟩
      exact ⟨_, rfl, hb2, kAt_of rfl rfl⟩
    | 4, ho, hd =>
      cases ho; cases hd
      go_simp
      exact ⟨_, rfl, (Below.refl _ _).alloc (Nat.le_refl _) _, kAt_of rfl (ints_ok (by have := hb.size; omega) rfl (heap_alloc_new _ _))⟩
    | 5, ho, hd =>
      cases ho; cases hd
      obtain ⟨g, hv, hBg, hh⟩ := kAt_ints (n := 2) (l := [0, 4]) rfl (hφ ⟨4, .data⟩ (by simp) rfl 64 rfl)
      go_simp
      refine (inst_any w' 15 [0, 4] (by simp) _ (.inr ⟨g, rfl, (Array.getElem?_eq_some_iff.1 hh).1, cells_of hh⟩)).mono ?_
      rintro e w2 ⟨rfl, hb2⟩
      exact ⟨_, rfl, hb2, kAt_of rfl rfl⟩
    | 6, ho, hd =>
      cases ho; cases hd
      go_simp
      exact ⟨_, rfl, (Below.refl _ _).alloc (Nat.le_refl _) _, kAt_of rfl (ints_ok (by have := hb.size; omega) rfl (heap_alloc_new _ _))⟩
    | 7, ho, hd =>
      cases ho; cases hd
      obtain ⟨g, hv, hBg, hh⟩ := kAt_ints (n := 2) (l := [2, 3]) rfl (hφ ⟨6, .data⟩ (by simp) rfl 66 rfl)
      go_simp
      refine (inst_any w' 5 [2, 3] (by simp) _ (.inr ⟨g, rfl, (Array.getElem?_eq_some_iff.1 hh).1, cells_of hh⟩)).mono ?_
      rintro e w2 ⟨rfl, hb2⟩
      exact ⟨_, rfl, hb2, kAt_of rfl rfl⟩
    | 8, ho, hd =>
      cases ho; cases hd
      go_simp
      exact ⟨_, rfl, (Below.refl _ _).alloc (Nat.le_refl _) _, kAt_of rfl (ints_ok (by have := hb.size; omega) rfl (heap_alloc_new _ _))⟩
    | 9, ho, hd =>
      cases ho; cases hd
      obtain ⟨g, hv, hBg, hh⟩ := kAt_ints (n := 2) (l := [1, 4]) rfl (hφ ⟨8, .data⟩ (by simp) rfl 68 rfl)
      go_simp
      refine (inst_any w' 5 [1, 4] (by simp) _ (.inr ⟨g, rfl, (Array.getElem?_eq_some_iff.1 hh).1, cells_of hh⟩)).mono ?_
      rintro e w2 ⟨rfl, hb2⟩
      exact ⟨_, rfl, hb2, kAt_of rfl rfl⟩
    | 10, ho, hd =>
      cases ho; cases hd
      go_simp
      exact ⟨_, rfl, (Below.refl _ _).alloc (Nat.le_refl _) _, kAt_of rfl (ints_ok (by have := hb.size; omega) rfl (heap_alloc_new _ _))⟩
    | 11, ho, hd =>
      cases ho; cases hd
      obtain ⟨g, hv, hBg, hh⟩ := kAt_ints (n := 3) (l := [0, 0, 0]) rfl (hφ ⟨10, .data⟩ (by simp) rfl 70 rfl)
      go_simp
      refine (inst_any w' 4 [0, 0, 0] (by simp) _ (.inr ⟨g, rfl, (Array.getElem?_eq_some_iff.1 hh).1, cells_of hh⟩)).mono ?_
      rintro e w2 ⟨rfl, hb2⟩
      exact ⟨_, rfl, hb2, kAt_of rfl rfl⟩
    | 12, ho, hd =>
      cases ho; cases hd
      go_simp
      exact ⟨_, rfl, (Below.refl _ _).alloc (Nat.le_refl _) _, kAt_of rfl (ints_ok (by have := hb.size; omega) rfl (heap_alloc_new _ _))⟩
    | 13, ho, hd =>
      cases ho; cases hd
      obtain ⟨g, hv, hBg, hh⟩ := kAt_ints (n := 2) (l := [0, -1]) rfl (hφ ⟨12, .data⟩ (by simp) rfl 72 rfl)
      go_simp
      refine (inst_any w' 10 [0, -1] (by simp) _ (.inr ⟨g, rfl, (Array.getElem?_eq_some_iff.1 hh).1, cells_of hh⟩)).mono ?_
      rintro e w2 ⟨rfl, hb2⟩
      exact ⟨_, rfl, hb2, kAt_of rfl rfl⟩
    | 14, ho, hd =>
      cases ho; cases hd
      go_simp
      refine (inst_any w' 16 [] (by simp) _ (.inl ⟨rfl, rfl⟩)).mono ?_
      rintro e w2 ⟨rfl, hb2⟩
      exact ⟨_, rfl, hb2, kAt_of rfl rfl⟩
    | 15, ho, hd =>
      cases ho; cases hd
      have e61 : a'.tmps[61]?.getD undef = .agg #[.int .i64 6, .int .i64 0, .int .i64 3, .int .i64 6] := by rw [← Array.getD_eq_getD_getElem?]; exact kAt_val rfl (hφ ⟨1, .data⟩ (by simp) rfl 61 rfl)
      have e63 : a'.tmps[63]?.getD undef = .agg #[.int .i64 12, .int .i64 3, .int .i64 4, .int .i64 0] := by rw [← Array.getD_eq_getD_getElem?]; exact kAt_val rfl (hφ ⟨3, .data⟩ (by simp) rfl 63 rfl)
      have e65 : a'.tmps[65]?.getD undef = .agg #[.int .i64 15, .int .i64 0, .int .i64 4, .int .i64 0] := by rw [← Array.getD_eq_getD_getElem?]; exact kAt_val rfl (hφ ⟨5, .data⟩ (by simp) rfl 65 rfl)
      have e67 : a'.tmps[67]?.getD undef = .agg #[.int .i64 5, .int .i64 2, .int .i64 3, .int .i64 0] := by rw [← Array.getD_eq_getD_getElem?]; exact kAt_val rfl (hφ ⟨7, .data⟩ (by simp) rfl 67 rfl)
      have e69 : a'.tmps[69]?.getD undef = .agg #[.int .i64 5, .int .i64 1, .int .i64 4, .int .i64 0] := by rw [← Array.getD_eq_getD_getElem?]; exact kAt_val rfl (hφ ⟨9, .data⟩ (by simp) rfl 69 rfl)
      have e71 : a'.tmps[71]?.getD undef = .agg #[.int .i64 4, .int .i64 0, .int .i64 0, .int .i64 0] := by rw [← Array.getD_eq_getD_getElem?]; exact kAt_val rfl (hφ ⟨11, .data⟩ (by simp) rfl 71 rfl)
      have e73 : a'.tmps[73]?.getD undef = .agg #[.int .i64 10, .int .i64 0, .int .i64 (-1), .int .i64 0] := by rw [← Array.getD_eq_getD_getElem?]; exact kAt_val rfl (hφ ⟨13, .data⟩ (by simp) rfl 73 rfl)
      have e74 : a'.tmps[74]?.getD undef = .agg #[.int .i64 16, .int .i64 0, .int .i64 0, .int .i64 0] := by rw [← Array.getD_eq_getD_getElem?]; exact kAt_val rfl (hφ ⟨14, .data⟩ (by simp) rfl 74 rfl)
      go_simp
      exact ⟨_, rfl, (Below.refl _ _).alloc (Nat.le_refl _) _, kAt_of rfl (prog_ok (by have := hb.size; omega) (heap_alloc_new _ _))⟩
    | 16, ho, hd =>
      cases ho; cases hd
      obtain ⟨g, hv, hBg, hh⟩ := kAt_prog rfl (hφ ⟨15, .data⟩ (by simp) rfl 75 rfl)
      go_simp
      exact ⟨_, rfl, Below.refl _ _, kAt_of rfl (prog_ok hBg hh)⟩
    | i + 17, ho, hd => (simp at ho)
  obtain ⟨g9, e9, hB9, hh9⟩ := kAt_prog rfl (hφ 16 9 rfl)
  have hz7 := hb7.size
  clear hφ
  simp only [putAll]
  go_simp

  go_upto_region 8 with (fail)
  refine region_relyP [76, 77, 78, 79, 80, 81, 82, 83, 84, 85, 86, 87, 88, 89, 90, 91, 92, 93, 94, 95, 96, 97, 98, 99, 100, 101, 102, 103, 104, 105, 106, 107, 108, 109, 110, 111, 112, 113, 114, 115, 10] (kAt (w.heap.size + 1 + 1) [.ints 2 [0, 0], .val (.agg #[.int .i64 1, .int .i64 0, .int .i64 0, .int .i64 0]), .val (.int .i64 b), .ints 2 [1, b], .val (.agg #[.int .i64 1, .int .i64 1, .int .i64 b, .int .i64 0]), .ints 2 [2, 1], .val (.agg #[.int .i64 1, .int .i64 2, .int .i64 1, .int .i64 0]), .ints 3 [0, 1, 5], .val (.agg #[.int .i64 3, .int .i64 0, .int .i64 1, .int .i64 5]), .ints 3 [0, 0, 8], .val (.agg #[.int .i64 4, .int .i64 0, .int .i64 0, .int .i64 8]), .ints 2 [2, 0], .val (.agg #[.int .i64 5, .int .i64 2, .int .i64 0, .int .i64 0]), .ints 2 [0, 2], .val (.agg #[.int .i64 2, .int .i64 0, .int .i64 2, .int .i64 0]), .ints 3 [0, 0, 3], .val (.agg #[.int .i64 4, .int .i64 0, .int .i64 0, .int .i64 3]), .ints 2 [0, 0], .val (.agg #[.int .i64 1, .int .i64 0, .int .i64 0, .int .i64 0]), .val (.int .i64 jobs), .ints 2 [1, jobs], .val (.agg #[.int .i64 1, .int .i64 1, .int .i64 jobs, .int .i64 0]), .ints 3 [0, 1, 12], .val (.agg #[.int .i64 3, .int .i64 0, .int .i64 1, .int .i64 12]), .ints 3 [0, 0, 17], .val (.agg #[.int .i64 4, .int .i64 0, .int .i64 0, .int .i64 17]), .ints 3 [2, 3, 17], .val (.agg #[.int .i64 6, .int .i64 2, .int .i64 3, .int .i64 17]), .ints 2 [3, 0], .val (.agg #[.int .i64 13, .int .i64 3, .int .i64 0, .int .i64 0]), .ints 2 [0, 3], .val (.agg #[.int .i64 5, .int .i64 0, .int .i64 3, .int .i64 0]), .ints 2 [0, 2], .val (.agg #[.int .i64 2, .int .i64 0, .int .i64 2, .int .i64 0]), .ints 3 [0, 0, 10], .val (.agg #[.int .i64 4, .int .i64 0, .int .i64 0, .int .i64 10]), .ints 1 [0], .val (.agg #[.int .i64 7, .int .i64 0, .int .i64 0, .int .i64 0]), .val (.agg #[.int .i64 16, .int .i64 0, .int .i64 0, .int .i64 0]), .prog 19 43 #[.int .i64 1, .int .i64 0, .int .i64 0, .int .i64 0, .int .i64 1, .int .i64 1, .int .i64 b, .int .i64 0, .int .i64 1, .int .i64 2, .int .i64 1, .int .i64 0, .int .i64 3, .int .i64 0, .int .i64 1, .int .i64 5, .int .i64 4, .int .i64 0, .int .i64 0, .int .i64 8, .int .i64 5, .int .i64 2, .int .i64 0, .int .i64 0, .int .i64 2, .int .i64 0, .int .i64 2, .int .i64 0, .int .i64 4, .int .i64 0, .int .i64 0, .int .i64 3, .int .i64 1, .int .i64 0, .int .i64 0, .int .i64 0, .int .i64 1, .int .i64 1, .int .i64 jobs, .int .i64 0, .int .i64 3, .int .i64 0, .int .i64 1, .int .i64 12, .int .i64 4, .int .i64 0, .int .i64 0, .int .i64 17, .int .i64 6, .int .i64 2, .int .i64 3, .int .i64 17, .int .i64 13, .int .i64 3, .int .i64 0, .int .i64 0, .int .i64 5, .int .i64 0, .int .i64 3, .int .i64 0, .int .i64 2, .int .i64 0, .int .i64 2, .int .i64 0, .int .i64 4, .int .i64 0, .int .i64 0, .int .i64 10, .int .i64 7, .int .i64 0, .int .i64 0, .int .i64 0, .int .i64 16, .int .i64 0, .int .i64 0, .int .i64 0], .prog 19 43 #[.int .i64 1, .int .i64 0, .int .i64 0, .int .i64 0, .int .i64 1, .int .i64 1, .int .i64 b, .int .i64 0, .int .i64 1, .int .i64 2, .int .i64 1, .int .i64 0, .int .i64 3, .int .i64 0, .int .i64 1, .int .i64 5, .int .i64 4, .int .i64 0, .int .i64 0, .int .i64 8, .int .i64 5, .int .i64 2, .int .i64 0, .int .i64 0, .int .i64 2, .int .i64 0, .int .i64 2, .int .i64 0, .int .i64 4, .int .i64 0, .int .i64 0, .int .i64 3, .int .i64 1, .int .i64 0, .int .i64 0, .int .i64 0, .int .i64 1, .int .i64 1, .int .i64 jobs, .int .i64 0, .int .i64 3, .int .i64 0, .int .i64 1, .int .i64 12, .int .i64 4, .int .i64 0, .int .i64 0, .int .i64 17, .int .i64 6, .int .i64 2, .int .i64 3, .int .i64 17, .int .i64 13, .int .i64 3, .int .i64 0, .int .i64 0, .int .i64 5, .int .i64 0, .int .i64 3, .int .i64 0, .int .i64 2, .int .i64 0, .int .i64 2, .int .i64 0, .int .i64 4, .int .i64 0, .int .i64 0, .int .i64 10, .int .i64 7, .int .i64 0, .int .i64 0, .int .i64 0, .int .i64 16, .int .i64 0, .int .i64 0, .int .i64 0]]) (fun _ => True) (by kernel_rfl) (by kernel_rfl) trivial (fun _ _ _ _ => trivial) (kAt_mono _ _) ?i82 (fun vs w8 hI8 hb8 hφ => ?_)
  case i82 =>
    intro i o d ho hd a' w' hra hI hb hφ
    match i, ho, hd with
    | 0, ho, hd =>
      cases ho; cases hd
      go_simp
      exact ⟨_, rfl, (Below.refl _ _).alloc (Nat.le_refl _) _, kAt_of rfl (ints_ok (by have := hb.size; omega) rfl (heap_alloc_new _ _))⟩
    | 1, ho, hd =>
      cases ho; cases hd
      obtain ⟨g, hv, hBg, hh⟩ := kAt_ints (n := 2) (l := [0, 0]) rfl (hφ ⟨0, .data⟩ (by simp) rfl 76 rfl)
      go_simp
      refine (inst_any w' 1 [0, 0] (by simp) _ (.inr ⟨g, rfl, (Array.getElem?_eq_some_iff.1 hh).1, cells_of hh⟩)).mono ?_
      rintro e w2 ⟨rfl, hb2⟩
      exact ⟨_, rfl, hb2, kAt_of rfl rfl⟩
    | 2, ho, hd =>
      cases ho; cases hd
      have e6 : a'.tmps.getD 6 undef = .int .i64 b := by rw [hra.slot 6 (by decide)]; rfl
      go_simp
      exact ⟨_, rfl, Below.refl _ _, kAt_of rfl rfl⟩
    | 3, ho, hd =>
      cases ho; cases hd
      have e78 : a'.tmps.getD 78 undef = .int .i64 b := kAt_val rfl (hφ ⟨2, .data⟩ (by simp) rfl 78 rfl)
      have e78' : a'.tmps[78]?.getD undef = .int .i64 b := by rw [← Array.getD_eq_getD_getElem?]; exact e78
      go_simp
      exact ⟨_, rfl, (Below.refl _ _).alloc (Nat.le_refl _) _, kAt_of rfl (ints_ok (by have := hb.size; omega) rfl (heap_alloc_new _ _))⟩
    | 4, ho, hd =>
      cases ho; cases hd
      obtain ⟨g, hv, hBg, hh⟩ := kAt_ints (n := 2) (l := [1, b]) rfl (hφ ⟨3, .data⟩ (by simp) rfl 79 rfl)
      go_simp
      refine (inst_any w' 1 [1, b] (by simp) _ (.inr ⟨g, rfl, (Array.getElem?_eq_some_iff.1 hh).1, cells_of hh⟩)).mono ?_
      rintro e w2 ⟨rfl, hb2⟩
      exact ⟨_, rfl, hb2, kAt_of rfl rfl⟩
    | 5, ho, hd =>
      cases ho; cases hd
      go_simp
      exact ⟨_, rfl, (Below.refl _ _).alloc (Nat.le_refl _) _, kAt_of rfl (ints_ok (by have := hb.size; omega) rfl (heap_alloc_new _ _))⟩
    | 6, ho, hd =>
      cases ho; cases hd
      obtain ⟨g, hv, hBg, hh⟩ := kAt_ints (n := 2) (l := [2, 1]) rfl (hφ ⟨5, .data⟩ (by simp) rfl 81 rfl)
      go_simp
      refine (inst_any w' 1 [2, 1] (by simp) _ (.inr ⟨g, rfl, (Array.getElem?_eq_some_iff.1 hh).1, cells_of hh⟩)).mono ?_
      rintro e w2 ⟨rfl, hb2⟩
      exact ⟨_, rfl, hb2, kAt_of rfl rfl⟩
    | 7, ho, hd =>
      cases ho; cases hd
      go_simp
      exact ⟨_, rfl, (Below.refl _ _).alloc (Nat.le_refl _) _, kAt_of rfl (ints_ok (by have := hb.size; omega) rfl (heap_alloc_new _ _))⟩
    | 8, ho, hd =>
      cases ho; cases hd
      obtain ⟨g, hv, hBg, hh⟩ := kAt_ints (n := 3) (l := [0, 1, 5]) rfl (hφ ⟨7, .data⟩ (by simp) rfl 83 rfl)
      go_simp
      refine (inst_any w' 3 [0, 1, 5] (by simp) _ (.inr ⟨g, rfl, (Array.getElem?_eq_some_iff.1 hh).1, cells_of hh⟩)).mono ?_
      rintro e w2 ⟨rfl, hb2⟩
      exact ⟨_, rfl, hb2, kAt_of rfl rfl⟩
    | 9, ho, hd =>
      cases ho; cases hd
      go_simp
      exact ⟨_, rfl, (Below.refl _ _).alloc (Nat.le_refl _) _, kAt_of rfl (ints_ok (by have := hb.size; omega) rfl (heap_alloc_new _ _))⟩
    | 10, ho, hd =>
      cases ho; cases hd
      obtain ⟨g, hv, hBg, hh⟩ := kAt_ints (n := 3) (l := [0, 0, 8]) rfl (hφ ⟨9, .data⟩ (by simp) rfl 85 rfl)
      go_simp
      refine (inst_any w' 4 [0, 0, 8] (by simp) _ (.inr ⟨g, rfl, (Array.getElem?_eq_some_iff.1 hh).1, cells_of hh⟩)).mono ?_
      rintro e w2 ⟨rfl, hb2⟩
      exact ⟨_, rfl, hb2, kAt_of rfl rfl⟩
    | 11, ho, hd =>
      cases ho; cases hd
      go_simp
      exact ⟨_, rfl, (Below.refl _ _).alloc (Nat.le_refl _) _, kAt_of rfl (ints_ok (by have := hb.size; omega) rfl (heap_alloc_new _ _))⟩
    | 12, ho, hd =>
      cases ho; cases hd
      obtain ⟨g, hv, hBg, hh⟩ := kAt_ints (n := 2) (l := [2, 0]) rfl (hφ ⟨11, .data⟩ (by simp) rfl 87 rfl)
      go_simp
      refine (inst_any w' 5 [2, 0] (by simp) _ (.inr ⟨g, rfl, (Array.getElem?_eq_some_iff.1 hh).1, cells_of hh⟩)).mono ?_
      rintro e w2 ⟨rfl, hb2⟩
      exact ⟨_, rfl, hb2, kAt_of rfl rfl⟩
    | 13, ho, hd =>
      cases ho; cases hd
      go_simp
      exact ⟨_, rfl, (Below.refl _ _).alloc (Nat.le_refl _) _, kAt_of rfl (ints_ok (by have := hb.size; omega) rfl (heap_alloc_new _ _))⟩
    | 14, ho, hd =>
      cases ho; cases hd
      obtain ⟨g, hv, hBg, hh⟩ := kAt_ints (n := 2) (l := [0, 2]) rfl (hφ ⟨13, .data⟩ (by simp) rfl 89 rfl)
      go_simp
      refine (inst_any w' 2 [0, 2] (by simp) _ (.inr ⟨g, rfl, (Array.getElem?_eq_some_iff.1 hh).1, cells_of hh⟩)).mono ?_
      rintro e w2 ⟨rfl, hb2⟩
      exact ⟨_, rfl, hb2, kAt_of rfl rfl⟩
    | 15, ho, hd =>
      cases ho; cases hd
      go_simp
      exact ⟨_, rfl, (Below.refl _ _).alloc (Nat.le_refl _) _, kAt_of rfl (ints_ok (by have := hb.size; omega) rfl (heap_alloc_new _ _))⟩
    | 16, ho, hd =>
      cases ho; cases hd
      obtain ⟨g, hv, hBg, hh⟩ := kAt_ints (n := 3) (l := [0, 0, 3]) rfl (hφ ⟨15, .data⟩ (by simp) rfl 91 rfl)
      go_simp
      refine (inst_any w' 4 [0, 0, 3] (by simp) _ (.inr ⟨g, rfl, (Array.getElem?_eq_some_iff.1 hh).1, cells_of hh⟩)).mono ?_
      rintro e w2 ⟨rfl, hb2⟩
      exact ⟨_, rfl, hb2, kAt_of rfl rfl⟩
    | 17, ho, hd =>
      cases ho; cases hd
      go_simp
      exact ⟨_, rfl, (Below.refl _ _).alloc (Nat.le_refl _) _, kAt_of rfl (ints_ok (by have := hb.size; omega) rfl (heap_alloc_new _ _))⟩
    | 18, ho, hd =>
      cases ho; cases hd
      obtain ⟨g, hv, hBg, hh⟩ := kAt_ints (n := 2) (l := [0, 0]) rfl (hφ ⟨17, .data⟩ (by simp) rfl 93 rfl)
      go_simp
      refine (inst_any w' 1 [0, 0] (by simp) _ (.inr ⟨g, rfl, (Array.getElem?_eq_some_iff.1 hh).1, cells_of hh⟩)).mono ?_
      rintro e w2 ⟨rfl, hb2⟩
      exact ⟨_, rfl, hb2, kAt_of rfl rfl⟩
    | 19, ho, hd =>
      cases ho; cases hd
      have e0 : a'.tmps.getD 0 undef = .int .i64 jobs := by rw [hra.slot 0 (by decide)]; rfl
      go_simp
      exact ⟨_, rfl, Below.refl _ _, kAt_of rfl rfl⟩
    | 20, ho, hd =>
      cases ho; cases hd
      have e95 : a'.tmps.getD 95 undef = .int .i64 jobs := kAt_val rfl (hφ ⟨19, .data⟩ (by simp) rfl 95 rfl)
      have e95' : a'.tmps[95]?.getD undef = .int .i64 jobs := by rw [← Array.getD_eq_getD_getElem?]; exact e95
      go_simp
      exact ⟨_, rfl, (Below.refl _ _).alloc (Nat.le_refl _) _, kAt_of rfl (ints_ok (by have := hb.size; omega) rfl (heap_alloc_new _ _))⟩
    | 21, ho, hd =>
      cases ho; cases hd
      obtain ⟨g, hv, hBg, hh⟩ := kAt_ints (n := 2) (l := [1, jobs]) rfl (hφ ⟨20, .data⟩ (by simp) rfl 96 rfl)
      go_simp
      refine (inst_any w' 1 [1, jobs] (by simp) _ (.inr ⟨g, rfl, (Array.getElem?_eq_some_iff.1 hh).1, cells_of hh⟩)).mono ?_
      rintro e w2 ⟨rfl, hb2⟩
      exact ⟨_, rfl, hb2, kAt_of rfl rfl⟩
    | 22, ho, hd =>
      cases ho; cases hd
      go_simp
      exact ⟨_, rfl, (Below.refl _ _).alloc (Nat.le_refl _) _, kAt_of rfl (ints_ok (by have := hb.size; omega) rfl (heap_alloc_new _ _))⟩
    | 23, ho, hd =>
      cases ho; cases hd
      obtain ⟨g, hv, hBg, hh⟩ := kAt_ints (n := 3) (l := [0, 1, 12]) rfl (hφ ⟨22, .data⟩ (by simp) rfl 98 rfl)
      go_simp
      refine (inst_any w' 3 [0, 1, 12] (by simp) _ (.inr ⟨g, rfl, (Array.getElem?_eq_some_iff.1 hh).1, cells_of hh⟩)).mono ?_
      rintro e w2 ⟨rfl, hb2⟩
      exact ⟨_, rfl, hb2, kAt_of rfl rfl⟩
    | 24, ho, hd =>
      cases ho; cases hd
      go_simp
      exact ⟨_, rfl, (Below.refl _ _).alloc (Nat.le_refl _) _, kAt_of rfl (ints_ok (by have := hb.size; omega) rfl (heap_alloc_new _ _))⟩
    | 25, ho, hd =>
      cases ho; cases hd
      obtain ⟨g, hv, hBg, hh⟩ := kAt_ints (n := 3) (l := [0, 0, 17]) rfl (hφ ⟨24, .data⟩ (by simp) rfl 100 rfl)
      go_simp
      refine (inst_any w' 4 [0, 0, 17] (by simp) _ (.inr ⟨g, rfl, (Array.getElem?_eq_some_iff.1 hh).1, cells_of hh⟩)).mono ?_
      rintro e w2 ⟨rfl, hb2⟩
      exact ⟨_, rfl, hb2, kAt_of rfl rfl⟩
    | 26, ho, hd =>
      cases ho; cases hd
      go_simp
      exact ⟨_, rfl, (Below.refl _ _).alloc (Nat.le_refl _) _, kAt_of rfl (ints_ok (by have := hb.size; omega) rfl (heap_alloc_new _ _))⟩
    | 27, ho, hd =>
      cases ho; cases hd
      obtain ⟨g, hv, hBg, hh⟩ := kAt_ints (n := 3) (l := [2, 3, 17]) rfl (hφ ⟨26, .data⟩ (by simp) rfl 102 rfl)
      go_simp
      refine (inst_any w' 6 [2, 3, 17] (by simp) _ (.inr ⟨g, rfl, (Array.getElem?_eq_some_iff.1 hh).1, cells_of hh⟩)).mono ?_
      rintro e w2 ⟨rfl, hb2⟩
      exact ⟨_, rfl, hb2, kAt_of rfl rfl⟩
    | 28, ho, hd =>
      cases ho; cases hd
      go_simp
      exact ⟨_, rfl, (Below.refl _ _).alloc (Nat.le_refl _) _, kAt_of rfl (ints_ok (by have := hb.size; omega) rfl (heap_alloc_new _ _))⟩
    | 29, ho, hd =>
      cases ho; cases hd
      obtain ⟨g, hv, hBg, hh⟩ := kAt_ints (n := 2) (l := [3, 0]) rfl (hφ ⟨28, .data⟩ (by simp) rfl 104 rfl)
      go_simp
      refine (inst_any w' 13 [3, 0] (by simp) _ (.inr ⟨g, rfl, (Array.getElem?_eq_some_iff.1 hh).1, cells_of hh⟩)).mono ?_
      rintro e w2 ⟨rfl, hb2⟩
      exact ⟨_, rfl, hb2, kAt_of rfl rfl⟩
    | 30, ho, hd =>
      cases ho; cases hd
      go_simp
      exact ⟨_, rfl, (Below.refl _ _).alloc (Nat.le_refl _) _, kAt_of rfl (ints_ok (by have := hb.size; omega) rfl (heap_alloc_new _ _))⟩
    | 31, ho, hd =>
      cases ho; cases hd
      obtain ⟨g, hv, hBg, hh⟩ := kAt_ints (n := 2) (l := [0, 3]) rfl (hφ ⟨30, .data⟩ (by simp) rfl 106 rfl)
      go_simp
      refine (inst_any w' 5 [0, 3] (by simp) _ (.inr ⟨g, rfl, (Array.getElem?_eq_some_iff.1 hh).1, cells_of hh⟩)).mono ?_
      rintro e w2 ⟨rfl, hb2⟩
      exact ⟨_, rfl, hb2, kAt_of rfl rfl⟩
    | 32, ho, hd =>
      cases ho; cases hd
      go_simp
      exact ⟨_, rfl, (Below.refl _ _).alloc (Nat.le_refl _) _, kAt_of rfl (ints_ok (by have := hb.size; omega) rfl (heap_alloc_new _ _))⟩
    | 33, ho, hd =>
      cases ho; cases hd
      obtain ⟨g, hv, hBg, hh⟩ := kAt_ints (n := 2) (l := [0, 2]) rfl (hφ ⟨32, .data⟩ (by simp) rfl 108 rfl)
      go_simp
      refine (inst_any w' 2 [0, 2] (by simp) _ (.inr ⟨g, rfl, (Array.getElem?_eq_some_iff.1 hh).1, cells_of hh⟩)).mono ?_
      rintro e w2 ⟨rfl, hb2⟩
      exact ⟨_, rfl, hb2, kAt_of rfl rfl⟩
    | 34, ho, hd =>
      cases ho; cases hd
      go_simp
      exact ⟨_, rfl, (Below.refl _ _).alloc (Nat.le_refl _) _, kAt_of rfl (ints_ok (by have := hb.size; omega) rfl (heap_alloc_new _ _))⟩
    | 35, ho, hd =>
      cases ho; cases hd
      obtain ⟨g, hv, hBg, hh⟩ := kAt_ints (n := 3) (l := [0, 0, 10]) rfl (hφ ⟨34, .data⟩ (by simp) rfl 110 rfl)
      go_simp
      refine (inst_any w' 4 [0, 0, 10] (by simp) _ (.inr ⟨g, rfl, (Array.getElem?_eq_some_iff.1 hh).1, cells_of hh⟩)).mono ?_
      rintro e w2 ⟨rfl, hb2⟩
      exact ⟨_, rfl, hb2, kAt_of rfl rfl⟩
    | 36, ho, hd =>
      cases ho; cases hd
      go_simp
      exact ⟨_, rfl, (Below.refl _ _).alloc (Nat.le_refl _) _, kAt_of rfl (ints_ok (by have := hb.size; omega) rfl (heap_alloc_new _ _))⟩
    | 37, ho, hd =>
      cases ho; cases hd
      obtain ⟨g, hv, hBg, hh⟩ := kAt_ints (n := 1) (l := [0]) rfl (hφ ⟨36, .data⟩ (by simp) rfl 112 rfl)
      go_simp
      refine (inst_any w' 7 [0] (by simp) _ (.inr ⟨g, rfl, (Array.getElem?_eq_some_iff.1 hh).1, cells_of hh⟩)).mono ?_
      rintro e w2 ⟨rfl, hb2⟩
      exact ⟨_, rfl, hb2, kAt_of rfl rfl⟩
    | 38, ho, hd =>
      cases ho; cases hd
      go_simp
      refine (inst_any w' 16 [] (by simp) _ (.inl ⟨rfl, rfl⟩)).mono ?_
      rintro e w2 ⟨rfl, hb2⟩
      exact ⟨_, rfl, hb2, kAt_of rfl rfl⟩
    | 39, ho, hd =>
      cases ho; cases hd
      have e77 : a'.tmps[77]?.getD undef = .agg #[.int .i64 1, .int .i64 0, .int .i64 0, .int .i64 0] := by rw [← Array.getD_eq_getD_getElem?]; exact kAt_val rfl (hφ ⟨1, .data⟩ (by simp) rfl 77 rfl)
      have e80 : a'.tmps[80]?.getD undef = .agg #[.int .i64 1, .int .i64 1, .int .i64 b, .int .i64 0] := by rw [← Array.getD_eq_getD_getElem?]; exact kAt_val rfl (hφ ⟨4, .data⟩ (by simp) rfl 80 rfl)
      have e82 : a'.tmps[82]?.getD undef = .agg #[.int .i64 1, .int .i64 2, .int .i64 1, .int .i64 0] := by rw [← Array.getD_eq_getD_getElem?]; exact kAt_val rfl (hφ ⟨6, .data⟩ (by simp) rfl 82 rfl)
      have e84 : a'.tmps[84]?.getD undef = .agg #[.int .i64 3, .int .i64 0, .int .i64 1, .int .i64 5] := by rw [← Array.getD_eq_getD_getElem?]; exact kAt_val rfl (hφ ⟨8, .data⟩ (by simp) rfl 84 rfl)
      have e86 : a'.tmps[86]?.getD undef = .agg #[.int .i64 4, .int .i64 0, .int .i64 0, .int .i64 8] := by rw [← Array.getD_eq_getD_getElem?]; exact kAt_val rfl (hφ ⟨10, .data⟩ (by simp) rfl 86 rfl)
      have e88 : a'.tmps[88]?.getD undef = .agg #[.int .i64 5, .int .i64 2, .int .i64 0, .int .i64 0] := by rw [← Array.getD_eq_getD_getElem?]; exact kAt_val rfl (hφ ⟨12, .data⟩ (by simp) rfl 88 rfl)
      have e90 : a'.tmps[90]?.getD undef = .agg #[.int .i64 2, .int .i64 0, .int .i64 2, .int .i64 0] := by rw [← Array.getD_eq_getD_getElem?]; exact kAt_val rfl (hφ ⟨14, .data⟩ (by simp) rfl 90 rfl)
      have e92 : a'.tmps[92]?.getD undef = .agg #[.int .i64 4, .int .i64 0, .int .i64 0, .int .i64 3] := by rw [← Array.getD_eq_getD_getElem?]; exact kAt_val rfl (hφ ⟨16, .data⟩ (by simp) rfl 92 rfl)
      have e94 : a'.tmps[94]?.getD undef = .agg #[.int .i64 1, .int .i64 0, .int .i64 0, .int .i64 0] := by rw [← Array.getD_eq_getD_getElem?]; exact kAt_val rfl (hφ ⟨18, .data⟩ (by simp) rfl 94 rfl)
      have e97 : a'.tmps[97]?.getD undef = .agg #[.int .i64 1, .int .i64 1, .int .i64 jobs, .int .i64 0] := by rw [← Array.getD_eq_getD_getElem?]; exact kAt_val rfl (hφ ⟨21, .data⟩ (by simp) rfl 97 rfl)
      have e99 : a'.tmps[99]?.getD undef = .agg #[.int .i64 3, .int .i64 0, .int .i64 1, .int .i64 12] := by rw [← Array.getD_eq_getD_getElem?]; exact kAt_val rfl (hφ ⟨23, .data⟩ (by simp) rfl 99 rfl)
      have e101 : a'.tmps[101]?.getD undef = .agg #[.int .i64 4, .int .i64 0, .int .i64 0, .int .i64 17] := by rw [← Array.getD_eq_getD_getElem?]; exact kAt_val rfl (hφ ⟨25, .data⟩ (by simp) rfl 101 rfl)
      have e103 : a'.tmps[103]?.getD undef = .agg #[.int .i64 6, .int .i64 2, .int .i64 3, .int .i64 17] := by rw [← Array.getD_eq_getD_getElem?]; exact kAt_val rfl (hφ ⟨27, .data⟩ (by simp) rfl 103 rfl)
      have e105 : a'.tmps[105]?.getD undef = .agg #[.int .i64 13, .int .i64 3, .int .i64 0, .int .i64 0] := by rw [← Array.getD_eq_getD_getElem?]; exact kAt_val rfl (hφ ⟨29, .data⟩ (by simp) rfl 105 rfl)
      have e107 : a'.tmps[107]?.getD undef = .agg #[.int .i64 5, .int .i64 0, .int .i64 3, .int .i64 0] := by rw [← Array.getD_eq_getD_getElem?]; exact kAt_val rfl (hφ ⟨31, .data⟩ (by simp) rfl 107 rfl)
      have e109 : a'.tmps[109]?.getD undef = .agg #[.int .i64 2, .int .i64 0, .int .i64 2, .int .i64 0] := by rw [← Array.getD_eq_getD_getElem?]; exact kAt_val rfl (hφ ⟨33, .data⟩ (by simp) rfl 109 rfl)
      have e111 : a'.tmps[111]?.getD undef = .agg #[.int .i64 4, .int .i64 0, .int .i64 0, .int .i64 10] := by rw [← Array.getD_eq_getD_getElem?]; exact kAt_val rfl (hφ ⟨35, .data⟩ (by simp) rfl 111 rfl)
      have e113 : a'.tmps[113]?.getD undef = .agg #[.int .i64 7, .int .i64 0, .int .i64 0, .int .i64 0] := by rw [← Array.getD_eq_getD_getElem?]; exact kAt_val rfl (hφ ⟨37, .data⟩ (by simp) rfl 113 rfl)
      have e114 : a'.tmps[114]?.getD undef = .agg #[.int .i64 16, .int .i64 0, .int .i64 0, .int .i64 0] := by rw [← Array.getD_eq_getD_getElem?]; exact kAt_val rfl (hφ ⟨38, .data⟩ (by simp) rfl 114 rfl)
      go_simp
      exact ⟨_, rfl, (Below.refl _ _).alloc (Nat.le_refl _) _, kAt_of rfl (prog_ok (by have := hb.size; omega) (heap_alloc_new _ _))⟩
    | 40, ho, hd =>
      cases ho; cases hd
      obtain ⟨g, hv, hBg, hh⟩ := kAt_prog rfl (hφ ⟨39, .data⟩ (by simp) rfl 115 rfl)
      go_simp
      exact ⟨_, rfl, Below.refl _ _, kAt_of rfl (prog_ok hBg hh)⟩
    | i + 41, ho, hd => (simp at ho)
  obtain ⟨g10, e10, hB10, hh10⟩ := kAt_prog rfl (hφ 40 10 rfl)
  have hz8 := hb8.size
  clear hφ
  simp only [putAll]
  go_simp

  go_upto_region 9 with (fail)
  refine region_relyP [116, 117, 118, 119, 120, 121, 11] (kAt (w.heap.size + 1 + 1) [.ints 1 [0], .val (.agg #[.int .i64 11, .int .i64 0, .int .i64 0, .int .i64 0]), .ints 1 [1], .val (.agg #[.int .i64 7, .int .i64 1, .int .i64 0, .int .i64 0]), .val (.agg #[.int .i64 16, .int .i64 0, .int .i64 0, .int .i64 0]), .prog 3 43 #[.int .i64 11, .int .i64 0, .int .i64 0, .int .i64 0, .int .i64 7, .int .i64 1, .int .i64 0, .int .i64 0, .int .i64 16, .int .i64 0, .int .i64 0, .int .i64 0], .prog 3 43 #[.int .i64 11, .int .i64 0, .int .i64 0, .int .i64 0, .int .i64 7, .int .i64 1, .int .i64 0, .int .i64 0, .int .i64 16, .int .i64 0, .int .i64 0, .int .i64 0]]) (fun _ => True) (by kernel_rfl) (by kernel_rfl) trivial (fun _ _ _ _ => trivial) (kAt_mono _ _) ?i92 (fun vs w9 hI9 hb9 hφ => ?_)
  case i92 =>
    intro i o d ho hd a' w' hra hI hb hφ
    match i, ho, hd with
    | 0, ho, hd =>
      cases ho; cases hd
      go_simp
      exact ⟨_, rfl, (Below.refl _ _).alloc (Nat.le_refl _) _, kAt_of rfl (ints_ok (by have := hb.size; omega) rfl (heap_alloc_new _ _))⟩
    | 1, ho, hd =>
      cases ho; cases hd
      obtain ⟨g, hv, hBg, hh⟩ := kAt_ints (n := 1) (l := [0]) rfl (hφ ⟨0, .data⟩ (by simp) rfl 116 rfl)
      go_simp
      refine (inst_any w' 11 [0] (by simp) _ (.inr ⟨g, rfl, (Array.getElem?_eq_some_iff.1 hh).1, cells_of hh⟩)).mono ?_
      rintro e w2 ⟨rfl, hb2⟩
      exact ⟨_, rfl, hb2, kAt_of rfl rfl⟩
    | 2, ho, hd =>
      cases ho; cases hd
      go_simp
      exact ⟨_, rfl, (Below.refl _ _).alloc (Nat.le_refl _) _, kAt_of rfl (ints_ok (by have := hb.size; omega) rfl (heap_alloc_new _ _))⟩
    | 3, ho, hd =>
      cases ho; cases hd
      obtain ⟨g, hv, hBg, hh⟩ := kAt_ints (n := 1) (l := [1]) rfl (hφ ⟨2, .data⟩ (by simp) rfl 118 rfl)
      go_simp
      refine (inst_any w' 7 [1] (by simp) _ (.inr ⟨g, rfl, (Array.getElem?_eq_some_iff.1 hh).1, cells_of hh⟩)).mono ?_
      rintro e w2 ⟨rfl, hb2⟩
      exact ⟨_, rfl, hb2, kAt_of rfl rfl⟩
    | 4, ho, hd =>
      cases ho; cases hd
      go_simp
      refine (inst_any w' 16 [] (by simp) _ (.inl ⟨rfl, rfl⟩)).mono ?_
      rintro e w2 ⟨rfl, hb2⟩
      exact ⟨_, rfl, hb2, kAt_of rfl rfl⟩
    | 5, ho, hd =>
      cases ho; cases hd
      have e117 : a'.tmps[117]?.getD undef = .agg #[.int .i64 11, .int .i64 0, .int .i64 0, .int .i64 0] := by rw [← Array.getD_eq_getD_getElem?]; exact kAt_val rfl (hφ ⟨1, .data⟩ (by simp) rfl 117 rfl)
      have e119 : a'.tmps[119]?.getD undef = .agg #[.int .i64 7, .int .i64 1, .int .i64 0, .int .i64 0] := by rw [← Array.getD_eq_getD_getElem?]; exact kAt_val rfl (hφ ⟨3, .data⟩ (by simp) rfl 119 rfl)
      have e120 : a'.tmps[120]?.getD undef = .agg #[.int .i64 16, .int .i64 0, .int .i64 0, .int .i64 0] := by rw [← Array.getD_eq_getD_getElem?]; exact kAt_val rfl (hφ ⟨4, .data⟩ (by simp) rfl 120 rfl)
      go_simp
      exact ⟨_, rfl, (Below.refl _ _).alloc (Nat.le_refl _) _, kAt_of rfl (prog_ok (by have := hb.size; omega) (heap_alloc_new _ _))⟩
    | 6, ho, hd =>
      cases ho; cases hd
      obtain ⟨g, hv, hBg, hh⟩ := kAt_prog rfl (hφ ⟨5, .data⟩ (by simp) rfl 121 rfl)
      go_simp
      exact ⟨_, rfl, Below.refl _ _, kAt_of rfl (prog_ok hBg hh)⟩
    | i + 7, ho, hd => (simp at ho)
  obtain ⟨g11, e11, hB11, hh11⟩ := kAt_prog rfl (hφ 6 11 rfl)
  have hz9 := hb9.size
  clear hφ
  simp only [putAll]
  go_simp

  have hb69 : Below w6.heap.size w6 w9 := (hb7.trans (hb8.mono (by omega))).trans (hb9.mono (by omega))
  have hb59 : Below w5.heap.size w5 w9 := hb6.trans (hb69.mono (by omega))
  have hx0 := (hb59.block _ (by omega)).trans ((hb5.block _ (by simp; omega)).trans (blk0 w _ _))
  have hx1 := (hb59.block _ (by omega)).trans ((hb5.block _ (by simp)).trans (blk1 w _ _))
  have lt : ∀ {w : World} {g : Nat} {o : Obj}, w.heap[g]? = some o → g < w.heap.size := fun h => (Array.getElem?_eq_some_iff.1 h).1
  have k8 := (hb69.block _ (lt hh8)).trans hh8
  have k9 := ((hb8.trans (hb9.mono (by omega))).block _ (lt hh9)).trans hh9
  have k10 := (hb9.block _ (lt hh10)).trans hh10
  have hbw9 : Below w.heap.size w w9 := ((((Below.refl _ _).alloc (Nat.le_refl _) _).alloc (by simp) _).trans (hb5.mono (by simp; omega))).trans (hb59.mono (by omega))
  have hz1 : w.heap.size + 1 < w9.heap.size := by omega
  have hz0 : w.heap.size < w9.heap.size := by omega
  have HK := Lib.hid (And.intro k8 (And.intro k9 (And.intro k10 (And.intro hh11 hbw9))))
  have q1 : w9.cell? ⟨w.heap.size, 1, none⟩ = some (.int .i64 Q) := cell_of_row w9 _ 1 _ 23 (0, 0) hx0
  have z0 : w9.cell? ⟨w.heap.size + 1, 0, none⟩ = some (.slice none 0 0) := cell_of_row w9 _ 0 _ 29 (0, 0) hx1
  have z1 : w9.cell? ⟨w.heap.size + 1, 1, none⟩ = some (.slice none 0 0) := cell_of_row w9 _ 1 _ 29 (0, 0) hx1
  have z2 : w9.cell? ⟨w.heap.size + 1, 2, none⟩ = some (.int .i64 0) := cell_of_row w9 _ 2 _ 29 (0, 0) hx1
  have z3 : w9.cell? ⟨w.heap.size + 1, 3, none⟩ = some (.int .i64 0) := cell_of_row w9 _ 3 _ 29 (0, 0) hx1
  have z4 : w9.cell? ⟨w.heap.size + 1, 4, none⟩ = some (.int .i64 0) := cell_of_row w9 _ 4 _ 29 (0, 0) hx1
  have zf := fun j => frozen_of_row w9 (w.heap.size + 1) j _ 29 hx1
  have HG := Lib.hid (And.intro hB8 (And.intro hB9 (And.intro hB10 hB11)))
  clear hh8 hh9 hh10 hh11 k8 k9 k10 hx0 hx1 lt hb69 hb59 hb6 hb7 hb8 hb9 hb5 hbw9 hcc5 hff5 hbox e8 e9 e10 e11
  go_wp2
  have hz2 : w.heap.size + 1 < w9.heap.size + 1 := by omega
  have hz3 : ¬ w.heap.size + 1 = w9.heap.size := by omega
  have hz4 : ¬ w.heap.size + 1 = w9.heap.size + 1 := by omega
  have hz5 : ¬ w.heap.size = w9.heap.size := by omega
  refine bodyPost_ret (v := .tuple #[.agg #[.slice (some ⟨w9.heap.size, 0, none⟩) 4 4, .slice (some ⟨w9.heap.size + 1, 0, none⟩) 3 3, .int .i64 1, .int .i64 0, .int .i64 b], .int .i64 0]) (by simp [results, Try.results6, go_sem, hz1, hz2, hz3, hz4, hz5, z0, z1, z2, z3, z4]) rfl ?_
  obtain ⟨k8, k9, k10, k11, hbw9⟩ := HK.out
  obtain ⟨b8, b9, b10, b11⟩ := HG.out
  have hF := made_of hbw9 (by omega) (by omega) (by omega) (by omega) k8 k9 k10 k11 [.slice (some ⟨w9.heap.size, 0, none⟩) 4 4, .slice (some ⟨w9.heap.size + 1, 0, none⟩) 3 3, .int .i64 1, .int .i64 0, .int .i64 b] (Q := Q)
  exact hF
end Go.Proofs.Ytnfbipohajphgaa

