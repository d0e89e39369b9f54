/- The pool's system is right: every instruction, as f12 asks. -/
import Derived.Test.YtnfbipohajphgaaWx
import Derived.Test.YtnfbipohajphgaaPf
set_option linter.unusedVariables false
set_option linter.unusedSimpArgs false
namespace Go.Proofs.Ytnfbipohajphgaa
open Go.RowKit Qn PoolQ

theorem field_r {w : World} {s0 s1 s2 s3 s4 : Value} {p v : Int} (h : 0 ≤ v) (h8 : v < 8) : FieldOk (.agg #[s0, s1, s2, s3, s4]) p w 114 v := .inr ⟨by decide, h, 8, h8, fun w1 _ => bound_r w1 s0 s1 s2 s3 s4 p⟩
theorem field_n {w : World} {s0 s1 s2 s3 s4 : Value} {p : Int} : FieldOk (.agg #[s0, s1, s2, s3, s4]) p w 110 0 := .inr ⟨by decide, by omega, 1, by omega, fun w1 _ => bound_n w1 s0 s1 s2 s3 s4 p⟩
theorem field_c {w : World} {pb pn pc mb mn mc : Nat} {g l c p v : Int} (h : 0 ≤ v) (h8 : v < mn) : FieldOk (.agg #[.slice (some ⟨pb, 0, none⟩) pn pc, .slice (some ⟨mb, 0, none⟩) mn mc, .int .i64 g, .int .i64 l, .int .i64 c]) p w 99 v :=
  .inr ⟨by decide, h, mn, h8, fun w1 _ => bound_c w1 pb pn pc mb mn mc g l c p⟩
theorem field_g {w : World} {pb pn pc mb mn mc : Nat} {g l c p v : Int} (h : 0 ≤ v) (h8 : v < g) : FieldOk (.agg #[.slice (some ⟨pb, 0, none⟩) pn pc, .slice (some ⟨mb, 0, none⟩) mn mc, .int .i64 g, .int .i64 l, .int .i64 c]) p w 103 v :=
  .inr ⟨by decide, h, g, h8, fun w1 _ => bound_g w1 pb pn pc mb mn mc g l c p⟩
theorem field_s {w : World} {pb pn pc mb mn mc : Nat} {g l c p v : Int} (h : 0 ≤ v) (h8 : v < pn) : FieldOk (.agg #[.slice (some ⟨pb, 0, none⟩) pn pc, .slice (some ⟨mb, 0, none⟩) mn mc, .int .i64 g, .int .i64 l, .int .i64 c]) p w 115 v :=
  .inr ⟨by decide, h, pn, h8, fun w1 _ => bound_s w1 pb pn pc mb mn mc g l c p⟩
theorem field_p {w : World} {pb pn pc mb mn mc : Nat} {g l c v : Int} {p : Nat} {a : Option Addr} {n cc : Nat} (hp : p < pn) (hpn : pn ≤ 64) (hn : n ≤ 256) (hpb : pb < w.heap.size) (hc : w.cell? ⟨pb, p, none⟩ = some (.slice a n cc)) (h : 0 ≤ v) (h8 : v < n + 1) :
    FieldOk (.agg #[.slice (some ⟨pb, 0, none⟩) pn pc, .slice (some ⟨mb, 0, none⟩) mn mc, .int .i64 g, .int .i64 l, .int .i64 c]) p w 112 v :=
  .inr ⟨by decide, h, n + 1, h8, fun w1 hb => bound_p w1 pb pn pc mb mn mc g l c p hp hpn a n cc hn ((hb.cell (p := ⟨pb, p, none⟩) hpb).trans hc) (by have := hb.size; omega)⟩

set_option maxHeartbeats 1000000 in
theorem right_0 {W Q b jobs : Int} (hb0 : 0 < b) (w1 : World) (pb cp mb cm : Nat) (hpb : pb < w1.heap.size) (ia : Option Addr) (cc : Nat) (hc : w1.cell? ⟨pb, 0, none⟩ = some (.slice ia 15 cc)) (i : Ins) (hi : i ∈ combP W) :
    Calls Try.prog 12 #[.agg #[.slice (some ⟨pb, 0, none⟩) 4 cp, .slice (some ⟨mb, 0, none⟩) 3 cm, .int .i64 1, .int .i64 0, .int .i64 b], .int .i64 (0 : Nat), .agg #[.int .i64 i.op, .int .i64 i.a, .int .i64 i.b, .int .i64 i.c]] w1 fun e w' => e = .returned (.bool true) ∧ Below w1.heap.size w1 w' := by
  simp only [combP, List.mem_cons, List.not_mem_nil, or_false] at hi
  rcases hi with rfl | rfl | rfl | rfl | rfl | rfl | rfl | rfl | rfl | rfl | rfl | rfl | rfl | rfl | rfl
  · exact right_any w1 _ _ _ _ b _ 1 0 0 0 114 120 110 hb0 (by decide) (by decide) (by decide) (by rfl) (field_r (by decide) (by decide)) (.inl rfl) field_n
  · exact right_any w1 _ _ _ _ b _ 1 1 W 0 114 120 110 hb0 (by decide) (by decide) (by decide) (by rfl) (field_r (by decide) (by decide)) (.inl rfl) field_n
  · exact right_any w1 _ _ _ _ b _ 1 2 1 0 114 120 110 hb0 (by decide) (by decide) (by decide) (by rfl) (field_r (by decide) (by decide)) (.inl rfl) field_n
  · exact right_any w1 _ _ _ _ b _ 3 0 1 5 114 114 112 hb0 (by decide) (by decide) (by decide) (by rfl) (field_r (by decide) (by decide)) (field_r (by decide) (by decide)) (field_p (p := 0) (by decide) (by decide) (by decide) hpb hc (by decide) (by decide))
  · exact right_any w1 _ _ _ _ b _ 4 0 0 9 110 110 112 hb0 (by decide) (by decide) (by decide) (by rfl) field_n field_n (field_p (p := 0) (by decide) (by decide) (by decide) hpb hc (by decide) (by decide))
  · exact right_any w1 _ _ _ _ b _ 10 0 1 0 103 120 110 hb0 (by decide) (by decide) (by decide) (by rfl) (field_g (by decide) (by decide)) (.inl rfl) field_n
  · exact right_any w1 _ _ _ _ b _ 14 1 0 0 115 110 110 hb0 (by decide) (by decide) (by decide) (by rfl) (field_s (by decide) (by decide)) field_n field_n
  · exact right_any w1 _ _ _ _ b _ 2 0 2 0 114 114 110 hb0 (by decide) (by decide) (by decide) (by rfl) (field_r (by decide) (by decide)) (field_r (by decide) (by decide)) field_n
  · exact right_any w1 _ _ _ _ b _ 4 0 0 3 110 110 112 hb0 (by decide) (by decide) (by decide) (by rfl) field_n field_n (field_p (p := 0) (by decide) (by decide) (by decide) hpb hc (by decide) (by decide))
  · exact right_any w1 _ _ _ _ b _ 14 2 0 0 115 110 110 hb0 (by decide) (by decide) (by decide) (by rfl) (field_s (by decide) (by decide)) field_n field_n
  · exact right_any w1 _ _ _ _ b _ 14 3 0 0 115 110 110 hb0 (by decide) (by decide) (by decide) (by rfl) (field_s (by decide) (by decide)) field_n field_n
  · exact right_any w1 _ _ _ _ b _ 6 1 3 14 99 114 112 hb0 (by decide) (by decide) (by decide) (by rfl) (field_c (by decide) (by decide)) (field_r (by decide) (by decide)) (field_p (p := 0) (by decide) (by decide) (by decide) hpb hc (by decide) (by decide))
  · exact right_any w1 _ _ _ _ b _ 15 1 3 0 120 114 110 hb0 (by decide) (by decide) (by decide) (by rfl) (.inl rfl) (field_r (by decide) (by decide)) field_n
  · exact right_any w1 _ _ _ _ b _ 4 0 0 11 110 110 112 hb0 (by decide) (by decide) (by decide) (by rfl) field_n field_n (field_p (p := 0) (by decide) (by decide) (by decide) hpb hc (by decide) (by decide))
  · exact right_any w1 _ _ _ _ b _ 16 0 0 0 110 110 110 hb0 (by decide) (by decide) (by decide) (by rfl) field_n field_n field_n

set_option maxHeartbeats 1000000 in
theorem right_1 {W Q b jobs : Int} (hb0 : 0 < b) (w1 : World) (pb cp mb cm : Nat) (hpb : pb < w1.heap.size) (ia : Option Addr) (cc : Nat) (hc : w1.cell? ⟨pb, 1, none⟩ = some (.slice ia 8 cc)) (i : Ins) (hi : i ∈ workP) :
    Calls Try.prog 12 #[.agg #[.slice (some ⟨pb, 0, none⟩) 4 cp, .slice (some ⟨mb, 0, none⟩) 3 cm, .int .i64 1, .int .i64 0, .int .i64 b], .int .i64 (1 : Nat), .agg #[.int .i64 i.op, .int .i64 i.a, .int .i64 i.b, .int .i64 i.c]] w1 fun e w' => e = .returned (.bool true) ∧ Below w1.heap.size w1 w' := by
  simp only [workP, List.mem_cons, List.not_mem_nil, or_false] at hi
  rcases hi with rfl | rfl | rfl | rfl | rfl | rfl | rfl | rfl
  · exact right_any w1 _ _ _ _ b _ 6 0 3 6 99 114 112 hb0 (by decide) (by decide) (by decide) (by rfl) (field_c (by decide) (by decide)) (field_r (by decide) (by decide)) (field_p (p := 1) (by decide) (by decide) (by decide) hpb hc (by decide) (by decide))
  · exact right_any w1 _ _ _ _ b _ 12 3 4 0 114 114 110 hb0 (by decide) (by decide) (by decide) (by rfl) (field_r (by decide) (by decide)) (field_r (by decide) (by decide)) field_n
  · exact right_any w1 _ _ _ _ b _ 15 0 4 0 120 114 110 hb0 (by decide) (by decide) (by decide) (by rfl) (.inl rfl) (field_r (by decide) (by decide)) field_n
  · exact right_any w1 _ _ _ _ b _ 5 2 3 0 99 114 110 hb0 (by decide) (by decide) (by decide) (by rfl) (field_c (by decide) (by decide)) (field_r (by decide) (by decide)) field_n
  · exact right_any w1 _ _ _ _ b _ 5 1 4 0 99 114 110 hb0 (by decide) (by decide) (by decide) (by rfl) (field_c (by decide) (by decide)) (field_r (by decide) (by decide)) field_n
  · exact right_any w1 _ _ _ _ b _ 4 0 0 0 110 110 112 hb0 (by decide) (by decide) (by decide) (by rfl) field_n field_n (field_p (p := 1) (by decide) (by decide) (by decide) hpb hc (by decide) (by decide))
  · exact right_any w1 _ _ _ _ b _ 10 0 (-1) 0 103 120 110 hb0 (by decide) (by decide) (by decide) (by rfl) (field_g (by decide) (by decide)) (.inl rfl) field_n
  · exact right_any w1 _ _ _ _ b _ 16 0 0 0 110 110 110 hb0 (by decide) (by decide) (by decide) (by rfl) field_n field_n field_n

set_option maxHeartbeats 1000000 in
theorem right_2 {W Q b jobs : Int} (hb0 : 0 < b) (w1 : World) (pb cp mb cm : Nat) (hpb : pb < w1.heap.size) (ia : Option Addr) (cc : Nat) (hc : w1.cell? ⟨pb, 2, none⟩ = some (.slice ia 19 cc)) (i : Ins) (hi : i ∈ feedP b jobs) :
    Calls Try.prog 12 #[.agg #[.slice (some ⟨pb, 0, none⟩) 4 cp, .slice (some ⟨mb, 0, none⟩) 3 cm, .int .i64 1, .int .i64 0, .int .i64 b], .int .i64 (2 : Nat), .agg #[.int .i64 i.op, .int .i64 i.a, .int .i64 i.b, .int .i64 i.c]] w1 fun e w' => e = .returned (.bool true) ∧ Below w1.heap.size w1 w' := by
  simp only [feedP, List.mem_cons, List.not_mem_nil, or_false] at hi
  rcases hi with rfl | rfl | rfl | rfl | rfl | rfl | rfl | rfl | rfl | rfl | rfl | rfl | rfl | rfl | rfl | rfl | rfl | rfl | rfl
  · exact right_any w1 _ _ _ _ b _ 1 0 0 0 114 120 110 hb0 (by decide) (by decide) (by decide) (by rfl) (field_r (by decide) (by decide)) (.inl rfl) field_n
  · exact right_any w1 _ _ _ _ b _ 1 1 b 0 114 120 110 hb0 (by decide) (by decide) (by decide) (by rfl) (field_r (by decide) (by decide)) (.inl rfl) field_n
  · exact right_any w1 _ _ _ _ b _ 1 2 1 0 114 120 110 hb0 (by decide) (by decide) (by decide) (by rfl) (field_r (by decide) (by decide)) (.inl rfl) field_n
  · exact right_any w1 _ _ _ _ b _ 3 0 1 5 114 114 112 hb0 (by decide) (by decide) (by decide) (by rfl) (field_r (by decide) (by decide)) (field_r (by decide) (by decide)) (field_p (p := 2) (by decide) (by decide) (by decide) hpb hc (by decide) (by decide))
  · exact right_any w1 _ _ _ _ b _ 4 0 0 8 110 110 112 hb0 (by decide) (by decide) (by decide) (by rfl) field_n field_n (field_p (p := 2) (by decide) (by decide) (by decide) hpb hc (by decide) (by decide))
  · exact right_any w1 _ _ _ _ b _ 5 2 0 0 99 114 110 hb0 (by decide) (by decide) (by decide) (by rfl) (field_c (by decide) (by decide)) (field_r (by decide) (by decide)) field_n
  · exact right_any w1 _ _ _ _ b _ 2 0 2 0 114 114 110 hb0 (by decide) (by decide) (by decide) (by rfl) (field_r (by decide) (by decide)) (field_r (by decide) (by decide)) field_n
  · exact right_any w1 _ _ _ _ b _ 4 0 0 3 110 110 112 hb0 (by decide) (by decide) (by decide) (by rfl) field_n field_n (field_p (p := 2) (by decide) (by decide) (by decide) hpb hc (by decide) (by decide))
  · exact right_any w1 _ _ _ _ b _ 1 0 0 0 114 120 110 hb0 (by decide) (by decide) (by decide) (by rfl) (field_r (by decide) (by decide)) (.inl rfl) field_n
  · exact right_any w1 _ _ _ _ b _ 1 1 jobs 0 114 120 110 hb0 (by decide) (by decide) (by decide) (by rfl) (field_r (by decide) (by decide)) (.inl rfl) field_n
  · exact right_any w1 _ _ _ _ b _ 3 0 1 12 114 114 112 hb0 (by decide) (by decide) (by decide) (by rfl) (field_r (by decide) (by decide)) (field_r (by decide) (by decide)) (field_p (p := 2) (by decide) (by decide) (by decide) hpb hc (by decide) (by decide))
  · exact right_any w1 _ _ _ _ b _ 4 0 0 17 110 110 112 hb0 (by decide) (by decide) (by decide) (by rfl) field_n field_n (field_p (p := 2) (by decide) (by decide) (by decide) hpb hc (by decide) (by decide))
  · exact right_any w1 _ _ _ _ b _ 6 2 3 17 99 114 112 hb0 (by decide) (by decide) (by decide) (by rfl) (field_c (by decide) (by decide)) (field_r (by decide) (by decide)) (field_p (p := 2) (by decide) (by decide) (by decide) hpb hc (by decide) (by decide))
  · exact right_any w1 _ _ _ _ b _ 13 3 0 0 114 114 110 hb0 (by decide) (by decide) (by decide) (by rfl) (field_r (by decide) (by decide)) (field_r (by decide) (by decide)) field_n
  · exact right_any w1 _ _ _ _ b _ 5 0 3 0 99 114 110 hb0 (by decide) (by decide) (by decide) (by rfl) (field_c (by decide) (by decide)) (field_r (by decide) (by decide)) field_n
  · exact right_any w1 _ _ _ _ b _ 2 0 2 0 114 114 110 hb0 (by decide) (by decide) (by decide) (by rfl) (field_r (by decide) (by decide)) (field_r (by decide) (by decide)) field_n
  · exact right_any w1 _ _ _ _ b _ 4 0 0 10 110 110 112 hb0 (by decide) (by decide) (by decide) (by rfl) field_n field_n (field_p (p := 2) (by decide) (by decide) (by decide) hpb hc (by decide) (by decide))
  · exact right_any w1 _ _ _ _ b _ 7 0 0 0 99 110 110 hb0 (by decide) (by decide) (by decide) (by rfl) (field_c (by decide) (by decide)) field_n field_n
  · exact right_any w1 _ _ _ _ b _ 16 0 0 0 110 110 110 hb0 (by decide) (by decide) (by decide) (by rfl) field_n field_n field_n

set_option maxHeartbeats 1000000 in
theorem right_3 {W Q b jobs : Int} (hb0 : 0 < b) (w1 : World) (pb cp mb cm : Nat) (hpb : pb < w1.heap.size) (ia : Option Addr) (cc : Nat) (hc : w1.cell? ⟨pb, 3, none⟩ = some (.slice ia 3 cc)) (i : Ins) (hi : i ∈ closP) :
    Calls Try.prog 12 #[.agg #[.slice (some ⟨pb, 0, none⟩) 4 cp, .slice (some ⟨mb, 0, none⟩) 3 cm, .int .i64 1, .int .i64 0, .int .i64 b], .int .i64 (3 : Nat), .agg #[.int .i64 i.op, .int .i64 i.a, .int .i64 i.b, .int .i64 i.c]] w1 fun e w' => e = .returned (.bool true) ∧ Below w1.heap.size w1 w' := by
  simp only [closP, List.mem_cons, List.not_mem_nil, or_false] at hi
  rcases hi with rfl | rfl | rfl
  · exact right_any w1 _ _ _ _ b _ 11 0 0 0 103 110 110 hb0 (by decide) (by decide) (by decide) (by rfl) (field_g (by decide) (by decide)) field_n field_n
  · exact right_any w1 _ _ _ _ b _ 7 1 0 0 99 110 110 hb0 (by decide) (by decide) (by decide) (by rfl) (field_c (by decide) (by decide)) field_n field_n
  · exact right_any w1 _ _ _ _ b _ 16 0 0 0 110 110 110 hb0 (by decide) (by decide) (by decide) (by rfl) field_n field_n field_n

theorem sys_right {W Q b jobs : Int} (hP : Par W Q b jobs) (w : World) (pv mv : Value) (hS : SysMem w w.heap.size pv mv (poolSys W Q b jobs)) :
    ∀ (p : Nat) (l : List Ins) (j : Nat) (i : Ins), (poolSys W Q b jobs).progs[p]? = some l → l[j]? = some i → ∀ w1, Below w.heap.size w w1 → Calls Try.prog 12 #[.agg #[pv, mv, .int .i64 1, .int .i64 0, .int .i64 b], .int .i64 p, .agg #[.int .i64 i.op, .int .i64 i.a, .int .i64 i.b, .int .i64 i.c]] w1 fun e w' => e = .returned (.bool true) ∧ Below w1.heap.size w1 w' := by
  obtain ⟨⟨pb, cp, ib, ci, h1, hpw, hpl, hpr⟩, mb, cm, k1, hmw, hml, hmr⟩ := hS
  have e1 : (poolSys W Q b jobs).progs.length = 4 := rfl
  have e2 : (poolSys W Q b jobs).rooms.length = 3 := rfl
  rw [e1] at h1
  rw [e2] at k1
  subst h1 k1
  intro p l j i hl hj w1 hb1
  have hb0 : 0 < b := by have := hP.b; omega
  have hz := hb1.size
  obtain ⟨q1, q2, q3, -⟩ := hpr p l hl
  have hc := (hb1.cell (p := ⟨pb, p, none⟩) hpw).trans q3
  have hi := List.mem_of_getElem? hj
  match p, hl with
  | 0, hl => cases hl; exact right_0 (Q := Q) (jobs := jobs) hb0 w1 pb cp mb cm (by omega) _ _ hc i hi
  | 1, hl => cases hl; exact right_1 (W := W) (Q := Q) (jobs := jobs) hb0 w1 pb cp mb cm (by omega) _ _ hc i hi
  | 2, hl => cases hl; exact right_2 (W := W) (Q := Q) hb0 w1 pb cp mb cm (by omega) _ _ hc i hi
  | 3, hl => cases hl; exact right_3 (W := W) (Q := Q) (jobs := jobs) hb0 w1 pb cp mb cm (by omega) _ _ hc i hi
  | p + 4, hl => simp [poolSys] at hl

/-- **The pool's system may be (f8).** -/
theorem pool_valid {W Q b jobs : Int} (hP : Par W Q b jobs) (w : World) (pv mv : Value) (hS : SysMem w w.heap.size pv mv (poolSys W Q b jobs)) :
    Calls Try.prog 8 #[.agg #[pv, mv, .int .i64 1, .int .i64 0, .int .i64 b]] w fun e w' => e = .returned (.bool true) ∧ Below w.heap.size w w' := by
  refine sys_valid w pv mv (poolSys W Q b jobs) b hP.b hS (by simp [poolSys]) ?_ (sys_right hP w pv mv hS)
  intro j r hr
  have := hP.Q
  have := hP.b
  match j, hr with
  | 0, hr => cases hr; omega
  | 1, hr => cases hr; omega
  | 2, hr => cases hr; omega
  | j + 3, hr => simp [poolSys] at hr

end Go.Proofs.Ytnfbipohajphgaa

