/- Walks: is a system right (f19 fields, f20 bound, f12 right). -/
import Derived.Test.YtnfbipohajphgaaWu
import Derived.Test.YtnfbipohajphgaaMa
import Derived.Deep.RegionHeld3
import Derived.Deep.DeepCutAuto
import Derived.Deep.QuietTactic
import Derived.BigQuiet
import Derived.StillTailTactics
import Derived.Deep.Draws
set_option linter.unusedVariables false
set_option linter.unusedSimpArgs false
namespace Go.Proofs.Ytnfbipohajphgaa
open Go.RowKit Qn PoolQ

def fieldsOf (op : Int) : ByteArray :=
  if op = 1 then ⟨#[114, 120, 110]⟩ else if op = 2 ∨ op = 12 ∨ op = 13 then ⟨#[114, 114, 110]⟩ else if op = 3 then ⟨#[114, 114, 112]⟩ else if op = 4 then ⟨#[110, 110, 112]⟩
  else if op = 5 then ⟨#[99, 114, 110]⟩ else if op = 6 then ⟨#[99, 114, 112]⟩ else if op = 7 then ⟨#[99, 110, 110]⟩ else if op = 10 then ⟨#[103, 120, 110]⟩ else if op = 11 then ⟨#[103, 110, 110]⟩
  else if op = 14 then ⟨#[115, 110, 110]⟩ else if op = 15 then ⟨#[120, 114, 110]⟩ else ⟨#[110, 110, 110]⟩

set_option maxHeartbeats 4000000 in
theorem fields_any (op : Int) (w : World) (h : 1 ≤ op ∧ op ≤ 16) (n8 : op ≠ 8) (n9 : op ≠ 9) :
    Calls Try.prog 19 #[.int .i64 op] w fun e w' => e = .returned (.string (fieldsOf op)) ∧ Below w.heap.size w w' := by
  have hops : op = 1 ∨ op = 2 ∨ op = 3 ∨ op = 4 ∨ op = 5 ∨ op = 6 ∨ op = 7 ∨ op = 10 ∨ op = 11 ∨ op = 12 ∨ op = 13 ∨ op = 14 ∨ op = 15 ∨ op = 16 := by omega
  clear h n8 n9
  rcases hops with rfl | rfl | rfl | rfl | rfl | rfl | rfl | rfl | rfl | rfl | rfl | rfl | rfl | rfl
  all_goals
    go_enter Try.func19, Try.ntmps19
    go_wp2
    go_ret
    exact ⟨rfl, (Below.refl _ _).alloc (Nat.le_refl _) _⟩

/-- The bounds of the letters. -/
theorem bound_r (w : World) (s0 s1 s2 s3 s4 : Value) (p : Int) :
    Calls Try.prog 20 #[.agg #[s0, s1, s2, s3, s4], .int .i64 p, .int .u8 114] w fun e w' => e = .returned (.int .i64 8) ∧ Below w.heap.size w w' := by
  go_enter Try.func20, Try.ntmps20
  go_wp2
  go_ret
  exact ⟨rfl, (Below.refl _ _).alloc (Nat.le_refl _) _⟩
theorem bound_n (w : World) (s0 s1 s2 s3 s4 : Value) (p : Int) :
    Calls Try.prog 20 #[.agg #[s0, s1, s2, s3, s4], .int .i64 p, .int .u8 110] w fun e w' => e = .returned (.int .i64 1) ∧ Below w.heap.size w w' := by
  go_enter Try.func20, Try.ntmps20
  go_wp2
  go_ret
  exact ⟨rfl, (Below.refl _ _).alloc (Nat.le_refl _) _⟩
theorem bound_c (w : World) (pb pn pc mb mn mc : Nat) (g l c : Int) (p : Int) :
    Calls Try.prog 20 #[.agg #[.slice (some ⟨pb, 0, none⟩) pn pc, .slice (some ⟨mb, 0, none⟩) mn mc, .int .i64 g, .int .i64 l, .int .i64 c], .int .i64 p, .int .u8 99] w fun e w' => e = .returned (.int .i64 mn) ∧ Below w.heap.size w w' := by
  go_enter Try.func20, Try.ntmps20
  go_wp2
  go_ret
  exact ⟨rfl, (Below.refl _ _).alloc (Nat.le_refl _) _⟩
theorem bound_g (w : World) (pb pn pc mb mn mc : Nat) (g l c : Int) (p : Int) :
    Calls Try.prog 20 #[.agg #[.slice (some ⟨pb, 0, none⟩) pn pc, .slice (some ⟨mb, 0, none⟩) mn mc, .int .i64 g, .int .i64 l, .int .i64 c], .int .i64 p, .int .u8 103] w fun e w' => e = .returned (.int .i64 g) ∧ Below w.heap.size w w' := by
  go_enter Try.func20, Try.ntmps20
  go_wp2
  go_ret
  exact ⟨rfl, (Below.refl _ _).alloc (Nat.le_refl _) _⟩
theorem bound_s (w : World) (pb pn pc mb mn mc : Nat) (g l c : Int) (p : Int) :
    Calls Try.prog 20 #[.agg #[.slice (some ⟨pb, 0, none⟩) pn pc, .slice (some ⟨mb, 0, none⟩) mn mc, .int .i64 g, .int .i64 l, .int .i64 c], .int .i64 p, .int .u8 115] w fun e w' => e = .returned (.int .i64 pn) ∧ Below w.heap.size w w' := by
  go_enter Try.func20, Try.ntmps20
  go_wp2
  go_ret
  exact ⟨rfl, (Below.refl _ _).alloc (Nat.le_refl _) _⟩
theorem bound_p (w : World) (pb pn pc mb mn mc : Nat) (g l c : Int) (p : Nat) (hp : p < pn) (hpn : pn ≤ 64) (a : Option Addr) (n cc : Nat) (hn : n ≤ 256) (hc : w.cell? ⟨pb, p, none⟩ = some (.slice a n cc)) (hpb : pb < w.heap.size) :
    Calls Try.prog 20 #[.agg #[.slice (some ⟨pb, 0, none⟩) pn pc, .slice (some ⟨mb, 0, none⟩) mn mc, .int .i64 g, .int .i64 l, .int .i64 c], .int .i64 p, .int .u8 112] w fun e w' => e = .returned (.int .i64 (n + 1)) ∧ Below w.heap.size w w' := by
  go_enter Try.func20, Try.ntmps20
  go_wp2
  go_ret
  exact ⟨rfl, (Below.refl _ _).alloc (Nat.le_refl _) _⟩

/-- A field that may be: nothing is asked, or it lies below the letter's bound. -/
def FieldOk (sys : Value) (p : Int) (w0 : World) (c : UInt8) (v : Int) : Prop :=
  c = 120 ∨ (c ≠ 120 ∧ 0 ≤ v ∧ ∃ n : Int, v < n ∧ ∀ w, Below w0.heap.size w0 w → Calls Try.prog 20 #[sys, .int .i64 p, .int .u8 c.toNat] w fun e w' => e = .returned (.int .i64 n) ∧ Below w.heap.size w w')


theorem heap_ext' (w : World) (o : Obj) : (w.alloc o).heap = w.heap.push o := rfl
theorem blk0 (w : World) (a b : Obj) : ((w.alloc a).alloc b).heap[w.heap.size]? = some a := by
  simp only [heap_ext', Array.getElem?_push, Array.size_push]
  rw [if_neg (by omega)]
  simp
theorem blk1 (w : World) (a b : Obj) : ((w.alloc a).alloc b).heap[w.heap.size + 1]? = some b := by
  simp only [heap_ext', Array.getElem?_push, Array.size_push]
  simp
theorem bDrewN {B : Nat} {a w : World} (h : Below B a w) (n : Nat) : Below B a (w.drewN n) := ⟨h.os, h.tape, h.output, h.size, h.block⟩

end Go.Proofs.Ytnfbipohajphgaa
