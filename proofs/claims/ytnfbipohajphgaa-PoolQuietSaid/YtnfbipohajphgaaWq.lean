/- Walk: 'wait' does nothing (f24, op 11). -/
import Derived.Test.YtnfbipohajphgaaWk
set_option linter.unusedVariables false
set_option linter.unusedSimpArgs false
namespace Go.Proofs.Ytnfbipohajphgaa
open Go.RowKit Qn PoolQ

variable {w : World} {B bp : Nat} {pv mv : Value} {S : Psys} {st : St} {C : Comp}

theorem wait_done (h : Mach w B bp pv mv S st C) {eb : Nat} {who op a v : Int} {s : Bool} (he : EvBlk w B eb C who op a v s) (hB : B ≤ w.heap.size) {o1 : Obj} :
    Did B bp pv mv S eb who op C.ev st w (w.alloc o1) :=
  ⟨_, _, h.alloc o1, rfl, evAt_of (he.alloc o1), (Below.refl _ _).alloc hB o1⟩

set_option maxRecDepth 8000 in
set_option maxHeartbeats 1000000 in
theorem shared_wait (h : Mach w B bp pv mv S st C) (k : Nat) (a0 b0 c : Int) (eb : Nat) (who op a v : Int) (s : Bool) (he : EvBlk w B eb C who op a v s) :
    Calls Try.prog 24 #[.pointer (some ⟨bp, 0, none⟩), .int .i64 k, .agg #[.int .i64 11, .int .i64 a0, .int .i64 b0, .int .i64 c], .pointer (some ⟨eb, 0, none⟩)] w fun e w' => e = .returned (.int .i64 0) ∧
      Did B bp pv mv S eb who op C.ev st w w' := by
  have hbp := h.lt
  have hB : B ≤ w.heap.size := by have := h.bpB; omega
  have HM := Lib.hid h
  have HE := Lib.hid he
  clear h he
  go_enter Try.func24, Try.ntmps24
  go_wp2
  go_ret
  exact ⟨rfl, wait_done HM.out HE.out hB⟩
end Go.Proofs.Ytnfbipohajphgaa
