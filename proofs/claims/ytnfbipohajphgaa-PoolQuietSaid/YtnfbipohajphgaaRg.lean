/- A region that draws its order, walked once: what only reads is carried out first, in whatever world meets S; what changes memory follows in the one order that is left; S is shown again only behind what another operation may follow that reads. -/
import Derived.WalkKit
import Derived.OrdersHeld
import Derived.Deep.Quiet
import Derived.Deep.QuietTactic
import Derived.BigQuiet
import Derived.StillTailTactics
set_option linter.unusedVariables false
set_option linter.unusedSimpArgs false
namespace Qn
open Go

section
variable {P : Program} {ops : Array Oper} {Q : Exit → Act → World → Prop} {md : Region.Mode} {S : World → Prop}

/-- A call of one of these builtins. -/
def readCall (c : Call) : Bool := match c.callee with | .builtin .len => true | .builtin .cap => true | _ => false

/-- The kinds of operation that only read, and enter no function. -/
def readKind : Op → Bool
  | .move _ | .assign _ | .load _ _ | .fieldAddr _ _ _ | .field _ _ _ | .indexAddr _ _ _ | .index _ _ _ | .binOp _ _ _ _ _ | .unOp _ _ _ | .convert _ _ _ | .slice _ _ _ _ _ | .makeInterface _ _ | .alloc _ | .buildSlice _ _ _ | .build _ _ | .extract _ _ | .nilCheck _ => true
  | .call c => readCall c
  | _ => false

theorem run_value {α : Type} (s : Sem α) (k : α → Next) (hk : ∀ x f args, k x ≠ .enter f args) (P : Program) (w w' : World) (f : FuncId) (args : Array Value) :
    (do pure (k (← s)) : Sem Next).run P w ≠ .ok (.enter f args) w' := by
  intro h
  simp at h
  generalize s.run P w = r at h
  cases r with
  | ok x w1 => simp [Result.andThen] at h; exact hk _ _ _ h.1
  | halt x w1 => simp [Result.andThen] at h

theorem no_enter {o : Oper} (h : readKind o.op = true) (ρ : Operand → Value) (w w' : World) (f : FuncId) (args : Array Value) : (execOp ρ o).run P w ≠ .ok (.enter f args) w' := by
  obtain ⟨d, op, t, g, s, af⟩ := o
  cases op <;> simp only [readKind] at h <;> first
    | (rename_i c
       obtain ⟨callee, cargs, ctypes⟩ := c
       simp only [readCall] at h
       split at h
       · intro h2
         simp only [execOp, resolve] at h2
         simp at h2
         simp only [invoke, builtin] at h2
         exact run_value _ Next.value (fun _ _ _ => nofun) P w w' f args h2
       · intro h2
         simp only [execOp, resolve] at h2
         simp at h2
         simp only [invoke, builtin] at h2
         exact run_value _ Next.value (fun _ _ _ => nofun) P w w' f args h2
       · cases h)
    | exact absurd h (by decide)
    | (simp only [execOp]; exact run_value _ Next.value (fun _ _ _ => nofun) P w w' f args)
    | (simp only [execOp]; intro h; simp [go_sem] at h; done)
    | (simp only [execOp]
       intro h
       split at h
       · simp [runtimePanic] at h
       · simp [runtimePanic] at h
       · simp [runtimePanic] at h
       · split at h
         · simp [runtimePanic] at h
         · rename_i t u _
           simp at h
           generalize Sem.run P _ w = r at h
           cases r with
           | ok x w1 => simp only [Result.andThen] at h; split at h <;> simp at h
           | halt x w1 => simp [Result.andThen] at h
         · simp at h
       · simp at h)

/-- In state 'a', in every world that meets S, the operation leaves v and the world as it is. -/
def Reads (P : Program) (ops : Array Oper) (S : World → Prop) (o : Oper) (v : Value) (a : Act) : Prop :=
  (Region.wanted o (yielded ops a.tmps) = true ∧ ∀ w, S w → ((execOp a.eval o).run P w = .ok (.value v) w ∨ ((execOp a.eval o).run P w = .ok .skip w ∧ v = undef))) ∨
  (Region.wanted o (yielded ops a.tmps) = false ∧ v = undef)

theorem Reads.wpOp {i : Nat} {o : Oper} {v : Value} {a : Act} (hi : ops[i]? = some o) (hy : Reads P ops S o v a)
    {K : Act → World → Prop} {w : World} (hS : S w) (h : K (a.put o.dst v) w) : wpOp P ops Q i K a w := by
  unfold Go.wpOp
  simp only [hi]
  rcases hy with ⟨hw, hv⟩ | ⟨hw, rfl⟩
  · rw [if_pos hw]
    refine .inl ?_
    unfold Oper.wp
    rcases hv w hS with hr | ⟨hr, hu⟩
    · rw [hr]; exact h
    · rw [hr]; subst hu; exact h
  · simp only [hw, Bool.false_eq_true, if_false]; exact h

theorem Reads.of_same {o : Oper} {v : Value} {a a' : Act} (hy : Reads P ops S o v a) (he : execOp a'.eval o = execOp a.eval o)
    (hw : Region.wanted o (yielded ops a'.tmps) = Region.wanted o (yielded ops a.tmps)) : Reads P ops S o v a' := by
  unfold Reads at *
  rw [he, hw]
  exact hy

theorem reads_of_quiet {C : World → Prop} (hC : ∀ w, S w → C w) {i : Nat} {o : Oper} {a : Act} {K : Act → Prop} (hk : readKind o.op = true) (hi : ops[i]? = some o) (h : qOp P ops C i K a) :
    ∃ v, Reads P ops S o v a ∧ K (a.put o.dst v) := by
  obtain ⟨v, hy, hK⟩ := yieldsIn_of_qOp hi h
  refine ⟨v, ?_, hK⟩
  rcases hy with ⟨hw, hv⟩ | hw
  · refine .inl ⟨hw, fun w hS => ?_⟩
    have h1 := hv w (hC w hS)
    unfold Oper.quietAt at h1
    have hne := no_enter (P := P) hk a.eval w
    generalize (execOp a.eval o).run P w = r at h1 hne
    cases r with
    | ok n w' =>
      cases n <;> simp only [Oper.quietUpon] at h1
      case value u => obtain ⟨rfl, rfl⟩ := h1; exact .inl rfl
      case skip => obtain ⟨rfl, rfl⟩ := h1; exact .inr ⟨rfl, rfl⟩
      case enter f args => exact absurd rfl (hne w' f args)
    | halt x w' => exact absurd h1 (by simp [Oper.quietUpon])
  · exact .inr hw

theorem wpOp_putR {j : Nat} {oi oj : Oper} {v : Value} (hj : ops[j]? = some oj) (hap : oi.apart ops oj = true)
    (hsi : ∀ cs b, oi.op ≠ .select cs b) (hsj : ∀ cs b, oj.op ≠ .select cs b)
    (hQ : ∀ c a w, Q (.panic c) (a.put oi.dst v) w → Q (.panic c) a w) {K : Act → World → Prop} {a : Act} {w : World}
    (hy : Reads P ops S oi v a) (h : wpOp P ops Q j K (a.put oi.dst v) w) :
    wpOp P ops Q j (fun a' w' => Reads P ops S oi v a' ∧ K (a'.put oi.dst v) w') a w := by
  obtain ⟨h1, h2, h3⟩ := Oper.apart_spec hap
  have keep : ∀ (a : Act), Reads P ops S oi v a → ∀ u, Reads P ops S oi v (a.put oj.dst u) := fun a hy u =>
    hy.of_same (execOp_put oi hsi a oj.dst u h3) (wanted_put oi a oj.dst u h3)
  have keepD : ∀ d, Reads P ops S oi v { a with defers := d :: a.defers } := fun d => hy.of_same rfl rfl
  unfold wpOp at *
  simp only [hj] at *
  rw [wanted_put oj a oi.dst v h1] at h
  split
  · rename_i hw
    simp only [hw, if_true] at h
    rcases h with h | ⟨hasks, hlets⟩
    case inr => exact .inr ⟨by unfold Oper.asks at *; rw [execOp_put oj hsj a oi.dst v h1] at hasks; exact hasks, hlets⟩
    refine .inl ?_
    unfold Oper.wp at *
    rw [execOp_put oj hsj a oi.dst v h1] at h
    generalize (execOp a.eval oj).run P w = r at *
    cases r with
    | ok n w' =>
      cases n <;> simp only [Oper.upon] at h ⊢
      case value u => exact ⟨keep a hy u, by rw [← Act.put_comm a v u h2]; exact h⟩
      case skip => exact ⟨keep a hy _, by rw [← Act.put_comm a v undef h2]; exact h⟩
      case defer d =>
        refine ⟨keep _ (keepD d) _, ?_⟩
        rw [← Act.put_comm _ v undef h2, ← Act.put_defers]
        exact h
      case enter f args =>
        refine Calls.mono h fun e w'' he => ?_
        cases e with
        | returned u => exact ⟨keep a hy u, by rw [← Act.put_comm a v u h2]; exact he⟩
        | panicked c => exact hQ _ _ _ he
        | outgrown => exact he
      case row row args => exact Rows.mono h fun u w'' he => ⟨keep a hy u, by rw [← Act.put_comm a v u h2]; exact he⟩
    | halt x w' =>
      cases x <;> simp only [Oper.upon] at h ⊢
      case panic u => exact hQ _ _ _ h
  · rename_i hw
    simp only [hw] at h
    exact ⟨keep a hy _, by rw [← Act.put_comm a v undef h2]; exact h⟩

/-- What is listed holds with each operation those that it waits for. -/
def Closed (md : Region.Mode) (ops : Array Oper) (listed : Array Bool) : Prop :=
  ∀ j oj, ops[j]? = some oj → listed.getD j false = true → ∀ e ∈ oj.after, Region.binds md e = true → listed.getD e.on false = true

/-- z comes up behind i. -/
def Behind (md : Region.Mode) (ops : Array Oper) (i z : Nat) : Prop := ∀ listed, Closed md ops listed → listed.getD z false = true → listed.getD i false = true

theorem closed_set {listed : Array Bool} {j : Nat} (hc : Closed md ops listed) (hj : j ∈ Region.ready md ops listed) : Closed md ops (listed.setIfInBounds j true) := by
  intro k ok hk hl e he hb
  obtain ⟨-, oj, hoj, hall⟩ := mem_ready.1 hj
  by_cases hjk : j = k
  · subst hjk
    rw [hoj] at hk
    cases hk
    exact getD_set_true (hall e he hb)
  · rw [getD_set_ne false hjk] at hl
    exact getD_set_true (hc k ok hk hl e he hb)

/-- Whatever order is picked; an operation that F names keeps S. -/
def wpAnyF (P : Program) (md : Region.Mode) (ops : Array Oper) (Q : Exit → Act → World → Prop) (S : World → Prop) (F : Nat → Bool) : Nat → Array Bool → Act → World → Prop
  | 0, listed, a, w => Region.ready md ops listed = [] ∧ Q .normal a w
  | fuel + 1, listed, a, w =>
    (Region.ready md ops listed = [] → Q .normal a w) ∧
    ∀ i ∈ Region.ready md ops listed, wpOp P ops Q i (fun a' w' => (F i = true → S w → S w') ∧ wpAnyF P md ops Q S F fuel (listed.setIfInBounds i true) a' w') a w

theorem wpAny_of_F {F : Nat → Bool} : ∀ (fuel : Nat) (listed : Array Bool) (a : Act) (w : World), wpAnyF P md ops Q S F fuel listed a w → wpAny P md ops Q fuel listed a w
  | 0, _, _, _, h => h
  | fuel + 1, _, _, _, h => ⟨h.1, fun i hi => wpOp_mono (fun a' w' h' => wpAny_of_F fuel _ a' w' h'.2) (h.2 i hi)⟩

theorem ready_bounds {i : Nat} {listed : Array Bool} (h : i ∈ Region.ready md ops listed) : i < listed.size := by
  have h0 := (mem_ready.1 h).1
  rcases Nat.lt_or_ge i listed.size with h' | h'
  · exact h'
  · simp [Array.getElem?_eq_none h'] at h0

theorem wpAnyF_first {R : World → Prop} {F : Nat → Bool} {i : Nat} {oi : Oper} {v : Value} (hi : ops[i]? = some oi) (hsel : ∀ (j : Nat) (o : Oper) cs b, ops[j]? = some o → o.op ≠ .select cs b)
    (hQ : ∀ c a w, Q (.panic c) (a.put oi.dst v) w → Q (.panic c) a w) (hz : (R = S ∧ ∀ z, F z = false → Behind md ops i z) ∨ R = fun _ => True) :
    ∀ (fuel : Nat) (listed : Array Bool) (a : Act) (w : World), Closed md ops listed →
      (∀ j oj, ops[j]? = some oj → j ≠ i → listed.getD j true = false → (∀ e ∈ oj.after, Region.binds md e = true → e.on ≠ i) → oi.apart ops oj = true) →
      i ∈ Region.ready md ops listed → Reads P ops R oi v a → R w →
      wpAnyF P md ops Q S F fuel (listed.setIfInBounds i true) (a.put oi.dst v) w → wpAnyF P md ops Q S F (fuel + 1) listed a w := by
  intro fuel
  induction fuel with
  | zero =>
    intro listed a w _ _ hr hy hS H
    refine ⟨fun h => (by rw [h] at hr; cases hr), fun j hj => ?_⟩
    by_cases hji : j = i
    · subst hji; exact hy.wpOp hi hS ⟨fun _ h => h, H⟩
    · have := ready_mono hj hji
      rw [H.1] at this
      cases this
  | succ fuel ih =>
    intro listed a w hcl hfree hr hy hS H
    refine ⟨fun h => (by rw [h] at hr; cases hr), fun j hj => ?_⟩
    by_cases hji : j = i
    · subst hji; exact hy.wpOp hi hS ⟨fun _ h => h, H⟩
    · have h1 := H.2 j (ready_mono hj hji)
      obtain ⟨hjun, oj, hoj, hall⟩ := mem_ready.1 hj
      have hin := ready_bounds hr
      have hiun : listed.getD i false = false := by
        have h0 := (mem_ready.1 hr).1
        simp [hin] at h0 ⊢
        exact h0
      have hnot : ∀ e ∈ oj.after, Region.binds md e = true → e.on ≠ i := fun e he hb heq => by
        have h1 := hall e he hb
        rw [heq, hiun] at h1
        cases h1
      have hkeep : ∀ w', (F j = true → S w → S w') → R w' := by
        rcases hz with ⟨rfl, hz⟩ | rfl
        · intro w' h3
          refine h3 ?_ hS
          cases hF : F j with
          | true => rfl
          | false =>
            have h3 := hz j hF _ (closed_set hcl hj) (by have := ready_bounds hj; simp [this])
            rw [getD_set_ne false hji, hiun] at h3
            cases h3
        · exact fun _ _ => trivial
      have h2 := wpOp_putR hoj (hfree j oj hoj hji hjun hnot) (fun cs b => hsel i oi cs b hi) (fun cs b => hsel j oj cs b hoj) hQ hy h1
      have hfree' : ∀ k ok, ops[k]? = some ok → k ≠ i → (listed.setIfInBounds j true).getD k true = false →
          (∀ e ∈ ok.after, Region.binds md e = true → e.on ≠ i) → oi.apart ops ok = true := fun k ok hk hki hun hno => by
        refine hfree k ok hk hki ?_ hno
        by_cases hjk : j = k
        · subst hjk; exact hjun
        · rw [getD_set_ne true hjk] at hun; exact hun
      refine wpOp_mono (fun a' w' h3 => ⟨h3.2.1, ih (listed.setIfInBounds j true) a' w' (closed_set hcl hj) hfree' (ready_mono hr (Ne.symm hji)) h3.1 (hkeep _ h3.2.1) ?_⟩) h2
      rw [Array.setIfInBounds_comm _ _ hji]
      exact h3.2.2

/-! ### The checks -/

def ancs (md : Region.Mode) (ops : Array Oper) : List Nat → List Nat → List Nat
  | [], A => A
  | j :: js, A => ancs md ops js (if A.contains j then (match ops[j]? with | some o => (o.after.toList.filter fun e => Region.binds md e).map (·.on) | none => []) ++ A else A)

theorem ancs_behind {z : Nat} : ∀ (js A : List Nat), (∀ i ∈ A, Behind md ops i z) → ∀ i ∈ ancs md ops js A, Behind md ops i z
  | [], A, h, i, hi => h i hi
  | j :: js, A, h, i, hi => by
    unfold ancs at hi
    refine ancs_behind js _ ?_ i hi
    intro k hk
    split at hk
    · rename_i hc
      have hj : Behind md ops j z := h j (by simpa using hc)
      rcases List.mem_append.1 hk with hk | hk
      · split at hk
        · rename_i o ho
          obtain ⟨e, he, rfl⟩ := List.mem_map.1 hk
          obtain ⟨he, hb⟩ := List.mem_filter.1 he
          intro listed hcl hl
          exact hcl j o ho (hj listed hcl hl) e (by simpa using he) hb
        · cases hk
      · exact h k hk
    · exact h k hk

def readsOk (md : Region.Mode) (ops : Array Oper) : Array Bool → List Nat → Bool
  | _, [] => true
  | listed, i :: r => (Region.ready md ops listed).contains i && Region.free md ops listed i && (match ops[i]? with | some o => readKind o.op | none => false) && readsOk md ops (listed.setIfInBounds i true) r

def chainOk (md : Region.Mode) (ops : Array Oper) : Array Bool → List Nat → Bool
  | listed, [] => (Region.ready md ops listed).isEmpty
  | listed, i :: r => Region.ready md ops listed == [i] && chainOk md ops (listed.setIfInBounds i true) r

def listAll : Array Bool → List Nat → Array Bool
  | listed, [] => listed
  | listed, i :: r => listAll (listed.setIfInBounds i true) r

def flowB (md : Region.Mode) (ops : Array Oper) (hs ms ts : List Nat) : Bool :=
  Region.noSelect ops && decide (hs.length + ms.length + ts.length = ops.size) && readsOk md ops (Array.replicate ops.size false) hs && chainOk md ops (listAll (Array.replicate ops.size false) hs) (ms ++ ts) &&
  ms.all (fun m => !ts.contains m) && ts.all (fun z => let A := ancs md ops (List.range ops.size).reverse [z]; hs.all fun i => A.contains i)

def consO {α : Type} : Option α → List α → List α
  | some x, l => x :: l
  | none, l => l
theorem consO_some {α : Type} (x : α) (l : List α) : consO (some x) l = x :: l := rfl

/-- The operations of these numbers. -/
def pick (ops : List Oper) : List Nat → List Oper
  | [] => []
  | i :: r => consO ops[i]? (pick ops r)
theorem pick_nil (ops : List Oper) : pick ops [] = [] := rfl
theorem pick_cons (ops : List Oper) (i : Nat) (r : List Nat) : pick ops (i :: r) = consO ops[i]? (pick ops r) := rfl

/-- The operations in a forced order, S shown behind each. -/
def wpChain (P : Program) (ops : Array Oper) (Q : Exit → Act → World → Prop) (S : World → Prop) (K : Act → World → Prop) : List Oper → Act → World → Prop
  | [], a, w => K a w
  | o :: rest, a, w => wpList P ops (Exit.then (fun a' w' => S w' ∧ wpChain P ops Q S K rest a' w') Q) [o] a w

theorem Oper.wp_then {o : Oper} {a : Act} {w : World} {K K2 : Act → World → Prop} (h : o.wp P a w K2 (Exit.then K Q)) : o.wp P a w K2 Q := by
  unfold Oper.wp at *
  generalize (execOp a.eval o).run P w = r at *
  cases r with
  | ok n w' =>
    cases n <;> simp only [Oper.upon] at h ⊢ <;> first
      | exact h
      | (refine Calls.mono h fun e w'' he => ?_
         cases e with
         | returned u => exact he
         | panicked c => exact he
         | outgrown => exact he)
  | halt x w' => cases x <;> simp only [Oper.upon] at h ⊢ <;> exact h

theorem wpAnyF_done {F : Nat → Bool} {listed : Array Bool} {a : Act} {w : World} (hr : (Region.ready md ops listed).isEmpty = true) (h : Q .normal a w) :
    ∀ fuel, wpAnyF P md ops Q S F fuel listed a w
  | 0 => ⟨by simpa using hr, h⟩
  | _ + 1 => ⟨fun _ => h, by rw [show Region.ready md ops listed = [] from by simpa using hr]; simp⟩

theorem wpAnyF_chain {F : Nat → Bool} {ts : List Nat} (hF : ∀ i, F i = !ts.contains i) : ∀ (cs : List Nat) (listed : Array Bool) (a : Act) (w : World), (∀ i ∈ cs, ts.contains i = true) → chainOk md ops listed cs = true →
    wpList P ops Q (pick ops.toList cs) a w → wpAnyF P md ops Q S F cs.length listed a w
  | [], listed, a, w, _, hc, h => ⟨by simpa [chainOk] using hc, h⟩
  | i :: r, listed, a, w, ht, hc, h => by
    simp only [chainOk, Bool.and_eq_true, beq_iff_eq] at hc
    have hi : i ∈ Region.ready md ops listed := by rw [hc.1]; simp
    obtain ⟨-, o, ho, -⟩ := mem_ready.1 hi
    have hp : pick ops.toList (i :: r) = o :: pick ops.toList r := by rw [pick_cons]; simp [consO, ho]
    rw [hp] at h
    refine ⟨fun h0 => (by rw [hc.1] at h0; cases h0), fun j hj => ?_⟩
    rw [hc.1] at hj
    simp only [List.mem_singleton] at hj
    subst hj
    have h1 : wpOp P ops Q j (wpList P ops Q (pick ops.toList r)) a w := by unfold wpOp; simp only [ho]; exact h
    exact wpOp_mono (fun a' w' h' => ⟨fun hf _ => (by rw [hF, ht j (by simp)] at hf; cases hf), wpAnyF_chain hF r _ a' w' (fun i hi => ht i (by simp [hi])) hc.2 h'⟩) h1

theorem wpAnyF_mid {F : Nat → Bool} {ts : List Nat} (hF : ∀ i, F i = !ts.contains i) (hts : ∀ i ∈ ts, ts.contains i = true) : ∀ (ms : List Nat) (listed : Array Bool) (a : Act) (w : World), chainOk md ops listed (ms ++ ts) = true →
    wpChain P ops Q S (wpList P ops Q (pick ops.toList ts)) (pick ops.toList ms) a w → wpAnyF P md ops Q S F (ms ++ ts).length listed a w
  | [], listed, a, w, hc, h => wpAnyF_chain hF ts listed a w hts hc h
  | i :: r, listed, a, w, hc, h => by
    rw [List.cons_append] at hc ⊢
    simp only [chainOk, Bool.and_eq_true, beq_iff_eq] at hc
    have hi : i ∈ Region.ready md ops listed := by rw [hc.1]; simp
    obtain ⟨-, o, ho, -⟩ := mem_ready.1 hi
    have hp : pick ops.toList (i :: r) = o :: pick ops.toList r := by rw [pick_cons]; simp [consO, ho]
    rw [hp] at h
    refine ⟨fun h0 => (by rw [hc.1] at h0; cases h0), fun j hj => ?_⟩
    rw [hc.1] at hj
    simp only [List.mem_singleton] at hj
    subst hj
    have h1 : wpOp P ops Q j (fun a' w' => S w' ∧ wpChain P ops Q S (wpList P ops Q (pick ops.toList ts)) (pick ops.toList r) a' w') a w := by
      unfold wpOp
      simp only [ho]
      unfold wpChain wpList at h
      split
      · rename_i hw
        rw [if_pos hw] at h
        rcases h with h | ⟨h, hl⟩
        · exact .inl (Oper.wp_then h)
        · exact .inr ⟨h, hl⟩
      · rename_i hw
        rw [if_neg hw] at h
        exact h
    exact wpOp_mono (fun a' w' h' => ⟨fun _ _ => h'.1, wpAnyF_mid hF hts r _ a' w' hc.2 h'.2⟩) h1

theorem wpAnyF_reads {R C : World → Prop} (hC : ∀ w, R w → C w) {F : Nat → Bool} {n : Nat} {K : Act → Prop} {w : World} (hsel : Region.noSelect ops = true) (hQ : ∀ c a w d v, Q (.panic c) (a.put d v) w → Q (.panic c) a w) (hS : R w)
    : ∀ (hs : List Nat) (listed : Array Bool) (a : Act), Closed md ops listed → (∀ i ∈ hs, (R = S ∧ ∀ z, F z = false → Behind md ops i z) ∨ R = fun _ => True) → readsOk md ops listed hs = true →
    (∀ a, K a → wpAnyF P md ops Q S F n (listAll listed hs) a w) →
    wpQuiet P ops C K (pick ops.toList hs) a → wpAnyF P md ops Q S F (hs.length + n) listed a w
  | [], listed, a, _, _, _, hk, h => by
    have := hk a h
    simpa [listAll] using this
  | i :: r, listed, a, hcl, hz, hB, hk, h => by
    simp only [readsOk, Bool.and_eq_true] at hB
    obtain ⟨⟨⟨hr, hf⟩, hkind⟩, hB'⟩ := hB
    have hi : i ∈ Region.ready md ops listed := by simpa using hr
    obtain ⟨-, o, ho, -⟩ := mem_ready.1 hi
    simp only [ho] at hkind
    have hp : pick ops.toList (i :: r) = o :: pick ops.toList r := by rw [pick_cons]; simp [consO, ho]
    rw [hp] at h
    have hq : qOp P ops C i (wpQuiet P ops C K (pick ops.toList r)) a := by unfold qOp; simp only [ho]; exact h
    obtain ⟨v, hy, h2⟩ := reads_of_quiet hC hkind ho hq
    rw [show (i :: r).length + n = (r.length + n) + 1 from by simp; omega]
    exact wpAnyF_first ho (Region.noSelect_spec hsel) (fun c a w h => hQ c a w _ _ h) (hz i (by simp)) (r.length + n) listed a w hcl (Region.free_spec ho hf) hi hy hS
      (wpAnyF_reads hC hsel hQ hS r _ _ (closed_set hcl hi) (fun k hk' => hz k (by simp [hk'])) hB' hk h2)

theorem region_flow0 {id : Nat} {a : Act} {w : World} {l : List Oper} (hs ms ts : List Nat) (S : World → Prop) {C : World → Prop} (hC : ∀ w, S w → C w) (hm : P.follows .mixedOrders = true) (hB : flowB .any l.toArray hs ms ts = true)
    (hQ : ∀ c a w d v, Q (.panic c) (a.put d v) w → Q (.panic c) a w) (hS : S w.drew)
    (h : wpQuiet P l.toArray C (fun a' => wpChain P l.toArray Q S (wpList P l.toArray Q (pick l ts)) (pick l ms) a' w.drew) (pick l hs) a) : (Code.region id l.toArray true).wp P Q a w := by
  simp only [flowB, Bool.and_eq_true, decide_eq_true_eq] at hB
  obtain ⟨⟨⟨⟨⟨hsel, hlen⟩, hr⟩, hc⟩, hms⟩, hts⟩ := hB
  refine wp_region_any hm (wpAny_of_F (S := S) (F := fun i => !ts.contains i) _ _ _ _ ?_)
  have hlen' : l.toArray.size = hs.length + (ms ++ ts).length := by rw [← hlen]; simp; omega
  suffices H : wpAnyF P .any l.toArray Q S (fun i => !ts.contains i) (hs.length + (ms ++ ts).length) (Array.replicate l.toArray.size false) a w.drew by
    rw [← hlen'] at H
    exact H
  have hcl : Closed .any l.toArray (Array.replicate l.toArray.size false) := fun j oj _ hl => (by rw [getD_replicate_false] at hl; cases hl)
  refine wpAnyF_reads (S := S) (w := w.drew) hC hsel hQ hS hs _ a hcl (fun i hi => .inl ⟨rfl, fun z hz => ?_⟩) hr (fun a' ha' => ?_) h
  · have hz' : z ∈ ts := by simpa using hz
    have h1 := List.all_eq_true.1 hts z hz'
    have h2 := List.all_eq_true.1 h1 i hi
    exact ancs_behind _ [z] (fun k hk => (by simp only [List.mem_singleton] at hk; subst hk; exact fun _ _ h => h)) i (by simpa using h2)
  · exact wpAnyF_mid (fun _ => rfl) (fun i hi => by simpa using hi) ms _ a' w.drew hc ha'

theorem closed_all : ∀ (hs : List Nat) (listed : Array Bool), Closed md ops listed → readsOk md ops listed hs = true → Closed md ops (listAll listed hs)
  | [], _, h, _ => h
  | i :: r, listed, h, hB => by
    simp only [readsOk, Bool.and_eq_true] at hB
    exact closed_all r _ (closed_set h (by simpa using hB.1.1.1)) hB.2

def flowG (md : Region.Mode) (ops : Array Oper) (hs0 hs ms ts : List Nat) : Bool :=
  Region.noSelect ops && decide (hs0.length + (hs.length + (ms ++ ts).length) = ops.size) && readsOk md ops (Array.replicate ops.size false) hs0 && readsOk md ops (listAll (Array.replicate ops.size false) hs0) hs &&
  chainOk md ops (listAll (listAll (Array.replicate ops.size false) hs0) hs) (ms ++ ts) &&
  ts.all (fun z => let A := ancs md ops (List.range ops.size).reverse [z]; hs.all fun i => A.contains i)

theorem region_flowG0 {id : Nat} {a : Act} {w : World} {l : List Oper} (hs0 hs ms ts : List Nat) (S : World → Prop) {C0 C : World → Prop} (hC0 : ∀ w, C0 w) (hC : ∀ w, S w → C w) (hm : P.follows .mixedOrders = true) (hB : flowG .any l.toArray hs0 hs ms ts = true)
    (hQ : ∀ c a w d v, Q (.panic c) (a.put d v) w → Q (.panic c) a w) (hS : S w.drew)
    (h : wpQuiet P l.toArray C0 (fun a0 => wpQuiet P l.toArray C (fun a' => wpChain P l.toArray Q S (wpList P l.toArray Q (pick l ts)) (pick l ms) a' w.drew) (pick l hs) a0) (pick l hs0) a) : (Code.region id l.toArray true).wp P Q a w := by
  simp only [flowG, Bool.and_eq_true, decide_eq_true_eq] at hB
  obtain ⟨⟨⟨⟨⟨hsel, hlen⟩, hr0⟩, hr⟩, hc⟩, hts⟩ := hB
  refine wp_region_any hm (wpAny_of_F (S := S) (F := fun i => !ts.contains i) _ _ _ _ ?_)
  suffices H : wpAnyF P .any l.toArray Q S (fun i => !ts.contains i) (hs0.length + (hs.length + (ms ++ ts).length)) (Array.replicate l.toArray.size false) a w.drew by
    rw [hlen] at H
    exact H
  have hcl : Closed .any l.toArray (Array.replicate l.toArray.size false) := fun j oj _ hl => (by rw [getD_replicate_false] at hl; cases hl)
  refine wpAnyF_reads (S := S) (R := fun _ => True) (w := w.drew) (fun w _ => hC0 w) hsel hQ trivial hs0 _ a hcl (fun i hi => .inr rfl) hr0 (fun a0 ha0 => ?_) h
  refine wpAnyF_reads (S := S) (R := S) (w := w.drew) hC hsel hQ hS hs _ a0 (closed_all _ _ hcl hr0) (fun i hi => .inl ⟨rfl, fun z hz => ?_⟩) hr (fun a' ha' => ?_) ha0
  · have hz' : z ∈ ts := by simpa using hz
    have h1 := List.all_eq_true.1 hts z hz'
    have h2 := List.all_eq_true.1 h1 i hi
    exact ancs_behind _ [z] (fun k hk => (by simp only [List.mem_singleton] at hk; subst hk; exact fun _ _ h => h)) i (by simpa using h2)
  · exact wpAnyF_mid (fun _ => rfl) (fun i hi => by simpa using hi) ms _ a' w.drew hc ha'

/-- **The same, what yields in whatever world (hs0) ahead of all: S need not be shown behind what only such operations may follow.** It does not panic. -/
theorem region_flowG {id : Nat} {a : Act} {w : World} {l : List Oper} (hs0 hs ms ts : List Nat) (S : World → Prop) (hm : P.follows .mixedOrders = true) (hB : flowG .any l.toArray hs0 hs ms ts = true) (hS : S w.drew)
    (h : ∀ (T0 : Type) (_ : Nonempty T0) (f0 : T0 → World) (T : Type) (_ : Nonempty T) (f : T → World), (∀ x, S (f x)) → wpQuiet P l.toArray (fun w' => ∃ x : T0, w' = f0 x) (fun a0 => wpQuiet P l.toArray (fun w' => ∃ x : T, w' = f x)
      (fun a' => wpChain P l.toArray (Exit.then (fun a' w' => Q .normal a' w') (fun _ _ _ => False)) S (wpList P l.toArray (Exit.then (fun a' w' => Q .normal a' w') (fun _ _ _ => False)) (pick l ts)) (pick l ms) a' w.drew) (pick l hs) a0) (pick l hs0) a) :
    (Code.region id l.toArray true).wp P Q a w := by
  refine Code.wp_mono (Q := Exit.then (fun a' w' => Q .normal a' w') (fun _ _ _ => False)) (fun e a' w' h' => ?_) (region_flowG0 hs0 hs ms ts S (C0 := fun w' => ∃ x : World, w' = x) (C := fun w' => ∃ x : { u : World // S u }, w' = x.1) (fun w => ⟨w, rfl⟩) (fun w h => ⟨⟨w, h⟩, rfl⟩) hm hB (fun _ _ _ _ _ h => h) hS
    (h World ⟨w⟩ (fun u => u) { u : World // S u } ⟨⟨_, hS⟩⟩ Subtype.val (fun x => x.2)))
  cases e with
  | normal => exact h'
  | _ => exact h'.elim

/-- **A region that draws its order: reads; then a chain, S shown again behind each link; then a tail.** It does not panic. -/
theorem region_flow {id : Nat} {a : Act} {w : World} {l : List Oper} (hs ms ts : List Nat) (S : World → Prop) (hm : P.follows .mixedOrders = true) (hB : flowB .any l.toArray hs ms ts = true) (hS : S w.drew)
    (h : ∀ (T : Type) (_ : Nonempty T) (f : T → World), (∀ x, S (f x)) → wpQuiet P l.toArray (fun w' => ∃ x : T, w' = f x) (fun a' => wpChain P l.toArray (Exit.then (fun a' w' => Q .normal a' w') (fun _ _ _ => False)) S
      (wpList P l.toArray (Exit.then (fun a' w' => Q .normal a' w') (fun _ _ _ => False)) (pick l ts)) (pick l ms) a' w.drew) (pick l hs) a) : (Code.region id l.toArray true).wp P Q a w := by
  refine Code.wp_mono (Q := Exit.then (fun a' w' => Q .normal a' w') (fun _ _ _ => False)) (fun e a' w' h' => ?_) (region_flow0 hs ms ts S (C := fun w' => ∃ x : { u : World // S u }, w' = x.1) (fun w h => ⟨⟨w, h⟩, rfl⟩) hm hB (fun _ _ _ _ _ h => h) hS (h { u : World // S u } ⟨⟨_, hS⟩⟩ Subtype.val (fun x => x.2)))
  cases e with
  | normal => exact h'
  | _ => exact h'.elim

/-- The same where the changes that reads may follow leave the world at hand. -/
theorem region_flow_at {id : Nat} {a : Act} {w : World} {l : List Oper} (hs ms ts : List Nat) (hm : P.follows .mixedOrders = true) (hB : flowB .any l.toArray hs ms ts = true)
    (h : wpQuiet P l.toArray (fun w' => w' = w.drew) (fun a' => wpChain P l.toArray (Exit.then (fun a' w' => Q .normal a' w') (fun _ _ _ => False)) (fun w' => w' = w.drew)
      (wpList P l.toArray (Exit.then (fun a' w' => Q .normal a' w') (fun _ _ _ => False)) (pick l ts)) (pick l ms) a' w.drew) (pick l hs) a) : (Code.region id l.toArray true).wp P Q a w := by
  refine Code.wp_mono (Q := Exit.then (fun a' w' => Q .normal a' w') (fun _ _ _ => False)) (fun e a' w' h' => ?_) (region_flow0 hs ms ts (fun w' => w' = w.drew) (C := fun w' => w' = w.drew) (fun w h => h) hm hB (fun _ _ _ _ _ h => h) rfl h)
  cases e with
  | normal => exact h'
  | _ => exact h'.elim

end
end Qn
