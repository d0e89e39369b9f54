/- A region that draws its order and whose operations only read and make memory: whatever the order, what each yields. -/
import Derived.WalkKit
import Derived.OrdersHeld
import Derived.Below
import Derived.StillTail
set_option linter.unusedVariables false
set_option linter.unusedSimpArgs false
namespace Qn
open Go Go.RowKit

section
variable {P : Program} {Q : Exit → Act → World → Prop}

def relyOne (l : List Oper) (ds : List Nat) : Nat → Bool
  | 0 => true
  | i + 1 => relyOne l ds i && (match l[i]?, ds[i]? with
    | some o, some d => o.guard.isNone && (o.dst == some d) && o.after.all (fun e => decide (e.on < i)) && (ds.take i).all (fun d' => d' != d)
    | _, _ => false)

def relyB (l : List Oper) (ds : List Nat) : Bool := l.length == ds.length && relyOne l ds l.length

theorem relyOne_spec {l : List Oper} {ds : List Nat} : ∀ (n : Nat), relyOne l ds n = true → ∀ i, i < n → ∃ o d, l[i]? = some o ∧ ds[i]? = some d ∧ o.guard = none ∧ o.dst = some d ∧ (∀ e ∈ o.after, e.on < i) ∧ ∀ j d', j < i → ds[j]? = some d' → d' ≠ d
  | 0, _, i, hi => absurd hi (Nat.not_lt_zero i)
  | n + 1, h, i, hi => by
    simp only [relyOne, Bool.and_eq_true] at h
    by_cases hin : i < n
    · exact relyOne_spec n h.1 i hin
    · obtain rfl : i = n := by omega
      have h2 := h.2
      split at h2
      · rename_i o d ho hd
        simp only [Bool.and_eq_true, Option.isNone_iff_eq_none, beq_iff_eq, Array.all_eq_true_iff_forall_mem, decide_eq_true_eq, List.all_eq_true, bne_iff_ne, ne_eq] at h2
        refine ⟨o, d, ho, hd, h2.1.1.1, h2.1.1.2, h2.1.2, fun j d' hj hd' => ?_⟩
        refine h2.2 d' (List.mem_of_getElem? (i := j) ?_)
        rw [List.getElem?_take, if_pos hj]
        exact hd'
      · cases h2

/-- The other slots are as they were. -/
structure RelyAct (a : Act) (ds : List Nat) (a' : Act) : Prop where
  defers : a'.defers = a.defers
  size : a'.tmps.size = a.tmps.size
  same : ∀ t, t ∉ ds → a'.tmps[t]? = a.tmps[t]?

theorem RelyAct.put {a : Act} {ds : List Nat} {a' : Act} (h : RelyAct a ds a') {d : Nat} (hd : d ∈ ds) (v : Value) : RelyAct a ds (a'.put (some d) v) := by
  refine ⟨h.defers, by simpa [Act.put] using h.size, fun t ht => ?_⟩
  have hne : d ≠ t := fun e => ht (e ▸ hd)
  simp only [Act.put, Array.getElem?_setIfInBounds, if_neg hne]
  exact h.same t ht

theorem RelyAct.slot {a : Act} {ds : List Nat} {a' : Act} (h : RelyAct a ds a') (t : Nat) (ht : t ∉ ds) : a'.tmps.getD t undef = a.tmps.getD t undef := by
  simp only [Array.getD_eq_getD_getElem?, h.same t ht]

/-- All slots of the region filled. -/
def putAll (a : Act) (vs : Nat → Value) : List Nat → Act
  | [] => a
  | d :: r => putAll (a.put (some d) (vs d)) vs r

theorem putAll_get (vs : Nat → Value) : ∀ (ds : List Nat) (a : Act) (t : Nat), (putAll a vs ds).tmps[t]? = if t ∈ ds then (if t < a.tmps.size then some (vs t) else none) else a.tmps[t]?
  | [], a, t => by simp [putAll]
  | d :: r, a, t => by
    rw [putAll, putAll_get vs r]
    by_cases h1 : t ∈ r
    · rw [if_pos h1, if_pos (List.mem_cons_of_mem d h1)]
      simp [Act.put]
    · rw [if_neg h1]
      by_cases h2 : d = t
      · subst h2
        rw [if_pos (by simp)]
        simp [Act.put, Array.getElem?_setIfInBounds]
      · rw [if_neg (by simp [h1, Ne.symm h2])]
        simp only [Act.put, Array.getElem?_setIfInBounds, if_neg h2]
theorem putAll_defers (vs : Nat → Value) : ∀ (ds : List Nat) (a : Act), (putAll a vs ds).defers = a.defers
  | [], a => rfl
  | d :: r, a => by rw [putAll, putAll_defers vs r]; rfl

theorem RelyAct.eq {a : Act} {ds : List Nat} {a' : Act} (h : RelyAct a ds a') : a' = putAll a (fun d => a'.tmps.getD d undef) ds := by
  have h1 : a'.tmps = (putAll a (fun d => a'.tmps.getD d undef) ds).tmps := by
    apply Array.ext_getElem?
    intro t
    rw [putAll_get]
    by_cases ht : t ∈ ds
    · rw [if_pos ht]
      by_cases hs : t < a.tmps.size
      · rw [if_pos hs]
        have : t < a'.tmps.size := by rw [h.size]; exact hs
        simp [Array.getD_eq_getD_getElem?, this]
      · rw [if_neg hs, Array.getElem?_eq_none (by rw [h.size]; omega)]
    · rw [if_neg ht, h.same t ht]
  have h2 := putAll_defers (fun d => a'.tmps.getD d undef) ds a
  rw [← h.defers] at h2
  generalize putAll a (fun d => a'.tmps.getD d undef) ds = b at h1 h2
  obtain ⟨t1, d1⟩ := a'
  obtain ⟨t2, d2⟩ := b
  simp only at h1 h2
  rw [h1, h2]

def unlisted (n : Nat) (listed : Array Bool) : List Nat := (List.range n).filter fun j => !listed.getD j true

theorem unlisted_set {n i : Nat} {listed : Array Bool} (hi : i < n) (hl : listed.getD i true = false) : (unlisted n (listed.setIfInBounds i true)).length < (unlisted n listed).length := by
  have hlt : i < listed.size := by
    rcases Nat.lt_or_ge i listed.size with h | h
    · exact h
    · rw [Array.getD_eq_getD_getElem?, Array.getElem?_eq_none h] at hl; cases hl
  have e : unlisted n (listed.setIfInBounds i true) = (unlisted n listed).filter fun j => j != i := by
    unfold unlisted
    rw [List.filter_filter]
    apply List.filter_congr
    intro j _
    by_cases h : i = j
    · subst h
      simp [Array.getD_eq_getD_getElem?, Array.getElem?_setIfInBounds, hlt]
    · simp [Array.getD_eq_getD_getElem?, Array.getElem?_setIfInBounds, h, Ne.symm h]
  rw [e, List.length_filter_lt_length_iff_exists]
  refine ⟨i, ?_, by simp⟩
  unfold unlisted
  rw [List.mem_filter, List.mem_range]
  exact ⟨hi, by simp [hl]⟩

theorem wpAny_rely {l : List Oper} {ds : List Nat} {a0 : Act} {w0 : World} {φ : Nat → Value → World → Prop} {I : World → Prop} (hIm : ∀ w1 w2, I w1 → Below w1.heap.size w1 w2 → I w2) (hφm : ∀ i v w1 w2, φ i v w1 → Below w1.heap.size w1 w2 → φ i v w2)
    (hlen : l.length = ds.length) (hB : relyOne l ds l.length = true) (hsz : ∀ d ∈ ds, d < a0.tmps.size)
    (hstep : ∀ (i : Nat) (o : Oper) (d : Nat), l[i]? = some o → ds[i]? = some d → ∀ a' w', RelyAct a0 ds a' → I w' → Below w0.heap.size w0 w' → (∀ e ∈ o.after, Region.binds .any e = true → ∀ d', ds[e.on]? = some d' → φ e.on (a'.tmps.getD d' undef) w') →
      o.wp P a' w' (fun a2 w2 => ∃ v, a2 = a'.put (some d) v ∧ Below w'.heap.size w' w2 ∧ φ i v w2) Q)
    (hend : ∀ a' w', RelyAct a0 ds a' → I w' → Below w0.heap.size w0 w' → (∀ i d, ds[i]? = some d → φ i (a'.tmps.getD d undef) w') → Q .normal a' w') :
    ∀ (fuel : Nat) (listed : Array Bool) (a' : Act) (w' : World), listed.size = l.length → (unlisted l.length listed).length ≤ fuel → RelyAct a0 ds a' → I w' → Below w0.heap.size w0 w' →
      (∀ i d, ds[i]? = some d → listed.getD i false = true → φ i (a'.tmps.getD d undef) w') → wpAny P .any l.toArray Q fuel listed a' w' := by
  have hall : ∀ (listed : Array Bool), listed.size = l.length → Region.ready .any l.toArray listed = [] → ∀ i, i < l.length → listed.getD i false = true := by
    intro listed hls hr i
    induction i using Nat.strongRecOn with
    | ind i ih =>
      intro hi
      cases hv : listed.getD i false with
      | true => rfl
      | false =>
        exfalso
        obtain ⟨o, d, ho, hd, hg, hdst, haft, hne⟩ := relyOne_spec _ hB i hi
        have : i ∈ Region.ready .any l.toArray listed := by
          rw [mem_ready]
          refine ⟨?_, o, by simpa using ho, fun e he _ => ih e.on (haft e he) (by have := haft e he; omega)⟩
          rw [Array.getD_eq_getD_getElem?, Array.getElem?_eq_getElem (by omega)] at hv ⊢
          simpa using hv
        rw [hr] at this
        cases this
  have hfin : ∀ (listed : Array Bool) (a' : Act) (w' : World), listed.size = l.length → RelyAct a0 ds a' → I w' → Below w0.heap.size w0 w' →
      (∀ i d, ds[i]? = some d → listed.getD i false = true → φ i (a'.tmps.getD d undef) w') → Region.ready .any l.toArray listed = [] → Q .normal a' w' := by
    intro listed a' w' hls hra hI hb hφ hr
    refine hend a' w' hra hI hb (fun i d hd => hφ i d hd (hall listed hls hr i ?_))
    have := (List.getElem?_eq_some_iff.1 hd).1
    omega
  intro fuel
  induction fuel with
  | zero =>
    intro listed a' w' hls hf hra hI hb hφ
    have hnil : unlisted l.length listed = [] := List.eq_nil_of_length_eq_zero (by omega)
    have hr : Region.ready .any l.toArray listed = [] := by
      rw [List.eq_nil_iff_forall_not_mem]
      intro i hi
      have h1 := (mem_ready.1 hi).1
      obtain ⟨-, o, ho, -⟩ := mem_ready.1 hi
      have hil : i < l.length := by simpa using (Array.getElem?_eq_some_iff.1 ho).1
      have : i ∈ unlisted l.length listed := by
        unfold unlisted
        rw [List.mem_filter, List.mem_range]
        exact ⟨hil, by simp [h1]⟩
      rw [hnil] at this
      cases this
    exact ⟨hr, hfin listed a' w' hls hra hI hb hφ hr⟩
  | succ fuel ih =>
    intro listed a' w' hls hf hra hI hb hφ
    refine ⟨hfin listed a' w' hls hra hI hb hφ, fun i hi => ?_⟩
    obtain ⟨h1, o, ho, haf⟩ := mem_ready.1 hi
    have hil : i < l.length := by simpa using (Array.getElem?_eq_some_iff.1 ho).1
    obtain ⟨o', d, ho', hd, hg, hdst, haft, hne⟩ := relyOne_spec _ hB i hil
    have hoo : o = o' := by
      have : l[i]? = some o := by simpa using ho
      rw [ho'] at this
      cases this
      rfl
    subst hoo
    have hdm : d ∈ ds := List.mem_of_getElem? hd
    have hst := hstep i o d ho' hd a' w' hra hI hb (fun e he hbd d' hd' => hφ e.on d' hd' (haf e he hbd))
    unfold wpOp
    simp only [ho]
    rw [if_pos (show Region.wanted o (yielded l.toArray a'.tmps) = true by simp [Region.wanted, hg])]
    refine .inl (Oper.wp_mono (fun a2 w2 h2 => ?_) hst)
    obtain ⟨v, rfl, hb2, hv⟩ := h2
    refine ih _ _ _ (by simpa using hls) ?_ (hra.put hdm v) (hIm _ _ hI hb2) (hb.trans (hb2.mono hb.size)) ?_
    · have := unlisted_set (n := l.length) hil h1
      omega
    · intro j d' hd' hl
      by_cases hij : i = j
      · subst hij
        rw [hd] at hd'
        cases hd'
        have hds := hsz d hdm
        have : (a'.put (some d) v).tmps.getD d undef = v := by
          simp [Act.put, Array.getD_eq_getD_getElem?, Array.getElem?_setIfInBounds, hra.size, hds]
        rw [this]
        exact hv
      · rw [getD_set_ne false hij] at hl
        have hdd : d ≠ d' := by
          rcases Nat.lt_or_gt_of_ne hij with hlt | hlt
          · obtain ⟨o2, d2, -, hd2, -, -, -, hne2⟩ := relyOne_spec _ hB j (by have := (List.getElem?_eq_some_iff.1 hd').1; omega)
            rw [hd'] at hd2
            cases hd2
            exact hne2 i d hlt hd
          · exact (hne j d' hlt hd').symm
        have : (a'.put (some d) v).tmps.getD d' undef = a'.tmps.getD d' undef := by
          simp only [Act.put, Array.getD_eq_getD_getElem?, Array.getElem?_setIfInBounds, if_neg hdd]
        rw [this]
        exact hφm _ _ _ _ (hφ j d' hd' hl) hb2

/-- **A region whose operations only read and make memory, in whatever order.** It does not panic. -/
theorem region_rely {id : Nat} {a : Act} {w : World} {l : List Oper} (ds : List Nat) (φ : Nat → Value → World → Prop) (I : World → Prop) (hm : P.follows .mixedOrders = true) (hB : relyB l ds = true) (hsz : ds.all (fun d => decide (d < a.tmps.size)) = true)
    (hI : I w.drew) (hIm : ∀ w1 w2, I w1 → Below w1.heap.size w1 w2 → I w2) (hφm : ∀ i v w1 w2, φ i v w1 → Below w1.heap.size w1 w2 → φ i v w2)
    (hstep : ∀ (i : Nat) (o : Oper) (d : Nat), l[i]? = some o → ds[i]? = some d → ∀ a' w', RelyAct a ds a' → I w' → Below w.heap.size w w' → (∀ e ∈ o.after, Region.binds .any e = true → ∀ d', ds[e.on]? = some d' → φ e.on (a'.tmps.getD d' undef) w') →
      o.wp P a' w' (fun a2 w2 => ∃ v, a2 = a'.put (some d) v ∧ Below w'.heap.size w' w2 ∧ φ i v w2) (Exit.then (fun a' w' => Q .normal a' w') (fun _ _ _ => False)))
    (hend : ∀ (vs : Nat → Value) w', I w' → Below w.heap.size w w' → (∀ i d, ds[i]? = some d → φ i (vs d) w') → Q .normal (putAll a vs ds) w') : (Code.region id l.toArray true).wp P Q a w := by
  simp only [relyB, Bool.and_eq_true, beq_iff_eq] at hB
  refine Code.wp_mono (Q := Exit.then (fun a' w' => Q .normal a' w') (fun _ _ _ => False)) (fun e a' w' h' => ?_) (wp_region_any hm ?_)
  · cases e with
    | normal => exact h'
    | _ => exact h'.elim
  · have hds : ∀ d ∈ ds, d < a.tmps.size := fun d hd => by simpa using List.all_eq_true.1 hsz d hd
    refine wpAny_rely (w0 := w) hIm hφm hB.1 hB.2 hds hstep (fun a' w' hra hI hb hφ => ?_) _ _ a w.drew (by simp) ?_ ⟨rfl, rfl, fun _ _ => rfl⟩ hI (Below.refl _ _).drew ?_
    · have h1 := hend (fun d => a'.tmps.getD d undef) w' hI hb hφ
      rw [← hra.eq] at h1
      exact h1
    · unfold unlisted
      exact Nat.le_trans (List.length_filter_le _ _) (by simp)
    · intro i d _ hl
      rw [getD_replicate_false] at hl
      cases hl

theorem wpList_rely {l : List Oper} {ds : List Nat} {a0 : Act} {w0 : World} {φ : Nat → Value → World → Prop} {I : World → Prop} (hIm : ∀ w1 w2, I w1 → Below w1.heap.size w1 w2 → I w2) (hφm : ∀ i v w1 w2, φ i v w1 → Below w1.heap.size w1 w2 → φ i v w2)
    (hlen : l.length = ds.length) (hB : relyOne l ds l.length = true) (hsz : ∀ d ∈ ds, d < a0.tmps.size)
    (hstep : ∀ (i : Nat) (o : Oper) (d : Nat), l[i]? = some o → ds[i]? = some d → ∀ a' w', RelyAct a0 ds a' → I w' → Below w0.heap.size w0 w' → (∀ e ∈ o.after, Region.binds .any e = true → ∀ d', ds[e.on]? = some d' → φ e.on (a'.tmps.getD d' undef) w') →
      o.wp P a' w' (fun a2 w2 => ∃ v, a2 = a'.put (some d) v ∧ Below w'.heap.size w' w2 ∧ φ i v w2) Q)
    (hend : ∀ a' w', RelyAct a0 ds a' → I w' → Below w0.heap.size w0 w' → (∀ i d, ds[i]? = some d → φ i (a'.tmps.getD d undef) w') → Q .normal a' w') :
    ∀ (n k : Nat) (a' : Act) (w' : World), k + n = l.length → RelyAct a0 ds a' → I w' → Below w0.heap.size w0 w' →
      (∀ i d, i < k → ds[i]? = some d → φ i (a'.tmps.getD d undef) w') → wpList P l.toArray Q (l.drop k) a' w' := by
  intro n
  induction n with
  | zero =>
    intro k a' w' hk hra hI hb hφ
    rw [List.drop_of_length_le (by omega)]
    refine hend a' w' hra hI hb (fun i d hd => hφ i d ?_ hd)
    have := (List.getElem?_eq_some_iff.1 hd).1
    omega
  | succ n ih =>
    intro k a' w' hk hra hI hb hφ
    have hkl : k < l.length := by omega
    obtain ⟨o, d, ho, hd, hg, hdst, haft, hne⟩ := relyOne_spec _ hB k hkl
    have hdm : d ∈ ds := List.mem_of_getElem? hd
    have e1 : l.drop k = o :: l.drop (k + 1) := by
      rw [List.drop_eq_getElem_cons hkl]
      congr 1
      rw [List.getElem?_eq_getElem hkl] at ho
      simpa using ho
    rw [e1]
    unfold wpList
    rw [if_pos (show Region.wanted o (yielded l.toArray a'.tmps) = true by simp [Region.wanted, hg])]
    have hst := hstep k o d ho hd a' w' hra hI hb (fun e he _ d' hd' => hφ e.on d' (haft e he) hd')
    refine .inl (Oper.wp_mono (fun a2 w2 h2 => ?_) hst)
    obtain ⟨v, rfl, hb2, hv⟩ := h2
    refine ih (k + 1) _ _ (by omega) (hra.put hdm v) (hIm _ _ hI hb2) (hb.trans (hb2.mono hb.size)) ?_
    intro j d' hj hd'
    by_cases hij : k = j
    · subst hij
      rw [hd] at hd'
      cases hd'
      have hds := hsz d hdm
      have : (a'.put (some d) v).tmps.getD d undef = v := by
        simp [Act.put, Array.getD_eq_getD_getElem?, Array.getElem?_setIfInBounds, hra.size, hds]
      rw [this]
      exact hv
    · have hdd : d ≠ d' := (hne j d' (by omega) hd').symm
      have : (a'.put (some d) v).tmps.getD d' undef = a'.tmps.getD d' undef := by
        simp only [Act.put, Array.getD_eq_getD_getElem?, Array.getElem?_setIfInBounds, if_neg hdd]
      rw [this]
      exact hφm _ _ _ _ (hφ j d' (by omega) hd') hb2

/-- The same for a region in the text's order. -/
theorem region_relyP {id : Nat} {a : Act} {w : World} {l : List Oper} (ds : List Nat) (φ : Nat → Value → World → Prop) (I : World → Prop) (hB : relyB l ds = true) (hsz : ds.all (fun d => decide (d < a.tmps.size)) = true)
    (hI : I w) (hIm : ∀ w1 w2, I w1 → Below w1.heap.size w1 w2 → I w2) (hφm : ∀ i v w1 w2, φ i v w1 → Below w1.heap.size w1 w2 → φ i v w2)
    (hstep : ∀ (i : Nat) (o : Oper) (d : Nat), l[i]? = some o → ds[i]? = some d → ∀ a' w', RelyAct a ds a' → I w' → Below w.heap.size w w' → (∀ e ∈ o.after, Region.binds .any e = true → ∀ d', ds[e.on]? = some d' → φ e.on (a'.tmps.getD d' undef) w') →
      o.wp P a' w' (fun a2 w2 => ∃ v, a2 = a'.put (some d) v ∧ Below w'.heap.size w' w2 ∧ φ i v w2) (Exit.then (fun a' w' => Q .normal a' w') (fun _ _ _ => False)))
    (hend : ∀ (vs : Nat → Value) w', I w' → Below w.heap.size w w' → (∀ i d, ds[i]? = some d → φ i (vs d) w') → Q .normal (putAll a vs ds) w') : (Code.region id l.toArray false).wp P Q a w := by
  simp only [relyB, Bool.and_eq_true, beq_iff_eq] at hB
  refine Code.wp_mono (Q := Exit.then (fun a' w' => Q .normal a' w') (fun _ _ _ => False)) (fun e a' w' h' => ?_) (wp_region_lit ?_)
  · cases e with
    | normal => exact h'
    | _ => exact h'.elim
  · have hds : ∀ d ∈ ds, d < a.tmps.size := fun d hd => by simpa using List.all_eq_true.1 hsz d hd
    have := wpList_rely (P := P) (Q := Exit.then (fun a' w' => Q .normal a' w') (fun _ _ _ => False)) (w0 := w) (a0 := a) hIm hφm hB.1 hB.2 hds hstep (fun a' w' hra hI hb hφ => by
      have h1 := hend (fun d => a'.tmps.getD d undef) w' hI hb hφ
      rw [← hra.eq] at h1
      exact h1) l.length 0 a w (by omega) ⟨rfl, rfl, fun _ _ => rfl⟩ hI (Below.refl _ _) (fun i d hi => absurd hi (Nat.not_lt_zero i))
    simpa using this

/-! ### Kinds of what such a region yields -/
inductive Kd
  | ints (n : Nat) (l : List Int)
  | val (v : Value)
  | prog (n : Nat) (t : TypeId) (cs : Array Value)

def KOk (B : Nat) : Kd → Value → World → Prop
  | .ints n l, v, w => ∃ g, v = .slice (some ⟨g, 0, none⟩) n n ∧ B ≤ g ∧ l.length = n ∧ w.heap[g]? = some (.cells (l.map (Value.int .i64)).toArray 3 (0, 0))
  | .val u, v, _ => v = u
  | .prog n t cs, v, w => ∃ g, v = .slice (some ⟨g, 0, none⟩) n n ∧ B ≤ g ∧ w.heap[g]? = some (.cells cs t (0, 0))

theorem KOk.mono {B : Nat} {k : Kd} {v : Value} {w1 w2 : World} (h : KOk B k v w1) (hb : Below w1.heap.size w1 w2) : KOk B k v w2 := by
  cases k with
  | ints n l =>
    obtain ⟨g, h1, h2, h3, h4⟩ := h
    exact ⟨g, h1, h2, h3, (hb.block g (Array.getElem?_eq_some_iff.1 h4).1).trans h4⟩
  | val u => exact h
  | prog n t cs =>
    obtain ⟨g, h1, h2, h3⟩ := h
    exact ⟨g, h1, h2, (hb.block g (Array.getElem?_eq_some_iff.1 h3).1).trans h3⟩

def kAt (B : Nat) (ks : List Kd) (i : Nat) (v : Value) (w : World) : Prop := match ks[i]? with
  | some k => KOk B k v w
  | none => True

theorem kAt_mono (B : Nat) (ks : List Kd) : ∀ i v w1 w2, kAt B ks i v w1 → Below w1.heap.size w1 w2 → kAt B ks i v w2 := by
  intro i v w1 w2 h hb
  unfold kAt at *
  split
  · rename_i k hk
    rw [hk] at h
    exact h.mono hb
  · trivial

end
end Qn
