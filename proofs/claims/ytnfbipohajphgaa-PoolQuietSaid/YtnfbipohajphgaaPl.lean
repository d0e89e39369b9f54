/- The pool's machine as plain Lean: states, steps, the four programs, what holds of every state (no program in sight). -/
namespace PoolQ
set_option linter.unusedVariables false
set_option linter.unusedSimpArgs false

structure Ins where
  op : Int
  a : Int
  b : Int
  c : Int
deriving Inhabited

structure Rn where
  prog : Nat
  at_ : Int
  regs : List Int
  ended : Bool
deriving Inhabited

structure St where
  rs : List Rn
  held : List (List Int)
  shut : List Bool
  groups : List Int
  cells : List Int
  ev : Nat

structure Psys where
  progs : List (List Ins)
  rooms : List Int
  ncells : Int
  box : Option Nat := none

def wrap (n : Int) : Int := (n + 9223372036854775808) % 18446744073709551616 - 9223372036854775808

theorem wrap_in (n : Int) (h : -1000000 ≤ n ∧ n ≤ 1000000) : wrap n = n := by unfold wrap; omega

def rest (n m : Int) : Int := if n.tmod m < 0 then n.tmod m + m else n.tmod m

def reg (r : Rn) (i : Int) : Int := r.regs[i.toNat]?.getD 0
def setReg (r : Rn) (i : Int) (v : Int) : Rn := { r with regs := r.regs.set i.toNat v }
def insOf (S : Psys) (r : Rn) : Ins := ((S.progs[r.prog]?.getD [])[r.at_.toNat]?).getD default
def len (S : Psys) (r : Rn) : Nat := (S.progs[r.prog]?.getD []).length
def heldAt (st : St) (i : Int) : List Int := st.held.getD i.toNat []
def shutAt (st : St) (i : Int) : Bool := st.shut.getD i.toNat false

def can (S : Psys) (st : St) (r : Rn) : Bool :=
  if r.ended then false else
  let i := insOf S r
  if i.op = 5 then shutAt st i.a || decide (((heldAt st i.a).length : Int) < S.rooms[i.a.toNat]?.getD 0)
  else if i.op = 6 then shutAt st i.a || decide (((heldAt st i.a).length : Int) > 0)
  else if i.op = 8 then true
  else if i.op = 11 then st.groups.getD i.a.toNat 0 == 0
  else true

/-- one step of runner k: the state behind it, and the fault (0: none). -/
def act (S : Psys) (st : St) (k : Nat) (r : Rn) (i : Ins) : St × Int :=
  let put (r' : Rn) : St := { st with rs := st.rs.set k r' }
  if i.op = 5 then
    if shutAt st i.a then (st, 131)
    else ({ st with held := st.held.set i.a.toNat (heldAt st i.a ++ [reg r i.b]) }, 0)
  else if i.op = 6 then
    match heldAt st i.a with
    | [] => (put { r with at_ := i.c - 1 }, 0)
    | v :: l => ({ put (setReg r i.b v) with held := st.held.set i.a.toNat l }, 0)
  else if i.op = 7 then
    if shutAt st i.a then (st, 132) else ({ st with shut := st.shut.set i.a.toNat true }, 0)
  else if i.op = 10 then
    let v := wrap (st.groups.getD i.a.toNat 0 + i.b)
    if v < 0 then (st, 134) else ({ st with groups := st.groups.set i.a.toNat v }, 0)
  else if i.op = 12 then (put (setReg r i.b (st.cells.getD (rest (reg r i.a) st.cells.length).toNat 0)), 0)
  else if i.op = 13 then ({ st with cells := st.cells.set (rest (reg r i.a) st.cells.length).toNat (reg r i.b) }, 0)
  else if i.op = 14 then
    if st.rs.length ≥ 512 then (st, 135)
    else ({ st with rs := st.rs ++ [{ prog := i.a.toNat, at_ := 0, regs := r.regs, ended := (S.progs[i.a.toNat]?.getD []).length == 0 }] }, 0)
  else if i.op = 15 then (st, 0)
  else if i.op = 1 then (put (setReg r i.a i.b), 0)
  else if i.op = 2 then (put (setReg r i.a (wrap (reg r i.a + reg r i.b))), 0)
  else if i.op = 3 then (if reg r i.a < reg r i.b then put { r with at_ := i.c - 1 } else st, 0)
  else if i.op = 4 then (put { r with at_ := i.c - 1 }, 0)
  else if i.op = 16 then (put { r with ended := true }, 0)
  else (st, 0)


def adv (S : Psys) (r : Rn) : Rn := { r with at_ := r.at_ + 1, ended := r.ended || decide (r.at_ + 1 ≥ (len S r : Int)) }

def step (S : Psys) (st : St) (k : Nat) : St × Int :=
  let r := st.rs.getD k default
  let p := act S st k r (insOf S r)
  let st1 := { p.1 with ev := p.1.ev + 1 }
  if p.2 ≠ 0 then (st1, p.2)
  else ({ st1 with rs := st1.rs.set k (adv S (st1.rs.getD k default)) }, 0)

theorem getD_set_eq {α : Type} (l : List α) (k : Nat) (x d : α) (h : k < l.length) : (l.set k x).getD k d = x := by
  simp [List.getD, h]

theorem getD_set' {α : Type} (l : List α) (i j : Nat) (x d : α) (h : i < l.length) : (l.set i x).getD j d = if i = j then x else l.getD j d := by
  by_cases e : i = j
  · subst e; simp [List.getD, h]
  · simp [List.getD, List.getElem?_set_ne e, e]

theorem set_set_eq {α : Type} (l : List α) (k : Nat) (x y : α) : (l.set k x).set k y = l.set k y := by simp

/-- What a step is, by its operation, where nothing is at fault. -/
theorem step_put (S : Psys) (st : St) (k : Nat) (r r' : Rn) (st' : St) (hk : k < st.rs.length) (hr : st.rs.getD k default = r)
    (h : act S st k r (insOf S r) = ({ st' with rs := st.rs.set k r' }, 0)) :
    step S st k = ({ st' with rs := st.rs.set k (adv S r'), ev := st'.ev + 1 }, 0) := by
  simp only [step, hr, h, ne_eq, not_true_eq_false, if_false, getD_set_eq _ _ _ _ hk, set_set_eq]

theorem set_self {α : Type} (l : List α) (k : Nat) (r d : α) (hk : k < l.length) (hr : l.getD k d = r) : l.set k r = l := by
  subst hr; simp [List.getD, List.getElem?_eq_getElem hk]

def S (f : Rn → Int) (l : List Rn) : Int := (l.map f).sum

theorem S_nil (f : Rn → Int) : S f [] = 0 := rfl
theorem S_cons (f : Rn → Int) (x : Rn) (l : List Rn) : S f (x :: l) = f x + S f l := by simp [S]
theorem S_append (f : Rn → Int) (l m : List Rn) : S f (l ++ m) = S f l + S f m := by simp [S]
theorem S_split (f : Rn → Int) : ∀ (l : List Rn) (k : Nat), k < l.length → S f l = f (l.getD k default) + S f (l.eraseIdx k)
  | [], k, h => by simp at h
  | x :: l, 0, _ => by simp [S]
  | x :: l, k + 1, h => by
    have := S_split f l k (by simpa using h)
    simp only [List.eraseIdx_cons_succ, S_cons, List.getD_cons_succ]
    omega
theorem S_set (f : Rn → Int) : ∀ (l : List Rn) (k : Nat) (x : Rn), k < l.length → S f (l.set k x) = f x + S f (l.eraseIdx k)
  | [], k, _, h => by simp at h
  | y :: l, 0, x, _ => by simp [S]
  | y :: l, k + 1, x, h => by
    have := S_set f l k x (by simpa using h)
    simp only [List.set_cons_succ, List.eraseIdx_cons_succ, S_cons]
    omega
theorem S_le (f g : Rn → Int) : ∀ (l : List Rn), (∀ r ∈ l, f r ≤ g r) → S f l ≤ S g l
  | [], _ => by simp [S]
  | x :: l, h => by
    have := S_le f g l (fun r hr => h r (by simp [hr]))
    have := h x (by simp)
    simp only [S_cons]; omega
theorem S_zero (l : List Rn) : S (fun _ => 0) l = 0 := by
  induction l with
  | nil => rfl
  | cons x l ih => simp [S_cons, ih]


def I (op a b c : Int) : Ins := ⟨op, a, b, c⟩
def combP (W : Int) : List Ins := [I 1 0 0 0, I 1 1 W 0, I 1 2 1 0, I 3 0 1 5, I 4 0 0 9, I 10 0 1 0, I 14 1 0 0, I 2 0 2 0, I 4 0 0 3, I 14 2 0 0, I 14 3 0 0, I 6 1 3 14, I 15 1 3 0, I 4 0 0 11, I 16 0 0 0]
def workP : List Ins := [I 6 0 3 6, I 12 3 4 0, I 15 0 4 0, I 5 2 3 0, I 5 1 4 0, I 4 0 0 0, I 10 0 (-1) 0, I 16 0 0 0]
def feedP (b jobs : Int) : List Ins := [I 1 0 0 0, I 1 1 b 0, I 1 2 1 0, I 3 0 1 5, I 4 0 0 8, I 5 2 0 0, I 2 0 2 0, I 4 0 0 3, I 1 0 0 0, I 1 1 jobs 0, I 3 0 1 12, I 4 0 0 17, I 6 2 3 17, I 13 3 0 0, I 5 0 3 0, I 2 0 2 0, I 4 0 0 10, I 7 0 0 0, I 16 0 0 0]
def closP : List Ins := [I 11 0 0 0, I 7 1 0 0, I 16 0 0 0]
def poolSys (W Q b jobs : Int) : Psys := { progs := [combP W, workP, feedP b jobs, closP], rooms := [Q, Q, b], ncells := b }

section
variable (W Q b jobs : Int)

def F0 : Int := 11 + 4 * b + 15 * jobs

def c0 (r : Rn) : Int := if r.prog = 0 then 1 else 0
def c1 (r : Rn) : Int := if r.prog = 1 then 1 else 0
def c2 (r : Rn) : Int := if r.prog = 2 then 1 else 0
def c3 (r : Rn) : Int := if r.prog = 3 then 1 else 0
def ws (r : Rn) : Int := if r.prog = 0 then (if r.at_ ≤ 2 then 0 else if r.at_ = 7 then reg r 0 + 1 else if r.at_ ≤ 8 then reg r 0 else W) else 0
def fs (r : Rn) : Int := if r.prog = 0 then (if r.at_ ≤ 9 then 0 else 1) else 0
def ls (r : Rn) : Int := if r.prog = 0 then (if r.at_ ≤ 10 then 0 else 1) else 0
def tok (r : Rn) : Int := if r.prog = 1 then (if 1 ≤ r.at_ ∧ r.at_ ≤ 3 then 1 else 0) else if r.prog = 2 then (if 13 ≤ r.at_ ∧ r.at_ ≤ 14 then 1 else 0) else 0
def sent (r : Rn) : Int := if r.prog = 2 then (if r.at_ ≤ 2 then 0 else if r.at_ = 6 then reg r 0 + 1 else if r.at_ ≤ 7 then reg r 0 else b) else 0
def grp (r : Rn) : Int := if r.prog = 0 then (if r.at_ = 6 then 1 else 0) else if r.prog = 1 then (if r.at_ ≤ 6 then 1 else 0) else 0
def fpast (r : Rn) : Int := if r.prog = 2 then (if r.at_ ≥ 18 then 1 else 0) else 0
def lw (r : Rn) : Int := if r.prog = 3 then (if r.at_ ≥ 1 then 1 else 0) else 0
def lpast (r : Rn) : Int := if r.prog = 3 then (if r.at_ ≥ 2 then 1 else 0) else 0
def wpast (r : Rn) : Int := if r.prog = 1 then (if r.at_ ≥ 6 then 1 else 0) else 0
def cpast (r : Rn) : Int := if r.prog = 0 then (if r.at_ ≥ 14 then 1 else 0) else 0

def potC (a i : Int) : Int :=
  if a ≤ 2 then 8 * W + 9 + F0 b jobs + (3 - a) else if a = 3 then 8 * (W - i) + 9 + F0 b jobs else if a = 4 then 8 + F0 b jobs
  else if a = 5 then 8 * (W - i) + 8 + F0 b jobs else if a = 6 then 8 * (W - i) + 7 + F0 b jobs else if a = 7 then 8 * (W - i) + 3 + F0 b jobs
  else if a = 8 then 8 * (W - i) + 10 + F0 b jobs else if a = 9 then 7 + F0 b jobs else if a = 10 then 6 else if a = 11 then 2 else if a = 12 then 4
  else if a = 13 then 3 else if a = 14 then 1 else 0
def potW (a : Int) : Int :=
  if a = 0 then 3 else if a = 1 then 11 else if a = 2 then 10 else if a = 3 then 9 else if a = 4 then 8 else if a = 5 then 4 else if a = 6 then 2 else if a = 7 then 1 else 0
def potF (a i : Int) : Int :=
  if a ≤ 2 then F0 b jobs - a else if a = 3 then F0 b jobs - 3 - 4 * i else if a = 4 then 7 + 15 * jobs else if a = 5 then F0 b jobs - 4 - 4 * i
  else if a = 6 then F0 b jobs - 5 - 4 * i else if a = 7 then F0 b jobs - 2 - 4 * i else if a = 8 then 6 + 15 * jobs else if a = 9 then 5 + 15 * jobs
  else if a = 10 then 15 * (jobs - i) + 4 else if a = 11 then 3 else if a = 12 then 15 * (jobs - i) + 3 else if a = 13 then 15 * (jobs - i) + 2
  else if a = 14 then 15 * (jobs - i) + 1 else if a = 15 then 15 * (jobs - i) - 9 else if a = 16 then 15 * (jobs - i) + 5 else if a = 17 then 2 else if a = 18 then 1 else 0
def pot (r : Rn) : Int :=
  if r.prog = 0 then potC W b jobs r.at_ (reg r 0) else if r.prog = 1 then potW r.at_ else if r.prog = 2 then potF b jobs r.at_ (reg r 0)
  else if r.prog = 3 then 3 - r.at_ else 0

def condC (a r0 r1 r2 : Int) : Prop :=
  (1 ≤ a ∧ a ≤ 2 → r0 = 0) ∧ (a = 2 → r1 = W) ∧ (3 ≤ a ∧ a ≤ 8 → r1 = W ∧ r2 = 1 ∧ 0 ≤ r0 ∧ r0 ≤ W) ∧ (5 ≤ a ∧ a ≤ 7 → r0 < W) ∧ (a = 4 → r0 = W) ∧ a ≤ 15
def condF (a r0 r1 r2 : Int) : Prop :=
  (1 ≤ a ∧ a ≤ 2 → r0 = 0) ∧ (a = 2 → r1 = b) ∧ (3 ≤ a ∧ a ≤ 16 → r2 = 1) ∧ (3 ≤ a ∧ a ≤ 7 → r1 = b ∧ 0 ≤ r0 ∧ r0 ≤ b) ∧ (5 ≤ a ∧ a ≤ 6 → r0 < b) ∧ (a = 4 → r0 = b) ∧
  (a = 9 → r0 = 0) ∧ (10 ≤ a ∧ a ≤ 16 → r1 = jobs ∧ 0 ≤ r0 ∧ r0 ≤ jobs) ∧ (12 ≤ a ∧ a ≤ 15 → r0 < jobs) ∧ (a = 11 → r0 = jobs) ∧ a ≤ 19

def plen (p : Nat) : Int := if p = 0 then 15 else if p = 1 then 8 else if p = 2 then 19 else 3

structure LI (r : Rn) : Prop where
  l8 : r.regs.length = 8
  prog : r.prog ≤ 3
  at0 : 0 ≤ r.at_
  atl : r.at_ ≤ plen r.prog
  ended : r.ended = decide (r.at_ ≥ plen r.prog)
  comb : r.prog = 0 → condC W r.at_ (reg r 0) (reg r 1) (reg r 2)
  feed : r.prog = 2 → condF b jobs r.at_ (reg r 0) (reg r 1) (reg r 2)


/-- The sums over all runners. -/
structure Nums (s0 s1 s2 : Bool) (n0 n1 n2 g ev size C0 C1 C2 C3 WS FS LS TOK SENT GRP POT FP LW LP WP CP : Int) : Prop where
  g0 : C0 = 1
  g1 : C1 = WS
  g2 : C2 = FS
  g3 : C3 = LS
  size : size = C0 + C1 + C2 + C3
  toks : n2 + TOK + n0 = SENT
  grps : g = GRP
  pots : ev + POT + 9 * n0 + 3 * n1 = 23 + 8 * W + 4 * b + 15 * jobs
  s0 : s0 = true ↔ FP ≥ 1
  s1 : s1 = true ↔ LP ≥ 1
  s2 : s2 = false
  g6 : WP > 0 → FP ≥ 1 ∧ n0 = 0
  g7 : LW > 0 → GRP = 0
  g8 : CP > 0 → LP ≥ 1 ∧ n1 = 0
  q0 : n0 ≤ Q
  q1 : n1 ≤ Q

structure Inv (st : St) : Prop where
  li : ∀ r ∈ st.rs, LI W b jobs r
  hl : st.held.length = 3
  shl : st.shut.length = 3
  gl : st.groups.length = 1
  cl : (st.cells.length : Int) = b
  n : Nums W Q b jobs (shutAt st 0) (shutAt st 1) (shutAt st 2) (heldAt st 0).length (heldAt st 1).length (heldAt st 2).length (st.groups.getD 0 0) st.ev st.rs.length
    (S c0 st.rs) (S c1 st.rs) (S c2 st.rs) (S c3 st.rs) (S (ws W) st.rs) (S fs st.rs) (S ls st.rs) (S tok st.rs) (S (sent b) st.rs) (S grp st.rs) (S (pot W b jobs) st.rs)
    (S fpast st.rs) (S lw st.rs) (S lpast st.rs) (S wpast st.rs) (S cpast st.rs)
end

structure RI (W b : Int) (l : List Rn) : Prop where
  a0 : 0 ≤ S c0 l
  a1 : 0 ≤ S c1 l
  a2 : 0 ≤ S c2 l
  a3 : 0 ≤ S c3 l
  a4 : 0 ≤ S (ws W) l
  a5 : S (ws W) l ≤ S (fun r => 256 * c0 r) l
  a6 : 0 ≤ S fs l
  a7 : S fs l ≤ S c0 l
  a8 : 0 ≤ S ls l
  a9 : S ls l ≤ S fs l
  b0 : 0 ≤ S tok l
  b1 : 0 ≤ S (sent b) l
  b2 : S (sent b) l ≤ S (fun r => 64 * c2 r) l
  b3 : 0 ≤ S grp l
  b4 : 0 ≤ S fpast l
  b5 : S fpast l ≤ S c2 l
  b6 : 0 ≤ S lpast l
  b7 : S lpast l ≤ S lw l
  b8 : S lw l ≤ S c3 l
  b9 : 0 ≤ S wpast l
  d0 : S wpast l ≤ S c1 l
  d1 : 0 ≤ S cpast l
  d2 : S cpast l ≤ S c0 l
  d3 : S cpast l ≤ S ls l
  d4 : S grp l ≤ S (fun r => c0 r + c1 r) l

theorem S_mul (n : Int) (f : Rn → Int) (l : List Rn) : S (fun r => n * f r) l = n * S f l := by
  induction l with
  | nil => simp [S]
  | cons x l ih => simp only [S_cons, ih, Int.mul_add]

theorem S_add (f g : Rn → Int) (l : List Rn) : S (fun r => f r + g r) l = S f l + S g l := by
  induction l with
  | nil => simp [S]
  | cons x l ih => simp only [S_cons, ih]; omega

theorem S_nonneg (f : Rn → Int) (l : List Rn) (h : ∀ r ∈ l, 0 ≤ f r) : 0 ≤ S f l := by
  have := S_le (fun _ => 0) f l h
  rwa [S_zero] at this

theorem ri_of (W b jobs : Int) (hW : 1 ≤ W) (hW2 : W ≤ 256) (hb : 1 ≤ b) (hb2 : b ≤ 64) (l : List Rn) (h : ∀ r ∈ l, LI W b jobs r) : RI W b l := by
  constructor
  case a5 =>
    apply S_le; intro r hr
    have L := h r hr
    have := L.comb
    unfold ws c0
    split
    · rename_i hp
      have C := this hp
      unfold condC at C
      split
      · omega
      · split
        · omega
        · split <;> omega
    · omega
  case a4 =>
    apply S_nonneg; intro r hr
    have L := h r hr
    have := L.comb
    unfold ws
    split
    · rename_i hp
      have C := this hp
      unfold condC at C
      split
      · omega
      · split
        · omega
        · split <;> omega
    · omega
  case b1 =>
    apply S_nonneg; intro r hr
    have L := h r hr
    have := L.feed
    unfold sent
    split
    · rename_i hp
      have C := this hp
      unfold condF at C
      split
      · omega
      · split
        · omega
        · split <;> omega
    · omega
  case b2 =>
    apply S_le; intro r hr
    have L := h r hr
    have := L.feed
    unfold sent c2
    split
    · rename_i hp
      have C := this hp
      unfold condF at C
      split
      · omega
      · split
        · omega
        · split <;> omega
    · omega
  all_goals first | apply S_nonneg | apply S_le
  all_goals (intro r hr; simp only [c0, c1, c2, c3, fs, ls, tok, grp, fpast, lpast, lw, wpast, cpast])
  all_goals (repeat' split)
  all_goals omega

theorem reg_set (r : Rn) (i j v : Int) (hl : r.regs.length = 8) (h0 : 0 ≤ i) (h1 : i < 8) : reg (setReg r i v) j = if i.toNat = j.toNat then v else reg r j := by
  simp only [reg, setReg, List.getElem?_set]
  split
  · rename_i e
    rw [if_pos (by omega)]; rfl
  · rfl


/-- A step that turns one runner: what it leaves to show. -/
theorem inv_next {W Q b jobs : Int} {st : St} (hI : Inv W Q b jobs st) {k : Nat} (hk : k < st.rs.length) (r' : Rn) (hL : LI W b jobs r')
    (held : List (List Int)) (shut : List Bool) (groups cells : List Int) (hl : held.length = 3) (hs : shut.length = 3) (hg : groups.length = 1) (hc : (cells.length : Int) = b)
    (h : Nums W Q b jobs (shut.getD 0 false) (shut.getD 1 false) (shut.getD 2 false) (held.getD 0 []).length (held.getD 1 []).length (held.getD 2 []).length (groups.getD 0 0) (st.ev + 1 : Nat) st.rs.length
        (c0 r' + S c0 (st.rs.eraseIdx k)) (c1 r' + S c1 (st.rs.eraseIdx k)) (c2 r' + S c2 (st.rs.eraseIdx k)) (c3 r' + S c3 (st.rs.eraseIdx k)) (ws W r' + S (ws W) (st.rs.eraseIdx k))
        (fs r' + S fs (st.rs.eraseIdx k)) (ls r' + S ls (st.rs.eraseIdx k)) (tok r' + S tok (st.rs.eraseIdx k)) (sent b r' + S (sent b) (st.rs.eraseIdx k)) (grp r' + S grp (st.rs.eraseIdx k))
        (pot W b jobs r' + S (pot W b jobs) (st.rs.eraseIdx k)) (fpast r' + S fpast (st.rs.eraseIdx k)) (lw r' + S lw (st.rs.eraseIdx k)) (lpast r' + S lpast (st.rs.eraseIdx k))
        (wpast r' + S wpast (st.rs.eraseIdx k)) (cpast r' + S cpast (st.rs.eraseIdx k))) :
    Inv W Q b jobs { rs := st.rs.set k r', held, shut, groups, cells, ev := st.ev + 1 } := by
  refine ⟨?_, hl, hs, hg, hc, ?_⟩
  · intro x hx
    rcases List.mem_or_eq_of_mem_set hx with hx | rfl
    · exact hI.li x hx
    · exact hL
  · simp only [S_set _ st.rs k _ hk, List.length_set]
    exact h


theorem step_start (S : Psys) (st : St) (k : Nat) (r n : Rn) (hk : k < st.rs.length) (hr : st.rs.getD k default = r)
    (h : act S st k r (insOf S r) = ({ st with rs := st.rs ++ [n] }, 0)) :
    step S st k = ({ st with rs := st.rs.set k (adv S r) ++ [n], ev := st.ev + 1 }, 0) := by
  have h1 : (st.rs ++ [n]).getD k default = r := by
    rw [← hr]; simp only [List.getD, List.getElem?_append_left hk]
  have h2 : (st.rs ++ [n]).set k (adv S r) = st.rs.set k (adv S r) ++ [n] := List.set_append_left _ _ hk
  simp only [step, hr, h, ne_eq, not_true_eq_false, if_false, h1, h2]

/-- A runner starts another one. -/
theorem inv_start {W Q b jobs : Int} {st : St} (hI : Inv W Q b jobs st) {k : Nat} (hk : k < st.rs.length) (r' n : Rn) (hL : LI W b jobs r') (hN : LI W b jobs n)
    (h : Nums W Q b jobs (st.shut.getD 0 false) (st.shut.getD 1 false) (st.shut.getD 2 false) (st.held.getD 0 []).length (st.held.getD 1 []).length (st.held.getD 2 []).length (st.groups.getD 0 0) (st.ev + 1 : Nat) (st.rs.length + 1 : Nat)
        (c0 r' + S c0 (st.rs.eraseIdx k) + c0 n) (c1 r' + S c1 (st.rs.eraseIdx k) + c1 n) (c2 r' + S c2 (st.rs.eraseIdx k) + c2 n) (c3 r' + S c3 (st.rs.eraseIdx k) + c3 n) (ws W r' + S (ws W) (st.rs.eraseIdx k) + ws W n)
        (fs r' + S fs (st.rs.eraseIdx k) + fs n) (ls r' + S ls (st.rs.eraseIdx k) + ls n) (tok r' + S tok (st.rs.eraseIdx k) + tok n) (sent b r' + S (sent b) (st.rs.eraseIdx k) + sent b n) (grp r' + S grp (st.rs.eraseIdx k) + grp n)
        (pot W b jobs r' + S (pot W b jobs) (st.rs.eraseIdx k) + pot W b jobs n) (fpast r' + S fpast (st.rs.eraseIdx k) + fpast n) (lw r' + S lw (st.rs.eraseIdx k) + lw n) (lpast r' + S lpast (st.rs.eraseIdx k) + lpast n)
        (wpast r' + S wpast (st.rs.eraseIdx k) + wpast n) (cpast r' + S cpast (st.rs.eraseIdx k) + cpast n)) :
    Inv W Q b jobs { st with rs := st.rs.set k r' ++ [n], ev := st.ev + 1 } := by
  refine ⟨?_, hI.hl, hI.shl, hI.gl, hI.cl, ?_⟩
  · intro x hx
    rcases List.mem_append.1 hx with hx | hx
    · rcases List.mem_or_eq_of_mem_set hx with hx | rfl
      · exact hI.li x hx
      · exact hL
    · rw [List.mem_singleton.1 hx]; exact hN
  · have e : ∀ f : Rn → Int, S f (st.rs.set k r' ++ [n]) = f r' + S f (st.rs.eraseIdx k) + f n := by
      intro f; rw [S_append, S_set _ _ _ _ hk]; simp [S]
    simp only [e, List.length_append, List.length_set, List.length_cons, List.length_nil]
    exact h

end PoolQ
