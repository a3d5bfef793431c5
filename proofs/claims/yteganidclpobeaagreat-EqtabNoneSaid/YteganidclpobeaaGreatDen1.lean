/- Den1: the denotation of single operations and of lists of operations, over association lists of temporaries, and its soundness. Own work; a part of the proof of a claim. Conditions: none beyond those that stand in each theorem. -/
import Derived.Tactics
import Derived.OrdersHeld
import Derived.Laws.World
import Derived.Laws.Cells
import Derived.KernelRfl
import Derived.RangeFuncRecord
/- Den1: the denotation of single operations and of lists of operations, over association lists of temporaries, and its soundness. -/
set_option linter.unusedVariables false
set_option linter.unusedSimpArgs false
namespace Go.Den
open Go

abbrev Env := List (Nat × Value)

/-- Nothing is known of a temporary that reads so. -/
def unk : Value := .complex .f32 0 0

def get : Env → Nat → Value
  | [], _ => unk
  | (s, v) :: r, t => bif Nat.beq s t then v else get r t

def putE (e : Env) : Option Nat → Value → Env
  | none, _ => e
  | some t, v => (t, v) :: e

def ev (e : Env) : Operand → Value
  | .tmp t => get e t
  | .const v => v
  | .global g => .pointer (some ⟨g, 0, none⟩)
  | .func f => .func (.func f) #[] #[]

/-- Is a value known? -/
def kn : Value → Bool
  | .complex _ _ _ => false
  | _ => true

def Sub (D : List Deferred) (n : Nat) (e : Env) (a : Act) : Prop :=
  a.defers = D ∧ a.tmps.size = n ∧ ∀ t, get e t = unk ∨ a.tmps[t]? = some (get e t)

variable {D : List Deferred}

theorem kn_ne {v : Value} (h : kn v = true) : v ≠ unk := by
  rintro rfl; simp [kn, unk] at h

theorem Sub.eval {n : Nat} {e : Env} {a : Act} (hs : Sub D n e a) {x : Operand} (h : kn (ev e x) = true) : a.eval x = ev e x := by
  cases x with
  | tmp t =>
    rcases hs.2.2 t with h1 | h1
    · exact absurd h1 (kn_ne h)
    · simp [Act.eval, ev, h1]
  | _ => rfl

theorem get_cons (s : Nat) (v : Value) (r : Env) (t : Nat) : get ((s, v) :: r) t = if s = t then v else get r t := by
  simp only [get]
  by_cases h : s = t
  · subst h; simp
  · have : Nat.beq s t = false := by rw [Bool.eq_false_iff]; intro hb; exact h (Nat.eq_of_beq_eq_true hb)
    simp [this, h]

theorem Sub.put {n : Nat} {e : Env} {a : Act} (hs : Sub D n e a) (d : Option Nat) (v : Value) (hd : ∀ t, d = some t → t < n) : Sub D n (putE e d v) (a.put d v) := by
  cases d with
  | none => exact hs
  | some t =>
    have ht := hd t rfl
    refine ⟨hs.1, by simp [Act.put, hs.2.1], fun u => ?_⟩
    simp only [putE, get_cons, Act.put]
    by_cases h : t = u
    · subst h
      right; simp [hs.2.1, ht]
    · simp only [if_neg h, Array.getElem?_setIfInBounds_ne h]
      exact hs.2.2 u

theorem Sub.setKnown {n : Nat} {e : Env} {a : Act} (hs : Sub D n e a) {t : Nat} {v : Value} (h : a.tmps[t]? = some v) : Sub D n ((t, v) :: e) a := by
  refine ⟨hs.1, hs.2.1, fun u => ?_⟩
  rw [get_cons]
  by_cases hu : t = u
  · subst hu; right; simp [h]
  · simp only [if_neg hu]; exact hs.2.2 u

def norm (L : List Nat) (e : Env) : Env := L.map fun t => (t, get e t)

theorem get_norm (L : List Nat) (e : Env) (t : Nat) : get (norm L e) t = if t ∈ L then get e t else unk := by
  induction L with
  | nil => simp [norm, get]
  | cons s L ih =>
    have : norm (s :: L) e = (s, get e s) :: norm L e := rfl
    rw [this, get_cons, ih]
    by_cases h : s = t
    · subst h; simp
    · have h' : ¬ t = s := fun h1 => h h1.symm
      simp [h, h']

theorem Sub.norm {n : Nat} {e : Env} {a : Act} (hs : Sub D n e a) (L : List Nat) : Sub D n (norm L e) a := by
  refine ⟨hs.1, hs.2.1, fun t => ?_⟩
  rw [get_norm]
  by_cases h : t ∈ L
  · simp only [if_pos h]; exact hs.2.2 t
  · simp [h]

/-! ### shapes of types -/
inductive C1 where
  | int (k : IntKind) | bool | str | ptr | slice | map | func | any
inductive C2 where
  | one (s : C1) | agg (l : List C1) | many (n : Nat)
inductive C3 where
  | c (s : C2) | tup (l : List C2)

def c1 (P : Program) (t : TypeId) : C1 :=
  match P.underlying t with
  | some (.int k) => .int k
  | some .bool => .bool
  | some .string => .str
  | some (.pointer _) => .ptr
  | some (.slice _) => .slice
  | some (.map _ _) => .map
  | some (.func _ _ _) => .func
  | _ => .any

def flat (P : Program) : Nat → TypeId → List C1
  | 0, _ => []
  | d + 1, t =>
    match P.underlying t with
    | some (.struct fs) => fs.toList.flatMap fun f => flat P d f.type
    | some (.array n e) => (List.replicate n (flat P d e)).flatten
    | _ => [c1 P t]

def isAggT (P : Program) (t : TypeId) : Bool :=
  match P.underlying t with
  | some (.struct _) => true
  | some (.array _ _) => true
  | _ => false

def c2 (P : Program) (t : TypeId) : C2 :=
  bif isAggT P t then (bif Nat.ble (P.cellsOf t) 24 then .agg (flat P 6 t) else .many (P.cellsOf t)) else .one (c1 P t)

def c3 (P : Program) (t : TypeId) : C3 :=
  match P.underlying t with
  | some (.tuple ts) => .tup (ts.toList.map (c2 P))
  | _ => .c (c2 P t)

def ex1 : C1 → (Value → Prop) → Prop
  | .int k, f => ∃ x : Int, f (.int k x)
  | .bool, f => ∃ b : Bool, f (.bool b)
  | .str, f => ∃ s : ByteArray, f (.string s)
  | .ptr, f => ∃ a : Option Addr, f (.pointer a)
  | .slice, f => ∃ (a : Option Addr) (n c : Nat), f (.slice a n c)
  | .map, f => ∃ r : Option Nat, f (.map r)
  | .func, f => ∃ (k : FuncId) (x y : Array Value), f (.func (.func k) x y)
  | .any, f => ∃ v : Value, f v

def exL1 : List C1 → (List Value → Prop) → Prop
  | [], f => f []
  | s :: r, f => ex1 s fun v => exL1 r fun vs => f (v :: vs)

def ex2 : C2 → (Value → Prop) → Prop
  | .one s, f => ex1 s f
  | .agg l, f => exL1 l fun vs => f (.agg ⟨vs⟩)
  | .many n, f => ∃ vs : List Value, vs.length = n ∧ f (.agg ⟨vs⟩)

def exL2 : List C2 → (List Value → Prop) → Prop
  | [], f => f []
  | s :: r, f => ex2 s fun v => exL2 r fun vs => f (v :: vs)

def ex3 : C3 → (Value → Prop) → Prop
  | .c s, f => ex2 s f
  | .tup l, f => exL2 l fun vs => f (.tuple ⟨vs⟩)

theorem ex1_out {s : C1} {f : Value → Prop} (h : ex1 s f) : ∃ v, f v := by
  cases s <;> simp only [ex1] at h
  · obtain ⟨x, h⟩ := h; exact ⟨_, h⟩
  · obtain ⟨x, h⟩ := h; exact ⟨_, h⟩
  · obtain ⟨x, h⟩ := h; exact ⟨_, h⟩
  · obtain ⟨x, h⟩ := h; exact ⟨_, h⟩
  · obtain ⟨x, y, z, h⟩ := h; exact ⟨_, h⟩
  · obtain ⟨x, h⟩ := h; exact ⟨_, h⟩
  · obtain ⟨x, y, z, h⟩ := h; exact ⟨_, h⟩
  · obtain ⟨x, h⟩ := h; exact ⟨_, h⟩

theorem exL1_out {l : List C1} : ∀ {f : List Value → Prop}, exL1 l f → ∃ vs : List Value, vs.length = l.length ∧ f vs := by
  induction l with
  | nil => intro f h; exact ⟨[], rfl, h⟩
  | cons s r ih =>
    intro f h
    obtain ⟨v, hv⟩ := ex1_out h
    obtain ⟨vs, hl, hf⟩ := ih hv
    exact ⟨v :: vs, by simp [hl], hf⟩

theorem ex2_out {s : C2} {f : Value → Prop} (h : ex2 s f) : ∃ v, f v := by
  cases s with
  | one s => exact ex1_out h
  | agg l => obtain ⟨vs, _, h⟩ := exL1_out h; exact ⟨_, h⟩
  | many n => obtain ⟨vs, _, h⟩ := h; exact ⟨_, h⟩

theorem exL2_out {l : List C2} : ∀ {f : List Value → Prop}, exL2 l f → ∃ vs : List Value, f vs := by
  induction l with
  | nil => intro f h; exact ⟨[], h⟩
  | cons s r ih =>
    intro f h
    obtain ⟨v, hv⟩ := ex2_out h
    obtain ⟨vs, hf⟩ := ih hv
    exact ⟨v :: vs, hf⟩

theorem ex3_out {s : C3} {f : Value → Prop} (h : ex3 s f) : ∃ v, f v := by
  cases s with
  | c s => exact ex2_out h
  | tup l => obtain ⟨vs, h⟩ := exL2_out h; exact ⟨_, h⟩

/-! ### memory -/
/-- The cells from p + i on hold these values. -/
def Rd (w : World) (p : Addr) : Nat → List Value → Prop
  | _, [] => True
  | i, v :: r => w.cell? (p.add i) = some v ∧ Rd w p (i + 1) r

theorem Rd_get {w : World} {p : Addr} : ∀ {vs : List Value} {i : Nat}, Rd w p i vs → ∀ j v, vs[j]? = some v → w.cell? (p.add (i + j)) = some v := by
  intro vs
  induction vs with
  | nil => intro i _ j v h; simp at h
  | cons u r ih =>
    intro i h j v hj
    cases j with
    | zero => simp at hj; subst hj; exact h.1
    | succ j =>
      simp at hj
      have := ih h.2 j v hj
      rwa [show i + 1 + j = i + (j + 1) by omega] at this

/-- A load of type t at p. -/
def ldK (P : Program) (t : TypeId) (w : World) (p : Addr) (K : Value → Prop) : Prop :=
  match c2 P t with
  | .one s => ex1 s fun v => w.cell? p = some v ∧ K v
  | .agg l => exL1 l fun vs => bif Nat.beq vs.length (P.cellsOf t) then Rd w p 0 vs ∧ K (.agg ⟨vs⟩) else False
  | .many n => ∃ vs : List Value, vs.length = n ∧ Rd w p 0 vs ∧ K (.agg ⟨vs⟩)

/-- The cells from p + i on are there, and may be written. -/
def Wb (w : World) (p : Addr) : Nat → List Value → Prop
  | _, [] => True
  | i, _ :: r => ((∃ u, w.cell? (p.add i) = some u) ∧ w.frozen? (p.add i) = false) ∧ Wb w p (i + 1) r

def setCells (w : World) (p : Addr) : Nat → List Value → World
  | _, [] => w
  | i, v :: r => setCells (w.setCell (p.add i) v) p (i + 1) r

/-- Is it the value of one cell? -/
def oneC : Value → Bool
  | .agg _ => false
  | .tuple _ => false
  | _ => true

def oneB : List Value → Bool
  | [] => true
  | v :: r => oneC v && oneB r

/-- A store of v of type t at p. -/
def stK (P : Program) (t : TypeId) (w : World) (p : Addr) (v : Value) (K : World → Prop) : Prop :=
  match v with
  | .agg cs => bif (Nat.beq cs.toList.length (P.cellsOf t) && oneB cs.toList) then
      Wb w p 0 cs.toList ∧ ∀ w', w' = setCells w p 0 cs.toList → K w' else False
  | v => bif (Nat.beq 1 (P.cellsOf t) && oneC v) then
      ((∃ u, w.cell? p = some u) ∧ w.frozen? p = false) ∧ ∀ w', w' = w.setCell p v → K w' else False

/-- The cells of a type's zero value. -/
def zc (P : Program) (t : TypeId) : Option (Array Value) := ((P.info? t).bind (·.zero)).map Value.cells

def optP {α : Type} (a : Option α) (f : α → Prop) : Prop :=
  match a with
  | some p => f p
  | none => False

def bc (b : Bool) (A B : Prop) : Prop :=
  match b with
  | true => A
  | false => B

def isGo (P : Program) (k : FuncId) : Bool :=
  match P.funcs[k]? with
  | some fn => fn.name != "runtime.NumGoroutine" && fn.body.isSome
  | none => false

def R1 (K : Value → World → Prop) : Ending → World → Prop
  | .returned v, w => K v w
  | _, _ => False

/-- The widest fence, for frames of that round. -/
def FW (r : Option Nat) : Fence := { fn := fun _ => True, depth := none, alive := false, round := r }

def CALL (P : Program) (k : FuncId) (args : Array Value) (w : World) (K : Value → World → Prop) : Prop :=
  isGo P k = true ∧ Calls P k args w (R1 K)

/-- A call of the function that ends a round, or goes on. -/
def YLD (P : Program) (l : Nat) (args : Array Value) (w : World) (K : Value → World → Prop) : Prop :=
  ∃ f tmps assign body, (Instr.yield l args).run P w = .ok (.round l f tmps assign body) w ∧ RoundIn (FW none) 0 P l f tmps assign body w (R1 K)

/-- What an operation that neither looks at the world nor may fail comes to. -/
def simple {α : Type} (P : Program) : Sem α → Option α
  | .pure a => some a
  | .program k => simple P (k P)
  | .mark _ k => simple P k
  | _ => none

theorem simple_run {α : Type} {P : Program} {s : Sem α} {a : α} : simple P s = some a → ∀ w, s.run P w = .ok a w := by
  induction s with
  | pure x => intro h w; simp [simple] at h; simp [Sem.run, h]
  | program k ih => intro h w; simp only [simple] at h; simp only [Sem.run]; exact ih P h w
  | mark m k ih => intro h w; simp only [simple] at h; simp only [Sem.run]; exact ih h w
  | _ => intro h; simp [simple] at h

end Go.Den
