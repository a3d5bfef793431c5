/- Ev1: a run of code without input, on a heap of its own. Own work; a part of the proof of a claim. Conditions: none beyond those that stand in each theorem. -/
import Derived.Test.YteganidclpobeaaGreatDen6
/- Ev1: a run of code without input, on a heap of its own. -/
set_option linter.unusedVariables false
set_option linter.unusedSimpArgs false
namespace Go.Den
open Go

inductive Tr (α : Type) where
  | nil
  | leaf (a : α)
  | node (l r : Tr α)

/-- The way to a place: is it the left one? -/
noncomputable def pathOf (d : Nat) : Nat → List Bool :=
  Nat.rec (motive := fun _ => Nat → List Bool) (fun _ => []) (fun _ ih n => Nat.beq (n % 2) 0 :: ih (n / 2)) d

noncomputable def tgetP {α : Type} (p : List Bool) : Tr α → Option α :=
  List.rec (motive := fun _ => Tr α → Option α)
    (fun t => Tr.casesOn (motive := fun _ => Option α) t none (fun a => some a) (fun _ _ => none))
    (fun b _ ih t => Tr.casesOn (motive := fun _ => Option α) t none (fun _ => none) (fun l r => ih (Bool.casesOn (motive := fun _ => Tr α) b r l))) p

noncomputable def tsetP {α : Type} (p : List Bool) : Tr α → α → Tr α :=
  List.rec (motive := fun _ => Tr α → α → Tr α)
    (fun _ a => .leaf a)
    (fun b _ ih t a => Tr.casesOn (motive := fun _ => Tr α) t
      (Bool.casesOn (motive := fun _ => Tr α) b (.node .nil (ih .nil a)) (.node (ih .nil a) .nil))
      (fun _ => Bool.casesOn (motive := fun _ => Tr α) b (.node .nil (ih .nil a)) (.node (ih .nil a) .nil))
      (fun l r => Bool.casesOn (motive := fun _ => Tr α) b (.node l (ih r a)) (.node (ih l a) r))) p

noncomputable def tget {α : Type} (d : Nat) (t : Tr α) (n : Nat) : Option α := tgetP (pathOf d n) t

noncomputable def tset {α : Type} (d : Nat) (t : Tr α) (n : Nat) (a : α) : Tr α := tsetP (pathOf d n) t a

/-- A block: so many cells; a cell that was not written is as the type's zero value has it, over and over. -/
structure BlkOf (α : Type) where
  size : Nat
  zt : Option TypeId
  cells : Tr α

inductive LV where
  | un
  | sc (v : Value)
  | ptr (b o : Nat)
  | sl (b o n c : Nat) (ex : Bool)
  | fn (k : FuncId) (fs cs : List LV)
  | mp (b : Nat)
  | yl (b : Nat)
  | agg (l : List LV)
  | agb (k : BlkOf LV) (o n : Nat)
  | tup (l : List LV)

abbrev Blk := BlkOf LV

/-- What is to be done when the call ends. -/
inductive LDef where
  | mark (b : Nat)
  | call (k : FuncId) (args : List LV)

/-- Temporaries; how deep the trie is; what is deferred; is it a round's frame? -/
structure LE where
  d : Nat
  n : Nat
  t : Tr LV
  df : List LDef
  rd : Bool
  fid : Nat

inductive LObj where
  | it (s : ByteArray) (pos : Nat)
  | mp (es : List MapEntry) (clock : Nat)
  | dq (op : Bool)
  | lp (st : LoopState) (pend : Option Code) (le : LE) (ps : List Nat) (as bd : Code) (df : Nat)

structure LHeap where
  next : Nat
  mem : Tr Blk
  its : Tr LObj
  aps : Tr Nat

noncomputable def TD : Nat := 14
noncomputable def TM : Nat := 16384

/-- How deep a trie of n places is. -/
noncomputable def dep (n : Nat) : Nat := Nat.log2 n + 1

/-- A list as a trie. -/
noncomputable def trOf {α : Type} (d : Nat) : Nat → List α → Tr α → Tr α
  | _, [], t => t
  | i, v :: r, t => trOf d (i + 1) r (tset d t i v)

/-- Does it hold no address? -/
noncomputable def scalar : Value → Bool
  | .bool _ => true
  | .int _ _ => true
  | .string _ => true
  | .pointer none => true
  | .slice none _ _ => true
  | .map none => true
  | .nilFunc => true
  | .nilIface => true
  | _ => false

/-- A type's zero value, if it holds no address: how many cells, and which. -/
noncomputable def zList (P : Program) (t : TypeId) : List LV :=
  match zc P t with
  | some z => bif z.toList.all scalar then z.toList.map .sc else []
  | none => []

noncomputable def zTr (P : Program) (t : TypeId) : Tr LV := trOf (dep (zList P t).length) 0 (zList P t) .nil
noncomputable def zLen (P : Program) (t : TypeId) : Nat := (zList P t).length

noncomputable def Blk.get (P : Program) (b : Blk) (o : Nat) : Option LV :=
  bif Nat.blt o b.size then
    match tget (dep b.size) b.cells o with
    | some v => some v
    | none => match b.zt with
      | some t => tget (dep (zLen P t)) (zTr P t) (o % zLen P t)
      | none => none
  else none

noncomputable def LHeap.get (P : Program) (H : LHeap) (b o : Nat) : Option LV :=
  match tget TD H.mem b with
  | some k => Blk.get P k o
  | none => none

noncomputable def Blk.getN (P : Program) (k : Blk) : Nat → Nat → Option (List LV)
  | _, 0 => some []
  | o, n + 1 => match Blk.get P k o with
    | some v => (match Blk.getN P k (o + 1) n with
      | some l => some (v :: l)
      | none => none)
    | none => none

noncomputable def LHeap.getN (P : Program) (H : LHeap) (b : Nat) : Nat → Nat → Option (List LV)
  | _, 0 => some []
  | o, n + 1 => match H.get P b o with
    | some v => (match LHeap.getN P H b (o + 1) n with
      | some l => some (v :: l)
      | none => none)
    | none => none

noncomputable def LHeap.set (P : Program) (H : LHeap) (b o : Nat) (v : LV) : Option LHeap :=
  match tget TD H.mem b with
  | some k => (match Blk.get P k o with
    | some _ => some { H with mem := tset TD H.mem b { k with cells := tset (dep k.size) k.cells o v } }
    | none => none)
  | none => none

noncomputable def LHeap.setN (P : Program) (H : LHeap) (b : Nat) : Nat → List LV → Option LHeap
  | _, [] => some H
  | o, v :: r => match H.set P b o v with
    | some H' => LHeap.setN P H' b (o + 1) r
    | none => none

/-- A new block. -/
noncomputable def LHeap.new (H : LHeap) (k : Blk) : Option (Nat × LHeap) :=
  bif Nat.blt H.next TM then some (H.next, { H with next := H.next + 1, mem := tset TD H.mem H.next k }) else none

noncomputable def LHeap.kill (H : LHeap) (b : Nat) : LHeap := { H with mem := tset TD H.mem b ⟨0, none, .nil⟩ }

noncomputable def ofV : Value → LV
  | .agg cs => bif cs.toList.all scalar then .agg (cs.toList.map .sc) else .un
  | .tuple cs => bif cs.toList.all scalar then .tup (cs.toList.map .sc) else .un
  | v => bif scalar v then .sc v else .un

noncomputable def isKn : LV → Bool
  | .un => false
  | _ => true

/-! ### shapes -/
noncomputable def sh1 : C1 → LV → Bool
  | .int k, .sc (.int k' _) => decide (k = k')
  | .bool, .sc (.bool _) => true
  | .str, .sc (.string _) => true
  | .ptr, .sc (.pointer none) => true
  | .ptr, .ptr _ _ => true
  | .slice, .sc (.slice none _ _) => true
  | .slice, .sl _ _ _ _ _ => true
  | .map, .sc (.map none) => true
  | .map, .mp _ => true
  | .func, .fn _ _ _ => true
  | .any, v => isKn v
  | _, _ => false

noncomputable def lget (le : LE) (t : Nat) : LV :=
  bif Nat.blt t le.n then
    match tget le.d le.t t with
    | some v => v
    | none => .un
  else .un

noncomputable def lput (le : LE) : Option Nat → LV → LE
  | none, _ => le
  | some t, v => bif Nat.blt t le.n then { le with t := tset le.d le.t t v } else le

noncomputable def lev (le : LE) : Operand → LV
  | .tmp t => lget le t
  | .const v => ofV v
  | .global _ => .un
  | .func f => .fn f [] []

/-- The scalar that an operand is. -/
noncomputable def rhoS (le : LE) (x : Operand) : Value :=
  match lev le x with
  | .sc v => v
  | _ => unk

noncomputable def isSc : LV → Bool
  | .sc _ => true
  | _ => false

noncomputable def someSc (v : Option Value) : Option LV :=
  match v with
  | some v => bif scalar v then some (.sc v) else none
  | none => none

noncomputable def simpV (P : Program) (ρ : Operand → Value) (o : Oper) : Option Value :=
  match simple P (execOp ρ o) with
  | some (.value v) => some v
  | _ => none

noncomputable def eqV (P : Program) (ρ : Operand → Value) (o : Oper) (neq : Bool) (t : TypeId) (x y : Value) : Option Value :=
  match P.underlying t, x, y with
  | some (.pointer _), .pointer a, .pointer none => some (nilCmp neq a.isNone)
  | some (.slice _), .slice a _ _, .slice none _ _ => some (nilCmp neq a.isNone)
  | some (.map _ _), .map a, .map none => some (nilCmp neq a.isNone)
  | some (.struct _), .agg _, .agg _ => none
  | _, _, _ => simpV P ρ o

noncomputable def shV (op : BinOp) (k : IntKind) (x y : Int) : Option Value :=
  bif decide (0 ≤ y) then
    match op with
    | .shl => some (.int k (k.wrap (x * 2 ^ (min y.toNat k.bits))))
    | _ => some (.int k (x.fdiv (2 ^ (min y.toNat k.bits))))
  else none

noncomputable def divV (op : BinOp) (k : IntKind) (x y : Int) : Option Value :=
  bif decide (y ≠ 0) then
    match op with
    | .quo => some (.int k (k.wrap (x.tdiv y)))
    | _ => some (.int k (x.tmod y))
  else none

noncomputable def hiOf : IntKind → Nat
  | .i8 => 128 | .u8 => 128 | .i16 => 32768 | .u16 => 32768 | .i32 => 2147483648 | .u32 => 2147483648 | .i64 => 9223372036854775808 | .u64 => 9223372036854775808

noncomputable def wrapF (k : IntKind) (n : Int) : Int :=
  match n with
  | .ofNat m => bif Nat.blt m (hiOf k) then .ofNat m else k.wrap (.ofNat m)
  | m => k.wrap m

/-- Whole numbers of one kind; none: go the long way. -/
noncomputable def intV (op : BinOp) (k : IntKind) (a b : Int) : Option Value :=
  match op with
  | .add => some (.int k (wrapF k (a + b)))
  | .sub => some (.int k (wrapF k (a - b)))
  | .mul => some (.int k (wrapF k (a * b)))
  | .eql => some (.bool (a == b))
  | .neq => some (.bool (a != b))
  | .lss => some (.bool (decide (a < b)))
  | .leq => some (.bool (decide (a ≤ b)))
  | .gtr => some (.bool (decide (a > b)))
  | .geq => some (.bool (decide (a ≥ b)))
  | _ => none

noncomputable def sameK : IntKind → IntKind → Bool
  | .i8, .i8 => true | .u8, .u8 => true | .i16, .i16 => true | .u16, .u16 => true | .i32, .i32 => true | .u32, .u32 => true | .i64, .i64 => true | .u64, .u64 => true | _, _ => false

noncomputable def binV (P : Program) (ρ : Operand → Value) (o : Oper) (op : BinOp) (t : TypeId) (x y : Operand) : Option Value :=
  match op with
  | .eql => eqV P ρ o false t (ρ x) (ρ y)
  | .neq => eqV P ρ o true t (ρ x) (ρ y)
  | .shl => bif isC y then simpV P ρ o else (match ρ x, ρ y with | .int k a, .int _ b => shV .shl k a b | _, _ => none)
  | .shr => bif isC y then simpV P ρ o else (match ρ x, ρ y with | .int k a, .int _ b => shV .shr k a b | _, _ => none)
  | .quo => bif isC y then simpV P ρ o else (match ρ x, ρ y with | .int k a, .int k' b => bif decide (k = k') then divV .quo k a b else none | _, _ => none)
  | .rem => bif isC y then simpV P ρ o else (match ρ x, ρ y with | .int k a, .int k' b => bif decide (k = k') then divV .rem k a b else none | _, _ => none)
  | _ => simpV P ρ o

/-- Comparison with nil of what is not. -/
noncomputable def eqL (P : Program) (neq : Bool) (t : TypeId) : LV → LV → Option LV
  | .ptr b o, .sc (.pointer none) => (match P.underlying t with | some (.pointer _) => some (.sc (nilCmp neq false)) | _ => none)
  | .sl _ _ _ _ _, .sc (.slice none _ _) => (match P.underlying t with | some (.slice _) => some (.sc (nilCmp neq false)) | _ => none)
  | _, _ => none

noncomputable def inR (j : Int) (n : Nat) : Bool := decide (0 ≤ j) && decide (j < n)

noncomputable def ixaL (P : Program) (t : TypeId) (x i : LV) : Option LV :=
  match P.underlying t, x, i with
  | some (.array len el), .ptr b o, .sc (.int _ j) => bif inR j len && (P.info? el).isSome then some (.ptr b (o + j.toNat * P.cellsOf el)) else none
  | some (.slice el), .sl b o n _ _, .sc (.int _ j) => bif inR j n && (P.info? el).isSome then some (.ptr b (o + j.toNat * P.cellsOf el)) else none
  | _, _, _ => none

noncomputable def ixL (P : Program) (t : TypeId) (x i : LV) : Option LV :=
  match P.underlying t, x, i with
  | some .string, .sc (.string s), .sc (.int _ j) => bif inR j s.size then some (.sc (.int .u8 ((s.data.toList[j.toNat]?.getD 0).toNat : Int))) else none
  | some (.array len el), .agg cs, .sc (.int _ j) => bif inR j len && ((P.info? el).isSome && (P.underlying el).isSome && !isAggT P el && Nat.beq (P.cellsOf el) 1) then (match cs[j.toNat]? with
    | some v => bif sh1 (c1 P el) v then some v else none
    | none => none) else none
  | some (.array len el), .agb k o n, .sc (.int _ j) => bif inR j len && Nat.blt j.toNat n && ((P.info? el).isSome && (P.underlying el).isSome && !isAggT P el && Nat.beq (P.cellsOf el) 1) then (match Blk.get P k (o + j.toNat) with
    | some (.sc v) => bif sh1 (c1 P el) (.sc v) then some (.sc v) else none
    | _ => none) else none
  | _, _, _ => none

noncomputable def lenL (P : Program) (t : Option TypeId) (x : LV) : Option LV :=
  match t.bind P.underlying, x with
  | some .string, .sc (.string s) => some (.sc (.int .i64 s.size))
  | some (.slice _), .sc (.slice _ n _) => some (.sc (.int .i64 n))
  | some (.slice _), .sl _ _ n _ _ => some (.sc (.int .i64 n))
  | some (.array n _), _ => some (.sc (.int .i64 n))
  | _, _ => none

noncomputable def capL (P : Program) (t : Option TypeId) (x : LV) : Option LV :=
  match t.bind P.underlying, x with
  | some (.slice _), .sc (.slice _ _ c) => some (.sc (.int .i64 c))
  | some (.slice _), .sl _ _ _ c true => some (.sc (.int .i64 c))
  | _, _ => none

noncomputable def bndL (d : Int) : Option LV → Option Int
  | none => some d
  | some (.sc (.int _ i)) => some i
  | some _ => none

noncomputable def slL (P : Program) (t : TypeId) (x : LV) (lo hi mx : Option LV) : Option LV :=
  match mx with
  | some _ => none
  | none => match P.underlying t, x, bndL 0 lo with
    | some .string, .sc (.string s), some l => (match bndL s.size hi with
      | some h => bif decide (0 ≤ l) && decide (l ≤ h) && decide (h ≤ s.size) then some (.sc (.string (s.extract l.toNat h.toNat))) else none
      | none => none)
    | some (.slice el), .sc (.slice none n c), some l => (match bndL n hi with
      | some h => bif decide (0 ≤ l) && decide (l ≤ h) && decide (h ≤ c) && (P.info? el).isSome then some (.sc (.slice none (h.toNat - l.toNat) (c - l.toNat))) else none
      | none => none)
    | some (.slice el), .sl b o n c ex, some l => (match bndL n hi with
      | some h => bif decide (0 ≤ l) && decide (l ≤ h) && decide (h ≤ c) && (P.info? el).isSome && (ex || Nat.beq l.toNat 0) then
          some (.sl b (bif Nat.beq l.toNat c && ex then o else o + l.toNat * P.cellsOf el) (h.toNat - l.toNat) (c - l.toNat) ex) else none
      | none => none)
    | _, _, _ => none

noncomputable def cellsL : LV → List LV
  | .agg l => l
  | v => [v]

noncomputable def sizeL (l : List LV) : Nat := l.length

noncomputable def one0 : LV → Bool
  | .sc _ => true
  | .ptr _ _ => true
  | .sl _ _ _ _ _ => true
  | .mp _ => true
  | _ => false

noncomputable def one1 : LV → Bool
  | .un => false
  | .agg _ => false
  | .agb _ _ _ => false
  | .tup _ => false
  | _ => true

noncomputable def overS : Nat → List LV → List LV → Option (List LV)
  | _, [], l => some l
  | o, v :: r, l => bif Nat.blt o l.length && one1 v then overS (o + 1) r (l.set o v) else none

noncomputable def fillL (place : Nat → Option (Nat × Nat)) (cells : List LV) : List (Nat × LV) → Option (List LV)
  | [] => some cells
  | (i, v) :: r =>
    match place i with
    | none => none
    | some (off, size) =>
      bif Nat.beq (cellsL v).length size && isKn v && Nat.ble (off + size) cells.length then (match overS off (cellsL v) cells with
        | some cells' => fillL place cells' r
        | none => none) else none

noncomputable def partsL (le : LE) (parts : Array (Nat × Operand)) : List (Nat × LV) := parts.toList.map fun p => (p.1, lev le p.2)

noncomputable def structPlaces (P : Program) (fs : Array Field) : List (Nat × Nat) := fs.toList.map fun f => (f.offset, P.cellsOf f.type)

/-- Parts laid over a block. -/
noncomputable def overL (d size : Nat) : Nat → List LV → Tr LV → Option (Tr LV)
  | _, [], t => some t
  | o, v :: r, t => bif Nat.blt o size && one1 v then overL d size (o + 1) r (tset d t o v) else none

noncomputable def fillB (place : Nat → Option (Nat × Nat)) (d size : Nat) : List (Nat × LV) → Tr LV → Option (Tr LV)
  | [], t => some t
  | (i, v) :: r, t =>
    match place i with
    | none => none
    | some (off, n) => bif Nat.beq (cellsL v).length n && isKn v && Nat.ble (off + n) size then
        (match overL d size off (cellsL v) t with
        | some t' => fillB place d size r t'
        | none => none) else none

noncomputable def buildP (P : Program) (t : TypeId) (place : Nat → Option (Nat × Nat)) (parts : List (Nat × LV)) : Option LV :=
  bif Nat.blt 12 (zLen P t) then
    (match fillB place (dep (zLen P t)) (zLen P t) parts .nil with
    | some c => some (.agb ⟨zLen P t, some t, c⟩ 0 (zLen P t))
    | none => none)
  else (match fillL place (zList P t) parts with
    | some l => some (.agg l)
    | none => none)

noncomputable def buildL (P : Program) (t : TypeId) (parts : List (Nat × LV)) : Option LV :=
  bif Nat.blt 0 (zLen P t) then (match P.underlying t with
    | some (.struct fs) => bif fs.toList.all (fun f => (P.info? f.type).isSome) then buildP P t (fun i => (structPlaces P fs)[i]?) parts else none
    | some (.array _ el) => bif (P.info? el).isSome then buildP P t (fun i => some (i * P.cellsOf el, P.cellsOf el)) parts else none
    | _ => none) else none

noncomputable def fieldL (P : Program) (s : TypeId) (x : LV) (f : Nat) : Option LV :=
  match P.underlying s, x with
  | some (.struct fs), .agg l => (match fs[f]? with
    | some fd => bif (P.info? fd.type).isSome && (P.underlying fd.type).isSome then
        (bif isAggT P fd.type then some (.agg ((l.drop fd.offset).take (P.cellsOf fd.type))) else l[fd.offset]?) else none
    | none => none)
  | _, _ => none

noncomputable def allKnL (le : LE) (l : List Operand) : Bool := l.all fun x => isKn (lev le x)
noncomputable def allScL (le : LE) (l : List Operand) : Bool := l.all fun x => isSc (lev le x)

/-- An operation that does not look at the heap. -/
noncomputable def pureL (P : Program) (le : LE) (o : Oper) : Option LV :=
  match o.op with
  | .nilCheck x => (match lev le x with
    | .ptr b o => some (.ptr b o)
    | .fn k a b => some (.fn k a b)
    | _ => none)
  | .fieldAddr s x f => (match lev le x, foff P s f with
    | .ptr b o, some off => some (.ptr b (o + off))
    | _, _ => none)
  | .indexAddr t x i => ixaL P t (lev le x) (lev le i)
  | .index t x i => ixL P t (lev le x) (lev le i)
  | .binOp op t x y _ => (match lev le x, lev le y with
    | .sc (.int k a), .sc (.int k' b) => (match (bif sameK k k' then intV op k a b else none) with
      | some v => some (.sc v)
      | none => someSc (binV P (rhoS le) o op t x y))
    | .sc _, .sc _ => someSc (binV P (rhoS le) o op t x y)
    | u, v => match op with
      | .eql => eqL P false t u v
      | .neq => eqL P true t u v
      | _ => none)
  | .slice t x lo hi mx => slL P t (lev le x) (lo.map (lev le)) (hi.map (lev le)) (mx.map (lev le))
  | .call c => (match c.callee, c.args.toList with
    | .builtin .len, [x] => lenL P c.argTypes.toList.head? (lev le x)
    | .builtin .cap, [x] => capL P c.argTypes.toList.head? (lev le x)
    | .builtin .min, l => bif allScL le l then someSc (simpV P (rhoS le) o) else none
    | .builtin .max, l => bif allScL le l then someSc (simpV P (rhoS le) o) else none
    | _, _ => none)
  | .move x => some (lev le x)
  | .assign x => some (lev le x)
  | .build t ps => buildL P t (partsL le ps)
  | .unOp _ _ x => bif isSc (lev le x) then someSc (simpV P (rhoS le) o) else none
  | .convert _ _ x => bif isSc (lev le x) then someSc (simpV P (rhoS le) o) else none
  | .makeFunc (.func k) a b => bif (a.toList.map (lev le)).all one0 && (b.toList.map (lev le)).all one0 then some (.fn k (a.toList.map (lev le)) (b.toList.map (lev le))) else none
  | .extract x i => (match lev le x with
    | .tup l => l[i]?
    | _ => none)
  | .field s x f => fieldL P s (lev le x) f
  | _ => none

noncomputable def shL1 : List C1 → List LV → Bool
  | [], [] => true
  | s :: r, v :: l => sh1 s v && shL1 r l
  | _, _ => false

noncomputable def sh2 : C2 → LV → Bool
  | .one s, v => sh1 s v
  | .agg l, .agg vs => shL1 l vs
  | .many n, .agg vs => Nat.beq vs.length n
  | .many n, .agb _ _ m => Nat.beq m n
  | _, _ => false

noncomputable def shL2 : List C2 → List LV → Bool
  | [], [] => true
  | s :: r, v :: l => sh2 s v && shL2 r l
  | _, _ => false

noncomputable def sh3 : C3 → LV → Bool
  | .c s, v => sh2 s v
  | .tup l, .tup vs => shL2 l vs
  | _, _ => false

/-- A load, with what was looked at. -/
noncomputable def loadL (P : Program) (t : TypeId) (p : LV) (H : LHeap) : Option (LV × List (Nat × Nat × LV)) :=
  match p with
  | .ptr b o => bif (P.underlying t).isSome then (match c2 P t with
    | .one s => (match H.get P b o with
      | some v => bif sh1 s v then some (v, [(b, o, v)]) else none
      | none => none)
    | .agg l => (match H.getN P b o l.length with
      | some vs => bif shL1 l vs && Nat.beq vs.length (P.cellsOf t) then some (.agg vs, (List.range vs.length).zip vs |>.map fun x => (b, o + x.1, x.2)) else none
      | none => none)
    | .many n => (match tget TD H.mem b with
      | some k => (match k.zt with
        | some z => bif Nat.ble (o + n) k.size && Nat.blt 0 (zLen P z) then some (.agb k o n, []) else none
        | none => none)
      | none => none)) else none
  | _ => none

noncomputable def storeL (P : Program) (t : TypeId) (p v : LV) (H : LHeap) : Option LHeap :=
  match p with
  | .ptr b o => bif (P.info? t).isSome then (match v with
    | .agg l => bif Nat.beq l.length (P.cellsOf t) && l.all one1 then H.setN P b o l else none
    | .agb k j n => bif Nat.beq n (P.cellsOf t) then (match Blk.getN P k j n with
      | some l => bif l.all one1 then H.setN P b o l else none
      | none => none) else none
    | v => bif Nat.beq 1 (P.cellsOf t) && one1 v then H.set P b o v else none) else none
  | _ => none

noncomputable def newL (H : LHeap) (k : Blk) (f : Nat → LV) : Option (LV × LHeap) :=
  match H.new k with
  | some (b, H') => some (f b, H')
  | none => none

/-- n elements of the zero value. -/
noncomputable def zerosB (P : Program) (t : TypeId) (n : Nat) : Option Blk := bif Nat.blt 0 (zLen P t) then some ⟨n * zLen P t, some t, .nil⟩ else none

noncomputable def listB (l : List LV) : Blk := ⟨l.length, none, trOf (dep l.length) 0 l .nil⟩

noncomputable def allocL (P : Program) (t : TypeId) (H : LHeap) : Option (LV × LHeap) :=
  match zerosB P t 1 with
  | some k => newL H k fun b => .ptr b 0
  | none => none

noncomputable def makeL (P : Program) (t : TypeId) (l c : LV) (H : LHeap) : Option (LV × LHeap) :=
  match P.underlying t, l, c with
  | some (.slice el), .sc (.int _ l), .sc (.int _ c) =>
    bif decide (0 ≤ l) && decide (l ≤ c) && decide ((P.bytesOf el : Int) * c ≤ 140737488355328) && decide (c ≤ 140737488355328) && Nat.beq (zLen P el) (P.cellsOf el) then (match zerosB P el c.toNat with
      | some k => newL H k fun b => .sl b 0 l.toNat c.toNat true
      | none => none) else none
  | _, _, _ => none

noncomputable def buildSliceL (P : Program) (t : TypeId) (len : Nat) (parts : List (Nat × LV)) (H : LHeap) : Option (LV × LHeap) :=
  match P.underlying t with
  | some (.slice el) =>
    bif (P.info? el).isSome && Nat.ble (len * P.cellsOf el) 16777216 && Nat.beq (zLen P el) (P.cellsOf el) && Nat.blt 0 (zLen P el) then
      (match fillL (fun i => some (i * P.cellsOf el, P.cellsOf el)) ((List.range (len * zLen P el)).map fun i => ((zList P el)[i % zLen P el]?).getD .un) parts with
      | some l => newL H (listB l) fun b => .sl b 0 len len true
      | none => none) else none
  | _ => none

/-- Where a slice's elements lie, as a pair; none: nowhere. -/
noncomputable def baseOf : LV → Option (Option (Nat × Nat) × Nat × Nat × Bool)
  | .sc (.slice none n c) => some (none, n, c, true)
  | .sl b o n c ex => some (some (b, o), n, c, ex)
  | _ => none

/-- A block that append made: its real size is not known. -/
noncomputable def newAp (H : LHeap) (l : List LV) (n sz : Nat) : Option (LV × LHeap) :=
  match H.new (listB l) with
  | some (b, H') => some (.sl b 0 n n false, { H' with aps := tset TD H'.aps b sz })
  | none => none

noncomputable def newsL (P : Program) (H : LHeap) (xb : Option (Nat × Nat)) (k : Nat) : Option (List LV) :=
  match xb with
  | some (b, o) => LHeap.getN P H b o k
  | none => bif Nat.beq k 0 then some [] else none

noncomputable def isAp (P : Program) (H : LHeap) (b sz : Nat) : Bool :=
  (match H.get P b 0 with
  | some _ => true
  | none => false) &&
  (match tget TD H.aps b with
  | some z => Nat.beq z sz
  | none => false) && (match tget TD H.its b with
  | some _ => false
  | none => true)

noncomputable def appL (P : Program) (t : TypeId) (s x : LV) (H : LHeap) : Option (LV × LHeap) :=
  match P.underlying t, baseOf s, baseOf x with
  | some (.slice el), some (sb, n, c, ex), some (xb, m, _, _) =>
    bif (zc P el).isSome && Nat.beq (zLen P el) (P.cellsOf el) && Nat.blt 0 (zLen P el) then
      (match newsL P H xb (m * P.cellsOf el) with
      | none => none
      | some news => bif news.all one1 then
        (bif Nat.ble (n + m) c then
          (match sb with
          | some (b, o) => (match H.setN P b (o + n * P.cellsOf el) news with
            | some H' => some (.sl b o (n + m) c ex, H')
            | none => none)
          | none => bif Nat.beq m 0 then some (.sc (.slice none (n + m) c), H) else none)
        else
          (match newsL P H sb (n * P.cellsOf el) with
          | none => none
          | some olds => bif decide ((n + m) * P.bytesOf el ≤ 140737488355328) && decide (n + m ≤ 9223372036854775807) then
              (match sb, ex with
              | some (b, _), false => bif isAp P H b (P.cellsOf el) then newAp (H.kill b) (olds ++ news) (n + m) (P.cellsOf el) else none
              | _, _ => newAp H (olds ++ news) (n + m) (P.cellsOf el)) else none)) else none) else none
  | _, _, _ => none

noncomputable def rangeL (P : Program) (t : TypeId) (x : LV) (H : LHeap) : Option (LV × LHeap) :=
  match P.underlying t, x with
  | some .string, .sc (.string s) => bif Nat.blt H.next TM then some (.ptr H.next 0, { H with next := H.next + 1, its := tset TD H.its H.next (.it s 0) }) else none
  | _, _ => none

noncomputable def nextL (it : LV) (str : Bool) (H : LHeap) : Option (LV × LHeap) :=
  match it, str with
  | .ptr b 0, true => (match tget TD H.its b with
    | some (.it s pos) => bif Nat.blt pos s.size then
        some (.tup [.sc (.bool true), .sc (.int .i64 pos), .sc (.int .i32 (Utf8.decode s pos).1)], { H with its := tset TD H.its b (.it s (pos + (Utf8.decode s pos).2)) })
      else some (.tup [.sc (.bool false)], H)
    | _ => none)
  | _, _ => none

noncomputable def mapT (P : Program) (t : TypeId) : Option (TypeDesc × TypeId) :=
  match P.underlying t with
  | some (.map key el) => (match P.underlying key with
    | some (.int k) => some (.int k, el)
    | _ => none)
  | _ => none

noncomputable def makeMapL (P : Program) (t : TypeId) (H : LHeap) : Option (LV × LHeap) :=
  match mapT P t with
  | some _ => bif Nat.blt H.next TM then some (.mp H.next, { H with next := H.next + 1, its := tset TD H.its H.next (.mp [] 0) }) else none
  | none => none

noncomputable def zero1 (P : Program) (t : TypeId) : Option Value :=
  match (P.info? t).bind (·.zero) with
  | some v => bif scalar v then some v else none
  | none => none

noncomputable def lookupL (P : Program) (t : TypeId) (m i : LV) (ok : Bool) (H : LHeap) : Option LV :=
  match mapT P t, m, i with
  | some (kd, el), .mp b, .sc i => (match tget TD H.its b with
    | some (.mp es _) => (match Instr.findNow kd i es 0, zero1 P el with
      | some (some (_, v)), _ => bif scalar v then some (bif ok then .tup [.sc v, .sc (.bool true)] else .sc v) else none
      | some none, some z => some (bif ok then .tup [.sc z, .sc (.bool false)] else .sc z)
      | _, _ => none)
    | _ => none)
  | _, _, _ => none

noncomputable def mapUpdateL (P : Program) (t : TypeId) (m i v : LV) (H : LHeap) : Option LHeap :=
  match mapT P t, m, i, v with
  | some (kd, _), .mp b, .sc (.int k n), .sc v => (match tget TD H.its b with
    | some (.mp es clock) => (match Instr.findNow kd (.int k n) es 0 with
      | some (some (j, _)) => some { H with its := tset TD H.its b (.mp (es.modify j fun e => { e with key := .int k n, val := v }) clock) }
      | some none => some { H with its := tset TD H.its b (.mp (es ++ [{ key := .int k n, val := v, born := clock }]) (clock + 1)) }
      | none => none)
    | _ => none)
  | _, _, _, _ => none

noncomputable def mapEntryL (P : Program) (t : TypeId) (m i : LV) (H : LHeap) : Option (LV × LHeap) :=
  match mapT P t, m, i with
  | some (kd, el), .mp b, .sc (.int k n) => (match tget TD H.its b with
    | some (.mp es clock) => (match Instr.findNow kd (.int k n) es 0, zero1 P el with
      | some (some (j, v)), _ => bif scalar v then some (.tup [.sc v, .sc (.int .i64 (((es[j]?).map (·.born)).getD 0))], { H with its := tset TD H.its b (.mp (es.modify j fun e => { e with key := .int k n }) clock) }) else none
      | some none, some z => some (.tup [.sc z, .sc (.int .i64 clock)], { H with its := tset TD H.its b (.mp (es ++ [{ key := .int k n, val := z, born := clock }]) (clock + 1)) })
      | _, _ => none)
    | _ => none)
  | _, _, _ => none

noncomputable def entryStoreL (m st v : LV) (H : LHeap) : Option LHeap :=
  match m, st, v with
  | .mp b, .sc (.int _ born), .sc v => (match tget TD H.its b with
    | some (.mp es clock) => (match es.findIdx? (fun e => (e.born : Int) == born) with
      | some j => some { H with its := tset TD H.its b (.mp (es.modify j fun e => { e with val := v }) clock) }
      | none => none)
    | _ => none)
  | _, _, _ => none

/-- What is called: a function; a round; a function, when a call ends. -/
inductive CK where
  | fn | yl | df

abbrev CallE := CK → Nat → List LV → LHeap → Option (LV × LHeap)

/-- copy(d, s), for elements of one cell. -/
noncomputable def copyL (P : Program) (t : TypeId) (d s : LV) (H : LHeap) : Option (LV × LHeap) :=
  match P.underlying t with
  | some (.slice el) => bif Nat.beq (P.cellsOf el) 1 && (P.info? el).isSome then
      (match baseOf d, baseOf s with
      | some (bd, nd, _, _), some (bs, ns, _, _) =>
        (match bd, bs with
        | some (b, o), some (b', o') => (match H.getN P b' o' (Nat.min ns nd) with
          | some vs => bif vs.all one1 then (match H.setN P b o vs with
            | some H' => some (.sc (.int .i64 (Nat.min ns nd)), H')
            | none => none) else none
          | none => none)
        | _, _ => bif Nat.beq (Nat.min ns nd) 0 then some (.sc (.int .i64 0), H) else none)
      | _, _ => none) else none
  | _ => none


noncomputable def opW (P : Program) (call : CallE) (le : LE) (o : Oper) (H : LHeap) : Option (LV × LHeap) :=
  match o.op with
  | .load t x => (match loadL P t (lev le x) H with
    | some (v, _) => some (v, H)
    | none => none)
  | .store t x y => (match storeL P t (lev le x) (lev le y) H with
    | some H' => some (.tup [], H')
    | none => none)
  | .alloc t => allocL P t H
  | .box t x => (match lev le x with
    | .un => none
    | .agb k j n => bif Nat.beq j 0 && Nat.beq n k.size then newL H k fun b => .ptr b 0 else none
    | v => bif (cellsL v).all one1 then newL H (listB (cellsL v)) fun b => .ptr b 0 else none)
  | .buildSlice t len parts => buildSliceL P t len (partsL le parts) H
  | .makeSlice t l c => makeL P t (lev le l) (lev le c) H
  | .range t x => rangeL P t (lev le x) H
  | .makeMap t none => makeMapL P t H
  | .lookup t x i ok => (match lookupL P t (lev le x) (lev le i) ok H with
    | some v => some (v, H)
    | none => none)
  | .mapEntry t m i => mapEntryL P t (lev le m) (lev le i) H
  | .entryStore _ m st v => (match entryStoreL (lev le m) (lev le st) (lev le v) H with
    | some H' => some (.tup [], H')
    | none => none)
  | .mapUpdate t m i v => (match mapUpdateL P t (lev le m) (lev le i) (lev le v) H with
    | some H' => some (.tup [], H')
    | none => none)
  | .next it str => nextL (lev le it) str H
  | .call c => (match c.callee with
    | .value f => (match lev le f with
      | .fn k fs cs => bif isGo P k then (match call .fn k (fs ++ c.args.toList.map (lev le) ++ cs) H with
        | some (v, H') => bif sh3 (c3 P o.type) v then some (v, H') else none
        | none => none) else none
      | .yl b => call .yl b (c.args.toList.map (lev le)) H
      | _ => none)
    | .builtin .append => (match c.args.toList, c.argTypes.toList with
      | [x, y], [t, u] => bif isSliceT P u then appL P t (lev le x) (lev le y) H else none
      | _, _ => none)
    | .builtin .copy => (match c.args.toList, c.argTypes.toList with
      | [x, y], [t, u] => copyL P t (lev le x) (lev le y) H
      | _, _ => none)
    | _ => (match pureL P le o with
      | some v => some (v, H)
      | none => none))
  | _ => (match pureL P le o with
    | some v => some (v, H)
    | none => none)

noncomputable def opL (P : Program) (call : CallE) (le : LE) (o : Oper) (H : LHeap) : Option (LV × LHeap) :=
  match o.op with
  | .pick c x y => (match lev le c with
    | .sc (.bool b) => some (bif b then lev le x else lev le y, H)
    | _ => none)
  | .select _ _ => none
  | op => bif allKnL le (opnds op) then opW P call le o H else none

/-- .. that only looks. -/
noncomputable def opLR (P : Program) (le : LE) (o : Oper) (H : LHeap) : Option (LV × List (Nat × Nat × LV)) :=
  match o.op with
  | .pick c x y => (match lev le c with
    | .sc (.bool b) => some (bif b then lev le x else lev le y, [])
    | _ => none)
  | .load t x => (match loadL P t (lev le x) H with
    | some (.agb _ _ _, _) => none
    | r => r)
  | .select _ _ => none
  | op => bif allKnL le (opnds op) then (match pureL P le o with
    | some v => some (v, [])
    | none => none) else none

noncomputable def guardL {α : Type} (all : List Oper) (o : Oper) (le : LE) (skip : LE → Option α) (run : LE → Option α) : Option α :=
  match o.guard with
  | none => run le
  | some (j, want) => match dstOf all j with
    | none => none
    | some t => match lget le t with
      | .tup _ => skip (lput le o.dst (.tup []))
      | .sc (.bool b) => bif b == want then run le else skip (lput le o.dst (.tup []))
      | _ => none

noncomputable def deferL (P : Program) (c : Call) (dst : Option Nat) (le : LE) (H : LHeap) : Option (LE × LHeap) :=
  match c.callee with
  | .value f => (match lev le f with
    | .fn k fs cs => bif isGo P k && !le.rd && (allKnL le c.args.toList && ((c.args.toList.map (lev le)).all one0 && (fs.all one0 && cs.all one0))) then
        some (lput { le with df := .call k (fs ++ c.args.toList.map (lev le) ++ cs) :: le.df } dst (.tup []), H) else none
    | _ => none)
  | _ => none

noncomputable def stepL (P : Program) (call : CallE) (all : List Oper) (o : Oper) (le : LE) (H : LHeap) : Option (LE × LHeap) :=
  match o.op, o.guard with
  | .defer c, none => deferL P c o.dst le H
  | _, _ => guardL all o le (fun le => some (le, H)) fun le =>
    match opL P call le o H with
    | some (v, H') => bif isKn v then some (lput le o.dst v, H') else none
    | none => none

noncomputable def opsL (P : Program) (call : CallE) (all : List Oper) : List Oper → LE → LHeap → Option (LE × LHeap)
  | [], le, H => some (le, H)
  | o :: r, le, H => match stepL P call all o le H with
    | some (le', H') => opsL P call all r le' H'
    | none => none

noncomputable def stepLR (P : Program) (all : List Oper) (o : Oper) (le : LE) (H : LHeap) : Option (LE × List (Nat × Nat × LV)) :=
  guardL all o le (fun le => some (le, [])) fun le =>
    match opLR P le o H with
    | some (v, fs) => bif isKn v then some (lput le o.dst v, fs) else none
    | none => none

/-- Are they one value, whatever they stand for? -/
noncomputable def sameV : Value → Value → Bool
  | .bool a, .bool b => a == b
  | .int k a, .int k' b => decide (k = k') && decide (a = b)
  | .string a, .string b => decide (a = b)
  | .pointer none, .pointer none => true
  | .slice none n c, .slice none n' c' => Nat.beq n n' && Nat.beq c c'
  | .map none, .map none => true
  | .nilFunc, .nilFunc => true
  | .nilIface, .nilIface => true
  | _, _ => false

noncomputable def sameL : LV → LV → Bool
  | .sc a, .sc b => sameV a b
  | .ptr b o, .ptr b' o' => Nat.beq b b' && Nat.beq o o'
  | .sl b o n c true, .sl b' o' n' c' true => Nat.beq b b' && Nat.beq o o' && Nat.beq n n' && Nat.beq c c'
  | .sl b o n c false, .sl b' o' n' c' false => Nat.beq b b' && Nat.beq o o' && Nat.beq n n'
  | _, _ => false

noncomputable def fctsL (P : Program) (H : LHeap) : List (Nat × Nat × LV) → Bool
  | [] => true
  | (b, o, v) :: r => (match H.get P b o with | some u => sameL v u | none => false) && fctsL P H r

noncomputable def pendL (P : Program) (H : LHeap) (m : Nat) : List (Nat × List (Nat × Nat × LV)) → Bool
  | [] => true
  | (i, fs) :: r => (m.testBit i || fctsL P H fs) && pendL P H m r

noncomputable def keepL (m : Nat) (SL : List (Nat × List (Nat × Nat × LV))) : List (Nat × List (Nat × Nat × LV)) := SL.filter fun x => !m.testBit x.1

/-- A new block that waits on nobody. -/
def isAlO (o : Oper) : Bool :=
  match o.op, o.guard, o.dst with
  | .alloc _, none, some _ => true
  | _, _, _ => false

/-- It has nothing to do with what floats. -/
def apartF (l : List Oper) (fl : Option Nat) (i : Nat) (o : Oper) : Bool :=
  match fl with
  | none => true
  | some j => !Nat.beq i j && (match dstOf l j with
    | some d => !sameD o.dst d
    | none => false)

def onlyO (V : Nat) (fl : Option Nat) (i : Nat) (l : List Oper) : Bool :=
  match fl with
  | none => onlyF V [] i 0 l
  | some j => onlyF V [j] i 0 l && onlyF (V ||| 2 ^ j) [] i 0 l

noncomputable def zcOk (P : Program) (o : Oper) : Bool :=
  match o.op with
  | .alloc t => (zc P t).isSome
  | _ => false

/-- What of a plan does not hang on values. -/
noncomputable def planOk (l : List Oper) (A : List Nat) : List (Nat × Nat) → Nat → Option Nat → Bool
  | [], V, fl => Nat.beq V (2 ^ l.length - 1) && fl.isNone
  | (r, i) :: pl, V, fl =>
    match l[i]? with
    | none => false
    | some o => !V.testBit i && predsIn V o &&
      (bif Nat.beq r 2 then fl.isNone && isAlO o && Nat.beq (A.getD i 0) 0 && planOk l A pl V (some i)
      else bif Nat.beq r 0 then apartF l fl i o && planOk l A pl (V ||| 2 ^ i) fl
      else bif Nat.beq r 1 then apartF l fl i o && onlyO V fl i l && planOk l A pl (V ||| 2 ^ i) fl
      else Nat.beq r 3 && (match fl with | some j => Nat.beq j i | none => false) && onlyF V [i] i 0 l && planOk l A pl (V ||| 2 ^ i) none)

noncomputable def plL (P : Program) (call : CallE) (l : List Oper) (A : List Nat) : List (Nat × Nat) → Option Nat → List (Nat × List (Nat × Nat × LV)) → LE → LHeap → Option (LE × LHeap)
  | [], _, _, le, H => some (le, H)
  | (r, i) :: pl, fl, SL, le, H =>
    match l[i]? with
    | none => none
    | some o =>
      bif Nat.beq r 0 then (match stepLR P l o le H with
        | some (le', fs) => plL P call l A pl fl ((i, fs) :: SL) le' H
        | none => none)
      else bif Nat.beq r 2 then (bif zcOk P o then plL P call l A pl (some i) SL (lput le o.dst .un) H else none)
      else bif fl.isNone || Nat.beq r 3 || pendL P H 0 SL then (match stepL P call l o le H with
        | some (le', H') => bif pendL P H' (A.getD i 0) SL then plL P call l A pl (bif Nat.beq r 3 then none else fl) (keepL (A.getD i 0) SL) le' H' else none
        | none => none) else none

inductive Out where
  | nx | ex (i : Nat) | gt (l : Nat) | rt

abbrev Plans := List (Nat × List (Nat × Nat))
noncomputable def planOf : Plans → Nat → List (Nat × Nat)
  | [], _ => []
  | (i, p) :: r, j => bif Nat.beq i j then p else planOf r j

abbrev Res := Option (Out × LE × LHeap)
abbrev Ev := Code → LE → LHeap → Res

noncomputable def lenv : Nat → List LV → LE → LE
  | _, [], le => le
  | i, v :: r, le => lenv (i + 1) r (lput le (some i) v)

noncomputable def notTup : LV → Bool
  | .tup _ => false
  | _ => true

noncomputable def retL (P : Program) : List ResultVar → List LV → LE → LHeap → Option LV
  | [], [v], _, _ => some v
  | [], acc, _, _ => bif acc.all notTup then some (.tup acc.reverse) else none
  | .tmp t :: r, acc, le, H => bif isKn (lget le t) then retL P r (lget le t :: acc) le H else none
  | .cell t ty :: r, acc, le, H => match loadL P ty (lget le t) H with
    | some (v, _) => retL P r (v :: acc) le H
    | none => none

noncomputable def plainOps (ops : List Oper) : Bool := ops.all fun o => match o.op with | .defer _ => false | _ => true

noncomputable def regL (P : Program) (pls : Plans) (call : CallE) (id : Nat) (ops : List Oper) (dr : Bool) (le : LE) (H : LHeap) : Res :=
  match (bif dr then
      (match planOf pls id with
        | [] => none
        | pl => bif P.follows .mixedOrders && (statI ops (ancs ops []) pl 0 ops && (planOk ops (ancs ops []) pl 0 none && plainOps ops)) then plL P call ops (ancs ops []) pl none [] le H else none)
    else opsL P call ops ops le H) with
  | some (le', H') => some (.nx, le', H')
  | none => none

/-- What is deferred is done. -/
noncomputable def leaveL (call : CallE) : List LDef → LHeap → Option LHeap
  | [], H => some H
  | .mark b :: r, H => (match tget TD H.its b with
    | some (.dq true) => leaveL call r { H with its := tset TD H.its b (.dq false) }
    | _ => none)
  | .call k args :: r, H => (match call .df k args H with
    | some (_, H') => leaveL call r H'
    | none => none)

/-- One function: its plans are told by its number. -/
noncomputable def callL (P : Program) (pls : Nat → Plans) (ev : Plans → Ev) (leave : CallE) (k : FuncId) (args : List LV) (H : LHeap) (lone : Bool) : Option (LV × LHeap) :=
  match P.funcs[k]? with
  | none => none
  | some fn => match fn.body with
    | none => none
    | some c => bif Nat.ble args.length fn.ntmps && codeOk fn.ntmps c then
        (match ev (pls k) c (lenv 0 args ⟨dep fn.ntmps, fn.ntmps, .nil, [], false, k⟩) H with
        | some (o, le, H') => (match o with
          | .nx => (match (bif lone then (match le.df with | [] => some H' | _ => none) else leaveL leave le.df H') with
            | some H2 => (match retL P fn.results.toList [] le H2 with | some v => some (v, H2) | none => none)
            | none => none)
          | .rt => (match (bif lone then (match le.df with | [] => some H' | _ => none) else leaveL leave le.df H') with
            | some H2 => (match retL P fn.results.toList [] le H2 with | some v => some (v, H2) | none => none)
            | none => none)
          | _ => none)
        | none => none) else none

noncomputable def setPs : List Nat → List LV → LE → LE
  | p :: ps, v :: vs, le => setPs ps vs (lput le (some p) v)
  | _, _, le => le

noncomputable def jumpOf : Out → Option Code
  | .nx => none
  | .rt => some .ret
  | .ex i => some (.exit i)
  | .gt l => some (.goto l)

noncomputable def outOf : Option Code → Option Out
  | none => some .nx
  | some .ret => some .rt
  | some (.exit i) => some (.ex i)
  | some (.goto l) => some (.gt l)
  | _ => none

/-- One round. -/
noncomputable def yieldL (P : Program) (pls : Nat → Plans) (ev : Plans → Ev) (b : Nat) (args : List LV) (H : LHeap) : Option (LV × LHeap) :=
  match tget TD H.its b with
  | some (.lp _ _ le ps as bd _) =>
    bif Nat.beq args.length ps.length && (args.all isKn && ps.all (fun t => Nat.blt t le.n) && (codeOk le.n as && codeOk le.n bd)) then
      (match ev (pls le.fid) as { setPs ps args le with df := [], rd := true } H with
      | some (.nx, le1, H1) => (match tget TD H1.its b with
        | some (.lp .ready pd le0 ps0 as0 bd0 df0) =>
          (match ev (pls le.fid) bd le1 { H1 with its := tset TD H1.its b (.lp .busy pd le0 ps0 as0 bd0 df0) } with
          | some (o, _, H2) => (match tget TD H2.its b with
            | some (.lp _ _ le3 ps3 as3 bd3 df3) =>
              some (.sc (.bool (jumpOf o).isNone), { H2 with its := tset TD H2.its b (.lp (bif (jumpOf o).isNone then .ready else .done) (jumpOf o) le3 ps3 as3 bd3 df3) })
            | _ => none)
          | none => none)
        | _ => none)
      | _ => none) else none
  | _ => none

/-- A range over a function. -/
noncomputable def rfL (P : Program) (call : CallE) (f : Operand) (ps : List Nat) (as bd : Code) (le : LE) (H : LHeap) : Res :=
  match le.rd with
  | true => none
  | false => match lev le f with
  | .fn k fs cs => bif isGo P k && Nat.blt (H.next + 1) TM then
      (match call .fn k (fs ++ [.yl (H.next + 1)] ++ cs) { H with next := H.next + 2, its := tset TD (tset TD H.its H.next (.dq true)) (H.next + 1) (.lp .ready none le ps as bd H.next) } with
      | some (_, H2) => (match tget TD H2.its (H.next + 1) with
        | some (.lp st pd le0 ps0 as0 bd0 df0) =>
          (match st with
          | .busy => none
          | _ => (match outOf pd with
            | some o => some (o, { le with df := .mark H.next :: le.df }, { H2 with its := tset TD H2.its (H.next + 1) (.lp .exhausted pd le0 ps0 as0 bd0 df0) })
            | none => none))
        | _ => none)
      | none => none) else none
  | _ => none

noncomputable def scopeL (ev : Ev) (c : Code) : Nat → Code → LE → LHeap → Res
  | 0, _, _, _ => none
  | n + 1, cur, le, H => bif codeOk le.n cur then (match ev cur le H with
    | some (.gt l, le', H') => (match findLabel c l with
      | some rest => scopeL ev c n rest le' H'
      | none => none)
    | r => r) else none

noncomputable def loopL (f : LE → LHeap → Res) : Nat → LE → LHeap → Res
  | 0, _, _ => none
  | n + 1, le, H => match f le H with
    | some (.nx, le', H') => loopL f n le' H'
    | r => r

noncomputable def codeL (P : Program) (pls : Plans) (call : CallE) (low : Ev) (fuel : Nat) : Code → LE → LHeap → Res
  | .skip => fun le H => some (.nx, le, H)
  | .label _ => fun le H => some (.nx, le, H)
  | .region id ops dr => fun le H => regL P pls call id ops.toList dr le H
  | .seq a b => fun le H => match codeL P pls call low fuel a le H with
    | some (.nx, le', H') => codeL P pls call low fuel b le' H'
    | r => r
  | .cond c t f => fun le H => match lev le c with
    | .sc (.bool b) => bif b then codeL P pls call low fuel t le H else codeL P pls call low fuel f le H
    | _ => none
  | .block id c => fun le H => match codeL P pls call low fuel c le H with
    | some (.ex i, le', H') => bif Nat.beq i id then some (.nx, le', H') else some (.ex i, le', H')
    | r => r
  | .loop c => fun le H => loopL (codeL P pls call low fuel c) fuel le H
  | .rangeFunc f ps as bd => fun le H => rfL P call f ps.toList as bd le H
  | .exit id => fun le H => some (.ex id, le, H)
  | .goto l => fun le H => some (.gt l, le, H)
  | .ret => fun le H => some (.rt, le, H)
  | .scope c => fun le H => match codeL P pls call low fuel c le H with
    | some (.gt l, le', H') => (match findLabel c l with
      | some rest => scopeL low c fuel rest le' H'
      | none => none)
    | r => r
  | _ => fun _ _ => none

noncomputable def evN (P : Program) (pls : Nat → Plans) (fuel : Nat) : Nat → Plans → Ev
  | 0 => fun _ _ _ _ => none
  | n + 1 => fun p => codeL P p (fun ck k args H => match ck with
      | .fn => callL P pls (evN P pls fuel n) (fun _ k args H => bif isGo P k then callL P pls (evN P pls fuel n) (fun _ _ _ _ => none) k args H true else none) k args H false
      | .yl => yieldL P pls (evN P pls fuel n) k args H
      | .df => none) (evN P pls fuel n p) fuel

noncomputable def emptyH : LHeap := ⟨0, .nil, .nil, .nil⟩

noncomputable def runL (P : Program) (pls : Nat → Plans) (fuel depth : Nat) (k : FuncId) (args : List LV) (H : LHeap) : Option (LV × LHeap) :=
  callL P pls (evN P pls fuel depth) (fun _ k args H => bif isGo P k then callL P pls (evN P pls fuel depth) (fun _ _ _ _ => none) k args H true else none) k args H false

end Go.Den
