/- Den2: the denotation of one operation. Own work; a part of the proof of a claim. Conditions: none beyond those that stand in each theorem. -/
import Derived.Test.YteganidclpobeaaGreatDen1
import Derived.Laws.Slices
import Derived.Laws.MakeOwn
import Derived.Laws.StructEq
/- Den2: the denotation of one operation. -/
set_option linter.unusedVariables false
set_option linter.unusedSimpArgs false
namespace Go.Den
open Go

def opnds : Op → List Operand
  | .call c => (match c.callee with | .value f => [f] | .invoke r _ => [r] | .builtin _ => []) ++ c.args.toList
  | .go c => (match c.callee with | .value f => [f] | .invoke r _ => [r] | .builtin _ => []) ++ c.args.toList
  | .defer c => (match c.callee with | .value f => [f] | .invoke r _ => [r] | .builtin _ => []) ++ c.args.toList
  | .build _ ps => ps.toList.map (·.2)
  | .buildSlice _ _ ps => ps.toList.map (·.2)
  | .makeFunc _ a b => a.toList ++ b.toList
  | .makeMap _ r => r.toList
  | .slice _ x l h m => [x] ++ l.toList ++ h.toList ++ m.toList
  | .select _ _ => []
  | .alloc _ | .ready _ | .waits _ => []
  | .move x | .assign x | .box _ x | .load _ x | .nilCheck x | .unOp _ _ x | .convert _ _ x | .sliceToArrayPointer _ x | .makeInterface _ x
  | .makeChan _ x | .fieldAddr _ x _ | .field _ x _ | .range _ x | .next x _ | .entry x | .typeAssert x _ _ _ | .extract x _ | .panic x | .recv _ x _ => [x]
  | .pick c a b => [c, a, b]
  | .store _ a v | .binOp _ _ a v _ | .makeSlice _ a v | .indexAddr _ a v | .index _ a v | .lookup _ a v _ | .mapEntry _ a v | .send a v => [a, v]
  | .mapUpdate _ m k v | .entryStore _ m k v | .insert _ m k v => [m, k, v]

theorem opnds_spec {op : Op} (hs : ∀ cs b, op ≠ .select cs b) {x : Operand} (h : x ∈ op.operands) : x ∈ opnds op := by
  cases op <;> first
    | (exfalso; exact hs _ _ rfl)
    | (rename_i c; cases c with | mk f a t => cases f <;> simpa [Op.operands, Call.operands, opnds] using h)
    | (simp [Op.operands] at h; done)
    | (simpa [Op.operands, opnds] using h)

def allKn (e : Env) (l : List Operand) : Bool := l.all fun x => kn (ev e x)

theorem exec_eq {D : List Deferred} {n : Nat} {e : Env} {a : Act} {o : Oper} (hs : Sub D n e a) (hsel : ∀ cs b, o.op ≠ .select cs b) (hk : allKn e (opnds o.op) = true) :
    execOp a.eval o = execOp (ev e) o :=
  execOp_congr o hsel fun x hx => hs.eval (by
    have := opnds_spec hsel hx
    exact List.all_eq_true.1 hk x this)

/-- The offset of a struct's field, if it takes room. -/
def foff (P : Program) (s : TypeId) (f : Nat) : Option Nat :=
  match P.underlying s with
  | some (.struct fs) => (fs[f]?).bind fun fd => bif Nat.beq (P.cellsOf fd.type) 0 then none else bif (P.info? fd.type).isSome then some fd.offset else none
  | _ => none

def nilCmp (neq : Bool) (b : Bool) : Value := .bool (bif neq then !b else b)

/-- A struct of whole numbers alone. -/
def intFs (P : Program) : Nat → List Field → Bool
  | _, [] => true
  | i, f :: r => (f.name != "_") && (Nat.beq f.offset i && ((match P.underlying f.type with | some (.int _) => true | _ => false) && intFs P (i + 1) r))

def intStruct (P : Program) (t : TypeId) : Bool := intFs P 0 (P.fieldsOf t).toList && (!P.stoodInHeld t && !P.eqGuardType P.depth t)

/-- Are they whole numbers of the same kinds? -/
def okInts : List Value → List Value → Bool
  | [], [] => true
  | .int k _ :: r, .int k' _ :: s => decide (k = k') && okInts r s
  | _, _ => false

def eqInts : List Value → List Value → Bool
  | .int _ a :: r, .int _ b :: s => (a == b) && eqInts r s
  | _, _ => true

/-- Comparison with nil, and what is not that. -/
def eqD (P : Program) (ρ : Operand → Value) (o : Oper) (neq : Bool) (t : TypeId) (x y : Value) (K : Value → Prop) : Prop :=
  match P.underlying t, x, y with
  | some (.pointer _), .pointer a, .pointer none => K (nilCmp neq a.isNone)
  | some (.slice _), .slice a _ _, .slice none _ _ => K (nilCmp neq a.isNone)
  | some (.map _ _), .map a, .map none => K (nilCmp neq a.isNone)
  | some (.struct fs), .agg xs, .agg ys => bif intStruct P t && (okInts xs.toList ys.toList && Nat.beq xs.toList.length fs.toList.length) then K (nilCmp neq (eqInts xs.toList ys.toList)) else False
  | _, _, _ => match simple P (execOp ρ o) with
    | some (.value v) => K v
    | _ => False

/-- A shift by an amount that the text does not tell. -/
def shD (op : BinOp) (k : IntKind) (x y : Int) (K : Value → Prop) : Prop :=
  0 ≤ y ∧ match op with
    | .shl => K (.int k (k.wrap (x * 2 ^ (min y.toNat k.bits))))
    | _ => K (.int k (x.fdiv (2 ^ (min y.toNat k.bits))))

def divD (op : BinOp) (k : IntKind) (x y : Int) (K : Value → Prop) : Prop :=
  y ≠ 0 ∧ match op with
    | .quo => K (.int k (k.wrap (x.tdiv y)))
    | _ => K (.int k (x.tmod y))

def simpleD (P : Program) (ρ : Operand → Value) (o : Oper) (K : Value → Prop) : Prop :=
  match simple P (execOp ρ o) with
  | some (.value v) => K v
  | _ => False

def isC : Operand → Bool
  | .const _ => true
  | _ => false

def binD (P : Program) (ρ : Operand → Value) (o : Oper) (op : BinOp) (t : TypeId) (x y : Operand) (K : Value → Prop) : Prop :=
  match op with
  | .eql => eqD P ρ o false t (ρ x) (ρ y) K
  | .neq => eqD P ρ o true t (ρ x) (ρ y) K
  | .shl => bif isC y then simpleD P ρ o K else (match ρ x, ρ y with | .int k a, .int _ b => shD .shl k a b K | _, _ => False)
  | .shr => bif isC y then simpleD P ρ o K else (match ρ x, ρ y with | .int k a, .int _ b => shD .shr k a b K | _, _ => False)
  | .quo => bif isC y then simpleD P ρ o K else (match ρ x, ρ y with | .int k a, .int k' b => bif decide (k = k') then divD .quo k a b K else False | _, _ => False)
  | .rem => bif isC y then simpleD P ρ o K else (match ρ x, ρ y with | .int k a, .int k' b => bif decide (k = k') then divD .rem k a b K else False | _, _ => False)
  | _ => simpleD P ρ o K

def ixaD (P : Program) (t : TypeId) (x i : Value) (K : Value → Prop) : Prop :=
  match P.underlying t, x, i with
  | some (.array len el), .pointer (some p), .int _ j => (0 ≤ j ∧ j < len) ∧ bif (P.info? el).isSome then K (.pointer (some (p.add (j.toNat * P.cellsOf el)))) else False
  | some (.slice el), .slice a n _, .int _ j => optP a fun p => (0 ≤ j ∧ j < n) ∧ bif (P.info? el).isSome then K (.pointer (some (p.add (j.toNat * P.cellsOf el)))) else False
  | _, _, _ => False

/-- One of a literal list's values. -/
def nthK (cs : List Value) (j : Nat) (K : Value → Prop) : Prop :=
  match cs[j]? with
  | some v => K v
  | none => False

def ixD (P : Program) (t : TypeId) (x i : Value) (K : Value → Prop) : Prop :=
  match P.underlying t, x, i with
  | some .string, .string s, .int _ j => (0 ≤ j ∧ j < s.size) ∧ K (.int .u8 ((s.data.toList[j.toNat]?.getD 0).toNat : Int))
  | some (.array len el), .agg cs, .int _ j => (0 ≤ j ∧ j < len) ∧ bif (P.info? el).isSome && (P.underlying el).isSome && !isAggT P el && Nat.beq (P.cellsOf el) 1 then ex1 (c1 P el) fun v => cs.toList[j.toNat]? = some v ∧ K v else False
  | _, _, _ => False

/-- The value of an array type's element, which takes one cell: by kind. -/
def resD (P : Program) (t : TypeId) (w : World) (f : Value) (args : Array Value) (K : Value → World → Prop) : Prop :=
  match f with
  | .func (.func k) first cap => CALL P k (first ++ args ++ cap) w fun v w' => ex3 (c3 P t) fun v' => v = v' ∧ K v' w'
  | .func (.yield l) ⟨[]⟩ _ => YLD P l args w K
  | _ => False

def lenD (P : Program) (t : Option TypeId) (x : Value) (K : Value → Prop) : Prop :=
  match t.bind P.underlying, x with
  | some .string, .string s => K (.int .i64 s.size)
  | some (.slice _), .slice _ n _ => K (.int .i64 n)
  | some (.array n _), _ => K (.int .i64 n)
  | _, _ => False

def capD (P : Program) (t : Option TypeId) (x : Value) (K : Value → Prop) : Prop :=
  match t.bind P.underlying, x with
  | some (.slice _), .slice _ _ c => K (.int .i64 c)
  | _, _ => False


def bnd (d : Int) : Option Value → Option Int
  | none => some d
  | some (.int _ i) => some i
  | some _ => none

def slD (P : Program) (t : TypeId) (x : Value) (lo hi mx : Option Value) (K : Value → Prop) : Prop :=
  match mx with
  | some _ => False
  | none => match P.underlying t, x, bnd 0 lo with
    | some .string, .string s, some l => (match bnd s.size hi with
      | some h => (0 ≤ l ∧ l ≤ h ∧ h ≤ s.size) ∧ K (.string (s.extract l.toNat h.toNat))
      | none => False)
    | some (.slice el), .slice a n c, some l => (match bnd n hi with
      | some h => (0 ≤ l ∧ l ≤ h ∧ h ≤ c) ∧ bif (P.info? el).isSome then K (.slice (if c = l.toNat then a else a.map (·.add (l.toNat * P.cellsOf el))) (h.toNat - l.toNat) (c - l.toNat)) else False
      | none => False)
    | _, _, _ => False

/-- The cells of n elements of the zero value. -/
def zcN (P : Program) (el : TypeId) (n : Nat) : Array Value := madeCells ((zc P el).getD #[]) (n * P.cellsOf el)

def mkD (P : Program) (t : TypeId) (w : World) (l c : Value) (K : Value → World → Prop) : Prop :=
  match P.underlying t, l, c with
  | some (.slice el), .int _ l, .int _ c => bif (zc P el).isSome then
      (0 ≤ l ∧ l ≤ c ∧ (P.bytesOf el : Int) * c ≤ 140737488355328 ∧ c ≤ 140737488355328) ∧
        ∀ w', w' = w.alloc (.cells (zcN P el c.toNat) el) → K (.slice (some ⟨w.heap.size, 0, none⟩) l.toNat c.toNat) w' else False
  | _, _, _ => False

/-- .. as append lays them. -/
def zcA (P : Program) (el : TypeId) (n : Nat) : Array Value := Builtin.zeroCells ((zc P el).getD #[]) n

/-- The cells of a slice that is written out. -/
def bsC (P : Program) (t : TypeId) (len : Nat) (parts : List (Nat × Value)) : Option (TypeId × Array Value) :=
  match P.underlying t with
  | some (.slice el) => bif (P.info? el).isSome && Nat.ble (len * P.cellsOf el) 16777216 && (bif Nat.beq (len * P.cellsOf el) 0 then true else (zc P el).isSome) then
      (Instr.fill (fun i => some (i * P.cellsOf el, P.cellsOf el))
        ((Array.range (len * P.cellsOf el)).map (((bif Nat.beq (len * P.cellsOf el) 0 then #[] else (zc P el).getD #[]) : Array Value)[· % ((bif Nat.beq (len * P.cellsOf el) 0 then #[] else (zc P el).getD #[]) : Array Value).size]!)) parts).map fun c => (el, c)
      else none
  | _ => none

def bsD (P : Program) (t : TypeId) (len : Nat) (parts : List (Nat × Value)) (w : World) (K : Value → World → Prop) : Prop :=
  match bsC P t len parts with
  | some (el, cs) => ∀ w', w' = w.alloc (.cells cs el) → K (.slice (some ⟨w.heap.size, 0, none⟩) len len) w'
  | none => False

def rgD (P : Program) (t : TypeId) (x : Value) (w : World) (K : Value → World → Prop) : Prop :=
  match P.underlying t, x with
  | some .string, .string s => ∀ w', w' = w.alloc (.stringIter s 0) → K (.pointer (some ⟨w.heap.size, 0, none⟩)) w'
  | _, _ => False

def World.setObj' (w : World) (r : Nat) (o : Obj) : World := { w with heap := w.heap.setIfInBounds r o }

def nxD (it : Value) (str : Bool) (w : World) (K : Value → World → Prop) : Prop :=
  match it, str with
  | .pointer (some ⟨r, 0, _⟩), true => ∃ (s : ByteArray) (pos : Nat), w.heap[r]? = some (.stringIter s pos) ∧
      bc (decide (pos < s.size)) (∀ w', w' = World.setObj' w r (.stringIter s (pos + (Utf8.decode s pos).2)) → K (.tuple ⟨[.bool true, .int .i64 pos, .int .i32 (Utf8.decode s pos).1]⟩) w') (K (.tuple ⟨[.bool false]⟩) w)
  | _, _ => False

def isSliceT (P : Program) (u : TypeId) : Bool :=
  match P.underlying u with
  | some (.slice _) => true
  | _ => false

/-- append(s, x), x a slice: K is handed where the result lies, its capacity, and the world. -/
def apF (P : Program) (el : TypeId) (base : Option Addr) (n c : Nat) (xb : Option Addr) (m : Nat) (w : World) (K : Option Addr → Nat → World → Prop) : Prop :=
  ∃ news olds : List Value, news.length = m * P.cellsOf el ∧ (m = 0 ∨ optP xb fun q => Rd w q 0 news) ∧ oneB news = true ∧
    (n + m ≤ c → (m = 0 ∨ optP base fun p => Wb w (p.add (n * P.cellsOf el)) 0 news) ∧
      ∀ w', w' = (match base with | some p => setCells w (p.add (n * P.cellsOf el)) 0 news | none => w) → K base c w') ∧
    (c < n + m → ((n + m) * P.bytesOf el ≤ 140737488355328 ∧ n + m ≤ 9223372036854775807 ∧ olds.length = n * P.cellsOf el ∧ (n = 0 ∨ optP base fun p => Rd w p 0 olds)) ∧
      ∀ (c' : Nat) w', n + m ≤ c' → w' = (World.drew w).alloc (.cells ((olds ++ news).toArray ++ zcA P el (c' - (n + m))) el) → K (some ⟨w.heap.size, 0, none⟩) c' w')

def apD (P : Program) (t : TypeId) (s x : Value) (w : World) (K : Value → World → Prop) : Prop :=
  match P.underlying t, s, x with
  | some (.slice el), .slice base n c, .slice xb m _ => bif (zc P el).isSome then apF P el base n c xb m w fun a c' w' => K (.slice a (n + m) c') w' else False
  | _, _, _ => False

/-- .. in a new block. -/
def al (w : World) (cs : Array Value) (t : TypeId) (K : Nat → World → Prop) : Prop := ∀ w', w' = w.alloc (.cells cs t) → K w.heap.size w'

def st1 (w : World) (p : Addr) (v : Value) (K : World → Prop) : Prop := ((∃ u, w.cell? p = some u) ∧ w.frozen? p = false) ∧ ∀ w', w' = w.setCell p v → K w'

def stN (w : World) (p : Addr) (vs : List Value) (K : World → Prop) : Prop := Wb w p 0 vs ∧ ∀ w', w' = setCells w p 0 vs → K w'

def zcv (P : Program) (t : TypeId) : Array Value := (zc P t).getD #[]

def bAnd (k : IntKind) (x y : Int) : Int := k.wrap ((BitVec.ofInt k.bits x &&& BitVec.ofInt k.bits y).toNat : Int)
def bOr (k : IntKind) (x y : Int) : Int := k.wrap ((BitVec.ofInt k.bits x ||| BitVec.ofInt k.bits y).toNat : Int)
def bXor (k : IntKind) (x y : Int) : Int := k.wrap ((BitVec.ofInt k.bits x ^^^ BitVec.ofInt k.bits y).toNat : Int)
def bAndNot (k : IntKind) (x y : Int) : Int := k.wrap ((BitVec.ofInt k.bits x &&& ~~~BitVec.ofInt k.bits y).toNat : Int)

/-- An operation that does not look at the world. -/
def pureD (P : Program) (ρ : Operand → Value) (o : Oper) (K : Value → Prop) : Prop :=
  match o.op with
  | .nilCheck x => (match ρ x with
    | .pointer a => optP a fun p => K (.pointer (some p))
    | .func (.func k) a b => K (.func (.func k) a b)
    | _ => False)
  | .fieldAddr s x f => (match ρ x, foff P s f with
    | .pointer (some p), some off => K (.pointer (some (p.add off)))
    | _, _ => False)
  | .indexAddr t x i => ixaD P t (ρ x) (ρ i) K
  | .index t x i => ixD P t (ρ x) (ρ i) K
  | .binOp op t x y _ => binD P ρ o op t x y K
  | .slice t x lo hi mx => slD P t (ρ x) (lo.map ρ) (hi.map ρ) (mx.map ρ) K
  | .call c => (match c.callee, c.args.toList with
    | .builtin .len, [x] => lenD P c.argTypes.toList.head? (ρ x) K
    | .builtin .cap, [x] => capD P c.argTypes.toList.head? (ρ x) K
    | .builtin .min, _ => simpleD P ρ o K
    | .builtin .max, _ => simpleD P ρ o K
    | _, _ => False)
  | .move _ | .assign _ | .build _ _ | .unOp _ _ _ | .makeInterface _ _ | .makeFunc _ _ _ | .extract _ _ | .field _ _ _ | .convert _ _ _ => simpleD P ρ o K
  | _ => False

/-- What an operation comes to, as the model runs it. -/
def semD (P : Program) (ρ : Operand → Value) (o : Oper) (w : World) (K : Value → World → Prop) : Prop :=
  (∃ v w', (execOp ρ o).run P w = .ok (.value v) w' ∧ K v w') ∨ ∃ w', (execOp ρ o).run P w = .ok .skip w' ∧ K undef w'

def core (P : Program) (ρ : Operand → Value) (o : Oper) (w : World) (K : Value → World → Prop) : Prop :=
  match o.op with
  | .load t x => (match ρ x with
    | .pointer (some p) => bif (P.underlying t).isSome then ldK P t w p (fun v => K v w) else False
    | _ => False)
  | .store t x y => (match ρ x with
    | .pointer (some p) => bif (P.info? t).isSome then stK P t w p (ρ y) (fun w' => K undef w') else False
    | _ => False)
  | .alloc t => (match zc P t with
    | some cs => ∀ w', w' = w.alloc (.cells cs t) → K (.pointer (some ⟨w.heap.size, 0, none⟩)) w'
    | none => False)
  | .box t x => ∀ w', w' = w.alloc (.cells (ρ x).cells t) → K (.pointer (some ⟨w.heap.size, 0, none⟩)) w'
  | .buildSlice t len parts => bsD P t len (parts.toList.map fun p => (p.1, ρ p.2)) w K
  | .makeSlice t l c => mkD P t w (ρ l) (ρ c) K
  | .range t x => rgD P t (ρ x) w K
  | .next it str => nxD (ρ it) str w K
  | .makeMap _ _ => semD P ρ o w K
  | .lookup _ _ _ _ => semD P ρ o w K
  | .mapUpdate _ _ _ _ => semD P ρ o w K
  | .mapEntry _ _ _ => semD P ρ o w K
  | .entryStore _ _ _ _ => semD P ρ o w K
  | .call c => (match c.callee with
    | .value f => resD P o.type w (ρ f) ⟨c.args.toList.map ρ⟩ K
    | .builtin .append => (match c.args.toList, c.argTypes.toList with
      | [x, y], [t, u] => bif isSliceT P u then apD P t (ρ x) (ρ y) w K else False
      | _, _ => False)
    | .builtin .copy => semD P ρ o w K
    | _ => pureD P ρ o (fun v => K v w))
  | _ => pureD P ρ o (fun v => K v w)

def denOp (P : Program) (e : Env) (o : Oper) (w : World) (K : Value → World → Prop) : Prop :=
  match o.op with
  | .pick c x y => (match ev e c with
    | .bool b => bc b (bif kn (ev e x) then K (ev e x) w else False) (bif kn (ev e y) then K (ev e y) w else False)
    | _ => False)
  | .select _ _ => False
  | op => bif allKn e (opnds op) then core P (ev e) o w K else False

end Go.Den
