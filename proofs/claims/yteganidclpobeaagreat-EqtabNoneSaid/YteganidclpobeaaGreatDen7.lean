/- Den7: words that the printer uses. Own work; a part of the proof of a claim. Conditions: none beyond those that stand in each theorem. -/
import Derived.Test.YteganidclpobeaaGreatDen6
/- Den7: words that the printer uses. -/
set_option linter.unusedVariables false
set_option linter.unusedSimpArgs false
namespace Go.Den
open Go

def bodyOf (fn : Func) : Code := match fn.body with | some c => c | none => .skip
def seqL : Code → Code | .seq a _ => a | c => c
def seqR : Code → Code | .seq _ b => b | c => c
def condT : Code → Code | .cond _ a _ => a | c => c
def condF : Code → Code | .cond _ _ b => b | c => c
def blkC : Code → Code | .block _ c => c | c => c
def loopC : Code → Code | .loop c => c | c => c

def mkF (P : Program) (el : TypeId) (w : World) (l c : Int) (K : Nat → World → Prop) : Prop :=
  (0 ≤ l ∧ l ≤ c ∧ (P.bytesOf el : Int) * c ≤ 140737488355328 ∧ c ≤ 140737488355328) ∧
    ∀ w', w' = w.alloc (.cells (zcN P el c.toNat) el) → K w.heap.size w'

def rgF (w : World) (s : ByteArray) (K : Nat → World → Prop) : Prop := ∀ w', w' = w.alloc (.stringIter s 0) → K w.heap.size w'

/-! reading a value by its kind -/
def vI : Value → Int | .int _ x => x | _ => 0
def vB : Value → Bool | .bool b => b | _ => false
def vS : Value → ByteArray | .string s => s | _ => ByteArray.empty
def vP : Value → Option Addr | .pointer a => a | _ => none
def vA : Value → Addr | .pointer (some a) => a | _ => ⟨0, 0, none⟩
def vLa : Value → Option Addr | .slice a _ _ => a | _ => none
def vLn : Value → Nat | .slice _ n _ => n | _ => 0
def vLc : Value → Nat | .slice _ _ c => c | _ => 0
def vM : Value → Option Nat | .map r => r | _ => none

def isI (k : IntKind) : Value → Bool | .int k' _ => decide (k' = k) | _ => false
def isB : Value → Bool | .bool _ => true | _ => false
def isS : Value → Bool | .string _ => true | _ => false
def isP : Value → Bool | .pointer _ => true | _ => false
def isA : Value → Bool | .pointer (some _) => true | _ => false
def isL : Value → Bool | .slice _ _ _ => true | _ => false
def isM : Value → Bool | .map _ => true | _ => false

theorem isI_eq {k : IntKind} {v : Value} (h : isI k v = true) : Value.int k (vI v) = v := by
  cases v <;> simp [isI] at h; subst h; rfl
theorem isB_eq {v : Value} (h : isB v = true) : Value.bool (vB v) = v := by cases v <;> simp [isB] at h; rfl
theorem isS_eq {v : Value} (h : isS v = true) : Value.string (vS v) = v := by cases v <;> simp [isS] at h; rfl
theorem isP_eq {v : Value} (h : isP v = true) : Value.pointer (vP v) = v := by cases v <;> simp [isP] at h; rfl
theorem isA_eq {v : Value} (h : isA v = true) : Value.pointer (some (vA v)) = v := by
  cases v with
  | pointer a => cases a with | none => simp [isA] at h | some a => rfl
  | _ => simp [isA] at h
theorem isL_eq {v : Value} (h : isL v = true) : Value.slice (vLa v) (vLn v) (vLc v) = v := by cases v <;> simp [isL] at h; rfl
theorem isM_eq {v : Value} (h : isM v = true) : Value.map (vM v) = v := by cases v <;> simp [isM] at h; rfl

theorem hun_nil {e : Env} (t : Nat) : get [] t = unk ∨ get [] t = get e t := .inl rfl
theorem hun_cons {e r : Env} {s t : Nat} {v : Value} (h : v = get e s) (hr : get r t = unk ∨ get r t = get e t) : get ((s, v) :: r) t = unk ∨ get ((s, v) :: r) t = get e t := by
  rw [get_cons]
  by_cases hs : s = t
  · subst hs; right; simp [h]
  · rw [if_neg hs]; exact hr

theorem and_l {a b : Bool} (h : (a && b) = true) : a = true := (Bool.and_eq_true_iff.1 h).1
theorem and_r {a b : Bool} (h : (a && b) = true) : b = true := (Bool.and_eq_true_iff.1 h).2

end Go.Den
namespace Go.Den
open Go

/-! more readings -/
def vBk : Value → Nat | .pointer (some a) => a.block | _ => 0
def isBk : Value → Bool | .pointer (some ⟨_, 0, none⟩) => true | _ => false
theorem isBk_eq {v : Value} (h : isBk v = true) : Value.pointer (some ⟨vBk v, 0, none⟩) = v := by
  unfold isBk at h
  split at h
  · rfl
  · cases h

def vAny (v : Value) : Value := v
def isAny (_ : Value) : Bool := true
theorem isAny_eq {v : Value} (_ : isAny v = true) : vAny v = v := rfl

def vFk : Value → FuncId | .func (.func k) _ _ => k | _ => 0
def vFx : Value → Array Value | .func _ x _ => x | _ => #[]
def vFy : Value → Array Value | .func _ _ y => y | _ => #[]
def isFn : Value → Bool | .func (.func _) _ _ => true | _ => false
theorem isFn_eq {v : Value} (h : isFn v = true) : Value.func (.func (vFk v)) (vFx v) (vFy v) = v := by
  unfold isFn at h
  split at h
  · rfl
  · cases h

def vAgL : Value → List Value | .agg cs => cs.toList | _ => []
def isAg : Value → Bool | .agg _ => true | _ => false
theorem isAg_eq {v : Value} (h : isAg v = true) : Value.agg ⟨vAgL v⟩ = v := by cases v <;> simp [isAg] at h; rfl

/-- A value, built again by its kind. -/
def rb : C1 → Value → Value
  | .int k, v => .int k (vI v)
  | .bool, v => .bool (vB v)
  | .str, v => .string (vS v)
  | .ptr, v => .pointer (vP v)
  | .slice, v => .slice (vLa v) (vLn v) (vLc v)
  | .map, v => .map (vM v)
  | .func, v => .func (.func (vFk v)) (vFx v) (vFy v)
  | .any, v => v

def isK : C1 → Value → Bool
  | .int k, v => isI k v
  | .bool, v => isB v
  | .str, v => isS v
  | .ptr, v => isP v
  | .slice, v => isL v
  | .map, v => isM v
  | .func, v => isFn v
  | .any, _ => true

theorem isK_eq {c : C1} {v : Value} (h : isK c v = true) : rb c v = v := by
  cases c with
  | int k => exact isI_eq h
  | bool => exact isB_eq h
  | str => exact isS_eq h
  | ptr => exact isP_eq h
  | slice => exact isL_eq h
  | map => exact isM_eq h
  | func => exact isFn_eq h
  | any => rfl

def nthV (l : List Value) (i : Nat) : Value := l.getD i unk

def rbL : List C1 → Nat → List Value → List Value
  | [], _, _ => []
  | c :: r, i, l => rb c (nthV l i) :: rbL r (i + 1) l

def isKL : List C1 → List Value → Bool
  | [], [] => true
  | c :: r, v :: l => isK c v && isKL r l
  | _, _ => false

theorem rbL_cons (c : List C1) (v : Value) (l : List Value) : ∀ i, rbL c (i + 1) (v :: l) = rbL c i l := by
  induction c with
  | nil => intro i; rfl
  | cons x r ih => intro i; simp only [rbL]; rw [ih]; rfl

theorem isKL_eq : ∀ {c : List C1} {l : List Value}, isKL c l = true → rbL c 0 l = l
  | [], [], _ => rfl
  | [], _ :: _, h => by cases h
  | _ :: _, [], h => by cases h
  | c :: r, v :: l, h => by
    simp only [isKL, Bool.and_eq_true] at h
    simp only [rbL]
    rw [rbL_cons, isKL_eq h.2]
    rw [show nthV (v :: l) 0 = v from rfl, isK_eq h.1]

def isAgK (c : List C1) (v : Value) : Bool := isAg v && isKL c (vAgL v)
theorem isAgK_eq {c : List C1} {v : Value} (h : isAgK c v = true) : Value.agg ⟨rbL c 0 (vAgL v)⟩ = v := by
  unfold isAgK at h
  rw [isKL_eq (and_r h)]
  exact isAg_eq (and_l h)

/-- A closure over so many variables of the call's own. -/
def rbB : Nat → Nat → List Value → List Value
  | 0, _, _ => []
  | n + 1, i, l => .pointer (some ⟨vBk (nthV l i), 0, none⟩) :: rbB n (i + 1) l
def isBL : Nat → List Value → Bool
  | 0, [] => true
  | n + 1, v :: l => isBk v && isBL n l
  | _, _ => false
theorem rbB_cons (v : Value) (l : List Value) : ∀ n i, rbB n (i + 1) (v :: l) = rbB n i l
  | 0, _ => rfl
  | n + 1, i => by simp only [rbB]; rw [rbB_cons v l n]; rfl
theorem isBL_eq : ∀ {n : Nat} {l : List Value}, isBL n l = true → rbB n 0 l = l
  | 0, [], _ => rfl
  | 0, _ :: _, h => by cases h
  | _ + 1, [], h => by cases h
  | n + 1, v :: l, h => by
    simp only [isBL, Bool.and_eq_true] at h
    simp only [rbB]
    rw [rbB_cons, isBL_eq h.2]
    rw [show nthV (v :: l) 0 = v from rfl, isBk_eq h.1]

def isCl (k : FuncId) (n : Nat) : Value → Bool
  | .func (.func k') ⟨[]⟩ ⟨l⟩ => Nat.beq k' k && isBL n l
  | _ => false
def vCl : Value → List Value | .func _ _ y => y.toList | _ => []
theorem isCl_eq {k : FuncId} {n : Nat} {v : Value} (h : isCl k n v = true) : Value.func (.func k) ⟨[]⟩ ⟨rbB n 0 (vCl v)⟩ = v := by
  unfold isCl at h
  split at h
  · rename_i k' l
    have h1 := Nat.eq_of_beq_eq_true (and_l h)
    subst h1
    show Value.func (.func k') ⟨[]⟩ ⟨rbB n 0 l⟩ = _
    rw [isBL_eq (and_r h)]
  · cases h

end Go.Den
