/- Ev2: what a run's values and heap stand for. Own work; a part of the proof of a claim. Conditions: none beyond those that stand in each theorem. -/
import Derived.Test.YteganidclpobeaaGreatEv1
/- Ev2: what a run's values and heap stand for. -/
set_option linter.unusedSimpArgs false
set_option linter.unusedVariables false
namespace Go.Den
open Go

section tries
variable {α : Type}

theorem tget_zero_leaf (a : α) (n : Nat) : tget 0 (.leaf a) n = some a := rfl
theorem tget_nil (d n : Nat) : tget d (.nil : Tr α) n = none := by cases d <;> rfl
theorem tget_node (d : Nat) (l r : Tr α) (n : Nat) : tget (d + 1) (.node l r) n = if n % 2 = 0 then tget d l (n / 2) else tget d r (n / 2) := by
  show tgetP (pathOf d (n / 2)) (Bool.casesOn (motive := fun _ => Tr α) (Nat.beq (n % 2) 0) r l) = _
  by_cases h : n % 2 = 0
  · rw [if_pos h, show Nat.beq (n % 2) 0 = true from Nat.beq_eq ▸ (by simpa using h)]; rfl
  · rw [if_neg h]
    have : Nat.beq (n % 2) 0 = false := by rw [Bool.eq_false_iff]; intro hb; exact h (Nat.eq_of_beq_eq_true hb)
    rw [this]; rfl
theorem tget_leaf_succ (d : Nat) (a : α) (n : Nat) : tget (d + 1) (.leaf a) n = none := rfl
theorem tget_zero_node (l r : Tr α) (n : Nat) : tget 0 (.node l r) n = none := rfl

theorem tset_zero (t : Tr α) (n : Nat) (a : α) : tset 0 t n a = .leaf a := rfl
theorem tset_node (d : Nat) (l r : Tr α) (n : Nat) (a : α) : tset (d + 1) (.node l r) n a = if n % 2 = 0 then .node (tset d l (n / 2) a) r else .node l (tset d r (n / 2) a) := by
  show Bool.casesOn (motive := fun _ => Tr α) (Nat.beq (n % 2) 0) (Tr.node l (tset d r (n / 2) a)) (Tr.node (tset d l (n / 2) a) r) = _
  by_cases h : n % 2 = 0
  · rw [if_pos h, show Nat.beq (n % 2) 0 = true from Nat.beq_eq ▸ (by simpa using h)]
  · rw [if_neg h]
    have : Nat.beq (n % 2) 0 = false := by rw [Bool.eq_false_iff]; intro hb; exact h (Nat.eq_of_beq_eq_true hb)
    rw [this]
theorem tset_nil (d : Nat) (n : Nat) (a : α) : tset (d + 1) .nil n a = if n % 2 = 0 then .node (tset d .nil (n / 2) a) .nil else .node .nil (tset d .nil (n / 2) a) := by
  show Bool.casesOn (motive := fun _ => Tr α) (Nat.beq (n % 2) 0) (Tr.node .nil (tset d .nil (n / 2) a)) (Tr.node (tset d .nil (n / 2) a) .nil) = _
  by_cases h : n % 2 = 0
  · rw [if_pos h, show Nat.beq (n % 2) 0 = true from Nat.beq_eq ▸ (by simpa using h)]
  · rw [if_neg h]
    have : Nat.beq (n % 2) 0 = false := by rw [Bool.eq_false_iff]; intro hb; exact h (Nat.eq_of_beq_eq_true hb)
    rw [this]

theorem mod_pow_succ {d n m : Nat} (h : n % 2 ^ (d + 1) = m % 2 ^ (d + 1)) : n % 2 = m % 2 ∧ n / 2 % 2 ^ d = m / 2 % 2 ^ d := by
  rw [Nat.pow_succ, Nat.mul_comm] at h
  constructor
  · have := congrArg (· % 2) h
    simpa [Nat.mod_mul_right_mod] using this
  · have := congrArg (· / 2) h
    simpa [Nat.mod_mul_right_div_self] using this

theorem mod_pow_succ' {d n m : Nat} (h1 : n % 2 = m % 2) (h2 : n / 2 % 2 ^ d = m / 2 % 2 ^ d) : n % 2 ^ (d + 1) = m % 2 ^ (d + 1) := by
  rw [Nat.pow_succ, Nat.mul_comm, Nat.mod_mul, Nat.mod_mul, h1, h2]

/-- A trie in which each place may be read: no leaf stands where a node should. -/
def wfT : Nat → Tr α → Prop
  | 0, .nil => True
  | 0, .leaf _ => True
  | 0, .node _ _ => False
  | _ + 1, .nil => True
  | _ + 1, .leaf _ => False
  | d + 1, .node l r => wfT d l ∧ wfT d r

theorem wf_nil0 (d : Nat) : wfT d (.nil : Tr α) := by cases d <;> trivial

theorem tget_tset (d : Nat) : ∀ (t : Tr α) (n m : Nat) (a : α), wfT d t → tget d (tset d t n a) m = if n % 2 ^ d = m % 2 ^ d then some a else tget d t m := by
  induction d with
  | zero => intro t n m a _; rw [tset_zero, tget_zero_leaf, if_pos (by simp [Nat.mod_one])]
  | succ d ih =>
    intro t n m a hw
    have key : ∀ l r : Tr α, wfT d l → wfT d r → tget (d + 1) (if n % 2 = 0 then Tr.node (tset d l (n / 2) a) r else Tr.node l (tset d r (n / 2) a)) m =
        if n % 2 ^ (d + 1) = m % 2 ^ (d + 1) then some a else (if m % 2 = 0 then tget d l (m / 2) else tget d r (m / 2)) := by
      intro l r hl hr
      by_cases hn : n % 2 = 0
      · rw [if_pos hn, tget_node]
        by_cases hm : m % 2 = 0
        · rw [if_pos hm, if_pos hm, ih _ _ _ _ hl]
          by_cases he : n / 2 % 2 ^ d = m / 2 % 2 ^ d
          · rw [if_pos he, if_pos (mod_pow_succ' (hn.trans hm.symm) he)]
          · rw [if_neg he, if_neg (fun h => he (mod_pow_succ h).2)]
        · rw [if_neg hm, if_neg hm, if_neg (fun h => hm ((mod_pow_succ h).1.symm.trans hn))]
      · rw [if_neg hn, tget_node]
        by_cases hm : m % 2 = 0
        · rw [if_pos hm, if_pos hm, if_neg (fun h => hn ((mod_pow_succ h).1.trans hm))]
        · rw [if_neg hm, if_neg hm, ih _ _ _ _ hr]
          by_cases he : n / 2 % 2 ^ d = m / 2 % 2 ^ d
          · rw [if_pos he, if_pos (mod_pow_succ' (by omega) he)]
          · rw [if_neg he, if_neg (fun h => he (mod_pow_succ h).2)]
    cases t with
    | nil =>
      rw [tset_nil, key .nil .nil (wf_nil0 d) (wf_nil0 d)]; simp only [tget_nil, ite_self]
    | leaf b => exact hw.elim
    | node l r => rw [tset_node, key l r hw.1 hw.2, tget_node]

theorem wf_nil (d : Nat) : wfT d (.nil : Tr α) := by cases d <;> trivial

theorem wf_tset (d : Nat) : ∀ (t : Tr α) (n : Nat) (a : α), wfT d t → wfT d (tset d t n a) := by
  induction d with
  | zero => intro t n a _; exact trivial
  | succ d ih =>
    intro t n a hw
    cases t with
    | nil =>
      rw [tset_nil]
      split
      · exact ⟨ih _ _ _ (wf_nil d), wf_nil d⟩
      · exact ⟨wf_nil d, ih _ _ _ (wf_nil d)⟩
    | leaf b => exact hw.elim
    | node l r =>
      rw [tset_node]
      split
      · exact ⟨ih _ _ _ hw.1, hw.2⟩
      · exact ⟨hw.1, ih _ _ _ hw.2⟩

theorem lt_dep (n : Nat) : n < 2 ^ dep n := Nat.lt_log2_self

theorem tget_tset_dep {t : Tr α} {s n m : Nat} {a : α} (hw : wfT (dep s) t) (hn : n < s) (hm : m < s) : tget (dep s) (tset (dep s) t n a) m = if n = m then some a else tget (dep s) t m := by
  have := lt_dep s
  rw [tget_tset _ _ _ _ _ hw, Nat.mod_eq_of_lt (by omega), Nat.mod_eq_of_lt (by omega)]

theorem trOf_wf (d : Nat) : ∀ (l : List α) (i : Nat) (t : Tr α), wfT d t → wfT d (trOf d i l t)
  | [], i, t, h => h
  | v :: r, i, t, h => trOf_wf d r (i + 1) _ (wf_tset d t i v h)

theorem trOf_get (d : Nat) : ∀ (l : List α) (i : Nat) (t : Tr α) (m : Nat), wfT d t → i + l.length ≤ 2 ^ d → m < 2 ^ d →
    tget d (trOf d i l t) m = if i ≤ m ∧ m < i + l.length then l[m - i]? else tget d t m
  | [], i, t, m, h, hl, hm => by
    rw [if_neg (by simp only [List.length_nil]; omega)]; rfl
  | v :: r, i, t, m, h, hl, hm => by
    show tget d (trOf d (i + 1) r (tset d t i v)) m = _
    simp only [List.length_cons] at hl
    rw [trOf_get d r (i + 1) _ m (wf_tset d t i v h) (by omega) hm, tget_tset _ _ _ _ _ h, Nat.mod_eq_of_lt (show i < 2 ^ d by omega), Nat.mod_eq_of_lt hm]
    by_cases h1 : i + 1 ≤ m ∧ m < i + 1 + r.length
    · rw [if_pos h1, if_pos (by simp only [List.length_cons]; omega), show m - i = (m - (i + 1)) + 1 by omega]; simp
    · rw [if_neg h1]
      by_cases h2 : i = m
      · subst h2; rw [if_pos rfl, if_pos (by simp)]; simp
      · rw [if_neg h2, if_neg (by simp only [List.length_cons]; omega)]

end tries
end Go.Den
