/- Ev4: operations that do not look at the heap. Own work; a part of the proof of a claim. Conditions: none beyond those that stand in each theorem. -/
import Derived.Test.YteganidclpobeaaGreatEv3b
/- Ev4: operations that do not look at the heap. -/
set_option linter.unusedSimpArgs false
set_option linter.unusedVariables false
namespace Go.Den
open Go

theorem simple_bind {α β : Type} {P : Program} (s : Sem α) (f : α → Sem β) : simple P (s >>= f) = (simple P s).bind fun a => simple P (f a) := by
  show simple P (Sem.bind s f) = _
  induction s with
  | pure x => simp [Sem.bind, simple]
  | program k ih => simp only [Sem.bind, simple]; exact ih P
  | mark m k ih => simp only [Sem.bind, simple]; exact ih
  | _ => simp [Sem.bind, simple]

structure ER (P : Program) (σ : Sg) (le : LE) (e : Env) : Prop where
  wf : wfT le.d le.t
  sz : le.n ≤ 2 ^ le.d
  val : ∀ t, lget le t = .un ∨ VR P σ (lget le t) (get e t)

section
variable {P : Program} {σ σ' : Sg} {le : LE} {e : Env} {o : Oper} {Kp : Value → Prop}

theorem ER.mono (h : ER P σ le e) (hx : Ext σ σ') : ER P σ' le e := ⟨h.wf, h.sz, fun t => (h.val t).imp id (VR.mono hx)⟩

theorem blt_true {a b : Nat} (h : a < b) : Nat.blt a b = true := by simpa [Nat.blt_eq] using h
theorem blt_false {a b : Nat} (h : ¬ a < b) : Nat.blt a b = false := by rw [Bool.eq_false_iff]; simpa [Nat.blt_eq] using h

theorem lget_lput (hw : wfT le.d le.t) (hs : le.n ≤ 2 ^ le.d) {t u : Nat} {v : LV} : lget (lput le (some t) v) u = if t = u ∧ t < le.n then v else lget le u := by
  simp only [lput]
  by_cases ht : t < le.n
  · rw [blt_true ht, cond_true]
    unfold lget
    simp only
    by_cases hu : u < le.n
    · rw [blt_true hu, cond_true, cond_true, tget_tset _ _ _ _ _ hw, Nat.mod_eq_of_lt (show t < 2 ^ le.d by omega), Nat.mod_eq_of_lt (show u < 2 ^ le.d by omega)]
      by_cases h : t = u
      · simp [h, hu]
      · simp [h]
    · rw [blt_false hu, cond_false, cond_false, if_neg (by omega)]
  · rw [blt_false ht, cond_false, if_neg (by omega)]

theorem ER.put (h : ER P σ le e) {d : Option Nat} {v : LV} {v' : Value} (hv : VR P σ v v') : ER P σ (lput le d v) (putE e d v') := by
  cases d with
  | none => exact h
  | some t =>
    refine ⟨?_, ?_, fun u => ?_⟩
    · simp only [lput]
      cases Nat.blt t le.n with
      | true => exact wf_tset _ _ _ _ h.wf
      | false => exact h.wf
    · simp only [lput]
      cases Nat.blt t le.n with
      | true => exact h.sz
      | false => exact h.sz
    · rw [lget_lput h.wf h.sz]
      simp only [putE, get_cons]
      by_cases hu : t = u
      · subst hu
        by_cases ht : t < le.n
        · simp only [ht, and_self, if_true]; exact .inr hv
        · left; rw [if_neg (by omega)]; unfold lget; rw [blt_false ht]; rfl
      · rw [if_neg (fun h => hu h.1), if_neg hu]; exact h.val u

theorem All2_sc : ∀ {l : List Value}, l.all scalar = true → All2 (VR1 σ) (l.map .sc) l
  | [], _ => trivial
  | x :: l, h => by
    simp only [List.all_cons, Bool.and_eq_true] at h
    exact ⟨⟨rfl, h.1⟩, All2_sc h.2⟩

theorem VR_ofV {v : Value} (h : isKn (ofV v) = true) : VR P σ (ofV v) v := by
  cases v with
  | agg cs =>
    simp only [ofV] at h ⊢
    cases hs : cs.toList.all scalar with
    | true => rw [cond_true]; exact ⟨cs.toList, All2_sc hs, by simp⟩
    | false => rw [hs] at h; simp [isKn] at h
  | tuple cs =>
    simp only [ofV] at h ⊢
    cases hs : cs.toList.all scalar with
    | true => rw [cond_true]; exact ⟨cs.toList, (All2_sc hs).imp fun a b h => VR2.of1 h, by simp⟩
    | false => rw [hs] at h; simp [isKn] at h
  | bool b => exact ⟨rfl, rfl⟩
  | int k n => exact ⟨rfl, rfl⟩
  | string s => exact ⟨rfl, rfl⟩
  | nilFunc => exact ⟨rfl, rfl⟩
  | nilIface => exact ⟨rfl, rfl⟩
  | pointer a => cases a with
    | none => exact ⟨rfl, rfl⟩
    | some a => simp [ofV, scalar, isKn] at h
  | slice a n c => cases a with
    | none => exact ⟨rfl, rfl⟩
    | some a => simp [ofV, scalar, isKn] at h
  | map r => cases r with
    | none => exact ⟨rfl, rfl⟩
    | some a => simp [ofV, scalar, isKn] at h
  | _ => simp [ofV, scalar, isKn] at h

theorem VR.isKn {v : LV} {v' : Value} (h : VR P σ v v') : isKn v = true := by
  cases v <;> first | rfl | exact h.elim

theorem ER.lev (h : ER P σ le e) (x : Operand) (hk : isKn (lev le x) = true) : VR P σ (Go.Den.lev le x) (ev e x) := by
  cases x with
  | tmp t =>
    rcases h.val t with h1 | h1
    · simp only [Go.Den.lev] at hk; rw [h1] at hk; simp [Go.Den.isKn] at hk
    · exact h1
  | const v => exact VR_ofV hk
  | global g => simp [Go.Den.lev, Go.Den.isKn] at hk
  | func f => exact ⟨[], [], trivial, trivial, rfl⟩

theorem ER.allKn (h : ER P σ le e) {l : List Operand} (hk : allKnL le l = true) : Go.Den.allKn e l = true := by
  rw [Go.Den.allKn, List.all_eq_true]
  intro x hx
  exact (h.lev x (List.all_eq_true.1 hk x hx)).kn

theorem ER.sc (h : ER P σ le e) {x : Operand} {v : Value} (hx : Go.Den.lev le x = .sc v) : ev e x = v ∧ scalar v = true := by
  have := h.lev x (by rw [hx]; rfl)
  rw [hx] at this
  exact ⟨this.1, this.2⟩

theorem ER.rho (h : ER P σ le e) {x : Operand} (hx : isSc (Go.Den.lev le x) = true) : rhoS le x = ev e x := by
  unfold rhoS
  cases hl : Go.Den.lev le x <;> rw [hl] at hx <;> simp [isSc] at hx
  rename_i v
  exact (h.sc hl).1.symm

theorem ER.simpV (h : ER P σ le e) (hsel : ∀ cs b, o.op ≠ .select cs b) (hk : allScL le (opnds o.op) = true) : Go.Den.simpV P (rhoS le) o = Go.Den.simpV P (ev e) o := by
  unfold Go.Den.simpV
  rw [execOp_congr o hsel fun x hx => h.rho (List.all_eq_true.1 hk x (opnds_spec hsel hx))]

theorem simpV_D {ρ : Operand → Value} {v : Value} (h : Go.Den.simpV P ρ o = some v) (hk : Kp v) : simpleD P ρ o Kp := by
  unfold Go.Den.simpV at h
  unfold simpleD
  split at h
  · rename_i v' hs
    rw [hs]
    simp only [Option.some.injEq] at h
    subst h; exact hk
  · simp at h

theorem someSc_out {u : Option Value} {v : LV} (h : someSc u = some v) : ∃ v', u = some v' ∧ scalar v' = true ∧ v = .sc v' := by
  unfold someSc at h
  cases u with
  | none => simp at h
  | some u =>
    simp only at h
    cases hs : scalar u with
    | true => rw [hs] at h; simp only [cond_true, Option.some.injEq] at h; exact ⟨u, rfl, hs, h.symm⟩
    | false => rw [hs] at h; simp at h

theorem eqV_D {ρ : Operand → Value} {neq : Bool} {t : TypeId} {x y : Value} {v : Value} (h : eqV P ρ o neq t x y = some v) (hk : Kp v) : eqD P ρ o neq t x y Kp := by
  unfold eqV at h
  unfold eqD
  split at h
  · rename_i hu; simp only [Option.some.injEq] at h; subst h; rw [hu]; exact hk
  · rename_i hu; simp only [Option.some.injEq] at h; subst h; rw [hu]; exact hk
  · rename_i hu; simp only [Option.some.injEq] at h; subst h; rw [hu]; exact hk
  · simp at h
  · rename_i h1 h2 h3 h4
    have := simpV_D h hk
    unfold simpleD at this
    split
    · exact (h1 _ _ (by assumption) rfl rfl).elim
    · exact (h2 _ _ _ _ _ _ (by assumption) rfl rfl).elim
    · exact (h3 _ _ _ (by assumption) rfl rfl).elim
    · exact (h4 _ _ _ (by assumption) rfl rfl).elim
    · exact this

theorem binV_D {ρ : Operand → Value} {op : BinOp} {t : TypeId} {x y : Operand} {v : Value} (h : binV P ρ o op t x y = some v) (hk : Kp v) : binD P ρ o op t x y Kp := by
  have sh : ∀ op' k a b, shV op' k a b = some v → shD op' k a b Kp := by
    intro op' k a b h
    unfold shV at h
    by_cases h0 : 0 ≤ b
    · simp only [h0, decide_true, cond_true] at h
      refine ⟨h0, ?_⟩
      cases op' <;> simp only [Option.some.injEq] at h <;> subst h <;> exact hk
    · simp only [h0, decide_false, cond_false] at h; simp at h
  have dv : ∀ op' k a b, divV op' k a b = some v → divD op' k a b Kp := by
    intro op' k a b h
    unfold divV at h
    by_cases h0 : b ≠ 0
    · rw [show decide (b ≠ 0) = true from decide_eq_true h0, cond_true] at h
      refine ⟨h0, ?_⟩
      cases op' <;> simp only [Option.some.injEq] at h <;> subst h <;> exact hk
    · rw [show decide (b ≠ 0) = false from decide_eq_false h0, cond_false] at h; simp at h
  cases op <;> unfold binV at h <;> unfold binD <;> dsimp only at h ⊢
  all_goals first
    | exact eqV_D h hk
    | exact simpV_D h hk
    | (cases hc : isC y with
       | true => rw [hc, cond_true] at h; rw [cond_true]; exact simpV_D h hk
       | false =>
         rw [hc, cond_false] at h; rw [cond_false]
         split at h
         · first
           | (rename_i h1 h2; simp only [h1, h2]; exact sh _ _ _ _ h)
           | (rename_i k a k' b h1 h2
              simp only [h1, h2]
              by_cases hkk : k = k'
              · simp only [hkk, decide_true, cond_true] at h ⊢; exact dv _ _ _ _ h
              · simp only [hkk, decide_false, cond_false] at h; simp at h)
         · simp at h)

/-! ### whole numbers -/
theorem wrapF_eq (k : IntKind) (n : Int) : wrapF k n = k.wrap n := by
  cases n with
  | ofNat m =>
    simp only [wrapF]
    cases hb : Nat.blt m (hiOf k) with
    | false => rfl
    | true =>
      have hlt : m < hiOf k := by simpa [Nat.blt_eq] using hb
      rw [cond_true]
      unfold IntKind.wrap
      have h2 : (Int.ofNat m) % (2 ^ k.bits : Int) = Int.ofNat m := by
        apply Int.emod_eq_of_lt (Int.natCast_nonneg m)
        have : (hiOf k : Int) ≤ 2 ^ k.bits := by cases k <;> decide
        have : (m : Int) < hiOf k := by exact_mod_cast hlt
        show (m : Int) < _
        omega
      simp only [h2]
      have h3 : ¬ (Int.ofNat m ≥ (2 ^ (k.bits - 1) : Int)) := by
        have : (hiOf k : Int) = 2 ^ (k.bits - 1) := by cases k <;> decide
        have : (m : Int) < hiOf k := by exact_mod_cast hlt
        show ¬ ((m : Int) ≥ _)
        omega
      simp
      intro _ h4
      exact absurd h4 h3
  | negSucc m => rfl

theorem sameK_eq {k k' : IntKind} (h : sameK k k' = true) : k = k' := by cases k <;> cases k' <;> first | rfl | simp [sameK] at h

theorem intV_simp {ρ : Operand → Value} {op : BinOp} {t yt : TypeId} {x y : Operand} {k : IntKind} {a b : Int} {v : Value} (ho : o.op = .binOp op t x y yt) (hx : ρ x = .int k a) (hy : ρ y = .int k b)
    (h : intV op k a b = some v) : Go.Den.simpV P ρ o = some v := by
  cases op <;> simp only [intV, Option.some.injEq, reduceCtorEq] at h <;> subst h <;>
    simp [Go.Den.simpV, execOp, ho, hx, hy, eqGuard, binOp, Op.intArith, Op.intCmp, wrapF_eq, simple, simple_bind, Sem.bind, pure]

end
end Go.Den
