/- Ev6: values that are built, and taken apart. Own work; a part of the proof of a claim. Conditions: none beyond those that stand in each theorem. -/
import Derived.Test.YteganidclpobeaaGreatEv5
/- Ev6: values that are built, and taken apart. -/
set_option linter.unusedSimpArgs false
set_option linter.unusedVariables false
namespace Go.Den
open Go
section
variable {P : Program} {σ σ' : Sg} {le : LE} {e : Env} {o : Oper} {Kp : Value → Prop}

theorem simple_underlying {t : TypeId} {d : TypeDesc} (h : P.underlying t = some d) : simple P (underlying t) = some d := by
  simp [underlying, simple, simple_bind, Sem.bind, program, pure, h, Program.underlying] at *
  simp [underlying, simple, simple_bind, Sem.bind, program, pure, h]

theorem simple_info {t : TypeId} {i : TypeInfo} (h : P.info? t = some i) : simple P (typeInfo t) = some i := by
  simp [typeInfo, simple, simple_bind, Sem.bind, program, pure, h]

theorem simple_pure {α : Type} (a : α) : simple P (pure a : Sem α) = some a := rfl

theorem simple_map {α β : Type} {f : α → β} {s : Sem α} : simple P (f <$> s) = (simple P s).map f := by
  rw [map_eq_pure_bind, simple_bind]
  cases simple P s <;> rfl

theorem simple_sizeOf {t : TypeId} (h : (P.info? t).isSome = true) : simple P (sizeOf t) = some (P.cellsOf t) := by
  obtain ⟨i, hi, hs, _⟩ := info_of h
  simp [sizeOf, simple_bind, simple_map, simple_info hi, simple_pure, hs]

theorem simple_zero {t : TypeId} {z : Array Value} (h : zc P t = some z) : ∃ v, simple P (zeroValue t) = some v ∧ v.cells = z := by
  obtain ⟨i, v, hi, hz, hc⟩ := zc_of h
  refine ⟨v, ?_, hc⟩
  simp [zeroValue, simple_bind, simple_info hi, simple_pure, hz]

theorem simple_isAgg {t : TypeId} (h : (P.underlying t).isSome = true) : simple P (isAgg t) = some (isAggT P t) := by
  obtain ⟨d, hd⟩ := Option.isSome_iff_exists.1 h
  simp only [isAgg, simple_bind, simple_underlying hd, Option.bind_some, isAggT, hd]
  cases d <;> rfl

theorem simple_part {t : TypeId} {cs : Array Value} {off : Nat} (hi : (P.info? t).isSome = true) (hu : (P.underlying t).isSome = true) :
    simple P (part t cs off) = if isAggT P t then some (.agg (cs.extract off (off + P.cellsOf t))) else cs[off]? := by
  simp only [part, simple_bind, simple_isAgg hu, Option.bind_some]
  cases isAggT P t with
  | true => simp [simple_bind, simple_map, simple_sizeOf hi, simple_pure]
  | false =>
    simp only [Bool.false_eq_true, if_false]
    cases cs[off]? <;> rfl

theorem moveL_D {x : Operand} (ho : o.op = .move x ∨ o.op = .assign x) (hk : Kp (ev e x)) : simpleD P (ev e) o Kp := by
  rcases ho with ho | ho <;> simp [simpleD, execOp, ho, simple, pure] <;> exact hk

theorem extractL_D {x : Operand} {i : Nat} {l : List LV} {v : LV} (hr : ER P σ le e) (ho : o.op = .extract x i) (hx : lev le x = .tup l) (h : l[i]? = some v) (hk : ∀ v', VR P σ v v' → Kp v') :
    simpleD P (ev e) o Kp := by
  have h1 := hr.lev x (by rw [hx]; rfl); rw [hx] at h1
  obtain ⟨l', ha, hv⟩ := h1
  obtain ⟨v', hv', hvr⟩ := ha.get h
  have : simple P (execOp (ev e) o) = some (.value v') := by
    simp [execOp, ho, hv, Instr.extract, hv', simple_bind, simple_pure]
  unfold simpleD; rw [this]
  exact hk _ (VR.of2 hvr)

theorem fieldL_D {s : TypeId} {x : Operand} {f : Nat} {v : LV} (hr : ER P σ le e) (ho : o.op = .field s x f) (h : fieldL P s (lev le x) f = some v) (hk : ∀ v', VR P σ v v' → Kp v') :
    simpleD P (ev e) o Kp := by
  unfold fieldL at h
  split at h
  · rename_i fs l hu hx
    have h1 := hr.lev x (by rw [hx]; rfl); rw [hx] at h1
    obtain ⟨l', ha, hv⟩ := h1
    split at h
    · rename_i fd hf
      obtain ⟨hb, h⟩ := bif_some (x := v) h
      simp only [Bool.and_eq_true] at hb
      have hp := simple_part (P := P) (cs := ⟨l'⟩) (off := fd.offset) hb.1 hb.2
      cases hag : isAggT P fd.type with
      | true =>
        rw [hag, cond_true] at h
        rw [hag] at hp
        simp only [Option.some.injEq] at h; subst h
        have : simple P (execOp (ev e) o) = some (.value (.agg ((⟨l'⟩ : Array Value).extract fd.offset (fd.offset + P.cellsOf fd.type)))) := by
          simp only [if_true] at hp
          simp [execOp, ho, hv, Instr.field, simple_bind, simple_map, simple_underlying hu, hf, asAgg, simple_pure, hp]
        unfold simpleD; rw [this]
        refine hk _ ⟨_, (ha.drop fd.offset).take (P.cellsOf fd.type), ?_⟩
        congr 1
        apply Array.ext'
        simp
      | false =>
        rw [hag, cond_false] at h
        rw [hag] at hp
        obtain ⟨v', hv', hvr⟩ := ha.get h
        have : simple P (execOp (ev e) o) = some (.value v') := by
          simp only [Bool.false_eq_true, if_false] at hp
          simp [execOp, ho, hv, Instr.field, simple_bind, simple_map, simple_underlying hu, hf, asAgg, simple_pure, hp, hv']
        unfold simpleD; rw [this]
        exact hk _ (VR.of1 hvr)
    · simp at h
  · simp at h

theorem All2_lev (hr : ER P σ le e) : ∀ {l : List Operand}, (l.map (lev le)).all one0 = true → All2 (VR0 σ) (l.map (lev le)) (l.map (ev e))
  | [], _ => trivial
  | x :: l, h => by
    simp only [List.map_cons, List.all_cons, Bool.and_eq_true] at h
    refine ⟨?_, All2_lev hr h.2⟩
    have h1 := h.1
    have hk : isKn (lev le x) = true := by cases hl : lev le x <;> rw [hl] at h1 <;> first | rfl | simp [one0] at h1
    have := hr.lev x hk
    cases hl : lev le x <;> rw [hl] at h1 this <;> first | exact this | simp [one0] at h1

theorem makeFuncL_D {k : FuncId} {a b : Array Operand} (hr : ER P σ le e) (ho : o.op = .makeFunc (.func k) a b) (ha : (a.toList.map (lev le)).all one0 = true) (hb : (b.toList.map (lev le)).all one0 = true)
    (hk : ∀ v', VR P σ (.fn k (a.toList.map (lev le)) (b.toList.map (lev le))) v' → Kp v') : simpleD P (ev e) o Kp := by
  have : simple P (execOp (ev e) o) = some (.value (.func (.func k) (a.map (ev e)) (b.map (ev e)))) := by
    simp [execOp, ho, Instr.makeFunc, simple_bind, simple_pure]
  unfold simpleD; rw [this]
  refine hk _ ⟨a.toList.map (ev e), b.toList.map (ev e), All2_lev hr ha, All2_lev hr hb, ?_⟩
  congr 1 <;> (apply Array.ext'; simp)

end
end Go.Den
