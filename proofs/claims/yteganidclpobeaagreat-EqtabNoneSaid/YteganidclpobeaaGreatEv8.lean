/- Ev8: all operations that do not look at the heap. Own work; a part of the proof of a claim. Conditions: none beyond those that stand in each theorem. -/
import Derived.Test.YteganidclpobeaaGreatEv7
/- Ev8: all operations that do not look at the heap. -/
set_option linter.unusedSimpArgs false
set_option linter.unusedVariables false
namespace Go.Den
open Go
section
variable {P : Program} {σ σ' : Sg} {le : LE} {e : Env} {o : Oper} {Kp : Value → Prop}

theorem pureL_D {v : LV} (hr : ER P σ le e) (hkn : allKnL le (opnds o.op) = true) (h : pureL P le o = some v) (hk : ∀ v', VR P σ v v' → Kp v') : pureD P (ev e) o Kp := by
  have hsc1 : ∀ {x : Operand} {v : LV} (hsel : ∀ cs b, o.op ≠ .select cs b), allScL le (opnds o.op) = true → someSc (simpV P (rhoS le) o) = some v → (∀ v', VR P σ v v' → Kp v') → simpleD P (ev e) o Kp := by
    intro x v hsel hs h hk
    obtain ⟨v', h1, h2, rfl⟩ := someSc_out h
    rw [hr.simpV hsel hs] at h1
    exact simpV_D h1 (hk _ ⟨rfl, h2⟩)
  cases ho : o.op with
  | nilCheck x =>
    simp only [pureL, ho] at h
    simp only [pureD, ho]
    split at h
    · rename_i b of hx
      simp only [Option.some.injEq] at h; subst h
      have h1 := hr.lev x (by rw [hx]; rfl); rw [hx] at h1
      obtain ⟨r, hs, hv⟩ := h1
      rw [hv]; exact hk _ ⟨r, hs, rfl⟩
    · rename_i k a b hx
      simp only [Option.some.injEq] at h; subst h
      have h1 := hr.lev x (by rw [hx]; rfl); rw [hx] at h1
      obtain ⟨fs', cs', h2, h3, hv⟩ := h1
      rw [hv]; exact hk _ ⟨fs', cs', h2, h3, rfl⟩
    · simp at h
  | fieldAddr s x f =>
    simp only [pureL, ho] at h
    simp only [pureD, ho]
    split at h
    · rename_i b of off hx hf
      simp only [Option.some.injEq] at h; subst h
      have h1 := hr.lev x (by rw [hx]; rfl); rw [hx] at h1
      obtain ⟨r, hs, hv⟩ := h1
      rw [hv, hf]
      exact hk _ ⟨r, hs, by rw [add_mk]⟩
    · simp at h
  | indexAddr t x i =>
    simp only [pureL, ho] at h
    simp only [pureD, ho]
    exact ixaL_D hr h hk
  | index t x i =>
    simp only [pureL, ho] at h
    simp only [pureD, ho]
    exact ixL_D hr h hk
  | binOp op t x y yt =>
    simp only [pureL, ho] at h
    simp only [pureD, ho]
    have sc : isSc (lev le x) = true → isSc (lev le y) = true → someSc (binV P (rhoS le) o op t x y) = some v → binD P (ev e) o op t x y Kp := by
      intro hx hy h
      obtain ⟨v', h1, h2, rfl⟩ := someSc_out h
      have e1 : binV P (rhoS le) o op t x y = binV P (ev e) o op t x y := by
        have hs : simpV P (rhoS le) o = simpV P (ev e) o := hr.simpV (by rw [ho]; intro _ _; simp) (by rw [ho]; simp [opnds, allScL, hx, hy])
        cases op <;> simp only [binV, eqV, hr.rho hx, hr.rho hy, hs]
      rw [e1] at h1
      exact binV_D h1 (hk _ ⟨rfl, h2⟩)
    split at h
    · rename_i k a k' b hx hy
      split at h
      · rename_i u hu
        simp only [Option.some.injEq] at h; subst h
        cases hs : sameK k k' with
        | false => rw [hs] at hu; simp at hu
        | true =>
          rw [hs, cond_true] at hu
          have hkk := sameK_eq hs; subst hkk
          have h1 := (hr.sc hx).1; have h2 := (hr.sc hy).1
          have hsv : scalar u = true := by cases op <;> simp only [intV, Option.some.injEq, reduceCtorEq] at hu <;> subst hu <;> rfl
          have hsimp := intV_simp (P := P) ho h1 h2 hu
          have := simpV_D (Kp := Kp) hsimp (hk _ ⟨rfl, hsv⟩)
          cases op <;> simp only [intV, reduceCtorEq] at hu <;> unfold binD <;> dsimp only
          all_goals first
            | exact this
            | (unfold eqD; rw [h1, h2]
               unfold simpleD at this
               split
               · rename_i hc1 hc2 hc3; simp at hc2
               · rename_i hc1 hc2 hc3; simp at hc2
               · rename_i hc1 hc2 hc3; simp at hc2
               · rename_i hc1 hc2 hc3; simp at hc2
               · exact this)
      · exact sc (by rw [hx]; rfl) (by rw [hy]; rfl) h
    · rename_i a b hno hx hy
      exact sc (by rw [hx]; rfl) (by rw [hy]; rfl) h
    · rename_i hno1 hno2
      split at h
      · simp only [binD]; exact eqL_D (yt := yt) hr h hk
      · simp only [binD]; exact eqL_D (yt := yt) hr h hk
      · simp at h
  | slice t x lo hi mx =>
    simp only [pureL, ho] at h
    simp only [pureD, ho]
    exact slL_D hr h hk
  | call c =>
    simp only [pureL, ho] at h
    simp only [pureD, ho]
    split at h
    · rename_i x hc ha; rw [hc, ha]; exact lenL_D hr h hk
    · rename_i x hc ha; rw [hc, ha]; exact capL_D hr h hk
    · rename_i hc
      obtain ⟨hs, h⟩ := bif_some (x := v) h
      rw [hc]
      exact hsc1 (x := .func 0) (by rw [ho]; intro _ _; simp) (by rw [ho]; simpa [opnds, hc] using hs) h hk
    · rename_i hc
      obtain ⟨hs, h⟩ := bif_some (x := v) h
      rw [hc]
      exact hsc1 (x := .func 0) (by rw [ho]; intro _ _; simp) (by rw [ho]; simpa [opnds, hc] using hs) h hk
    · simp at h
  | move x =>
    simp only [pureL, ho, Option.some.injEq] at h
    simp only [pureD, ho]
    subst h
    exact moveL_D (.inl ho) (hk _ (hr.lev x (by rw [ho] at hkn; simpa [opnds, allKnL] using hkn)))
  | assign x =>
    simp only [pureL, ho, Option.some.injEq] at h
    simp only [pureD, ho]
    subst h
    exact moveL_D (.inr ho) (hk _ (hr.lev x (by rw [ho] at hkn; simpa [opnds, allKnL] using hkn)))
  | build t ps =>
    simp only [pureL, ho] at h
    simp only [pureD, ho]
    exact buildL_D hr ho h hk
  | unOp op t x =>
    simp only [pureL, ho] at h
    simp only [pureD, ho]
    obtain ⟨hs, h⟩ := bif_some (x := v) h
    exact hsc1 (x := x) (by rw [ho]; intro _ _; simp) (by rw [ho]; simp [opnds, allScL, hs]) h hk
  | convert s t x =>
    simp only [pureL, ho] at h
    simp only [pureD, ho]
    obtain ⟨hs, h⟩ := bif_some (x := v) h
    exact hsc1 (x := x) (by rw [ho]; intro _ _; simp) (by rw [ho]; simp [opnds, allScL, hs]) h hk
  | makeFunc fn a b =>
    cases fn with
    | func k =>
      simp only [pureL, ho] at h
      simp only [pureD, ho]
      obtain ⟨hs, h⟩ := bif_some (x := v) h
      simp only [Bool.and_eq_true] at hs
      simp only [Option.some.injEq] at h; subst h
      exact makeFuncL_D hr ho hs.1 hs.2 hk
    | _ => simp [pureL, ho] at h
  | extract x i =>
    simp only [pureL, ho] at h
    simp only [pureD, ho]
    split at h
    · rename_i l hx; exact extractL_D hr ho hx h hk
    · simp at h
  | field s x f =>
    simp only [pureL, ho] at h
    simp only [pureD, ho]
    exact fieldL_D hr ho h hk
  | _ => simp [pureL, ho] at h

end
end Go.Den
