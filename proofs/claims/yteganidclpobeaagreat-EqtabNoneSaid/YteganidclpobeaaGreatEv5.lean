/- Ev5: operations that do not look at the heap, and what they stand for. Own work; a part of the proof of a claim. Conditions: none beyond those that stand in each theorem. -/
import Derived.Test.YteganidclpobeaaGreatEv4
/- Ev5: operations that do not look at the heap, and what they stand for. -/
set_option linter.unusedSimpArgs false
set_option linter.unusedVariables false
namespace Go.Den
open Go
section
variable {P : Program} {σ σ' : Sg} {le : LE} {e : Env} {o : Oper} {Kp : Value → Prop}

theorem bif_some {α : Type} {b : Bool} {x y : α} {z : Option α} (h : (bif b then z else none) = some y) : b = true ∧ z = some y := by
  cases b with
  | true => exact ⟨rfl, h⟩
  | false => simp at h

theorem eqL_D {neq : Bool} {t yt : TypeId} {x y : Operand} {v : LV} (hr : ER P σ le e) (h : eqL P neq t (lev le x) (lev le y) = some v) (hk : ∀ v', VR P σ v v' → Kp v') :
    eqD P (ev e) o neq t (ev e x) (ev e y) Kp := by
  unfold eqL at h
  split at h
  · rename_i b of hx hy
    have h1 := hr.lev x (by rw [hx]; rfl); rw [hx] at h1
    obtain ⟨r, hs, hv⟩ := h1
    have h2 := (hr.sc hy).1
    split at h
    · rename_i el hu
      simp only [Option.some.injEq] at h; subst h
      unfold eqD; rw [hu, hv, h2]; exact hk _ ⟨rfl, rfl⟩
    · simp at h
  · rename_i b of n c ex n' c' hx hy
    have h1 := hr.lev x (by rw [hx]; rfl); rw [hx] at h1
    obtain ⟨r, cc, hs, hc, he, hv⟩ := h1
    have h2 := (hr.sc hy).1
    split at h
    · rename_i el hu
      simp only [Option.some.injEq] at h; subst h
      unfold eqD; rw [hu, hv, h2]; exact hk _ ⟨rfl, rfl⟩
    · simp at h
  · simp at h

theorem inR_iff {j : Int} {n : Nat} (h : inR j n = true) : 0 ≤ j ∧ j < n := by
  simpa [inR] using h

theorem add_mk' (r q i : Nat) : (⟨r, q, none⟩ : Addr).add i = ⟨r, q + i, none⟩ := add_mk r q i

theorem ixaL_D {t : TypeId} {x i : Operand} {v : LV} (hr : ER P σ le e) (h : ixaL P t (lev le x) (lev le i) = some v) (hk : ∀ v', VR P σ v v' → Kp v') :
    ixaD P t (ev e x) (ev e i) Kp := by
  unfold ixaL at h
  split at h
  · rename_i len el b of k j hu hx hi
    have h1 := hr.lev x (by rw [hx]; rfl); rw [hx] at h1
    obtain ⟨r, hs, hv⟩ := h1
    have h2 := (hr.sc hi).1
    obtain ⟨hb, h⟩ := bif_some (x := v) h
    simp only [Bool.and_eq_true] at hb
    simp only [Option.some.injEq] at h; subst h
    unfold ixaD; rw [hu, hv, h2]
    refine ⟨inR_iff hb.1, ?_⟩
    rw [hb.2, cond_true]
    exact hk _ ⟨r, hs, by rw [add_mk]⟩
  · rename_i el b of n c ex k j hu hx hi
    have h1 := hr.lev x (by rw [hx]; rfl); rw [hx] at h1
    obtain ⟨r, cc, hs, hc, he, hv⟩ := h1
    have h2 := (hr.sc hi).1
    obtain ⟨hb, h⟩ := bif_some (x := v) h
    simp only [Bool.and_eq_true] at hb
    simp only [Option.some.injEq] at h; subst h
    unfold ixaD; rw [hu, hv, h2]
    refine ⟨inR_iff hb.1, ?_⟩
    rw [hb.2, cond_true]
    exact hk _ ⟨r, hs, by rw [add_mk]⟩
  · simp at h

theorem ex1_in {s : C1} {lv : LV} {v : Value} {f : Value → Prop} (hs : sh1 s lv = true) (hv : VR1 σ lv v) (hf : f v) : ex1 s f := by
  cases s with
  | any => exact ⟨v, hf⟩
  | int k =>
    cases lv <;> simp only [sh1, Bool.false_eq_true] at hs
    rename_i u
    obtain ⟨rfl, hsc⟩ := hv
    cases v <;> simp [sh1] at hs
    subst hs; exact ⟨_, hf⟩
  | bool =>
    cases lv <;> simp only [sh1, Bool.false_eq_true] at hs
    rename_i u
    obtain ⟨rfl, hsc⟩ := hv
    cases v <;> simp [sh1] at hs
    exact ⟨_, hf⟩
  | str =>
    cases lv <;> simp only [sh1, Bool.false_eq_true] at hs
    rename_i u
    obtain ⟨rfl, hsc⟩ := hv
    cases v <;> simp [sh1] at hs
    exact ⟨_, hf⟩
  | ptr =>
    cases lv with
    | sc u =>
      obtain ⟨rfl, hsc⟩ := hv
      cases v <;> simp [sh1] at hs
      exact ⟨_, hf⟩
    | ptr b o => obtain ⟨r, _, rfl⟩ := hv; exact ⟨_, hf⟩
    | _ => simp [sh1] at hs
  | slice =>
    cases lv with
    | sc u =>
      obtain ⟨rfl, hsc⟩ := hv
      cases v <;> simp [sh1] at hs
      exact ⟨_, _, _, hf⟩
    | sl b o n c ex => obtain ⟨r, c', _, _, _, rfl⟩ := hv; exact ⟨_, _, _, hf⟩
    | _ => simp [sh1] at hs
  | map =>
    cases lv with
    | sc u =>
      obtain ⟨rfl, hsc⟩ := hv
      cases v <;> simp [sh1] at hs
      exact ⟨_, hf⟩
    | mp b => obtain ⟨r, _, rfl⟩ := hv; exact ⟨_, hf⟩
    | _ => simp [sh1] at hs
  | func =>
    cases lv with
    | fn k fs cs => obtain ⟨a, b, _, _, rfl⟩ := hv; exact ⟨_, _, _, hf⟩
    | _ => simp [sh1] at hs

theorem exL1_in : ∀ {l : List C1} {lvs : List LV} {vs : List Value} {f : List Value → Prop}, shL1 l lvs = true → All2 (VR1 σ) lvs vs → f vs → exL1 l f
  | [], [], [], f, _, _, hf => hf
  | s :: l, lv :: lvs, v :: vs, f, hs, hv, hf => by
    simp only [shL1, Bool.and_eq_true] at hs
    exact ex1_in hs.1 hv.1 (exL1_in (f := fun vs => f (v :: vs)) hs.2 hv.2 hf)
  | [], _ :: _, _, _, hs, _, _ => by simp [shL1] at hs
  | _ :: _, [], _, _, hs, _, _ => by simp [shL1] at hs
  | [], [], _ :: _, _, _, hv, _ => hv.elim
  | _ :: _, _ :: _, [], _, _, hv, _ => hv.elim

theorem sh1_one {s : C1} {lv : LV} {v : Value} (hs : sh1 s lv = true) (hv : VR2 P σ lv v) : (∃ a, lv = .agg a) ∨ (∃ a b c, lv = .agb a b c) ∨ VR1 σ lv v := by
  cases lv <;> first | exact .inr (.inr hv) | exact .inl ⟨_, rfl⟩ | exact .inr (.inl ⟨_, _, _, rfl⟩)

theorem ex2_in {s : C2} {lv : LV} {v : Value} {f : Value → Prop} (hs : sh2 s lv = true) (hv : VR2 P σ lv v) (hf : f v) : ex2 s f := by
  cases s with
  | one s =>
    have h1 : sh1 s lv = true := by cases lv <;> exact hs
    cases s with
    | any => exact ⟨v, hf⟩
    | _ =>
      rcases sh1_one h1 hv with ⟨a, rfl⟩ | ⟨a, b, c, rfl⟩ | hv1
      · simp [sh1] at h1
      · simp [sh1] at h1
      · exact ex1_in h1 hv1 hf
  | agg l =>
    cases lv <;> simp only [sh2, Bool.false_eq_true] at hs
    obtain ⟨l', h1, rfl⟩ := hv
    exact exL1_in hs h1 hf
  | many n =>
    cases lv <;> simp only [sh2, Bool.false_eq_true] at hs
    · obtain ⟨l', h1, rfl⟩ := hv
      exact ⟨l', by rw [← h1.length]; exact Nat.eq_of_beq_eq_true hs, hf⟩
    · obtain ⟨l', h1, _, h2, rfl⟩ := hv
      exact ⟨l', by rw [h1]; exact Nat.eq_of_beq_eq_true hs, hf⟩

theorem exL2_in : ∀ {l : List C2} {lvs : List LV} {vs : List Value} {f : List Value → Prop}, shL2 l lvs = true → All2 (VR2 P σ) lvs vs → f vs → exL2 l f
  | [], [], [], f, _, _, hf => hf
  | s :: l, lv :: lvs, v :: vs, f, hs, hv, hf => by
    simp only [shL2, Bool.and_eq_true] at hs
    exact ex2_in hs.1 hv.1 (exL2_in (f := fun vs => f (v :: vs)) hs.2 hv.2 hf)
  | [], _ :: _, _, _, hs, _, _ => by simp [shL2] at hs
  | _ :: _, [], _, _, hs, _, _ => by simp [shL2] at hs
  | [], [], _ :: _, _, _, hv, _ => hv.elim
  | _ :: _, _ :: _, [], _, _, hv, _ => hv.elim

theorem ex3_in {s : C3} {lv : LV} {v : Value} {f : Value → Prop} (hs : sh3 s lv = true) (hv : VR P σ lv v) (hf : f v) : ex3 s f := by
  cases s with
  | c s =>
    cases lv with
    | tup l =>
      cases s with
      | one s => cases s with
        | any => exact ⟨v, hf⟩
        | _ => simp [sh3, sh2, sh1] at hs
      | agg l => simp [sh3, sh2] at hs
      | many n => simp [sh3, sh2] at hs
    | un => exact hv.elim
    | sc a => exact ex2_in (P := P) (σ := σ) (lv := .sc a) hs hv hf
    | ptr a b => exact ex2_in (P := P) (σ := σ) (lv := .ptr a b) hs hv hf
    | sl a b c d g => exact ex2_in (P := P) (σ := σ) (lv := .sl a b c d g) hs hv hf
    | fn a b c => exact ex2_in (P := P) (σ := σ) (lv := .fn a b c) hs hv hf
    | mp a => exact ex2_in (P := P) (σ := σ) (lv := .mp a) hs hv hf
    | yl a => exact ex2_in (P := P) (σ := σ) (lv := .yl a) hs hv hf
    | agg a => exact ex2_in (P := P) (σ := σ) (lv := .agg a) hs hv hf
    | agb a b c => exact ex2_in (P := P) (σ := σ) (lv := .agb a b c) hs hv hf
  | tup l =>
    cases lv <;> simp only [sh3, Bool.false_eq_true] at hs
    obtain ⟨l', h1, rfl⟩ := hv
    exact exL2_in hs h1 hf

theorem ixL_D {t : TypeId} {x i : Operand} {v : LV} (hr : ER P σ le e) (h : ixL P t (lev le x) (lev le i) = some v) (hk : ∀ v', VR P σ v v' → Kp v') :
    ixD P t (ev e x) (ev e i) Kp := by
  unfold ixL at h
  split at h
  · rename_i s k j hu hx hi
    obtain ⟨hb, h⟩ := bif_some (x := v) h
    simp only [Option.some.injEq] at h; subst h
    have h1 := (hr.sc hx).1
    have h2 := (hr.sc hi).1
    unfold ixD; rw [hu, h1, h2]
    exact ⟨inR_iff hb, hk _ ⟨rfl, rfl⟩⟩
  · rename_i len el cs k j hu hx hi
    obtain ⟨hb, h⟩ := bif_some (x := v) h
    simp only [Bool.and_eq_true] at hb
    have h1 := hr.lev x (by rw [hx]; rfl); rw [hx] at h1
    obtain ⟨l', ha, hv⟩ := h1
    have h2 := (hr.sc hi).1
    split at h
    · rename_i u hu2
      obtain ⟨hs, h⟩ := bif_some (x := v) h
      simp only [Option.some.injEq] at h; subst h
      obtain ⟨u', hu', hvr⟩ := ha.get hu2
      unfold ixD; rw [hu, hv, h2]
      refine ⟨inR_iff hb.1, ?_⟩
      have hb2 : ((P.info? el).isSome && (P.underlying el).isSome && !isAggT P el && Nat.beq (P.cellsOf el) 1) = true := by simp only [Bool.and_eq_true]; exact hb.2
      rw [hb2, cond_true]
      exact ex1_in hs hvr ⟨hu', hk _ (VR.of1 hvr)⟩
    · simp at h
  · rename_i len el k o n kk j hu hx hi
    obtain ⟨hb, h⟩ := bif_some (x := v) h
    simp only [Bool.and_eq_true] at hb
    have h1 := hr.lev x (by rw [hx]; rfl); rw [hx] at h1
    obtain ⟨l', hl, hw, ha, hv⟩ := h1
    have h2 := (hr.sc hi).1
    split at h
    · rename_i u hu2
      obtain ⟨hs, h⟩ := bif_some (x := v) h
      simp only [Option.some.injEq] at h; subst h
      have hj : j.toNat < l'.length := by rw [hl]; simpa [Nat.blt_eq] using hb.1.2
      obtain ⟨lv, hg, hvr⟩ := ha j.toNat _ (List.getElem?_eq_getElem hj)
      rw [hu2] at hg
      simp only [Option.some.injEq] at hg; subst hg
      unfold ixD; rw [hu, hv, h2]
      refine ⟨inR_iff hb.1.1, ?_⟩
      have hb2 : ((P.info? el).isSome && (P.underlying el).isSome && !isAggT P el && Nat.beq (P.cellsOf el) 1) = true := by simp only [Bool.and_eq_true]; exact hb.2
      rw [hb2, cond_true]
      exact ex1_in hs hvr ⟨List.getElem?_eq_getElem hj, hk _ (VR.of1 hvr)⟩
    · simp at h
  · simp at h

theorem lenL_D {t : Option TypeId} {x : Operand} {v : LV} (hr : ER P σ le e) (h : lenL P t (lev le x) = some v) (hk : ∀ v', VR P σ v v' → Kp v') : lenD P t (ev e x) Kp := by
  unfold lenL at h
  split at h
  · rename_i s hu hx
    simp only [Option.some.injEq] at h; subst h
    unfold lenD; rw [hu, (hr.sc hx).1]; exact hk _ ⟨rfl, rfl⟩
  · rename_i el a n c hu hx
    simp only [Option.some.injEq] at h; subst h
    unfold lenD; rw [hu, (hr.sc hx).1]; exact hk _ ⟨rfl, rfl⟩
  · rename_i el b of n c ex hu hx
    have h1 := hr.lev x (by rw [hx]; rfl); rw [hx] at h1
    obtain ⟨r, cc, hs, hc, he, hv⟩ := h1
    simp only [Option.some.injEq] at h; subst h
    unfold lenD; rw [hu, hv]; exact hk _ ⟨rfl, rfl⟩
  · rename_i n el hu
    simp only [Option.some.injEq] at h; subst h
    unfold lenD; rw [hu]; exact hk _ ⟨rfl, rfl⟩
  · simp at h

theorem capL_D {t : Option TypeId} {x : Operand} {v : LV} (hr : ER P σ le e) (h : capL P t (lev le x) = some v) (hk : ∀ v', VR P σ v v' → Kp v') : capD P t (ev e x) Kp := by
  unfold capL at h
  split at h
  · rename_i el a n c hu hx
    simp only [Option.some.injEq] at h; subst h
    unfold capD; rw [hu, (hr.sc hx).1]; exact hk _ ⟨rfl, rfl⟩
  · rename_i el b of n c hu hx
    have h1 := hr.lev x (by rw [hx]; rfl); rw [hx] at h1
    obtain ⟨r, cc, hs, hc, he, hv⟩ := h1
    simp only [Option.some.injEq] at h; subst h
    simp only [if_true] at he
    unfold capD; rw [hu, hv, he]; exact hk _ ⟨rfl, rfl⟩
  · simp at h

theorem bndL_D {d : Int} {x : Option Operand} {i : Int} (hr : ER P σ le e) (h : bndL d (x.map (lev le)) = some i) : bnd d (x.map (ev e)) = some i := by
  cases x with
  | none => exact h
  | some x =>
    simp only [Option.map_some] at h ⊢
    unfold bndL at h
    split at h
    · rename_i hx; simp at hx
    · rename_i k j hx
      simp only [Option.some.injEq] at hx h
      rw [(hr.sc hx).1]; exact congrArg some h
    · simp at h

theorem slL_D {t : TypeId} {x : Operand} {lo hi mx : Option Operand} {v : LV} (hr : ER P σ le e) (h : slL P t (lev le x) (lo.map (lev le)) (hi.map (lev le)) (mx.map (lev le)) = some v)
    (hk : ∀ v', VR P σ v v' → Kp v') : slD P t (ev e x) (lo.map (ev e)) (hi.map (ev e)) (mx.map (ev e)) Kp := by
  unfold slL at h
  unfold slD
  cases mx with
  | some m => simp at h
  | none =>
    simp only [Option.map_none] at h ⊢
    split at h
    · rename_i s l hu hx hl
      split at h
      · rename_i hh hhe
        obtain ⟨hb, h⟩ := bif_some (x := v) h
        simp only [Bool.and_eq_true, decide_eq_true_eq] at hb
        simp only [Option.some.injEq] at h; subst h
        rw [hu, (hr.sc hx).1, bndL_D hr hl]
        simp only [bndL_D hr hhe]
        exact ⟨⟨hb.1.1, hb.1.2, hb.2⟩, hk _ ⟨rfl, rfl⟩⟩
      · simp at h
    · rename_i el n c l hu hx hl
      split at h
      · rename_i hh hhe
        obtain ⟨hb, h⟩ := bif_some (x := v) h
        simp only [Bool.and_eq_true, decide_eq_true_eq] at hb
        simp only [Option.some.injEq] at h; subst h
        rw [hu, (hr.sc hx).1, bndL_D hr hl]
        simp only [bndL_D hr hhe]
        refine ⟨⟨hb.1.1.1, hb.1.1.2, hb.1.2⟩, ?_⟩
        rw [hb.2, cond_true]
        have : (if c = l.toNat then (none : Option Addr) else Option.map (fun x : Addr => x.add (l.toNat * P.cellsOf el)) none) = none := by split <;> rfl
        rw [this]
        exact hk _ ⟨rfl, rfl⟩
      · simp at h
    · rename_i el b of n c ex l hu hx hl
      have h1 := hr.lev x (by rw [hx]; rfl); rw [hx] at h1
      obtain ⟨r, cc, hs, hc, he, hv⟩ := h1
      split at h
      · rename_i hh hhe
        obtain ⟨hb, h⟩ := bif_some (x := v) h
        simp only [Bool.and_eq_true, Bool.or_eq_true, decide_eq_true_eq] at hb
        simp only [Option.some.injEq] at h; subst h
        rw [hu, hv, bndL_D hr hl]
        simp only [bndL_D hr hhe]
        refine ⟨⟨hb.1.1.1.1, hb.1.1.1.2, by have := hb.1.1.2; omega⟩, ?_⟩
        rw [hb.1.2, cond_true]
        cases ex with
        | true =>
          simp only [if_true] at he
          subst he
          refine hk _ ⟨r, cc - l.toNat, hs, by omega, by simp, ?_⟩
          congr 1
          by_cases hcl : cc = l.toNat
          · rw [if_pos hcl, show (Nat.beq l.toNat cc && true) = true by rw [← hcl]; simp, cond_true]
          · rw [if_neg hcl]
            have hne : (Nat.beq l.toNat cc && true) = false := by
              rw [Bool.eq_false_iff]; intro hb'
              simp only [Bool.and_true] at hb'
              exact hcl (Nat.eq_of_beq_eq_true hb').symm
            rw [hne, cond_false]
            simp [add_mk]
        | false =>
          simp only [Bool.false_eq_true, if_false] at he
          have h0 : l.toNat = 0 := by
            rcases hb.2 with hf | h0
            · simp at hf
            · exact Nat.eq_of_beq_eq_true h0
          simp only [h0, Bool.and_false, cond_false, Nat.zero_mul, Nat.add_zero, Nat.sub_zero] at hk ⊢
          refine hk _ ⟨r, cc, hs, hc, ?_, ?_⟩
          · simpa using he
          · congr 1
            by_cases hcl : cc = 0
            · rw [if_pos hcl]
            · rw [if_neg hcl]; simp [Addr.add]
      · simp at h
    · simp at h

end
end Go.Den
