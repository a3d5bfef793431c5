/- Ev16: regions that draw their order. Own work; a part of the proof of a claim. Conditions: none beyond those that stand in each theorem. -/
import Derived.Test.YteganidclpobeaaGreatEv15
/- Ev16: regions that draw their order. -/
set_option linter.unusedSimpArgs false
set_option linter.unusedVariables false
namespace Go.Den
open Go
section
variable {P : Program} {σ σ' : Sg} {le le' : LE} {e : Env} {a : Act} {o : Oper} {H H' : LHeap} {w w' : World}

theorem rdF_rel {b : Nat} {r : Nat × Nat} (hb : σ b = some r) {off : Nat} : ∀ {vs : List LV} {vs' : List Value} {i : Nat}, All2 (VR1 σ) vs vs' →
    All2 (FR σ) (((List.range' i vs.length).zip vs).map fun x => (b, off + x.1, x.2)) (rdF ⟨r.1, off, none⟩ i vs')
  | [], [], i, _ => trivial
  | v :: vs, v' :: vs', i, h => by
    simp only [List.length_cons, List.range'_succ, List.zip_cons_cons, List.map_cons, rdF]
    exact ⟨⟨r, v', hb, h.1, by rw [add_mk]⟩, rdF_rel hb h.2⟩
  | [], _ :: _, _, h => h.elim
  | _ :: _, [], _, h => h.elim

theorem loadL_R {t : TypeId} {x : Operand} {v : LV} {fs : List (Nat × Nat × LV)} {Kf : Value → List Fct → Prop} (hr : ER P σ le e) (hm : MR P σ H w) (h : loadL P t (lev le x) H = some (v, fs))
    (hng : ∀ a b c, v ≠ .agb a b c) (hk : ∀ v' fs', VR P σ v v' → All2 (FR σ) fs fs' → Kf v' fs') :
    (match ev e x with
    | .pointer (some p) => bif (P.underlying t).isSome then ldF P t w p Kf else False
    | _ => False) := by
  unfold loadL at h
  split at h
  · rename_i b off hx
    have h1 := hr.lev x (by rw [hx]; rfl); rw [hx] at h1
    obtain ⟨r, hs, hv⟩ := h1
    obtain ⟨hu, h⟩ := bif_some (x := (v, fs)) h
    rw [hv]
    simp only [hu, cond_true]
    unfold ldF
    split at h
    · rename_i s hc
      rw [hc]
      dsimp only
      split at h
      · rename_i u hg
        obtain ⟨hsh, h⟩ := bif_some (x := (v, fs)) h
        simp only [Option.some.injEq, Prod.mk.injEq] at h
        obtain ⟨rfl, rfl⟩ := h
        obtain ⟨u', hvr, hcell, _⟩ := hm.cell b off u r hs hg
        exact ex1_in hsh hvr ⟨hcell, hk _ _ (VR.of1 hvr) ⟨⟨r, u', hs, hvr, rfl⟩, trivial⟩⟩
      · simp at h
    · rename_i l hc
      rw [hc]
      dsimp only
      split at h
      · rename_i vs hg
        obtain ⟨hsh, h⟩ := bif_some (x := (v, fs)) h
        simp only [Bool.and_eq_true] at hsh
        simp only [Option.some.injEq, Prod.mk.injEq] at h
        obtain ⟨rfl, rfl⟩ := h
        obtain ⟨l', ha, hrd⟩ := hm.getN hs (q := off) (i := 0) hg rfl
        refine exL1_in hsh.1 ha ?_
        rw [← ha.length, hsh.2, cond_true]
        refine ⟨hrd, hk _ _ ⟨l', ha, rfl⟩ ?_⟩
        rw [List.range_eq_range']
        exact rdF_rel hs ha
      · simp at h
    · rename_i n hc
      exfalso
      split at h
      · split at h
        · obtain ⟨hle, h⟩ := bif_some (x := (v, fs)) h
          simp only [Option.some.injEq, Prod.mk.injEq] at h
          exact hng _ _ _ h.1.symm
        · simp at h
      · simp at h
  · simp at h

theorem opLR_D {v : LV} {fs : List (Nat × Nat × LV)} {Kf : Value → List Fct → Prop} (hr : ER P σ le e) (hm : MR P σ H w) (h : opLR P le o H = some (v, fs)) (hv : isKn v = true)
    (hk : ∀ v' fs', VR P σ v v' → All2 (FR σ) fs fs' → Kf v' fs') : opR P e o w Kf := by
  unfold opLR at h
  unfold opR
  split at h
  · rename_i c x y ho
    simp only [ho]
    split at h
    · rename_i b hc
      simp only [Option.some.injEq, Prod.mk.injEq] at h
      obtain ⟨rfl, rfl⟩ := h
      rw [(hr.sc hc).1]
      cases b with
      | true =>
        have := hr.lev x hv
        simp only [bc, VR.kn this, cond_true]
        exact hk _ _ this trivial
      | false =>
        have := hr.lev y hv
        simp only [bc, VR.kn this, cond_true]
        exact hk _ _ this trivial
    · simp at h
  · rename_i t x ho
    simp only [ho]
    split at h
    · simp at h
    · rename_i res hng
      exact loadL_R hr hm h (fun a b c hx => hng a b c fs (by rw [h, hx])) hk
  · simp at h
  · rename_i hnp hnl hns
    obtain ⟨hkn, h⟩ := bif_some (x := (v, fs)) h
    have ha := hr.allKn hkn
    split
    · rename_i c x y ho; exact (hnp c x y ho).elim
    · rename_i t x ho; exact (hnl t x ho).elim
    · rename_i cs b ho; exact (hns cs b ho).elim
    · rw [ha]
      split at h
      · rename_i u hu
        simp only [Option.some.injEq, Prod.mk.injEq] at h
        obtain ⟨rfl, rfl⟩ := h
        exact pureL_D hr hkn hu fun v' hv' => hk v' [] hv' trivial
      · simp at h

theorem stepLR_K2 {K : Env → List Fct → Prop} {all : List Oper} {fs : List (Nat × Nat × LV)} (hr : ER P σ le e) (hm : MR P σ H w)
    (h : stepLR P all o le H = some (le', fs)) (hk : ∀ e' fs', (∀ t, o.dst ≠ some t → get e' t = get e t) → ER P σ le' e' → All2 (FR σ) fs fs' → K e' fs') : denGR P all o e w K := by
  have run : ∀ {e0 : Env}, (∀ t, get e0 t = get e t) → (match opLR P le o H with
    | some (v, fs) => bif isKn v then some (lput le o.dst v, fs) else none
    | none => none) = some (le', fs) → opR P e0 o w fun v fs => K (putE e0 o.dst v) fs := by
    intro e0 he h
    split at h
    · rename_i v fs1 hv
      obtain ⟨hkv, h⟩ := bif_some (x := (le', fs)) h
      simp only [Option.some.injEq, Prod.mk.injEq] at h
      obtain ⟨rfl, rfl⟩ := h
      exact opLR_D (hr.congr he) hm hv hkv fun v' fs' hvr hf => hk _ _ (fun t ht => by rw [get_putE, if_neg ht]; exact he t) ((hr.congr he).put hvr) hf
    · simp at h
  have skip : ∀ {e0 : Env}, (∀ t, get e0 t = get e t) → some (lput le o.dst (.tup []), []) = some (le', fs) → K (putE e0 o.dst undef) [] := by
    intro e0 he h
    simp only [Option.some.injEq, Prod.mk.injEq] at h
    obtain ⟨rfl, rfl⟩ := h
    exact hk _ _ (fun t ht => by rw [get_putE, if_neg ht]; exact he t) ((hr.congr he).put undef_VR) trivial
  unfold stepLR guardL at h
  unfold denGR
  split at h
  · rename_i hg; rw [hg]; exact run (fun _ => rfl) h
  · rename_i j want hg
    rw [hg]
    dsimp only
    split at h
    · simp at h
    · rename_i t ht
      rw [ht]
      dsimp only
      split at h
      · rename_i l hl
        have hv := (hr.val t).resolve_left (by rw [hl]; simp)
        rw [hl] at hv
        obtain ⟨l', _, hv⟩ := hv
        rw [hv]
        exact skip (fun _ => rfl) h
      · rename_i b hl
        have hv := (hr.val t).resolve_left (by rw [hl]; simp)
        rw [hl] at hv
        have hv : get e t = .bool b := hv.1
        rw [hv]
        cases b with
        | true =>
          cases want with
          | true => exact run (fun s => get_known hv s) h
          | false => exact skip (fun s => get_known hv s) h
        | false =>
          cases want with
          | true => exact skip (fun s => get_known hv s) h
          | false => exact run (fun s => get_known hv s) h
      · simp at h

theorem stepLR_put {all : List Oper} {fs : List (Nat × Nat × LV)} (h : stepLR P all o le H = some (le', fs)) : ∃ v, le' = lput le o.dst v := by
  have run : (match opLR P le o H with
    | some (v, fs) => bif isKn v then some (lput le o.dst v, fs) else none
    | none => none) = some (le', fs) → ∃ v, le' = lput le o.dst v := by
    intro h
    split at h
    · obtain ⟨_, h⟩ := bif_some (x := (le', fs)) h
      simp only [Option.some.injEq, Prod.mk.injEq] at h
      exact ⟨_, h.1.symm⟩
    · simp at h
  have skip : some (lput le o.dst (.tup []), ([] : List (Nat × Nat × LV))) = some (le', fs) → ∃ v, le' = lput le o.dst v := by
    intro h
    simp only [Option.some.injEq, Prod.mk.injEq] at h
    exact ⟨_, h.1.symm⟩
  unfold stepLR guardL at h
  split at h
  · exact run h
  · split at h
    · simp at h
    · split at h
      · exact skip h
      · rename_i want _ _ _ _ _ b _
        cases hb : (b == want) with
        | true => rw [hb] at h; exact run h
        | false => rw [hb] at h; exact skip h
      · simp at h

theorem stepLR_n {all : List Oper} {fs : List (Nat × Nat × LV)} (h : stepLR P all o le H = some (le', fs)) : le'.n = le.n ∧ le'.rd = le.rd ∧ le'.df = le.df := by
  have run : (match opLR P le o H with
    | some (v, fs) => bif isKn v then some (lput le o.dst v, fs) else none
    | none => none) = some (le', fs) → le'.n = le.n ∧ le'.rd = le.rd ∧ le'.df = le.df := by
    intro h
    split at h
    · obtain ⟨_, h⟩ := bif_some (x := (le', fs)) h
      simp only [Option.some.injEq, Prod.mk.injEq] at h
      rw [← h.1]; exact ⟨(lput_n _ _ _).1, (lput_n _ _ _).2.2.1, (lput_n _ _ _).2.1⟩
    · simp at h
  have skip : some (lput le o.dst (.tup []), ([] : List (Nat × Nat × LV))) = some (le', fs) → le'.n = le.n ∧ le'.rd = le.rd ∧ le'.df = le.df := by
    intro h
    simp only [Option.some.injEq, Prod.mk.injEq] at h
    rw [← h.1]; exact ⟨(lput_n _ _ _).1, (lput_n _ _ _).2.2.1, (lput_n _ _ _).2.1⟩
  unfold stepLR guardL at h
  split at h
  · exact run h
  · split at h
    · simp at h
    · split at h
      · exact skip h
      · rename_i want _ _ _ _ _ b _
        cases hb : (b == want) with
        | true => rw [hb] at h; exact run h
        | false => rw [hb] at h; exact skip h
      · simp at h

/-! facts that must still hold -/
theorem FR.mono (hx : Ext σ σ') {x : Nat × Nat × LV} {f : Fct} (h : FR σ x f) : FR σ' x f := by
  obtain ⟨r, v, h1, h2, h3⟩ := h
  exact ⟨r, v, hx _ _ h1, VR1.mono hx h2, h3⟩

theorem sameV_eq {a b : Value} (h : sameV a b = true) : a = b := by
  unfold sameV at h
  split at h <;> simp_all

theorem sameL_eq {u v : LV} {u' v' : Value} (h : sameL u v = true) (hu : VR1 σ u u') (hv : VR1 σ v v') : u' = v' := by
  unfold sameL at h
  split at h
  · rw [hu.1, hv.1]; exact sameV_eq h
  · simp only [Bool.and_eq_true, Nat.beq_eq] at h
    obtain ⟨rfl, rfl⟩ := h
    obtain ⟨r, h1, h2⟩ := hu
    obtain ⟨r', h1', h2'⟩ := hv
    rw [h1] at h1'; simp only [Option.some.injEq] at h1'; subst h1'
    rw [h2, h2']
  · simp only [Bool.and_eq_true, Nat.beq_eq] at h
    obtain ⟨⟨⟨rfl, rfl⟩, rfl⟩, rfl⟩ := h
    obtain ⟨r, c, h1, _, h2, h3⟩ := hu
    obtain ⟨r', c', h1', _, h2', h3'⟩ := hv
    rw [h1] at h1'; simp only [Option.some.injEq] at h1'; subst h1'
    simp only [if_true] at h2 h2'
    rw [h3, h3', h2, h2']
  · simp only [Bool.and_eq_true, Nat.beq_eq] at h
    obtain ⟨⟨rfl, rfl⟩, rfl⟩ := h
    obtain ⟨r, c, h1, _, h2, h3⟩ := hu
    obtain ⟨r', c', h1', _, h2', h3'⟩ := hv
    rw [h1] at h1'; simp only [Option.some.injEq] at h1'; subst h1'
    simp only [Bool.false_eq_true, if_false] at h2 h2'
    rw [h3, h3', h2.2, h2'.2]
  · simp at h

theorem fctsL_K {X : Prop} (hm : MR P σ H w) (hX : X) : ∀ {fs : List (Nat × Nat × LV)} {fs' : List Fct}, fctsL P H fs = true → All2 (FR σ) fs fs' → fctK fs' w X
  | [], [], _, _ => hX
  | (b, off, v) :: fs, f :: fs', h, hf => by
    simp only [fctsL, Bool.and_eq_true] at h
    obtain ⟨⟨r, v', hb, hv, rfl⟩, hf⟩ := hf
    have h1 := h.1
    split at h1
    · rename_i u hg
      obtain ⟨u', hu, hc, _⟩ := hm.cell b off u r hb hg
      have := sameL_eq h1 hv hu
      subst this
      exact ⟨hc, fctsL_K hm hX h.2 hf⟩
    · simp at h1
  | [], _ :: _, _, hf => hf.elim
  | _ :: _, [], _, hf => hf.elim

def SR (σ : Sg) (x : Nat × List (Nat × Nat × LV)) (y : Nat × List Fct) : Prop := x.1 = y.1 ∧ All2 (FR σ) x.2 y.2

theorem pendL_K {X : Prop} (hm : MR P σ H w) {m : Nat} (hX : X) : ∀ {SL : List (Nat × List (Nat × Nat × LV))} {SL' : List (Nat × List Fct)}, pendL P H m SL = true → All2 (SR σ) SL SL' → pendK SL' m w X
  | [], [], _, _ => hX
  | (i, fs) :: SL, (j, fs') :: SL', h, hs => by
    obtain ⟨⟨h1, h2⟩, hs⟩ := hs
    simp only at h1
    subst h1
    simp only [pendL, Bool.and_eq_true] at h
    have ih := pendL_K hm hX h.2 hs
    simp only [pendK]
    cases hb : m.testBit i with
    | true => exact ih
    | false =>
      rw [hb, Bool.false_or] at h
      exact fctsL_K hm ih h.1 h2
  | [], _ :: _, _, hs => hs.elim
  | _ :: _, [], _, hs => hs.elim

theorem keepL_rel {m : Nat} : ∀ {SL : List (Nat × List (Nat × Nat × LV))} {SL' : List (Nat × List Fct)}, All2 (SR σ) SL SL' → All2 (SR σ) (keepL m SL) (keepSL m SL')
  | [], [], _ => trivial
  | (i, fs) :: SL, (j, fs') :: SL', hs => by
    obtain ⟨⟨h1, h2⟩, hs⟩ := hs
    simp only at h1
    subst h1
    have ih := keepL_rel (m := m) hs
    unfold keepL keepSL at ih ⊢
    cases hb : m.testBit i with
    | true => simpa [List.filter_cons, hb] using ih
    | false => simp only [List.filter_cons, hb, Bool.not_false, if_true]; exact ⟨⟨rfl, h2⟩, ih⟩
  | [], _ :: _, hs => hs.elim
  | _ :: _, [], hs => hs.elim

theorem plain_step {call : CallE} {all : List Oper} (hp : (match o.op with | .defer _ => false | _ => true) = true) : stepL P call all o le H = guardL all o le (fun le => some (le, H)) (fun le => match opL P call le o H with
    | some (v, H') => bif isKn v then some (lput le o.dst v, H') else none
    | none => none) := by
  unfold stepL
  split
  · rename_i c ho hg; rw [ho] at hp; simp at hp
  · rfl

end
end Go.Den
