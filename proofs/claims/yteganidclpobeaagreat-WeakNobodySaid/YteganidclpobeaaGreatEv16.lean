/- Ev16: regions that draw their order. Own work; a part of the proof of a claim. Conditions: none beyond those that stand in each theorem. -/
import Derived.Test.YteganidclpobeaaGreatEv15
/- Ev16: regions that draw their order. -/
set_option linter.unusedSimpArgs false
set_option linter.unusedVariables false
namespace Go.Den
open Go
section
variable {P : Program} {σ σ' : Sg} {le le' : LE} {e : Env} {a : Act} {o : Oper} {H H' : LHeap} {w w' : World}

theorem rdF_rel {b : Nat} {r : Nat × Nat} (hb : σ b = some r) {off : Nat} : ∀ {vs : List LV} {vs' : List Value} {i : Nat}, All2 (VR1 σ) vs vs' →
    All2 (FR σ) (((List.range' i vs.length).zip vs).map fun x => (b, off + x.1, x.2)) (rdF ⟨r.1, off, none⟩ i vs')
  | [], [], i, _ => trivial
  | v :: vs, v' :: vs', i, h => by
    simp only [List.length_cons, List.range'_succ, List.zip_cons_cons, List.map_cons, rdF]
    exact ⟨⟨r, v', hb, h.1, by rw [add_mk]⟩, rdF_rel hb h.2⟩
  | [], _ :: _, _, h => h.elim
  | _ :: _, [], _, h => h.elim

theorem loadL_R {t : TypeId} {x : Operand} {v : LV} {fs : List (Nat × Nat × LV)} {Kf : Value → List Fct → Prop} (hr : ER P σ le e) (hm : MR P σ H w) (h : loadL P t (lev le x) H = some (v, fs))
    (hng : ∀ a b c, v ≠ .agb a b c) (hk : ∀ v' fs', VR P σ v v' → All2 (FR σ) fs fs' → Kf v' fs') :
    (match ev e x with
    | .pointer (some p) => bif (P.underlying t).isSome then ldF P t w p Kf else False
    | _ => False) := by
  unfold loadL at h
  split at h
  · rename_i b off hx
    have h1 := hr.lev x (by rw [hx]; rfl); rw [hx] at h1
    obtain ⟨r, hs, hv⟩ := h1
    obtain ⟨hu, h⟩ := bif_some (x := (v, fs)) h
    rw [hv]
    simp only [hu, cond_true]
    unfold ldF
    split at h
    · rename_i s hc
      rw [hc]
      dsimp only
      split at h
      · rename_i u hg
        obtain ⟨hsh, h⟩ := bif_some (x := (v, fs)) h
        simp only [Option.some.injEq, Prod.mk.injEq] at h
        obtain ⟨rfl, rfl⟩ := h
        obtain ⟨u', hvr, hcell, _⟩ := hm.cell b off u r hs hg
        exact ex1_in hsh hvr ⟨hcell, hk _ _ (VR.of1 hvr) ⟨⟨r, u', hs, hvr, rfl⟩, trivial⟩⟩
      · simp at h
    · rename_i l hc
      rw [hc]
      dsimp only
      split at h
      · rename_i vs hg
        obtain ⟨hsh, h⟩ := bif_some (x := (v, fs)) h
        simp only [Bool.and_eq_true] at hsh
        simp only [Option.some.injEq, Prod.mk.injEq] at h
        obtain ⟨rfl, rfl⟩ := h
        obtain ⟨l', ha, hrd⟩ := hm.getN hs (q := off) (i := 0) hg rfl
        refine exL1_in hsh.1 ha ?_
        rw [← ha.length, hsh.2, cond_true]
        refine ⟨hrd, hk _ _ ⟨l', ha, rfl⟩ ?_⟩
        rw [List.range_eq_range']
        exact rdF_rel hs ha
      · simp at h
    · rename_i n hc
      exfalso
      split at h
      · split at h
        · obtain ⟨hle, h⟩ := bif_some (x := (v, fs)) h
          simp only [Option.some.injEq, Prod.mk.injEq] at h
          exact hng _ _ _ h.1.symm
        · simp at h
      · simp at h
  · simp at h

theorem opLR_D {v : LV} {fs : List (Nat × Nat × LV)} {Kf : Value → List Fct → Prop} (hr : ER P σ le e) (hm : MR P σ H w) (h : opLR P le o H = some (v, fs)) (hv : isKn v = true)
    (hk : ∀ v' fs', VR P σ v v' → All2 (FR σ) fs fs' → Kf v' fs') : opR P e o w Kf := by
  unfold opLR at h
  unfold opR
  split at h
  · rename_i c x y ho
    simp only [ho]
    split at h
    · rename_i b hc
      simp only [Option.some.injEq, Prod.mk.injEq] at h
      obtain ⟨rfl, rfl⟩ := h
      rw [(hr.sc hc).1]
      cases b with
      | true =>
        have := hr.lev x hv
        simp only [bc, VR.kn this, cond_true]
        exact hk _ _ this trivial
      | false =>
        have := hr.lev y hv
        simp only [bc, VR.kn this, cond_true]
        exact hk _ _ this trivial
    · simp at h
  · rename_i t x ho
    simp only [ho]
    split at h
    · simp at h
    · rename_i res hng
      exact loadL_R hr hm h (fun a b c hx => hng a b c fs (by rw [h, hx])) hk
  · simp at h
  · rename_i hnp hnl hns
    obtain ⟨hkn, h⟩ := bif_some (x := (v, fs)) h
    have ha := hr.allKn hkn
    split
    · rename_i c x y ho; exact (hnp c x y ho).elim
    · rename_i t x ho; exact (hnl t x ho).elim
    · rename_i cs b ho; exact (hns cs b ho).elim
    · rw [ha]
      split at h
      · rename_i u hu
        simp only [Option.some.injEq, Prod.mk.injEq] at h
        obtain ⟨rfl, rfl⟩ := h
        exact pureL_D hr hkn hu fun v' hv' => hk v' [] hv' trivial
      · simp at h

theorem stepLR_K {K : Env → List Fct → Prop} {all : List Oper} {fs : List (Nat × Nat × LV)} (hr : ER P σ le e) (hm : MR P σ H w)
    (h : stepLR P all o le H = some (le', fs)) (hk : ∀ e' fs', ER P σ le' e' → All2 (FR σ) fs fs' → K e' fs') : denGR P all o e w K := by
  have run : ∀ {e0 : Env}, (∀ t, get e0 t = get e t) → (match opLR P le o H with
    | some (v, fs) => bif isKn v then some (lput le o.dst v, fs) else none
    | none => none) = some (le', fs) → opR P e0 o w fun v fs => K (putE e0 o.dst v) fs := by
    intro e0 he h
    split at h
    · rename_i v fs1 hv
      obtain ⟨hkv, h⟩ := bif_some (x := (le', fs)) h
      simp only [Option.some.injEq, Prod.mk.injEq] at h
      obtain ⟨rfl, rfl⟩ := h
      exact opLR_D (hr.congr he) hm hv hkv fun v' fs' hvr hf => hk _ _ ((hr.congr he).put hvr) hf
    · simp at h
  have skip : ∀ {e0 : Env}, (∀ t, get e0 t = get e t) → some (lput le o.dst (.tup []), []) = some (le', fs) → K (putE e0 o.dst undef) [] := by
    intro e0 he h
    simp only [Option.some.injEq, Prod.mk.injEq] at h
    obtain ⟨rfl, rfl⟩ := h
    exact hk _ _ ((hr.congr he).put undef_VR) trivial
  unfold stepLR guardL at h
  unfold denGR
  split at h
  · rename_i hg; rw [hg]; exact run (fun _ => rfl) h
  · rename_i j want hg
    rw [hg]
    dsimp only
    split at h
    · simp at h
    · rename_i t ht
      rw [ht]
      dsimp only
      split at h
      · rename_i l hl
        have hv := (hr.val t).resolve_left (by rw [hl]; simp)
        rw [hl] at hv
        obtain ⟨l', _, hv⟩ := hv
        rw [hv]
        exact skip (fun _ => rfl) h
      · rename_i b hl
        have hv := (hr.val t).resolve_left (by rw [hl]; simp)
        rw [hl] at hv
        have hv : get e t = .bool b := hv.1
        rw [hv]
        cases b with
        | true =>
          cases want with
          | true => exact run (fun s => get_known hv s) h
          | false => exact skip (fun s => get_known hv s) h
        | false =>
          cases want with
          | true => exact skip (fun s => get_known hv s) h
          | false => exact run (fun s => get_known hv s) h
      · simp at h

theorem stepLR_n {all : List Oper} {fs : List (Nat × Nat × LV)} (h : stepLR P all o le H = some (le', fs)) : le'.n = le.n ∧ le'.rd = le.rd ∧ le'.df = le.df := by
  have run : (match opLR P le o H with
    | some (v, fs) => bif isKn v then some (lput le o.dst v, fs) else none
    | none => none) = some (le', fs) → le'.n = le.n ∧ le'.rd = le.rd ∧ le'.df = le.df := by
    intro h
    split at h
    · obtain ⟨_, h⟩ := bif_some (x := (le', fs)) h
      simp only [Option.some.injEq, Prod.mk.injEq] at h
      rw [← h.1]; exact ⟨(lput_n _ _ _).1, (lput_n _ _ _).2.2.1, (lput_n _ _ _).2.1⟩
    · simp at h
  have skip : some (lput le o.dst (.tup []), ([] : List (Nat × Nat × LV))) = some (le', fs) → le'.n = le.n ∧ le'.rd = le.rd ∧ le'.df = le.df := by
    intro h
    simp only [Option.some.injEq, Prod.mk.injEq] at h
    rw [← h.1]; exact ⟨(lput_n _ _ _).1, (lput_n _ _ _).2.2.1, (lput_n _ _ _).2.1⟩
  unfold stepLR guardL at h
  split at h
  · exact run h
  · split at h
    · simp at h
    · split at h
      · exact skip h
      · rename_i want _ _ _ _ _ b _
        cases hb : (b == want) with
        | true => rw [hb] at h; exact run h
        | false => rw [hb] at h; exact skip h
      · simp at h

/-! facts that must still hold -/
theorem FR.mono (hx : Ext σ σ') {x : Nat × Nat × LV} {f : Fct} (h : FR σ x f) : FR σ' x f := by
  obtain ⟨r, v, h1, h2, h3⟩ := h
  exact ⟨r, v, hx _ _ h1, VR1.mono hx h2, h3⟩

theorem sameV_eq {a b : Value} (h : sameV a b = true) : a = b := by
  unfold sameV at h
  split at h <;> simp_all

theorem sameL_eq {u v : LV} {u' v' : Value} (h : sameL u v = true) (hu : VR1 σ u u') (hv : VR1 σ v v') : u' = v' := by
  unfold sameL at h
  split at h
  · rw [hu.1, hv.1]; exact sameV_eq h
  · simp only [Bool.and_eq_true, Nat.beq_eq] at h
    obtain ⟨rfl, rfl⟩ := h
    obtain ⟨r, h1, h2⟩ := hu
    obtain ⟨r', h1', h2'⟩ := hv
    rw [h1] at h1'; simp only [Option.some.injEq] at h1'; subst h1'
    rw [h2, h2']
  · simp only [Bool.and_eq_true, Nat.beq_eq] at h
    obtain ⟨⟨⟨rfl, rfl⟩, rfl⟩, rfl⟩ := h
    obtain ⟨r, c, h1, _, h2, h3⟩ := hu
    obtain ⟨r', c', h1', _, h2', h3'⟩ := hv
    rw [h1] at h1'; simp only [Option.some.injEq] at h1'; subst h1'
    simp only [if_true] at h2 h2'
    rw [h3, h3', h2, h2']
  · simp at h

theorem fctsL_K {X : Prop} (hm : MR P σ H w) (hX : X) : ∀ {fs : List (Nat × Nat × LV)} {fs' : List Fct}, fctsL P H fs = true → All2 (FR σ) fs fs' → fctK fs' w X
  | [], [], _, _ => hX
  | (b, off, v) :: fs, f :: fs', h, hf => by
    simp only [fctsL, Bool.and_eq_true] at h
    obtain ⟨⟨r, v', hb, hv, rfl⟩, hf⟩ := hf
    have h1 := h.1
    split at h1
    · rename_i u hg
      obtain ⟨u', hu, hc, _⟩ := hm.cell b off u r hb hg
      have := sameL_eq h1 hv hu
      subst this
      exact ⟨hc, fctsL_K hm hX h.2 hf⟩
    · simp at h1
  | [], _ :: _, _, hf => hf.elim
  | _ :: _, [], _, hf => hf.elim

def SR (σ : Sg) (x : Nat × List (Nat × Nat × LV)) (y : Nat × List Fct) : Prop := x.1 = y.1 ∧ All2 (FR σ) x.2 y.2

theorem pendL_K {X : Prop} (hm : MR P σ H w) {m : Nat} (hX : X) : ∀ {SL : List (Nat × List (Nat × Nat × LV))} {SL' : List (Nat × List Fct)}, pendL P H m SL = true → All2 (SR σ) SL SL' → pendK SL' m w X
  | [], [], _, _ => hX
  | (i, fs) :: SL, (j, fs') :: SL', h, hs => by
    obtain ⟨⟨h1, h2⟩, hs⟩ := hs
    simp only at h1
    subst h1
    simp only [pendL, Bool.and_eq_true] at h
    have ih := pendL_K hm hX h.2 hs
    simp only [pendK]
    cases hb : m.testBit i with
    | true => exact ih
    | false =>
      rw [hb, Bool.false_or] at h
      exact fctsL_K hm ih h.1 h2
  | [], _ :: _, _, hs => hs.elim
  | _ :: _, [], _, hs => hs.elim

theorem keepL_rel {m : Nat} : ∀ {SL : List (Nat × List (Nat × Nat × LV))} {SL' : List (Nat × List Fct)}, All2 (SR σ) SL SL' → All2 (SR σ) (keepL m SL) (keepSL m SL')
  | [], [], _ => trivial
  | (i, fs) :: SL, (j, fs') :: SL', hs => by
    obtain ⟨⟨h1, h2⟩, hs⟩ := hs
    simp only at h1
    subst h1
    have ih := keepL_rel (m := m) hs
    unfold keepL keepSL at ih ⊢
    cases hb : m.testBit i with
    | true => simpa [List.filter_cons, hb] using ih
    | false => simp only [List.filter_cons, hb, Bool.not_false, if_true]; exact ⟨⟨rfl, h2⟩, ih⟩
  | [], _ :: _, hs => hs.elim
  | _ :: _, [], hs => hs.elim

theorem plain_step {call : CallE} {all : List Oper} (hp : (match o.op with | .defer _ => false | _ => true) = true) : stepL P call all o le H = guardL all o le (fun le => some (le, H)) (fun le => match opL P call le o H with
    | some (v, H') => bif isKn v then some (lput le o.dst v, H') else none
    | none => none) := by
  unfold stepL
  split
  · rename_i c ho hg; rw [ho] at hp; simp at hp
  · rfl

theorem plL_n {call : CallE} {l : List Oper} {A : List Nat} (hp : plainOps l = true) : ∀ {pl : List (Nat × Nat)} {SL : List (Nat × List (Nat × Nat × LV))} {le : LE} {H : LHeap}, plL P call l A pl SL le H = some (le', H') →
    le'.n = le.n ∧ le'.rd = le.rd ∧ le'.df = le.df
  | [], SL, le, H, h => by
    simp only [plL, Option.some.injEq, Prod.mk.injEq] at h
    rw [← h.1]; exact ⟨rfl, rfl, rfl⟩
  | (r, i) :: pl, SL, le, H, h => by
    simp only [plL] at h
    split at h
    · simp at h
    · rename_i o ho
      cases hr : Nat.beq r 0 with
      | true =>
        rw [hr, cond_true] at h
        split at h
        · rename_i le1 fs h1
          have a := stepLR_n h1
          have b := plL_n hp h
          exact ⟨b.1.trans a.1, b.2.1.trans a.2.1, b.2.2.trans a.2.2⟩
        · simp at h
      | false =>
        rw [hr, cond_false] at h
        split at h
        · rename_i le1 H1 h1
          obtain ⟨_, h⟩ := bif_some (x := (le', H')) h
          have a := opL_n h1
          rw [plain_step (List.all_eq_true.1 hp o (List.mem_of_getElem? ho))] at h1
          have c := guardL_df h1
          have b := plL_n hp h
          exact ⟨b.1.trans a.1, b.2.1.trans a.2, b.2.2.trans c⟩
        · simp at h

theorem plL_D {call : CallE} (hcs : CS P call) {l : List Oper} {A : List Nat} (hp : plainOps l = true) {K : Env → World → Prop} : ∀ {pl : List (Nat × Nat)} {V : Nat} {SL : List (Nat × List (Nat × Nat × LV))} {SL' : List (Nat × List Fct)} {σ : Sg} {le : LE} {e : Env} {H : LHeap} {w : World},
    planOk l pl V = true → ER P σ le e → MR P σ H w → All2 (SR σ) SL SL' → plL P call l A pl SL le H = some (le', H') →
    (∀ σ' e' w', Ext σ σ' → ER P σ' le' e' → MR P σ' H' w' → K e' w') → denPl P l A K pl V SL' e w
  | [], V, SL, SL', σ, le, e, H, w, hpl, hr, hm, hs, h, hk => by
    simp only [plL, Option.some.injEq, Prod.mk.injEq] at h
    obtain ⟨rfl, rfl⟩ := h
    simp only [planOk] at hpl
    simp only [denPl, hpl, cond_true]
    exact hk σ e w (Ext.refl σ) hr hm
  | (r, i) :: pl, V, SL, SL', σ, le, e, H, w, hpl, hr, hm, hs, h, hk => by
    simp only [plL] at h
    simp only [planOk] at hpl
    simp only [denPl]
    split at h
    · simp at h
    · rename_i o ho
      rw [ho] at hpl ⊢
      simp only [Bool.and_eq_true] at hpl
      obtain ⟨⟨⟨h1, h2⟩, h3⟩, h4⟩ := hpl
      simp only [h1, h2, Bool.and_self, cond_true]
      cases hr0 : Nat.beq r 0 with
      | true =>
        rw [hr0, cond_true] at h
        simp only [cond_true]
        split at h
        · rename_i le1 fs h5
          refine stepLR_K hr hm h5 fun e' fs' hr' hf => ?_
          exact plL_D (SL := (i, fs) :: SL) hcs hp h4 hr' hm ⟨⟨rfl, hf⟩, hs⟩ h hk
        · simp at h
      | false =>
        rw [hr0, cond_false] at h
        rw [hr0, Bool.false_or] at h3
        simp only [h3, cond_true, cond_false]
        split at h
        · rename_i le1 H1 h5
          obtain ⟨h6, h⟩ := bif_some (x := (le', H')) h
          rw [plain_step (List.all_eq_true.1 hp o (List.mem_of_getElem? ho))] at h5
          refine guardL_K hcs hr hm h5 fun σ' e' w' hx hr' hm' => ?_
          have hs' : All2 (SR σ') SL SL' := hs.imp fun x y hxy => ⟨hxy.1, hxy.2.imp fun _ _ => FR.mono hx⟩
          exact pendL_K hm' (plL_D hcs hp h4 hr' hm' (keepL_rel hs') h fun σ'' e'' w'' hx' hr'' hm'' => hk σ'' e'' w'' (hx.trans hx') hr'' hm'') h6 hs'
        · simp at h

/-- A region. -/
theorem regL_wp {call : CallE} {pls : Plans} {id : Nat} {ops : Array Oper} {dr : Bool} {out : Out} {r : Option Nat} {Q : Exit → Act → World → Prop} (hcs : CS P call) (hA : AR P σ le a) (hrd : le.rd = r.isSome) (hm : MR P σ H w)
    (hd : ops.toList.all (dstLt le.n) = true) (h : regL P pls call id ops.toList dr le H = some (out, le', H'))
    (hn : ∀ σ' a' w', Ext σ σ' → AR P σ' le' a' → MR P σ' H' w' → le'.n = le.n → le'.rd = le.rd → out = .nx → Q .normal a' w') : (Code.region id ops dr).wpIn (FW r) 0 P Q a w := by
  unfold regL at h
  cases dr with
  | false =>
    simp only [cond_false] at h
    split at h
    · rename_i le1 H1 h1
      simp only [Option.some.injEq, Prod.mk.injEq] at h
      obtain ⟨rfl, rfl, rfl⟩ := h
      refine wpIn_region_list ?_
      have := opsL_wp (r := r) (Q := Q) hcs hA hrd hm hd h1 fun σ' a' w' hx hA' hm' h3 h4 => hn σ' a' w' hx hA' hm' h3 h4 rfl
      have e0 : ops.toList.toArray = ops := by simp
      rw [e0] at this
      exact this
    · simp at h
  | true =>
    simp only [cond_true] at h
    split at h
    · rename_i le1 H1 h1
      simp only [Option.some.injEq, Prod.mk.injEq] at h
      obtain ⟨ho, hl, hH⟩ := h
      subst hl; subst hH
      split at h1
      · simp at h1
      · rename_i pl hpl
        obtain ⟨hc, h1⟩ := bif_some (x := (le1, H1)) h1
        simp only [Bool.and_eq_true] at hc
        obtain ⟨h2, h3, h4, h5⟩ := hc
        obtain ⟨e, hr, hs⟩ := hA.env
        have hn' := plL_n h5 h1
        refine denDraw_wp (pl := planOf pls id) (K := NX P σ le1 H1) (D := a.defers) hd (fun e' a' w' hs' hk => ?_) hs (fun t ht => ?_) ?_
        · obtain ⟨σ', hx, hr', hm'⟩ := hk
          refine hn σ' a' w' hx (AR.of (D := a.defers) hr' (by rw [hn'.1]; exact hs') ?_) hm' hn'.1 hn'.2.1 ho.symm
          rw [hn'.2.2]; exact hA.d.imp fun _ _ => DR1.mono hx
        · rcases hs.2.2 t with h6 | h6
          · exact absurd h6 ht
          · rw [← hs.2.1]; exact (Array.getElem?_eq_some_iff.1 h6).1
        · unfold denDraw
          rw [h2, h3]
          simp only [Bool.and_self, cond_true]
          intro w' hw'
          subst hw'
          exact plL_D hcs h5 h4 hr hm.drew (SL := []) (SL' := []) trivial h1 fun σ' e' w' hx hr' hm' => ⟨σ', hx, hr', hm'⟩
    · simp at h
end
end Go.Den
