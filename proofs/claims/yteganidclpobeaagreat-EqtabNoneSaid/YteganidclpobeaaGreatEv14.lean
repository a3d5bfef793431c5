/- Ev14: one operation. Own work; a part of the proof of a claim. Conditions: none beyond those that stand in each theorem. -/
import Derived.Test.YteganidclpobeaaGreatEv13
import Derived.Laws.IdiomCopy
/- Ev14: one operation. -/
set_option linter.unusedSimpArgs false
set_option linter.unusedVariables false
namespace Go.Den
open Go
section
variable {P : Program} {σ σ' : Sg} {le : LE} {e : Env} {o : Oper} {H H' : LHeap} {w : World} {K : Value → World → Prop}

/-- What a call leaves. -/
def RS (P : Program) (σ : Sg) (v : LV) (H' : LHeap) (v' : Value) (w' : World) : Prop := ∃ σ', Ext σ σ' ∧ VR P σ' v v' ∧ MR P σ' H' w'

/-- What is asked of calls. -/
structure CS (P : Program) (call : CallE) : Prop where
  fn : ∀ {k args H v H' σ w args'}, call .fn k args H = some (v, H') → isGo P k = true → MR P σ H w → All2 (VR P σ) args args' → CALL P k ⟨args'⟩ w (RS P σ v H')
  yl : ∀ {b args H v H' σ w args' r}, call .yl b args H = some (v, H') → σ b = some r → MR P σ H w → All2 (VR P σ) args args' → YLD P r.1 ⟨args'⟩ w (RS P σ v H')

theorem CALL_mono {k : FuncId} {args : Array Value} {K K' : Value → World → Prop} (h : CALL P k args w K) (hk : ∀ v w, K v w → K' v w) : CALL P k args w K' :=
  ⟨h.1, h.2.mono fun x w hx => by cases x <;> first | exact hk _ _ hx | exact hx.elim⟩

theorem YLD_mono {l : Nat} {args : Array Value} {K K' : Value → World → Prop} (h : YLD P l args w K) (hk : ∀ v w, K v w → K' v w) : YLD P l args w K' := by
  obtain ⟨f, tmps, assign, body, h1, h2⟩ := h
  exact ⟨f, tmps, assign, body, h1, h2.mono fun x w hx => by cases x <;> first | exact hk _ _ hx | exact hx.elim⟩

theorem VR.of0 {v : LV} {v' : Value} (h : VR0 σ v v') : VR P σ v v' := VR.of1 (by cases v <;> first | exact h | exact h.elim)

theorem All2_levs (hr : ER P σ le e) : ∀ {l : List Operand}, (∀ x ∈ l, isKn (lev le x) = true) → All2 (VR P σ) (l.map (lev le)) (l.map (ev e))
  | [], _ => trivial
  | x :: l, h => ⟨hr.lev x (h x (by simp)), All2_levs hr fun y hy => h y (by simp [hy])⟩

theorem allKnL_mem {l : List Operand} (h : allKnL le l = true) {x : Operand} (hx : x ∈ l) : isKn (lev le x) = true := List.all_eq_true.1 h x hx

theorem All2_oneB {l : List LV} {l' : List Value} (h : All2 (VR1 σ) l l') : oneB l' = true := All2.oneB h

theorem copyL_run {t u : TypeId} {ty : TypeId} {x y : Operand} {v : LV} (hr : ER P σ le e) (hm : MR P σ H w) (h : copyL P t (lev le x) (lev le y) H = some (v, H')) :
    ∃ v' w', VR P σ v v' ∧ (Builtin.copy_ #[t, u] ty #[ev e x, ev e y]).run P w = .ok v' w' ∧ MR P σ H' w' := by
  unfold copyL at h
  split at h
  case h_2 => simp at h
  rename_i el hu
  obtain ⟨hsz, h⟩ := bif_some (x := (v, H')) h
  simp only [Bool.and_eq_true] at hsz
  have h1 : P.cellsOf el = 1 := Nat.eq_of_beq_eq_true hsz.1
  obtain ⟨i, hi⟩ := Option.isSome_iff_exists.1 hsz.2
  have hi1 : i.size = 1 := by
    unfold Program.cellsOf at h1
    rw [hi] at h1
    simpa using h1
  split at h
  case h_2 => simp at h
  rename_i bd nd cd xd bs ns cs xs hbd hbs
  obtain ⟨based, cd', hvx, hbr⟩ := baseOf_rel hr hbd
  obtain ⟨bases, cs', hvy, hsr⟩ := baseOf_rel hr hbs
  rw [hvx, hvy]
  split at h
  · rename_i b o b' o'
    obtain ⟨r, hs, rfl, _, _⟩ := hbr
    obtain ⟨r', hs', rfl, _, _⟩ := hsr
    split at h
    case h_2 => simp at h
    rename_i vs hg
    obtain ⟨hone, h⟩ := bif_some (x := (v, H')) h
    split at h
    case h_2 => simp at h
    rename_i H1 hset
    simp only [Option.some.injEq, Prod.mk.injEq] at h
    obtain ⟨rfl, rfl⟩ := h
    obtain ⟨l', ha, hrd⟩ := hm.getN hs' (q := o') (i := 0) hg rfl
    obtain ⟨hl, _⟩ := LHeap.getN_out hg
    have hl' : l'.length = Nat.min ns nd := by rw [← ha.length, hl]
    obtain ⟨hwb, hm'⟩ := MR.setN (q := o) (i := 0) hm hs ha hset rfl
    have hload := run_loadCells_list (P := P) w ⟨r'.1, o', none⟩ l' (fun j v hj => by have := Rd_get hrd j v hj; simpa using this)
    have hst := run_storeCells (P := P) l' w ⟨r.1, o, none⟩ 0 hwb (All2.oneB ha)
    refine ⟨.int .i64 (Nat.min ns nd), _, ⟨rfl, rfl⟩, ?_, hm'⟩
    rw [hl'] at hload
    simp [Builtin.copy_, run_underlying hu, Builtin.lenOf, Builtin.firstCells, sizeOf, typeInfo, hi, hi1, hload, hst, goInt]
  · rename_i hnn
    obtain ⟨h0, h⟩ := bif_some (x := (v, H')) h
    have h0 := Nat.eq_of_beq_eq_true h0
    simp only [Option.some.injEq, Prod.mk.injEq] at h
    obtain ⟨rfl, rfl⟩ := h
    refine ⟨.int .i64 0, w, ⟨rfl, rfl⟩, ?_, hm⟩
    exact run_copy_none w t u ty el based bases nd cd' ns cs' hu (by rw [hi]; simp [hi1]) h0

theorem opW_core {call : CallE} {v : LV} (hcs : CS P call) (hr : ER P σ le e) (hm : MR P σ H w) (hkn : allKnL le (opnds o.op) = true) (h : opW P call le o H = some (v, H'))
    (hk : ∀ σ' v' w', Ext σ σ' → VR P σ' v v' → MR P σ' H' w' → K v' w') : core P (ev e) o w K := by
  have pu : (match pureL P le o with | some v => some (v, H) | none => none) = some (v, H') → pureD P (ev e) o (fun v => K v w) := by
    intro h
    split at h
    · rename_i u hu
      simp only [Option.some.injEq, Prod.mk.injEq] at h
      obtain ⟨rfl, rfl⟩ := h
      exact pureL_D hr hkn hu fun v' hv => hk σ v' w (Ext.refl σ) hv hm
    · simp at h
  have kn := fun x hx => allKnL_mem (le := le) hkn (x := x) hx
  unfold opW at h
  unfold core
  cases ho : o.op <;> simp only [ho] at h ⊢
  case load t x =>
    split at h
    · rename_i u fs hu
      simp only [Option.some.injEq, Prod.mk.injEq] at h
      obtain ⟨rfl, rfl⟩ := h
      exact loadL_D (K := K) hr hm hu fun v' hv => hk σ v' w (Ext.refl σ) hv hm
    · simp at h
  case store t x y =>
    split at h
    · rename_i H1 hu
      simp only [Option.some.injEq, Prod.mk.injEq] at h
      obtain ⟨rfl, rfl⟩ := h
      exact storeL_D hr hm (kn y (by rw [ho]; simp [opnds])) hu fun w' hm' => hk σ _ w' (Ext.refl σ) ⟨[], trivial, rfl⟩ hm'
    · simp at h
  case alloc t => exact allocL_D hm h hk
  case box t x => exact boxL_D hr hm h hk
  case buildSlice t len parts => exact buildSliceL_D hr hm h hk
  case makeSlice t l c => exact makeL_D hr hm h hk
  case range t x => exact rangeL_D hr hm h hk
  case next it str => exact nextL_D hr hm h hk
  case makeMap t r =>
    cases r with
    | none =>
      obtain ⟨σ', v', w', h1, h2, h3, h4⟩ := makeMap_run hm h
      exact .inl ⟨v', w', by simp only [execOp, ho, Option.map_none, Sem.run_bind, h3, Result.andThen, Sem.run_pure], hk σ' v' w' h1 h2 h4⟩
    | some r =>
      exfalso
      simp only at h
      unfold pureL at h
      simp [ho] at h
  case lookup t x i ok =>
    split at h
    · rename_i u hu
      simp only [Option.some.injEq, Prod.mk.injEq] at h
      obtain ⟨rfl, rfl⟩ := h
      obtain ⟨v', h1, h2⟩ := lookup_run hm hu (hr.lev x (kn x (by rw [ho]; simp [opnds]))) (hr.lev i (kn i (by rw [ho]; simp [opnds])))
      exact .inl ⟨v', w, by simp only [execOp, ho, Sem.run_bind, h2, Result.andThen, Sem.run_pure], hk σ v' w (Ext.refl σ) h1 hm⟩
    · simp at h
  case mapUpdate t m i x =>
    split at h
    · rename_i H1 hu
      simp only [Option.some.injEq, Prod.mk.injEq] at h
      obtain ⟨rfl, rfl⟩ := h
      obtain ⟨w', h1, h2⟩ := mapUpdate_run hm hu (hr.lev m (kn m (by rw [ho]; simp [opnds]))) (hr.lev i (kn i (by rw [ho]; simp [opnds]))) (hr.lev x (kn x (by rw [ho]; simp [opnds])))
      exact .inr ⟨w', by simp only [execOp, ho, Sem.run_bind, h1, Result.andThen, Sem.run_pure], hk σ _ w' (Ext.refl σ) ⟨[], trivial, rfl⟩ h2⟩
    · simp at h
  case mapEntry t m i =>
    obtain ⟨v', w', h1, h2, h3⟩ := mapEntry_run hm h (hr.lev m (kn m (by rw [ho]; simp [opnds]))) (hr.lev i (kn i (by rw [ho]; simp [opnds])))
    exact .inl ⟨v', w', by simp only [execOp, ho, Sem.run_bind, h2, Result.andThen, Sem.run_pure], hk σ v' w' (Ext.refl σ) h1 h3⟩
  case entryStore t m s x =>
    split at h
    · rename_i H1 hu
      simp only [Option.some.injEq, Prod.mk.injEq] at h
      obtain ⟨rfl, rfl⟩ := h
      obtain ⟨w', h1, h2⟩ := entryStore_run (t := t) hm hu (hr.lev m (kn m (by rw [ho]; simp [opnds]))) (hr.lev s (kn s (by rw [ho]; simp [opnds]))) (hr.lev x (kn x (by rw [ho]; simp [opnds])))
      exact .inr ⟨w', by simp only [execOp, ho, Sem.run_bind, h1, Result.andThen, Sem.run_pure], hk σ _ w' (Ext.refl σ) ⟨[], trivial, rfl⟩ h2⟩
    · simp at h
  case call c =>
    split at h
    · rename_i f hf
      have kf : isKn (lev le f) = true := kn f (by rw [ho]; simp [opnds, hf])
      have ka := All2_levs hr (l := c.args.toList) fun x hx => kn x (by rw [ho]; simp only [opnds, hf]; exact List.mem_append_right _ hx)
      have hv := hr.lev f kf
      simp only [hf]
      split at h
      · rename_i k fs cs hl
        rw [hl] at hv
        obtain ⟨fs', cs', hfs, hcs', hv⟩ := hv
        obtain ⟨hg, h⟩ := bif_some (x := (v, H')) h
        split at h
        · rename_i u H1 hc
          obtain ⟨hsh, h⟩ := bif_some (x := (v, H')) h
          simp only [Option.some.injEq, Prod.mk.injEq] at h
          obtain ⟨rfl, rfl⟩ := h
          have := hcs.fn hc hg hm (All2.append (All2.append (hfs.imp fun _ _ => VR.of0) ka) (hcs'.imp fun _ _ => VR.of0))
          unfold resD
          rw [hv]
          simp only
          have e1 : (⟨fs'⟩ : Array Value) ++ (⟨c.args.toList.map (ev e)⟩ : Array Value) ++ (⟨cs'⟩ : Array Value) = ⟨fs' ++ c.args.toList.map (ev e) ++ cs'⟩ := by simp
          rw [e1]
          refine CALL_mono this fun v' w' ⟨σ', hx, hv', hm'⟩ => ex3_in hsh hv' ⟨rfl, hk σ' v' w' hx hv' hm'⟩
        · simp at h
      · rename_i b hl
        rw [hl] at hv
        obtain ⟨r, hs, hv⟩ := hv
        have := hcs.yl h hs hm ka
        unfold resD
        rw [hv]
        exact YLD_mono this fun v' w' ⟨σ', hx, hv', hm'⟩ => hk σ' v' w' hx hv' hm'
      · simp at h
    · rename_i hc
      simp only [hc]
      split at h
      · rename_i x y t u ha ht
        obtain ⟨hb, h⟩ := bif_some (x := (v, H')) h
        simp only [ha, ht, hb, cond_true]
        exact appL_D hr hm h hk
      · simp at h
    · rename_i hc
      simp only [hc]
      split at h
      · rename_i x y t u ha ht
        obtain ⟨v', w', h1, h2, h3⟩ := copyL_run (u := u) (ty := o.type) hr hm h
        refine .inl ⟨v', w', ?_, hk σ v' w' (Ext.refl σ) h1 h3⟩
        have e1 : c.args = #[x, y] := by cases hca : c.args; simp_all
        have e2 : c.argTypes = #[t, u] := by cases hct : c.argTypes; simp_all
        have hce : c = { callee := .builtin .copy, args := #[x, y], argTypes := #[t, u] } := by cases c; simp_all
        unfold execOp
        rw [ho, hce]
        simp [resolve, invoke, builtin, h2, Result.andThen]
      · simp at h
    · rename_i hnv hna hnc
      have := pu h
      split
      · rename_i f hf; exact (hnv f hf).elim
      · rename_i hf; exact (hna hf).elim
      · rename_i hf; exact (hnc hf).elim
      · exact this
  all_goals exact pu h

theorem opL_D {call : CallE} {v : LV} (hcs : CS P call) (hr : ER P σ le e) (hm : MR P σ H w) (h : opL P call le o H = some (v, H')) (hv : isKn v = true)
    (hk : ∀ σ' v' w', Ext σ σ' → VR P σ' v v' → MR P σ' H' w' → K v' w') : denOp P e o w K := by
  unfold opL at h
  unfold denOp
  split at h
  · rename_i c x y ho
    simp only [ho]
    split at h
    · rename_i b hc
      simp only [Option.some.injEq, Prod.mk.injEq] at h
      obtain ⟨rfl, rfl⟩ := h
      rw [(hr.sc hc).1]
      cases b with
      | true =>
        have := hr.lev x hv
        simp only [bc, VR.kn this, cond_true]
        exact hk σ _ w (Ext.refl σ) this hm
      | false =>
        have := hr.lev y hv
        simp only [bc, VR.kn this, cond_true]
        exact hk σ _ w (Ext.refl σ) this hm
    · simp at h
  · simp at h
  · rename_i hnp hns
    obtain ⟨hkn, h⟩ := bif_some (x := (v, H')) h
    have hc := opW_core hcs hr hm hkn h hk
    have ha := hr.allKn hkn
    split
    · rename_i c x y ho; exact (hnp c x y ho).elim
    · rename_i cs b ho; exact (hns cs b ho).elim
    · rw [ha]; exact hc
end
end Go.Den
