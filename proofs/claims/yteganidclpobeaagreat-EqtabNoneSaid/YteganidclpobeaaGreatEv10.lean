/- Ev10: more operations on the heap. Own work; a part of the proof of a claim. Conditions: none beyond those that stand in each theorem. -/
import Derived.Test.YteganidclpobeaaGreatEv9
/- Ev10: more operations on the heap. -/
set_option linter.unusedSimpArgs false
set_option linter.unusedVariables false
namespace Go.Den
open Go
section
variable {P : Program} {σ σ' : Sg} {le : LE} {e : Env} {o : Oper} {H H' : LHeap} {w : World} {K : Value → World → Prop}

theorem madeCells_get {z : Array Value} {n i : Nat} (hz : 0 < z.size) (hi : i < n) : (madeCells z n)[i]? = z[i % z.size]? := by
  have hm := Nat.mod_lt i hz
  simp [madeCells, hi, hm]

theorem makeL_D {t : TypeId} {l c : Operand} {v : LV} (hr : ER P σ le e) (hm : MR P σ H w) (h : makeL P t (lev le l) (lev le c) H = some (v, H')) (hk : ∀ σ' v' w', Ext σ σ' → VR P σ' v v' → MR P σ' H' w' → K v' w') :
    mkD P t w (ev e l) (ev e c) K := by
  unfold makeL at h
  split at h
  · rename_i el kl l' kc c' hu hl hc
    obtain ⟨hb, h⟩ := bif_some (x := (v, H')) h
    simp only [Bool.and_eq_true, decide_eq_true_eq] at hb
    split at h
    · rename_i k hk'
      unfold zerosB at hk'
      obtain ⟨hn, hk'⟩ := bif_some (x := k) hk'
      have hn : 0 < zLen P el := by simpa [Nat.blt_eq] using hn
      simp only [Option.some.injEq] at hk'; subst hk'
      obtain ⟨b, hnew, rfl⟩ := newL_out h
      obtain ⟨z, h1, h2, h3, h4⟩ := zList_out hn
      have hsz : zLen P el = P.cellsOf el := Nat.eq_of_beq_eq_true hb.2
      unfold mkD
      rw [hu, (hr.sc hl).1, (hr.sc hc).1]
      dsimp only
      rw [show (zc P el).isSome = true by rw [h1]; rfl, cond_true]
      refine ⟨⟨hb.1.1.1.1, hb.1.1.1.2, hb.1.1.2, hb.1.2⟩, fun w' hw' => ?_⟩
      subst hw'
      obtain ⟨hx, hm'⟩ := hm.new hnew (cs := zcN P el c'.toNat) (el := el) 0 (wf_nil _) (zero_cells hn (fun z' hz' hs o ho => by
        rw [h1] at hz'; simp only [Option.some.injEq] at hz'; subst hz'
        unfold zcN
        rw [h1, Option.getD_some, madeCells_get (by omega) (by rw [← hsz]; exact ho), hs]))
      exact hk _ _ _ hx ⟨_, c'.toNat, Sg.put_same _ _ _, Nat.le_refl _, rfl, rfl⟩ hm'
    · simp at h
  · simp at h

theorem All2_of_get {α β : Type} {R : α → β → Prop} : ∀ {l : List α} {m : List β}, l.length = m.length → (∀ (i : Nat) (a : α) (b : β), l[i]? = some a → m[i]? = some b → R a b) → All2 R l m
  | [], [], _, _ => trivial
  | a :: l, b :: m, hl, h => ⟨h 0 a b rfl rfl, All2_of_get (by simpa using hl) fun i x y hx hy => h (i + 1) x y (by simpa using hx) (by simpa using hy)⟩
  | [], _ :: _, hl, _ => by simp at hl
  | _ :: _, [], hl, _ => by simp at hl

theorem buildSliceL_D {t : TypeId} {len : Nat} {parts : Array (Nat × Operand)} {v : LV} (hr : ER P σ le e) (hm : MR P σ H w) (h : buildSliceL P t len (partsL le parts) H = some (v, H'))
    (hk : ∀ σ' v' w', Ext σ σ' → VR P σ' v v' → MR P σ' H' w' → K v' w') : bsD P t len (parts.toList.map fun p => (p.1, ev e p.2)) w K := by
  unfold buildSliceL at h
  split at h
  · rename_i el hu
    obtain ⟨hb, h⟩ := bif_some (x := (v, H')) h
    simp only [Bool.and_eq_true] at hb
    have hn : 0 < zLen P el := by simpa [Nat.blt_eq] using hb.2
    have hsz : zLen P el = P.cellsOf el := Nat.eq_of_beq_eq_true hb.1.2
    obtain ⟨z, h1, h2, h3, h4⟩ := zList_out hn
    split at h
    · rename_i l hl
      obtain ⟨b, hnew, rfl⟩ := newL_out h
      have hp := partsR_lev hr parts
      rw [Array.toList_map] at hp
      obtain ⟨a', hfill, ha⟩ := fillL_rel (σ := σ) (a := (Array.range (len * P.cellsOf el)).map (z[· % z.size]!)) hl hp (by
        refine All2_of_get (by simp [hsz]) fun i a b hia hib => ?_
        have hi : i < len * zLen P el := by
          rcases Nat.lt_or_ge i (len * zLen P el) with h' | h'
          · exact h'
          · rw [List.getElem?_eq_none (by simpa using h')] at hia; simp at hia
        have hmod := Nat.mod_lt i hn
        rw [← h4] at hmod
        simp only [List.getElem?_map, List.getElem?_range hi, Option.map_some, Option.some.injEq] at hia
        rw [Array.getElem?_toList] at hib
        simp only [Array.getElem?_map, Array.getElem?_range, show i < len * P.cellsOf el by rw [← hsz]; exact hi, if_true, Option.map_some, Option.some.injEq] at hib
        rw [h3, ← h4] at hia
        simp [hmod] at hia hib
        subst hia; subst hib
        rw [List.all_eq_true] at h2
        exact ⟨rfl, h2 _ (by simp)⟩)
      unfold bsD
      have hbs : bsC P t len (parts.toList.map fun p => (p.1, ev e p.2)) = some (el, a') := by
        unfold bsC
        rw [hu]
        dsimp only
        by_cases h0 : len * P.cellsOf el = 0
        · have e0 : Nat.beq (len * P.cellsOf el) 0 = true := by rw [h0]; rfl
          rw [hb.1.1.1, hb.1.1.2, e0]
          have : (Array.range (len * P.cellsOf el)) = #[] := by rw [h0]; rfl
          rw [this] at hfill ⊢
          simp only [Array.map_empty] at hfill
          simp [hfill]
        · have e0 : Nat.beq (len * P.cellsOf el) 0 = false := by rw [Bool.eq_false_iff]; intro hb'; exact h0 (Nat.eq_of_beq_eq_true hb')
          rw [hb.1.1.1, hb.1.1.2, e0, h1]
          simp only [cond_false, Option.isSome_some, Bool.and_self, cond_true, Option.getD_some]
          rw [hfill]; rfl
      rw [hbs]
      dsimp only
      intro w' hw'; subst hw'
      obtain ⟨hw, hcell⟩ := listB_cells (P := P) ha
      obtain ⟨hx, hm'⟩ := hm.new hnew (cs := a') (el := el) 0 hw hcell
      exact hk _ _ _ hx ⟨_, len, Sg.put_same _ _ _, Nat.le_refl _, rfl, rfl⟩ hm'
    · simp at h
  · simp at h

theorem rangeL_D {t : TypeId} {x : Operand} {v : LV} (hr : ER P σ le e) (hm : MR P σ H w) (h : rangeL P t (lev le x) H = some (v, H')) (hk : ∀ σ' v' w', Ext σ σ' → VR P σ' v v' → MR P σ' H' w' → K v' w') :
    rgD P t (ev e x) w K := by
  unfold rangeL at h
  split at h
  · rename_i s hu hx
    obtain ⟨hb, h⟩ := bif_some (x := (v, H')) h
    have hlt : H.next < TM := by simpa [Nat.blt_eq] using hb
    simp only [Option.some.injEq, Prod.mk.injEq] at h
    obtain ⟨rfl, rfl⟩ := h
    unfold rgD
    rw [hu, (hr.sc hx).1]
    dsimp only
    intro w' hw'; subst hw'
    obtain ⟨hx', hm'⟩ := hm.newObj hlt (.it s 0) 0 rfl
    exact hk _ _ _ hx' ⟨_, Sg.put_same _ _ _, rfl⟩ hm'
  · simp at h

theorem nextL_D {x : Operand} {str : Bool} {v : LV} (hr : ER P σ le e) (hm : MR P σ H w) (h : nextL (lev le x) str H = some (v, H')) (hk : ∀ σ' v' w', Ext σ σ' → VR P σ' v v' → MR P σ' H' w' → K v' w') :
    nxD (ev e x) str w K := by
  unfold nextL at h
  split at h
  · rename_i b hx
    have h1 := hr.lev x (by rw [hx]; rfl); rw [hx] at h1
    obtain ⟨r, hs, hv⟩ := h1
    split at h
    · rename_i s pos hi
      obtain ⟨oreal, hor, hreal⟩ := hm.its b _ r hs hi
      obtain rfl : oreal = .stringIter s pos := hor
      unfold nxD
      rw [hv]
      refine ⟨s, pos, hreal, ?_⟩
      cases hb : Nat.blt pos s.size with
      | true =>
        rw [hb, cond_true] at h
        have hlt : pos < s.size := by simpa [Nat.blt_eq] using hb
        rw [decide_eq_true hlt]
        simp only [Option.some.injEq, Prod.mk.injEq] at h
        obtain ⟨rfl, rfl⟩ := h
        show ∀ w', _ → _
        intro w' hw'; subst hw'
        exact hk σ _ _ (Ext.refl σ) ⟨[.bool true, .int .i64 pos, .int .i32 (Utf8.decode s pos).1], ⟨⟨rfl, rfl⟩, ⟨rfl, rfl⟩, ⟨rfl, rfl⟩, trivial⟩, rfl⟩ (hm.setObj (y := .it s (pos + (Utf8.decode s pos).2)) hs hi rfl)
      | false =>
        rw [hb, cond_false] at h
        have hlt : ¬ pos < s.size := by intro h'; rw [blt_true h'] at hb; simp at hb
        rw [decide_eq_false hlt]
        simp only [Option.some.injEq, Prod.mk.injEq] at h
        obtain ⟨rfl, rfl⟩ := h
        exact hk σ _ _ (Ext.refl σ) ⟨[.bool false], ⟨⟨rfl, rfl⟩, trivial⟩, rfl⟩ hm
    · simp at h
  · simp at h

end
end Go.Den
