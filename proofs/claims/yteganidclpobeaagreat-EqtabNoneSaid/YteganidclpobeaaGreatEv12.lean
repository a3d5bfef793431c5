/- Ev12: append, what it stands for. Own work; a part of the proof of a claim. Conditions: none beyond those that stand in each theorem. -/
import Derived.Test.YteganidclpobeaaGreatEv11
/- Ev12: append, what it stands for. -/
set_option linter.unusedSimpArgs false
set_option linter.unusedVariables false
namespace Go.Den
open Go
section
variable {P : Program} {σ σ' : Sg} {le : LE} {e : Env} {o : Oper} {H H' : LHeap} {w : World} {K : Value → World → Prop}

/-- Where a slice lies. -/
def BaseR (σ : Sg) (sb : Option (Nat × Nat)) (c : Nat) (ex : Bool) (base : Option Addr) (c' : Nat) : Prop :=
  match sb with
  | none => base = none ∧ c' = c ∧ ex = true
  | some (b, o) => ∃ r, σ b = some r ∧ base = some ⟨r.1, o, none⟩ ∧ c ≤ c' ∧ (if ex then c' = c else o = 0 ∧ c' = r.2)

theorem baseOf_rel {x : Operand} {sb : Option (Nat × Nat)} {n c : Nat} {ex : Bool} (hr : ER P σ le e) (h : baseOf (lev le x) = some (sb, n, c, ex)) : ∃ base c', ev e x = .slice base n c' ∧ BaseR σ sb c ex base c' := by
  unfold baseOf at h
  split at h
  · rename_i n' c' hx
    simp only [Option.some.injEq, Prod.mk.injEq] at h
    obtain ⟨rfl, rfl, rfl, rfl⟩ := h
    exact ⟨none, c', (hr.sc hx).1, rfl, rfl, rfl⟩
  · rename_i b of n' c' ex' hx
    simp only [Option.some.injEq, Prod.mk.injEq] at h
    obtain ⟨rfl, rfl, rfl, rfl⟩ := h
    have h1 := hr.lev x (by rw [hx]; rfl); rw [hx] at h1
    obtain ⟨r, cc, hs, hc, he, hv⟩ := h1
    exact ⟨_, cc, hv, r, hs, rfl, hc, he⟩
  · simp at h

theorem newsL_rel {xb : Option (Nat × Nat)} {k c c' : Nat} {ex : Bool} {base : Option Addr} {l : List LV} (hm : MR P σ H w) (hb : BaseR σ xb c ex base c') (h : newsL P H xb k = some l) :
    ∃ l', All2 (VR1 σ) l l' ∧ l'.length = k ∧ (k = 0 ∨ optP base fun q => Rd w q 0 l') := by
  unfold newsL at h
  split at h
  · rename_i b of
    obtain ⟨r, hs, rfl, _, _⟩ := hb
    obtain ⟨l', ha, hrd⟩ := hm.getN hs (q := of) (i := 0) h rfl
    obtain ⟨hl, _⟩ := LHeap.getN_out h
    exact ⟨l', ha, by rw [← ha.length, hl], .inr hrd⟩
  · obtain ⟨h0, h⟩ := bif_some (x := l) h
    simp only [Option.some.injEq] at h; subst h
    have := Nat.eq_of_beq_eq_true h0
    exact ⟨[], trivial, by simp [this], .inl this⟩

theorem size_zcA {el : TypeId} (hz : zLen P el = P.cellsOf el) (hn : 0 < zLen P el) (k : Nat) : (zcA P el k).size = k * P.cellsOf el := by
  obtain ⟨z, h1, _, _, h4⟩ := zList_out hn
  unfold zcA
  rw [h1]
  simp [Builtin.zeroCells, h4, hz]

/-- A slice that outgrows its place. -/
theorem grow_rel {el : TypeId} {l : List LV} {l' : List Value} {n c' : Nat} {v : LV} (hm : MR P σ H w) (hz : zLen P el = P.cellsOf el) (hn : 0 < zLen P el) (ha : All2 (VR1 σ) l l') (hl : l'.length = n * P.cellsOf el) (hc : n ≤ c')
    (h : newAp H l n (P.cellsOf el) = some (v, H')) :
    ∃ σ', Ext σ σ' ∧ VR P σ' v (.slice (some ⟨w.heap.size, 0, none⟩) n c') ∧ MR P σ' H' ((World.drew w).alloc (.cells (l'.toArray ++ zcA P el (c' - n)) el)) := by
  unfold newAp at h
  cases hnew : H.new (listB l) with
  | none => simp [hnew] at h
  | some x =>
    obtain ⟨b, H1⟩ := x
    simp only [hnew, Option.some.injEq, Prod.mk.injEq] at h
    obtain ⟨rfl, rfl⟩ := h
    obtain ⟨hw, hcell⟩ := listB_cells (P := P) (cs := l'.toArray) (by simpa using ha)
    obtain ⟨hx, hm'⟩ := hm.drew.new hnew (cs := l'.toArray ++ zcA P el (c' - n)) (el := el) c' hw (fun o lv hg => by
      obtain ⟨u, h1, h2⟩ := hcell o lv hg
      refine ⟨u, h1, ?_⟩
      rw [Array.getElem?_append_left]
      · exact h2
      · rcases Nat.lt_or_ge o l'.toArray.size with h' | h'
        · exact h'
        · rw [Array.getElem?_eq_none h'] at h2; simp at h2)
    refine ⟨_, hx, ⟨_, c', Sg.put_same _ _ _, hc, ?_, rfl⟩, hm'.flag (Sg.put_same _ _ _) (fun j hj => ?_)⟩
    · simp
    · simp only at hj
      have hsz : (l'.toArray ++ zcA P el (c' - n)).size = c' * P.cellsOf el := by
        rw [Array.size_append, size_zcA hz hn, List.size_toArray, hl, ← Nat.add_mul]
        congr 1; omega
      have hj' : j < (l'.toArray ++ zcA P el (c' - n)).size := by rw [hsz]; exact hj
      refine ⟨⟨(l'.toArray ++ zcA P el (c' - n))[j], ?_⟩, ?_⟩
      · have := World.cell?_alloc_new w.drew (l'.toArray ++ zcA P el (c' - n)) el j
        rw [show w.drew.heap.size = w.heap.size from rfl] at this
        rw [show w.drew.heap.size = w.heap.size from rfl]
        rw [this, Array.getElem?_eq_getElem hj']
      · exact World.frozen?_alloc_new w.drew (l'.toArray ++ zcA P el (c' - n)) el j

theorem Wb_of {r : Nat} : ∀ {l : List Value} {q i : Nat}, (∀ j, q + i ≤ j → j < q + i + l.length → (∃ u, w.cell? ⟨r, j, none⟩ = some u) ∧ w.frozen? ⟨r, j, none⟩ = false) → Wb w ⟨r, q, none⟩ i l
  | [], q, i, h => trivial
  | v :: l, q, i, h => ⟨by rw [add_mk]; exact h (q + i) (Nat.le_refl _) (by simp only [List.length_cons]; omega), Wb_of fun j h1 h2 => h j (by omega) (by simp only [List.length_cons]; omega)⟩

theorem appL_D {t : TypeId} {x y : Operand} {v : LV} (hr : ER P σ le e) (hm : MR P σ H w) (h : appL P t (lev le x) (lev le y) H = some (v, H')) (hk : ∀ σ' v' w', Ext σ σ' → VR P σ' v v' → MR P σ' H' w' → K v' w') :
    apD P t (ev e x) (ev e y) w K := by
  unfold appL at h
  split at h
  · rename_i el sb n c ex xb m xc xe hu hbx hby
    obtain ⟨hb, h⟩ := bif_some (x := (v, H')) h
    simp only [Bool.and_eq_true] at hb
    have hz : zLen P el = P.cellsOf el := Nat.eq_of_beq_eq_true hb.1.2
    have hn : 0 < zLen P el := by simpa [Nat.blt_eq] using hb.2
    obtain ⟨base, c', hvx, hbr⟩ := baseOf_rel hr hbx
    obtain ⟨xbase, xc', hvy, hxbr⟩ := baseOf_rel hr hby
    unfold apD
    rw [hu, hvx, hvy]
    dsimp only
    rw [hb.1.1, cond_true]
    split at h
    · simp at h
    · rename_i news hnews
      obtain ⟨hone, h⟩ := bif_some (x := (v, H')) h
      obtain ⟨news', hna, hnl, hnr⟩ := newsL_rel hm hxbr hnews
      have hm0 : m * P.cellsOf el = 0 → m = 0 := fun h0 => by
        rcases Nat.mul_eq_zero.1 h0 with h0 | h0
        · exact h0
        · omega
      have hn0 : n * P.cellsOf el = 0 → n = 0 := fun h0 => by
        rcases Nat.mul_eq_zero.1 h0 with h0 | h0
        · exact h0
        · omega
      have hcc : c ≤ c' := by
        unfold BaseR at hbr
        split at hbr
        · omega
        · obtain ⟨r, _, _, hc, _⟩ := hbr; exact hc
      cases hfit : Nat.ble (n + m) c with
      | true =>
        rw [hfit, cond_true] at h
        have hfit := Nat.le_of_ble_eq_true hfit
        refine ⟨news', [], hnl, hnr.imp hm0 id, hna.oneB, fun _ => ?_, fun hlt => by omega⟩
        split at h
        · rename_i b of
          obtain ⟨r, hs, rfl, hc, he⟩ := hbr
          split at h
          · rename_i H1 hset
            simp only [Option.some.injEq, Prod.mk.injEq] at h
            obtain ⟨rfl, rfl⟩ := h
            obtain ⟨hwb, hm'⟩ := hm.setN hs hna hset (i := 0) (Nat.add_zero _)
            refine ⟨.inr (by simp only [optP, add_mk]; exact hwb), fun w' hw' => ?_⟩
            simp only [add_mk] at hw'
            subst hw'
            exact hk σ _ _ (Ext.refl σ) ⟨r, c', hs, hc, he, rfl⟩ hm'
          · simp at h
        · obtain ⟨h0, h⟩ := bif_some (x := (v, H')) h
          have h0 := Nat.eq_of_beq_eq_true h0
          obtain ⟨rfl, rfl, _⟩ := hbr
          simp only [Option.some.injEq, Prod.mk.injEq] at h
          obtain ⟨rfl, rfl⟩ := h
          exact ⟨.inl h0, fun w' hw' => by simp only at hw'; subst hw'; exact hk σ _ _ (Ext.refl σ) ⟨rfl, rfl⟩ hm⟩
      | false =>
        rw [hfit, cond_false] at h
        have hfit : ¬ n + m ≤ c := fun h' => by rw [Nat.ble_eq_true_of_le h'] at hfit; simp at hfit
        split at h
        · simp at h
        · rename_i olds holds
          obtain ⟨hbnd, h⟩ := bif_some (x := (v, H')) h
          simp only [Bool.and_eq_true, decide_eq_true_eq] at hbnd
          obtain ⟨olds', hoa, hol, hor⟩ := newsL_rel hm hbr holds
          have hsum : (olds' ++ news').length = (n + m) * P.cellsOf el := by rw [List.length_append, hol, hnl, Nat.add_mul]
          split at h
          · rename_i b of h1 h2 h3
            obtain ⟨hap, h⟩ := bif_some (x := (v, H')) h
            unfold isAp at hap
            simp only [Bool.and_eq_true] at hap
            obtain ⟨r, hs, rfl, hc, he⟩ := hbr
            simp only [Bool.false_eq_true, if_false] at he
            obtain ⟨rfl, rfl⟩ := he
            have hal : alive P H b := by
              cases hg : H.get P b 0 with
              | none => rw [hg] at hap; simp at hap
              | some u => exact alive_get hg
            have hits : ¬ ∃ x, tget TD H.its b = some x := by
              rintro ⟨x, hx⟩; rw [hx] at hap; simp at hap
            have hz2 : tget TD H.aps b = some (P.cellsOf el) := by
              cases hg : tget TD H.aps b with
              | none => rw [hg] at hap; simp at hap
              | some z => rw [hg] at hap; simp only at hap; rw [Nat.eq_of_beq_eq_true hap.1.2]
            obtain ⟨hmk, hnk⟩ := (hm.kill hs).resolve_right hits
            have hd : ∀ b' r', σ b' = some r' → r'.1 = r.1 → ¬ alive P (H.kill b) b' := by
              intro b' r' hb' hrr ha
              have := hm.inj b' b r' r hb' hs hrr (kill_alive hm hs (hm.lt hb') ha) hal
              subst this
              exact hnk ha
            refine ⟨news', olds', hnl, hnr.imp hm0 id, hna.oneB, fun hle => ?_, fun _ => ⟨⟨hbnd.1, hbnd.2, hol, hor.imp hn0 id⟩, fun c2 w' hc2 hw' => ?_⟩⟩
            · have hcap : ∀ j, j < r.2 * P.cellsOf el → (∃ u, w.cell? ⟨r.1, j, none⟩ = some u) ∧ w.frozen? ⟨r.1, j, none⟩ = false := hm.ap b r _ hs hz2
              have hmul : (n + m) * P.cellsOf el ≤ r.2 * P.cellsOf el := Nat.mul_le_mul_right _ hle
              have hwb : Wb w ⟨r.1, n * P.cellsOf el, none⟩ 0 news' := Wb_of fun j h1 h2 => hcap j (by rw [hnl] at h2; rw [Nat.add_mul] at hmul; omega)
              refine ⟨.inr (by simp only [optP, add_mk, Nat.zero_add]; exact hwb), fun w' hw' => ?_⟩
              simp only [add_mk, Nat.zero_add] at hw'
              subst hw'
              unfold newAp at h
              cases hnew : (H.kill b).new (listB (olds ++ news)) with
              | none => simp [hnew] at h
              | some x =>
                obtain ⟨b2, H1⟩ := x
                simp only [hnew, Option.some.injEq, Prod.mk.injEq] at h
                obtain ⟨rfl, rfl⟩ := h
                obtain ⟨hw, hcell⟩ := listB_cells (P := P) (cs := (olds' ++ news').toArray) (by simpa using hoa.append hna)
                have hm1 := MR.deadN (hm.lo _ _ hs) hmk hd hwb
                have hlen : (olds' ++ news').length = (n + m) * P.cellsOf el := hsum
                obtain ⟨hx, hm2⟩ := hm1.again hs hd hnew hw (fun o lv hg => by
                  obtain ⟨u, h1, h2⟩ := hcell o lv hg
                  obtain ⟨g1, g2⟩ := setCells_get (j := o) hwb
                  have h2 : (olds' ++ news')[o]? = some u := by simpa using h2
                  have ho : o < (olds' ++ news').length := by
                    rcases Nat.lt_or_ge o (olds' ++ news').length with h' | h'
                    · exact h'
                    · rw [List.getElem?_eq_none h'] at h2; simp at h2
                  refine ⟨u, h1, ?_, ?_⟩
                  · rw [g2]
                    rw [List.length_append] at ho
                    by_cases hc2 : n * P.cellsOf el + 0 ≤ o ∧ o < n * P.cellsOf el + 0 + news'.length
                    · rw [if_pos hc2]
                      rw [List.getElem?_append_right (by omega)] at h2
                      rw [← h2, hol]; congr 1
                    · rw [if_neg hc2]
                      have hlt : o < olds'.length := by omega
                      rw [List.getElem?_append_left hlt] at h2
                      rcases hor with h0 | hor
                      · omega
                      · have := Rd_get hor o u h2
                        rw [add_mk] at this
                        simpa using this
                  · rw [g1]; exact (hcap o (by omega)).2)
                refine hk _ _ _ hx ⟨r, r.2, Sg.put_same _ _ _, hle, by simp, rfl⟩ (hm2.flag (Sg.put_same _ _ _) (fun j hj => ?_))
                obtain ⟨g1, g2⟩ := setCells_get (j := j) hwb
                refine ⟨?_, by rw [g1]; exact (hcap j hj).2⟩
                rw [g2]
                split
                · exact ⟨_, List.getElem?_eq_getElem (by omega)⟩
                · exact (hcap j hj).1
            · subst hw'
              obtain ⟨σ', hx, hv, hm'⟩ := grow_rel hmk hz hn (hoa.append hna) hsum hc2 h
              exact hk σ' _ _ hx hv hm'
          · rename_i hno
            have hcx : c' = c := by
              unfold BaseR at hbr
              split at hbr
              · exact hbr.2.1
              · obtain ⟨r, _, _, hc, he⟩ := hbr
                cases ex with
                | true => simpa using he
                | false => exact (hno _ _ rfl rfl).elim
            refine ⟨news', olds', hnl, hnr.imp hm0 id, hna.oneB, fun hle => by omega, fun _ => ⟨⟨hbnd.1, hbnd.2, hol, hor.imp hn0 id⟩, fun c2 w' hc2 hw' => ?_⟩⟩
            subst hw'
            obtain ⟨σ', hx, hv, hm'⟩ := grow_rel hm hz hn (hoa.append hna) hsum hc2 h
            exact hk σ' _ _ hx hv hm'
  · simp at h

end
end Go.Den
