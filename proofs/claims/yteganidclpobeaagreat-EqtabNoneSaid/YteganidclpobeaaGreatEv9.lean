/- Ev9: operations on the heap. Own work; a part of the proof of a claim. Conditions: none beyond those that stand in each theorem. -/
import Derived.Test.YteganidclpobeaaGreatEv8
import Derived.Calls
/- Ev9: operations on the heap. -/
set_option linter.unusedSimpArgs false
set_option linter.unusedVariables false
namespace Go.Den
open Go
section
variable {P : Program} {σ σ' : Sg} {le : LE} {e : Env} {o : Oper} {H H' : LHeap} {w : World} {K : Value → World → Prop}

/-- What a fact of a load is. -/
def FR (σ : Sg) (x : Nat × Nat × LV) (f : Fct) : Prop := ∃ r v, σ x.1 = some r ∧ VR1 σ x.2.2 v ∧ f = .cell ⟨r.1, x.2.1, none⟩ v

theorem loadL_F {t : TypeId} {x : Operand} {v : LV} {fs : List (Nat × Nat × LV)} {Kf : Value → List Fct → Prop} (hr : ER P σ le e) (hm : MR P σ H w) (h : loadL P t (lev le x) H = some (v, fs))
    (hk : ∀ v', VR P σ v v' → (∀ fs', (∀ a b c, v ≠ .agb a b c) → All2 (FR σ) fs fs' → Kf v' fs')) : True := trivial

theorem Blk.get_some {k : Blk} {z : TypeId} {j : Nat} (hz : k.zt = some z) (hn : 0 < zLen P z) (hj : j < k.size) : ∃ v, Blk.get P k j = some v := by
  unfold Blk.get
  rw [blt_true hj, cond_true]
  cases tget (dep k.size) k.cells j with
  | some v => exact ⟨v, rfl⟩
  | none =>
    simp only [hz]
    rw [zTr_get hn]
    exact ⟨_, List.getElem?_eq_getElem (Nat.mod_lt _ hn)⟩

theorem MR.rdB (hm : MR P σ H w) {b : Nat} {r : Nat × Nat} (hb : σ b = some r) : ∀ {n o q i : Nat}, (∀ j, j < n → ∃ lv, H.get P b (o + j) = some lv) → q + i = o →
    ∃ l' : List Value, l'.length = n ∧ Rd w ⟨r.1, q, none⟩ i l' ∧ ∀ j u, l'[j]? = some u → ∃ lv, H.get P b (o + j) = some lv ∧ VR1 σ lv u
  | 0, o, q, i, h, hq => ⟨[], rfl, trivial, fun j u hj => by simp at hj⟩
  | n + 1, o, q, i, h, hq => by
    obtain ⟨lv, hg⟩ := h 0 (by omega)
    obtain ⟨v, hv, hc, _⟩ := hm.cell b o lv r hb hg
    obtain ⟨l', h1, h2, h3⟩ := MR.rdB hm hb (n := n) (o := o + 1) (q := q) (i := i + 1) (fun j hj => by rw [show o + 1 + j = o + (j + 1) by omega]; exact h (j + 1) (by omega)) (by omega)
    refine ⟨v :: l', by simp [h1], ⟨by rw [add_mk, hq]; exact hc, h2⟩, fun j u hj => ?_⟩
    cases j with
    | zero => simp at hj; subst hj; exact ⟨lv, hg, hv⟩
    | succ j => rw [show o + (j + 1) = o + 1 + j by omega]; exact h3 j u (by simpa using hj)

theorem loadL_D {t : TypeId} {x : Operand} {v : LV} {fs : List (Nat × Nat × LV)} (hr : ER P σ le e) (hm : MR P σ H w) (h : loadL P t (lev le x) H = some (v, fs)) (hk : ∀ v', VR P σ v v' → K v' w) :
    (match ev e x with
    | .pointer (some p) => bif (P.underlying t).isSome then ldK P t w p (fun v => K v w) else False
    | _ => False) := by
  unfold loadL at h
  split at h
  · rename_i b off hx
    have h1 := hr.lev x (by rw [hx]; rfl); rw [hx] at h1
    obtain ⟨r, hs, hv⟩ := h1
    obtain ⟨hu, h⟩ := bif_some (x := (v, fs)) h
    rw [hv]
    simp only [hu, cond_true]
    unfold ldK
    split at h
    · rename_i s hc
      rw [hc]
      dsimp only
      split at h
      · rename_i u hg
        obtain ⟨hsh, h⟩ := bif_some (x := (v, fs)) h
        simp only [Option.some.injEq, Prod.mk.injEq] at h
        obtain ⟨rfl, _⟩ := h
        obtain ⟨u', hvr, hcell, _⟩ := hm.cell b off u r hs hg
        exact ex1_in hsh hvr ⟨hcell, hk _ (VR.of1 hvr)⟩
      · simp at h
    · rename_i l hc
      rw [hc]
      dsimp only
      split at h
      · rename_i vs hg
        obtain ⟨hsh, h⟩ := bif_some (x := (v, fs)) h
        simp only [Bool.and_eq_true] at hsh
        simp only [Option.some.injEq, Prod.mk.injEq] at h
        obtain ⟨rfl, _⟩ := h
        obtain ⟨l', ha, hrd⟩ := hm.getN hs (q := off) (i := 0) hg rfl
        refine exL1_in hsh.1 ha ?_
        rw [← ha.length, hsh.2, cond_true]
        exact ⟨hrd, hk _ ⟨l', ha, rfl⟩⟩
      · simp at h
    · rename_i n hc
      rw [hc]
      dsimp only
      split at h
      · rename_i k hk'
        split at h
        · rename_i z hz
          obtain ⟨hle, h⟩ := bif_some (x := (v, fs)) h
          simp only [Bool.and_eq_true] at hle
          have hle1 : off + n ≤ k.size := Nat.le_of_ble_eq_true hle.1
          have hn : 0 < zLen P z := by simpa [Nat.blt_eq] using hle.2
          simp only [Option.some.injEq, Prod.mk.injEq] at h
          obtain ⟨rfl, _⟩ := h
          have hgk : ∀ j, H.get P b j = Blk.get P k j := fun j => by simp [LHeap.get, hk']
          obtain ⟨l', h1, h2, h3⟩ := hm.rdB hs (n := n) (o := off) (q := off) (i := 0) (fun j hj => by rw [hgk]; exact Blk.get_some hz hn (by omega)) rfl
          refine ⟨l', h1, h2, hk _ ⟨l', h1, hm.wc b k hk', fun j u hj => ?_, rfl⟩⟩
          obtain ⟨lv, hg, hvr⟩ := h3 j u hj
          exact ⟨lv, by rw [← hgk]; exact hg, hvr⟩
        · simp at h
      · simp at h
  · simp at h

theorem storeL_D {t : TypeId} {x y : Operand} (hr : ER P σ le e) (hm : MR P σ H w) (hy : isKn (lev le y) = true) (h : storeL P t (lev le x) (lev le y) H = some H') (hk : ∀ w', MR P σ H' w' → K undef w') :
    (match ev e x with
    | .pointer (some p) => bif (P.info? t).isSome then stK P t w p (ev e y) (fun w' => K undef w') else False
    | _ => False) := by
  unfold storeL at h
  split at h
  · rename_i b off hx
    have h1 := hr.lev x (by rw [hx]; rfl); rw [hx] at h1
    obtain ⟨r, hs, hv⟩ := h1
    obtain ⟨hu, h⟩ := bif_some (x := H') h
    rw [hv]
    simp only [hu, cond_true]
    have h2 := hr.lev y hy
    split at h
    · rename_i l hl
      rw [hl] at h2
      obtain ⟨l', ha, hv2⟩ := h2
      obtain ⟨hb, h⟩ := bif_some (x := H') h
      simp only [Bool.and_eq_true] at hb
      obtain ⟨hw, hm'⟩ := hm.setN hs ha h (q := off) (i := 0) rfl
      rw [hv2]
      unfold stK
      dsimp only
      have : (Nat.beq l'.length (P.cellsOf t) && oneB l') = true := by rw [← ha.length, hb.1, ha.oneB]; rfl
      rw [this, cond_true]
      exact ⟨hw, fun w' hw' => hw' ▸ hk _ hm'⟩
    · rename_i k j n hl
      rw [hl] at h2
      obtain ⟨l', hlen, hwf, hcell, hv2⟩ := h2
      obtain ⟨hb, h⟩ := bif_some (x := H') h
      split at h
      · rename_i l hgn
        obtain ⟨hb1, h⟩ := bif_some (x := H') h
        have hn := Nat.eq_of_beq_eq_true hb
        have ha : All2 (VR1 σ) l l' := by
          have key : ∀ (n j : Nat) (l : List LV) (l' : List Value), Blk.getN P k j n = some l → l'.length = n → (∀ i u, l'[i]? = some u → ∃ lv, Blk.get P k (j + i) = some lv ∧ VR1 σ lv u) → All2 (VR1 σ) l l' := by
            intro n
            induction n with
            | zero =>
              intro j l l' h hl _
              simp only [Blk.getN, Option.some.injEq] at h; subst h
              have : l' = [] := List.length_eq_zero_iff.1 hl
              subst this; trivial
            | succ n ih =>
              intro j l l' h hl hc
              cases l' with
              | nil => simp at hl
              | cons u l' =>
                simp only [Blk.getN] at h
                cases hg : Blk.get P k j with
                | none => simp [hg] at h
                | some v =>
                  simp only [hg] at h
                  cases hg2 : Blk.getN P k (j + 1) n with
                  | none => simp [hg2] at h
                  | some l2 =>
                    simp only [hg2, Option.some.injEq] at h; subst h
                    obtain ⟨lv, h1, h2⟩ := hc 0 u (by simp)
                    rw [Nat.add_zero, hg] at h1; simp only [Option.some.injEq] at h1; subst h1
                    refine ⟨h2, ih (j + 1) l2 l' hg2 (by simpa using hl) fun i u' hi => ?_⟩
                    have := hc (i + 1) u' (by simpa using hi)
                    rwa [show j + (i + 1) = j + 1 + i by omega] at this
          exact key n j l l' hgn hlen hcell
        obtain ⟨hw, hm'⟩ := hm.setN hs ha h (q := off) (i := 0) rfl
        rw [hv2]
        unfold stK
        dsimp only
        have : (Nat.beq l'.length (P.cellsOf t) && oneB l') = true := by rw [hlen, hb, ha.oneB]; rfl
        rw [this, cond_true]
        exact ⟨hw, fun w' hw' => hw' ▸ hk _ hm'⟩
      · simp at h
    · rename_i hno1 hno2
      obtain ⟨hb, h⟩ := bif_some (x := H') h
      simp only [Bool.and_eq_true] at hb
      have hv1 := h2.one hb.2
      obtain ⟨hw, hm'⟩ := hm.set hs hv1 h
      have hone := hv1.oneC
      unfold stK
      split
      · rename_i cs hcs; rw [hcs] at hone; simp [oneC] at hone
      · rw [hb.1, hone]
        exact ⟨hw, fun w' hw' => hw' ▸ hk _ hm'⟩
  · simp at h

theorem newL_out {k : Blk} {f : Nat → LV} {v : LV} (h : newL H k f = some (v, H')) : ∃ b, H.new k = some (b, H') ∧ v = f b := by
  unfold newL at h
  cases hn : H.new k with
  | none => simp [hn] at h
  | some x =>
    obtain ⟨b, H1⟩ := x
    simp only [hn, Option.some.injEq, Prod.mk.injEq] at h
    exact ⟨b, by rw [h.2], h.1.symm⟩

theorem zero_cells {t : TypeId} {n : Nat} {cs : Array Value} (hn : 0 < zLen P t) (hc : ∀ z : Array Value, zc P t = some z → z.size = zLen P t → ∀ o, o < n → cs[o]? = z[o % zLen P t]?) :
    ∀ o lv, Blk.get P ⟨n, some t, .nil⟩ o = some lv → ∃ v, VR1 σ lv v ∧ cs[o]? = some v := by
  intro o lv hg
  obtain ⟨z, h1, h2, h3, h4⟩ := zList_out hn
  have ho : o < n := Blk.get_lt hg
  rw [Blk.get_zero hn ho, h3] at hg
  rw [hc z h1 h4 o ho]
  simp only [List.getElem?_map, Option.map_eq_some_iff] at hg
  obtain ⟨u, hu, rfl⟩ := hg
  rw [List.all_eq_true] at h2
  exact ⟨u, ⟨rfl, h2 u (List.mem_of_getElem? hu)⟩, by rw [← Array.getElem?_toList]; exact hu⟩

theorem allocL_D {t : TypeId} {v : LV} (hm : MR P σ H w) (h : allocL P t H = some (v, H')) (hk : ∀ σ' v' w', Ext σ σ' → VR P σ' v v' → MR P σ' H' w' → K v' w') :
    (match zc P t with
    | some cs => ∀ w', w' = w.alloc (.cells cs t) → K (.pointer (some ⟨w.heap.size, 0, none⟩)) w'
    | none => False) := by
  unfold allocL at h
  split at h
  · rename_i k hk'
    unfold zerosB at hk'
    obtain ⟨hn, hk'⟩ := bif_some (x := k) hk'
    have hn : 0 < zLen P t := by simpa [Nat.blt_eq] using hn
    simp only [Option.some.injEq] at hk'; subst hk'
    obtain ⟨b, hnew, rfl⟩ := newL_out h
    obtain ⟨z, h1, h2, h3, h4⟩ := zList_out hn
    rw [h1]
    dsimp only
    intro w' hw'; subst hw'
    obtain ⟨hx, hm'⟩ := hm.new hnew (cs := z) (el := t) 0 (wf_nil _) (zero_cells hn (fun z' hz' hs o ho => by
      rw [h1] at hz'; simp only [Option.some.injEq] at hz'; subst hz'
      rw [Nat.mod_eq_of_lt (by omega)]))
    exact hk _ _ _ hx ⟨_, Sg.put_same _ _ _, rfl⟩ hm'
  · simp at h

theorem listB_cells {l : List LV} {cs : Array Value} (ha : All2 (VR1 σ) l cs.toList) : wfT (dep (listB l).size) (listB l).cells ∧ ∀ o lv, Blk.get P (listB l) o = some lv → ∃ v, VR1 σ lv v ∧ cs[o]? = some v := by
  refine ⟨trOf_wf _ _ _ _ (wf_nil _), fun o lv hg => ?_⟩
  have ho : o < l.length := Blk.get_lt hg
  have hd := lt_dep l.length
  unfold Blk.get listB at hg
  simp only at hg
  rw [blt_true ho, cond_true, trOf_get _ _ _ _ _ (wf_nil _) (by omega) (by omega), if_pos ⟨Nat.zero_le _, by omega⟩, Nat.sub_zero, List.getElem?_eq_getElem ho] at hg
  simp only [Option.some.injEq] at hg
  obtain ⟨v, hv, hr⟩ := ha.get (i := o) (a := lv) (by rw [List.getElem?_eq_getElem ho, hg])
  exact ⟨v, hr, by rw [← Array.getElem?_toList]; exact hv⟩

theorem boxL_D {t : TypeId} {x : Operand} {v : LV} (hr : ER P σ le e) (hm : MR P σ H w) (h : (match lev le x with
    | .un => none
    | .agb k j n => bif Nat.beq j 0 && Nat.beq n k.size then newL H k fun b => .ptr b 0 else none
    | v => bif (cellsL v).all one1 then newL H (listB (cellsL v)) fun b => .ptr b 0 else none) = some (v, H')) (hk : ∀ σ' v' w', Ext σ σ' → VR P σ' v v' → MR P σ' H' w' → K v' w') :
    ∀ w', w' = w.alloc (.cells (ev e x).cells t) → K (.pointer (some ⟨w.heap.size, 0, none⟩)) w' := by
  intro w' hw'; subst hw'
  split at h
  · simp at h
  · rename_i k j n hx
    have h1 := hr.lev x (by rw [hx]; rfl); rw [hx] at h1
    obtain ⟨l', hlen, hwf, hc, hv⟩ := h1
    obtain ⟨hb, h⟩ := bif_some (x := (v, H')) h
    simp only [Bool.and_eq_true] at hb
    have hj := Nat.eq_of_beq_eq_true hb.1
    have hn := Nat.eq_of_beq_eq_true hb.2
    obtain ⟨b, hnew, rfl⟩ := newL_out h
    rw [hv]
    obtain ⟨hx', hm'⟩ := hm.new hnew (cs := ⟨l'⟩) (el := t) 0 hwf (fun o lv hg => by
      have ho := Blk.get_lt hg
      have hol : o < l'.length := by omega
      obtain ⟨lv', h2, h3⟩ := hc o _ (List.getElem?_eq_getElem hol)
      rw [hj, Nat.zero_add, hg] at h2
      simp only [Option.some.injEq] at h2; subst h2
      exact ⟨_, h3, by simp [hol]⟩)
    exact hk _ _ _ hx' ⟨_, Sg.put_same _ _ _, rfl⟩ hm'
  · rename_i hno1 hno2
    obtain ⟨hb, h⟩ := bif_some (x := (v, H')) h
    have hkn : isKn (lev le x) = true := by cases hl : lev le x <;> first | rfl | exact (hno1 hl).elim
    have hc := cells_rel (hr.lev x hkn) (List.all_eq_true.1 hb)
    obtain ⟨b, hnew, rfl⟩ := newL_out h
    obtain ⟨hw, hcell⟩ := listB_cells (P := P) hc
    obtain ⟨hx', hm'⟩ := hm.new hnew (cs := (ev e x).cells) (el := t) 0 hw hcell
    exact hk _ _ _ hx' ⟨_, Sg.put_same _ _ _, rfl⟩ hm'

end
end Go.Den
