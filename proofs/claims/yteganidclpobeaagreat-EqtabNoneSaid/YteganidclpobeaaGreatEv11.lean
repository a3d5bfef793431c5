/- Ev11: append. Own work; a part of the proof of a claim. Conditions: none beyond those that stand in each theorem. -/
import Derived.Test.YteganidclpobeaaGreatEv10
/- Ev11: append. -/
set_option linter.unusedSimpArgs false
set_option linter.unusedVariables false
namespace Go.Den
open Go
section
variable {P : Program} {σ σ' : Sg} {le : LE} {e : Env} {o : Oper} {H H' : LHeap} {w : World} {K : Value → World → Prop}

theorem MR.flag (hm : MR P σ H w) {b z : Nat} {r : Nat × Nat} (hb : σ b = some r) (hc : ∀ j, j < r.2 * z → (∃ u, w.cell? ⟨r.1, j, none⟩ = some u) ∧ w.frozen? ⟨r.1, j, none⟩ = false) :
    MR P σ { H with aps := tset TD H.aps b z } w := by
  have hlt := hm.lt hb
  refine ⟨hm.wm, hm.wi, hm.wc, hm.nx, fun b' h1 h2 => ?_, hm.bd, hm.cell, hm.its, hm.inj, fun b' r' z' hb' hz j hj => ?_, wf_tset _ _ _ _ hm.wa, hm.lo, hm.fz⟩
  · refine ⟨(hm.fr b' h1 h2).1, (hm.fr b' h1 h2).2.1, ?_⟩
    simp only at h1 ⊢
    rw [tget_tset_TD hm.wa hlt h2, if_neg (by have := (hm.bd b r hb).1; omega)]
    exact (hm.fr b' h1 h2).2.2
  · simp only at hz
    rw [tget_tset_TD hm.wa hlt (hm.lt hb')] at hz
    split at hz
    · rename_i he
      subst he
      rw [hb] at hb'
      simp only [Option.some.injEq] at hb' hz
      subst hb'; subst hz
      exact hc j hj
    · exact hm.ap b' r' z' hb' hz j hj

/-- A cell that nobody knows is written. -/
theorem MR.dead (hm : MR P σ H w) {r o : Nat} (hAr : σ.A r) {v : Value} (hd : ∀ b' r', σ b' = some r' → r'.1 = r → ¬ alive P H b') (hc : ∃ u, w.cell? ⟨r, o, none⟩ = some u) : MR P σ H (w.setCell ⟨r, o, none⟩ v) := by
  obtain ⟨u, hu⟩ := hc
  refine ⟨hm.wm, hm.wi, hm.wc, hm.nx, hm.fr, fun b' r' hb' => ?_, fun b' o' lv r' hb' hg => ?_, fun b' x r' hb' hx => its_setCell (hm.its b' x r' hb' hx), hm.inj, fun b' r' z hb' hz j hj => ?_, hm.wa, hm.lo, hm.fz.setCell hAr⟩
  · rw [size_setCell]; exact hm.bd b' r' hb'
  · obtain ⟨v', h1, h2, h3⟩ := hm.cell b' o' lv r' hb' hg
    refine ⟨v', h1, ?_, by rw [World.frozen?_setCell]; exact h3⟩
    rw [World.cell?_setCell_other]
    · exact h2
    · intro hab
      simp only [Addr.mk.injEq, and_true] at hab
      exact hd b' r' hb' hab.1.symm (alive_get hg)
  · obtain ⟨⟨u1, hu1⟩, hf1⟩ := hm.ap b' r' z hb' hz j hj
    refine ⟨?_, by rw [World.frozen?_setCell]; exact hf1⟩
    by_cases he : (⟨r, o, none⟩ : Addr) = ⟨r'.1, j, none⟩
    · rw [← he]; exact ⟨v, World.cell?_setCell_same _ _ _ hu⟩
    · exact ⟨u1, by rw [World.cell?_setCell_other _ _ _ _ he]; exact hu1⟩

/-- A block that is there already, under a new number. -/
theorem MR.again (hm : MR P σ H w) {b b2 : Nat} {r : Nat × Nat} {k : Blk} (hb : σ b = some r) (hd : ∀ b' r', σ b' = some r' → r'.1 = r.1 → ¬ alive P H b') (h : H.new k = some (b2, H')) (hw : wfT (dep k.size) k.cells)
    (hc : ∀ o lv, Blk.get P k o = some lv → ∃ v, VR1 σ lv v ∧ w.cell? ⟨r.1, o, none⟩ = some v ∧ w.frozen? ⟨r.1, o, none⟩ = false) :
    Ext σ (σ.put b2 r) ∧ MR P (σ.put b2 r) H' w := by
  unfold LHeap.new at h
  obtain ⟨hlt0, h⟩ := bif_some (x := (b2, H')) h
  have hlt : H.next < TM := by simpa [Nat.blt_eq] using hlt0
  simp only [Option.some.injEq, Prod.mk.injEq] at h
  obtain ⟨rfl, rfl⟩ := h
  have hx := hm.ext (b := H.next) (r := r) (Nat.le_refl _)
  have getn : ∀ b' o', b' < TM → LHeap.get P { H with next := H.next + 1, mem := tset TD H.mem H.next k } b' o' = if H.next = b' then Blk.get P k o' else H.get P b' o' := by
    intro b' o' hb'
    unfold LHeap.get
    simp only
    rw [tget_tset_TD hm.wm hlt hb']
    by_cases he : H.next = b' <;> simp [he]
  have sput : ∀ b' r', (σ.put H.next r) b' = some r' → (b' = H.next ∧ r' = r) ∨ (b' ≠ H.next ∧ σ b' = some r') := by
    intro b' r' h'
    rw [Sg.put_f] at h'
    by_cases he : b' = H.next
    · rw [if_pos he] at h'; simp at h'; exact .inl ⟨he, h'.symm⟩
    · rw [if_neg he] at h'; exact .inr ⟨he, h'⟩
  have al : ∀ b', b' ≠ H.next → b' < TM → alive P { H with next := H.next + 1, mem := tset TD H.mem H.next k } b' → alive P H b' := by
    intro b' hne hl ha
    rcases ha with ⟨o', lv, hg⟩ | ha
    · rw [getn _ _ hl, if_neg (fun h => hne h.symm)] at hg; exact .inl ⟨o', lv, hg⟩
    · exact .inr ha
  refine ⟨hx, ?_⟩
  constructor
  · exact wf_tset _ _ _ _ hm.wm
  · exact hm.wi
  · intro b' k' hk'
    simp only at hk'
    rw [tget_tset _ _ _ _ _ hm.wm] at hk'
    split at hk'
    · simp only [Option.some.injEq] at hk'; subst hk'; exact hw
    · exact hm.wc _ _ hk'
  · exact hlt
  · intro b' h1 h2
    simp only at h1 ⊢
    refine ⟨?_, (hm.fr b' (by omega) h2).2⟩
    rw [tget_tset_TD hm.wm hlt h2, if_neg (by omega)]
    exact (hm.fr b' (by omega) h2).1
  · intro b' r' hb'
    rcases sput b' r' hb' with ⟨rfl, rfl⟩ | ⟨_, hb'⟩
    · exact ⟨Nat.lt_succ_self _, (hm.bd b _ hb).2⟩
    · have := hm.bd b' r' hb'; exact ⟨Nat.lt_succ_of_lt this.1, this.2⟩
  · intro b' o' lv r' hb' hg
    rcases sput b' r' hb' with ⟨rfl, rfl⟩ | ⟨hne, hb'⟩
    · rw [getn _ _ hlt, if_pos rfl] at hg
      obtain ⟨v, hv, hcv⟩ := hc o' lv hg
      exact ⟨v, VR1.mono hx hv, hcv⟩
    · rw [getn _ _ (hm.lt hb'), if_neg (fun h => hne h.symm)] at hg
      obtain ⟨v, hv, hcv, hf⟩ := hm.cell b' o' lv r' hb' hg
      exact ⟨v, VR1.mono hx hv, hcv, hf⟩
  · intro b' x r' hb' hi
    rcases sput b' r' hb' with ⟨rfl, rfl⟩ | ⟨hne, hb'⟩
    · rw [show tget TD ({ H with next := H.next + 1, mem := tset TD H.mem H.next k } : LHeap).its H.next = tget TD H.its H.next from rfl, (hm.fr H.next (Nat.le_refl _) hlt).2.1] at hi
      simp at hi
    · exact (hm.its b' x r' hb' hi).imp fun o h => ⟨OR.mono hx h.1, h.2⟩
  · intro b1 b2 r1 r2 h1 h2 hrr a1 a2
    rcases sput b1 r1 h1 with ⟨rfl, rfl⟩ | ⟨n1, g1⟩
    · rcases sput b2 _ h2 with ⟨rfl, _⟩ | ⟨n2, g2⟩
      · rfl
      · exact (hd b2 r2 g2 hrr.symm (al b2 n2 (hm.lt g2) a2)).elim
    · rcases sput b2 _ h2 with ⟨rfl, rfl⟩ | ⟨n2, g2⟩
      · exact (hd b1 r1 g1 hrr (al b1 n1 (hm.lt g1) a1)).elim
      · exact hm.inj b1 b2 r1 r2 g1 g2 hrr (al b1 n1 (hm.lt g1) a1) (al b2 n2 (hm.lt g2) a2)
  · intro b' r' z hb' hz j hj
    rcases sput b' r' hb' with ⟨rfl, rfl⟩ | ⟨hne, hb'⟩
    · rw [show tget TD (LHeap.aps _) H.next = tget TD H.aps H.next from rfl, (hm.fr H.next (Nat.le_refl _) hlt).2.2] at hz
      simp at hz
    · exact hm.ap b' r' z hb' hz j hj
  · exact hm.wa
  · intro b' r' hb'
    rcases sput b' r' hb' with ⟨rfl, rfl⟩ | ⟨hne, hb'⟩
    · exact hm.lo _ _ hb
    · exact hm.lo _ _ hb'
  · exact hm.fz.put _ _

theorem kill_alive (hm : MR P σ H w) {b b' : Nat} {r : Nat × Nat} (hb : σ b = some r) (hl : b' < TM) (h : alive P (H.kill b) b') : alive P H b' := by
  rcases h with ⟨o', lv, hg⟩ | ha
  · unfold LHeap.get LHeap.kill at hg
    simp only at hg
    rw [tget_tset_TD hm.wm (hm.lt hb) hl] at hg
    by_cases he : b = b'
    · rw [if_pos he] at hg
      have := Blk.get_lt (P := P) (k := ⟨0, none, .nil⟩) hg
      simp at this
    · rw [if_neg he] at hg
      exact .inl ⟨o', lv, hg⟩
  · exact .inr ha

/-- Cells that nobody knows are written. -/
theorem MR.deadN {H : LHeap} {r : Nat} : ∀ {l : List Value} {w : World} {q i : Nat}, σ.A r → MR P σ H w → (∀ b' r', σ b' = some r' → r'.1 = r → ¬ alive P H b') → Wb w ⟨r, q, none⟩ i l → MR P σ H (setCells w ⟨r, q, none⟩ i l)
  | [], w, q, i, hA, hm, hd, hw => hm
  | v :: l, w, q, i, hA, hm, hd, hw => by
    obtain ⟨⟨hu, hf⟩, hw⟩ := hw
    rw [add_mk] at hu
    have keep : ∀ (m : List Value) (j : Nat), Wb w ⟨r, q, none⟩ j m → Wb (w.setCell ⟨r, q + i, none⟩ v) ⟨r, q, none⟩ j m := by
      intro m
      induction m with
      | nil => intro j _; trivial
      | cons u m ih =>
        intro j hj
        obtain ⟨⟨⟨u', hu'⟩, hfz⟩, hr⟩ := hj
        refine ⟨⟨?_, by rw [World.frozen?_setCell]; exact hfz⟩, ih _ hr⟩
        by_cases he : (⟨r, q + i, none⟩ : Addr) = (⟨r, q, none⟩ : Addr).add j
        · rw [← he]; exact ⟨v, World.cell?_setCell_same _ _ _ hu.choose_spec⟩
        · rw [World.cell?_setCell_other _ _ _ _ he]; exact ⟨u', hu'⟩
    have := MR.deadN (l := l) (w := w.setCell ⟨r, q + i, none⟩ v) (q := q) (i := i + 1) hA (hm.dead hA hd hu) hd (keep _ _ hw)
    rw [setCells, add_mk]
    exact this

theorem setCells_get {r : Nat} : ∀ {l : List Value} {w : World} {q i j : Nat}, Wb w ⟨r, q, none⟩ i l →
    (setCells w ⟨r, q, none⟩ i l).frozen? ⟨r, j, none⟩ = w.frozen? ⟨r, j, none⟩ ∧
    (setCells w ⟨r, q, none⟩ i l).cell? ⟨r, j, none⟩ = if q + i ≤ j ∧ j < q + i + l.length then l[j - (q + i)]? else w.cell? ⟨r, j, none⟩
  | [], w, q, i, j, _ => ⟨rfl, by rw [if_neg (by simp only [List.length_nil]; omega)]; rfl⟩
  | v :: l, w, q, i, j, hw => by
    obtain ⟨⟨⟨u, hu⟩, hf⟩, hw⟩ := hw
    rw [add_mk] at hu
    have keep : ∀ (m : List Value) (j : Nat), Wb w ⟨r, q, none⟩ j m → Wb (w.setCell ⟨r, q + i, none⟩ v) ⟨r, q, none⟩ j m := by
      intro m
      induction m with
      | nil => intro j _; trivial
      | cons u m ih =>
        intro j hj
        obtain ⟨⟨⟨u', hu'⟩, hfz⟩, hr⟩ := hj
        refine ⟨⟨?_, by rw [World.frozen?_setCell]; exact hfz⟩, ih _ hr⟩
        by_cases he : (⟨r, q + i, none⟩ : Addr) = (⟨r, q, none⟩ : Addr).add j
        · rw [← he]; exact ⟨v, World.cell?_setCell_same _ _ _ hu⟩
        · rw [World.cell?_setCell_other _ _ _ _ he]; exact ⟨u', hu'⟩
    obtain ⟨h1, h2⟩ := setCells_get (l := l) (w := w.setCell ⟨r, q + i, none⟩ v) (q := q) (i := i + 1) (j := j) (keep _ _ hw)
    rw [setCells, add_mk]
    refine ⟨by rw [h1, World.frozen?_setCell], ?_⟩
    rw [h2]
    by_cases hc : q + (i + 1) ≤ j ∧ j < q + (i + 1) + l.length
    · rw [if_pos hc, if_pos (by simp only [List.length_cons]; omega), show j - (q + i) = (j - (q + (i + 1))) + 1 by omega]
      simp
    · rw [if_neg hc]
      by_cases he : q + i = j
      · subst he
        rw [if_pos (by simp only [List.length_cons]; omega), World.cell?_setCell_same _ _ _ hu]; simp
      · rw [if_neg (by simp only [List.length_cons]; omega), World.cell?_setCell_other]
        intro hab; simp only [Addr.mk.injEq, and_true, true_and] at hab; exact he hab

end
end Go.Den
