/- Ev3b: new blocks, and what is no block of cells. Own work; a part of the proof of a claim. Conditions: none beyond those that stand in each theorem. -/
import Derived.Test.YteganidclpobeaaGreatEv3
/- Ev3b: new blocks, and what is no block of cells. -/
set_option linter.unusedSimpArgs false
set_option linter.unusedVariables false
namespace Go.Den
open Go
section
variable {P : Program} {σ σ' : Sg} {H H' : LHeap} {w w' : World}

/-- .. with one more. -/
def Sg.put (σ : Sg) (b : Nat) (r : Nat × Nat) : Sg := { σ with f := fun x => if x = b then some r else σ x }

theorem Sg.put_f (σ : Sg) (b : Nat) (r : Nat × Nat) (x : Nat) : (σ.put b r) x = if x = b then some r else σ x := rfl

theorem Fz.put {w : World} {σ : Sg} (h : Fz σ w) (b : Nat) (r : Nat × Nat) : Fz (σ.put b r) w := ⟨h.hi, h.old, h.os, h.out, h.nf⟩

theorem Sg.put_same (σ : Sg) (b : Nat) (r : Nat × Nat) : σ.put b r b = some r := by simp [Sg.put]

theorem MR.freshN (hm : MR P σ H w) {b : Nat} (hb : H.next ≤ b) : σ b = none := by
  cases h : σ b with
  | none => rfl
  | some r => have := (hm.bd b r h).1; omega

theorem MR.ext (hm : MR P σ H w) {b : Nat} {r : Nat × Nat} (hb : H.next ≤ b) : Ext σ (σ.put b r) := ⟨fun x u hx => by
  rw [Sg.put_f]
  by_cases h : x = b
  · subst h; rw [hm.freshN hb] at hx; simp at hx
  · rw [if_neg h]; exact hx, rfl, rfl, rfl, rfl⟩

theorem alloc_heap_lt {o : Obj} {r : Nat} (h : r < w.heap.size) : (w.alloc o).heap[r]? = w.heap[r]? := by
  unfold World.alloc
  simp only [Array.getElem?_push]
  rw [if_neg (by omega)]

theorem alloc_heap_new {o : Obj} : (w.alloc o).heap[w.heap.size]? = some o := by
  unfold World.alloc
  simp only [Array.getElem?_push, if_true]

theorem alloc_size {o : Obj} : (w.alloc o).heap.size = w.heap.size + 1 := by unfold World.alloc; simp only [Array.size_push]

/-- A new block of cells. -/
theorem MR.new (hm : MR P σ H w) {k : Blk} {b : Nat} (h : H.new k = some (b, H')) {cs : Array Value} {el : TypeId} (C : Nat) (hw : wfT (dep k.size) k.cells)
    (hc : ∀ o lv, Blk.get P k o = some lv → ∃ v, VR1 σ lv v ∧ cs[o]? = some v) :
    Ext σ (σ.put b (w.heap.size, C)) ∧ MR P (σ.put b (w.heap.size, C)) H' (w.alloc (.cells cs el)) := by
  unfold LHeap.new at h
  cases hb : Nat.blt H.next TM with
  | false => rw [hb] at h; simp at h
  | true =>
    rw [hb] at h
    simp only [cond_true, Option.some.injEq, Prod.mk.injEq] at h
    obtain ⟨rfl, rfl⟩ := h
    have hlt : H.next < TM := by simpa [Nat.blt_eq] using hb
    have hx := hm.ext (b := H.next) (r := (w.heap.size, C)) (Nat.le_refl _)
    have getn : ∀ b' o', b' < TM → LHeap.get P { H with next := H.next + 1, mem := tset TD H.mem H.next k } b' o' = if H.next = b' then Blk.get P k o' else H.get P b' o' := by
      intro b' o' hb'
      unfold LHeap.get
      simp only
      rw [tget_tset_TD hm.wm hlt hb']
      by_cases he : H.next = b' <;> simp [he]
    have sput : ∀ b' r', (σ.put H.next (w.heap.size, C)) b' = some r' → (b' = H.next ∧ r' = (w.heap.size, C)) ∨ (b' ≠ H.next ∧ σ b' = some r') := by
      intro b' r' h'
      rw [Sg.put_f] at h'
      by_cases he : b' = H.next
      · rw [if_pos he] at h'; simp at h'; exact .inl ⟨he, h'.symm⟩
      · rw [if_neg he] at h'; exact .inr ⟨he, h'⟩
    have al : ∀ b', b' ≠ H.next → b' < TM → alive P { H with next := H.next + 1, mem := tset TD H.mem H.next k } b' → alive P H b' := by
      intro b' hne hl ha
      rcases ha with ⟨o', lv, hg⟩ | ha
      · rw [getn _ _ hl, if_neg (fun h => hne h.symm)] at hg; exact .inl ⟨o', lv, hg⟩
      · exact .inr ha
    refine ⟨hx, ?_⟩
    constructor
    · exact wf_tset _ _ _ _ hm.wm
    · exact hm.wi
    · intro b' k' hk'
      simp only at hk'
      rw [tget_tset _ _ _ _ _ hm.wm] at hk'
      split at hk'
      · simp only [Option.some.injEq] at hk'; subst hk'; exact hw
      · exact hm.wc _ _ hk'
    · exact hlt
    · intro b' h1 h2
      simp only at h1 ⊢
      refine ⟨?_, (hm.fr b' (by omega) h2).2⟩
      rw [tget_tset_TD hm.wm hlt h2, if_neg (by omega)]
      exact (hm.fr b' (by omega) h2).1
    · intro b' r' hb'
      rw [alloc_size]
      rcases sput b' r' hb' with ⟨rfl, rfl⟩ | ⟨_, hb'⟩
      · exact ⟨Nat.lt_succ_self _, Nat.lt_succ_self _⟩
      · have := hm.bd b' r' hb'; exact ⟨Nat.lt_succ_of_lt this.1, Nat.lt_succ_of_lt this.2⟩
    · intro b' o' lv r' hb' hg
      rcases sput b' r' hb' with ⟨rfl, rfl⟩ | ⟨hne, hb'⟩
      · rw [getn _ _ hlt, if_pos rfl] at hg
        obtain ⟨v, hv, hcv⟩ := hc o' lv hg
        exact ⟨v, VR1.mono hx hv, by simpa using hcv, by simp⟩
      · rw [getn _ _ (hm.lt hb'), if_neg (fun h => hne h.symm)] at hg
        obtain ⟨v, hv, hcv, hf⟩ := hm.cell b' o' lv r' hb' hg
        have hlt' := (hm.bd b' r' hb').2
        refine ⟨v, VR1.mono hx hv, ?_, ?_⟩
        · rw [World.cell?_alloc_old _ _ _ (by simp only; omega)]; exact hcv
        · rw [World.frozen?_alloc_old _ _ _ (by simp only; omega)]; exact hf
    · intro b' x r' hb' hi
      rcases sput b' r' hb' with ⟨rfl, rfl⟩ | ⟨hne, hb'⟩
      · rw [show tget TD ({ H with next := H.next + 1, mem := tset TD H.mem H.next k } : LHeap).its H.next = tget TD H.its H.next from rfl, (hm.fr H.next (Nat.le_refl _) hlt).2.1] at hi
        simp at hi
      · rw [alloc_heap_lt (hm.bd b' r' hb').2]; exact (hm.its b' x r' hb' hi).imp fun o h => ⟨OR.mono hx h.1, h.2⟩
    · intro b1 b2 r1 r2 h1 h2 hrr a1 a2
      rcases sput b1 r1 h1 with ⟨rfl, rfl⟩ | ⟨n1, h1⟩
      · rcases sput b2 _ h2 with ⟨rfl, _⟩ | ⟨n2, h2⟩
        · rfl
        · have := (hm.bd b2 _ h2).2; simp only at hrr; omega
      · rcases sput b2 _ h2 with ⟨rfl, rfl⟩ | ⟨n2, h2⟩
        · have := (hm.bd b1 _ h1).2; simp only at hrr; omega
        · exact hm.inj b1 b2 r1 r2 h1 h2 hrr (al b1 n1 (hm.lt h1) a1) (al b2 n2 (hm.lt h2) a2)
    · intro b' r' z hb' hz j hj
      rcases sput b' r' hb' with ⟨rfl, rfl⟩ | ⟨hne, hb'⟩
      · rw [show tget TD (LHeap.aps _) H.next = tget TD H.aps H.next from rfl, (hm.fr H.next (Nat.le_refl _) hlt).2.2] at hz
        simp at hz
      · obtain ⟨⟨u, hu⟩, hf⟩ := hm.ap b' r' z hb' hz j hj
        have hlt' := (hm.bd b' r' hb').2
        refine ⟨⟨u, ?_⟩, ?_⟩
        · rw [World.cell?_alloc_old _ _ _ (by simp only; omega)]; exact hu
        · rw [World.frozen?_alloc_old _ _ _ (by simp only; omega)]; exact hf
    · exact hm.wa
    · intro b' r' hb'
      rcases sput b' r' hb' with ⟨rfl, rfl⟩ | ⟨hne, hb'⟩
      · exact hm.fz.hi _ (Nat.le_refl _)
      · exact hm.lo _ _ hb'
    · exact (hm.fz.alloc _ _).put _ _

/-- A block that is read no more. -/
theorem MR.kill (hm : MR P σ H w) {b : Nat} {r : Nat × Nat} (hb : σ b = some r) : MR P σ (H.kill b) w ∧ ¬ alive P (H.kill b) b ∨ (∃ x, tget TD H.its b = some x) := by
  by_cases hi : ∃ x, tget TD H.its b = some x
  · exact .inr hi
  left
  have hlt := hm.lt hb
  have getn : ∀ b' o', b' < TM → LHeap.get P (H.kill b) b' o' = if b = b' then none else H.get P b' o' := by
    intro b' o' hb'
    unfold LHeap.get LHeap.kill
    simp only
    rw [tget_tset_TD hm.wm hlt hb']
    by_cases he : b = b'
    · simp only [he, if_true]; rfl
    · simp [he]
  have al : ∀ b', b' < TM → alive P (H.kill b) b' → alive P H b' := by
    intro b' hl ha
    rcases ha with ⟨o', lv, hg⟩ | ha
    · rw [getn _ _ hl] at hg; split at hg
      · simp at hg
      · exact .inl ⟨o', lv, hg⟩
    · exact .inr ha
  refine ⟨?_, ?_⟩
  · constructor
    · exact wf_tset _ _ _ _ hm.wm
    · exact hm.wi
    · intro b' k' hk'
      simp only [LHeap.kill] at hk'
      rw [tget_tset _ _ _ _ _ hm.wm] at hk'
      split at hk'
      · simp only [Option.some.injEq] at hk'; subst hk'; exact wf_nil _
      · exact hm.wc _ _ hk'
    · exact hm.nx
    · intro b' h1 h2
      simp only [LHeap.kill] at h1 ⊢
      refine ⟨?_, (hm.fr b' h1 h2).2⟩
      rw [tget_tset_TD hm.wm hlt h2, if_neg (by have := (hm.bd b r hb).1; omega)]
      exact (hm.fr b' h1 h2).1
    · exact hm.bd
    · intro b' o' lv r' hb' hg
      rw [getn _ _ (hm.lt hb')] at hg
      split at hg
      · simp at hg
      · exact hm.cell b' o' lv r' hb' hg
    · exact hm.its
    · intro b1 b2 r1 r2 h1 h2 hrr a1 a2
      exact hm.inj b1 b2 r1 r2 h1 h2 hrr (al b1 (hm.lt h1) a1) (al b2 (hm.lt h2) a2)
    · exact hm.ap
    · exact hm.wa
    · exact hm.lo
    · exact hm.fz
  · rintro (⟨o', lv, hg⟩ | ha)
    · rw [getn _ _ hlt, if_pos rfl] at hg; simp at hg
    · exact hi ha

/-- A new map, or a new iterator. -/
theorem MR.newObj (hm : MR P σ H w) (hlt : H.next < TM) (x : LObj) (C : Nat) {ob : Obj} (hob : OR P (σ.put H.next (w.heap.size, C)) x ob) :
    Ext σ (σ.put H.next (w.heap.size, C)) ∧ MR P (σ.put H.next (w.heap.size, C)) { H with next := H.next + 1, its := tset TD H.its H.next x } (w.alloc ob) := by
  have hx := hm.ext (b := H.next) (r := (w.heap.size, C)) (Nat.le_refl _)
  have sput : ∀ b' r', (σ.put H.next (w.heap.size, C)) b' = some r' → (b' = H.next ∧ r' = (w.heap.size, C)) ∨ (b' ≠ H.next ∧ σ b' = some r') := by
    intro b' r' h'
    rw [Sg.put_f] at h'
    by_cases he : b' = H.next
    · rw [if_pos he] at h'; simp at h'; exact .inl ⟨he, h'.symm⟩
    · rw [if_neg he] at h'; exact .inr ⟨he, h'⟩
  have al : ∀ b', b' ≠ H.next → b' < TM → alive P { H with next := H.next + 1, its := tset TD H.its H.next x } b' → alive P H b' := by
    intro b' hne hl ha
    rcases ha with ⟨o', lv, hg⟩ | ⟨y, hy⟩
    · exact .inl ⟨o', lv, hg⟩
    · simp only at hy
      rw [tget_tset_TD hm.wi hlt hl, if_neg (fun h => hne h.symm)] at hy
      exact .inr ⟨y, hy⟩
  refine ⟨hx, ?_⟩
  constructor
  · exact hm.wm
  · exact wf_tset _ _ _ _ hm.wi
  · exact hm.wc
  · exact hlt
  · intro b' h1 h2
    simp only at h1 ⊢
    refine ⟨(hm.fr b' (by omega) h2).1, ?_, (hm.fr b' (by omega) h2).2.2⟩
    rw [tget_tset_TD hm.wi hlt h2, if_neg (by omega)]
    exact (hm.fr b' (by omega) h2).2.1
  · intro b' r' hb'
    rw [alloc_size]
    rcases sput b' r' hb' with ⟨rfl, rfl⟩ | ⟨_, hb'⟩
    · exact ⟨Nat.lt_succ_self _, Nat.lt_succ_self _⟩
    · have := hm.bd b' r' hb'; exact ⟨Nat.lt_succ_of_lt this.1, Nat.lt_succ_of_lt this.2⟩
  · intro b' o' lv r' hb' hg
    rcases sput b' r' hb' with ⟨rfl, rfl⟩ | ⟨hne, hb'⟩
    · have : LHeap.get P { H with next := H.next + 1, its := tset TD H.its H.next x } H.next o' = none := by
        unfold LHeap.get; simp only; rw [(hm.fr H.next (Nat.le_refl _) hlt).1]
      rw [this] at hg; simp at hg
    · obtain ⟨v, hv, hcv, hf⟩ := hm.cell b' o' lv r' hb' hg
      have hlt' := (hm.bd b' r' hb').2
      refine ⟨v, VR1.mono hx hv, ?_, ?_⟩
      · rw [World.cell?_alloc_old _ _ _ (by simp only; omega)]; exact hcv
      · rw [World.frozen?_alloc_old _ _ _ (by simp only; omega)]; exact hf
  · intro b' y r' hb' hi
    simp only at hi
    rcases sput b' r' hb' with ⟨rfl, rfl⟩ | ⟨hne, hb'⟩
    · rw [tget_tset_TD hm.wi hlt hlt, if_pos rfl] at hi
      simp only [Option.some.injEq] at hi
      subst hi; exact ⟨ob, hob, alloc_heap_new⟩
    · rw [tget_tset_TD hm.wi hlt (hm.lt hb'), if_neg (fun h => hne h.symm)] at hi
      rw [alloc_heap_lt (hm.bd b' r' hb').2]; exact (hm.its b' y r' hb' hi).imp fun o h => ⟨OR.mono hx h.1, h.2⟩
  · intro b1 b2 r1 r2 h1 h2 hrr a1 a2
    rcases sput b1 r1 h1 with ⟨rfl, rfl⟩ | ⟨n1, h1⟩
    · rcases sput b2 _ h2 with ⟨rfl, _⟩ | ⟨n2, h2⟩
      · rfl
      · have := (hm.bd b2 _ h2).2; simp only at hrr; omega
    · rcases sput b2 _ h2 with ⟨rfl, rfl⟩ | ⟨n2, h2⟩
      · have := (hm.bd b1 _ h1).2; simp only at hrr; omega
      · exact hm.inj b1 b2 r1 r2 h1 h2 hrr (al b1 n1 (hm.lt h1) a1) (al b2 n2 (hm.lt h2) a2)
  · intro b' r' z hb' hz j hj
    rcases sput b' r' hb' with ⟨rfl, rfl⟩ | ⟨hne, hb'⟩
    · rw [show tget TD (LHeap.aps _) H.next = tget TD H.aps H.next from rfl, (hm.fr H.next (Nat.le_refl _) hlt).2.2] at hz
      simp at hz
    · obtain ⟨⟨u, hu⟩, hf⟩ := hm.ap b' r' z hb' hz j hj
      have hlt' := (hm.bd b' r' hb').2
      refine ⟨⟨u, ?_⟩, ?_⟩
      · rw [World.cell?_alloc_old _ _ _ (by simp only; omega)]; exact hu
      · rw [World.frozen?_alloc_old _ _ _ (by simp only; omega)]; exact hf
  · exact hm.wa
  · intro b' r' hb'
    rcases sput b' r' hb' with ⟨rfl, rfl⟩ | ⟨hne, hb'⟩
    · exact hm.fz.hi _ (Nat.le_refl _)
    · exact hm.lo _ _ hb'
  · exact (hm.fz.allocO (fun _ _ _ => OR.noCells hob)).put _ _

/-- A map, or an iterator, is changed. -/
theorem MR.setObj (hm : MR P σ H w) {b : Nat} {r : Nat × Nat} {x y : LObj} {ob : Obj} (hb : σ b = some r) (hx : tget TD H.its b = some x) (hob : OR P σ y ob) :
    MR P σ { H with its := tset TD H.its b y } (World.setObj' w r.1 ob) := by
  have hlt := hm.lt hb
  obtain ⟨ox, hox, hrx⟩ := hm.its b x r hb hx
  have hrl := (hm.bd b r hb).2
  have al : ∀ b', b' < TM → alive P { H with its := tset TD H.its b y } b' → alive P H b' := by
    intro b' hl ha
    rcases ha with ⟨o', lv, hg⟩ | ⟨z, hz⟩
    · exact .inl ⟨o', lv, hg⟩
    · simp only at hz
      rw [tget_tset_TD hm.wi hlt hl] at hz
      split at hz
      · rename_i he; subst he; exact .inr ⟨x, hx⟩
      · exact .inr ⟨z, hz⟩
  constructor
  · exact hm.wm
  · exact wf_tset _ _ _ _ hm.wi
  · exact hm.wc
  · exact hm.nx
  · intro b' h1 h2
    simp only at h1 ⊢
    refine ⟨(hm.fr b' h1 h2).1, ?_, (hm.fr b' h1 h2).2.2⟩
    rw [tget_tset_TD hm.wi hlt h2, if_neg (by have := (hm.bd b r hb).1; omega)]
    exact (hm.fr b' h1 h2).2.1
  · intro b' r' hb'
    have := hm.bd b' r' hb'
    simpa [World.setObj'] using this
  · intro b' o' lv r' hb' hg
    obtain ⟨v, hv, hcv, hf⟩ := hm.cell b' o' lv r' hb' hg
    have hne : r.1 ≠ r'.1 := by
      intro he
      rw [he] at hrx
      unfold World.cell? at hcv
      rw [hrx] at hcv
      cases ox with
      | cells c e f => exact absurd rfl (OR.noCells hox)
      | _ => simp at hcv
    refine ⟨v, hv, ?_, ?_⟩
    · rw [← hcv]; simp [World.cell?, World.setObj', Array.getElem?_setIfInBounds, hne]
    · rw [← hf]; simp [World.frozen?, World.setObj', Array.getElem?_setIfInBounds, hne]
  · intro b' z r' hb' hi
    simp only at hi
    rw [tget_tset_TD hm.wi hlt (hm.lt hb')] at hi
    split at hi
    · rename_i he
      subst he
      rw [hb] at hb'; simp only [Option.some.injEq] at hb' hi
      subst hb'; subst hi
      exact ⟨ob, hob, by simp [World.setObj', Array.getElem?_setIfInBounds, hrl]⟩
    · rename_i he
      have hne : r.1 ≠ r'.1 := fun hrr => he (hm.inj b b' r r' hb hb' hrr (.inr ⟨x, hx⟩) (.inr ⟨z, hi⟩))
      obtain ⟨oz, hoz, hz⟩ := hm.its b' z r' hb' hi
      exact ⟨oz, hoz, by rw [← hz]; simp [World.setObj', Array.getElem?_setIfInBounds, hne]⟩
  · intro b1 b2 r1 r2 h1 h2 hrr a1 a2
    exact hm.inj b1 b2 r1 r2 h1 h2 hrr (al b1 (hm.lt h1) a1) (al b2 (hm.lt h2) a2)
  · intro b' r' z hb' hz j hj
    obtain ⟨⟨u, hu⟩, hf⟩ := hm.ap b' r' z hb' hz j hj
    have hne : r.1 ≠ r'.1 := by
      intro he
      rw [he] at hrx
      unfold World.cell? at hu
      rw [hrx] at hu
      cases ox with
      | cells c e f => exact absurd rfl (OR.noCells hox)
      | _ => simp at hu
    refine ⟨⟨u, ?_⟩, ?_⟩
    · rw [← hu]; simp [World.cell?, World.setObj', Array.getElem?_setIfInBounds, hne]
    · rw [← hf]; simp [World.frozen?, World.setObj', Array.getElem?_setIfInBounds, hne]
  · exact hm.wa
  · exact hm.lo
  · exact hm.fz.setObj (fun _ _ _ => OR.noCells hob) (hm.lo b r hb)

theorem MR.drew (hm : MR P σ H w) : MR P σ H w.drew := ⟨hm.wm, hm.wi, hm.wc, hm.nx, hm.fr, hm.bd, hm.cell, hm.its, hm.inj, hm.ap, hm.wa, hm.lo, hm.fz.drew⟩

end
end Go.Den
