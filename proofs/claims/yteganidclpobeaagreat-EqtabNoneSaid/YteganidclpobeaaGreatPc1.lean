/- Pc1: a closed run in pieces: the state that a run leaves, told by a literal. Own work; a part of the proof of a claim. Conditions: none beyond those that stand in each theorem. -/
import Derived.Test.YteganidclpobeaaGreatEv23
/- Pc1: a closed run in pieces: the state that a run leaves, told by a literal. -/
set_option linter.unusedVariables false
set_option linter.unusedSimpArgs false
namespace Go.Den
open Go Go.RowKit

def beqB : Bool → Bool → Bool
  | true, true => true
  | false, false => true
  | _, _ => false

theorem beqB_eq {a b : Bool} (h : beqB a b = true) : a = b := by cases a <;> cases b <;> first | rfl | cases h

noncomputable def eqL0 : LV → LV → Bool
  | .sc a, .sc b => sameV a b
  | .ptr b o, .ptr b' o' => Nat.beq b b' && Nat.beq o o'
  | .sl b o n c e, .sl b' o' n' c' e' => Nat.beq b b' && Nat.beq o o' && Nat.beq n n' && Nat.beq c c' && beqB e e'
  | .mp b, .mp b' => Nat.beq b b'
  | .yl b, .yl b' => Nat.beq b b'
  | _, _ => false

theorem eqL0_eq {a b : LV} (h : eqL0 a b = true) : a = b := by
  unfold eqL0 at h
  split at h
  · rw [sameV_eq h]
  · simp only [Bool.and_eq_true, Nat.beq_eq] at h; rw [h.1, h.2]
  · simp only [Bool.and_eq_true, Nat.beq_eq] at h
    obtain ⟨⟨⟨⟨rfl, rfl⟩, rfl⟩, rfl⟩, h5⟩ := h
    rw [beqB_eq h5]
  · rw [Nat.eq_of_beq_eq_true h]
  · rw [Nat.eq_of_beq_eq_true h]
  · cases h

noncomputable def eqLs : List LV → List LV → Bool
  | [], [] => true
  | a :: l, b :: m => eqL0 a b && eqLs l m
  | _, _ => false

theorem eqLs_eq : ∀ {l m : List LV}, eqLs l m = true → l = m
  | [], [], _ => rfl
  | [], _ :: _, h => by cases h
  | _ :: _, [], h => by cases h
  | a :: l, b :: m, h => by
    simp only [eqLs, Bool.and_eq_true] at h
    rw [eqL0_eq h.1, eqLs_eq h.2]

noncomputable def eqL1 : LV → LV → Bool
  | .fn k fs cs, .fn k' fs' cs' => Nat.beq k k' && eqLs fs fs' && eqLs cs cs'
  | a, b => eqL0 a b

theorem eqL1_eq {a b : LV} (h : eqL1 a b = true) : a = b := by
  unfold eqL1 at h
  split at h
  · simp only [Bool.and_eq_true, Nat.beq_eq] at h
    rw [h.1.1, eqLs_eq h.1.2, eqLs_eq h.2]
  · exact eqL0_eq h

noncomputable def eqTr {α : Type} (f : α → α → Bool) : Tr α → Tr α → Bool
  | .nil, .nil => true
  | .leaf a, .leaf b => f a b
  | .node l r, .node l' r' => eqTr f l l' && eqTr f r r'
  | _, _ => false

theorem eqTr_eq {α : Type} {f : α → α → Bool} (hf : ∀ a b, f a b = true → a = b) : ∀ {s t : Tr α}, eqTr f s t = true → s = t
  | .nil, .nil, _ => rfl
  | .leaf a, .leaf b, h => by rw [hf a b h]
  | .node l r, .node l' r', h => by
    simp only [eqTr, Bool.and_eq_true] at h
    rw [eqTr_eq hf h.1, eqTr_eq hf h.2]
  | .nil, .leaf _, h => by cases h
  | .nil, .node _ _, h => by cases h
  | .leaf _, .nil, h => by cases h
  | .leaf _, .node _ _, h => by cases h
  | .node _ _, .nil, h => by cases h
  | .node _ _, .leaf _, h => by cases h

def eqO : Option Nat → Option Nat → Bool
  | none, none => true
  | some a, some b => Nat.beq a b
  | _, _ => false

theorem eqO_eq {a b : Option Nat} (h : eqO a b = true) : a = b := by
  cases a <;> cases b <;> first | rfl | cases h | (rw [Nat.eq_of_beq_eq_true h])

noncomputable def eqBlk (a b : Blk) : Bool := Nat.beq a.size b.size && eqO a.zt b.zt && eqTr eqL1 a.cells b.cells

theorem eqBlk_eq (a b : Blk) (h : eqBlk a b = true) : a = b := by
  unfold eqBlk at h
  simp only [Bool.and_eq_true, Nat.beq_eq] at h
  obtain ⟨⟨h1, h2⟩, h3⟩ := h
  cases a; cases b
  simp only at h1 h2 h3
  rw [h1, eqO_eq h2, eqTr_eq (fun _ _ => eqL1_eq) h3]

/-- Does the run hand back that, and leave that heap, but for what was run through? -/
noncomputable def runIs (r : Option (LV × LHeap)) (v1 : LV) (H1 : LHeap) : Bool :=
  match r with
  | some (v, H) => eqL1 v v1 && Nat.beq H.next H1.next && eqTr eqBlk H.mem H1.mem && eqTr Nat.beq H.aps H1.aps
  | none => false

theorem runIs_out {r : Option (LV × LHeap)} {v1 : LV} {H1 : LHeap} (h : runIs r v1 H1 = true) : ∃ H, r = some (v1, H) ∧ H.next = H1.next ∧ H.mem = H1.mem ∧ H.aps = H1.aps := by
  unfold runIs at h
  split at h
  · rename_i v H
    simp only [Bool.and_eq_true, Nat.beq_eq] at h
    obtain ⟨⟨⟨h1, h2⟩, h3⟩, h4⟩ := h
    exact ⟨H, by rw [eqL1_eq h1], h2, eqTr_eq eqBlk_eq h3, eqTr_eq (fun _ _ h => Nat.eq_of_beq_eq_true h) h4⟩
  · cases h

section
variable {P : Program} {σ : Sg} {H H1 : LHeap} {w : World}

/-- What was run through is forgotten. -/
theorem MR.forget (hm : MR P σ H w) (h1 : H.next = H1.next) (h2 : H.mem = H1.mem) (h3 : H.aps = H1.aps) (h4 : H1.its = .nil) : MR P σ H1 w := by
  have hget : ∀ b o, H1.get P b o = H.get P b o := fun b o => by unfold LHeap.get; rw [h2]
  have hits : ∀ b, tget TD H1.its b = none := fun b => by rw [h4]; exact tget_nil _ _
  have hal : ∀ b, alive P H1 b → alive P H b := fun b h => by
    rcases h with ⟨o, lv, h⟩ | ⟨x, h⟩
    · exact .inl ⟨o, lv, by rw [← hget]; exact h⟩
    · rw [hits] at h; cases h
  refine ⟨h2 ▸ hm.wm, by rw [h4]; exact wf_nil _, h2 ▸ hm.wc, h1 ▸ hm.nx, fun b hb hl => ?_, fun b r h => ?_, fun b o lv r h hg => hm.cell b o lv r h (by rw [← hget]; exact hg), fun b x r h hx => ?_,
    fun b b' r r' h h' e a a' => hm.inj b b' r r' h h' e (hal _ a) (hal _ a'), h3 ▸ hm.ap, h3 ▸ hm.wa, hm.lo, hm.fz⟩
  · have := hm.fr b (by rw [h1]; exact hb) hl
    exact ⟨h2 ▸ this.1, hits b, h3 ▸ this.2.2⟩
  · have := hm.bd b r h
    exact ⟨by rw [← h1]; exact this.1, this.2⟩
  · rw [hits] at hx; cases hx
end
end Go.Den
