/- Ev23: closed runs. Own work; a part of the proof of a claim. Conditions: none beyond those that stand in each theorem. -/
import Derived.Test.YteganidclpobeaaGreatEv22
import Derived.RowKit3
/- Ev23: closed runs. -/
set_option linter.unusedVariables false
set_option linter.unusedSimpArgs false
namespace Go.Den
open Go Go.RowKit

/-- The heap as it stands is nobody's. -/
def sg0 (w : World) : Sg := { f := fun _ => none, A := fun b => w.heap.size ≤ b, F := fun b => w.heap[b]?, os := w.os, out := w.output }

theorem MR_empty (P : Program) (w : World) : MR P (sg0 w) emptyH w := by
  constructor
  · exact wf_nil _
  · exact wf_nil _
  · intro b k h
    simp only [emptyH, tget_nil] at h
    simp at h
  · exact Nat.zero_le _
  · intro b _ _
    simp only [emptyH, tget_nil]
    exact ⟨trivial, trivial, trivial⟩
  · intro b r h; simp [sg0] at h
  · intro b o lv r h; simp [sg0] at h
  · intro b x r h; simp [sg0] at h
  · intro b b' r r' h; simp [sg0] at h
  · intro b r z h; simp [sg0] at h
  · exact wf_nil _
  · intro b r h; simp [sg0] at h
  · refine ⟨fun b hb => hb, fun b _ => rfl, rfl, rfl, fun a ha => ?_⟩
    unfold World.frozen?
    rw [Array.getElem?_eq_none ha]

theorem Grown_of {w w' : World} {σ' : Sg} (h : Fz σ' w') (hA : σ'.A = (sg0 w).A) (hF : σ'.F = (sg0 w).F) (ho : σ'.os = w.os) (hu : σ'.out = w.output) : Grown w w' := by
  have old : ∀ b, b < w.heap.size → w'.heap[b]? = w.heap[b]? := fun b hb => by
    have := h.old b (by rw [hA]; simp only [sg0]; omega)
    rw [this, hF]; rfl
  refine ⟨⟨h.os.trans ho, h.out.trans hu, fun i hi => ?_⟩, fun a => ?_, ?_⟩
  · rw [old i hi]
    cases hc : w.heap[i]? with
    | none => trivial
    | some o => cases o <;> simp
  · by_cases hb : a.block < w.heap.size
    · unfold World.frozen?; rw [old _ hb]
    · rw [h.nf a (by rw [hA]; simp only [sg0]; omega)]
      unfold World.frozen?
      rw [Array.getElem?_eq_none (by omega)]
  · by_cases hle : w.heap.size ≤ w'.heap.size
    · exact hle
    · have h1 : w'.heap.size < w.heap.size := by omega
      have h2 := old w'.heap.size h1
      rw [Array.getElem?_eq_none (Nat.le_refl _), Array.getElem?_eq_getElem h1] at h2
      simp at h2

noncomputable def isTrue (r : Option (LV × LHeap)) : Bool :=
  match r with
  | some (.sc (.bool true), _) => true
  | _ => false

/-- A closed run that answers true. -/
theorem closed_true {P : Program} {pls : Nat → Plans} {fuel depth : Nat} {k : FuncId} (hg : isGo P k = true) (h : isTrue (runF P pls fuel depth k [] emptyH) = true) (w : World) :
    Calls P k #[] w fun e w' => e = .returned (.bool true) ∧ Grown w w' := by
  unfold isTrue at h
  split at h
  · rename_i H hr
    have := runF_S (args' := []) hr hg (MR_empty P w) trivial
    refine this.2.mono fun e w' he => ?_
    cases e with
    | returned v =>
      obtain ⟨σ', hx, hv, hm⟩ := he
      refine ⟨by rw [show v = .bool true from hv.1], Grown_of hm.fz hx.A hx.F hx.os hx.out⟩
    | panicked c => exact he.elim
    | outgrown => exact he.elim
  · simp at h

#print axioms closed_true
end Go.Den
