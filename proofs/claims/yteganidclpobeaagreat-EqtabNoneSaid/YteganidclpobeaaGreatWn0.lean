/- weak.Guards with nobody to tell. Own work; a part of the proof of a claim. Conditions: none beyond those that stand in each theorem. -/
import Derived.Test.YteganidclpobeaaGreatG6
import Derived.Test.YteganidclpobeaaGreatEv17
set_option linter.unusedVariables false
set_option maxRecDepth 100000
set_option linter.unusedSimpArgs false
namespace Go.Den
open Go Go.Proofs

theorem WP_scope {P : Program} {n : Nat} {c : Code} {Kn : Env → World → Prop} {Kx : Nat → Env → World → Prop} {Kr : Env → World → Prop} {e : Env} {w : World} (h : WP P n c Kn Kx Kr e w) : WP P n (.scope c) Kn Kx Kr e w := by
  intro a hs
  refine wpIn_scope 0 (Code.wpIn_mono ?_ (h a hs))
  intro x a w hp
  cases x with
  | goto l => exact hp.elim
  | _ => exact hp

def scpC : Code → Code | .scope c => c | c => c

/- moraine/weak.Guards, with nobody to tell -/
noncomputable def c50n : Code := bodyOf Tryz.f50
def R50n (k : Value → World → Prop) : Env → World → Prop := retK Tryz.prog [.tmp 4] [] k
noncomputable def T50n (k : Value → World → Prop) (b2 b3 : Nat) (w : World) : Prop := WP Tryz.prog 98 (seqR (scpC (seqR c50n))) (R50n k) noX (R50n k) [(2, (.pointer (some ⟨b2, 0, none⟩))), (3, (.pointer (some ⟨b3, 0, none⟩)))] w
def F50n_0 (k : Value → World → Prop) (b2 b3 : Nat) (w : World) : Prop :=
 ∃ (p_1 : Option Addr), World.cell? w ⟨b2, 0, none⟩ = some (.pointer p_1) ∧ CALL Tryz.prog 136 ⟨[(.pointer p_1)]⟩ w fun v_2 w_3 => ∃ (b_4 : Bool), v_2 = (.bool b_4) ∧ bc b_4
 (∃ (l_5a : Option Addr) (l_5n l_5c : Nat), World.cell? w_3 ⟨b3, 0, none⟩ = some (.slice l_5a l_5n l_5c) ∧ CALL Tryz.prog 137 ⟨[(.slice l_5a l_5n l_5c)]⟩ w_3 fun v_6 w_7 => ∃ (l_8a : Option Addr) (l_8n l_8c : Nat), v_6 = (.slice l_8a l_8n l_8c) ∧ k (.slice l_8a l_8n l_8c) w_7)
 (T50n k b2 b3 w_3)
theorem J50n (k : Value → World → Prop) (b2 b3 : Nat) (w : World) (h : F50n_0 k b2 b3 w) : WP Tryz.prog 98 (scpC (seqR c50n)) (R50n k) noX (R50n k) [(2, (.pointer (some ⟨b2, 0, none⟩))), (3, (.pointer (some ⟨b3, 0, none⟩)))] w :=
  WP_of_den (an := .cut [2, 3] .nil .nil) (by kernel_rfl) (Eq.mp (by kernel_rfl) h)
def F50n (a1 : Option Addr) (n1 : Nat) (c1 : Nat) (k : Value → World → Prop) (w : World) : Prop :=
 al w ⟨[(.pointer none)]⟩ 55 fun b_1 w_2 => al w_2 ⟨[(.slice a1 n1 c1)]⟩ 48 fun b_3 w_4 => WP Tryz.prog 98 (seqR c50n) (R50n k) noX (R50n k) [(2, (.pointer (some ⟨b_1, 0, none⟩))), (3, (.pointer (some ⟨b_3, 0, none⟩)))] w_4
theorem C50n (a1 : Option Addr) (n1 : Nat) (c1 : Nat) (k : Value → World → Prop) (w : World) (h : F50n a1 n1 c1 k w) : CALL Tryz.prog 50 ⟨[(.pointer none), (.slice a1 n1 c1)]⟩ w k :=
  calls_of_WP Tryz.func50 (c := c50n) (by kernel_rfl) (by kernel_rfl) (Nat.le_of_ble_eq_true (by kernel_rfl)) (WP_of_den (an := (.cut [2, 3] .nil .nil)) (by kernel_rfl) (Eq.mp (by kernel_rfl) h))
theorem S50n' : seqR c50n = .scope (scpC (seqR c50n)) := by kernel_rfl
end Go.Den
