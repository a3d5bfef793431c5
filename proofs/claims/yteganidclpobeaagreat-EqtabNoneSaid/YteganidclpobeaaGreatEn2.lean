/- What a new heap is, out of a closed run. Own work; a part of the proof of a claim. Conditions: none beyond those that stand in each theorem. -/
import Derived.Test.YteganidclpobeaaGreatEn1
import Derived.Test.YteganidclpobeaaGreatEv23
import Derived.Test.YteganidclpobeaaGreatEvT1
set_option linter.unusedVariables false
set_option maxRecDepth 100000
set_option linter.unusedSimpArgs false
namespace Go.Den.S15
open Go Go.Den Go.Proofs Go.RowKit

noncomputable def zeroB (P : Program) (H : LHeap) (b o : Nat) : Bool :=
  match H.get P b o with
  | some (.sc (.int .i64 (.ofNat 0))) => true
  | _ => false

/-- No segment is taken. -/
noncomputable def untakenB (P : Program) (H : LHeap) (b o : Nat) : Bool :=
  match H.get P b o with
  | some (.sl ba oa n _ _) => (List.range n).all fun i => zeroB P H ba (oa + i * 72 + 7)
  | _ => false

noncomputable def freshB (P : Program) (H : LHeap) (b o : Nat) : Bool :=
  match H.get P b o with
  | some (.ptr b1 o1) => (match H.get P b1 o1 with
    | some (.ptr b2 o2) => (match H.get P b2 o2 with
      | some (.ptr b3 o3) => untakenB P H b3 o3
      | _ => false)
    | _ => false)
  | _ => false

noncomputable def newB (P : Program) (r : Option (LV × LHeap)) : Bool :=
  match r with
  | some (.tup [.ptr b o, .sc (.int .i64 (.ofNat 0))], H) => freshB P H b o
  | _ => false

section
variable {P : Program} {σ : Sg} {H : LHeap} {w : World}

theorem get_ptr (hm : MR P σ H w) {b o b1 o1 : Nat} {r : Nat × Nat} (hb : σ b = some r) (h : H.get P b o = some (.ptr b1 o1)) : ∃ r1, σ b1 = some r1 ∧ w.cell? ⟨r.1, o, none⟩ = some (.pointer (some ⟨r1.1, o1, none⟩)) := by
  obtain ⟨v, hv, hc, _⟩ := hm.cell b o _ r hb h
  obtain ⟨r1, h1, h2⟩ := hv
  exact ⟨r1, h1, by rw [hc, h2]⟩

theorem zero_cell (hm : MR P σ H w) {b o : Nat} {r : Nat × Nat} (hb : σ b = some r) (h : zeroB P H b o = true) : w.cell? ⟨r.1, o, none⟩ = some (.int .i64 0) := by
  unfold zeroB at h
  split at h
  · rename_i hg
    obtain ⟨v, hv, hc, _⟩ := hm.cell b o _ r hb hg
    rw [hc, hv.1]; rfl
  · cases h

theorem fresh_of (hm : MR P σ H w) {b o : Nat} {r : Nat × Nat} (hb : σ b = some r) (h : freshB P H b o = true) : Fresh w ⟨r.1, o, none⟩ := by
  unfold freshB at h
  split at h
  case h_2 => cases h
  rename_i b1 o1 g0
  split at h
  case h_2 => cases h
  rename_i b2 o2 g1
  split at h
  case h_2 => cases h
  rename_i b3 o3 g2
  unfold untakenB at h
  split at h
  case h_2 => cases h
  rename_i ba oa n c ex g3
  obtain ⟨r1, e1, c0⟩ := get_ptr hm hb g0
  obtain ⟨r2, e2, c1⟩ := get_ptr hm e1 g1
  obtain ⟨r3, e3, c2⟩ := get_ptr hm e2 g2
  obtain ⟨v, hv, c3, _⟩ := hm.cell b3 o3 _ r3 e3 g3
  obtain ⟨ra, ca, ea, _, _, hv⟩ := hv
  refine ⟨_, _, _, ⟨ra.1, oa, none⟩, n, ca, c0, c1, c2, by rw [c3, hv], fun i hi => ?_⟩
  have hz := List.all_eq_true.1 h i (List.mem_range.2 hi)
  have := zero_cell hm ea hz
  rw [Go.WideShapes.add_plain, Go.WideShapes.add_plain]
  exact this
end

/-- A closed run that hands back a new heap. -/
theorem new_ok {P : Program} {pls : Nat → Plans} {fuel depth : Nat} {k : FuncId} {x : Int} (hg : isGo P k = true) (h : newB P (runF P pls fuel depth k [.sc (.int .i64 x)] emptyH) = true) (w : World) :
    CALL P k ⟨[.int .i64 x]⟩ w fun v w' => ∃ p, v = .tuple ⟨[.pointer (some p), .int .i64 0]⟩ ∧ Fresh w' p ∧ Grown w w' := by
  unfold newB at h
  split at h
  · rename_i b o H hr
    have := runF_S (args' := [.int .i64 x]) hr hg (MR_empty P w) ⟨⟨rfl, rfl⟩, trivial⟩
    refine ⟨this.1, this.2.mono fun e w' he => ?_⟩
    cases e with
    | returned v =>
      obtain ⟨σ', hx, hv, hm⟩ := he
      obtain ⟨l', hl, hv⟩ := hv
      match l', hl with
      | [v1, v2], hl =>
        obtain ⟨h1, h2, _⟩ := hl
        obtain ⟨r, hb, h1⟩ := h1
        have h2 : v2 = .int .i64 0 := h2.1
        refine ⟨⟨r.1, o, none⟩, by rw [hv, h1, h2], fresh_of hm hb h, Grown_of hm.fz hx.A hx.F hx.os hx.out⟩
    | panicked c => exact he.elim
    | outgrown => exact he.elim
  · cases h

theorem new8 : newB Tryz.prog (runF Tryz.prog plansZ 3000 40 26 [.sc (.int .i64 8)] emptyH) = true := by kernel_rfl
end Go.Den.S15
