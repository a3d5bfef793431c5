/- morainelaw15's awake answers true, out of its pieces. Own work; a part of the proof of a claim. Conditions: none beyond those that stand in each theorem. -/
import Derived.Test.YteganidclpobeaaGreatEn2
import Derived.Test.YteganidclpobeaaGreatPc3
import Derived.Test.YteganidclpobeaaGreatPc4
set_option linter.unusedVariables false
set_option maxRecDepth 100000
/- Pc5: morainelaw15's awake answers true, out of its pieces. -/
set_option linter.unusedSimpArgs false
namespace Go.Den.S15
open Go Go.Den Go.Proofs Go.RowKit

theorem thenT_out {r : Option (LV × LHeap)} {f : LHeap → Bool} (h : thenT r f = true) : ∃ H, r = some (.sc (.bool true), H) ∧ f H = true := by
  unfold thenT at h
  split at h
  · exact ⟨_, rfl, h⟩
  · cases h

def callV (a b c : Int) : Value := .agg ⟨[.int .i64 a, .int .i64 b, .int .i64 c, .int .i64 0, .bool false]⟩

theorem call_rel {σ : Sg} {a b c : Int} : VR Tryz.prog σ (call15 a b c) (callV a b c) :=
  ⟨[.int .i64 a, .int .i64 b, .int .i64 c, .int .i64 0, .bool false], ⟨⟨rfl, rfl⟩, ⟨rfl, rfl⟩, ⟨rfl, rfl⟩, ⟨rfl, rfl⟩, ⟨rfl, rfl⟩, trivial⟩, rfl⟩

theorem awake15 (w : World) : CALL Tryz.prog 81 ⟨[]⟩ w fun v w' => v = .bool true ∧ Grown w w' := by
  obtain ⟨H0, hr0, n0, m0, a0⟩ := runIs_out begun15
  have hrest := rest15_true
  unfold rest15 at hrest
  obtain ⟨H2, hr2, hrest⟩ := thenT_out hrest
  obtain ⟨H3, hr3, hrest⟩ := thenT_out hrest
  obtain ⟨H4, hr4, hrest⟩ := thenT_out hrest
  obtain ⟨H5, hr5, hlen⟩ := thenT_out hrest
  have g82 : isGo Tryz.prog 82 = true := by kernel_rfl
  have g83 : isGo Tryz.prog 83 = true := by kernel_rfl
  have g84 : isGo Tryz.prog 84 = true := by kernel_rfl
  refine C81 _ _ ?_
  refine call_mono (runF_S (args' := []) hr0 g82 (MR_empty Tryz.prog w) trivial) ?_
  rintro v1 w1 ⟨σ1, hx1, hv1, hm1⟩
  obtain ⟨r, hb, hv1⟩ := hv1
  subst hv1
  have hm1 := hm1.forget n0 m0 a0 rfl
  refine ⟨some ⟨r.1, 0, none⟩, rfl, bc_t rfl ?_⟩
  refine call_mono (runF_S (args' := [.pointer (some ⟨r.1, 0, none⟩), callV 0 0 1]) hr2 g83 hm1 ⟨⟨r, hb, rfl⟩, call_rel, trivial⟩) ?_
  rintro v2 w2 ⟨σ2, hx2, hv2, hm2⟩
  have hv2 : v2 = .bool true := hv2.1
  subst hv2
  have hb := hx2.f _ _ hb
  refine ⟨true, rfl, ?_⟩
  refine call_mono (runF_S (args' := [.pointer (some ⟨r.1, 0, none⟩), callV 0 1 2]) hr3 g83 hm2 ⟨⟨r, hb, rfl⟩, call_rel, trivial⟩) ?_
  rintro v3 w3 ⟨σ3, hx3, hv3, hm3⟩
  have hv3 : v3 = .bool true := hv3.1
  subst hv3
  have hb := hx3.f _ _ hb
  refine ⟨true, rfl, ?_⟩
  refine call_mono (runF_S (args' := [.pointer (some ⟨r.1, 0, none⟩), callV 0 0 3]) hr4 g83 hm3 ⟨⟨r, hb, rfl⟩, call_rel, trivial⟩) ?_
  rintro v4 w4 ⟨σ4, hx4, hv4, hm4⟩
  have hv4 : v4 = .bool true := hv4.1
  subst hv4
  have hb := hx4.f _ _ hb
  refine ⟨true, rfl, ?_⟩
  refine call_mono (runF_S (args' := [.pointer (some ⟨r.1, 0, none⟩)]) hr5 g84 hm4 ⟨⟨r, hb, rfl⟩, trivial⟩) ?_
  rintro v5 w5 ⟨σ5, hx5, hv5, hm5⟩
  have hv5 : v5 = .bool true := hv5.1
  subst hv5
  have hb := hx5.f _ _ hb
  refine ⟨true, rfl, ?_⟩
  unfold len2 at hlen
  split at hlen
  case h_2 => cases hlen
  rename_i b1 o1 e1
  split at hlen
  case h_2 => cases hlen
  rename_i ba oa c ex e2
  obtain ⟨r1, hb1, c1⟩ := get_ptr hm5 hb e1
  obtain ⟨v, hv, c2, _⟩ := hm5.cell b1 o1 _ r1 hb1 e2
  obtain ⟨ra, ca, ea, _, _, hv⟩ := hv
  have hx := hx1.trans (hx2.trans (hx3.trans (hx4.trans hx5)))
  refine ⟨some ⟨r1.1, o1, none⟩, ?_, some ⟨ra.1, oa, none⟩, 2, ca, by rw [c2, hv], rfl, Grown_of hm5.fz hx.A hx.F hx.os hx.out⟩
  rw [Go.WideShapes.add_plain, Nat.zero_add]; exact c1
end Go.Den.S15
