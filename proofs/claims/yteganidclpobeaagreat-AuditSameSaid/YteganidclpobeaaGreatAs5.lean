/- Pictures that came in: what a reading of them tells of the cells. Own work; a part of the proof of a claim. Conditions: none beyond those that stand in each theorem. -/
import Derived.Test.YteganidclpobeaaGreatAs4
import Derived.Test.YteganidclpobeaaGreatRows
import Derived.WalkKit
import Derived.ProofKit
import Derived.OpenShut
import Derived.JoinedOf
import Derived.JoinedAt
import Derived.ChangeSlices
import Derived.Deep.SlicePairs
import Derived.WideKeyArgs
set_option linter.unusedVariables false
set_option maxRecDepth 100000
set_option linter.unusedSimpArgs false
namespace Go.Den.S14
open Go Go.Den Go.Proofs Go.RowKit

theorem Tryz_cells39 : Tryz.prog.cellsOf 39 = 1 := by kernel_rfl

theorem same_at {W W' : World} (hg : Grown W W') {ps : List MemPlace} (hc : ∀ p ∈ ps, ∃ b o, p = .cell b o) (hl : ∀ p ∈ ps, p.block < W.heap.size) : ∀ p ∈ ps, W.sameAt W' p := by
  intro p hp
  obtain ⟨b, o, rfl⟩ := hc p hp
  exact hg.1.cell (hl _ hp) (fun f => f)

section
variable {H : Type} {enc : TypeId × Value → H} {W : World}

theorem arg_ints {k : IntKind} {t e : TypeId} (ht : Tryz.prog.underlying t = some (.slice e)) (he : Tryz.prog.underlying e = some (.int k)) (hc : Tryz.prog.cellsOf e = 1) {fuel : Nat} {v : Value} {x : DataW H × List MemPlace}
    (h : DataW.trod enc Tryz.prog W 0 (fun _ => true) true fuel t [v] = some x) : ∃ a n c xs, v = .slice a n c ∧ IntsR k W a n xs ∧ ∀ p ∈ x.2, ∃ b o, p = .cell b o := by
  rcases Go.ChangeShapes.open_ints ht he hc h with ⟨hcs, hx⟩ | ⟨p, len, cap, zs, hcs, _, hl, hm, hz, hx, hcell, hw⟩
  · simp only [List.cons.injEq, and_true] at hcs
    refine ⟨none, 0, 0, [], hcs, ⟨rfl, by omega, Or.inl rfl⟩, fun p hp => ?_⟩
    rw [hx] at hp; cases hp
  · simp only [List.cons.injEq, and_true] at hcs
    simp only [if_true] at hz
    have hlen : (zs.take len).length = len := by rw [List.length_take]; omega
    refine ⟨some p, len, cap, zs.take len, hcs, ⟨hlen, by unfold maxLen at hm; omega, Or.inr ⟨p, rfl, fun i x hi => ?_⟩⟩, fun q hq => ?_⟩
    · rw [List.getElem?_take] at hi
      split at hi
      · rw [hcell i (by omega)]
        simp [List.getD, hi]
      · cases hi
    · rw [hx] at hq
      obtain ⟨i, _, rfl⟩ := MemPlace.mem_row.1 hq
      exact ⟨_, _, rfl⟩

instance : Inhabited Kd := ⟨⟨0, 0, 0, none, 0, 0, none, 0, 0, [], []⟩⟩

theorem cells165 : Tryz.prog.cellsOf 165 = 5 := by kernel_rfl
theorem cells3 : Tryz.prog.cellsOf 3 = 1 := by kernel_rfl
theorem cells38 : Tryz.prog.cellsOf 38 = 1 := by kernel_rfl
theorem cells32 : Tryz.prog.cellsOf 32 = 1 := by kernel_rfl
theorem cells67 : Tryz.prog.cellsOf 67 = 1 := by kernel_rfl

theorem arg_knot {fuel : Nat} {p : Addr} {cs : List Value} {y : DataW H × List MemPlace} (h1 : W.cells? 0 p 5 = some cs) (h2 : DataW.trod enc Tryz.prog W 0 (fun _ => true) true fuel 165 cs = some y) :
    (∃ k : Kd, Rd W p 0 k.cells ∧ KdR W k) ∧ ∀ q ∈ y.2, ∃ b o, q = .cell b o := by
  obtain ⟨_, hlen, hcell⟩ := World.cells?_some h1
  obtain ⟨xs, n, hn, hy, _, hxl, hf⟩ := DataW.trod_struct Tryz.underlying165 h2
  match xs, hxl, cs, hlen with
  | [y0, y1, y2, y3, y4], _, [v0, v1, v2, v3, v4], _ =>
    have g0 := hf 0 _ rfl
    have g1 := hf 1 _ rfl
    have g2 := hf 2 _ rfl
    have g3 := hf 3 _ rfl
    have g4 := hf 4 _ rfl
    simp [cells3, cells38, cells32, cells67] at g0 g1 g2 g3 g4
    obtain ⟨x, e0, p0, _⟩ := DataW.trod_int Tryz.underlying3 g0
    obtain ⟨z, e1, p1, _⟩ := DataW.trod_int Tryz.underlying3 g1
    obtain ⟨m, e2, p2, _⟩ := DataW.trod_int Tryz.underlying38 g2
    obtain ⟨wa, wn, wc, ws, e3, r3, p3⟩ := arg_ints Tryz.underlying32 Tryz.underlying39 Tryz_cells39 g3
    obtain ⟨ia, ni, ic, js, e4, r4, p4⟩ := arg_ints Tryz.underlying67 Tryz.underlying3 cells3 g4
    simp only [List.cons.injEq, and_true] at e0 e1 e2
    subst e0 e1 e2 e3 e4
    refine ⟨⟨⟨x, z, m, wa, wn, wc, ia, ni, ic, ws, js⟩, Rd_of fun j v hj => ?_, r3, r4⟩, fun q hq => ?_⟩
    · have hj' : j < 5 := (List.getElem?_eq_some_iff.1 hj).1
      rw [Nat.zero_add, hcell j hj']
      exact hj
    · rw [hy] at hq
      simp only [List.flatMap_cons, List.flatMap_nil, List.append_nil, p0, p1, p2, List.nil_append] at hq
      rcases List.mem_append.1 hq with h | h
      · exact p3 q h
      · exact p4 q h

theorem arg_knots {a : Option Addr} {n c : Nat} {d : DataW H} {ps : List MemPlace} (h : DataW.Trod enc Tryz.prog W 0 (fun _ => true) true 22 (.slice a n c) d ps) :
    (∃ L, KsR W a n L) ∧ ∀ p ∈ ps, ∃ b o, p = .cell b o := by
  obtain ⟨fuel, hf⟩ := h
  rcases Go.Deep.open_slice Tryz.underlying22 hf with ⟨hcs, hx⟩ | ⟨p, len, cap, m, k, D, Pl, hcs, _, hl, hm, hmm, hx, hc⟩
  · simp [Value.cells] at hcs
    obtain ⟨rfl, rfl, rfl⟩ := hcs
    simp only [Prod.mk.injEq] at hx
    refine ⟨⟨[], rfl, by omega, Or.inl rfl⟩, fun p hp => ?_⟩
    rw [hx.2] at hp; cases hp
  · simp [Value.cells] at hcs
    obtain ⟨rfl, rfl, rfl⟩ := hcs
    simp only [if_true] at hmm
    subst hmm
    rw [cells165] at hx hc
    simp only [Prod.mk.injEq] at hx
    have each : ∀ i, i < m → (∃ k : Kd, Rd W (p.add (i * 5)) 0 k.cells ∧ KdR W k) ∧ ∀ q ∈ Pl i, ∃ b o, q = .cell b o := fun i hi => by
      obtain ⟨cs', h1, h2⟩ := hc i hi
      exact arg_knot h1 h2
    obtain ⟨f, hfk⟩ := Go.Deep.choose_lt (n := m) fun i hi => (each i hi).1
    refine ⟨⟨(List.range n).map f, by simp, by unfold maxLen at hm; omega, Or.inr ⟨p, rfl, fun i k hk => ?_⟩⟩, fun q hq => ?_⟩
    · rw [List.getElem?_map] at hk
      obtain ⟨j, hj, rfl⟩ := Option.map_eq_some_iff.1 hk
      have hi : i < n := by
        rcases Nat.lt_or_ge i n with h | h
        · exact h
        · rw [List.getElem?_eq_none (by simpa using h)] at hj; cases hj
      rw [List.getElem?_range hi] at hj
      simp only [Option.some.injEq] at hj
      subst hj
      exact hfk i (by omega)
    · rw [hx.2] at hq
      rcases List.mem_append.1 hq with h | h
      · obtain ⟨i, _, rfl⟩ := MemPlace.mem_row.1 h
        exact ⟨_, _, rfl⟩
      · obtain ⟨i, hi, h⟩ := List.mem_flatMap.1 h
        exact (each i (List.mem_range.1 hi)).2 q h
end
end Go.Den.S14

