/- The walk of EqtabNone: on a heap in which no segment is taken no word is a table. Own work; a part of the proof of a claim. Conditions: none beyond those that stand in each theorem. -/
import Derived.Test.YteganidclpobeaaGreatG15
import Derived.Test.YteganidclpobeaaGreatAs4
set_option linter.unusedVariables false
set_option maxRecDepth 100000
set_option linter.unusedSimpArgs false
namespace Go.Den.S15
open Go Go.Den Go.Den.S14 Go.Proofs Go.RowKit

/-! words: what the answer is does not matter here -/
theorem tag_ok {w : World} {x : Int} {K : Value → World → Prop} (hk : ∀ y, K (.int .i64 y) w) : CALL Tryz.prog 109 ⟨[.int .u64 x]⟩ w K := C109 _ _ _ (hk _)

theorem place_ok {w : World} {x : Int} {K : Value → World → Prop} (hk : ∀ b, K (.bool b) w) : CALL Tryz.prog 184 ⟨[.int .i64 x]⟩ w K := by
  refine C184 _ _ _ ?_
  unfold F184
  cases decide (x ≥ 1) with
  | true => cases decide (x ≤ 3) with
    | true => exact hk _
    | false => exact hk _
  | false => exact hk _

theorem letter_ok {w : World} {x : Int} {K : Value → World → Prop} (hk : ∀ b, K (.bool b) w) : CALL Tryz.prog 223 ⟨[.int .u64 x]⟩ w K := by
  refine C223 _ _ _ ?_
  unfold F223
  cases decide (x ≤ 1114111) with
  | true => cases decide (x < 55296) with
    | true => exact hk _
    | false => exact hk _
  | false => exact hk _

theorem part_ok {w : World} {a b x : Int} {p : Addr} (ha : 0 ≤ a) (hb : 0 ≤ b) (hp : w.cell? p = some (.int .u64 x)) {K : Value → World → Prop} (hk : ∀ y w', Kin w w' → K (.int .u64 y) w') :
    CALL Tryz.prog 240 ⟨[.int .i64 a, .int .i64 b, .pointer (some p)]⟩ w K := by
  refine C240 _ _ _ _ _ ?_
  rintro w1 rfl
  exact ⟨x, hp, ha, hb, hk _ _ (Kin.refl w).drew⟩

theorem parts_ok {w : World} {x : Int} {K : Value → World → Prop} (hk : ∀ a b c w', Grown w w' → K (.tuple ⟨[.int .i64 a, .int .i64 b, .int .u64 c]⟩) w') : CALL Tryz.prog 222 ⟨[.int .u64 x]⟩ w K := by
  refine C222 _ _ _ ?_
  intro w1 h1
  have g1 : Grown w w1 := by rw [h1]; exact (Grown.refl w).alloc _ _
  have c1 : w1.cell? ⟨w.heap.size, 0, none⟩ = some (.int .u64 x) := by rw [h1, World.cell?_alloc_new]; rfl
  refine part_ok (by decide) (by decide) c1 fun y1 w2 k2 => ⟨y1, rfl, ?_⟩
  refine part_ok (by decide) (by decide) ((k2.cell _).trans c1) fun y2 w3 k3 => ⟨y2, rfl, ?_⟩
  refine part_ok (by decide) (by decide) ((k3.cell _).trans ((k2.cell _).trans c1)) fun y3 w4 k4 => ⟨y3, rfl, ?_⟩
  exact hk _ _ _ _ (k4.grown (k3.grown (k2.grown g1)))

theorem may_ok {w : World} {x : Int} {K : Value → World → Prop} (hk : ∀ b w', Grown w w' → K (.bool b) w') : CALL Tryz.prog 185 ⟨[.int .u64 x]⟩ w K := by
  refine C185 _ _ _ ?_
  refine parts_ok fun a b c w1 g1 => ⟨a, b, c, rfl, ?_⟩
  refine tag_ok fun y => ⟨y, rfl, ?_⟩
  have h := fun b => hk b w1 g1
  cases (y == 0) with
  | true => exact h _
  | false =>
  cases (y == 1) with
  | true => exact h _
  | false =>
  cases (y == 2) with
  | true => exact h _
  | false =>
  cases (y == 3) with
  | true => exact h _
  | false =>
  cases (y == 6) with
  | true => exact h _
  | false =>
  cases (y == 4) with
  | true =>
    cases (a == 7) with
    | true => exact letter_ok fun b => ⟨b, rfl, h b⟩
    | false => exact h _
  | false =>
  cases (y == 5) with
  | true =>
    cases decide (a ≥ 1) with
    | true => cases decide (a ≤ 13) with
      | true => exact h _
      | false => exact h _
    | false => exact h _
  | false => exact h _

theorem addr_ok {w : World} {x : Int} {K : Value → World → Prop} (hk : ∀ a b w', Grown w w' → K (.tuple ⟨[.int .i64 a, .bool b]⟩) w') : CALL Tryz.prog 107 ⟨[.int .u64 x]⟩ w K := by
  refine C107 _ _ _ ?_
  refine tag_ok fun y => ⟨y, rfl, ?_⟩
  refine place_ok fun b => ⟨b, rfl, ?_⟩
  cases b with
  | false => exact hk _ _ _ (.refl w)
  | true =>
    refine may_ok fun b w1 g1 => ⟨b, rfl, ?_⟩
    cases b with
    | false => exact hk _ _ _ g1
    | true => exact hk _ _ _ g1

/-! a heap in which no segment is taken -/
def Fresh (w : World) (p : Addr) : Prop := ∃ q1 q2 q3 a n c, w.cell? p = some (.pointer (some q1)) ∧ w.cell? q1 = some (.pointer (some q2)) ∧ w.cell? q2 = some (.pointer (some q3)) ∧ w.cell? q3 = some (.slice (some a) n c) ∧
  ∀ i, i < n → w.cell? ((a.add (i * 72)).add 7) = some (.int .i64 0)

theorem Fresh.grown {w w' : World} {p : Addr} (h : Fresh w p) (hg : Grown w w') : Fresh w' p := by
  obtain ⟨q1, q2, q3, a, n, c, h1, h2, h3, h4, h5⟩ := h
  exact ⟨q1, q2, q3, a, n, c, grown_cell hg h1, grown_cell hg h2, grown_cell hg h3, grown_cell hg h4, fun i hi => grown_cell hg (h5 i hi)⟩

def zs7 : List Value := [.int .i64 0, .int .i64 0, .int .i64 0, .int .i64 0, .int .i64 0, .int .i64 0, .int .i64 0]

theorem seg_at_ok {w : World} {q3 a : Addr} {n c : Nat} {x : Int} (h4 : w.cell? q3 = some (.slice (some a) n c)) (h5 : ∀ i, i < n → w.cell? ((a.add (i * 72)).add 7) = some (.int .i64 0)) {K : Value → World → Prop} (hk : K (.pointer none) w) :
    CALL Tryz.prog 150 ⟨[.pointer (some q3), .int .i64 x]⟩ w K := by
  refine C150 _ _ _ _ ?_
  unfold F150
  by_cases h0 : x < 0
  · exact bc_t (by simpa using h0) hk
  refine bc_f (by simpa using h0) ⟨_, _, _, h4, ?_⟩
  by_cases h1 : x ≥ (n : Int)
  · exact bc_t (by simpa using h1) hk
  refine bc_f (by simpa using h1) ⟨_, _, _, h4, ⟨by omega, by omega⟩, 0, h5 _ (by omega), bc_t (by simp) hk⟩

/-- A new row that is written whole. -/
theorem freshN {w w1 : World} {zs vs : List Value} {t : TypeId} (hw1 : w1 = w.alloc (.cells ⟨zs⟩ t)) {w2 : World} (hg : Grown w1 w2) (hl : vs.length ≤ zs.length) {K : World → Prop}
    (hk : ∀ w3, Grown w w3 → Rd w3 ⟨w.heap.size, 0, none⟩ 0 vs → K w3) : stN w2 ⟨w.heap.size, 0, none⟩ vs K := by
  have g1 : Grown w w1 := by rw [hw1]; exact (Grown.refl w).alloc _ _
  have hc : ∀ j, j < vs.length → ∃ u, w2.cell? ⟨w.heap.size, 0 + j, none⟩ = some u := fun j hj => by
    have hz : zs[j]? = some (zs[j]'(by omega)) := List.getElem?_eq_getElem (by omega)
    refine ⟨zs[j]'(by omega), grown_cell hg ?_⟩
    rw [hw1, World.cell?_alloc_new, Nat.zero_add]
    simp
  have hf : ∀ off, w2.frozen? ⟨w.heap.size, off, none⟩ = false := fun off => by rw [hg.2.1, hw1]; exact World.frozen?_alloc_new _ _ _ _
  refine ⟨Go.Den.S14.Wb_of hc hf, ?_⟩
  rintro w3 rfl
  exact hk _ (setCells_grown (Nat.le_refl _) (grown_trans g1 hg)) (setCells_rd hc)
theorem seg_ok {w : World} {q3 a : Addr} {n c : Nat} {x : Int} (h4 : w.cell? q3 = some (.slice (some a) n c)) (h5 : ∀ i, i < n → w.cell? ((a.add (i * 72)).add 7) = some (.int .i64 0)) {K : Value → World → Prop}
    (hk : ∀ w', Grown w w' → K (.tuple ⟨[.agg ⟨zs7⟩, .bool false]⟩) w') : CALL Tryz.prog 76 ⟨[.pointer (some q3), .int .i64 x]⟩ w K := by
  refine C76 _ _ _ _ ?_
  intro w1 h1
  have g1 : Grown w w1 := by rw [h1]; exact (Grown.refl w).alloc _ _
  refine seg_at_ok (grown_cell g1 h4) (fun i hi => grown_cell g1 (h5 i hi)) ⟨none, rfl, bc_t rfl ?_⟩
  refine freshN (zs := zs7) (vs := zs7) h1 (.refl w1) (Nat.le_refl _) fun w3 g3 r3 => ?_
  exact ⟨0, 0, 0, 0, 0, 0, 0, r3, hk w3 g3⟩

theorem none_ok {w : World} {p : Addr} (h : Fresh w p) {K : Value → World → Prop} (hk : K (.bool false) w) : CALL Tryz.prog 144 ⟨[.pointer (some p)]⟩ w K := by
  obtain ⟨q1, q2, q3, a, n, c, h1, h2, h3, h4, h5⟩ := h
  exact C144 _ _ _ ⟨some q1, h1, hk⟩

theorem at_ok {w : World} {p : Addr} (h : Fresh w p) {x y z : Int} {K : Value → World → Prop} (hk : ∀ a w', Grown w w' → K (.tuple ⟨[.int .i64 a, .bool false]⟩) w') :
    CALL Tryz.prog 204 ⟨[.pointer (some p), .int .u64 x, .int .i64 y, .int .i64 z]⟩ w K := by
  refine C204 _ _ _ _ _ _ ?_
  refine addr_ok fun a b w1 g1 => ⟨a, b, rfl, ?_⟩
  have f1 := h.grown g1
  refine none_ok f1 ⟨false, rfl, ?_⟩
  cases b with
  | false => exact hk _ _ g1
  | true =>
  refine tag_ok fun t => ⟨t, rfl, ?_⟩
  cases (t != y) with
  | true => exact hk _ _ g1
  | false =>
  obtain ⟨q1, q2, q3, b, n, c, h1, h2, h3, h4, h5⟩ := f1
  refine ⟨some q1, h1, some q2, h2, some q3, h3, ?_⟩
  refine seg_ok h4 h5 fun w2 g2 => ⟨0, 0, 0, 0, 0, 0, 0, false, rfl, ?_⟩
  intro w3 h3'
  refine freshN (zs := zs7) (vs := zs7) h3' (.refl w3) (Nat.le_refl _) fun w4 g4 r4 => ?_
  rintro w5 rfl
  exact hk _ _ (grown_trans g1 (grown_trans g2 g4)).drew

theorem object_ok {w : World} {p : Addr} (h : Fresh w p) {x : Int} {K : Value → World → Prop} (hk : ∀ w', Grown w w' → K (.tuple ⟨[.int .i64 0, .int .i64 0, .int .i64 0, .int .u64 0, .bool false]⟩) w') :
    CALL Tryz.prog 142 ⟨[.pointer (some p), .int .u64 x]⟩ w K := by
  refine C142 _ _ _ _ ?_
  refine L142_0_rule K (fun q y u => y.1 = p ∧ y.2.1 = x ∧ y.2.2.1 = 2 ∧ y.2.2.2.1 = 3 ∧ Grown w u ∧ ∃ j : Nat, y.2.2.2.2 = (j : Int) ∧ j ≤ 2 ∧ q = 2 - j) ?_ 2 _ _ _ _ _ _ ⟨rfl, rfl, rfl, rfl, .refl w, 0, rfl, by omega, rfl⟩
  rintro q p0 x1 y0 y1 x16 u ⟨h1, h2, h3, h4, hg, j, h5, hj, rfl⟩
  simp only at h1 h2 h3 h4 h5
  rw [h1, h2, h3, h4, h5]
  by_cases hlt : j < 2
  · refine bc_t (by simp; omega) ⟨⟨by omega, by omega⟩, ?_⟩
    have key : ∃ z : Int, ([.int .i64 2, .int .i64 3] : List Value)[((j : Int)).toNat]? = some (.int .i64 z) := by
      rw [Int.toNat_natCast]
      match j, hlt with
      | 0, _ => exact ⟨2, rfl⟩
      | 1, _ => exact ⟨3, rfl⟩
    obtain ⟨z, hz⟩ := key
    refine ⟨z, hz, ?_⟩
    refine at_ok (h.grown hg) fun a w1 g1 => ⟨a, false, rfl, ?_⟩
    exact ⟨2 - (j + 1), by omega, rfl, rfl, rfl, rfl, grown_trans hg g1, j + 1, wrap_succ (by omega), by omega, rfl⟩
  · exact bc_f (by simp; omega) (hk u hg)

theorem type_ok {w : World} {p : Addr} (h : Fresh w p) {x : Int} {K : Value → World → Prop} (hk : ∀ w', Grown w w' → K (.int .i64 0) w') : CALL Tryz.prog 63 ⟨[.pointer (some p), .int .u64 x]⟩ w K :=
  C63 _ _ _ _ (object_ok h fun w' g => ⟨0, 0, 0, 0, false, rfl, hk w' g⟩)

theorem open_ok {w : World} {p : Addr} (h : Fresh w p) {x : Int} {K : Value → World → Prop} (hk : ∀ w', Grown w w' → K (.tuple ⟨[.agg ⟨[.pointer none, .int .u64 0]⟩, .int .i64 3]⟩) w') :
    CALL Tryz.prog 160 ⟨[.pointer (some p), .int .u64 x]⟩ w K := by
  refine C160 _ _ _ _ ?_
  intro w1 h1
  have g1 : Grown w w1 := by rw [h1]; exact (Grown.refl w).alloc _ _
  refine type_ok (h.grown g1) fun w2 g2 => ⟨0, rfl, bc_t rfl ?_⟩
  refine freshN (zs := [.pointer none, .int .u64 0]) (vs := [.pointer none, .int .u64 0]) h1 g2 (Nat.le_refl _) fun w3 g3 r3 => ?_
  exact ⟨none, 0, r3, hk w3 g3⟩

theorem open_nil {w : World} {x : Int} {K : Value → World → Prop} (hk : ∀ w', Grown w w' → K (.tuple ⟨[.agg ⟨[.pointer none, .int .u64 0]⟩, .int .i64 3]⟩) w') :
    CALL Tryz.prog 160 ⟨[.pointer none, .int .u64 x]⟩ w K := by
  refine C160n _ _ _ ?_
  intro w1 h1
  refine freshN (zs := [.pointer none, .int .u64 0]) (vs := [.pointer none, .int .u64 0]) h1 (.refl w1) (Nat.le_refl _) fun w3 g3 r3 => ?_
  exact ⟨none, 0, r3, hk w3 g3⟩

/-- What comes behind an open that fails. -/
theorem behind {w : World} {K : World → Prop} (hk : ∀ w', Grown w w' → K w') :
    al w ⟨[.pointer none, .int .u64 0]⟩ 244 fun b w1 => stN w1 ⟨b, 0, none⟩ [.pointer none, .int .u64 0] K := by
  intro w1 h1
  exact freshN (zs := [.pointer none, .int .u64 0]) (vs := [.pointer none, .int .u64 0]) h1 (.refl w1) (Nat.le_refl _) fun w3 g3 _ => hk w3 g3

theorem put_ok {w : World} {p : Addr} (h : Fresh w p) {x y z : Int} {K : Value → World → Prop} (hk : ∀ w', Grown w w' → K (.int .i64 3) w') : CALL Tryz.prog 87 ⟨[.pointer (some p), .int .u64 x, .int .u64 y, .int .u64 z]⟩ w K := by
  refine C87 _ _ _ _ _ _ ?_
  refine open_ok h fun w1 g1 => ⟨none, 0, 3, rfl, ?_⟩
  refine behind fun w2 g2 => ?_
  exact hk w2 (grown_trans g1 g2)

theorem get_ok {w : World} {p : Addr} (h : Fresh w p) {x y : Int} {K : Value → World → Prop} (hk : ∀ w', Grown w w' → K (.tuple ⟨[.int .u64 0, .bool false, .int .i64 3]⟩) w') : CALL Tryz.prog 90 ⟨[.pointer (some p), .int .u64 x, .int .u64 y]⟩ w K := by
  refine C90 _ _ _ _ _ ?_
  refine open_ok h fun w1 g1 => ⟨none, 0, 3, rfl, ?_⟩
  refine behind fun w2 g2 => ?_
  exact hk w2 (grown_trans g1 g2)

theorem del_ok {w : World} {p : Addr} (h : Fresh w p) {x y : Int} {K : Value → World → Prop} (hk : ∀ w', Grown w w' → K (.tuple ⟨[.bool false, .int .i64 3]⟩) w') : CALL Tryz.prog 91 ⟨[.pointer (some p), .int .u64 x, .int .u64 y]⟩ w K := by
  refine C91 _ _ _ _ _ ?_
  refine open_ok h fun w1 g1 => ⟨none, 0, 3, rfl, ?_⟩
  refine behind fun w2 g2 => ?_
  exact hk w2 (grown_trans g1 g2)

theorem count_ok {w : World} {p : Addr} (h : Fresh w p) {x : Int} {K : Value → World → Prop} (hk : ∀ w', Grown w w' → K (.tuple ⟨[.int .i64 0, .int .i64 3]⟩) w') : CALL Tryz.prog 92 ⟨[.pointer (some p), .int .u64 x]⟩ w K := by
  refine C92 _ _ _ _ ?_
  refine open_ok h fun w1 g1 => ⟨none, 0, 3, rfl, ?_⟩
  refine behind fun w2 g2 => ?_
  exact hk w2 (grown_trans g1 g2)

theorem keys_nil {w : World} {x : Int} {K : Value → World → Prop} (hk : ∀ w', Grown w w' → K (.tuple ⟨[.slice none 0 0, .int .i64 3]⟩) w') : CALL Tryz.prog 93 ⟨[.pointer none, .int .u64 x]⟩ w K := by
  refine C93n _ _ _ ?_
  intro w1 h1
  have g1 : Grown w w1 := by rw [h1]; exact (Grown.refl w).alloc _ _
  refine ⟨none, by rw [h1, World.cell?_alloc_new]; rfl, ?_⟩
  refine C172n _ _ _ _ _ _ ?_
  intro w2 h2 w3 h3
  have g2 : Grown w1 w2 := by rw [h2]; exact (Grown.refl w1).alloc _ _
  have g3 : Grown w2 w3 := by rw [h3]; exact (Grown.refl w2).alloc _ _
  refine ⟨none, grown_cell g3 (by rw [h2, World.cell?_alloc_new]; rfl), ?_⟩
  refine open_nil fun w4 g4 => ⟨none, 0, 3, rfl, ?_⟩
  refine behind fun w5 g5 => ?_
  refine bc_t rfl ?_
  exact ⟨none, 0, 0, 3, rfl, hk w5 (grown_trans g1 (grown_trans g2 (grown_trans g3 (grown_trans g4 g5))))⟩

/-- The law's walk. -/
theorem none_law {W : World} {x y z : Int} (hnew : ∀ w, CALL Tryz.prog 26 ⟨[.int .i64 8]⟩ w fun v w' => ∃ p, v = .tuple ⟨[.pointer (some p), .int .i64 0]⟩ ∧ Fresh w' p ∧ Grown w w')
    (haw : ∀ w, CALL Tryz.prog 81 ⟨[]⟩ w fun v w' => v = .bool true ∧ Grown w w') :
    CALL Tryz.prog 19 ⟨[.int .u64 x, .int .u64 y, .int .u64 z]⟩ W fun v w' => v = .bool true ∧ Grown W w' := by
  refine C19 _ _ _ _ _ ?_
  refine call_mono (hnew W) ?_
  rintro v w1 ⟨p, rfl, f1, g1⟩
  refine ⟨some p, 0, rfl, bc_f rfl ?_⟩
  refine put_ok f1 fun w2 g2 => ⟨3, rfl, ?_⟩
  have f2 := f1.grown g2
  refine get_ok f2 fun w3 g3 => ⟨0, false, 3, rfl, ?_⟩
  have f3 := f2.grown g3
  refine del_ok f3 fun w4 g4 => ⟨false, 3, rfl, ?_⟩
  have f4 := f3.grown g4
  refine count_ok f4 fun w5 g5 => ⟨0, 3, rfl, ?_⟩
  refine keys_nil fun w6 g6 => ⟨none, 0, 0, 3, rfl, ?_⟩
  refine C94n _ _ ⟨0, 2, rfl, ?_⟩
  have hg := grown_trans g1 (grown_trans g2 (grown_trans g3 (grown_trans g4 (grown_trans g5 g6))))
  refine bc_t rfl (bc_t rfl (bc_t rfl (bc_t rfl (bc_t rfl (bc_t rfl (bc_t rfl (bc_t rfl (bc_t rfl (bc_t rfl (bc_t rfl ?_))))))))))
  exact call_mono (haw w6) fun v w' h => ⟨true, h.1, rfl, grown_trans hg h.2⟩

end Go.Den.S15
