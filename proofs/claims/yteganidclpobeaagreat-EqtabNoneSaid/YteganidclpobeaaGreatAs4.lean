/- The walk of AuditSame: the reference's answer, the bound, and the law. Own work; a part of the proof of a claim. Conditions: none beyond those that stand in each theorem. -/
import Derived.Test.YteganidclpobeaaGreatAs3
set_option linter.unusedVariables false
set_option maxRecDepth 100000
set_option linter.unusedSimpArgs false
namespace Go.Den.S14
open Go Go.Den Go.Proofs Go.RowKit

theorem rd_facts {w : World} {p : Addr} {k : Kd} (h : Rd w p 0 k.cells) : w.cell? p = some (.int .i64 k.x) ∧ w.cell? (p.add 1) = some (.int .i64 k.y) ∧ w.cell? (p.add 2) = some (.int .u64 k.m) ∧
    w.cell? (p.add 3) = some (.slice k.wa k.wn k.wc) ∧ w.cell? (p.add 4) = some (.slice k.ia k.ni k.ic) := by
  obtain ⟨h0, h1, h2, h3, h4, _⟩ := h
  rw [add0] at h0
  exact ⟨h0, h1, h2, h3, h4⟩

theorem len_ne {k1 k2 : Kd} {w : World} (d1 : KdR w k1) (d2 : KdR w k2) : (k1.wn ≠ k2.wn → k1.ws ≠ k2.ws) ∧ (k1.ni ≠ k2.ni → k1.js ≠ k2.js) :=
  ⟨fun h e => h (by rw [← d1.1.1, ← d2.1.1, e]), fun h e => h (by rw [← d1.2.1, ← d2.2.1, e])⟩

theorem j25 {u : World} {k1 k2 : Kd} {b6 b7 : Nat} (d1 : KdR u k1) (d2 : KdR u k2) (r1 : Rd u ⟨b6, 0, none⟩ 0 k1.cells) (r2 : Rd u ⟨b7, 0, none⟩ 0 k2.cells)
    {B0 : (Option Addr × Nat × Nat × Option Addr × Nat × Nat × Int) → World → Prop} {K : Value → World → Prop} {a0 : Option Addr} {n0 c0 : Nat} {a1 : Option Addr} {n1 c1 : Nat} {x5 : Int}
    (hno : sameK k1 k2 = false → ∀ w', Kin u w' → K (.bool false) w') (hyes : sameK k1 k2 = true → ∀ w', Kin u w' → B0 (a0, n0, c0, a1, n1, c1, IntKind.wrap .i64 (x5 + 1)) w') :
    J25_1 B0 K a0 n0 c0 a1 n1 c1 x5 b6 b7 u := by
  have no : ¬ (k1.x = k2.x ∧ k1.y = k2.y ∧ k1.m = k2.m ∧ k1.ws = k2.ws ∧ k1.js = k2.js) → ∀ w', Kin u w' → K (.bool false) w' := fun hn => hno (by unfold sameK; exact decide_eq_false hn)
  obtain ⟨a0', a1', a2', a3', a4'⟩ := rd_five r1
  obtain ⟨b0', b1', b2', b3', b4'⟩ := rd_five r2
  refine J25_1_ok _ _ _ _ _ _ _ _ _ _ _ _ ?_
  refine ⟨k1.x, a0', k2.x, b0', ?_⟩
  by_cases h0 : k1.x = k2.x
  case neg => exact bc_t (by simpa using h0) (no (fun h => h0 h.1) u (.refl u))
  refine bc_f (by simpa using h0) ⟨k1.y, a1', k2.y, b1', ?_⟩
  by_cases h1 : k1.y = k2.y
  case neg => exact bc_t (by simpa using h1) (no (fun h => h1 h.2.1) u (.refl u))
  refine bc_f (by simpa using h1) ⟨k1.m, a2', k2.m, b2', ?_⟩
  by_cases h2 : k1.m = k2.m
  case neg => exact bc_t (by simpa using h2) (no (fun h => h2 h.2.2.1) u (.refl u))
  refine bc_f (by simpa using h2) ⟨_, _, _, a3', _, _, _, b3', ?_⟩
  by_cases h3 : k1.wn = k2.wn
  case neg => exact bc_t (by simp only [bne_iff_ne, ne_eq]; omega) (no (fun h => (len_ne d1 d2).1 h3 h.2.2.2.1) u (.refl u))
  refine bc_f (by simp [h3]) ⟨_, _, _, a4', _, _, _, b4', ?_⟩
  by_cases h4 : k1.ni = k2.ni
  case neg => exact bc_t (by simp only [bne_iff_ne, ne_eq]; omega) (no (fun h => (len_ne d1 d2).2 h4 h.2.2.2.2) u (.refl u))
  refine bc_f (by simp [h4]) ?_
  exact ref_inner1 d1 d2 h3 h4 r1 r2 (fun hn => no (fun h => hn h.2.2.2)) (fun h5 h6 => hyes (by unfold sameK; exact decide_eq_true ⟨h0, h1, h2, h5, h6⟩))

theorem rows2 {w1 u2 u3 : World} (h2 : u2 = w1.alloc (.cells ⟨zs5⟩ 165)) (h3 : u3 = u2.alloc (.cells ⟨zs5⟩ 165)) : Grown w1 u2 ∧ Grown w1 u3 ∧ u2.heap.size = w1.heap.size + 1 ∧
    (∀ j, j < 5 → ∃ x, u3.cell? ⟨w1.heap.size, 0 + j, none⟩ = some x) ∧ (∀ j, j < 5 → ∃ x, u3.cell? ⟨u2.heap.size, 0 + j, none⟩ = some x) ∧
    (∀ off, u3.frozen? ⟨w1.heap.size, off, none⟩ = false) ∧ (∀ off, u3.frozen? ⟨u2.heap.size, off, none⟩ = false) := by
  have g2 : Grown w1 u2 := by rw [h2]; exact (Grown.refl w1).alloc _ _
  have g3 : Grown u2 u3 := by rw [h3]; exact (Grown.refl u2).alloc _ _
  refine ⟨g2, grown_trans g2 g3, by rw [h2]; exact alloc_size, fun j hj => ?_, fun j hj => ?_, fun off => ?_, fun off => ?_⟩
  · obtain ⟨x, hx⟩ := five hj
    refine ⟨x, grown_cell g3 ?_⟩
    rw [h2, World.cell?_alloc_new, Nat.zero_add]; simpa using hx
  · obtain ⟨x, hx⟩ := five hj
    refine ⟨x, ?_⟩
    rw [h3, World.cell?_alloc_new, Nat.zero_add]; simpa using hx
  · rw [g3.2.1, h2]; exact World.frozen?_alloc_new _ _ _ _
  · rw [h3]; exact World.frozen?_alloc_new _ _ _ _

theorem Rd_far {w : World} {p q : Addr} {vs : List Value} {i : Nat} (hne : q.block ≠ p.block) : ∀ {l : List Value} {k : Nat}, Rd w p k l → Rd (setCells w q i vs) p k l
  | [], _, _ => trivial
  | v :: r, k, h => ⟨by rw [setCells_far (by unfold Addr.add; split <;> exact hne)]; exact h.1, Rd_far hne h.2⟩

theorem ref_ok {w : World} {a b : Option Addr} {n m c d : Nat} {L M : List Kd} (hL : KsR w a n L) (hM : KsR w b m M) {K : Value → World → Prop} (hk : ∀ w', Grown w w' → K (.bool (sameL L M)) w') :
    CALL Tryz.prog 25 ⟨[.slice a n c, .slice b m d]⟩ w K := by
  refine C25 _ _ _ _ _ _ _ _ ?_
  by_cases hnm : n = m
  case neg =>
    refine bc_t (by simp only [bne_iff_ne, ne_eq]; omega) ?_
    have := hk w (.refl w)
    rwa [sameL_len (by rw [hL.1, hM.1]; exact hnm)] at this
  refine bc_f (by simp [hnm]) ?_
  refine L25_0_rule K (fun q x u => x.1 = a ∧ x.2.1 = n ∧ x.2.2.2.1 = b ∧ x.2.2.2.2.1 = m ∧ Grown w u ∧ ∃ j : Nat, x.2.2.2.2.2.2 = (j : Int) ∧ j ≤ n ∧ q = n - j ∧ sameL L M = sameL (L.drop j) (M.drop j)) ?_ n _ _ _ _ _ _ _ _
    ⟨rfl, rfl, rfl, rfl, .refl w, 0, rfl, Nat.zero_le _, by simp, by simp⟩
  rintro q a0 n0 c0 a1 n1 c1 x5 u ⟨h1, h2, h3, h4, hg, j, h5, hj, rfl, hs⟩
  simp only at h1 h2 h3 h4 h5
  rw [h1, h2, h3, h4, h5]
  by_cases hlt : j < n
  · refine bc_t (by simpa using hlt) ?_
    rintro w1 rfl
    have hgd : Grown w (World.drew u) := hg.drew
    obtain ⟨p, k1, rfl, e1, r1, d1⟩ := (hL.grown hgd).at hlt
    obtain ⟨r, k2, rfl, e2, r2, d2⟩ := (hM.grown hgd).at (i := j) (by omega)
    have hst := sameL_step e1 e2
    have fin : ∀ {u4 : World} {b6 b7 : Nat}, Grown (World.drew u) u4 → Rd u4 ⟨b6, 0, none⟩ 0 k1.cells → Rd u4 ⟨b7, 0, none⟩ 0 k2.cells →
        J25_1 (fun x u => ∃ n', n' < n - j ∧ (x.1 = some p ∧ x.2.1 = n ∧ x.2.2.2.1 = some r ∧ x.2.2.2.2.1 = m ∧ Grown w u ∧ ∃ j : Nat, x.2.2.2.2.2.2 = (j : Int) ∧ j ≤ n ∧ n' = n - j ∧ sameL L M = sameL (L.drop j) (M.drop j))) K (some p) n c0 (some r) m c1 (j : Int) b6 b7 u4 := by
      intro u4 b6 b7 h4 hr1 hr2
      have hg4 := grown_trans hgd h4
      refine j25 (d1.grown h4) (d2.grown h4) hr1 hr2 (fun hn w' hk' => ?_) (fun hy w' hk' => ?_)
      · have := hk w' (hk'.grown hg4)
        rwa [hs, hst, hn, Bool.false_and] at this
      · exact ⟨n - (j + 1), by omega, rfl, rfl, rfl, rfl, hk'.grown hg4, j + 1, wrap_succ (by have := hL.2.1; omega), by omega, rfl, by rw [hs, hst, hy, Bool.true_and]⟩
    refine ⟨⟨by omega, by omega⟩, k1.x, k1.y, k1.m, k1.wa, k1.wn, k1.wc, k1.ia, k1.ni, k1.ic, by rw [Int.toNat_natCast]; exact r1, ⟨by omega, by omega⟩, k2.x, k2.y, k2.m, k2.wa, k2.wn, k2.wc, k2.ia, k2.ni, k2.ic, by rw [Int.toNat_natCast]; exact r2, ?_, ?_, trivial⟩
    · rw [Int.toNat_natCast]
      intro u2 h2'
      have g2 : Grown (World.drew u) u2 := by rw [h2']; exact (Grown.refl _).alloc _ _
      obtain ⟨f0, f1, f2, f3, f4⟩ := rd_facts (Rd_grown g2 r1)
      obtain ⟨s0, s1, s2, s3, s4⟩ := rd_facts (Rd_grown g2 r2)
      refine ⟨s0, s1, s2, s3, s4, f0, f1, f2, f3, f4, ?_⟩
      intro u3 h3'
      obtain ⟨_, g3, hsz, c1', c2', z1, z2⟩ := rows2 h2' h3'
      obtain ⟨f0, f1, f2, f3, f4⟩ := rd_facts (Rd_grown g3 r1)
      obtain ⟨s0, s1, s2, s3, s4⟩ := rd_facts (Rd_grown g3 r2)
      refine ⟨s0, s1, s2, s3, s4, f0, f1, f2, f3, f4, ⟨Wb_of c1' z1, ?_⟩⟩
      rintro w18 rfl
      have g18 := setCells_grown (p := ⟨(World.drew u).heap.size, 0, none⟩) (Nat.le_refl _) (vs := k1.cells) (i := 0) g3
      obtain ⟨s0, s1, s2, s3, s4⟩ := rd_facts (Rd_grown g18 r2)
      refine ⟨s0, s1, s2, s3, s4, ⟨Wb_of (fun j hj => ?_) (fun off => by rw [frozen_setCells]; exact z2 off), ?_⟩⟩
      · obtain ⟨x, hx⟩ := c2' j hj
        exact ⟨x, by rw [setCells_far (by simp only; omega)]; exact hx⟩
      rintro w19 rfl
      refine fin (setCells_grown (by simp only; omega) g18) (Rd_far (by simp only; omega) (setCells_rd c1')) (setCells_rd fun j hj => ?_)
      obtain ⟨x, hx⟩ := c2' j hj
      exact ⟨x, by rw [setCells_far (by simp only; omega)]; exact hx⟩
    · rw [Int.toNat_natCast]
      intro u2 h2'
      have g2 : Grown (World.drew u) u2 := by rw [h2']; exact (Grown.refl _).alloc _ _
      obtain ⟨f0, f1, f2, f3, f4⟩ := rd_facts (Rd_grown g2 r1)
      obtain ⟨s0, s1, s2, s3, s4⟩ := rd_facts (Rd_grown g2 r2)
      refine ⟨s0, s1, s2, s3, s4, f0, f1, f2, f3, f4, ?_⟩
      intro u3 h3'
      obtain ⟨_, g3, hsz, c1', c2', z1, z2⟩ := rows2 h2' h3'
      obtain ⟨f0, f1, f2, f3, f4⟩ := rd_facts (Rd_grown g3 r1)
      obtain ⟨s0, s1, s2, s3, s4⟩ := rd_facts (Rd_grown g3 r2)
      refine ⟨s0, s1, s2, s3, s4, f0, f1, f2, f3, f4, ⟨Wb_of c2' z2, ?_⟩⟩
      rintro w18 rfl
      have g18 := setCells_grown (p := ⟨u2.heap.size, 0, none⟩) (by simp only; omega) (vs := k1.cells) (i := 0) g3
      obtain ⟨s0, s1, s2, s3, s4⟩ := rd_facts (Rd_grown g18 r2)
      refine ⟨s0, s1, s2, s3, s4, ⟨Wb_of (fun j hj => ?_) (fun off => by rw [frozen_setCells]; exact z1 off), ?_⟩⟩
      · obtain ⟨x, hx⟩ := c1' j hj
        exact ⟨x, by rw [setCells_far (by simp only; omega)]; exact hx⟩
      rintro w19 rfl
      refine fin (setCells_grown (Nat.le_refl _) g18) (Rd_far (by simp only; omega) (setCells_rd c2')) (setCells_rd fun j hj => ?_)
      obtain ⟨x, hx⟩ := c1' j hj
      exact ⟨x, by rw [setCells_far (by simp only; omega)]; exact hx⟩
  · refine bc_f (by simpa using hlt) ?_
    have := hk u hg
    rw [hs, List.drop_eq_nil_of_le (by rw [hL.1]; omega), List.drop_eq_nil_of_le (by rw [hM.1]; omega)] at this
    exact this

/-- Is it long? Whatever the answer. -/
theorem long_ok {w : World} {a : Option Addr} {n c : Nat} {L : List Kd} (hL : KsR w a n L) {K : Value → World → Prop} (hk : ∀ b, K (.bool b) w) : CALL Tryz.prog 22 ⟨[.slice a n c]⟩ w K := by
  refine C22 _ _ _ _ _ ?_
  by_cases hn : n ≤ 200
  case neg => exact bc_t (by simp; omega) (hk true)
  refine bc_f (by simp; omega) ?_
  refine L22_0_rule K (fun q x u => x.1 = a ∧ x.2.1 = n ∧ u = w ∧ ∃ j : Nat, x.2.2.2 = (j : Int) ∧ j ≤ n ∧ q = n - j) ?_ n _ _ _ _ _ ⟨rfl, rfl, rfl, 0, rfl, Nat.zero_le _, by simp⟩
  rintro q a0 n0 c0 x3 u ⟨h1, h2, rfl, j, h5, hj, rfl⟩
  simp only at h1 h2 h5
  rw [h1, h2, h5]
  by_cases hlt : j < n
  · refine bc_t (by simpa using hlt) ?_
    obtain ⟨p, k1, rfl, e1, r1, d1⟩ := hL.at hlt
    obtain ⟨f0, f1, f2, f3, f4⟩ := rd_facts r1
    refine ⟨⟨by omega, by omega⟩, _, _, _, by rw [Int.toNat_natCast]; exact f3, ?_⟩
    by_cases h3 : k1.wn ≤ 200
    case neg => exact bc_t (by simp; omega) (hk true)
    refine bc_f (by simp; omega) ⟨⟨by omega, by omega⟩, _, _, _, by rw [Int.toNat_natCast]; exact f4, ?_⟩
    by_cases h4 : k1.ni ≤ 200
    case neg => exact bc_t (by simp; omega) (hk true)
    refine bc_f (by simp; omega) ⟨n - (j + 1), by omega, rfl, rfl, rfl, j + 1, wrap_succ (by omega), by omega, rfl⟩
  · exact bc_f (by simpa using hlt) (hk false)

/-- The walk. -/
theorem same_law {W : World} {a b : Option Addr} {n m c d : Nat} {L M : List Kd} (hL : KsR W a n L) (hM : KsR W b m M) (haw : ∀ w, CALL Tryz.prog 23 ⟨[]⟩ w fun v w' => v = .bool true ∧ Grown w w') :
    CALL Tryz.prog 3 ⟨[.slice a n c, .slice b m d]⟩ W fun v w' => v = .bool true ∧ Grown W w' := by
  refine C3 _ _ _ _ _ _ _ _ ?_
  have aw : ∀ w, Grown W w → CALL Tryz.prog 23 ⟨[]⟩ w fun v w' => ∃ b, v = .bool b ∧ Value.bool b = .bool true ∧ Grown W w' := fun w hg => call_mono (haw w) fun v w' h => ⟨true, h.1, rfl, grown_trans hg h.2⟩
  refine long_ok hL fun b1 => ⟨b1, rfl, ?_⟩
  cases b1 with
  | true => exact aw W (.refl W)
  | false =>
  refine long_ok hM fun b2 => ⟨b2, rfl, ?_⟩
  cases b2 with
  | true => exact aw W (.refl W)
  | false =>
  refine same_ok14 hL hM fun w1 hg1 => ⟨_, rfl, ?_⟩
  refine ref_ok (hL.grown hg1) (hM.grown hg1) fun w2 hg2 => ⟨_, rfl, bc_t (by simp) ?_⟩
  have hg := grown_trans hg1 hg2
  refine same_ok14 (hL.grown hg) (hL.grown hg) fun w3 hg3 => ⟨_, rfl, bc_t (sameL_refl L) ?_⟩
  exact aw w3 (grown_trans hg hg3)
end Go.Den.S14
