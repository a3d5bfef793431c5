/- slices.EqualFunc over knots, and the reference's inner loops. Own work; a part of the proof of a claim. Conditions: none beyond those that stand in each theorem. -/
import Derived.Test.YteganidclpobeaaGreatAs2
set_option linter.unusedVariables false
set_option maxRecDepth 100000
set_option linter.unusedSimpArgs false
namespace Go.Den.S14
open Go Go.Den Go.Proofs Go.RowKit

/-- A new row that is written whole. -/
theorem fresh5 {w w1 : World} {k : Kd} (hw1 : w1 = w.alloc (.cells ⟨zs5⟩ 165)) {K : World → Prop} (hk : ∀ w2, Grown w w2 → Rd w2 ⟨w.heap.size, 0, none⟩ 0 k.cells → (∀ off, w2.frozen? ⟨w.heap.size, off, none⟩ = false) → K w2) :
    stN w1 ⟨w.heap.size, 0, none⟩ k.cells K := by
  subst hw1
  have hc : ∀ j, j < k.cells.length → ∃ u, (w.alloc (.cells ⟨zs5⟩ 165)).cell? ⟨w.heap.size, 0 + j, none⟩ = some u := fun j hj => by
    rw [World.cell?_alloc_new, Nat.zero_add]
    obtain ⟨u, hu⟩ := five hj
    exact ⟨u, by simpa using hu⟩
  have hf : ∀ off, (w.alloc (.cells ⟨zs5⟩ 165)).frozen? ⟨w.heap.size, off, none⟩ = false := fun off => World.frozen?_alloc_new _ _ _ _
  refine ⟨Wb_of hc hf, ?_⟩
  rintro w2 rfl
  exact hk _ (setCells_grown (Nat.le_refl _) ((Grown.refl w).alloc _ _)) (setCells_rd hc) fun off => by rw [frozen_setCells]; exact hf off

theorem func_ok {w : World} {a b : Option Addr} {n m c d : Nat} {L M : List Kd} (hL : KsR w a n L) (hM : KsR w b m M) {K : Value → World → Prop} (hk : ∀ w', Grown w w' → K (.bool (sameL L M)) w') :
    CALL Tryz.prog 98 ⟨[.slice a n c, .slice b m d, .func (.func 99) ⟨[]⟩ ⟨[]⟩]⟩ w K := by
  refine C98 _ _ _ _ _ _ _ _ _ _ _ ?_
  by_cases hnm : n = m
  case neg =>
    refine bc_t (by simp only [bne_iff_ne, ne_eq]; omega) ?_
    have := hk w (.refl w)
    rwa [sameL_len (by rw [hL.1, hM.1]; exact hnm)] at this
  refine bc_f (by simp [hnm]) ?_
  refine L98_0_rule K (fun q x u => x.1 = b ∧ x.2.1 = m ∧ x.2.2.2.1 = 99 ∧ x.2.2.2.2.1 = ⟨[]⟩ ∧ x.2.2.2.2.2.1 = ⟨[]⟩ ∧ x.2.2.2.2.2.2.1 = a ∧ x.2.2.2.2.2.2.2.1 = n ∧ x.2.2.2.2.2.2.2.2.2.1 = (n : Int) ∧ Grown w u ∧
    ∃ j : Nat, x.2.2.2.2.2.2.2.2.2.2 = (j : Int) ∧ j ≤ n ∧ q = n - j ∧ sameL L M = sameL (L.drop j) (M.drop j)) ?_ n _ _ _ _ _ _ _ _ _ _ _ _ ⟨rfl, rfl, rfl, rfl, rfl, rfl, rfl, rfl, .refl w, 0, rfl, Nat.zero_le _, by simp, by simp⟩
  rintro q a1 n1 c1 f2k f2x f2y a15 n15 c15 x16 x17 u ⟨h1, h2, h3, h4, h5, h6, h7, h8, hg, j, h9, hj, rfl, hs⟩
  simp only at h1 h2 h3 h4 h5 h6 h7 h8 h9
  rw [h1, h2, h3, h4, h5, h6, h7, h8, h9]
  by_cases hlt : j < n
  · refine bc_t (by simpa using hlt) ?_
    obtain ⟨p, k1, rfl, e1, r1, d1⟩ := (hL.grown hg).at hlt
    obtain ⟨r, k2, rfl, e2, r2, d2⟩ := (hM.grown hg).at (i := j) (by omega)
    refine ⟨⟨by omega, by omega⟩, k1.x, k1.y, k1.m, k1.wa, k1.wn, k1.wc, k1.ia, k1.ni, k1.ic, by rw [Int.toNat_natCast]; exact r1, ?_⟩
    intro u1 hu1
    refine fresh5 (k := k1) hu1 fun u2 hg2 rk1 _ => ?_
    refine ⟨⟨by omega, by omega⟩, k2.x, k2.y, k2.m, k2.wa, k2.wn, k2.wc, k2.ia, k2.ni, k2.ic, by rw [Int.toNat_natCast]; exact Rd_grown hg2 r2, ?_⟩
    intro u3 hu3
    refine fresh5 (k := k2) hu3 fun u4 hg4 rk2 _ => ?_
    refine ⟨k1.x, k1.y, k1.m, k1.wa, k1.wn, k1.wc, k1.ia, k1.ni, k1.ic, Rd_grown hg4 rk1, k2.x, k2.y, k2.m, k2.wa, k2.wn, k2.wc, k2.ia, k2.ni, k2.ic, rk2, ?_⟩
    have hg24 := grown_trans hg2 hg4
    refine same_kn (a := k1) (b := k2) (d1.grown hg24) (d2.grown hg24) fun u5 hg5 => ⟨_, rfl, ?_⟩
    have hg5' := grown_trans hg (grown_trans hg24 hg5)
    have hst := sameL_step e1 e2
    cases hk12 : sameK k1 k2 with
    | false =>
      refine bc_t (by simp) ?_
      have := hk u5 hg5'
      rwa [hs, hst, hk12, Bool.false_and] at this
    | true =>
      refine bc_f (by simp) ⟨n - (j + 1), by omega, rfl, rfl, rfl, rfl, rfl, rfl, rfl, rfl, hg5', j + 1, wrap_succ (by have := hL.2.1; omega), by omega, rfl, by rw [hs, hst, hk12, Bool.true_and]⟩
  · refine bc_f (by simpa using hlt) ?_
    have := hk u hg
    rw [hs, List.drop_eq_nil_of_le (by rw [hL.1]; omega), List.drop_eq_nil_of_le (by rw [hM.1]; omega)] at this
    exact this

theorem same_ok14 {w : World} {a b : Option Addr} {n m c d : Nat} {L M : List Kd} (hL : KsR w a n L) (hM : KsR w b m M) {K : Value → World → Prop} (hk : ∀ w', Grown w w' → K (.bool (sameL L M)) w') :
    CALL Tryz.prog 24 ⟨[.slice a n c, .slice b m d]⟩ w K :=
  C24 _ _ _ _ _ _ _ _ (func_ok hL hM fun w' hg => ⟨_, rfl, hk w' hg⟩)

/-! the reference's answer -/
theorem ref_inner2 {w : World} {k1 k2 : Kd} {b6 b7 : Nat} (hx : IntsR .i64 w k1.ia k1.ni k1.js) (hy : IntsR .i64 w k2.ia k2.ni k2.js) (hn : k1.ni = k2.ni) (r1 : Rd w ⟨b6, 0, none⟩ 0 k1.cells) (r2 : Rd w ⟨b7, 0, none⟩ 0 k2.cells)
    {B0 : (Option Addr × Nat × Nat × Option Addr × Nat × Nat × Int) → World → Prop} {K : Value → World → Prop} {a0 : Option Addr} {n0 c0 : Nat} {a1 : Option Addr} {n1 c1 : Nat} {x5 : Int}
    (hno : k1.js ≠ k2.js → ∀ w', Kin w w' → K (.bool false) w') (hyes : k1.js = k2.js → ∀ w', Kin w w' → B0 (a0, n0, c0, a1, n1, c1, IntKind.wrap .i64 (x5 + 1)) w') :
    L25_3 B0 K a0 n0 c0 a1 n1 c1 x5 b6 b7 0 w := by
  refine L25_3_rule B0 K (fun q x u => x.1 = a0 ∧ x.2.1 = n0 ∧ x.2.2.1 = c0 ∧ x.2.2.2.1 = a1 ∧ x.2.2.2.2.1 = n1 ∧ x.2.2.2.2.2.1 = c1 ∧ x.2.2.2.2.2.2.1 = x5 ∧ x.2.2.2.2.2.2.2.1 = b6 ∧ x.2.2.2.2.2.2.2.2.1 = b7 ∧ Kin w u ∧
    ∃ j : Nat, x.2.2.2.2.2.2.2.2.2 = (j : Int) ∧ j ≤ k1.ni ∧ q = k1.ni - j ∧ k1.js.take j = k2.js.take j) ?_ k1.ni _ _ _ _ _ _ _ _ _ _ _ ⟨rfl, rfl, rfl, rfl, rfl, rfl, rfl, rfl, rfl, .refl w, 0, rfl, Nat.zero_le _, by simp, by simp⟩
  rintro q y1 y2 y3 y4 y5 y6 y7 y8 y9 x8 u ⟨h1, h2, h3, h4, h5, h6, h7, h8, h9, hkin, j, h10, hj, rfl, ht⟩
  simp only at h1 h2 h3 h4 h5 h6 h7 h8 h9 h10
  rw [h1, h2, h3, h4, h5, h6, h7, h8, h9, h10]
  obtain ⟨_, _, _, _, s1⟩ := rd_five (hkin.rd r1)
  obtain ⟨_, _, _, _, s2⟩ := rd_five (hkin.rd r2)
  refine ⟨_, _, _, s1, ?_⟩
  by_cases hlt : j < k1.ni
  · refine bc_t (by simpa using hlt) ?_
    rintro w1 rfl
    obtain ⟨p, x, e1, hx1, hx2⟩ := hx.at hlt
    obtain ⟨r, y, e2, hy1, hy2⟩ := hy.at (i := j) (by omega)
    have hkin' := hkin.drew
    refine ⟨_, _, _, s1, ?_⟩
    rw [e1]
    refine ⟨⟨by omega, by omega⟩, x, by rw [Int.toNat_natCast, Nat.mul_one, hkin'.cell]; exact hx2, _, _, _, s2, ?_⟩
    rw [e2]
    refine ⟨⟨by omega, by omega⟩, y, by rw [Int.toNat_natCast, Nat.mul_one, hkin'.cell]; exact hy2, ?_⟩
    by_cases hxy : x = y
    · subst hxy
      exact bc_f (by simp) ⟨k1.ni - (j + 1), by omega, rfl, rfl, rfl, rfl, rfl, rfl, rfl, rfl, rfl, hkin', j + 1, wrap_succ (by have := hx.2.1; omega), by omega, rfl, take_succ_eq ht hx1 hy1⟩
    · exact bc_t (by simpa using hxy) (hno (fun h => hxy (by rw [h] at hx1; rw [hx1] at hy1; exact Option.some.inj hy1)) _ hkin')
  · refine bc_f (by simpa using hlt) (hyes ?_ u hkin)
    have hjn : j = k1.ni := by omega
    have h7 : k1.js.take j = k1.js := List.take_of_length_le (by have := hx.1; omega)
    have h8 : k2.js.take j = k2.js := List.take_of_length_le (by have := hy.1; omega)
    rw [← h7, ← h8, ht]

theorem ref_inner1 {w : World} {k1 k2 : Kd} {b6 b7 : Nat} (d1 : KdR w k1) (d2 : KdR w k2) (hn : k1.wn = k2.wn) (hn2 : k1.ni = k2.ni) (r1 : Rd w ⟨b6, 0, none⟩ 0 k1.cells) (r2 : Rd w ⟨b7, 0, none⟩ 0 k2.cells)
    {B0 : (Option Addr × Nat × Nat × Option Addr × Nat × Nat × Int) → World → Prop} {K : Value → World → Prop} {a0 : Option Addr} {n0 c0 : Nat} {a1 : Option Addr} {n1 c1 : Nat} {x5 : Int}
    (hno : ¬ (k1.ws = k2.ws ∧ k1.js = k2.js) → ∀ w', Kin w w' → K (.bool false) w') (hyes : k1.ws = k2.ws → k1.js = k2.js → ∀ w', Kin w w' → B0 (a0, n0, c0, a1, n1, c1, IntKind.wrap .i64 (x5 + 1)) w') :
    L25_2 B0 K a0 n0 c0 a1 n1 c1 x5 b6 b7 0 w := by
  refine L25_2_rule B0 K (fun q x u => x.1 = a0 ∧ x.2.1 = n0 ∧ x.2.2.1 = c0 ∧ x.2.2.2.1 = a1 ∧ x.2.2.2.2.1 = n1 ∧ x.2.2.2.2.2.1 = c1 ∧ x.2.2.2.2.2.2.1 = x5 ∧ x.2.2.2.2.2.2.2.1 = b6 ∧ x.2.2.2.2.2.2.2.2.1 = b7 ∧ Kin w u ∧
    ∃ j : Nat, x.2.2.2.2.2.2.2.2.2 = (j : Int) ∧ j ≤ k1.wn ∧ q = k1.wn - j ∧ k1.ws.take j = k2.ws.take j) ?_ k1.wn _ _ _ _ _ _ _ _ _ _ _ ⟨rfl, rfl, rfl, rfl, rfl, rfl, rfl, rfl, rfl, .refl w, 0, rfl, Nat.zero_le _, by simp, by simp⟩
  rintro q y1 y2 y3 y4 y5 y6 y7 y8 y9 x8 u ⟨h1, h2, h3, h4, h5, h6, h7, h8, h9, hkin, j, h10, hj, rfl, ht⟩
  simp only at h1 h2 h3 h4 h5 h6 h7 h8 h9 h10
  rw [h1, h2, h3, h4, h5, h6, h7, h8, h9, h10]
  obtain ⟨_, _, _, s1, _⟩ := rd_five (hkin.rd r1)
  obtain ⟨_, _, _, s2, _⟩ := rd_five (hkin.rd r2)
  refine ⟨_, _, _, s1, ?_⟩
  by_cases hlt : j < k1.wn
  · refine bc_t (by simpa using hlt) ?_
    rintro w1 rfl
    obtain ⟨p, x, e1, hx1, hx2⟩ := d1.1.at hlt
    obtain ⟨r, y, e2, hy1, hy2⟩ := d2.1.at (i := j) (by omega)
    have hkin' := hkin.drew
    refine ⟨_, _, _, s1, ?_⟩
    rw [e1]
    refine ⟨⟨by omega, by omega⟩, x, by rw [Int.toNat_natCast, Nat.mul_one, hkin'.cell]; exact hx2, _, _, _, s2, ?_⟩
    rw [e2]
    refine ⟨⟨by omega, by omega⟩, y, by rw [Int.toNat_natCast, Nat.mul_one, hkin'.cell]; exact hy2, ?_⟩
    by_cases hxy : x = y
    · subst hxy
      exact bc_f (by simp) ⟨k1.wn - (j + 1), by omega, rfl, rfl, rfl, rfl, rfl, rfl, rfl, rfl, rfl, hkin', j + 1, wrap_succ (by have := d1.1.2.1; omega), by omega, rfl, take_succ_eq ht hx1 hy1⟩
    · exact bc_t (by simpa using hxy) (hno (fun h => hxy (by rw [h.1] at hx1; rw [hx1] at hy1; exact Option.some.inj hy1)) _ hkin')
  · have hws : k1.ws = k2.ws := by
      have h7 : k1.ws.take j = k1.ws := List.take_of_length_le (by have := d1.1.1; omega)
      have h8 : k2.ws.take j = k2.ws := List.take_of_length_le (by have := d2.1.1; omega)
      rw [← h7, ← h8, ht]
    refine bc_f (by simpa using hlt) (ref_inner2 ((d1.grown (Kin.gr hkin)).2) ((d2.grown (Kin.gr hkin)).2) hn2 (hkin.rd r1) (hkin.rd r2) (fun hne w' hk => hno (fun h => hne h.2) w' ⟨hk.1.trans hkin.1, hk.2.1.trans hkin.2.1, hk.2.2.trans hkin.2.2⟩)
      (fun he w' hk => hyes hws he w' ⟨hk.1.trans hkin.1, hk.2.1.trans hkin.2.1, hk.2.2.trans hkin.2.2⟩))
end Go.Den.S14
