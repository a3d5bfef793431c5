/- slices.Equal of numbers. Own work; a part of the proof of a claim. Conditions: none beyond those that stand in each theorem. -/
import Derived.Test.YteganidclpobeaaGreatG3
import Derived.Test.YteganidclpobeaaGreatWn1
set_option linter.unusedVariables false
set_option maxRecDepth 100000
set_option linter.unusedSimpArgs false
namespace Go.Den.S14
open Go Go.Den Go.Proofs Go.RowKit

/-- A slice of whole numbers of a kind, and what it holds. -/
def IntsR (k : IntKind) (w : World) (a : Option Addr) (n : Nat) (xs : List Int) : Prop :=
  xs.length = n ∧ n ≤ 9223372036854775807 ∧ (n = 0 ∨ ∃ p, a = some p ∧ ∀ i x, xs[i]? = some x → w.cell? (p.add i) = some (.int k x))

theorem IntsR.grown {k : IntKind} {w w' : World} {a : Option Addr} {n : Nat} {xs : List Int} (h : IntsR k w a n xs) (hg : Grown w w') : IntsR k w' a n xs :=
  ⟨h.1, h.2.1, h.2.2.imp id fun ⟨p, h1, h2⟩ => ⟨p, h1, fun i x hx => grown_cell hg (h2 i x hx)⟩⟩

theorem Kin.gr {w w' : World} (h : Kin w w') : Grown w w' := h.grown (Grown.refl w)

theorem IntsR.at {k : IntKind} {w : World} {a : Option Addr} {n : Nat} {xs : List Int} (h : IntsR k w a n xs) {i : Nat} (hi : i < n) : ∃ p x, a = some p ∧ xs[i]? = some x ∧ w.cell? (p.add i) = some (.int k x) := by
  obtain ⟨h1, _, h2⟩ := h
  rcases h2 with h2 | ⟨p, h2, h3⟩
  · omega
  · have hx : xs[i]? = some xs[i] := List.getElem?_eq_getElem (by omega)
    exact ⟨p, xs[i], h2, hx, h3 i _ hx⟩

theorem wrap_succ {j : Nat} (h : j < 9223372036854775807) : IntKind.wrap .i64 ((j : Int) + 1) = ((j + 1 : Nat) : Int) := by
  simp [IntKind.wrap, IntKind.bits, IntKind.signed]; omega

theorem take_succ_eq {xs ys : List Int} {j : Nat} {x : Int} (h : xs.take j = ys.take j) (hx : xs[j]? = some x) (hy : ys[j]? = some x) : xs.take (j + 1) = ys.take (j + 1) := by
  rw [List.take_add_one, List.take_add_one, h, hx, hy]

theorem eq_words {w : World} {a b : Option Addr} {n m c d : Nat} {xs ys : List Int} (hx : IntsR .u64 w a n xs) (hy : IntsR .u64 w b m ys) {K : Value → World → Prop} (hk : ∀ w', Kin w w' → K (.bool (decide (xs = ys))) w') :
    CALL Tryz.prog 100 ⟨[.slice a n c, .slice b m d]⟩ w K := by
  refine C100 _ _ _ _ _ _ _ _ ?_
  by_cases hnm : n = m
  case neg =>
    refine bc_t (by simp only [bne_iff_ne, ne_eq]; omega) ?_
    have := hk w (.refl w)
    rwa [decide_eq_false (fun h => hnm (by rw [← hx.1, ← hy.1, h]))] at this
  refine bc_f (by simp [hnm]) ?_
  refine L100_0_rule K (fun q x u => x.1 = a ∧ x.2.1 = n ∧ x.2.2.2.1 = b ∧ x.2.2.2.2.1 = m ∧ x.2.2.2.2.2.2.1 = (n : Int) ∧ Kin w u ∧ ∃ j : Nat, x.2.2.2.2.2.2.2 = (j : Int) ∧ j ≤ n ∧ q = n - j ∧ xs.take j = ys.take j) ?_ n _ _ _ _ _ _ _ _ _
    ⟨rfl, rfl, rfl, rfl, rfl, .refl w, 0, rfl, Nat.zero_le _, by simp, by simp⟩
  rintro q a0 n0 c0 a1 n1 c1 x12 x13 u ⟨h1, h2, h3, h4, h5, hkin, j, h6, hj, rfl, ht⟩
  simp only at h1 h2 h3 h4 h5 h6
  rw [h1, h2, h3, h4, h5, h6]
  by_cases hlt : j < n
  · refine bc_t (by simpa using hlt) ?_
    rintro w1 rfl
    obtain ⟨p, x, rfl, hx1, hx2⟩ := hx.at hlt
    obtain ⟨r, y, rfl, hy1, hy2⟩ := hy.at (i := j) (by omega)
    have hkin' := hkin.drew
    refine ⟨⟨by omega, by omega⟩, x, ?_, ⟨by omega, by omega⟩, y, ?_, ?_⟩
    · rw [Int.toNat_natCast, Nat.mul_one, hkin'.cell]; exact hx2
    · rw [Int.toNat_natCast, Nat.mul_one, hkin'.cell]; exact hy2
    · by_cases hxy : x = y
      · subst hxy
        refine bc_f (by simp) ⟨n - (j + 1), by omega, rfl, rfl, rfl, rfl, rfl, hkin', j + 1, wrap_succ (by have := hx.2.1; omega), by omega, rfl, take_succ_eq ht hx1 hy1⟩
      · refine bc_t (by simpa using hxy) ?_
        have := hk _ hkin'
        rwa [decide_eq_false (fun h => hxy (by subst h; rw [hx1] at hy1; exact Option.some.inj hy1))] at this
  · refine bc_f (by simpa using hlt) ?_
    have hjn : j = n := by omega
    subst hjn
    have := hk u hkin
    rwa [decide_eq_true (by have h7 : xs.take j = xs := List.take_of_length_le (by have := hx.1; omega); have h8 : ys.take j = ys := List.take_of_length_le (by have := hy.1; omega); rw [← h7, ← h8, ht])] at this

theorem eq_ints {w : World} {a b : Option Addr} {n m c d : Nat} {xs ys : List Int} (hx : IntsR .i64 w a n xs) (hy : IntsR .i64 w b m ys) {K : Value → World → Prop} (hk : ∀ w', Kin w w' → K (.bool (decide (xs = ys))) w') :
    CALL Tryz.prog 101 ⟨[.slice a n c, .slice b m d]⟩ w K := by
  refine C101 _ _ _ _ _ _ _ _ ?_
  by_cases hnm : n = m
  case neg =>
    refine bc_t (by simp only [bne_iff_ne, ne_eq]; omega) ?_
    have := hk w (.refl w)
    rwa [decide_eq_false (fun h => hnm (by rw [← hx.1, ← hy.1, h]))] at this
  refine bc_f (by simp [hnm]) ?_
  refine L101_0_rule K (fun q x u => x.1 = a ∧ x.2.1 = n ∧ x.2.2.2.1 = b ∧ x.2.2.2.2.1 = m ∧ x.2.2.2.2.2.2.1 = (n : Int) ∧ Kin w u ∧ ∃ j : Nat, x.2.2.2.2.2.2.2 = (j : Int) ∧ j ≤ n ∧ q = n - j ∧ xs.take j = ys.take j) ?_ n _ _ _ _ _ _ _ _ _
    ⟨rfl, rfl, rfl, rfl, rfl, .refl w, 0, rfl, Nat.zero_le _, by simp, by simp⟩
  rintro q a0 n0 c0 a1 n1 c1 x12 x13 u ⟨h1, h2, h3, h4, h5, hkin, j, h6, hj, rfl, ht⟩
  simp only at h1 h2 h3 h4 h5 h6
  rw [h1, h2, h3, h4, h5, h6]
  by_cases hlt : j < n
  · refine bc_t (by simpa using hlt) ?_
    rintro w1 rfl
    obtain ⟨p, x, rfl, hx1, hx2⟩ := hx.at hlt
    obtain ⟨r, y, rfl, hy1, hy2⟩ := hy.at (i := j) (by omega)
    have hkin' := hkin.drew
    refine ⟨⟨by omega, by omega⟩, x, ?_, ⟨by omega, by omega⟩, y, ?_, ?_⟩
    · rw [Int.toNat_natCast, Nat.mul_one, hkin'.cell]; exact hx2
    · rw [Int.toNat_natCast, Nat.mul_one, hkin'.cell]; exact hy2
    · by_cases hxy : x = y
      · subst hxy
        refine bc_f (by simp) ⟨n - (j + 1), by omega, rfl, rfl, rfl, rfl, rfl, hkin', j + 1, wrap_succ (by have := hx.2.1; omega), by omega, rfl, take_succ_eq ht hx1 hy1⟩
      · refine bc_t (by simpa using hxy) ?_
        have := hk _ hkin'
        rwa [decide_eq_false (fun h => hxy (by subst h; rw [hx1] at hy1; exact Option.some.inj hy1))] at this
  · refine bc_f (by simpa using hlt) ?_
    have hjn : j = n := by omega
    subst hjn
    have := hk u hkin
    rwa [decide_eq_true (by have h7 : xs.take j = xs := List.take_of_length_le (by have := hx.1; omega); have h8 : ys.take j = ys := List.take_of_length_le (by have := hy.1; omega); rw [← h7, ← h8, ht])] at this
end Go.Den.S14
