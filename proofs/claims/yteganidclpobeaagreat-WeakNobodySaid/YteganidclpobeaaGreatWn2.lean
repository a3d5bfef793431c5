/- The walk of WeakNobody, out of its pieces. Own work; a part of the proof of a claim. Conditions: none beyond those that stand in each theorem. -/
import Derived.Test.YteganidclpobeaaGreatWn1
set_option linter.unusedVariables false
set_option maxRecDepth 100000
set_option linter.unusedSimpArgs false
namespace Go.Den
open Go Go.Proofs Go.RowKit

theorem wrap_ne {x : Int} (h0 : 0 ≤ x) (h1 : x < 18446744073709551616) : IntKind.wrap .u64 (x + 1) ≠ x := by
  simp only [IntKind.wrap, IntKind.bits, IntKind.signed]
  simp
  omega

/-- The slice is the clone's own. -/
def Own (W w : World) (q : Option Addr) (n : Nat) (L : List Value) : Prop :=
  n = 0 ∨ ∃ g, q = some ⟨g, 0, none⟩ ∧ W.heap.size ≤ g ∧ Rd w ⟨g, 0, none⟩ 0 L ∧ ∀ off, w.frozen? ⟨g, off, none⟩ = false

theorem loop_ok {W w : World} (hg : Grown W w) {p q : Option Addr} {n c c5 : Nat} {L : List Value} (hn : n ≤ 1000) (hL : Twos L n) (hp : Lies W p n L) (hq : Own W w q n L) {K : Value → World → Prop}
    (haw : ∀ w, CALL Tryz.prog 47 ⟨[]⟩ w fun v w' => v = .bool true ∧ Grown w w') (hk : ∀ w', Grown W w' → K (.bool true) w') : L6_0 K p n c q n c5 0 w := by
  refine L6_0_rule K (fun m x u => x.1 = p ∧ x.2.1 = n ∧ x.2.2.2.1 = q ∧ x.2.2.2.2.1 = n ∧ Grown W u ∧ ∃ j : Nat, x.2.2.2.2.2.2 = (j : Int) ∧ j ≤ n ∧ m = n - j ∧
    (n = 0 ∨ ∃ g, q = some ⟨g, 0, none⟩ ∧ W.heap.size ≤ g ∧ (∀ t v, j * 2 ≤ t → L[t]? = some v → u.cell? ((⟨g, 0, none⟩ : Addr).add t) = some v) ∧ ∀ off, u.frozen? ⟨g, off, none⟩ = false)) ?_ n _ _ _ _ _ _ _ _
    ⟨rfl, rfl, rfl, rfl, hg, 0, rfl, Nat.zero_le _, by simp, ?_⟩
  · rintro m a0 n0 c0 a5 n5 c5 x7 u ⟨h1, h2, h3, h4, hgu, j, h5, hj, rfl, hq⟩
    simp only at h1 h2 h3 h4 h5
    subst h1; subst h2; subst h3; subst h4; subst h5
    by_cases hlt : j < n5
    · refine bc_t (by simpa using hlt) ?_
      obtain ⟨x, y, hx, hy, x0, x1⟩ := hL.2 j hlt
      rcases hp with h | ⟨a, rfl, hp⟩
      · omega
      rcases hq with h | ⟨g, rfl, hgs, hcl, hfr⟩
      · omega
      have cx := hcl _ _ (Nat.le_refl _) hx
      have cy := hcl _ _ (Nat.le_succ _) hy
      refine ⟨⟨by omega, by omega⟩, x, by rw [Int.toNat_natCast]; exact cx, ⟨by omega, by omega⟩, ⟨⟨_, by rw [Int.toNat_natCast]; exact cx⟩, by rw [Int.toNat_natCast, Go.WideShapes.add_plain]; exact hfr _⟩, ?_⟩
      rintro w24 rfl w25 rfl
      rw [Int.toNat_natCast]
      have hgu' : Grown W (World.drew (u.setCell ((⟨g, 0, none⟩ : Addr).add (j * 2)) (.int .u64 (IntKind.wrap .u64 (x + 1))))) :=
        (hgu.setCell (by rw [Go.WideShapes.add_plain]; exact hgs) _).drew
      have other : ∀ t v, j * 2 + 1 ≤ t → L[t]? = some v → (World.drew (u.setCell ((⟨g, 0, none⟩ : Addr).add (j * 2)) (.int .u64 (IntKind.wrap .u64 (x + 1))))).cell? ((⟨g, 0, none⟩ : Addr).add t) = some v := by
        intro t v ht hv
        rw [World.cell?_drew, World.cell?_setCell_other]
        · exact hcl t v (by omega) hv
        · rw [Go.WideShapes.add_plain, Go.WideShapes.add_plain]
          intro e
          have := congrArg Addr.off e
          simp at this
          omega
      refine ⟨⟨by omega, by omega⟩, IntKind.wrap .u64 (x + 1), y, ⟨?_, ?_, trivial⟩, ⟨by omega, by omega⟩, x, y, rd2 (Rd_grown hgu' hp) hx hy, bc_f ?_ ?_⟩
      · rw [Go.Deep.add_add, Nat.add_zero, World.cell?_drew]
        exact World.cell?_setCell_same _ _ _ cx
      · rw [Go.Deep.add_add]
        exact other _ _ (Nat.le_refl _) hy
      · simp only [eqInts, Bool.and_true, Bool.and_eq_false_iff]
        left
        simpa using wrap_ne x0 x1
      · refine ⟨n5 - (j + 1), by omega, rfl, rfl, rfl, rfl, hgu', j + 1, by simp [IntKind.wrap, IntKind.bits, IntKind.signed]; omega, by omega, rfl, Or.inr ⟨g, rfl, hgs, fun t v ht hv => other t v (by omega) hv, fun off => ?_⟩⟩
        rw [show (World.drew (u.setCell ((⟨g, 0, none⟩ : Addr).add (j * 2)) (.int .u64 (IntKind.wrap .u64 (x + 1))))).frozen? ⟨g, off, none⟩ = (u.setCell ((⟨g, 0, none⟩ : Addr).add (j * 2)) (.int .u64 (IntKind.wrap .u64 (x + 1)))).frozen? ⟨g, off, none⟩ from rfl, World.frozen?_setCell]
        exact hfr off
    · exact bc_f (by simpa using hlt) (call_mono (haw u) fun v w' h => ⟨true, h.1, hk _ (grown_trans hgu h.2)⟩)
  · rcases hq with h | ⟨g, hg1, hg2, hg3, hg4⟩
    · exact Or.inl h
    · refine Or.inr ⟨g, hg1, hg2, fun t v _ hv => ?_, hg4⟩
      exact rd1 hg3 hv

theorem ended_nil {w : World} {K : Value → World → Prop} (hk : K (.bool true) w) : CALL Tryz.prog 136 ⟨[.pointer none]⟩ w K := C136n _ _ hk

theorem breaks_nil {w : World} {K : Value → World → Prop} (hk : K (.tuple ⟨[]⟩) w) : CALL Tryz.prog 53 ⟨[.pointer none]⟩ w K :=
  C53n _ _ (ended_nil ⟨true, rfl, hk⟩)

theorem prune_nil {w : World} {a : Option Addr} {n c : Nat} {K : Value → World → Prop} (h : CALL Tryz.prog 141 ⟨[.slice a n c]⟩ w fun v w' => ∃ a' n' c', v = .slice a' n' c' ∧ K (.slice a' n' c') w') :
    CALL Tryz.prog 54 ⟨[.pointer none, .slice a n c]⟩ w K :=
  C54n _ _ _ _ _ (ended_nil ⟨true, rfl, h⟩)

theorem guards_nil {w : World} {a : Option Addr} {n c : Nat} {K : Value → World → Prop}
    (h : ∀ w', Grown w w' → CALL Tryz.prog 137 ⟨[.slice a n c]⟩ w' fun v w' => ∃ a' n' c', v = .slice a' n' c' ∧ K (.slice a' n' c') w') :
    CALL Tryz.prog 50 ⟨[.pointer none, .slice a n c]⟩ w K := by
  refine C50n _ _ _ _ _ ?_
  rintro w1 hw1 w2 hw2
  rw [S50n']
  refine WP_scope (J50n _ _ _ _ ?_)
  have hg1 : Grown w w1 := by rw [hw1]; exact (Grown.refl w).alloc _ _
  have hg2 : Grown w w2 := by rw [hw2]; exact hg1.alloc _ _
  have e1 : w2.cell? ⟨w.heap.size, 0, none⟩ = some (.pointer none) := by
    rw [hw2, World.cell?_alloc_lt _ _ _ (by rw [hw1]; simp), hw1, World.cell?_alloc_new]; rfl
  have e2 : w2.cell? ⟨w1.heap.size, 0, none⟩ = some (.slice a n c) := by
    rw [hw2, World.cell?_alloc_new]; rfl
  exact ⟨none, e1, ended_nil ⟨true, rfl, ⟨a, n, c, e2, h w2 hg2⟩⟩⟩

/-- The walk. -/
theorem nobody {W : World} {p q : Option Addr} {n c m d : Nat} {L M : List Value} (hp : p = none ∧ n = 0 ∧ c = 0 ∨ ∃ a, p = some a ∧ Rd W a 0 L ∧ Twos L n ∧ oneB L = true) (hq : q = none ∧ m = 0 ∧ d = 0 ∨ ∃ a, q = some a ∧ Rd W a 0 M ∧ Ones M m ∧ oneB M = true)
    (haw : ∀ w, CALL Tryz.prog 47 ⟨[]⟩ w fun v w' => v = .bool true ∧ Grown w w') :
    CALL Tryz.prog 6 ⟨[.slice p n c, .slice q m d]⟩ W fun v w' => v = .bool true ∧ Grown W w' := by
  refine C6 _ _ _ _ _ _ _ _ ?_
  have aw : ∀ w, Grown W w → CALL Tryz.prog 47 ⟨[]⟩ w fun v w' => ∃ b, v = .bool b ∧ Value.bool b = .bool true ∧ Grown W w' := fun w hg => call_mono (haw w) fun v w' h => ⟨true, h.1, rfl, grown_trans hg h.2⟩
  by_cases hn : n ≤ 1000
  case neg => exact bc_t (by simp; omega) (aw W (.refl W))
  refine bc_f (by simp; omega) ?_
  by_cases hm : m ≤ 1000
  case neg => exact bc_t (by simp; omega) (aw W (.refl W))
  refine bc_f (by simp; omega) ?_
  refine breaks_nil ⟨rfl, ?_⟩
  -- the first clone
  have one : ∀ {K : Value → World → Prop}, (∀ p' c' w', Grown W w' → (n = 0 ∨ (∃ a, p = some a ∧ Rd W a 0 L ∧ Twos L n) ∧ Own W w' p' n L) → K (.slice p' n c') w') → CALL Tryz.prog 50 ⟨[.pointer none, .slice p n c]⟩ W K := by
    intro K hk
    refine guards_nil fun w' hg => ?_
    rcases hp with ⟨rfl, rfl, rfl⟩ | ⟨a, rfl, hR, hT, h1⟩
    · exact clone_ent_nil ⟨none, 0, 0, rfl, hk _ _ _ hg (Or.inl rfl)⟩
    · exact clone_ent hT.1 (Rd_grown hg hR) h1 hn fun g c' w'' hg' hs hR' hfr => ⟨_, _, _, rfl, hk _ _ _ (grown_trans hg hg') (Or.inr ⟨⟨a, rfl, hR, hT⟩, Or.inr ⟨g, rfl, Nat.le_trans hg.2.2 hs, hR', hfr⟩⟩)⟩
  refine one fun p' c' w1 hg1 h1 => ⟨p', n, c', rfl, ?_⟩
  have two : ∀ {K : Value → World → Prop}, (∀ q' d' w', Grown w1 w' → (m = 0 ∨ (∃ a, q = some a ∧ Rd W a 0 M ∧ Ones M m) ∧ Lies w' q' m M) → K (.slice q' m d') w') → CALL Tryz.prog 54 ⟨[.pointer none, .slice q m d]⟩ w1 K := by
    intro K hk
    refine prune_nil ?_
    rcases hq with ⟨rfl, rfl, rfl⟩ | ⟨a, rfl, hR, hT, h1⟩
    · exact clone_wrd_nil ⟨none, 0, 0, rfl, hk _ _ _ (.refl _) (Or.inl rfl)⟩
    · exact clone_wrd hT.1 (Rd_grown hg1 hR) h1 hm fun g c' w'' hg' hs hR' hfr => ⟨_, _, _, rfl, hk _ _ _ hg' (Or.inr ⟨⟨a, rfl, hR, hT⟩, Or.inr ⟨_, rfl, hR'⟩⟩)⟩
  refine two fun q' d' w2 hg2 h2 => ⟨q', m, d', rfl, ?_⟩
  have hgW2 := grown_trans hg1 hg2
  -- what lies where
  have hT : n = 0 ∨ Twos L n := h1.imp id fun h => by obtain ⟨⟨a, _, _, h⟩, _⟩ := h; exact h
  obtain ⟨L', hT', hpL, hoL⟩ : ∃ L', Twos L' n ∧ Lies W p n L' ∧ Own W w1 p' n L' := by
    rcases h1 with h | ⟨⟨a, ha, hR, hT⟩, ho⟩
    · exact ⟨[], ⟨by simp [h], fun i hi => by omega⟩, Or.inl h, Or.inl h⟩
    · exact ⟨L, hT, Or.inr ⟨a, ha, hR⟩, ho⟩
  obtain ⟨M', hO', hqM, hlM⟩ : ∃ M', Ones M' m ∧ Lies W q m M' ∧ Lies w2 q' m M' := by
    rcases h2 with h | ⟨⟨a, ha, hR, hT⟩, ho⟩
    · exact ⟨[], ⟨by simp [h], fun i hi => by omega⟩, Or.inl h, Or.inl h⟩
    · exact ⟨M, hT, Or.inr ⟨a, ha, hR⟩, ho⟩
  have lies : ∀ {w w' : World} {p : Option Addr} {n : Nat} {L : List Value}, Grown w w' → Lies w p n L → Lies w' p n L := fun hg h => h.imp id fun ⟨a, ha, hR⟩ => ⟨a, ha, Rd_grown hg hR⟩
  have ho2 : Own W w2 p' n L' := hoL.imp id fun ⟨g, h1, h2, h3, h4⟩ => ⟨g, h1, h2, Rd_grown hg2 h3, fun off => (hg2.2.1 _).trans (h4 off)⟩
  refine same_ok hn hT' (ho2.imp id fun ⟨g, h1, _, h3, _⟩ => ⟨_, h1, h3⟩) (lies hgW2 hpL) fun w3 hk3 => ⟨true, rfl, bc_f rfl ?_⟩
  have hg3 := hk3.grown hgW2
  refine words_ok hm hO' (hlM.imp id fun ⟨a, h1, h2⟩ => ⟨a, h1, hk3.rd h2⟩) (lies hg3 hqM) fun w4 hk4 => ⟨true, rfl, bc_f rfl ?_⟩
  have hg4 := hk4.grown hg3
  exact loop_ok hg4 hn hT' hpL (ho2.imp id fun ⟨g, h1, h2, h3, h4⟩ => ⟨g, h1, h2, hk4.rd (hk3.rd h3), fun off => (hk4.frozen _).trans ((hk3.frozen _).trans (h4 off))⟩) haw fun w' hg => ⟨rfl, hg⟩
end Go.Den
