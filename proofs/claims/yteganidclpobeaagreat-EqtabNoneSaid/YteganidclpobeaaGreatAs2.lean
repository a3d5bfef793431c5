/- New rows that are written; knots, and whether two are the same. Own work; a part of the proof of a claim. Conditions: none beyond those that stand in each theorem. -/
import Derived.Test.YteganidclpobeaaGreatAs1
set_option linter.unusedVariables false
set_option maxRecDepth 100000
set_option linter.unusedSimpArgs false
namespace Go.Den.S14
open Go Go.Den Go.Proofs Go.RowKit

/-! a fresh row that is written -/
theorem setCells_far {p a : Addr} (h : p.block ≠ a.block) : ∀ {vs : List Value} {i : Nat} {w : World}, (setCells w p i vs).cell? a = w.cell? a
  | [], _, _ => rfl
  | v :: r, i, w => by
    simp only [setCells]
    rw [setCells_far h]
    refine World.cell?_setCell_other _ _ _ _ fun e => h ?_
    rw [← e]
    unfold Addr.add; split <;> rfl

theorem setCells_size {p : Addr} : ∀ {vs : List Value} {i : Nat} {w : World}, (setCells w p i vs).heap.size = w.heap.size
  | [], _, _ => rfl
  | v :: r, i, w => by simp only [setCells]; rw [setCells_size]; exact World.size_setCell _ _ _

theorem setCells_grown {W : World} {p : Addr} (hp : W.heap.size ≤ p.block) : ∀ {vs : List Value} {i : Nat} {w : World}, Grown W w → Grown W (setCells w p i vs)
  | [], _, _, h => h
  | v :: r, i, w, h => by
    simp only [setCells]
    exact setCells_grown hp (h.setCell (by unfold Addr.add; split <;> exact hp) v)

theorem setCells_lt {b : Nat} : ∀ {vs : List Value} {i k : Nat} {w : World}, k < i → (setCells w ⟨b, 0, none⟩ i vs).cell? ⟨b, k, none⟩ = w.cell? ⟨b, k, none⟩
  | [], _, _, _, _ => rfl
  | v :: r, i, k, w, h => by
    simp only [setCells]
    rw [setCells_lt (by omega)]
    refine World.cell?_setCell_other _ _ _ _ fun e => ?_
    rw [Go.WideShapes.add_plain] at e
    have := congrArg Addr.off e
    simp at this
    omega

theorem setCells_rd {b : Nat} : ∀ {vs : List Value} {i : Nat} {w : World}, (∀ j, j < vs.length → ∃ u, w.cell? ⟨b, i + j, none⟩ = some u) → Rd (setCells w ⟨b, 0, none⟩ i vs) ⟨b, 0, none⟩ i vs
  | [], _, _, _ => trivial
  | v :: r, i, w, h => by
    simp only [setCells]
    obtain ⟨u, hu⟩ := h 0 (by simp)
    have e0 : ((⟨b, 0, none⟩ : Addr).add i) = ⟨b, i, none⟩ := by rw [Go.WideShapes.add_plain, Nat.zero_add]
    refine ⟨?_, setCells_rd fun j hj => ?_⟩
    · rw [e0, setCells_lt (by omega)]
      exact World.cell?_setCell_same _ _ _ hu
    · rw [e0]
      obtain ⟨x, hx⟩ := h (j + 1) (by simp; omega)
      refine ⟨x, ?_⟩
      rw [World.cell?_setCell_other]
      · rw [show i + 1 + j = i + (j + 1) by omega]; exact hx
      · intro e
        have := congrArg Addr.off e
        simp at this
        omega

theorem Wb_of {w : World} {b : Nat} : ∀ {vs : List Value} {i : Nat}, (∀ j, j < vs.length → (∃ u, w.cell? ⟨b, i + j, none⟩ = some u)) → (∀ off, w.frozen? ⟨b, off, none⟩ = false) → Wb w ⟨b, 0, none⟩ i vs
  | [], _, _, _ => trivial
  | v :: r, i, h, hf => by
    refine ⟨⟨?_, ?_⟩, Wb_of (fun j hj => ?_) hf⟩
    · rw [Go.WideShapes.add_plain, Nat.zero_add]; exact h 0 (by simp)
    · rw [Go.WideShapes.add_plain]; exact hf _
    · have := h (j + 1) (by simp; omega)
      rwa [show i + 1 + j = i + (j + 1) by omega]

theorem frozen_setCells {p a : Addr} : ∀ {vs : List Value} {i : Nat} {w : World}, (setCells w p i vs).frozen? a = w.frozen? a
  | [], _, _ => rfl
  | v :: r, i, w => by simp only [setCells]; rw [frozen_setCells, World.frozen?_setCell]

def zs5 : List Value := [.int .i64 0, .int .i64 0, .int .u64 0, .slice none 0 0, .slice none 0 0]

theorem five {j : Nat} (h : j < 5) : ∃ u, zs5[j]? = some u := ⟨zs5[j]'(by simpa [zs5] using h), List.getElem?_eq_getElem _⟩

/-! knots -/
structure Kd where
  x : Int
  y : Int
  m : Int
  wa : Option Addr
  wn : Nat
  wc : Nat
  ia : Option Addr
  ni : Nat
  ic : Nat
  ws : List Int
  js : List Int

def Kd.cells (k : Kd) : List Value := [.int .i64 k.x, .int .i64 k.y, .int .u64 k.m, .slice k.wa k.wn k.wc, .slice k.ia k.ni k.ic]

def KdR (w : World) (k : Kd) : Prop := IntsR .u64 w k.wa k.wn k.ws ∧ IntsR .i64 w k.ia k.ni k.js
theorem KdR.grown {w w' : World} {k : Kd} (h : KdR w k) (hg : Grown w w') : KdR w' k := ⟨h.1.grown hg, h.2.grown hg⟩

def sameK (a b : Kd) : Bool := decide (a.x = b.x ∧ a.y = b.y ∧ a.m = b.m ∧ a.ws = b.ws ∧ a.js = b.js)
def sameL : List Kd → List Kd → Bool
  | [], [] => true
  | a :: l, b :: m => sameK a b && sameL l m
  | _, _ => false

theorem sameK_refl (a : Kd) : sameK a a = true := by simp [sameK]
theorem sameL_refl : ∀ l, sameL l l = true
  | [] => rfl
  | a :: l => by simp only [sameL, sameK_refl, sameL_refl l]; rfl
theorem sameL_len : ∀ {l m : List Kd}, l.length ≠ m.length → sameL l m = false
  | [], [], h => absurd rfl h
  | [], _ :: _, _ => rfl
  | _ :: _, [], _ => rfl
  | a :: l, b :: m, h => by simp only [sameL]; rw [sameL_len (by simpa using h)]; simp
theorem sameL_step {l m : List Kd} {j : Nat} {a b : Kd} (ha : l[j]? = some a) (hb : m[j]? = some b) : sameL (l.drop j) (m.drop j) = (sameK a b && sameL (l.drop (j + 1)) (m.drop (j + 1))) := by
  obtain ⟨h1, h2⟩ := List.getElem?_eq_some_iff.1 ha
  obtain ⟨h3, h4⟩ := List.getElem?_eq_some_iff.1 hb
  rw [List.drop_eq_getElem_cons h1, List.drop_eq_getElem_cons h3, h2, h4]
  rfl

def KsR (w : World) (a : Option Addr) (n : Nat) (L : List Kd) : Prop :=
  L.length = n ∧ n ≤ 9223372036854775807 ∧ (n = 0 ∨ ∃ p, a = some p ∧ ∀ (i : Nat) k, L[i]? = some k → Rd w (p.add (i * 5)) 0 k.cells ∧ KdR w k)
theorem KsR.grown {w w' : World} {a : Option Addr} {n : Nat} {L : List Kd} (h : KsR w a n L) (hg : Grown w w') : KsR w' a n L :=
  ⟨h.1, h.2.1, h.2.2.imp id fun ⟨p, h1, h2⟩ => ⟨p, h1, fun i k hk => ⟨Rd_grown hg (h2 i k hk).1, (h2 i k hk).2.grown hg⟩⟩⟩
theorem KsR.at {w : World} {a : Option Addr} {n : Nat} {L : List Kd} (h : KsR w a n L) {i : Nat} (hi : i < n) : ∃ p k, a = some p ∧ L[i]? = some k ∧ Rd w (p.add (i * 5)) 0 k.cells ∧ KdR w k := by
  obtain ⟨h1, _, h2⟩ := h
  rcases h2 with h2 | ⟨p, h2, h3⟩
  · omega
  · have hx : L[i]? = some L[i] := List.getElem?_eq_getElem (by omega)
    exact ⟨p, L[i], h2, hx, h3 i _ hx⟩

theorem add0 (p : Addr) : p.add 0 = p := by simp [Addr.add]

/-- The cells of a knot that lies in a row of its own. -/
theorem rd_five {w : World} {b : Nat} {k : Kd} (h : Rd w ⟨b, 0, none⟩ 0 k.cells) : w.cell? ⟨b, 0, none⟩ = some (.int .i64 k.x) ∧ w.cell? ⟨b, 1, none⟩ = some (.int .i64 k.y) ∧ w.cell? ⟨b, 2, none⟩ = some (.int .u64 k.m) ∧
    w.cell? ⟨b, 3, none⟩ = some (.slice k.wa k.wn k.wc) ∧ w.cell? ⟨b, 4, none⟩ = some (.slice k.ia k.ni k.ic) := by
  obtain ⟨h0, h1, h2, h3, h4, _⟩ := h
  simp only [Go.WideShapes.add_plain] at h0 h1 h2 h3 h4
  exact ⟨h0, h1, h2, h3, h4⟩

theorem rd_alloc {w : World} {l : List Value} {t : TypeId} : Rd (w.alloc (.cells ⟨l⟩ t)) ⟨w.heap.size, 0, none⟩ 0 l :=
  Rd_of fun j v hj => by
    rw [Go.WideShapes.add_plain, Nat.zero_add, Nat.zero_add, World.cell?_alloc_new]
    simpa using hj

theorem same_kn {w : World} {a b : Kd} (ha : KdR w a) (hb : KdR w b) {K : Value → World → Prop} (hk : ∀ w', Grown w w' → K (.bool (sameK a b)) w') :
    CALL Tryz.prog 99 ⟨[.agg ⟨a.cells⟩, .agg ⟨b.cells⟩]⟩ w K := by
  refine C99 a.x a.y a.m a.wa a.wn a.wc a.ia a.ni a.ic b.x b.y b.m b.wa b.wn b.wc b.ia b.ni b.ic K w ?_
  intro w1 hw1 w2 hw2
  have hg1 : Grown w w1 := by rw [hw1]; exact (Grown.refl w).alloc _ _
  have hg12 : Grown w1 w2 := by rw [hw2]; exact (Grown.refl w1).alloc _ _
  have hg2 := grown_trans hg1 hg12
  have ra : Rd w2 ⟨w.heap.size, 0, none⟩ 0 a.cells := Rd_grown hg12 (by rw [hw1]; exact rd_alloc)
  have rb : Rd w2 ⟨w1.heap.size, 0, none⟩ 0 b.cells := by rw [hw2]; exact rd_alloc
  obtain ⟨a0, a1, a2, a3, a4⟩ := rd_five ra
  obtain ⟨b0, b1, b2, b3, b4⟩ := rd_five rb
  have no : ∀ w', Grown w w' → ¬ (a.x = b.x ∧ a.y = b.y ∧ a.m = b.m ∧ a.ws = b.ws ∧ a.js = b.js) → K (.bool false) w' := fun w' hg hn => by
    have := hk w' hg
    unfold sameK at this
    rwa [decide_eq_false hn] at this
  refine ⟨a.x, a0, b.x, b0, ?_⟩
  by_cases h0 : a.x = b.x
  case neg => exact bc_f (by simpa using h0) (no _ hg2 fun h => h0 h.1)
  refine bc_t (by simpa using h0) ⟨a.y, a1, b.y, b1, ?_⟩
  by_cases h1 : a.y = b.y
  case neg => exact bc_f (by simpa using h1) (no _ hg2 fun h => h1 h.2.1)
  refine bc_t (by simpa using h1) ⟨a.m, a2, b.m, b2, ?_⟩
  by_cases h2 : a.m = b.m
  case neg => exact bc_f (by simpa using h2) (no _ hg2 fun h => h2 h.2.2.1)
  refine bc_t (by simpa using h2) ⟨_, _, _, a3, _, _, _, b3, ?_⟩
  refine eq_words (ha.1.grown hg2) (hb.1.grown hg2) fun w3 hk3 => ⟨_, rfl, ?_⟩
  have hg3 := hk3.grown hg2
  by_cases h3 : a.ws = b.ws
  case neg => exact bc_f (by simpa using h3) (no _ hg3 fun h => h3 h.2.2.2.1)
  refine bc_t (by simpa using h3) ⟨_, _, _, (hk3.cell _).trans a4, _, _, _, (hk3.cell _).trans b4, ?_⟩
  refine eq_ints (ha.2.grown hg3) (hb.2.grown hg3) fun w4 hk4 => ⟨_, rfl, ?_⟩
  have := hk w4 (hk4.grown hg3)
  unfold sameK at this
  simpa [h0, h1, h2, h3] using this
end Go.Den.S14
