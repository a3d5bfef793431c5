/- Clones and comparisons of slices. Own work; a part of the proof of a claim. Conditions: none beyond those that stand in each theorem. -/
import Derived.Test.YteganidclpobeaaGreatWn0
import Derived.RowKit3
import Derived.WideShapes
import Derived.Deep.Slices
set_option linter.unusedVariables false
set_option maxRecDepth 100000
set_option linter.unusedSimpArgs false
namespace Go.Den
open Go Go.Proofs Go.RowKit

theorem call_mono {P : Program} {k : FuncId} {xs : Array Value} {w : World} {K K' : Value → World → Prop} (h : CALL P k xs w K) (hk : ∀ v w, K v w → K' v w) : CALL P k xs w K' :=
  ⟨h.1, h.2.mono fun e w he => by cases e with | returned v => exact hk _ _ he | _ => exact he.elim⟩

theorem grown_trans {a b c : World} (h1 : Grown a b) (h2 : Grown b c) : Grown a c :=
  ⟨World.keptBut_trans h1.1 h2.1, fun x => (h2.2.1 x).trans (h1.2.1 x), Nat.le_trans h1.2.2 h2.2.2⟩

theorem cell_lt {w : World} {a : Addr} {v : Value} (h : w.cell? a = some v) : a.block < w.heap.size := by
  rcases Nat.lt_or_ge a.block w.heap.size with h' | h'
  · exact h'
  · unfold World.cell? at h; rw [Array.getElem?_eq_none h'] at h; cases h

theorem cell_spot {w : World} {a : Addr} {v : Value} (h : w.cell? a = some v) : a.spot = none := by
  unfold World.cell? at h
  split at h
  · cases hs : a.spot with
    | none => rfl
    | some s => rw [hs] at h; simp at h
  · cases h

theorem grown_cell {W w : World} (h : Grown W w) {a : Addr} {v : Value} (hc : W.cell? a = some v) : w.cell? a = some v := by
  have hs := cell_spot hc
  have hl := cell_lt hc
  obtain ⟨b, o, s⟩ := a
  simp only at hs; subst hs
  rw [h.1.cell hl (fun f => f)]; exact hc

theorem Rd_of {w : World} {p : Addr} : ∀ {vs : List Value} {i : Nat}, (∀ j v, vs[j]? = some v → w.cell? (p.add (i + j)) = some v) → Rd w p i vs
  | [], _, _ => trivial
  | v :: r, i, h => ⟨by simpa using h 0 v rfl, Rd_of fun j u hj => by have := h (j + 1) u (by simpa using hj); rwa [show i + (j + 1) = i + 1 + j by omega] at this⟩

theorem Rd_grown {W w : World} (h : Grown W w) {p : Addr} : ∀ {vs : List Value} {i : Nat}, Rd W p i vs → Rd w p i vs
  | [], _, _ => trivial
  | v :: r, i, hr => ⟨grown_cell h hr.1, Rd_grown h hr.2⟩

/-- The world, but for its draws. -/
def Kin (w w' : World) : Prop := w'.heap = w.heap ∧ w'.os = w.os ∧ w'.output = w.output
theorem Kin.refl (w : World) : Kin w w := ⟨rfl, rfl, rfl⟩
theorem Kin.drew {w w' : World} (h : Kin w w') : Kin w w'.drew := h
theorem Kin.cell {w w' : World} (h : Kin w w') (a : Addr) : w'.cell? a = w.cell? a := by unfold World.cell?; rw [h.1]
theorem Kin.frozen {w w' : World} (h : Kin w w') (a : Addr) : w'.frozen? a = w.frozen? a := by unfold World.frozen?; rw [h.1]
theorem Kin.grown {W w w' : World} (h : Kin w w') (hg : Grown W w) : Grown W w' := by
  refine ⟨⟨h.2.1.trans hg.1.1, h.2.2.trans hg.1.2.1, fun i hi => ?_⟩, fun a => (h.frozen a).trans (hg.2.1 a), by rw [h.1]; exact hg.2.2⟩
  have := hg.1.2.2 i hi
  rw [h.1]; exact this
theorem Kin.rd {w w' : World} (h : Kin w w') {p : Addr} : ∀ {vs : List Value} {i : Nat}, Rd w p i vs → Rd w' p i vs
  | [], _, _ => trivial
  | v :: r, i, hr => ⟨by rw [h.cell]; exact hr.1, Kin.rd h hr.2⟩

/-- A clone: of a slice that is there. -/
theorem clone_ap {P : Program} {el : TypeId} {L : List Value} {p : Addr} {n : Nat} {w : World} {K : Value → World → Prop} (hlen : L.length = n * P.cellsOf el) (hR : Rd w p 0 L) (h1 : oneB L = true)
    (hb : n * P.bytesOf el ≤ 140737488355328) (hn : n ≤ 1000)
    (hk : ∀ g c' w', Grown w w' → w.heap.size ≤ g → Rd w' ⟨g, 0, none⟩ 0 L → (∀ off, w'.frozen? ⟨g, off, none⟩ = false) → K (.slice (some ⟨g, 0, none⟩) n c') w') :
    al w ⟨[]⟩ el fun b1 w2 => apF P el (some ⟨b1, 0, none⟩) 0 0 (some p) n w2 fun a3 c4 w5 => K (.slice a3 (0 + n) c4) w5 := by
  intro w2 hw2
  have hg2 : Grown w w2 := by rw [hw2]; exact (Grown.refl w).alloc _ _
  refine ⟨L, [], hlen, Or.inr (Rd_grown hg2 hR), h1, fun hle => ⟨Or.inl (by omega), fun w' hw' => ?_⟩, fun hlt => ⟨⟨by simpa using hb, by omega, by simp, Or.inl rfl⟩, fun c' w' hc' hw' => ?_⟩⟩
  · have hn0 : n = 0 := by omega
    subst hn0
    have hL : L = [] := List.length_eq_zero_iff.1 (by simpa using hlen)
    subst hL
    simp only [setCells] at hw'
    subst hw'
    refine hk _ _ _ hg2 (Nat.le_refl _) trivial fun off => ?_
    rw [hw2]; exact World.frozen?_alloc_new _ _ _ _
  · have hg : Grown w w' := by rw [hw']; exact (Grown.drew hg2).alloc _ _
    rw [Nat.zero_add]
    refine hk _ _ _ hg hg2.2.2 (Rd_of fun j v hj => ?_) fun off => ?_
    · rw [hw', Nat.zero_add]
      rw [Go.WideShapes.add_plain, Nat.zero_add]
      rw [show w2.heap.size = (World.drew w2).heap.size from rfl, World.cell?_alloc_new]
      have hl : j < L.length := (List.getElem?_eq_some_iff.1 hj).1
      rw [Array.getElem?_append_left (by simpa using hl)]
      simpa using hj
    · rw [hw', show w2.heap.size = (World.drew w2).heap.size from rfl]; exact World.frozen?_alloc_new _ _ _ _

theorem bc_t {A B : Prop} {b : Bool} (h : b = true) (hA : A) : bc b A B := by subst h; exact hA
theorem bc_f {A B : Prop} {b : Bool} (h : b = false) (hB : B) : bc b A B := by subst h; exact hB

theorem clone_ent {L : List Value} {p : Addr} {n c : Nat} {w : World} {K : Value → World → Prop} (hlen : L.length = n * 2) (hR : Rd w p 0 L) (h1 : oneB L = true) (hn : n ≤ 1000)
    (hk : ∀ g c' w', Grown w w' → w.heap.size ≤ g → Rd w' ⟨g, 0, none⟩ 0 L → (∀ off, w'.frozen? ⟨g, off, none⟩ = false) → K (.slice (some ⟨g, 0, none⟩) n c') w') :
    CALL Tryz.prog 137 ⟨[.slice (some p) n c]⟩ w K :=
  C137 _ _ _ _ _ (bc_f rfl (clone_ap (P := Tryz.prog) (el := 82) (by rw [show Tryz.prog.cellsOf 82 = 2 by kernel_rfl]; exact hlen) hR h1 (by rw [show Tryz.prog.bytesOf 82 = 16 by kernel_rfl]; omega) hn hk))

theorem clone_wrd {L : List Value} {p : Addr} {n c : Nat} {w : World} {K : Value → World → Prop} (hlen : L.length = n * 1) (hR : Rd w p 0 L) (h1 : oneB L = true) (hn : n ≤ 1000)
    (hk : ∀ g c' w', Grown w w' → w.heap.size ≤ g → Rd w' ⟨g, 0, none⟩ 0 L → (∀ off, w'.frozen? ⟨g, off, none⟩ = false) → K (.slice (some ⟨g, 0, none⟩) n c') w') :
    CALL Tryz.prog 141 ⟨[.slice (some p) n c]⟩ w K :=
  C141 _ _ _ _ _ (bc_f rfl (clone_ap (P := Tryz.prog) (el := 39) (by rw [show Tryz.prog.cellsOf 39 = 1 by kernel_rfl]; exact hlen) hR h1 (by rw [show Tryz.prog.bytesOf 39 = 8 by kernel_rfl]; omega) hn hk))

theorem clone_ent_nil {w : World} {K : Value → World → Prop} (hk : K (.slice none 0 0) w) : CALL Tryz.prog 137 ⟨[.slice none 0 0]⟩ w K := C137 _ _ _ _ _ (bc_t rfl hk)
theorem clone_wrd_nil {w : World} {K : Value → World → Prop} (hk : K (.slice none 0 0) w) : CALL Tryz.prog 141 ⟨[.slice none 0 0]⟩ w K := C141 _ _ _ _ _ (bc_t rfl hk)

/-- whole numbers, by twos -/
def Twos (L : List Value) (n : Nat) : Prop := L.length = n * 2 ∧ ∀ i, i < n → ∃ x y : Int, L[i * 2]? = some (.int .u64 x) ∧ L[i * 2 + 1]? = some (.int .u64 y) ∧ 0 ≤ x ∧ x < 18446744073709551616
def Ones (L : List Value) (n : Nat) : Prop := L.length = n * 1 ∧ ∀ i, i < n → ∃ x : Int, L[i * 1]? = some (.int .u64 x)

/-- The slice's cells. -/
def Lies (w : World) (p : Option Addr) (n : Nat) (L : List Value) : Prop := n = 0 ∨ ∃ a, p = some a ∧ Rd w a 0 L

theorem rd2 {w : World} {a : Addr} {L : List Value} {j : Nat} {x y : Value} (h : Rd w a 0 L) (hx : L[j * 2]? = some x) (hy : L[j * 2 + 1]? = some y) : Rd w (a.add (j * 2)) 0 [x, y] := by
  have h0 := Rd_get h _ _ hx
  have h1 := Rd_get h _ _ hy
  rw [Nat.zero_add] at h0 h1
  refine ⟨?_, ?_, trivial⟩
  · rw [Go.Deep.add_add]; simpa using h0
  · rw [Go.Deep.add_add]; exact h1

theorem rd1 {w : World} {a : Addr} {L : List Value} {j : Nat} {x : Value} (h : Rd w a 0 L) (hx : L[j]? = some x) : w.cell? (a.add j) = some x := by
  have h0 := Rd_get h _ _ hx
  rwa [Nat.zero_add] at h0

theorem same_ok {w : World} {p q : Option Addr} {n c c' : Nat} {L : List Value} (hn : n ≤ 1000) (hL : Twos L n) (hp : Lies w p n L) (hq : Lies w q n L) {K : Value → World → Prop} (hk : ∀ w', Kin w w' → K (.bool true) w') :
    CALL Tryz.prog 55 ⟨[.slice p n c, .slice q n c']⟩ w K := by
  refine C55 _ _ _ _ _ _ _ _ (bc_f (by simp) ?_)
  refine L55_0_rule K (fun m x u => x.1 = p ∧ x.2.1 = n ∧ x.2.2.2.1 = q ∧ x.2.2.2.2.1 = n ∧ Kin w u ∧ ∃ j : Nat, x.2.2.2.2.2.2 = (j : Int) ∧ j ≤ n ∧ m = n - j) ?_ n _ _ _ _ _ _ _ _ ⟨rfl, rfl, rfl, rfl, .refl w, 0, rfl, Nat.zero_le _, by simp⟩
  rintro m a0 n0 c0 a1 n1 c1 x5 u ⟨h1, h2, h3, h4, hkin, j, h5, hj, rfl⟩
  simp only at h1 h2 h3 h4 h5
  subst h1; subst h2; subst h3; subst h4; subst h5
  by_cases hlt : j < n1
  · refine bc_t (by simpa using hlt) ?_
    obtain ⟨x, y, hx, hy, _⟩ := hL.2 j hlt
    rcases hp with h | ⟨a, rfl, hp⟩
    · omega
    rcases hq with h | ⟨b, rfl, hq⟩
    · omega
    rintro w1 rfl
    have hkin' := hkin.drew
    refine ⟨⟨by omega, by omega⟩, x, y, ?_, ⟨by omega, by omega⟩, x, y, ?_, bc_f (by simp [eqInts]) ?_⟩
    · rw [Int.toNat_natCast]; exact rd2 (hkin'.rd hp) hx hy
    · rw [Int.toNat_natCast]; exact rd2 (hkin'.rd hq) hx hy
    · exact ⟨n1 - (j + 1), by omega, rfl, rfl, rfl, rfl, hkin', j + 1, by simp [IntKind.wrap, IntKind.bits, IntKind.signed]; omega, by omega, rfl⟩
  · exact bc_f (by simpa using hlt) (hk u hkin)

theorem words_ok {w : World} {p q : Option Addr} {n c c' : Nat} {L : List Value} (hn : n ≤ 1000) (hL : Ones L n) (hp : Lies w p n L) (hq : Lies w q n L) {K : Value → World → Prop} (hk : ∀ w', Kin w w' → K (.bool true) w') :
    CALL Tryz.prog 56 ⟨[.slice p n c, .slice q n c']⟩ w K := by
  refine C56 _ _ _ _ _ _ _ _ (bc_f (by simp) ?_)
  refine L56_0_rule K (fun m x u => x.1 = p ∧ x.2.1 = n ∧ x.2.2.2.1 = q ∧ x.2.2.2.2.1 = n ∧ Kin w u ∧ ∃ j : Nat, x.2.2.2.2.2.2 = (j : Int) ∧ j ≤ n ∧ m = n - j) ?_ n _ _ _ _ _ _ _ _ ⟨rfl, rfl, rfl, rfl, .refl w, 0, rfl, Nat.zero_le _, by simp⟩
  rintro m a0 n0 c0 a1 n1 c1 x5 u ⟨h1, h2, h3, h4, hkin, j, h5, hj, rfl⟩
  simp only at h1 h2 h3 h4 h5
  subst h1; subst h2; subst h3; subst h4; subst h5
  by_cases hlt : j < n1
  · refine bc_t (by simpa using hlt) ?_
    obtain ⟨x, hx⟩ := hL.2 j hlt
    rcases hp with h | ⟨a, rfl, hp⟩
    · omega
    rcases hq with h | ⟨b, rfl, hq⟩
    · omega
    rintro w1 rfl
    have hkin' := hkin.drew
    refine ⟨⟨by omega, by omega⟩, x, ?_, ⟨by omega, by omega⟩, x, ?_, bc_f (by simp) ?_⟩
    · rw [Int.toNat_natCast]; exact rd1 (hkin'.rd hp) hx
    · rw [Int.toNat_natCast]; exact rd1 (hkin'.rd hq) hx
    · exact ⟨n1 - (j + 1), by omega, rfl, rfl, rfl, rfl, hkin', j + 1, by simp [IntKind.wrap, IntKind.bits, IntKind.signed]; omega, by omega, rfl⟩
  · exact bc_f (by simpa using hlt) (hk u hkin)
end Go.Den
