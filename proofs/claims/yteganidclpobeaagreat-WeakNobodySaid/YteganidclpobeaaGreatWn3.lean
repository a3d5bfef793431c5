/- It is proved that morainelaw12's WeakNobody answers true for every two arguments, and that both read afterwards as they read before (WeakNobodySaid). Own work; a part of the proof of a claim. Conditions: none beyond those that stand in each theorem. -/
import Derived.Test.YteganidclpobeaaGreatWn2
import Derived.Test.YteganidclpobeaaGreatWnF
import Derived.Test.YteganidclpobeaaGreatAw12
import Derived.Test.YteganidclpobeaaGreatRows
import Derived.WalkKit
import Derived.ProofKit
import Derived.OpenShut
import Derived.JoinedOf
import Derived.JoinedAt
import Derived.ChangeSlices
import Derived.Deep.SlicePairs
import Derived.WideKeyArgs
set_option linter.unusedVariables false
set_option maxRecDepth 100000
set_option linter.unusedSimpArgs false
namespace Go.Den
open Go Go.Proofs Go.RowKit

def fl2 (V0 V1 : Nat → Value) : Nat → List Value
  | 0 => []
  | n + 1 => fl2 V0 V1 n ++ [V0 n, V1 n]

theorem fl2_len (V0 V1 : Nat → Value) : ∀ n, (fl2 V0 V1 n).length = n * 2
  | 0 => rfl
  | n + 1 => by simp [fl2, fl2_len V0 V1 n]; omega

theorem fl2_get (V0 V1 : Nat → Value) : ∀ n i, i < n → (fl2 V0 V1 n)[i * 2]? = some (V0 i) ∧ (fl2 V0 V1 n)[i * 2 + 1]? = some (V1 i)
  | 0, i, h => by omega
  | n + 1, i, h => by
    simp only [fl2]
    have hl := fl2_len V0 V1 n
    by_cases hi : i < n
    · obtain ⟨h1, h2⟩ := fl2_get V0 V1 n i hi
      rw [List.getElem?_append_left (by omega), List.getElem?_append_left (by omega)]
      exact ⟨h1, h2⟩
    · have : i = n := by omega
      subst this
      rw [List.getElem?_append_right (by omega), List.getElem?_append_right (by omega), hl]
      rw [show i * 2 - i * 2 = 0 by omega, show i * 2 + 1 - i * 2 = 1 by omega]
      exact ⟨rfl, rfl⟩

theorem oneB_app : ∀ (a b : List Value), oneB (a ++ b) = (oneB a && oneB b)
  | [], b => by simp [oneB]
  | v :: a, b => by simp [oneB, oneB_app a b, Bool.and_assoc]

theorem fl2_one (V0 V1 : Nat → Value) : ∀ n, (∀ i, i < n → ∃ x y : Int, V0 i = .int .u64 x ∧ V1 i = .int .u64 y) → oneB (fl2 V0 V1 n) = true
  | 0, _ => rfl
  | n + 1, h => by
    simp only [fl2, oneB_app, fl2_one V0 V1 n (fun i hi => h i (by omega))]
    obtain ⟨x, y, h1, h2⟩ := h n (by omega)
    rw [h1, h2]
    rfl

theorem fl2_rd {w : World} {a : Addr} {V0 V1 : Nat → Value} {n : Nat} (h : ∀ i, i < n → w.cell? (a.add (i * 2)) = some (V0 i) ∧ w.cell? (a.add (i * 2 + 1)) = some (V1 i)) : Rd w a 0 (fl2 V0 V1 n) := by
  refine Rd_of fun j v hj => ?_
  have hl : j < n * 2 := by rw [← fl2_len V0 V1 n]; exact (List.getElem?_eq_some_iff.1 hj).1
  have hi : j / 2 < n := by omega
  obtain ⟨g0, g1⟩ := fl2_get V0 V1 n _ hi
  obtain ⟨c0, c1⟩ := h _ hi
  rw [Nat.zero_add]
  by_cases he : j % 2 = 0
  · have e : j = j / 2 * 2 := by omega
    rw [e] at hj ⊢
    rw [g0] at hj
    rw [c0]; exact hj
  · have e : j = j / 2 * 2 + 1 := by omega
    rw [e] at hj ⊢
    rw [g1] at hj
    rw [c1]; exact hj

theorem int_range {x : Int} (h : (Lit.int .u64 x).wf = true) : 0 ≤ x ∧ x < 18446744073709551616 := by
  simp only [Lit.wf, IntKind.min, IntKind.max, IntKind.signed, IntKind.bits, Bool.and_eq_true, decide_eq_true_eq] at h
  simp at h
  omega

theorem Tryz_cells82 : Tryz.prog.cellsOf 82 = 2 := by kernel_rfl
theorem Tryz_cells39 : Tryz.prog.cellsOf 39 = 1 := by kernel_rfl

section
variable {H : Type} {enc : TypeId × Value → H} {W : World}

/-- A slice of entries that came in. -/
theorem arg_entries {a : Option Addr} {n c : Nat} {d : DataW H} {ps : List MemPlace} (h : DataW.Trod enc Tryz.prog W 0 (fun _ => true) true 48 (.slice a n c) d ps) :
    (∃ L, a = none ∧ n = 0 ∧ c = 0 ∨ ∃ p, a = some p ∧ Rd W p 0 L ∧ Twos L n ∧ oneB L = true) ∧ ∀ p ∈ ps, ∃ b o, p = .cell b o := by
  obtain ⟨fuel, hf⟩ := h
  rcases Go.Deep.open_slice_pairs Tryz.underlying48 Tryz.underlying82 Tryz_cells82 rfl rfl Tryz_cells39 Tryz_cells39 hf with ⟨hcs, hx⟩ | ⟨p, len, cap, m, k, V0, V1, D0, D1, P0, P1, hcs, _, hl, _, hm, hx, hc⟩
  · simp [Value.cells] at hcs
    simp only [Prod.mk.injEq] at hx
    refine ⟨⟨[], Or.inl hcs⟩, fun p hp => ?_⟩
    rw [hx.2] at hp; cases hp
  · simp [Value.cells] at hcs
    obtain ⟨rfl, rfl, rfl⟩ := hcs
    simp only [if_true] at hm
    subst hm
    simp only [Prod.mk.injEq] at hx
    have e : ∀ i, i < m → ∃ x y : Int, V0 i = .int .u64 x ∧ V1 i = .int .u64 y ∧ 0 ≤ x ∧ x < 18446744073709551616 ∧ P0 i = [] ∧ P1 i = [] := fun i hi => by
      obtain ⟨_, _, t0, t1⟩ := hc i hi
      obtain ⟨x, e0, e1, e2⟩ := DataW.trod_int Tryz.underlying39 t0
      obtain ⟨y, f0, f1, f2⟩ := DataW.trod_int Tryz.underlying39 t1
      simp only [List.cons.injEq, and_true] at e0 f0
      simp only [Prod.mk.injEq] at e1 f1
      exact ⟨x, y, e0, f0, (int_range e2).1, (int_range e2).2, e1.2, f1.2⟩
    refine ⟨⟨fl2 V0 V1 n, Or.inr ⟨p, rfl, fl2_rd fun i hi => ⟨(hc i (by omega)).1, (hc i (by omega)).2.1⟩, ⟨fl2_len _ _ _, fun i hi => ?_⟩, fl2_one _ _ _ fun i hi => ?_⟩⟩, fun q hq => ?_⟩
    · obtain ⟨x, y, h1, h2, h3, h4, _⟩ := e i (by omega)
      obtain ⟨g0, g1⟩ := fl2_get V0 V1 n i hi
      exact ⟨x, y, by rw [g0, h1], by rw [g1, h2], h3, h4⟩
    · obtain ⟨x, y, h1, h2, _⟩ := e i (by omega)
      exact ⟨x, y, h1, h2⟩
    · rw [hx.2] at hq
      rcases List.mem_append.1 hq with h | h
      · obtain ⟨i, _, rfl⟩ := MemPlace.mem_row.1 h
        exact ⟨_, _, rfl⟩
      · obtain ⟨i, hi, h⟩ := List.mem_flatMap.1 h
        obtain ⟨_, _, _, _, _, _, e1, e2⟩ := e i (List.mem_range.1 hi)
        rw [e1, e2] at h; cases h

theorem ints_one : ∀ zs : List Int, oneB (zs.map (Value.int .u64)) = true
  | [] => rfl
  | z :: r => by simp only [List.map_cons, oneB, ints_one r]; rfl

/-- A slice of words that came in. -/
theorem arg_words {a : Option Addr} {n c : Nat} {d : DataW H} {ps : List MemPlace} (h : DataW.Trod enc Tryz.prog W 0 (fun _ => true) true 32 (.slice a n c) d ps) :
    (∃ L, a = none ∧ n = 0 ∧ c = 0 ∨ ∃ p, a = some p ∧ Rd W p 0 L ∧ Ones L n ∧ oneB L = true) ∧ ∀ p ∈ ps, ∃ b o, p = .cell b o := by
  obtain ⟨fuel, hf⟩ := h
  rcases Go.ChangeShapes.open_ints Tryz.underlying32 Tryz.underlying39 Tryz_cells39 hf with ⟨hcs, hx⟩ | ⟨p, len, cap, zs, hcs, _, hl, _, hm, hx, hc, hw⟩
  · simp [Value.cells] at hcs
    simp only [Prod.mk.injEq] at hx
    refine ⟨⟨[], Or.inl hcs⟩, fun p hp => ?_⟩
    rw [hx.2] at hp; cases hp
  · simp [Value.cells] at hcs
    obtain ⟨rfl, rfl, rfl⟩ := hcs
    simp only [if_true] at hm
    simp only [Prod.mk.injEq] at hx
    have hlen : (zs.take n).length = n := by rw [List.length_take]; omega
    refine ⟨⟨(zs.take n).map (Value.int .u64), Or.inr ⟨p, rfl, Rd_of fun j v hj => ?_, ⟨by rw [List.length_map, hlen]; omega, fun i hi => ?_⟩, ints_one _⟩⟩, fun q hq => ?_⟩
    · rw [List.getElem?_map] at hj
      obtain ⟨z, hz, rfl⟩ := Option.map_eq_some_iff.1 hj
      rw [List.getElem?_take] at hz
      split at hz
      · rw [Nat.zero_add, hc j (by omega)]
        simp [List.getD, hz]
      · cases hz
    · rw [Nat.mul_one, List.getElem?_map, List.getElem?_eq_getElem (by omega)]
      exact ⟨_, rfl⟩
    · rw [hx.2] at hq
      obtain ⟨i, _, rfl⟩ := MemPlace.mem_row.1 hq
      exact ⟨_, _, rfl⟩
end

theorem same_at {W W' : World} (hg : Grown W W') {ps : List MemPlace} (hc : ∀ p ∈ ps, ∃ b o, p = .cell b o) (hl : ∀ p ∈ ps, p.block < W.heap.size) : ∀ p ∈ ps, W.sameAt W' p := by
  intro p hp
  obtain ⟨b, o, rfl⟩ := hc p hp
  exact hg.1.cell (hl _ hp) (fun f => f)

end Go.Den

namespace Go.Proofs.YteganidclpobeaaGreat.weakNobody
open Go.ChangeShapes Go.WideShapes Go.ChangeAt Go.RowKit

theorem own : ownKnob Tryz.prog.godebug = none := by kernel_rfl

theorem awake (w : World) : Go.Den.CALL Tryz.prog 47 ⟨[]⟩ w fun v w' => v = .bool true ∧ Grown w w' :=
  ⟨by kernel_rfl, (Go.Den.closed_true (by kernel_rfl) Go.Den.aw12 w).mono fun e w' ⟨he, hg⟩ => by subst he; exact ⟨rfl, hg⟩⟩

theorem contract (H : Type) (enc : TypeId × Value → H) (W : World) (base : Nat) (args : Array Value) (ds gs : List (DataW H)) (before : List MemPlace)
    (hval : ∀ (j : Nat) t v, Tryz.f6.params[j]? = some t → args[j]? = some v → Value.okWide Tryz.prog W .any base t v)
    (hW : DataW.Whole enc Tryz.prog Tryz.f6.params.toList Rows.weakNobodySpec.vars false W args.toList ds gs before) :
    Calls Tryz.prog 6 args W fun e W' => ∃ v, e = .returned v ∧ Rows.weakNobodySpec.post enc Tryz.prog Tryz.f6 false true false false W args v W' := by
  have hW' := hW
  obtain ⟨p, q, hA0, hV, rfl, hfz, hnd⟩ := hW
  have hA : DataW.TrodAll enc Tryz.prog W 0 (fun _ => true) true Tryz.f6.params.toList args.toList ds p := hA0
  rw [Tryz.params6] at hA hval
  obtain ⟨v0, v1, d0, d1, p0, p1, rfl, rfl, rfl, h0, h1⟩ := trodAll_two hA
  obtain ⟨rfl, rfl⟩ := trodVars_none hV
  obtain ⟨a0, n0, c0, rfl⟩ := okWide_slice Tryz.underlying48 (hval 0 48 v0 rfl rfl)
  obtain ⟨a1, n1, c1, rfl⟩ := okWide_slice Tryz.underlying32 (hval 1 32 v1 rfl rfl)
  clear hA0
  simp only [List.append_nil] at hW'
  obtain ⟨⟨L, hp⟩, hc0⟩ := Go.Den.arg_entries h0
  obtain ⟨⟨M, hq⟩, hc1⟩ := Go.Den.arg_words h1
  have hlt := hW'.lt
  refine (Go.Den.nobody hp hq awake).2.mono fun e W' he => ?_
  cases e with
  | returned v =>
    obtain ⟨rfl, hg⟩ := he
    exact ⟨_, rfl, post_of_same (pa := p0 ++ p1) (pv := []) hW' (fun _ _ _ => trodAll_cons_mk (shut_bool Tryz.underlying4 _) trodAll_mk0)
      (fun sp hsp => trodAll_mk2
        (Go.WideElems.Trod_stays (by kernel_rfl) (by kernel_rfl) (of_decide_eq_true (by kernel_rfl)) h0 (Go.Den.same_at hg hc0 fun x hx => hlt x (List.mem_append_left _ hx)) (fun x hx => hsp x (List.mem_append_left _ hx)))
        (Go.WideElems.Trod_stays (by kernel_rfl) (by kernel_rfl) (of_decide_eq_true (by kernel_rfl)) h1 (Go.Den.same_at hg hc1 fun x hx => hlt x (List.mem_append_right _ hx)) (fun x hx => hsp x (List.mem_append_right _ hx))))
      (fun _ _ => rfl) (by simp) (hg.frame _) hg.2.1 (ok_one (by kernel_rfl) rfl (okWide_bool_mk Tryz.underlying4 _))⟩
  | _ => exact he.elim

theorem lifted (os : Os) (started : os.Started) (H : Type) (enc : TypeId × Value → H) :
    ReturnsInHanded {} Tryz.checked os 6 .any (Rows.weakNobodySpec.pre6 enc Tryz.prog Tryz.f6 Rows.weakNobodyRow.domain false) (Rows.weakNobodySpec.post enc Tryz.prog Tryz.f6 false true false false) := by
  refine returnsInHanded_of_change (C := Tryz.checked) own started (by kernel_rfl) Tryz.func6
    (ChangeSpec.witness6 (enc := enc) (C := Tryz.checked) false ⟨#[], #[.slice none 0 0, .slice none 0 0], []⟩ 8 (by kernel_rfl) (by kernel_rfl) (by kernel_rfl) (by kernel_rfl)) ?_
  intro W base args ds gs before hval hW _ _
  exact contract H enc W base args ds gs before hval hW

/-- The statement. -/
theorem proved : Rows.WeakNobodySaid :=
  OpenClaim.holds_of_wide 6 Tryz.f6 rfl rfl rfl rfl rfl rfl rfl ⟨rfl, rfl, rfl, rfl, rfl⟩ rfl rfl rfl rfl rfl (by kernel_rfl) Tryz.func6 closed
    (of_decide_eq_true (by kernel_rfl)) (by unfold Func.isWrapper; first | (rw [if_pos (by decide +kernel)]; kernel_rfl) | (rw [if_neg (by decide +kernel)]; exact ⟨rfl, rfl⟩))
    (fun os started H enc _ => lifted os started H enc)

#print axioms proved
end Go.Proofs.YteganidclpobeaaGreat.weakNobody
