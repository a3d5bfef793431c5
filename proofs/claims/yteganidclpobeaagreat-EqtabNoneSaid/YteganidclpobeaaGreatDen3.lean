/- Den3: soundness of the denotation of one operation. Own work; a part of the proof of a claim. Conditions: none beyond those that stand in each theorem. -/
import Derived.Test.YteganidclpobeaaGreatDen2
import Derived.Laws.Pointers
import Derived.Laws.RangeAny
import Derived.Laws.RangeString
/- Den3: soundness of the denotation of one operation. -/
set_option linter.unusedSimpArgs false
set_option linter.unusedVariables false
namespace Go.Den
open Go

/-- What an operation comes to. -/
inductive Good (P : Program) (ρ : Operand → Value) (o : Oper) (w : World) (K : Value → World → Prop) : Prop where
  | val (v : Value) (w' : World) (h : (execOp ρ o).run P w = .ok (.value v) w') (hk : K v w')
  | skip (w' : World) (h : (execOp ρ o).run P w = .ok .skip w') (hk : K undef w')
  | call (f : FuncId) (args : Array Value) (w' : World) (h : (execOp ρ o).run P w = .ok (.enter f args) w') (hc : Calls P f args w' (R1 K))
  | round (l : Nat) (f : FuncId) (tmps : Array Value) (assign body : Code) (w' : World) (h : (execOp ρ o).run P w = .ok (.round l f tmps assign body) w')
      (hc : RoundIn (FW none) 0 P l f tmps assign body w' (R1 K))

theorem FW_depth (r : Option Nat) : (FW r).depth.isSome = true → 1 ≤ 0 := by intro h; cases h

theorem Good.wp {P : Program} {ρ : Operand → Value} {o : Oper} {w : World} {K : Value → World → Prop} {a : Act} {next : Act → World → Prop} {Q : Exit → Act → World → Prop} {r : Option Nat}
    (h : Good P ρ o w K) (hd : ∀ c, o.op ≠ .defer c) (he : execOp a.eval o = execOp ρ o) (hn : ∀ v w', K v w' → next (a.put o.dst v) w') : o.wpIn (FW r) 0 P a w next Q := by
  refine ⟨fun _ _ => trivial, ?_⟩
  show o.uponIn (FW r) 0 P a next Q ((o.semAt r a.eval).run P w)
  rw [Oper.semAt_eq _ _ _ hd, he]
  cases h with
  | val v w' h hk => rw [h]; exact hn _ _ hk
  | skip w' h hk => rw [h]; exact hn _ _ hk
  | call f args w' h hc =>
    rw [h]
    refine ⟨FW_depth r, ?_⟩
    have h2 : CallsIn (FW r) 0 P f args w' (R1 K) := (callsIn_wide (n := 0)).2 hc
    refine CallsIn.mono h2 fun e w'' he => ?_
    cases e with
    | returned v => exact hn _ _ he
    | panicked c => exact he.elim
    | outgrown => exact he.elim
  | round l f tmps assign body w' h hc =>
    rw [h]
    refine ⟨FW_depth r, ?_⟩
    have h2 : RoundIn (FW r) 0 P l f tmps assign body w' (R1 K) := hc
    refine RoundIn.mono h2 fun e w'' he => ?_
    cases e with
    | returned v => exact hn _ _ he
    | panicked c => exact he.elim
    | outgrown => exact he.elim

section
variable {P : Program} {ρ : Operand → Value} {o : Oper} {w : World} {K : Value → World → Prop}

/-- What an operation that does not look at the world comes to. -/
def Pur (P : Program) (ρ : Operand → Value) (o : Oper) (K : Value → Prop) : Prop := ∃ v, (∀ w, (execOp ρ o).run P w = .ok (.value v) w) ∧ K v

theorem Pur.good {P : Program} {ρ : Operand → Value} {o : Oper} {w : World} {K : Value → World → Prop} (h : Pur P ρ o (fun v => K v w)) : Good P ρ o w K := by
  obtain ⟨v, hr, hk⟩ := h
  exact .val v w (hr w) hk

variable {Kp : Value → Prop}

theorem good_simple (h : simpleD P ρ o Kp) : Pur P ρ o Kp := by
  unfold simpleD at h
  cases hs : simple P (execOp ρ o) with
  | none => simp [hs] at h
  | some x =>
    cases x <;> simp [hs] at h
    exact ⟨_, fun w => simple_run hs w, h⟩

theorem info_of {t : TypeId} (h : (P.info? t).isSome = true) : ∃ i, P.info? t = some i ∧ i.size = P.cellsOf t ∧ i.bytes = P.bytesOf t := by
  cases hi : P.info? t with
  | none => simp [hi] at h
  | some i => exact ⟨i, rfl, by simp [Program.cellsOf, hi], by simp [Program.bytesOf, hi]⟩

theorem info_of_under {t : TypeId} {d : TypeDesc} (h : P.underlying t = some d) : (P.info? t).isSome = true := by
  unfold Program.underlying at h
  cases hi : P.info? t with
  | none => simp [hi] at h
  | some i => rfl

theorem zc_of {t : TypeId} {cs : Array Value} (h : zc P t = some cs) : ∃ i z, P.info? t = some i ∧ i.zero = some z ∧ z.cells = cs := by
  unfold zc at h
  cases hi : P.info? t with
  | none => simp [hi] at h
  | some i =>
    cases hz : i.zero with
    | none => simp [hi, hz] at h
    | some z => simp [hi, hz] at h; exact ⟨i, z, rfl, hz, h⟩

theorem run_isAgg {t : TypeId} (_h : (P.info? t).isSome = true) (hu : (P.underlying t).isSome = true) : (isAgg t).run P w = .ok (isAggT P t) w := by
  cases hd : P.underlying t with
  | none => simp [hd] at hu
  | some d => cases d <;> simp [isAgg, run_underlying hd, isAggT, hd]

theorem run_loadVar_agg {t : TypeId} {p : Addr} {vs : List Value} (hu : (P.underlying t).isSome = true) (ha : isAggT P t = true) (hl : vs.length = P.cellsOf t) (hr : Rd w p 0 vs) :
    (loadVar t p).run P w = .ok (.agg ⟨vs⟩) w := by
  obtain ⟨d, hd⟩ := Option.isSome_iff_exists.1 hu
  obtain ⟨i, hi, hsz, _⟩ := info_of (info_of_under hd)
  have h1 := run_loadCells_list (P := P) w p vs (fun j v hj => by have := Rd_get hr j v hj; simpa using this)
  have h2 := run_isAgg (P := P) (w := w) (info_of_under hd) hu
  rw [ha] at h2
  simp [loadVar, h2, sizeOf, typeInfo, hi, hsz, ← hl, h1]

theorem run_loadVar_one {t : TypeId} {p : Addr} {v : Value} (hu : (P.underlying t).isSome = true) (ha : isAggT P t = false) (hr : w.cell? p = some v) :
    (loadVar t p).run P w = .ok v w := by
  obtain ⟨d, hd⟩ := Option.isSome_iff_exists.1 hu
  have h2 := run_isAgg (P := P) (w := w) (info_of_under hd) hu
  rw [ha] at h2
  simp [loadVar, h2, hr]

theorem ldK_run {t : TypeId} {p : Addr} {Kv : Value → Prop} (hu : (P.underlying t).isSome = true) (h : ldK P t w p Kv) : ∃ v, (loadVar t p).run P w = .ok v w ∧ Kv v := by
  unfold ldK c2 at h
  cases ha : isAggT P t with
  | false =>
    simp only [ha, cond_false] at h
    obtain ⟨v, hc, hk⟩ := ex1_out h
    exact ⟨v, run_loadVar_one hu ha hc, hk⟩
  | true =>
    simp only [ha, cond_true] at h
    cases hb : Nat.ble (P.cellsOf t) 24 with
    | true =>
      simp only [hb, cond_true] at h
      obtain ⟨vs, _, h⟩ := exL1_out h
      cases he : Nat.beq vs.length (P.cellsOf t) with
      | false => simp [he] at h
      | true =>
        simp only [he, cond_true] at h
        exact ⟨_, run_loadVar_agg hu ha (Nat.eq_of_beq_eq_true he) h.1, h.2⟩
    | false =>
      simp only [hb, cond_false] at h
      obtain ⟨vs, hl, hr, hk⟩ := h
      exact ⟨_, run_loadVar_agg hu ha hl hr, hk⟩

theorem run_storeCells : ∀ (vs : List Value) (w : World) (p : Addr) (i : Nat), Wb w p i vs → oneB vs = true → (storeCells p vs i).run P w = .ok () (setCells w p i vs)
  | [], w, p, i, _, _ => by simp [storeCells, setCells]
  | v :: r, w, p, i, h, h1 => by
    obtain ⟨⟨⟨u, hu⟩, hf⟩, hr⟩ := h
    simp only [oneB, Bool.and_eq_true] at h1
    have hs : (store (p.add i) v).run P w = .ok () (w.setCell (p.add i) v) := by
      cases v <;> simp [oneC] at h1 <;> simp [store, Sem.run, hu, hf]
    have keep : ∀ (r : List Value) (j : Nat), Wb w p j r → Wb (w.setCell (p.add i) v) p j r := by
      intro r
      induction r with
      | nil => intro j _; trivial
      | cons x r ih =>
        intro j hj
        obtain ⟨⟨⟨u', hu'⟩, hf'⟩, hr'⟩ := hj
        refine ⟨⟨?_, by simpa using hf'⟩, ih _ hr'⟩
        by_cases he : p.add i = p.add j
        · rw [← he]; exact ⟨v, World.cell?_setCell_same _ _ _ hu⟩
        · exact ⟨u', by rw [World.cell?_setCell_other _ _ _ _ he]; exact hu'⟩
    have := run_storeCells r (w.setCell (p.add i) v) p (i + 1) (keep r (i + 1) hr) h1.2
    simp [storeCells, hs, setCells, this]

theorem stK_run {t : TypeId} {p : Addr} {v : Value} {Kw : World → Prop} (ht : (P.info? t).isSome = true) (h : stK P t w p v Kw) : ∃ w', (storeVar t p v).run P w = .ok () w' ∧ Kw w' := by
  obtain ⟨i, hi, hsz, _⟩ := info_of ht
  have key : ∀ (vs : List Value), v.cells.toList = vs → vs.length = P.cellsOf t → oneB vs = true → Wb w p 0 vs → (storeVar t p v).run P w = .ok () (setCells w p 0 vs) := by
    intro vs h0 hl h1 hw
    have h2 : v.cells.size = i.size := by rw [hsz, ← hl, ← h0]; simp
    have h3 := run_storeCells (P := P) vs w p 0 hw h1
    simp [storeVar, sizeOf, typeInfo, hi, h2, h0, h3]
  by_cases hagg : ∃ cs, v = .agg cs
  · obtain ⟨cs, rfl⟩ := hagg
    simp only [stK] at h
    cases hb : (Nat.beq cs.toList.length (P.cellsOf t) && oneB cs.toList) with
    | false => rw [hb] at h; exact h.elim
    | true =>
      simp only [hb, cond_true] at h
      simp only [Bool.and_eq_true] at hb
      exact ⟨_, key cs.toList rfl (Nat.eq_of_beq_eq_true hb.1) hb.2 h.1, h.2 _ rfl⟩
  · have e : stK P t w p v Kw = (bif (Nat.beq 1 (P.cellsOf t) && oneC v) then
        ((∃ u, w.cell? p = some u) ∧ w.frozen? p = false) ∧ ∀ w', w' = w.setCell p v → Kw w' else False) := by
      cases v <;> first | rfl | exact absurd ⟨_, rfl⟩ hagg
    rw [e] at h
    cases hb : (Nat.beq 1 (P.cellsOf t) && oneC v) with
    | false => rw [hb] at h; exact h.elim
    | true =>
      simp only [hb, cond_true] at h
      simp only [Bool.and_eq_true] at hb
      have hc : v.cells.toList = [v] := by cases v <;> first | rfl | exact absurd ⟨_, rfl⟩ hagg
      have ha : p.add 0 = p := by simp [Addr.add]
      refine ⟨_, key [v] hc (by simpa using Nat.eq_of_beq_eq_true hb.1) (by simp [oneB, hb.2]) ⟨by rw [ha]; exact h.1, trivial⟩, ?_⟩
      simp only [setCells, ha]
      exact h.2 _ rfl

theorem good_load {t : TypeId} {x : Operand} (ho : o.op = .load t x)
    (h : match ρ x with | .pointer (some p) => bif (P.underlying t).isSome then ldK P t w p (fun v => K v w) else False | _ => False) : Good P ρ o w K := by
  split at h
  · rename_i p hp
    cases hu : (P.underlying t).isSome with
    | false => rw [hu] at h; exact h.elim
    | true =>
      rw [hu] at h
      obtain ⟨v, hr, hk⟩ := ldK_run hu h
      exact .val v w (by simp [execOp, ho, Instr.loadAt, Instr.sureAddr, hp, hr]) hk
  · exact h.elim

theorem good_store {t : TypeId} {x y : Operand} (ho : o.op = .store t x y)
    (h : match ρ x with | .pointer (some p) => bif (P.info? t).isSome then stK P t w p (ρ y) (fun w' => K undef w') else False | _ => False) : Good P ρ o w K := by
  split at h
  · rename_i p hp
    cases hu : (P.info? t).isSome with
    | false => rw [hu] at h; exact h.elim
    | true =>
      rw [hu] at h
      obtain ⟨w', hr, hk⟩ := stK_run hu h
      exact .skip w' (by simp [execOp, ho, Instr.storeAt, Instr.sureAddr, hp, hr]) hk
  · exact h.elim

theorem good_alloc {t : TypeId} (ho : o.op = .alloc t)
    (h : match zc P t with | some cs => ∀ w', w' = w.alloc (.cells cs t) → K (.pointer (some ⟨w.heap.size, 0, none⟩)) w' | none => False) : Good P ρ o w K := by
  split at h
  · rename_i cs hz
    obtain ⟨i, z, hi, hz1, rfl⟩ := zc_of hz
    exact .val _ _ (by simp [execOp, ho, Instr.alloc, zeroValue, typeInfo, hi, hz1, newVar, newRow]) (h _ rfl)
  · exact h.elim

theorem good_box {t : TypeId} {x : Operand} (ho : o.op = .box t x)
    (h : ∀ w', w' = w.alloc (.cells (ρ x).cells t) → K (.pointer (some ⟨w.heap.size, 0, none⟩)) w') : Good P ρ o w K :=
  .val _ _ (by simp [execOp, ho, Instr.box, newVar, newRow]) (h _ rfl)

theorem good_nilCheck {x : Operand} (ho : o.op = .nilCheck x)
    (h : match ρ x with | .pointer a => optP a fun p => Kp (.pointer (some p)) | .func (.func k) a b => Kp (.func (.func k) a b) | _ => False) : Pur P ρ o Kp := by
  split at h
  · rename_i a hp
    cases a with
    | none => exact h.elim
    | some p => exact ⟨_, fun w => (by simp [execOp, ho, hp]), h⟩
  · rename_i k a b hp
    exact ⟨_, fun w => (by simp [execOp, ho, hp]), h⟩
  · exact h.elim

theorem good_fieldAddr {s : TypeId} {x : Operand} {f : Nat} (ho : o.op = .fieldAddr s x f)
    (h : match ρ x, foff P s f with | .pointer (some p), some off => Kp (.pointer (some (p.add off))) | _, _ => False) : Pur P ρ o Kp := by
  split at h
  · rename_i p off hp hf
    unfold foff at hf
    cases hu : P.underlying s with
    | none => simp [hu] at hf
    | some d =>
      cases d <;> simp only [hu] at hf <;> try (simp at hf; done)
      rename_i fs
      cases hfd : fs[f]? with
      | none => simp [hfd] at hf
      | some fd =>
        simp only [hfd, Option.bind_some] at hf
        cases hb : Nat.beq (P.cellsOf fd.type) 0 with
        | true => simp only [hb, cond_true] at hf; cases hf
        | false =>
          simp only [hb, cond_false] at hf
          cases hs : (P.info? fd.type).isSome with
          | false => simp [hs] at hf
          | true =>
            simp only [hs, cond_true, Option.some.injEq] at hf
            obtain ⟨i, hi, hsz, _⟩ := info_of hs
            have hne : ¬ i.size = 0 := fun h0 => by rw [← hsz, h0] at hb; simp at hb
            exact ⟨_, fun w => (by simp [execOp, ho, Instr.fieldAt, run_underlying hu, hfd, Instr.sureAddr, hp, fieldPlace, sizeOf, typeInfo, hi, hne, ← hf]), h⟩
  · exact h.elim

theorem good_ixa {t : TypeId} {x i : Operand} (ho : o.op = .indexAddr t x i) (h : ixaD P t (ρ x) (ρ i) Kp) : Pur P ρ o Kp := by
  unfold ixaD at h
  split at h
  · rename_i len el p k j hu hx hi
    obtain ⟨⟨h0, h1⟩, h⟩ := h
    cases hs : (P.info? el).isSome with
    | false => rw [hs] at h; exact h.elim
    | true =>
      rw [hs] at h
      obtain ⟨i', hi', hsz, _⟩ := info_of hs
      exact ⟨_, fun w => (by simp [execOp, ho, Instr.indexAt, hx, hi, asIntOf, run_underlying hu, Instr.sureAddr, h0, h1, sizeOf, typeInfo, hi', hsz]), h⟩
  · rename_i el a n c k j hu hx hi
    cases a with
    | none => exact h.elim
    | some p =>
      obtain ⟨⟨h0, h1⟩, h⟩ := h
      cases hs : (P.info? el).isSome with
      | false => rw [hs] at h; exact h.elim
      | true =>
        rw [hs] at h
        obtain ⟨i', hi', hsz, _⟩ := info_of hs
        exact ⟨_, fun w => (by simp [execOp, ho, Instr.indexAt, hx, hi, asIntOf, run_underlying hu, h0, h1, sizeOf, typeInfo, hi', hsz]), h⟩
  · exact h.elim

theorem good_ix {t : TypeId} {x i : Operand} (ho : o.op = .index t x i) (h : ixD P t (ρ x) (ρ i) Kp) : Pur P ρ o Kp := by
  unfold ixD at h
  split at h
  · rename_i s k j hu hx hi
    obtain ⟨⟨h0, h1⟩, h⟩ := h
    have hlt : j.toNat < s.size := by omega
    have e : (if 0 ≤ j then s[j.toNat]? else none) = some (s.data.toList[j.toNat]?.getD 0) := by
      rw [if_pos h0]
      have : s.data.toList[j.toNat]? = some s[j.toNat] := by
        rw [List.getElem?_eq_getElem (by simpa using hlt)]; rfl
      rw [this]; simp [hlt]
    exact ⟨_, fun w => (by simp only [execOp, ho, Instr.index, hx, hi, asIntOf]; simp [run_underlying hu, e]), h⟩
  · rename_i len el cs k j hu hx hi
    obtain ⟨⟨h0, h1⟩, h⟩ := h
    cases hs : ((P.info? el).isSome && (P.underlying el).isSome && !isAggT P el && Nat.beq (P.cellsOf el) 1) with
    | false => rw [hs] at h; exact h.elim
    | true =>
      rw [hs] at h
      obtain ⟨v, hv, hk⟩ := ex1_out h
      simp only [Bool.and_eq_true, Bool.not_eq_true'] at hs
      obtain ⟨⟨⟨hs1, hs2⟩, hs3⟩, hs4⟩ := hs
      obtain ⟨i', hi', hsz, _⟩ := info_of hs1
      have hag : ∀ w, (isAgg el).run P w = .ok false w := fun w => by have := run_isAgg (P := P) (w := w) hs1 hs2; rw [hs3] at this; exact this
      have h1' : i'.size = 1 := hsz.trans (Nat.eq_of_beq_eq_true hs4)
      have hv' : cs[j.toNat]? = some v := by simpa using hv
      exact ⟨_, fun w => (by simp [execOp, ho, Instr.index, hx, hi, asIntOf, run_underlying hu, h0, h1, sizeOf, typeInfo, hi', part, hag, hv', h1']), hk⟩
  · exact h.elim

theorem bnd_ok {d : Int} {v : Option Value} {i : Int} (h : bnd d v = some i) : (v = none ∧ i = d) ∨ ∃ k, v = some (.int k i) := by
  unfold bnd at h
  split at h
  · left; exact ⟨rfl, by simpa using h.symm⟩
  · right; rename_i k j; simp at h; subst h; exact ⟨k, rfl⟩
  · cases h

theorem good_sl {t : TypeId} {x : Operand} {lo hi mx : Option Operand} (ho : o.op = .slice t x lo hi mx)
    (h : slD P t (ρ x) (lo.map ρ) (hi.map ρ) (mx.map ρ) Kp) : Pur P ρ o Kp := by
  unfold slD at h
  split at h
  · exact h.elim
  · rename_i hmx
    split at h
    · rename_i s l hu hx hl
      split at h
      · rename_i e he
        obtain ⟨⟨h0, h1, h2⟩, hk⟩ := h
        refine ⟨_, fun w => ?_, hk⟩
        have e0 : 0 ≤ e := by omega
        have e1 : (l.toNat : Int) = l := Int.toNat_of_nonneg h0
        have e2 : (e.toNat : Int) = e := Int.toNat_of_nonneg (by omega)
        simp only [execOp, ho, hmx]
        rcases bnd_ok hl with ⟨a1, rfl⟩ | ⟨k1, a1⟩ <;> rcases bnd_ok he with ⟨a2, rfl⟩ | ⟨k2, a2⟩ <;>
          simp [Instr.sliceAt, Instr.slice, run_underlying hu, hx, a1, a2, Instr.sliceBounds, run_sliceBound, h0, h1, h2, e1, e2, e0] <;> try omega
      · exact h.elim
    · rename_i el a n c l hu hx hl
      split at h
      · rename_i e he
        obtain ⟨⟨h0, h1, h2⟩, hk⟩ := h
        cases hs : (P.info? el).isSome with
        | false => rw [hs] at hk; exact hk.elim
        | true =>
          rw [hs] at hk
          obtain ⟨i', hi', hsz, _⟩ := info_of hs
          refine ⟨_, fun w => ?_, hk⟩
          have e0 : 0 ≤ e := by omega
          have e1 : (l.toNat : Int) = l := Int.toNat_of_nonneg h0
          have e2 : (e.toNat : Int) = e := Int.toNat_of_nonneg (by omega)
          simp only [execOp, ho, hmx]
          rcases bnd_ok hl with ⟨a1, rfl⟩ | ⟨k1, a1⟩ <;> rcases bnd_ok he with ⟨a2, rfl⟩ | ⟨k2, a2⟩ <;>
            simp [Instr.sliceAt, Instr.slice, run_underlying hu, hx, a1, a2, Instr.sliceBounds, run_sliceBound, h0, h1, h2, e1, e2, e0, sizeOf, typeInfo, hi', hsz]
      · exact h.elim
    · exact h.elim

theorem good_mk {t : TypeId} {l c : Operand} (ho : o.op = .makeSlice t l c) (h : mkD P t w (ρ l) (ρ c) K) : Good P ρ o w K := by
  unfold mkD at h
  split at h
  · rename_i el kl l' kc c' hu hl hc
    cases hz : (zc P el).isSome with
    | false => rw [hz] at h; exact h.elim
    | true =>
      rw [hz] at h
      obtain ⟨⟨h0, h1, h2, h3⟩, hk⟩ := h
      obtain ⟨cs, hcs⟩ := Option.isSome_iff_exists.1 hz
      obtain ⟨i, z, hi, hz1, rfl⟩ := zc_of hcs
      have hsz : i.size = P.cellsOf el := by simp [Program.cellsOf, hi]
      have hby : i.bytes = P.bytesOf el := by simp [Program.bytesOf, hi]
      have hr := run_make (P := P) w t el i z hu hi hz1 kl kc l' c' h0 h1 (by rw [hby]; omega) (by omega)
      refine .val _ _ (by simp only [execOp, ho, hl, hc]; simp [hr]; rfl) (hk _ ?_)
      simp [zcN, hcs, hsz]
  · exact h.elim

theorem good_bs {t : TypeId} {len : Nat} {parts : Array (Nat × Operand)} (ho : o.op = .buildSlice t len parts)
    (h : bsD P t len (parts.toList.map fun p => (p.1, ρ p.2)) w K) : Good P ρ o w K := by
  unfold bsD at h
  split at h
  · rename_i el cs hb
    unfold bsC at hb
    split at hb
    · rename_i el' hu
      cases hc : ((P.info? el').isSome && Nat.ble (len * P.cellsOf el') 16777216 && (bif Nat.beq (len * P.cellsOf el') 0 then true else (zc P el').isSome)) with
      | false => rw [hc] at hb; cases hb
      | true =>
        rw [hc] at hb
        simp only [Bool.and_eq_true] at hc
        obtain ⟨⟨hc1, hc2⟩, hc3⟩ := hc
        have hle := Nat.le_of_ble_eq_true hc2
        obtain ⟨i, hi, hsz, _⟩ := info_of hc1
        have hparts : (parts.map fun x => (x.1, ρ x.2)).toList = parts.toList.map fun p => (p.1, ρ p.2) := by simp
        refine .val _ _ ?_ (h _ rfl)
        have hn : ¬ (16777216 < len * i.size) := by rw [hsz]; omega
        by_cases h0 : len * P.cellsOf el' = 0
        · rw [h0] at hb
          simp only [show Nat.beq 0 0 = true from rfl, cond_true, Option.map_eq_some_iff, Prod.mk.injEq] at hb
          obtain ⟨c, hf, rfl, rfl⟩ := hb
          have h0' : len * i.size = 0 := by rw [hsz]; exact h0
          simp [execOp, ho, Instr.buildSlice, run_underlying hu, sizeOf, typeInfo, hi, h0', hsz, h0, newRow] at hf ⊢
          simp [hf]
        · have hb0 : Nat.beq (len * P.cellsOf el') 0 = false := by
            rw [Bool.eq_false_iff]; intro hb'; exact h0 (Nat.eq_of_beq_eq_true hb')
          rw [hb0] at hb hc3
          simp only [cond_false, cond_true] at hb hc3
          obtain ⟨cs0, hcs⟩ := Option.isSome_iff_exists.1 hc3
          obtain ⟨i2, z, hi2, hz, rfl⟩ := zc_of hcs
          obtain rfl : i = i2 := by rw [hi] at hi2; exact Option.some.inj hi2
          simp only [hcs, Option.getD_some, Option.map_eq_some_iff, Prod.mk.injEq] at hb
          obtain ⟨c, hf, rfl, rfl⟩ := hb
          rw [← hsz] at hf h0
          simp only [Instr.buildSlice, execOp, ho, hparts]
          simp only [Sem.run_bind, run_underlying hu, Result.andThen]
          simp [sizeOf, typeInfo, hi, hn, h0, zeroValue, hz, newRow]
          simp [hf]
    · cases hb
  · exact h.elim

theorem isGo_spec {k : FuncId} (h : isGo P k = true) : ∃ fn, P.funcs[k]? = some fn ∧ (fn.name == "runtime.NumGoroutine") = false ∧ fn.body.isNone = false := by
  unfold isGo at h
  cases hf : P.funcs[k]? with
  | none => rw [hf] at h; cases h
  | some fn =>
    rw [hf] at h
    simp only [Bool.and_eq_true, bne_iff_ne, ne_eq] at h
    refine ⟨fn, rfl, by simpa using h.1, ?_⟩
    cases hb : fn.body with
    | none => rw [hb] at h; simp at h
    | some c => rfl

theorem run_callFunc {k : FuncId} {args : Array Value} (h : isGo P k = true) : (callFunc k args).run P w = .ok (.enter k args) w := by
  obtain ⟨fn, hf, h1, h2⟩ := isGo_spec h
  have h1' : ¬ fn.name = "runtime.NumGoroutine" := by simpa using h1
  have h2' : ¬ fn.body = none := by intro h0; rw [h0] at h2; cases h2
  simp [callFunc, hf, h1', h2']

theorem map_mk (ρ : Operand → Value) (l : List Operand) : Array.map ρ ⟨l⟩ = ⟨l.map ρ⟩ := by apply Array.ext'; simp

theorem good_call {c : Call} {f : Operand} (ho : o.op = .call c) (hc : c.callee = .value f)
    (h : resD P o.type w (ρ f) ⟨c.args.toList.map ρ⟩ K) : Good P ρ o w K := by
  obtain ⟨cal, ⟨l⟩, ats⟩ := c
  simp only at hc h
  subst hc
  generalize hvs : l.map ρ = vs at h
  unfold resD at h
  split at h
  · rename_i k first cap hf
    obtain ⟨hg, hcall⟩ := h
    have hrun : (execOp ρ o).run P w = .ok (.enter k (first ++ ⟨vs⟩ ++ cap)) w := by
      have := run_callFunc (P := P) (w := w) (args := first ++ ⟨vs⟩ ++ cap) hg
      unfold execOp
      rw [ho]
      simp only [resolve, map_mk, hvs, hf, Deferred.ofValue]
      simp only [pure_bind]
      exact this
    refine .call k _ w hrun (hcall.mono fun e w' he => ?_)
    cases e with
    | returned v =>
      obtain ⟨v', rfl, hk⟩ := ex3_out he
      exact hk
    | panicked _ => exact he
    | outgrown => exact he
  · rename_i l cap hf
    obtain ⟨f, tmps, assign, body, hy, hr⟩ := h
    have hrun : (execOp ρ o).run P w = .ok (.round l f tmps assign body) w := by
      unfold execOp
      rw [ho]
      simp only [resolve, map_mk, hvs, hf, Deferred.ofValue, pure_bind, invoke]
      have e : (#[] : Array Value) ++ (⟨vs⟩ : Array Value) = ⟨vs⟩ := by simp
      rw [show ((⟨[]⟩ : Array Value) ++ (⟨vs⟩ : Array Value)) = ⟨vs⟩ from e]
      exact hy
    exact .round l f tmps assign body w hrun hr
  · exact h.elim

theorem good_len {c : Call} {x : Operand} (ho : o.op = .call c) (hc : c.callee = .builtin .len) (ha : c.args.toList = [x])
    (h : lenD P c.argTypes.toList.head? (ρ x) Kp) : Pur P ρ o Kp := by
  obtain ⟨cal, args, ats⟩ := c
  simp only at hc ha h
  subst hc
  have e : args = #[x] := by apply Array.ext'; simpa using ha
  subst e
  unfold lenD at h
  obtain ⟨ats⟩ := ats
  cases ats with
  | nil => simp at h
  | cons t r =>
    simp only [List.head?_cons, Option.bind_some] at h
    split at h
    · rename_i s hu hx
      exact ⟨_, fun w => (by simp [execOp, ho, resolve, invoke, builtin, Builtin.len_, run_underlying hu, hx, goInt]), h⟩
    · rename_i el a n c' hu hx
      exact ⟨_, fun w => (by simp [execOp, ho, resolve, invoke, builtin, Builtin.len_, run_underlying hu, hx, goInt]), h⟩
    · rename_i n el hu
      exact ⟨_, fun w => (by simp [execOp, ho, resolve, invoke, builtin, Builtin.len_, run_underlying hu, goInt]), h⟩
    · exact h.elim

theorem good_cap {c : Call} {x : Operand} (ho : o.op = .call c) (hc : c.callee = .builtin .cap) (ha : c.args.toList = [x])
    (h : capD P c.argTypes.toList.head? (ρ x) Kp) : Pur P ρ o Kp := by
  obtain ⟨cal, args, ats⟩ := c
  simp only at hc ha h
  subst hc
  have e : args = #[x] := by apply Array.ext'; simpa using ha
  subst e
  unfold capD at h
  obtain ⟨ats⟩ := ats
  cases ats with
  | nil => simp at h
  | cons t r =>
    simp only [List.head?_cons, Option.bind_some] at h
    split at h
    · rename_i el a n c' hu hx
      exact ⟨_, fun w => (by simp [execOp, ho, resolve, invoke, builtin, Builtin.cap_, run_underlying hu, hx, goInt]), h⟩
    · exact h.elim

theorem good_rg {t : TypeId} {x : Operand} (ho : o.op = .range t x) (h : rgD P t (ρ x) w K) : Good P ρ o w K := by
  unfold rgD at h
  split at h
  · rename_i s hu hx
    exact .val _ _ (by simp [execOp, ho, Instr.range, hx, run_underlying hu]) (h _ rfl)
  · exact h.elim

theorem good_nx {it : Operand} {str : Bool} (ho : o.op = .next it str) (h : nxD (ρ it) str w K) : Good P ρ o w K := by
  unfold nxD at h
  split at h
  · rename_i r sp hx
    obtain ⟨s, pos, hb, h⟩ := h
    by_cases hp : pos < s.size
    · simp only [hp, decide_true, bc] at h
      refine .val _ _ ?_ (h _ rfl)
      simp only [execOp, ho, hx, Instr.next, getObj, setObj, Sem.run_bind, Sem.run, hb, Result.andThen, hp, if_true]
      simp [Sem.run, hb, goInt, World.setObj', Result.andThen]
    · simp only [hp, decide_false, bc] at h
      refine .val _ w ?_ h
      simp only [execOp, ho, hx, Instr.next, getObj, Sem.run_bind, Sem.run, hb, Result.andThen, hp, if_false]
      simp
  · exact h.elim

theorem equalIn_ptr {t e : TypeId} {a : Option Addr} {d : Nat} (hu : P.underlying t = some (.pointer e)) : (Op.equalIn (d + 1) t (.pointer a) (.pointer none)).run P w = .ok a.isNone w := by
  cases a <;> simp [Op.equalIn, run_underlying hu]
theorem equalIn_slice {t e : TypeId} {a : Option Addr} {n c n' c' : Nat} {d : Nat} (hu : P.underlying t = some (.slice e)) : (Op.equalIn (d + 1) t (.slice a n c) (.slice none n' c')).run P w = .ok a.isNone w := by
  cases a <;> simp [Op.equalIn, run_underlying hu]
theorem equalIn_map {t k e : TypeId} {a : Option Nat} {d : Nat} (hu : P.underlying t = some (.map k e)) : (Op.equalIn (d + 1) t (.map a) (.map none)).run P w = .ok a.isNone w := by
  cases a <;> simp [Op.equalIn, run_underlying hu]

theorem run_eqInts {d : Nat} {w : World} : ∀ {fs : List Field} {xs ys : List Value} {i : Nat} {X Y : Array Value}, intFs P i fs = true → okInts xs ys = true → xs.length = fs.length →
    (∀ j v, xs[j]? = some v → X[i + j]? = some v) → (∀ j v, ys[j]? = some v → Y[i + j]? = some v) → (Op.eqFields (d + 1) X Y fs).run P w = .ok (eqInts xs ys) w
  | [], [], [], i, X, Y, _, _, _, _, _ => by simp [Op.eqFields, eqInts]
  | [], _ :: _, _, i, X, Y, _, _, hl, _, _ => by simp at hl
  | _ :: _, [], _, i, X, Y, _, _, hl, _, _ => by simp at hl
  | [], [], _ :: _, i, X, Y, _, ho, _, _, _ => by simp [okInts] at ho
  | f :: fs, x :: xs, [], i, X, Y, _, ho, _, _, _ => by cases x <;> simp [okInts] at ho
  | f :: fs, x :: xs, y :: ys, i, X, Y, hf, ho, hl, hx, hy => by
    simp only [intFs, Bool.and_eq_true] at hf
    obtain ⟨h1, h2, h3, h4⟩ := hf
    cases x <;> first | (simp [okInts] at ho; done) | skip
    rename_i k a
    cases y <;> first | (simp [okInts] at ho; done) | skip
    rename_i k' b
    simp only [okInts, Bool.and_eq_true, decide_eq_true_eq] at ho
    obtain ⟨rfl, ho⟩ := ho
    have ih := run_eqInts (d := d) (w := w) (xs := xs) (ys := ys) (i := i + 1) (X := X) (Y := Y) h4 ho (by simpa using hl)
      (fun j v h => by rw [show i + 1 + j = i + (j + 1) by omega]; exact hx (j + 1) v (by simpa using h)) (fun j v h => by rw [show i + 1 + j = i + (j + 1) by omega]; exact hy (j + 1) v (by simpa using h))
    have e1 : f.offset = i := Nat.eq_of_beq_eq_true h2
    have hx0 := hx 0 _ rfl
    have hy0 := hy 0 _ rfl
    rw [Nat.add_zero] at hx0 hy0
    have hn : f.name ≠ "_" := by simpa using h1
    split at h3
    · rename_i kk hu
      have pa : ∀ (Z : Array Value) (z : Int), Z[i]? = some (.int k z) → (part f.type Z f.offset).run P w = .ok (.int k z) w := by
        intro Z z hz
        simp [part, isAgg, Sem.run_bind, run_underlying hu, Result.andThen, e1, hz]
      simp only [Op.eqFields, hn, ne_eq, not_false_eq_true, if_true, Sem.run_bind, pa X a hx0, pa Y b hy0, Result.andThen_ok, run_equalIn_int w d f.type k kk a b hu]
      cases hab : (a == b) with
      | true => simp only [Bool.not_true, Bool.false_eq_true, if_false, ih, eqInts, hab, Bool.true_and]
      | false => simp [eqInts, hab]
    · simp at h3

theorem good_eq {neq : Bool} {t yt : TypeId} {x y : Operand} (ho : o.op = .binOp (if neq then .neq else .eql) t x y yt)
    (h : eqD P ρ o neq t (ρ x) (ρ y) Kp) : Pur P ρ o Kp := by
  unfold eqD at h
  split at h
  · rename_i e a hu hx hy
    have := fun w => equalIn_ptr (P := P) (w := w) (a := a) (d := 9999) hu
    refine ⟨_, fun w => ?_, h⟩
    cases neq <;> simp [execOp, ho, hx, hy, eqGuard, binOp, Op.equal, Op.maxDepth, this, nilCmp]
  · rename_i e a n c n' c' hu hx hy
    have := fun w => equalIn_slice (P := P) (w := w) (a := a) (n := n) (c := c) (n' := n') (c' := c') (d := 9999) hu
    refine ⟨_, fun w => ?_, h⟩
    cases neq <;> simp [execOp, ho, hx, hy, eqGuard, binOp, Op.equal, Op.maxDepth, this, nilCmp]
  · rename_i k e a hu hx hy
    have := fun w => equalIn_map (P := P) (w := w) (a := a) (d := 9999) hu
    refine ⟨_, fun w => ?_, h⟩
    cases neq <;> simp [execOp, ho, hx, hy, eqGuard, binOp, Op.equal, Op.maxDepth, this, nilCmp]
  · rename_i fs xs ys hu hx hy
    generalize hb : (intStruct P t && (okInts xs.toList ys.toList && Nat.beq xs.toList.length fs.toList.length)) = b at h
    cases b with
    | false => exact h.elim
    | true =>
      simp only [cond_true] at h
      simp only [Bool.and_eq_true, intStruct, Bool.not_eq_true'] at hb
      obtain ⟨⟨h1, h2, h3⟩, h4, h5⟩ := hb
      have hfs : P.fieldsOf t = fs := by unfold Program.fieldsOf; rw [hu]
      have hlen : xs.toList.length = (P.fieldsOf t).toList.length := by rw [hfs]; exact Nat.eq_of_beq_eq_true h5
      have hrun : ∀ w, (Op.equalIn 10000 t (.agg xs) (.agg ys)).run P w = .ok (eqInts xs.toList ys.toList) w := fun w => by
        rw [run_equalIn_agg w 9999 t xs ys (by rw [hfs]; exact hu) h2]
        exact run_eqInts (d := 9998) (i := 0) h1 h4 hlen (fun j v h => by simpa using h) (fun j v h => by simpa using h)
      refine ⟨_, fun w => ?_, h⟩
      cases neq with
      | true =>
        have hg : (eqGuard .neq t x y (.agg xs) (.agg ys)).run P w = .ok () w := run_eqGuard_agg w _ _ _ _ _ _ h3
        simp only [if_true] at ho
        simp [execOp, ho, hx, hy, hg, run_neq_struct, hrun, nilCmp, Result.andThen]
      | false =>
        have hg : (eqGuard .eql t x y (.agg xs) (.agg ys)).run P w = .ok () w := run_eqGuard_agg w _ _ _ _ _ _ h3
        simp only [Bool.false_eq_true, if_false] at ho
        simp [execOp, ho, hx, hy, hg, run_eql_struct, hrun, nilCmp, Result.andThen]
  · exact good_simple h

theorem good_bin {op : BinOp} {t yt : TypeId} {x y : Operand} (ho : o.op = .binOp op t x y yt) (h : binD P ρ o op t x y Kp) : Pur P ρ o Kp := by
  unfold binD at h
  split at h
  · exact good_eq (neq := false) ho h
  · exact good_eq (neq := true) ho h
  · cases hc : isC y with
    | true => rw [hc] at h; exact good_simple h
    | false =>
      rw [hc] at h
      simp only [cond_false] at h
      split at h
      · rename_i k a k' b hx hy
        obtain ⟨h0, hk⟩ := h
        exact ⟨_, fun w => (by simp [execOp, ho, hx, hy, eqGuard, binOp, Op.shift] <;> (intro hb; omega)), hk⟩
      · exact h.elim
  · cases hc : isC y with
    | true => rw [hc] at h; exact good_simple h
    | false =>
      rw [hc] at h
      simp only [cond_false] at h
      split at h
      · rename_i k a k' b hx hy
        obtain ⟨h0, hk⟩ := h
        exact ⟨_, fun w => (by simp [execOp, ho, hx, hy, eqGuard, binOp, Op.shift] <;> (intro hb; omega)), hk⟩
      · exact h.elim
  · cases hc : isC y with
    | true => rw [hc] at h; exact good_simple h
    | false =>
      rw [hc] at h
      simp only [cond_false] at h
      split at h
      · rename_i k a k' b hx hy
        by_cases hk' : k = k'
        · subst hk'
          simp only [decide_true, cond_true] at h
          obtain ⟨h0, hk⟩ := h
          exact ⟨_, fun w => (by simp [execOp, ho, hx, hy, eqGuard, binOp, Op.intDiv, h0]), hk⟩
        · simp only [hk', decide_false, cond_false] at h
      · exact h.elim
  · cases hc : isC y with
    | true => rw [hc] at h; exact good_simple h
    | false =>
      rw [hc] at h
      simp only [cond_false] at h
      split at h
      · rename_i k a k' b hx hy
        by_cases hk' : k = k'
        · subst hk'
          simp only [decide_true, cond_true] at h
          obtain ⟨h0, hk⟩ := h
          exact ⟨_, fun w => (by simp [execOp, ho, hx, hy, eqGuard, binOp, Op.intDiv, h0]), hk⟩
        · simp only [hk', decide_false, cond_false] at h
      · exact h.elim
  · exact good_simple h

end
end Go.Den
