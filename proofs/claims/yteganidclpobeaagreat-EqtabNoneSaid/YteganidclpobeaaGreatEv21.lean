/- Ev21: code and calls, made ready ahead. Own work; a part of the proof of a claim. Conditions: none beyond those that stand in each theorem. -/
import Derived.Test.YteganidclpobeaaGreatEv20
/- Ev21: code and calls, made ready ahead. -/
set_option linter.unusedSimpArgs false
set_option linter.unusedVariables false
namespace Go.Den
open Go

/-- An operation that looks at its operands alone, of those that are made ready. -/
noncomputable def lookOnly (o : Oper) : Bool :=
  match o.op with
  | .move _ => true | .assign _ => true | .nilCheck _ => true | .fieldAddr _ _ _ => true | .binOp _ _ _ _ _ => true | .indexAddr _ _ _ => true | .index _ _ _ => true | .extract _ _ => true | .unOp _ _ _ => true | .convert _ _ _ => true | _ => false

abbrev FS := List (Nat × List (Nat × Nat × LV))

structure LkR where
  run : LE → LHeap → (LE → List (Nat × Nat × LV) → Res) → Res

noncomputable def genLk (P : Program) (all : List Oper) (o : Oper) : LkR := ⟨fun le H k => pairOr (stepLR P all o le H) k none⟩

/-- A load ahead. -/
noncomputable def compLk (P : Program) (d n : Nat) (all : List Oper) (o : Oper) : LkR :=
  match o.guard with
  | some _ => genLk P all o
  | none => match o.op with
    | .load t x => (match P.underlying t, c2 P t with
      | some _, .one s => ⟨fun le H k => sel ((compRd d n x).get le) none (fun _ => none) (fun b q => optOr (LHeap.get P H b q) (fun v => bif sh1 s v then sel v none (fun _ => k ((compPt d n o.dst).put le v) [(b, q, v)]) (fun _ _ => k ((compPt d n o.dst).put le v) [(b, q, v)]) ((genLk P all o).run le H k) else none) none) none⟩
      | _, _ => genLk P all o)
    | _ => genLk P all o

structure PlR where
  run : CallE → FS → LE → LHeap → KK → Res

noncomputable def compPl (P : Program) (d n : Nat) (l : List Oper) (A : List Nat) : List (Nat × Nat) → Option Nat → PlR
  | [], _ => ⟨fun _ _ le H k => k le H⟩
  | (r, i) :: pl, fl => match l[i]? with
    | none => ⟨fun _ _ _ _ _ => none⟩
    | some o => bif Nat.beq r 0 then
        (bif lookOnly o then ⟨fun call SL le H k => (compO P d n l o).run call le H fun le' _ => (compPl P d n l A pl fl).run call ((i, []) :: SL) le' H k⟩
        else ⟨fun call SL le H k => (compLk P d n l o).run le H fun le' fs => (compPl P d n l A pl fl).run call ((i, fs) :: SL) le' H k⟩)
      else bif Nat.beq r 2 then (bif zcOk P o then ⟨fun call SL le H k => (compPl P d n l A pl (some i)).run call SL (lput le o.dst .un) H k⟩ else ⟨fun _ _ _ _ _ => none⟩)
      else bif fl.isNone || Nat.beq r 3 then ⟨fun call SL le H k => (compO P d n l o).run call le H fun le' H' => bif pendL P H' (A.getD i 0) SL then (compPl P d n l A pl (bif Nat.beq r 3 then none else fl)).run call (keepL (A.getD i 0) SL) le' H' k else none⟩
      else ⟨fun call SL le H k => bif pendL P H 0 SL then (compO P d n l o).run call le H fun le' H' => bif pendL P H' (A.getD i 0) SL then (compPl P d n l A pl fl).run call (keepL (A.getD i 0) SL) le' H' k else none else none⟩

noncomputable def compReg (P : Program) (pls : Plans) (d n : Nat) (id : Nat) (ops : List Oper) (dr : Bool) : OpR :=
  bif dr then (match planOf pls id with
    | [] => ⟨fun _ _ _ _ => none⟩
    | pl => bif P.follows .mixedOrders && (statI ops (ancs ops []) pl 0 ops && (planOk ops (ancs ops []) pl 0 none && plainOps ops)) then ⟨fun call le H k => (compPl P d n ops (ancs ops []) pl none).run call [] le H k⟩ else ⟨fun _ _ _ _ => none⟩)
  else compOps P d n ops ops

structure CdR where
  run : CallE → Ev → LE → LHeap → KK → Res

noncomputable def nxK : KK := fun le H => some (.nx, le, H)

noncomputable def boolOr {α : Type} (v : LV) (t f g : α) : α :=
  sel v g (fun u => match u with | .bool b => Bool.casesOn (motive := fun _ => α) b f t | _ => g) (fun _ _ => g) g

noncomputable def loopR (body : CdR) (call : CallE) (low : Ev) : Nat → LE → LHeap → Res :=
  fun n => Nat.rec (motive := fun _ => LE → LHeap → Res) (fun _ _ => none) (fun _ ih le H => body.run call low le H ih) n

/-- What is left by an exit of this block goes on. -/
noncomputable def blkK (id : Nat) (r : Res) (k : KK) : Res :=
  match r with
  | some (.ex i, le, H) => bif Nat.beq i id then k le H else some (.ex i, le, H)
  | some (.nx, le, H) => k le H
  | r => r

noncomputable def onNx (r : Res) (k : KK) : Res :=
  match r with
  | some (.nx, le, H) => k le H
  | r => r

noncomputable def compC (P : Program) (pls : Plans) (fuel d n : Nat) : Code → CdR
  | .skip => ⟨fun _ _ le H k => k le H⟩
  | .label _ => ⟨fun _ _ le H k => k le H⟩
  | .region id ops dr => ⟨fun call _ le H k => (compReg P pls d n id ops.toList dr).run call le H k⟩
  | .seq a b => ⟨fun call low le H k => (compC P pls fuel d n a).run call low le H fun le H => (compC P pls fuel d n b).run call low le H k⟩
  | .cond c t f => ⟨fun call low le H k => boolOr ((compRd d n c).get le) ((compC P pls fuel d n t).run call low le H k) ((compC P pls fuel d n f).run call low le H k) none⟩
  | .block id c => ⟨fun call low le H k => blkK id ((compC P pls fuel d n c).run call low le H nxK) k⟩
  | .loop c => ⟨fun call low le H _ => loopR (compC P pls fuel d n c) call low fuel le H⟩
  | .rangeFunc f ps as bd => ⟨fun call _ le H k => onNx (rfL P call f ps.toList as bd le H) k⟩
  | .exit id => ⟨fun _ _ le H _ => some (.ex id, le, H)⟩
  | .goto l => ⟨fun _ _ le H _ => some (.gt l, le, H)⟩
  | .ret => ⟨fun _ _ le H _ => some (.rt, le, H)⟩
  | .scope c => ⟨fun call low le H k => onNx (match (compC P pls fuel d n c).run call low le H nxK with
      | some (.gt l, le', H') => (match findLabel c l with
        | some rest => scopeL low c fuel rest le' H'
        | none => none)
      | r => r) k⟩
  | _ => ⟨fun _ _ _ _ _ => none⟩

section
variable {P : Program} {d n : Nat} {all : List Oper} {o : Oper}

theorem stepL_d {call : CallE} {le le' : LE} {H H' : LHeap} (h : stepL P call all o le H = some (le', H')) : le'.d = le.d ∧ le'.fid = le.fid := by
  have lp : ∀ (le : LE) (x : Option Nat) (v : LV), (lput le x v).d = le.d ∧ (lput le x v).fid = le.fid := by
    intro le x v
    cases x with
    | none => exact ⟨rfl, rfl⟩
    | some t => simp only [lput]; cases Nat.blt t le.n <;> exact ⟨rfl, rfl⟩
  have run : ∀ {le0 : LE}, (match opL P call le0 o H with
    | some (v, H') => bif isKn v then some (lput le0 o.dst v, H') else none
    | none => none) = some (le', H') → le'.d = le0.d ∧ le'.fid = le0.fid := by
    intro le0 h
    split at h
    · obtain ⟨_, h⟩ := bif_some (x := (le', H')) h
      simp only [Option.some.injEq, Prod.mk.injEq] at h
      rw [← h.1]; exact lp _ _ _
    · simp at h
  have skip : some (lput le o.dst (.tup []), H) = some (le', H') → le'.d = le.d ∧ le'.fid = le.fid := by
    intro h
    simp only [Option.some.injEq, Prod.mk.injEq] at h
    rw [← h.1]; exact lp _ _ _
  unfold stepL at h
  split at h
  · unfold deferL at h
    split at h
    · split at h
      · obtain ⟨_, h⟩ := bif_some (x := (le', H')) h
        simp only [Option.some.injEq, Prod.mk.injEq] at h
        rw [← h.1]; exact lp _ _ _
      · simp at h
    · simp at h
  · unfold guardL at h
    split at h
    · exact run h
    · split at h
      · simp at h
      · split at h
        · exact skip h
        · rename_i want _ _ _ _ _ b _
          cases hb : (b == want) with
          | true => rw [hb] at h; exact run h
          | false => rw [hb] at h; exact skip h
        · simp at h

theorem stepLR_d {le le' : LE} {H : LHeap} {fs : List (Nat × Nat × LV)} (h : stepLR P all o le H = some (le', fs)) : le'.d = le.d ∧ le'.fid = le.fid := by
  have lp : ∀ (le : LE) (x : Option Nat) (v : LV), (lput le x v).d = le.d ∧ (lput le x v).fid = le.fid := by
    intro le x v
    cases x with
    | none => exact ⟨rfl, rfl⟩
    | some t => simp only [lput]; cases Nat.blt t le.n <;> exact ⟨rfl, rfl⟩
  have run : (match opLR P le o H with
    | some (v, fs) => bif isKn v then some (lput le o.dst v, fs) else none
    | none => none) = some (le', fs) → le'.d = le.d ∧ le'.fid = le.fid := by
    intro h
    split at h
    · obtain ⟨_, h⟩ := bif_some (x := (le', fs)) h
      simp only [Option.some.injEq, Prod.mk.injEq] at h
      rw [← h.1]; exact lp _ _ _
    · simp at h
  have skip : some (lput le o.dst (.tup []), ([] : List (Nat × Nat × LV))) = some (le', fs) → le'.d = le.d ∧ le'.fid = le.fid := by
    intro h
    simp only [Option.some.injEq, Prod.mk.injEq] at h
    rw [← h.1]; exact lp _ _ _
  unfold stepLR guardL at h
  split at h
  · exact run h
  · split at h
    · simp at h
    · split at h
      · exact skip h
      · rename_i want _ _ _ _ _ b _
        cases hb : (b == want) with
        | true => rw [hb] at h; exact run h
        | false => rw [hb] at h; exact skip h
      · simp at h

theorem compOps_ok {call : CallE} : ∀ {l : List Oper} {le : LE} {H : LHeap} {k : KK} {r : Out × LE × LHeap}, le.d = d → le.n = n → (compOps P d n all l).run call le H k = some r →
    ∃ le' H', opsL P call all l le H = some (le', H') ∧ k le' H' = some r ∧ le'.d = d ∧ le'.n = n
  | [], le, H, k, r, hd, hn, h => ⟨le, H, rfl, h, hd, hn⟩
  | o :: l, le, H, k, r, hd, hn, h => by
    obtain ⟨le1, H1, h1, h2⟩ := compO_ok call le H _ r hd hn h
    obtain ⟨le2, H2, h3, h4, h5⟩ := compOps_ok (l := l) ((stepL_d h1).1.trans hd) ((opL_n h1).1.trans hn) h2
    refine ⟨le2, H2, ?_, h4, h5⟩
    simp only [opsL, h1, h3]

theorem lookOnly_step {call : CallE} {le le' : LE} {H H' : LHeap} (hl : lookOnly o = true) (h : stepL P call all o le H = some (le', H')) : H' = H ∧ stepLR P all o le H = some (le', []) := by
  unfold lookOnly at hl
  have key : ∀ (hop : opLR P le o H = (match opL P call le o H with | some (v, _) => some (v, []) | none => none)) (hH : ∀ v H1, opL P call le o H = some (v, H1) → H1 = H) (hd : ∀ c, o.op ≠ .defer c), H' = H ∧ stepLR P all o le H = some (le', []) := by
    intro hop hH hd
    unfold stepL at h
    split at h
    · rename_i c ho _; exact (hd c ho).elim
    · have run : (match opL P call le o H with
          | some (v, H') => bif isKn v then some (lput le o.dst v, H') else none
          | none => none) = some (le', H') → H' = H ∧ (match opLR P le o H with
          | some (v, fs) => bif isKn v then some (lput le o.dst v, fs) else none
          | none => none) = some (le', []) := by
        intro h
        rw [hop]
        split at h
        · rename_i v H1 hv
          obtain ⟨hk, h⟩ := bif_some (x := (le', H')) h
          simp only [Option.some.injEq, Prod.mk.injEq] at h
          obtain ⟨rfl, rfl⟩ := h
          simp only [hv, hk, cond_true]
          exact ⟨hH _ _ hv, trivial⟩
        · simp at h
      have skip : some (lput le o.dst (.tup []), H) = some (le', H') → H' = H ∧ some (lput le o.dst (.tup []), ([] : List (Nat × Nat × LV))) = some (le', []) := by
        intro h
        simp only [Option.some.injEq, Prod.mk.injEq] at h
        obtain ⟨rfl, rfl⟩ := h
        exact ⟨rfl, rfl⟩
      unfold guardL at h
      unfold stepLR guardL
      split at h
      · rename_i hg
        try rw [hg]
        exact run h
      · rename_i j want hg
        try rw [hg]
        try dsimp only
        split at h
        · simp at h
        · rename_i t ht
          try rw [ht]
          try dsimp only
          split at h
          · rename_i l hlt; (try rw [hlt]); exact skip h
          · rename_i b hlt
            try rw [hlt]
            try dsimp only
            cases hb : (b == want) with
            | true => rw [hb] at h; exact run h
            | false => rw [hb] at h; exact skip h
          · simp at h
  have pu : (∀ c x y, o.op ≠ .pick c x y) → (∀ t x, o.op ≠ .load t x) → (∀ cs b, o.op ≠ .select cs b) → (opW P call le o H = (match pureL P le o with | some v => some (v, H) | none => none)) →
      opLR P le o H = (match opL P call le o H with | some (v, _) => some (v, []) | none => none) ∧ ∀ v H1, opL P call le o H = some (v, H1) → H1 = H := by
    intro h1 h2 h3 h4
    have e1 : opL P call le o H = bif allKnL le (opnds o.op) then (match pureL P le o with | some v => some (v, H) | none => none) else none := by
      unfold opL
      split
      · rename_i c x y ho; exact (h1 c x y ho).elim
      · rename_i cs b ho; exact (h3 cs b ho).elim
      · rw [h4]
    have e2 : opLR P le o H = bif allKnL le (opnds o.op) then (match pureL P le o with | some v => some (v, []) | none => none) else none := by
      unfold opLR
      split
      · rename_i c x y ho; exact (h1 c x y ho).elim
      · rename_i t x ho; exact (h2 t x ho).elim
      · rename_i cs b ho; exact (h3 cs b ho).elim
      · rfl
    rw [e1, e2]
    cases allKnL le (opnds o.op) with
    | false => exact ⟨rfl, fun _ _ h => by simp at h⟩
    | true =>
      simp only [cond_true]
      cases pureL P le o with
      | none => exact ⟨rfl, fun _ _ h => by simp at h⟩
      | some v => exact ⟨rfl, fun _ _ h => by simp only [Option.some.injEq, Prod.mk.injEq] at h; exact h.2.symm⟩
  split at hl <;> first | (simp at hl; done) | skip
  all_goals
    rename_i ho
    obtain ⟨a, b⟩ := pu (by rw [ho]; simp) (by rw [ho]; simp) (by rw [ho]; simp) (by unfold opW; simp only [ho]; cases pureL P le o <;> rfl)
    exact key a b (by rw [ho]; simp)

theorem genLk_ok {le : LE} {H : LHeap} {k : LE → List (Nat × Nat × LV) → Res} {r : Out × LE × LHeap} (h : (genLk P all o).run le H k = some r) : ∃ le' fs, stepLR P all o le H = some (le', fs) ∧ k le' fs = some r := by
  have h : pairOr (stepLR P all o le H) k none = some r := h
  cases hs : stepLR P all o le H with
  | none => rw [hs] at h; simp [pairOr] at h
  | some p => rw [hs] at h; exact ⟨p.1, p.2, rfl, h⟩

theorem compLk_ok {le : LE} {H : LHeap} {k : LE → List (Nat × Nat × LV) → Res} {r : Out × LE × LHeap} (hd : le.d = d) (hn : le.n = n) (h : (compLk P d n all o).run le H k = some r) : ∃ le' fs, stepLR P all o le H = some (le', fs) ∧ k le' fs = some r := by
  unfold compLk at h
  split at h
  · exact genLk_ok h
  · rename_i hg
    split at h
    · rename_i t x ho
      split at h
      · rename_i u s hu hc
        simp only [compRd_eq hd hn, compPt_eq hd hn] at h
        rw [sel_eq] at h
        split at h
        · simp at h
        · simp at h
        · rename_i b q hx
          cases hv : LHeap.get P H b q with
          | none => rw [hv] at h; simp [optOr] at h
          | some v =>
            rw [hv] at h
            simp only [optOr] at h
            obtain ⟨hs, h⟩ := bif_some (x := r) h
            have fin : (∀ a b c, v ≠ .agb a b c) → isKn v = true → k (lput le o.dst v) [(b, q, v)] = some r → ∃ le' fs, stepLR P all o le H = some (le', fs) ∧ k le' fs = some r := by
              intro hng hkv h
              refine ⟨_, _, ?_, h⟩
              have e1 : opLR P le o H = some (v, [(b, q, v)]) := by
                unfold opLR
                simp only [ho]
                have : loadL P t (lev le x) H = some (v, [(b, q, v)]) := by
                  unfold loadL; rw [hx]; simp only [hu, Option.isSome_some, cond_true, hc, hv, hs]
                rw [this]
                cases v <;> first | rfl | exact absurd rfl (hng _ _ _)
              unfold stepLR guardL
              rw [hg]
              dsimp only
              rw [e1]
              simp only [hkv, cond_true]
            cases v with
            | un => simp [sel] at h
            | sc a => exact fin (by simp) rfl h
            | ptr a b => exact fin (by simp) rfl h
            | _ => exact genLk_ok h
        · simp at h
      · exact genLk_ok h
    · exact genLk_ok h

theorem compPl_ok {call : CallE} {l : List Oper} {A : List Nat} : ∀ {pl : List (Nat × Nat)} {fl : Option Nat} {SL : FS} {le : LE} {H : LHeap} {k : KK} {r : Out × LE × LHeap}, le.d = d → le.n = n → (compPl P d n l A pl fl).run call SL le H k = some r →
    ∃ le' H', plL P call l A pl fl SL le H = some (le', H') ∧ k le' H' = some r ∧ le'.d = d ∧ le'.n = n
  | [], fl, SL, le, H, k, r, hd, hn, h => ⟨le, H, rfl, h, hd, hn⟩
  | (q, i) :: pl, fl, SL, le, H, k, r, hd, hn, h => by
    unfold compPl at h
    simp only [plL]
    cases ho : l[i]? with
    | none => rw [ho] at h; simp at h
    | some o =>
      rw [ho] at h
      dsimp only at h ⊢
      cases hq : Nat.beq q 0 with
      | true =>
        rw [hq, cond_true] at h
        simp only [cond_true]
        cases hlo : lookOnly o with
        | true =>
          rw [hlo, cond_true] at h
          obtain ⟨le1, H1, h1, h2⟩ := compO_ok call le H _ r hd hn h
          obtain ⟨rfl, h3⟩ := lookOnly_step hlo h1
          obtain ⟨le2, H2, h4, h5, h6⟩ := compPl_ok (pl := pl) ((stepL_d h1).1.trans hd) ((opL_n h1).1.trans hn) h2
          exact ⟨le2, H2, by rw [h3]; exact h4, h5, h6⟩
        | false =>
          rw [hlo, cond_false] at h
          dsimp only at h
          obtain ⟨le1, fs, hs, h⟩ := compLk_ok hd hn h
          obtain ⟨le2, H2, h4, h5, h6⟩ := compPl_ok (pl := pl) ((stepLR_d hs).1.trans hd) ((stepLR_n hs).1.trans hn) h
          exact ⟨le2, H2, by rw [hs]; exact h4, h5, h6⟩
      | false =>
        rw [hq, cond_false] at h
        simp only [cond_false]
        cases hq2 : Nat.beq q 2 with
        | true =>
          rw [hq2, cond_true] at h
          simp only [cond_true]
          have hp := lput_n le o.dst .un
          cases hz : zcOk P o with
          | false => rw [hz] at h; simp at h
          | true =>
          rw [hz, cond_true] at h
          simp only [cond_true]
          exact compPl_ok (pl := pl) (hp.2.2.2.trans hd) (hp.1.trans hn) h
        | false =>
        rw [hq2, cond_false] at h
        simp only [cond_false]
        cases hq3 : (fl.isNone || Nat.beq q 3) with
        | true =>
          rw [hq3, cond_true] at h
          simp only [Bool.true_or, cond_true]
          obtain ⟨le1, H1, h1, h2⟩ := compO_ok call le H _ r hd hn h
          obtain ⟨hp, h2⟩ := bif_some (x := r) h2
          obtain ⟨le2, H2, h4, h5, h6⟩ := compPl_ok (pl := pl) ((stepL_d h1).1.trans hd) ((opL_n h1).1.trans hn) h2
          exact ⟨le2, H2, by rw [h1]; simp only [hp, cond_true, h4], h5, h6⟩
        | false =>
          rw [hq3, cond_false] at h
          have h3 : Nat.beq q 3 = false := by rw [Bool.or_eq_false_iff] at hq3; exact hq3.2
          dsimp only at h
          obtain ⟨hp0, h⟩ := bif_some (x := r) h
          obtain ⟨le1, H1, h1, h2⟩ := compO_ok call le H _ r hd hn h
          obtain ⟨hp, h2⟩ := bif_some (x := r) h2
          obtain ⟨le2, H2, h4, h5, h6⟩ := compPl_ok (pl := pl) ((stepL_d h1).1.trans hd) ((opL_n h1).1.trans hn) h2
          exact ⟨le2, H2, by rw [h1, h3]; simp only [hp0, hp, Bool.false_or, cond_true, cond_false, h4], h5, h6⟩

theorem compReg_ok {call : CallE} {pls : Plans} {id : Nat} {ops : List Oper} {dr : Bool} {le : LE} {H : LHeap} {k : KK} {r : Out × LE × LHeap} (hd : le.d = d) (hn : le.n = n) (h : (compReg P pls d n id ops dr).run call le H k = some r) :
    ∃ le' H', regL P pls call id ops dr le H = some (.nx, le', H') ∧ k le' H' = some r ∧ le'.d = d ∧ le'.n = n := by
  unfold compReg at h
  unfold regL
  cases dr with
  | false =>
    obtain ⟨le1, H1, h1, h2⟩ := compOps_ok hd hn h
    exact ⟨le1, H1, by simp only [cond_false, h1], h2⟩
  | true =>
    simp only [cond_true] at h ⊢
    split at h
    · simp at h
    · rename_i pl hpl
      cases hc : (P.follows .mixedOrders && (statI ops (ancs ops []) (planOf pls id) 0 ops && (planOk ops (ancs ops []) (planOf pls id) 0 none && plainOps ops))) with
      | false => rw [hc] at h; simp at h
      | true =>
        rw [hc, cond_true] at h
        obtain ⟨le1, H1, h1, h2⟩ := compPl_ok hd hn h
        refine ⟨le1, H1, ?_, h2⟩
        split
        · rename_i heq
          split at heq
          · rename_i hnil; exact absurd hnil hpl
          · rw [hc, cond_true, h1] at heq
            simp only [Option.some.injEq, Prod.mk.injEq] at heq
            rw [← heq.1, ← heq.2]
        · rename_i heq
          split at heq
          · rename_i hnil; exact absurd hnil hpl
          · rw [hc, cond_true, h1] at heq; simp at heq

/-- A run keeps the size of its temporaries. -/
def EvD (ev : Ev) : Prop := ∀ {c : Code} {le : LE} {H : LHeap} {o : Out} {le' : LE} {H' : LHeap}, ev c le H = some (o, le', H') → le'.d = le.d ∧ le'.n = le.n

def CdOk (P : Program) (pls : Plans) (fuel d n : Nat) (c : Code) (R : CdR) : Prop :=
  ∀ {call : CallE} {low : Ev} {le : LE} {H : LHeap} {k : KK} {r : Out × LE × LHeap}, EvD low → le.d = d → le.n = n → R.run call low le H k = some r →
    ∃ o le' H', codeL P pls call low fuel c le H = some (o, le', H') ∧ le'.d = d ∧ le'.n = n ∧ (o = .nx ∧ k le' H' = some r ∨ o ≠ .nx ∧ r = (o, le', H'))

theorem rfL_d {call : CallE} {f : Operand} {ps : List Nat} {as bd : Code} {le le' : LE} {H H' : LHeap} {o : Out} (h : rfL P call f ps as bd le H = some (o, le', H')) : le'.d = le.d ∧ le'.n = le.n := by
  unfold rfL at h
  split at h
  · simp at h
  · split at h
    · obtain ⟨_, h⟩ := bif_some (x := (o, le', H')) h
      split at h
      · split at h
        · split at h
          · simp at h
          · split at h
            · simp only [Option.some.injEq, Prod.mk.injEq] at h
              rw [← h.2.1]; exact ⟨rfl, rfl⟩
            · simp at h
        · simp at h
      · simp at h
    · simp at h

theorem scopeL_d {ev : Ev} {c : Code} (hev : EvD ev) : ∀ (m : Nat) {cur : Code} {le le' : LE} {H H' : LHeap} {o : Out}, scopeL ev c m cur le H = some (o, le', H') → le'.d = le.d ∧ le'.n = le.n
  | 0, cur, le, le', H, H', o, h => by simp [scopeL] at h
  | m + 1, cur, le, le', H, H', o, h => by
    simp only [scopeL] at h
    obtain ⟨_, h⟩ := bif_some (x := (o, le', H')) h
    split at h
    · rename_i l le1 H1 h1
      split at h
      · have := scopeL_d hev m h
        have := hev h1
        constructor <;> simp_all
      · simp at h
    · exact hev h

theorem compC_ok {pls : Plans} {fuel : Nat} : ∀ (c : Code), CdOk P pls fuel d n c (compC P pls fuel d n c) := by
  intro c
  induction c with
  | skip => intro call low le H k r hl hd hn h; exact ⟨.nx, le, H, rfl, hd, hn, .inl ⟨rfl, h⟩⟩
  | label l => intro call low le H k r hl hd hn h; exact ⟨.nx, le, H, rfl, hd, hn, .inl ⟨rfl, h⟩⟩
  | region id ops dr =>
    intro call low le H k r hl hd hn h
    obtain ⟨le1, H1, h1, h2, h3⟩ := compReg_ok hd hn h
    exact ⟨.nx, le1, H1, h1, h3.1, h3.2, .inl ⟨rfl, h2⟩⟩
  | seq x y ihx ihy =>
    intro call low le H k r hl hd hn h
    obtain ⟨o, le1, H1, h1, h2, h3, h4⟩ := ihx hl hd hn h
    rcases h4 with ⟨rfl, h4⟩ | ⟨hne, rfl⟩
    · obtain ⟨o2, le2, H2, h5, h6⟩ := ihy hl h2 h3 h4
      exact ⟨o2, le2, H2, by simp only [codeL, h1, h5], h6⟩
    · refine ⟨o, le1, H1, ?_, h2, h3, .inr ⟨hne, rfl⟩⟩
      simp only [codeL, h1]
      cases o <;> first | rfl | exact absurd rfl hne
  | cond c x y ihx ihy =>
    intro call low le H k r hl hd hn h
    have h : boolOr ((compRd d n c).get le) ((compC P pls fuel d n x).run call low le H k) ((compC P pls fuel d n y).run call low le H k) none = some r := h
    rw [compRd_eq hd hn] at h
    unfold boolOr at h
    rw [sel_eq] at h
    split at h
    · simp at h
    · rename_i u hu
      split at h
      · rename_i b
        cases b with
        | true =>
          obtain ⟨o, le1, H1, h1, h2⟩ := ihx hl hd hn h
          exact ⟨o, le1, H1, by simp only [codeL, hu, cond_true, h1], h2⟩
        | false =>
          obtain ⟨o, le1, H1, h1, h2⟩ := ihy hl hd hn h
          exact ⟨o, le1, H1, by simp only [codeL, hu, cond_false, h1], h2⟩
      · simp at h
    · simp at h
    · simp at h
  | block id c ih =>
    intro call low le H k r hl hd hn h
    have h : blkK id ((compC P pls fuel d n c).run call low le H nxK) k = some r := h
    unfold blkK at h
    split at h
    · rename_i i le1 H1 h1
      obtain ⟨o, le2, H2, h2, h3, h4, h5⟩ := ih hl hd hn h1
      rcases h5 with ⟨rfl, h5⟩ | ⟨hne, h5⟩
      · simp [nxK] at h5
      · simp only [Prod.mk.injEq] at h5
        obtain ⟨rfl, rfl, rfl⟩ := h5
        cases hi : Nat.beq i id with
        | true => rw [hi, cond_true] at h; exact ⟨.nx, le1, H1, by simp only [codeL, h2, hi, cond_true], h3, h4, .inl ⟨rfl, h⟩⟩
        | false =>
          rw [hi, cond_false] at h
          simp only [Option.some.injEq] at h
          exact ⟨.ex i, le1, H1, by simp only [codeL, h2, hi, cond_false], h3, h4, .inr ⟨by simp, h.symm⟩⟩
    · rename_i le1 H1 h1
      obtain ⟨o, le2, H2, h2, h3, h4, h5⟩ := ih hl hd hn h1
      rcases h5 with ⟨rfl, h5⟩ | ⟨hne, h5⟩
      · simp only [nxK, Option.some.injEq, Prod.mk.injEq, true_and] at h5
        obtain ⟨rfl, rfl⟩ := h5
        exact ⟨.nx, le2, H2, by simp only [codeL, h2], h3, h4, .inl ⟨rfl, h⟩⟩
      · simp only [Prod.mk.injEq] at h5
        exact absurd h5.1.symm hne
    · rename_i res h6 h7
      obtain ⟨o, le2, H2, h2, h3, h4, h5⟩ := ih hl hd hn h
      rcases h5 with ⟨rfl, h5⟩ | ⟨hne, h5⟩
      · simp only [nxK, Option.some.injEq] at h5
        subst h5
        exact absurd h (h7 _ _)
      · subst h5
        refine ⟨o, le2, H2, ?_, h3, h4, .inr ⟨hne, rfl⟩⟩
        simp only [codeL, h2]
        cases o with
        | ex i => exact absurd h (h6 _ _ _)
        | _ => rfl
  | loop c ih =>
    intro call low le H k r hl hd hn h
    have key : ∀ (m : Nat) {le : LE} {H : LHeap}, le.d = d → le.n = n → loopR (compC P pls fuel d n c) call low m le H = some r →
        ∃ o le' H', loopL (codeL P pls call low fuel c) m le H = some (o, le', H') ∧ le'.d = d ∧ le'.n = n ∧ (o ≠ .nx ∧ r = (o, le', H')) := by
      intro m
      induction m with
      | zero => intro le H _ _ h; simp [loopR] at h
      | succ m ihm =>
        intro le H hd hn h
        obtain ⟨o, le1, H1, h1, h2, h3, h4⟩ := ih hl hd hn (show (compC P pls fuel d n c).run call low le H (loopR (compC P pls fuel d n c) call low m) = some r from h)
        rcases h4 with ⟨rfl, h4⟩ | ⟨hne, rfl⟩
        · obtain ⟨o2, le2, H2, h5, h6⟩ := ihm h2 h3 h4
          exact ⟨o2, le2, H2, by simp only [loopL, h1, h5], h6⟩
        · refine ⟨o, le1, H1, ?_, h2, h3, hne, rfl⟩
          simp only [loopL, h1]
          cases o <;> first | rfl | exact absurd rfl hne
    obtain ⟨o, le1, H1, h1, h2, h3, h4⟩ := key fuel hd hn h
    exact ⟨o, le1, H1, h1, h2, h3, .inr h4⟩
  | rangeFunc f ps as bd _ _ =>
    intro call low le H k r hl hd hn h
    have h : onNx (rfL P call f ps.toList as bd le H) k = some r := h
    unfold onNx at h
    split at h
    · rename_i le1 H1 h1
      have := rfL_d h1
      exact ⟨.nx, le1, H1, h1, this.1.trans hd, this.2.trans hn, .inl ⟨rfl, h⟩⟩
    · rename_i res hne
      obtain ⟨o, le1, H1⟩ := r
      have := rfL_d h
      refine ⟨o, le1, H1, h, this.1.trans hd, this.2.trans hn, .inr ⟨?_, rfl⟩⟩
      rintro rfl; exact absurd h (hne _ _)
  | exit id =>
    intro call low le H k r hl hd hn h
    have h : some (Out.ex id, le, H) = some r := h
    simp only [Option.some.injEq] at h
    exact ⟨.ex id, le, H, rfl, hd, hn, .inr ⟨by simp, h.symm⟩⟩
  | goto l =>
    intro call low le H k r hl hd hn h
    have h : some (Out.gt l, le, H) = some r := h
    simp only [Option.some.injEq] at h
    exact ⟨.gt l, le, H, rfl, hd, hn, .inr ⟨by simp, h.symm⟩⟩
  | ret =>
    intro call low le H k r hl hd hn h
    have h : some (Out.rt, le, H) = some r := h
    simp only [Option.some.injEq] at h
    exact ⟨.rt, le, H, rfl, hd, hn, .inr ⟨by simp, h.symm⟩⟩
  | scope c ih =>
    intro call low le H k r hl hd hn h
    have h : onNx (match (compC P pls fuel d n c).run call low le H nxK with
      | some (.gt l, le', H') => (match findLabel c l with
        | some rest => scopeL low c fuel rest le' H'
        | none => none)
      | r => r) k = some r := h
    have inner : ∀ {o : Out} {le1 : LE} {H1 : LHeap}, (match (compC P pls fuel d n c).run call low le H nxK with
      | some (.gt l, le', H') => (match findLabel c l with
        | some rest => scopeL low c fuel rest le' H'
        | none => none)
      | r => r) = some (o, le1, H1) → codeL P pls call low fuel (.scope c) le H = some (o, le1, H1) ∧ le1.d = d ∧ le1.n = n := by
      intro o le1 H1 h
      split at h
      · rename_i l le2 H2 h2
        obtain ⟨o3, le3, H3, h3, h4, h5, h6⟩ := ih hl hd hn h2
        rcases h6 with ⟨rfl, h6⟩ | ⟨hne, h6⟩
        · simp [nxK] at h6
        · simp only [Prod.mk.injEq] at h6
          obtain ⟨rfl, rfl, rfl⟩ := h6
          split at h
          · rename_i rest hf
            have := scopeL_d hl _ h
            exact ⟨by simp only [codeL, h3, hf, h], this.1.trans h4, this.2.trans h5⟩
          · simp at h
      · rename_i res hne
        obtain ⟨o3, le3, H3, h3, h4, h5, h6⟩ := ih hl hd hn h
        rcases h6 with ⟨rfl, h6⟩ | ⟨hne2, h6⟩
        · simp only [nxK, Option.some.injEq, Prod.mk.injEq] at h6
          obtain ⟨rfl, rfl, rfl⟩ := h6
          exact ⟨by simp only [codeL, h3], h4, h5⟩
        · simp only [Prod.mk.injEq] at h6
          obtain ⟨rfl, rfl, rfl⟩ := h6
          refine ⟨?_, h4, h5⟩
          simp only [codeL, h3]
          cases o with
          | gt l => exact absurd h (hne _ _ _)
          | _ => rfl
    unfold onNx at h
    split at h
    · rename_i le1 H1 h1
      obtain ⟨a, b, c⟩ := inner h1
      exact ⟨.nx, le1, H1, a, b, c, .inl ⟨rfl, h⟩⟩
    · rename_i res hne
      obtain ⟨o, le1, H1⟩ := r
      obtain ⟨a, b, c⟩ := inner h
      refine ⟨o, le1, H1, a, b, c, .inr ⟨?_, rfl⟩⟩
      rintro rfl; exact absurd h (hne _ _)
  | refuse s => intro call low le H k r hl hd hn h; simp [compC] at h
end
end Go.Den
