/- Ev15: operations, one behind the other; what is deferred. Own work; a part of the proof of a claim. Conditions: none beyond those that stand in each theorem. -/
import Derived.Test.YteganidclpobeaaGreatEv14
/- Ev15: operations, one behind the other; what is deferred. -/
set_option linter.unusedSimpArgs false
set_option linter.unusedVariables false
namespace Go.Den
open Go

/-- What is deferred, as the machine keeps it. -/
def DR1 (σ : Sg) : LDef → Deferred → Prop
  | .mark b, d => ∃ r, σ b = some r ∧ d = { target := .collected r.1, args := #[] }
  | .call k args, d => ∃ as' cs' : List Value, d = { target := .fn (.func k) ⟨cs'⟩, args := ⟨as'⟩ } ∧ All2 (VR0 σ) args (as' ++ cs')

theorem DR1.mono {σ σ' : Sg} (hx : Ext σ σ') {l : LDef} {d : Deferred} (h : DR1 σ l d) : DR1 σ' l d := by
  cases l with
  | mark b => obtain ⟨r, h1, h2⟩ := h; exact ⟨r, hx _ _ h1, h2⟩
  | call k args => obtain ⟨a, c, h1, h2⟩ := h; exact ⟨a, c, h1, h2.imp fun _ _ => VR0.mono hx⟩

structure AR (P : Program) (σ : Sg) (le : LE) (a : Act) : Prop where
  t : TR P σ le a.tmps
  d : All2 (DR1 σ) le.df a.defers

section
variable {P : Program} {σ σ' : Sg} {le le' : LE} {e : Env} {a : Act} {o : Oper} {H H' : LHeap} {w : World}

theorem AR.mono (h : AR P σ le a) (hx : Ext σ σ') : AR P σ' le a := ⟨h.t.mono hx, h.d.imp fun _ _ => DR1.mono hx⟩

theorem get_tab (f : Nat → Value) : ∀ (l : List Nat) (t : Nat), get (l.map fun t => (t, f t)) t = if t ∈ l then f t else unk
  | [], t => rfl
  | s :: l, t => by
    rw [List.map_cons, get_cons, get_tab f l t]
    by_cases h : s = t
    · subst h; simp
    · have : ¬ t = s := fun h' => h h'.symm
      simp [h, this]

theorem AR.env (h : AR P σ le a) : ∃ e, ER P σ le e ∧ Sub a.defers le.n e a := by
  refine ⟨(List.range le.n).map fun t => (t, open Classical in if lget le t = .un then unk else a.tmps.getD t undef), ⟨h.t.wf, h.t.sz, fun t => ?_⟩, rfl, h.t.n, fun t => ?_⟩
  · rw [get_tab]
    rcases h.t.val t with h1 | ⟨v, h1, h2⟩
    · exact .inl h1
    · by_cases hu : lget le t = .un
      · exact .inl hu
      right
      have hlt : t < le.n := by rw [← h.t.n]; exact (Array.getElem?_eq_some_iff.1 h1).1
      rw [if_pos (List.mem_range.2 hlt), if_neg hu]
      have : a.tmps.getD t undef = v := by rw [Array.getD_eq_getD_getElem?, h1]; rfl
      rw [this]; exact h2
  · rw [get_tab]
    by_cases hlt : t < le.n
    · rw [if_pos (List.mem_range.2 hlt)]
      by_cases hu : lget le t = .un
      · rw [if_pos hu]; exact .inl rfl
      · rw [if_neg hu]
        right
        have : t < a.tmps.size := by rw [h.t.n]; exact hlt
        rw [Array.getD_eq_getD_getElem?, Array.getElem?_eq_getElem this]; rfl
    · rw [if_neg (fun h => hlt (List.mem_range.1 h))]; exact .inl rfl

theorem lput_n (le : LE) (d : Option Nat) (v : LV) : (lput le d v).n = le.n ∧ (lput le d v).df = le.df ∧ (lput le d v).rd = le.rd ∧ (lput le d v).d = le.d := by
  cases d with
  | none => exact ⟨rfl, rfl, rfl, rfl⟩
  | some t => simp only [lput]; cases Nat.blt t le.n <;> exact ⟨rfl, rfl, rfl, rfl⟩

theorem AR.of {D : List Deferred} (hr : ER P σ le e) (hs : Sub D le.n e a) (hd : All2 (DR1 σ) le.df D) : AR P σ le a := by
  refine ⟨⟨hr.wf, hr.sz, hs.2.1, fun t => ?_⟩, hs.1 ▸ hd⟩
  rcases hr.val t with h1 | h1
  · exact .inl h1
  · rcases hs.2.2 t with h2 | h2
    · exact absurd h2 (kn_ne (VR.kn h1))
    · exact .inr ⟨_, h2, h1⟩

theorem ER.congr {e e' : Env} (h : ER P σ le e) (he : ∀ t, get e' t = get e t) : ER P σ le e' := ⟨h.wf, h.sz, fun t => by rw [he]; exact h.val t⟩

/-- What follows on an operation. -/
def NX (P : Program) (σ : Sg) (le' : LE) (H' : LHeap) (e' : Env) (w' : World) : Prop := ∃ σ', Ext σ σ' ∧ ER P σ' le' e' ∧ MR P σ' H' w'

theorem undef_VR : VR P σ (.tup []) undef := ⟨[], trivial, rfl⟩

theorem guardL_K2 {K : Env → World → Prop} {call : CallE} {all : List Oper} (hcs : CS P call) (hr : ER P σ le e) (hm : MR P σ H w)
    (h : guardL all o le (fun le => some (le, H)) (fun le => match opL P call le o H with
    | some (v, H') => bif isKn v then some (lput le o.dst v, H') else none
    | none => none) = some (le', H')) (hk : ∀ σ' e' w', (∀ t, o.dst ≠ some t → get e' t = get e t) → Ext σ σ' → ER P σ' le' e' → MR P σ' H' w' → K e' w') : denG P all o e w K := by
  have run : ∀ {e0 : Env}, (∀ t, get e0 t = get e t) → (match opL P call le o H with
    | some (v, H') => bif isKn v then some (lput le o.dst v, H') else none
    | none => none) = some (le', H') → denOp P e0 o w fun v w' => K (putE e0 o.dst v) w' := by
    intro e0 he h
    split at h
    · rename_i v H1 hv
      obtain ⟨hkv, h⟩ := bif_some (x := (le', H')) h
      simp only [Option.some.injEq, Prod.mk.injEq] at h
      obtain ⟨rfl, rfl⟩ := h
      exact opL_D hcs (hr.congr he) hm hv hkv fun σ' v' w' hx hvr hm' => hk σ' _ w' (fun t ht => by rw [get_putE, if_neg ht]; exact he t) hx (((hr.congr he).mono hx).put hvr) hm'
    · simp at h
  have skip : ∀ {e0 : Env}, (∀ t, get e0 t = get e t) → some (lput le o.dst (.tup []), H) = some (le', H') → K (putE e0 o.dst undef) w := by
    intro e0 he h
    simp only [Option.some.injEq, Prod.mk.injEq] at h
    obtain ⟨rfl, rfl⟩ := h
    exact hk σ _ w (fun t ht => by rw [get_putE, if_neg ht]; exact he t) (Ext.refl σ) ((hr.congr he).put undef_VR) hm
  unfold guardL at h
  unfold denG
  split at h
  · rename_i hg; rw [hg]; exact run (fun _ => rfl) h
  · rename_i j want hg
    rw [hg]
    dsimp only
    split at h
    · simp at h
    · rename_i t ht
      rw [ht]
      dsimp only
      split at h
      · rename_i l hl
        have hv := (hr.val t).resolve_left (by rw [hl]; simp)
        rw [hl] at hv
        obtain ⟨l', _, hv⟩ := hv
        rw [hv]
        exact skip (fun _ => rfl) h
      · rename_i b hl
        have hv := (hr.val t).resolve_left (by rw [hl]; simp)
        rw [hl] at hv
        have hv : get e t = .bool b := hv.1
        rw [hv]
        cases b with
        | true =>
          cases want with
          | true => exact run (fun s => get_known hv s) h
          | false => exact skip (fun s => get_known hv s) h
        | false =>
          cases want with
          | true => exact skip (fun s => get_known hv s) h
          | false => exact run (fun s => get_known hv s) h
      · simp at h


theorem guardL_K {K : Env → World → Prop} {call : CallE} {all : List Oper} (hcs : CS P call) (hr : ER P σ le e) (hm : MR P σ H w)
    (h : guardL all o le (fun le => some (le, H)) (fun le => match opL P call le o H with
    | some (v, H') => bif isKn v then some (lput le o.dst v, H') else none
    | none => none) = some (le', H')) (hk : ∀ σ' e' w', Ext σ σ' → ER P σ' le' e' → MR P σ' H' w' → K e' w') : denG P all o e w K :=
  guardL_K2 hcs hr hm h fun σ' e' w' _ => hk σ' e' w'

/-- What is written is the operation's own. -/
theorem guardL_put {call : CallE} {all : List Oper} (h : guardL all o le (fun le => some (le, H)) (fun le => match opL P call le o H with
    | some (v, H') => bif isKn v then some (lput le o.dst v, H') else none
    | none => none) = some (le', H')) : ∃ v, le' = lput le o.dst v := by
  have run : (match opL P call le o H with
    | some (v, H') => bif isKn v then some (lput le o.dst v, H') else none
    | none => none) = some (le', H') → ∃ v, le' = lput le o.dst v := by
    intro h
    split at h
    · obtain ⟨_, h⟩ := bif_some (x := (le', H')) h
      simp only [Option.some.injEq, Prod.mk.injEq] at h
      exact ⟨_, h.1.symm⟩
    · simp at h
  have skip : some (lput le o.dst (.tup []), H) = some (le', H') → ∃ v, le' = lput le o.dst v := by
    intro h
    simp only [Option.some.injEq, Prod.mk.injEq] at h
    exact ⟨_, h.1.symm⟩
  unfold guardL at h
  split at h
  · exact run h
  · split at h
    · simp at h
    · split at h
      · exact skip h
      · rename_i want _ _ _ _ _ b _
        cases hb : (b == want) with
        | true => rw [hb] at h; exact run h
        | false => rw [hb] at h; exact skip h
      · simp at h

theorem guardL_D {call : CallE} {all : List Oper} (hcs : CS P call) (hr : ER P σ le e) (hm : MR P σ H w)
    (h : guardL all o le (fun le => some (le, H)) (fun le => match opL P call le o H with
    | some (v, H') => bif isKn v then some (lput le o.dst v, H') else none
    | none => none) = some (le', H')) : denG P all o e w (NX P σ le' H') :=
  guardL_K hcs hr hm h fun σ' e' w' h1 h2 h3 => ⟨σ', h1, h2, h3⟩

theorem opL_n {call : CallE} {all : List Oper} (h : stepL P call all o le H = some (le', H')) : le'.n = le.n ∧ le'.rd = le.rd := by
  have run : ∀ {le0 : LE}, (match opL P call le0 o H with
    | some (v, H') => bif isKn v then some (lput le0 o.dst v, H') else none
    | none => none) = some (le', H') → le'.n = le0.n ∧ le'.rd = le0.rd := by
    intro le0 h
    split at h
    · obtain ⟨_, h⟩ := bif_some (x := (le', H')) h
      simp only [Option.some.injEq, Prod.mk.injEq] at h
      rw [← h.1]; exact ⟨(lput_n _ _ _).1, (lput_n _ _ _).2.2.1⟩
    · simp at h
  have skip : some (lput le o.dst (.tup []), H) = some (le', H') → le'.n = le.n ∧ le'.rd = le.rd := by
    intro h
    simp only [Option.some.injEq, Prod.mk.injEq] at h
    rw [← h.1]; exact ⟨(lput_n _ _ _).1, (lput_n _ _ _).2.2.1⟩
  unfold stepL at h
  split at h
  · unfold deferL at h
    split at h
    · split at h
      · obtain ⟨_, h⟩ := bif_some (x := (le', H')) h
        simp only [Option.some.injEq, Prod.mk.injEq] at h
        rw [← h.1]; exact ⟨(lput_n _ _ _).1, (lput_n _ _ _).2.2.1⟩
      · simp at h
    · simp at h
  · unfold guardL at h
    split at h
    · exact run h
    · split at h
      · simp at h
      · split at h
        · exact skip h
        · rename_i want _ _ _ _ _ b _
          cases hb : (b == want) with
          | true => rw [hb] at h; exact run h
          | false => rw [hb] at h; exact skip h
        · simp at h

theorem guardL_df {call : CallE} {all : List Oper} (h : guardL all o le (fun le => some (le, H)) (fun le => match opL P call le o H with
    | some (v, H') => bif isKn v then some (lput le o.dst v, H') else none
    | none => none) = some (le', H')) : le'.df = le.df := by
  have run : ∀ {le0 : LE}, (match opL P call le0 o H with
    | some (v, H') => bif isKn v then some (lput le0 o.dst v, H') else none
    | none => none) = some (le', H') → le'.df = le0.df := by
    intro le0 h
    split at h
    · obtain ⟨_, h⟩ := bif_some (x := (le', H')) h
      simp only [Option.some.injEq, Prod.mk.injEq] at h
      rw [← h.1]; exact (lput_n _ _ _).2.1
    · simp at h
  have skip : some (lput le o.dst (.tup []), H) = some (le', H') → le'.df = le.df := by
    intro h
    simp only [Option.some.injEq, Prod.mk.injEq] at h
    rw [← h.1]; exact (lput_n _ _ _).2.1
  unfold guardL at h
  split at h
  · exact run h
  · split at h
    · simp at h
    · split at h
      · exact skip h
      · rename_i want _ _ _ _ _ b _
        cases hb : (b == want) with
        | true => rw [hb] at h; exact run h
        | false => rw [hb] at h; exact skip h
      · simp at h

theorem All2_one0 (hr : ER P σ le e) {l : List Operand} (h : (l.map (lev le)).all one0 = true) : All2 (VR0 σ) (l.map (lev le)) (l.map (ev e)) := All2_lev hr h

theorem stepL_wp {call : CallE} {all : List Oper} {r : Option Nat} {next : Act → World → Prop} {Q : Exit → Act → World → Prop} (hcs : CS P call) (hA : AR P σ le a) (hrd : le.rd = r.isSome) (hm : MR P σ H w)
    (hd : dstLt le.n o = true) (h : stepL P call all o le H = some (le', H')) (hn : ∀ σ' a' w', Ext σ σ' → AR P σ' le' a' → MR P σ' H' w' → next a' w') :
    if Region.wanted o (yielded all.toArray a.tmps) then o.wpIn (FW r) 0 P a w next Q else next (a.put o.dst undef) w := by
  obtain ⟨e, hr, hs⟩ := hA.env
  have hle := opL_n h
  unfold stepL at h
  split at h
  · rename_i c ho hg
    simp only [Region.wanted, hg, if_true]
    unfold deferL at h
    split at h
    · rename_i f hf
      split at h
      · rename_i k fs cs hl
        obtain ⟨hb, h⟩ := bif_some (x := (le', H')) h
        simp only [Bool.and_eq_true, Bool.not_eq_true'] at hb
        obtain ⟨⟨hg, hnr⟩, hk, ho1, ho2, ho3⟩ := hb
        simp only [Option.some.injEq, Prod.mk.injEq] at h
        obtain ⟨rfl, rfl⟩ := h
        have hv := hr.lev f (by rw [hl]; rfl)
        rw [hl] at hv
        obtain ⟨fs', cs', hfs, hcs', hv⟩ := hv
        have ef : a.eval f = .func (.func k) ⟨fs'⟩ ⟨cs'⟩ := by rw [hs.eval (by rw [hv]; rfl), hv]
        have ea : ∀ x ∈ c.args.toList, a.eval x = ev e x := fun x hx => hs.eval (VR.kn (hr.lev x (allKnL_mem hk hx)))
        have ha0 := All2_one0 hr ho1
        have hargs : c.args.map a.eval = ⟨c.args.toList.map (ev e)⟩ := by
          apply Array.ext'
          simp only [Array.toList_map]
          exact List.map_congr_left ea
        have hrn : r = none := by
          cases r with
          | none => rfl
          | some x => rw [hnr] at hrd; simp at hrd
        subst hrn
        have hrun : (execOp a.eval o).run P w = .ok (.defer { target := .fn (.func k) ⟨cs'⟩, args := ⟨fs' ++ c.args.toList.map (ev e)⟩ }) w := by
          unfold execOp
          rw [ho]
          simp only [resolve, hf, ef, Deferred.ofValue, hargs, Sem.run_bind, Sem.run_pure, Result.andThen]
          simp
        refine ⟨fun _ _ => trivial, ?_⟩
        show o.uponIn (FW none) 0 P a next Q ((o.semAt none a.eval).run P w)
        rw [Oper.semAt_none, hrun]
        show next _ _
        refine hn σ _ w (Ext.refl σ) ?_ hm
        have hs2 : Sub (({ target := .fn (.func k) ⟨cs'⟩, args := ⟨fs' ++ c.args.toList.map (ev e)⟩ } : Deferred) :: a.defers) le.n e { a with defers := ({ target := .fn (.func k) ⟨cs'⟩, args := ⟨fs' ++ c.args.toList.map (ev e)⟩ } : Deferred) :: a.defers } := ⟨rfl, hs.2.1, hs.2.2⟩
        have hr2 : ER P σ { le with df := .call k (fs ++ c.args.toList.map (lev le) ++ cs) :: le.df } e := ⟨hr.wf, hr.sz, hr.val⟩
        have hs3 := hs2.put o.dst undef (dstLt_spec hd)
        have hr3 := hr2.put (d := o.dst) (undef_VR (P := P))
        refine AR.of (D := ({ target := .fn (.func k) ⟨cs'⟩, args := ⟨fs' ++ c.args.toList.map (ev e)⟩ } : Deferred) :: a.defers) hr3 (by rw [(lput_n _ _ _).1]; exact hs3) ?_
        rw [(lput_n _ _ _).2.1]
        exact ⟨⟨_, _, rfl, All2.append (All2.append hfs ha0) hcs'⟩, hA.d⟩
      · simp at h
    · simp at h
  · have hdf := guardL_df h
    have hden := guardL_D hcs hr hm h
    refine denG_wp hs hd hden fun e' v w' hs' hk => ?_
    obtain ⟨σ', hx, hr', hm'⟩ := hk
    refine hn σ' _ w' hx ?_ hm'
    refine AR.of (D := a.defers) hr' (by rw [hle.1]; exact hs') ?_
    rw [hdf]; exact hA.d.imp fun _ _ => DR1.mono hx

theorem opsL_wp {call : CallE} {all : List Oper} {r : Option Nat} {Q : Exit → Act → World → Prop} (hcs : CS P call) : ∀ {l : List Oper} {σ : Sg} {le : LE} {a : Act} {H : LHeap} {w : World}, AR P σ le a → le.rd = r.isSome → MR P σ H w →
    l.all (dstLt le.n) = true → opsL P call all l le H = some (le', H') → (∀ σ' a' w', Ext σ σ' → AR P σ' le' a' → MR P σ' H' w' → le'.n = le.n → le'.rd = le.rd → Q .normal a' w') → wpListIn (FW r) 0 P all.toArray Q l a w
  | [], σ, le, a, H, w, hA, hrd, hm, hd, h, hn => by
    simp only [opsL, Option.some.injEq, Prod.mk.injEq] at h
    obtain ⟨rfl, rfl⟩ := h
    exact hn σ a w (Ext.refl σ) hA hm rfl rfl
  | o :: l, σ, le, a, H, w, hA, hrd, hm, hd, h, hn => by
    simp only [opsL] at h
    split at h
    · rename_i le1 H1 h1
      simp only [List.all_cons, Bool.and_eq_true] at hd
      have hle := opL_n h1
      have := stepL_wp (r := r) (Q := Q) (next := wpListIn (FW r) 0 P all.toArray Q l) hcs hA hrd hm hd.1 h1 fun σ' a' w' hx hA' hm' =>
        opsL_wp hcs hA' (hle.2.trans hrd) hm' (by rw [hle.1]; exact hd.2) h fun σ'' a'' w'' hx' hA'' hm'' h3 h4 => hn σ'' a'' w'' (hx.trans hx') hA'' hm'' (h3.trans hle.1) (h4.trans hle.2)
      unfold wpListIn
      split
      · rename_i hw; rw [if_pos hw] at this; exact this
      · rename_i hw; rw [if_neg hw] at this; exact ⟨fun _ _ => trivial, this⟩
    · simp at h
end
end Go.Den
