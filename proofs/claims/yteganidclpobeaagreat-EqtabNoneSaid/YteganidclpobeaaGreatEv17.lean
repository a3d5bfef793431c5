/- Ev17: code. Own work; a part of the proof of a claim. Conditions: none beyond those that stand in each theorem. -/
import Derived.Test.YteganidclpobeaaGreatEv16c
import Derived.RangeFuncRecord
import Derived.LoopNIn
/- Ev17: code. -/
set_option linter.unusedSimpArgs false
set_option linter.unusedVariables false
namespace Go.Den
open Go

/-! scopes -/
def scopeW (F : Fence) (n : Nat) (P : Program) (c : Code) (Q : Exit → Act → World → Prop) : Nat → Exit → Act → World → Prop
  | 0, .goto _, _, _ => False
  | m + 1, .goto l, a, w => ∃ rest, findLabel c l = some rest ∧ rest.wpIn F n P (scopeW F n P c Q m) a w
  | _, e, a, w => Q e a w

theorem wpIn_scope {F : Fence} {n : Nat} {P : Program} {c : Code} {Q : Exit → Act → World → Prop} {a : Act} {w : World} (m : Nat) (h : c.wpIn F n P (scopeW F n P c Q m) a w) : (Code.scope c).wpIn F n P Q a w := by
  intro b k cs hro hb hr
  have key : ∀ (m : Nat) (cur : Code) (a : Act) (w : World), cur.wpIn F n P (scopeW F n P c Q m) a w →
      ∃ e a' w', Q e a' w' ∧ ArrivesIn (Machine.fenced P F) P (lone (b.atR a (.code cur :: .inScope c :: k)) cs w) b k cs e a' w' := by
    intro m
    induction m with
    | zero =>
      intro cur a w h
      obtain ⟨e, a₁, w₁, hq, harr⟩ := h b (.inScope c :: k) cs hro hb hr
      cases e with
      | normal => exact ⟨.normal, a₁, w₁, hq, StepsIn.trans harr (.one (fenced_calm hb hr rfl) (step_lone_go (by simp [stepG, stepG.exec, Frame.atR])))⟩
      | exit id =>
        have hx : exitTo id (.inScope c :: k) = exitTo id k := by simp [exitTo]
        exact ⟨.exit id, a₁, w₁, hq, fun k' hk => harr.1 k' (by rw [hx]; exact hk), fun hr' hk => let ⟨k₁, h1, h2⟩ := harr.2 hr' (by rw [hx]; exact hk); ⟨k₁, h1, h2⟩⟩
      | goto l => exact hq.elim
      | ret => exact ⟨_, a₁, w₁, hq, harr⟩
      | panic ch => exact ⟨_, a₁, w₁, hq, harr⟩
      | outgrown => exact ⟨_, a₁, w₁, hq, harr⟩
    | succ m ih =>
      intro cur a w h
      obtain ⟨e, a₁, w₁, hq, harr⟩ := h b (.inScope c :: k) cs hro hb hr
      cases e with
      | normal => exact ⟨.normal, a₁, w₁, hq, StepsIn.trans harr (.one (fenced_calm hb hr rfl) (step_lone_go (by simp [stepG, stepG.exec, Frame.atR])))⟩
      | exit id =>
        have hx : exitTo id (.inScope c :: k) = exitTo id k := by simp [exitTo]
        exact ⟨.exit id, a₁, w₁, hq, fun k' hk => harr.1 k' (by rw [hx]; exact hk), fun hr' hk => let ⟨k₁, h1, h2⟩ := harr.2 hr' (by rw [hx]; exact hk); ⟨k₁, h1, h2⟩⟩
      | goto l =>
        obtain ⟨rest, hf, hrest⟩ := hq
        have hg : gotoIn l (.inScope c :: k) = some (.code rest :: .inScope c :: k) := by simp [gotoIn, hf]
        obtain ⟨e₂, a₂, w₂, hq₂, harr₂⟩ := ih rest a₁ w₁ hrest
        exact ⟨e₂, a₂, w₂, hq₂, .of_steps (harr.1 _ hg) harr₂⟩
      | ret => exact ⟨_, a₁, w₁, hq, harr⟩
      | panic ch => exact ⟨_, a₁, w₁, hq, harr⟩
      | outgrown => exact ⟨_, a₁, w₁, hq, harr⟩
  obtain ⟨e, a', w', hq, harr⟩ := key m c a w h
  exact ⟨e, a', w', hq, .of_steps (.one (fenced_calm hb hr rfl) (step_lone_go (by simp [stepG, stepG.exec, Frame.atR]))) harr⟩

def outE : Out → Exit
  | .nx => .normal
  | .ex i => .exit i
  | .gt l => .goto l
  | .rt => .ret

/-- What a run of code tells of the machine. -/
def EvS (P : Program) (ev : Ev) : Prop := ∀ {c : Code} {σ : Sg} {le : LE} {a : Act} {H : LHeap} {w : World} {o : Out} {le' : LE} {H' : LHeap} {r : Option Nat} {Q : Exit → Act → World → Prop},
  codeOk le.n c = true → AR P σ le a → le.rd = r.isSome → MR P σ H w → ev c le H = some (o, le', H') →
  (∀ σ' a' w', Ext σ σ' → AR P σ' le' a' → MR P σ' H' w' → le'.n = le.n → le'.rd = le.rd → Q (outE o) a' w') → c.wpIn (FW r) 0 P Q a w

section
variable {P : Program} {σ σ' : Sg} {le le' : LE} {e : Env} {a : Act} {o : Oper} {H H' : LHeap} {w w' : World}

theorem TR.env {ts : Array Value} (h : TR P σ le ts) (D : List Deferred) : AR P σ { le with df := [] } { tmps := ts, defers := [] } := ⟨⟨h.wf, h.sz, h.n, h.val⟩, trivial⟩

theorem AR.bool (hA : AR P σ le a) {c : Operand} {b : Bool} (h : lev le c = .sc (.bool b)) : a.eval c = .bool b := by
  obtain ⟨e, hr, hs⟩ := hA.env
  have := (hr.sc h).1
  rw [hs.eval (by rw [this]; rfl), this]

theorem outOf_wp {F : Fence} {n : Nat} {jump : Option Code} {out : Out} {Q : Exit → Act → World → Prop} (h : outOf jump = some out) (hq : Q (outE out) a w) :
    (match (generalizing := false) jump with | none => Q .normal a w | some c => c.wpIn F n P Q a w) := by
  cases jump with
  | none => simp only [outOf, Option.some.injEq] at h; subst h; exact hq
  | some c =>
    cases c <;> simp only [outOf, Option.some.injEq, reduceCtorEq] at h
    · subst h; exact wpIn_exit hq
    · subst h; exact wpIn_goto hq
    · subst h; exact wpIn_ret hq

theorem putObj_eq (w : World) (r : Nat) (o : Obj) : w.putObj r o = World.setObj' w r o := rfl

def rfW (w : World) (fn : FuncId) (tmps : Array Value) (ps : Array Nat) (as bd : Code) : World :=
  (w.alloc (.deferred (some []))).alloc (.loop { state := .ready, pending := none, fn := fn, tmps := tmps, params := ps, assign := as, body := bd, defers := w.heap.size })

/-- A range over a function. -/
theorem rfL_wp {call : CallE} {f : Operand} {ps : Array Nat} {as bd : Code} {out : Out} {r : Option Nat} {Q : Exit → Act → World → Prop} (hcs : CS P call) (hA : AR P σ le a) (hrd : le.rd = r.isSome) (hm : MR P σ H w)
    (h : rfL P call f ps.toList as bd le H = some (out, le', H')) (hn : ∀ σ' a' w', Ext σ σ' → AR P σ' le' a' → MR P σ' H' w' → le'.n = le.n → le'.rd = le.rd → Q (outE out) a' w') :
    (Code.rangeFunc f ps as bd).wpIn (FW r) 0 P Q a w := by
  unfold rfL at h
  split at h
  · simp at h
  · rename_i hrd0
    have hrn : r = none := by
      cases r with
      | none => rfl
      | some x => rw [hrd0] at hrd; simp at hrd
    subst hrn
    obtain ⟨e, hr, hs⟩ := hA.env
    split at h
    · rename_i k fs cs hl
      obtain ⟨hb, h⟩ := bif_some (x := (out, le', H')) h
      simp only [Bool.and_eq_true] at hb
      obtain ⟨hg, hlt⟩ := hb
      have hlt : H.next + 1 < TM := by simpa [Nat.blt_eq] using hlt
      have hv := hr.lev f (by rw [hl]; rfl)
      rw [hl] at hv
      obtain ⟨fs', cs', hfs, hcs', hv⟩ := hv
      have ef : a.eval f = .func (.func k) ⟨fs'⟩ ⟨cs'⟩ := by rw [hs.eval (by rw [hv]; rfl), hv]
      split at h
      · rename_i u H2 hc
        split at h
        · rename_i st pd le0 ps0 as0 bd0 df0 hi
          have h : (match outOf pd with
            | some o => some (o, { le with df := .mark H.next :: le.df }, { H2 with its := tset TD H2.its (H.next + 1) (.lp .exhausted pd le0 ps0 as0 bd0 df0) })
            | none => none) = some (out, le', H') ∧ st ≠ .busy := by
            cases st <;> first | exact ⟨h, by simp⟩ | (simp at h)
          obtain ⟨h, hst⟩ := h
          split at h
          · rename_i o1 ho1
            simp only [Option.some.injEq, Prod.mk.injEq] at h
            obtain ⟨rfl, hl', hH'⟩ := h
            -- the two blocks
            obtain ⟨hx1, hm1⟩ := hm.newObj (by omega : H.next < TM) (.dq true) 0 (ob := .deferred (some [])) rfl
            have hlp : ∀ fn, OR P ((σ.put H.next (w.heap.size, 0)).put (H.next + 1) (w.heap.size + 1, 0)) (.lp .ready none le ps.toList as bd H.next)
                (.loop { state := .ready, pending := none, fn := fn, tmps := a.tmps, params := ps, assign := as, body := bd, defers := w.heap.size }) := fun fn =>
              ⟨_, rfl, rfl, rfl, rfl, rfl, rfl, (hA.t.mono hx1).mono (by
                have := hm1.ext (b := H.next + 1) (r := (w.heap.size + 1, 0)) (Nat.le_refl _)
                exact this)⟩
            have hx2 := hm1.ext (b := H.next + 1) (r := (w.heap.size + 1, 0)) (Nat.le_refl _)
            have hm2 : ∀ fn, MR P ((σ.put H.next (w.heap.size, 0)).put (H.next + 1) (w.heap.size + 1, 0)) { H with next := H.next + 2, its := tset TD (tset TD H.its H.next (.dq true)) (H.next + 1) (.lp .ready none le ps.toList as bd H.next) }
                (rfW w fn a.tmps ps as bd) := fun fn => by
              have := (hm1.newObj (x := .lp .ready none le ps.toList as bd H.next) (by simpa using hlt) 0 (ob := .loop { state := .ready, pending := none, fn := fn, tmps := a.tmps, params := ps, assign := as, body := bd, defers := w.heap.size }) (by
                have := hlp fn
                rw [alloc_size]
                exact this)).2
              rw [alloc_size] at this
              exact this
            refine wpIn_rangeFunc fun fn _ => ⟨w.heap.size + 1, [{ target := .collected w.heap.size, args := #[] }], _, { target := .fn (.func k) ⟨cs'⟩, args := ⟨fs' ++ [.func (.yield (w.heap.size + 1)) ⟨[]⟩ ⟨[]⟩]⟩ }, rfW w fn a.tmps ps as bd, k, ⟨fs' ++ [.func (.yield (w.heap.size + 1)) ⟨[]⟩ ⟨[]⟩] ++ cs'⟩, rfW w fn a.tmps ps as bd, run_enterLoop_outer fn a.tmps ps as bd, ?_, fun _ _ => trivial, ?_, FW_depth none, ?_⟩
            · simp only [resolve, rangeCall, ef, Deferred.ofValue, Sem.run_pure]
              simp [Act.eval]
              rfl
            · have := run_callFunc (P := P) (w := rfW w fn a.tmps ps as bd) (args := ⟨fs' ++ [.func (.yield (w.heap.size + 1)) ⟨[]⟩ ⟨[]⟩] ++ cs'⟩) hg
              simp only [invoke]
              have e1 : (⟨fs' ++ [.func (.yield (w.heap.size + 1)) ⟨[]⟩ ⟨[]⟩]⟩ : Array Value) ++ (⟨cs'⟩ : Array Value) = ⟨fs' ++ [.func (.yield (w.heap.size + 1)) ⟨[]⟩ ⟨[]⟩] ++ cs'⟩ := by simp
              rw [e1]; exact this
            · have hyl : VR P ((σ.put H.next (w.heap.size, 0)).put (H.next + 1) (w.heap.size + 1, 0)) (.yl (H.next + 1)) (.func (.yield (w.heap.size + 1)) ⟨[]⟩ ⟨[]⟩) := ⟨_, Sg.put_same _ _ _, rfl⟩
              have hcall := hcs.fn hc hg (hm2 fn) (All2.append (All2.append (hfs.imp fun _ _ h => VR.of0 ((h.mono hx1).mono hx2)) (show All2 _ [_] [_] from ⟨hyl, trivial⟩)) (hcs'.imp fun _ _ h => VR.of0 ((h.mono hx1).mono hx2)))
              have hci : CallsIn (FW none) 0 P k _ _ _ := (callsIn_wide (n := 0)).2 hcall.2
              refine CallsIn.mono hci fun ed w3 hk => ?_
              cases ed with
              | panicked c => exact hk.elim
              | outgrown => exact hk.elim
              | returned v3 =>
                obtain ⟨σ3, hx3, _, hm3⟩ := hk
                have hl3 : σ3 (H.next + 1) = some (w.heap.size + 1, 0) := hx3 _ _ (Sg.put_same _ _ _)
                obtain ⟨ob, hob, hw3⟩ := hm3.its _ _ _ hl3 hi
                obtain ⟨lr, rfl, h1, h2, h3, h4, h5, h6⟩ := hob
                have hend := run_endLoop (P := P) (w := w3) (l := w.heap.size + 1) hw3 (by rw [h1]; exact hst)
                refine ⟨lr.pending, _, hend, ?_⟩
                rw [h2]
                refine outOf_wp ho1 ?_
                have hm4 := hm3.setObj (y := .lp .exhausted pd le0 ps0 as0 bd0 df0) (ob := .loop { lr with state := .exhausted }) hl3 hi ⟨_, rfl, rfl, h2, h3, h4, h5, h6⟩
                rw [hH'] at hm4
                rw [h2] at hm4
                have hxa : Ext σ σ3 := (hx1.trans hx2).trans hx3
                refine hn σ3 _ _ hxa ?_ hm4 (by rw [← hl']) (by rw [← hl'])
                rw [← hl']
                refine ⟨⟨hA.t.wf, hA.t.sz, hA.t.n, (hA.t.mono hxa).val⟩, ⟨⟨(w.heap.size, 0), ?_, rfl⟩, hA.d.imp fun _ _ => DR1.mono hxa⟩⟩
                exact hx3 _ _ (hx2 _ _ (Sg.put_same _ _ _))
          · simp at h
        · simp at h
      · simp at h
    · simp at h

theorem loopL_wp {c : Code} {f : LE → LHeap → Res} {r : Option Nat} {Q : Exit → Act → World → Prop}
    (hf : ∀ {σ : Sg} {le : LE} {a : Act} {H : LHeap} {w : World} {o : Out} {le' : LE} {H' : LHeap} {Q : Exit → Act → World → Prop}, codeOk le.n c = true → AR P σ le a → le.rd = r.isSome → MR P σ H w → f le H = some (o, le', H') →
      (∀ σ' a' w', Ext σ σ' → AR P σ' le' a' → MR P σ' H' w' → le'.n = le.n → le'.rd = le.rd → Q (outE o) a' w') → c.wpIn (FW r) 0 P Q a w) :
    ∀ (n : Nat) {σ : Sg} {le : LE} {a : Act} {H : LHeap} {w : World} {o : Out} {le' : LE} {H' : LHeap}, codeOk le.n c = true → AR P σ le a → le.rd = r.isSome → MR P σ H w → loopL f n le H = some (o, le', H') →
      (∀ σ' a' w', Ext σ σ' → AR P σ' le' a' → MR P σ' H' w' → le'.n = le.n → le'.rd = le.rd → Q (outE o) a' w') → Code.roundsIn (FW r) 0 P c Q n a w
  | 0, σ, le, a, H, w, o, le', H', hc, hA, hrd, hm, h, hn => by simp [loopL] at h
  | n + 1, σ, le, a, H, w, o, le', H', hc, hA, hrd, hm, h, hn => by
    simp only [loopL] at h
    split at h
    · rename_i le1 H1 h1
      exact hf hc hA hrd hm h1 fun σ' a' w' hx hA' hm' h2 h3 =>
        loopL_wp hf n (by rw [h2]; exact hc) hA' (h3.trans hrd) hm' h fun σ'' a'' w'' hx' hA'' hm'' h4 h5 => hn σ'' a'' w'' (hx.trans hx') hA'' hm'' (h4.trans h2) (h5.trans h3)
    · rename_i res hne
      refine hf hc hA hrd hm h fun σ' a' w' hx hA' hm' h2 h3 => ?_
      have := hn σ' a' w' hx hA' hm' h2 h3
      cases o with
      | nx => exact absurd h (by intro h; exact hne _ _ h)
      | _ => exact this
end
end Go.Den
