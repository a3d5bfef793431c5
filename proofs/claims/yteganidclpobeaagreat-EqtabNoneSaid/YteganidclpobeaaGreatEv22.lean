/- Ev22: calls, made ready ahead. Own work; a part of the proof of a claim. Conditions: none beyond those that stand in each theorem. -/
import Derived.Test.YteganidclpobeaaGreatEv21
/- Ev22: calls, made ready ahead. -/
set_option linter.unusedSimpArgs false
set_option linter.unusedVariables false
namespace Go.Den
open Go

abbrev RunF := Plans → Nat → Nat → Code → LE → LHeap → Res

noncomputable def runC (P : Program) (fuel : Nat) (call : CallE) (low : Plans → Ev) : RunF := fun p d n c le H => (compC P p fuel d n c).run call (low p) le H nxK

noncomputable def callG (P : Program) (pls : Nat → Plans) (rf : RunF) (leave : CallE) (k : FuncId) (args : List LV) (H : LHeap) (lone : Bool) : Option (LV × LHeap) :=
  match P.funcs[k]? with
  | none => none
  | some fn => match fn.body with
    | none => none
    | some c => bif Nat.ble args.length fn.ntmps && codeOk fn.ntmps c then
        (match rf (pls k) (dep fn.ntmps) fn.ntmps c (lenv 0 args ⟨dep fn.ntmps, fn.ntmps, .nil, [], false, k⟩) H with
        | some (o, le, H') => (match o with
          | .nx => (match (bif lone then (match le.df with | [] => some H' | _ => none) else leaveL leave le.df H') with
            | some H2 => (match retL P fn.results.toList [] le H2 with | some v => some (v, H2) | none => none)
            | none => none)
          | .rt => (match (bif lone then (match le.df with | [] => some H' | _ => none) else leaveL leave le.df H') with
            | some H2 => (match retL P fn.results.toList [] le H2 with | some v => some (v, H2) | none => none)
            | none => none)
          | _ => none)
        | none => none) else none

noncomputable def yieldG (P : Program) (pls : Nat → Plans) (rf : RunF) (b : Nat) (args : List LV) (H : LHeap) : Option (LV × LHeap) :=
  match tget TD H.its b with
  | some (.lp _ _ le ps as bd _) => forceN le.d fun d => forceN le.n fun n => forceN le.fid fun f =>
    bif Nat.beq args.length ps.length && (args.all isKn && ps.all (fun t => Nat.blt t n) && (codeOk n as && codeOk n bd)) then
      (match rf (pls f) d n as { setPs ps args le with df := [], rd := true } H with
      | some (.nx, le1, H1) => (match tget TD H1.its b with
        | some (.lp .ready pd le0 ps0 as0 bd0 df0) =>
          (match rf (pls f) d n bd le1 { H1 with its := tset TD H1.its b (.lp .busy pd le0 ps0 as0 bd0 df0) } with
          | some (o, _, H2) => (match tget TD H2.its b with
            | some (.lp _ _ le3 ps3 as3 bd3 df3) =>
              some (.sc (.bool (jumpOf o).isNone), { H2 with its := tset TD H2.its b (.lp (bif (jumpOf o).isNone then .ready else .done) (jumpOf o) le3 ps3 as3 bd3 df3) })
            | _ => none)
          | none => none)
        | _ => none)
      | _ => none) else none
  | _ => none

/-- Depth by depth: calls; and what runs on behind a goto. -/
noncomputable def bothF (P : Program) (pls : Nat → Plans) (fuel : Nat) : Nat → CallE × (Plans → Ev)
  | 0 => (fun _ _ _ _ => none, fun _ _ _ _ => none)
  | m + 1 =>
    (fun ck k args H => match ck with
      | .fn => callG P pls (runC P fuel (bothF P pls fuel m).1 (bothF P pls fuel m).2) (bothF P pls fuel m).1 k args H false
      | .yl => yieldG P pls (runC P fuel (bothF P pls fuel m).1 (bothF P pls fuel m).2) k args H
      | .df => bif isGo P k then callG P pls (runC P fuel (bothF P pls fuel m).1 (bothF P pls fuel m).2) (fun _ _ _ _ => none) k args H true else none,
     fun p c le H => forceN le.d fun d => forceN le.n fun n => runC P fuel (bothF P pls fuel m).1 (bothF P pls fuel m).2 p d n c le H)

noncomputable def runF (P : Program) (pls : Nat → Plans) (fuel depth : Nat) (k : FuncId) (args : List LV) (H : LHeap) : Option (LV × LHeap) := (bothF P pls fuel depth).1 .fn k args H

section
variable {P : Program} {σ σ' : Sg} {H H' : LHeap} {w w' : World}

theorem runC_ok {fuel : Nat} {call : CallE} {low : Plans → Ev} {p : Plans} {c : Code} {le : LE} {r : Out × LE × LHeap} (hl : EvD (low p)) (h : runC P fuel call low p le.d le.n c le H = some r) :
    codeL P p call (low p) fuel c le H = some r ∧ r.2.1.d = le.d ∧ r.2.1.n = le.n := by
  obtain ⟨o, le', H', h1, h2, h3, h4⟩ := compC_ok c hl rfl rfl h
  rcases h4 with ⟨rfl, h4⟩ | ⟨_, rfl⟩
  · simp only [nxK, Option.some.injEq] at h4
    subst h4
    exact ⟨h1, h2, h3⟩
  · exact ⟨h1, h2, h3⟩

theorem lenv_dn : ∀ (vs : List LV) (i : Nat) (le : LE), (lenv i vs le).d = le.d ∧ (lenv i vs le).n = le.n
  | [], i, le => ⟨rfl, rfl⟩
  | v :: vs, i, le => by
    have := lenv_dn vs (i + 1) (lput le (some i) v)
    have h := lput_n le (some i) v
    exact ⟨this.1.trans h.2.2.2, this.2.trans h.1⟩

theorem callG_ok {pls : Nat → Plans} {fuel : Nat} {call leave : CallE} {low : Plans → Ev} {k : FuncId} {args : List LV} {lone : Bool} {x : LV × LHeap} (hl : ∀ p, EvD (low p))
    (h : callG P pls (runC P fuel call low) leave k args H lone = some x) : callL P pls (fun p => codeL P p call (low p) fuel) leave k args H lone = some x := by
  unfold callG at h
  unfold callL
  split at h
  · simp at h
  · rename_i fn hf
    rw [hf]
    dsimp only
    split at h
    · simp at h
    · rename_i c hb
      rw [hb]
      dsimp only
      obtain ⟨hc, h⟩ := bif_some (x := x) h
      rw [hc, cond_true]
      have hdn := lenv_dn args 0 ⟨dep fn.ntmps, fn.ntmps, .nil, [], false, k⟩
      split at h
      · rename_i o le H1 h1
        have h2 := runC_ok (le := lenv 0 args ⟨dep fn.ntmps, fn.ntmps, .nil, [], false, k⟩) (hl (pls k)) (by rw [hdn.1, hdn.2]; exact h1)
        rw [h2.1]
        exact h
      · simp at h

theorem setPs_dn : ∀ (ps : List Nat) (vs : List LV) (le : LE), (setPs ps vs le).d = le.d ∧ (setPs ps vs le).n = le.n
  | [], vs, le => by cases vs <;> exact ⟨rfl, rfl⟩
  | p :: ps, [], le => ⟨rfl, rfl⟩
  | p :: ps, v :: vs, le => by
    have := setPs_dn ps vs (lput le (some p) v)
    have h := lput_n le (some p) v
    exact ⟨this.1.trans h.2.2.2, this.2.trans h.1⟩

theorem yieldG_ok {pls : Nat → Plans} {fuel : Nat} {call : CallE} {low : Plans → Ev} {b : Nat} {args : List LV} {x : LV × LHeap} (hl : ∀ p, EvD (low p))
    (h : yieldG P pls (runC P fuel call low) b args H = some x) : yieldL P pls (fun p => codeL P p call (low p) fuel) b args H = some x := by
  unfold yieldG at h
  unfold yieldL
  split at h
  · rename_i st0 pd0 le ps as bd df0 hi
    rw [hi]
    simp only [forceN_eq] at h
    dsimp only
    obtain ⟨hc, h⟩ := bif_some (x := x) h
    rw [hc, cond_true]
    have hdn := setPs_dn ps args le
    split at h
    · rename_i le1 H1 h1
      have h2 := runC_ok (le := { setPs ps args le with df := [], rd := true }) (hl (pls le.fid)) (by
        show runC P fuel call low (pls le.fid) (setPs ps args le).d (setPs ps args le).n as _ H = _
        rw [hdn.1, hdn.2]; exact h1)
      rw [h2.1]
      dsimp only
      split at h
      · rename_i pd le0 ps0 as0 bd0 df1 hi1
        rw [hi1]
        dsimp only
        split at h
        · rename_i o le2 H2 h3
          have e1 : le1.d = le.d := h2.2.1.trans hdn.1
          have e2 : le1.n = le.n := h2.2.2.trans hdn.2
          have h4 := runC_ok (le := le1) (hl (pls le.fid)) (by rw [e1, e2]; exact h3)
          rw [h4.1]
          exact h
        · simp at h
      · simp at h
    · simp at h
  · simp at h

theorem bothF_S {pls : Nat → Plans} {fuel : Nat} : ∀ (m : Nat), CS P (bothF P pls fuel m).1 ∧ (∀ p, EvS P ((bothF P pls fuel m).2 p)) ∧ (∀ p, EvD ((bothF P pls fuel m).2 p)) ∧ LS P (bothF P pls fuel m).1
  | 0 => by
    refine ⟨⟨?_, ?_⟩, ?_, ?_, ?_⟩
    · intro k args H v H' σ w args' h; simp [bothF] at h
    · intro k args H v H' σ w args' r h; simp [bothF] at h
    · intro p; exact fun _ _ _ _ h _ => by simp [bothF] at h
    · intro p; exact fun h => by simp [bothF] at h
    · intro k args H v H' σ w as' cs' h; simp [bothF] at h
  | m + 1 => by
    obtain ⟨hcs, hev, hed, hls⟩ := bothF_S (pls := pls) (fuel := fuel) m
    have hcode : ∀ p, EvS P (codeL P p (bothF P pls fuel m).1 ((bothF P pls fuel m).2 p) fuel) := fun p => codeL_S hcs (hev p)
    refine ⟨⟨?_, ?_⟩, ?_, ?_, ?_⟩
    · intro k args H v H' σ w args' h hg hm ha
      exact callL_S hcode hls (callG_ok hed h) hg hm ha
    · intro b args H v H' σ w args' r h hb hm ha
      exact yieldL_S hcode (yieldG_ok hed h) hb hm ha
    · intro p
      exact fun hc hA hrd hm h hn => hcode p hc hA hrd hm (runC_ok (hed p) h).1 hn
    · intro p
      exact fun h => (runC_ok (hed p) h).2
    · intro k args H v H' σ w as' cs' h hm ha
      obtain ⟨hg, h⟩ := bif_some (x := (v, H')) h
      exact ⟨callL_D hcode (callG_ok hed h) hm (ha.imp fun _ _ => VR.of0), hg⟩

/-- A run of the kernel's is a run of the machine's. -/
theorem runF_S {pls : Nat → Plans} {fuel depth : Nat} {k : FuncId} {args : List LV} {v : LV} {args' : List Value} (h : runF P pls fuel depth k args H = some (v, H')) (hg : isGo P k = true)
    (hm : MR P σ H w) (ha : All2 (VR P σ) args args') : CALL P k ⟨args'⟩ w (RS P σ v H') := (bothF_S depth).1.fn h hg hm ha
end
end Go.Den
