/- Ev19: calls. Own work; a part of the proof of a claim. Conditions: none beyond those that stand in each theorem. -/
import Derived.Test.YteganidclpobeaaGreatEv18
/- Ev19: calls. -/
set_option linter.unusedSimpArgs false
set_option linter.unusedVariables false
namespace Go.Den
open Go
section
variable {P : Program} {σ σ' : Sg} {le le' : LE} {e : Env} {a : Act} {o : Oper} {H H' : LHeap} {w w' : World}

theorem lenv_rel : ∀ {vs : List LV} {vs' : List Value} {i : Nat} {le : LE} {ts : Array Value}, TR P σ le ts → All2 (VR P σ) vs vs' → i + vs.length ≤ le.n → (∀ j v, vs'[j]? = some v → ts[i + j]? = some v) →
    TR P σ (lenv i vs le) ts ∧ (lenv i vs le).n = le.n ∧ (lenv i vs le).df = le.df ∧ (lenv i vs le).rd = le.rd
  | [], [], i, le, ts, h, _, _, _ => ⟨h, rfl, rfl, rfl⟩
  | v :: vs, v' :: vs', i, le, ts, h, ha, hl, hg => by
    simp only [List.length_cons] at hl
    have hn := lput_n le (some i) v
    have h1 : TR P σ (lput le (some i) v) ts := by
      have hlt : i < le.n := by omega
      have := h.put ha.1 hlt
      have hs : ts.setIfInBounds i v' = ts := by
        apply Array.ext'
        have := hg 0 v' rfl
        rw [Nat.add_zero] at this
        obtain ⟨hlt2, he⟩ := Array.getElem?_eq_some_iff.1 this
        rw [Array.setIfInBounds_def, dif_pos hlt2]
        rw [← he]
        simp
      rw [hs] at this
      exact this
    have := lenv_rel (i := i + 1) h1 ha.2 (by rw [hn.1]; omega) (fun j u hj => by rw [show i + 1 + j = i + (j + 1) by omega]; exact hg (j + 1) u (by simpa using hj))
    exact ⟨this.1, this.2.1.trans hn.1, this.2.2.1.trans hn.2.1, this.2.2.2.trans hn.2.2.1⟩
  | [], _ :: _, _, _, _, _, ha, _, _ => ha.elim
  | _ :: _, [], _, _, _, _, ha, _, _ => ha.elim

theorem tget_nil' {α : Type} (d n : Nat) : tget d (.nil : Tr α) n = none := tget_nil d n

theorem start_AR {n fid : Nat} {args : List LV} {args' : List Value} (ha : All2 (VR P σ) args args') (hl : args.length ≤ n) :
    AR P σ (lenv 0 args ⟨dep n, n, .nil, [], false, fid⟩) { tmps := (⟨args'⟩ : Array Value) ++ Array.replicate (n - (⟨args'⟩ : Array Value).size) undef, defers := [] } ∧
    (lenv 0 args ⟨dep n, n, .nil, [], false, fid⟩).n = n ∧ (lenv 0 args ⟨dep n, n, .nil, [], false, fid⟩).rd = false := by
  have hlen := ha.length
  have h0 : TR P σ ⟨dep n, n, .nil, [], false, fid⟩ ((⟨args'⟩ : Array Value) ++ Array.replicate (n - (⟨args'⟩ : Array Value).size) undef) := by
    refine ⟨wf_nil _, Nat.le_of_lt (lt_dep n), ?_, fun t => .inl ?_⟩
    · simp; omega
    · unfold lget
      simp only [tget_nil]
      cases Nat.blt t n <;> rfl
  obtain ⟨h1, h2, h3, h4⟩ := lenv_rel (i := 0) h0 ha (by simpa using hl) (fun j v hj => by
    have hlt : j < args'.length := (List.getElem?_eq_some_iff.1 hj).1
    rw [Nat.zero_add, Array.getElem?_append_left (by simpa using hlt)]
    simpa using hj)
  exact ⟨⟨h1, by rw [h3]; exact trivial⟩, h2, h4⟩

theorem VR.two {v : LV} {v' : Value} (h : VR P σ v v') (hn : notTup v = true) : VR2 P σ v v' := by
  cases v <;> first | exact h | (simp [notTup] at hn)

theorem All2_two : ∀ {l : List LV} {l' : List Value}, All2 (VR P σ) l l' → l.all notTup = true → All2 (VR2 P σ) l l'
  | [], [], _, _ => trivial
  | _ :: _, _ :: _, h, hn => by
    simp only [List.all_cons, Bool.and_eq_true] at hn
    exact ⟨h.1.two hn.1, All2_two h.2 hn.2⟩
  | [], _ :: _, h, _ => h.elim
  | _ :: _, [], h, _ => h.elim

theorem retL_D {v : LV} (hr : ER P σ le e) (hm : MR P σ H w) {K : Value → World → Prop} : ∀ {rs : List ResultVar} {acc : List LV} {acc' : List Value}, retL P rs acc le H = some v → All2 (VR P σ) acc acc' →
    (∀ v', VR P σ v v' → K v' w) → retK P rs acc' K e w
  | [], [x], acc', h, ha, hk => by
    simp only [retL, Option.some.injEq] at h
    subst h
    simp only [retK]
    cases acc' with
    | nil => exact ha.elim
    | cons u l =>
      cases l with
      | nil => exact hk _ ha.1
      | cons _ _ => exact ha.2.elim
  | [], [], acc', h, ha, hk => by
    have h : (bif ([] : List LV).all notTup then some (LV.tup ([] : List LV).reverse) else none) = some v := h
    simp only [List.all_nil, cond_true, Option.some.injEq] at h
    subst h
    simp only [retK]
    cases acc' with
    | nil => exact hk _ ⟨[], trivial, rfl⟩
    | cons u l => exact ha.elim
  | [], x :: y :: acc, acc', h, ha, hk => by
    have h : (bif (x :: y :: acc).all notTup then some (LV.tup (x :: y :: acc).reverse) else none) = some v := h
    obtain ⟨hb, h⟩ := bif_some (x := v) h
    simp only [Option.some.injEq] at h
    subst h
    simp only [retK]
    refine hk _ ?_
    have h2 := (All2_two ha hb).rev
    have : finV acc'.reverse = .tuple ⟨acc'.reverse⟩ := by
      unfold finV
      split
      · rename_i u hu
        exfalso
        have h3 : acc'.length = 1 := by have := congrArg List.length hu; simpa using this
        have h4 := ha.length
        simp at h4; omega
      · rfl
    rw [this]
    exact ⟨_, h2, rfl⟩
  | .tmp t :: rs, acc, acc', h, ha, hk => by
    simp only [retL] at h
    simp only [retK]
    obtain ⟨hb, h⟩ := bif_some (x := v) h
    have hv := (hr.val t).resolve_left (by intro hu; rw [hu] at hb; simp [isKn] at hb)
    rw [VR.kn hv, cond_true]
    exact retL_D hr hm h ⟨hv, ha⟩ hk
  | .cell t ty :: rs, acc, acc', h, ha, hk => by
    simp only [retL] at h
    simp only [retK]
    split at h
    · rename_i u fs hu
      have := loadL_D (x := .tmp t) (K := fun v' w' => retK P rs (v' :: acc') K e w') hr hm hu fun v' hv' => retL_D hr hm h ⟨hv', ha⟩ hk
      exact this
    · simp at h

/-- What is asked of deferred calls. -/
def LS (P : Program) (call : CallE) : Prop := ∀ {k args H v H' σ w as' cs'}, call .df k args H = some (v, H') → MR P σ H w → All2 (VR0 σ) args (as' ++ cs') →
  CallsDIn (FW none) 0 P k ⟨as' ++ cs'⟩ .returning w (fun e u' w' => u' = .returning ∧ R1 (RS P σ v H') e w') ∧ isGo P k = true

theorem leaveL_S {call : CallE} {fn : Func} {tmps : Array Value} {R : Ending → World → Prop} (hls : LS P call) : ∀ {ds : List LDef} {D : List Deferred} {σ : Sg} {H : LHeap} {w : World}, leaveL call ds H = some H' → All2 (DR1 σ) ds D → MR P σ H w →
    (∀ σ' w', Ext σ σ' → MR P σ' H' w' → ∃ v, (results fn tmps).run P w' = .ok v w' ∧ R (.returned v) w') → LeavesInM (FW none) 0 P fn tmps R D .returning w
  | [], [], σ, H, w, h, _, hm, hk => by
    simp only [leaveL, Option.some.injEq] at h
    subst h
    exact hk σ w (Ext.refl σ) hm
  | .mark b :: ds, d :: D, σ, H, w, h, hd, hm, hk => by
    simp only [leaveL] at h
    obtain ⟨⟨r, hb, rfl⟩, hd⟩ := hd
    split at h
    · rename_i hi
      obtain ⟨ob, hob, hw⟩ := hm.its b _ r hb hi
      obtain rfl : ob = .deferred (some []) := hob
      refine ⟨by simp, .inl ⟨r.1, _, rfl, run_takeDeferred (P := P) hw, ?_⟩⟩
      exact leaveL_S hls h hd (hm.setObj (y := .dq false) (ob := .deferred none) hb hi rfl) hk
    · simp at h
  | .call k args :: ds, d :: D, σ, H, w, h, hd, hm, hk => by
    simp only [leaveL] at h
    obtain ⟨⟨as', cs', rfl, ha⟩, hd⟩ := hd
    split at h
    · rename_i v H1 h1
      obtain ⟨hc, hg⟩ := hls h1 hm ha
      refine ⟨by simp, .inr ⟨FW_depth none, .func k, ⟨cs'⟩, k, ⟨as' ++ cs'⟩, rfl, ?_, fun _ _ => trivial, ?_⟩⟩
      · simp only [invoke]
        have := run_callFunc (P := P) (w := w) (args := ⟨as' ++ cs'⟩) hg
        have e1 : (⟨as'⟩ : Array Value) ++ (⟨cs'⟩ : Array Value) = ⟨as' ++ cs'⟩ := by simp
        rw [e1]; exact this
      · refine CallsDIn.mono hc fun e u' w' ⟨hu, hr⟩ => ?_
        subst hu
        cases e with
        | returned v =>
          obtain ⟨σ', hx, _, hm'⟩ := hr
          exact leaveL_S hls h (hd.imp fun _ _ => DR1.mono hx) hm' fun σ'' w'' hx' hm'' => hk σ'' w'' (hx.trans hx') hm''
        | panicked c => exact hr.elim
        | outgrown => exact hr.elim
    · simp at h
  | [], _ :: _, _, _, _, _, hd, _, _ => hd.elim
  | _ :: _, [], _, _, _, _, hd, _, _ => hd.elim

theorem ret_run {fn : Func} {v : LV} {K : Value → World → Prop} (hA : AR P σ le a) (hm : MR P σ H w) (h : retL P fn.results.toList [] le H = some v) (hk : ∀ v', VR P σ v v' → K v' w) :
    ∃ v, (results fn a.tmps).run P w = .ok v w ∧ K v w := by
  obtain ⟨e, hr, hs⟩ := hA.env
  exact retK_results hs (retL_D hr hm h trivial hk)

theorem callL_S {pls : Nat → Plans} {ev : Plans → Ev} {leave : CallE} {k : FuncId} {args : List LV} {v : LV} {args' : List Value} (hev : ∀ p, EvS P (ev p)) (hls : LS P leave)
    (h : callL P pls ev leave k args H false = some (v, H')) (hg : isGo P k = true) (hm : MR P σ H w) (ha : All2 (VR P σ) args args') : CALL P k ⟨args'⟩ w (RS P σ v H') := by
  refine ⟨hg, (callsIn_wide (n := 0)).1 ?_⟩
  unfold callL at h
  split at h
  · simp at h
  · rename_i fn hf
    split at h
    · simp at h
    · rename_i c hb
      obtain ⟨hc, h⟩ := bif_some (x := (v, H')) h
      simp only [Bool.and_eq_true] at hc
      have hl : args.length ≤ fn.ntmps := Nat.le_of_ble_eq_true hc.1
      obtain ⟨hA, hn, hrd⟩ := start_AR (P := P) (σ := σ) (fid := k) ha hl
      refine callsIn_of_wp_marks (F := FW none) hf hb trivial ?_
      split at h
      · rename_i o le1 H1 h1
        have fin : ∀ {σ1 : Sg} {a1 : Act} {w1 : World}, Ext σ σ1 → AR P σ1 le1 a1 → MR P σ1 H1 w1 → (match (bif false then (match le1.df with | [] => some H1 | _ => none) else leaveL leave le1.df H1) with
            | some H2 => (match retL P fn.results.toList [] le1 H2 with | some v => some (v, H2) | none => none)
            | none => none) = some (v, H') → LeavesInM (FW none) 0 P fn a1.tmps (R1 (RS P σ v H')) a1.defers .returning w1 := by
          intro σ1 a1 w1 hx hA1 hm1 h
          simp only [cond_false] at h
          split at h
          · rename_i H2 h2
            split at h
            · rename_i u hu
              simp only [Option.some.injEq, Prod.mk.injEq] at h
              obtain ⟨rfl, rfl⟩ := h
              refine leaveL_S hls h2 hA1.d hm1 fun σ2 w2 hx2 hm2 => ?_
              exact ret_run (hA1.mono hx2) hm2 hu fun v' hv' => ⟨σ2, hx.trans hx2, hv', hm2⟩
            · simp at h
          · simp at h
        refine hev (pls k) (r := none) (by rw [hn]; exact hc.2) hA (by rw [hrd]; rfl) hm h1 fun σ1 a1 w1 hx hA1 hm1 _ _ => ?_
        cases o with
        | nx => exact fin hx hA1 hm1 h
        | rt => exact fin hx hA1 hm1 h
        | ex i => simp at h
        | gt l => simp at h
      · simp at h

theorem callL_D {pls : Nat → Plans} {ev : Plans → Ev} {leave : CallE} {k : FuncId} {args : List LV} {v : LV} {args' : List Value} (hev : ∀ p, EvS P (ev p))
    (h : callL P pls ev leave k args H true = some (v, H')) (hm : MR P σ H w) (ha : All2 (VR P σ) args args') :
    CallsDIn (FW none) 0 P k ⟨args'⟩ .returning w (fun e u' w' => u' = .returning ∧ R1 (RS P σ v H') e w') := by
  unfold callL at h
  split at h
  · simp at h
  · rename_i fn hf
    split at h
    · simp at h
    · rename_i c hb
      obtain ⟨hc, h⟩ := bif_some (x := (v, H')) h
      simp only [Bool.and_eq_true] at hc
      have hl : args.length ≤ fn.ntmps := Nat.le_of_ble_eq_true hc.1
      obtain ⟨hA, hn, hrd⟩ := start_AR (P := P) (σ := σ) (fid := k) ha hl
      refine callsDIn_of_wp (F := FW none) hf hb trivial ?_
      split at h
      · rename_i o le1 H1 h1
        have fin : ∀ {σ1 : Sg} {a1 : Act} {w1 : World}, Ext σ σ1 → AR P σ1 le1 a1 → MR P σ1 H1 w1 → (match (bif true then (match le1.df with | [] => some H1 | _ => none) else leaveL leave le1.df H1) with
            | some H2 => (match retL P fn.results.toList [] le1 H2 with | some v => some (v, H2) | none => none)
            | none => none) = some (v, H') → a1.defers = [] ∧ ∃ v', (results fn a1.tmps).run P w1 = .ok v' w1 ∧ R1 (RS P σ v H') (.returned v') w1 := by
          intro σ1 a1 w1 hx hA1 hm1 h
          simp only [cond_true] at h
          split at h
          · rename_i H2 h2
            split at h2
            · rename_i hdf
              simp only [Option.some.injEq] at h2
              subst h2
              split at h
              · rename_i u hu
                simp only [Option.some.injEq, Prod.mk.injEq] at h
                obtain ⟨rfl, rfl⟩ := h
                have hd := hA1.d
                rw [hdf] at hd
                refine ⟨?_, ret_run hA1 hm1 hu fun v' hv' => ⟨σ1, hx, hv', hm1⟩⟩
                cases hdd : a1.defers with
                | nil => rfl
                | cons x l => rw [hdd] at hd; exact hd.elim
              · simp at h
            · simp at h2
          · simp at h
        refine hev (pls k) (r := none) (by rw [hn]; exact hc.2) hA (by rw [hrd]; rfl) hm h1 fun σ1 a1 w1 hx hA1 hm1 _ _ => ?_
        cases o with
        | nx => exact fin hx hA1 hm1 h
        | rt => exact fin hx hA1 hm1 h
        | ex i => simp at h
        | gt l => simp at h
      · simp at h

theorem leave_S {pls : Nat → Plans} {ev : Plans → Ev} (hev : ∀ p, EvS P (ev p)) : LS P (fun _ k args H => bif isGo P k then callL P pls ev (fun _ _ _ _ => none) k args H true else none) := by
  intro k args H v H' σ w as' cs' h hm ha
  obtain ⟨hg, h⟩ := bif_some (x := (v, H')) h
  exact ⟨callL_D hev h hm (ha.imp fun _ _ => VR.of0), hg⟩

theorem evN_S {pls : Nat → Plans} {fuel : Nat} : ∀ (n : Nat) (p : Plans), EvS P (evN P pls fuel n p)
  | 0, p => fun _ _ _ _ h _ => by simp [evN] at h
  | n + 1, p => by
    refine codeL_S ⟨?_, ?_⟩ (evN_S n p)
    · intro k args H v H' σ w args' h hg hm ha
      exact callL_S (evN_S n) (leave_S (evN_S n)) h hg hm ha
    · intro b args H v H' σ w args' r h hb hm ha
      exact yieldL_S (evN_S n) h hb hm ha

/-- A run of the kernel's is a run of the machine's. -/
theorem runL_S {pls : Nat → Plans} {fuel depth : Nat} {k : FuncId} {args : List LV} {v : LV} {args' : List Value} (h : runL P pls fuel depth k args H = some (v, H')) (hg : isGo P k = true)
    (hm : MR P σ H w) (ha : All2 (VR P σ) args args') : CALL P k ⟨args'⟩ w (RS P σ v H') :=
  callL_S (evN_S depth) (leave_S (evN_S depth)) h hg hm ha
end
end Go.Den
