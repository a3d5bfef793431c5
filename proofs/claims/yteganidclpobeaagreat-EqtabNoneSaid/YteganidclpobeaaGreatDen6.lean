/- Den6: the denotation of a function. Own work; a part of the proof of a claim. Conditions: none beyond those that stand in each theorem. -/
import Derived.Test.YteganidclpobeaaGreatDen5
import Derived.Laws.Sem
/- Den6: the denotation of a function. -/
set_option linter.unusedSimpArgs false
set_option linter.unusedVariables false
namespace Go.Den
open Go

def finV : List Value → Value
  | [v] => v
  | vs => .tuple ⟨vs⟩

/-- What a function hands back. -/
def retK (P : Program) : List ResultVar → List Value → (Value → World → Prop) → Env → World → Prop
  | [], acc, k, _, w => k (finV acc.reverse) w
  | .tmp t :: r, acc, k, e, w => bif kn (get e t) then retK P r (get e t :: acc) k e w else False
  | .cell t ty :: r, acc, k, e, w => match get e t with
    | .pointer (some p) => bif (P.underlying ty).isSome then ldK P ty w p fun v => retK P r (v :: acc) k e w else False
    | _ => False

section
variable {P : Program} {n : Nat} {D : List Deferred}

/-- One result. -/
def resSem (a : Act) : ResultVar → Sem Value
  | .tmp t => pure (a.tmps.getD t undef)
  | .cell x t => do loadVar t (← asAddr (a.tmps.getD x undef))

theorem retK_run {e : Env} {a : Act} {k : Value → World → Prop} {w : World} (hs : Sub D n e a) : ∀ (rs : List ResultVar) (acc : List Value), retK P rs acc k e w →
    ∃ vs : List Value, (rs.mapM (resSem a)).run P w = .ok vs w ∧ k (finV (acc.reverse ++ vs)) w
  | [], acc, h => ⟨[], by simp, by simpa [retK] using h⟩
  | .tmp t :: r, acc, h => by
    simp only [retK] at h
    cases hk : kn (get e t) with
    | false => rw [hk] at h; exact h.elim
    | true =>
      rw [hk] at h
      obtain ⟨vs, h1, h2⟩ := retK_run hs r _ h
      have hg : a.tmps.getD t undef = get e t := hs.eval (x := .tmp t) hk
      refine ⟨get e t :: vs, ?_, by simpa using h2⟩
      have hr : (resSem a (.tmp t)).run P w = .ok (get e t) w := by rw [← hg]; rfl
      simp [List.mapM_cons, Sem.run_bind, hr, Result.andThen, h1]
  | .cell t ty :: r, acc, h => by
    simp only [retK] at h
    split at h
    · rename_i p hp
      cases hu : (P.underlying ty).isSome with
      | false => rw [hu] at h; exact h.elim
      | true =>
        rw [hu] at h
        obtain ⟨v, hr, h⟩ := ldK_run hu h
        obtain ⟨vs, h1, h2⟩ := retK_run hs r _ h
        have hg : a.tmps.getD t undef = .pointer (some p) := by
          rw [show a.tmps.getD t undef = get e t from hs.eval (x := .tmp t) (by rw [show ev e (.tmp t) = get e t from rfl, hp]; rfl), hp]
        refine ⟨v :: vs, ?_, by simpa using h2⟩
        have hr' : (resSem a (.cell t ty)).run P w = .ok v w := by
          show (do loadVar ty (← asAddr (a.tmps.getD t undef)) : Sem Value).run P w = _
          rw [hg]
          simpa [asAddr] using hr
        simp [List.mapM_cons, Sem.run_bind, hr', Result.andThen, h1]
    · exact h.elim

theorem results_eq (fn : Func) (a : Act) : results fn a.tmps = (do let vs ← fn.results.mapM (resSem a); pure (if h : vs.size = 1 then vs[0] else .tuple vs)) := by
  unfold results
  rfl

theorem retK_results {fn : Func} {e : Env} {a : Act} {k : Value → World → Prop} {w : World} (hs : Sub D n e a) (h : retK P fn.results.toList [] k e w) :
    ∃ v, (results fn a.tmps).run P w = .ok v w ∧ k v w := by
  obtain ⟨vs, h1, h2⟩ := retK_run hs _ _ h
  refine ⟨_, ?_, h2⟩
  rw [results_eq]
  have e1 : fn.results = fn.results.toList.toArray := rfl
  rw [e1, List.mapM_toArray]
  simp only [map_eq_pure_bind, bind_assoc, pure_bind, Sem.run_bind]
  rw [h1]
  simp only [Result.andThen]
  match vs with
  | [] => simp [finV]
  | [v] => simp [finV]
  | u :: v :: r => simp [finV]

def envFrom : Nat → List Value → Env
  | _, [] => []
  | i, v :: r => (i, v) :: envFrom (i + 1) r

theorem get_envFrom : ∀ (vs : List Value) (i t : Nat), get (envFrom i vs) t = unk ∨ (i ≤ t ∧ vs[t - i]? = some (get (envFrom i vs) t))
  | [], i, t => .inl rfl
  | v :: r, i, t => by
    simp only [envFrom, get_cons]
    by_cases h : i = t
    · subst h; right; simp
    · simp only [if_neg h]
      rcases get_envFrom r (i + 1) t with h1 | ⟨h1, h2⟩
      · exact .inl h1
      · right
        refine ⟨by omega, ?_⟩
        rw [show t - i = (t - (i + 1)) + 1 by omega]
        simpa using h2

theorem sub_args {vs : List Value} (h : vs.length ≤ n) : Sub [] n (envFrom 0 vs) { tmps := vs.toArray ++ Array.replicate (n - vs.toArray.size) undef, defers := [] } := by
  refine ⟨rfl, by simp; omega, fun t => ?_⟩
  rcases get_envFrom vs 0 t with h1 | ⟨_, h2⟩
  · exact .inl h1
  · right
    simp only [Nat.sub_zero] at h2
    have hlt : t < vs.length := by
      rcases Nat.lt_or_ge t vs.length with h' | h'
      · exact h'
      · simp [List.getElem?_eq_none h'] at h2
    rw [Array.getElem?_append_left (by simpa using hlt)]
    simpa using h2

/-- A call of a function, by the denotation of its body. -/
theorem calls_of_WP {f : FuncId} {fn : Func} {c : Code} {vs : List Value} {w : World} {k : Value → World → Prop} (hf : P.funcs[f]? = some fn) (hb : fn.body = some c)
    (hg : isGo P f = true) (hl : vs.length ≤ fn.ntmps) (h : WP P fn.ntmps c (retK P fn.results.toList [] k) noX (retK P fn.results.toList [] k) (envFrom 0 vs) w) :
    CALL P f ⟨vs⟩ w k := by
  refine ⟨hg, (callsIn_wide (n := 0)).1 (callsIn_of_wp (F := FW none) hf hb trivial ?_)⟩
  have := h _ (sub_args hl)
  refine Code.wpIn_mono ?_ this
  intro x a w hp
  cases x with
  | normal => obtain ⟨e, hs, hk⟩ := hp; obtain ⟨v, hr, hv⟩ := retK_results hs hk; exact ⟨hs.1, v, hr, hv⟩
  | ret => obtain ⟨e, hs, hk⟩ := hp; obtain ⟨v, hr, hv⟩ := retK_results hs hk; exact ⟨hs.1, v, hr, hv⟩
  | exit i => obtain ⟨e, hs, hk⟩ := hp; exact hk.elim
  | goto l => exact hp.elim
  | panic c => exact hp.elim
  | outgrown => exact hp.elim

theorem exists_least (p : Nat → Prop) (h : ∃ k, p k) : ∃ m, p m ∧ ∀ k, p k → m ≤ k := by
  obtain ⟨k, hk⟩ := h
  induction k using Nat.strongRecOn with
  | _ k ih =>
    by_cases hex : ∃ j, j < k ∧ p j
    · obtain ⟨j, hj, hp⟩ := hex; exact ih j hj hp
    · exact ⟨k, hk, fun j hj => Nat.le_of_not_lt fun hlt => hex ⟨j, hlt, hj⟩⟩

/-- A loop: an invariant with a number that goes down. The temporaries at its head are told by 'mk'; those at a round's end are read by 'un', where 'ok' says that they may be. -/
theorem WP_loop {α : Type} {c : Code} {Kn : Env → World → Prop} {Kx : Nat → Env → World → Prop} {Kr : Env → World → Prop} (mk : α → Env) (un : Env → α) (ok : Env → Bool)
    (hun : ∀ e, ok e = true → ∀ t, get (mk (un e)) t = unk ∨ get (mk (un e)) t = get e t)
    (I : Nat → α → World → Prop)
    (round : ∀ k x w, I k x w → WP P n c (fun e w => bif ok e then ∃ k', k' < k ∧ I k' (un e) w else False) Kx Kr (mk x) w) (k : Nat) (x : α) (w : World) (h : I k x w) :
    WP P n (.loop c) Kn Kx Kr (mk x) w := by
  intro a hs
  let J : Act → World → Prop := fun a w => ∃ k x, I k x w ∧ Sub [] n (mk x) a
  have hex : ∀ a w, J a w → ∃ m, (∃ x, I m x w ∧ Sub [] n (mk x) a) ∧ ∀ k, (∃ x, I k x w ∧ Sub [] n (mk x) a) → m ≤ k := fun a w h => exists_least _ h
  let μ : Act → World → Nat := fun a w => open Classical in if h : J a w then Classical.choose (hex a w h) else 0
  have hμ : ∀ a w (hJ : J a w), μ a w = Classical.choose (hex a w hJ) := fun a w hJ => dif_pos hJ
  refine wpIn_loop J μ ⟨k, x, h, hs⟩ ?_
  intro a w hJ
  obtain ⟨⟨x, hI, hs⟩, _⟩ := Classical.choose_spec (hex a w hJ)
  rw [← hμ a w hJ] at hI
  refine Code.wpIn_mono ?_ (round _ x w hI a hs)
  refine post_mono ?_ (fun i e a w hs hk => ⟨e, hs, hk⟩) (fun e a w hs hk => ⟨e, hs, hk⟩)
  intro e a' w' hs' hk
  cases hok : ok e with
  | false => rw [hok] at hk; exact hk.elim
  | true =>
    rw [hok] at hk
    obtain ⟨k', hlt, hI'⟩ := hk
    have hsub : Sub [] n (mk (un e)) a' := by
      refine ⟨hs'.1, hs'.2.1, fun t => ?_⟩
      rcases hun e hok t with h1 | h1
      · exact .inl h1
      · rcases hs'.2.2 t with h2 | h2
        · left; rw [h1, h2]
        · right; rw [h1]; exact h2
    have hJ' : J a' w' := ⟨k', _, hI', hsub⟩
    refine ⟨hJ', ?_⟩
    rw [hμ a' w' hJ']
    exact Nat.lt_of_le_of_lt ((Classical.choose_spec (hex a' w' hJ')).2 k' ⟨_, hI', hsub⟩) hlt

end
end Go.Den
