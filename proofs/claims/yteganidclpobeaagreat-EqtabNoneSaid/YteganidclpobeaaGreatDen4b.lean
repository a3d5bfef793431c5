/- Den4b: a region that draws its order. Operations that only look are carried out ahead ('virtually'), in the plan's order; operations that write, one by one, where no other one may come; what was looked at ahead, and may really come later, must still be so. Own work; a part of the proof of a claim. Conditions: none beyond those that stand in each theorem. -/
import Derived.Test.YteganidclpobeaaGreatDen4
/- Den4b: a region that draws its order. Operations that only look are carried out ahead ('virtually'), in the plan's order; operations that write, one by one, where no other one may come; what was looked at ahead, and may really come later, must still be so. -/
set_option linter.unusedSimpArgs false
set_option linter.unusedVariables false
namespace Go.Den
open Go

inductive Fct where
  | cell (p : Addr) (v : Value)
  | blk (r : Nat) (o : Obj)

def Fct.holds : Fct → World → Prop
  | .cell p v, w => w.cell? p = some v
  | .blk r o, w => w.heap[r]? = some o

def rdF (p : Addr) : Nat → List Value → List Fct
  | _, [] => []
  | i, v :: r => .cell (p.add i) v :: rdF p (i + 1) r

theorem rdF_iff {w : World} {p : Addr} : ∀ {vs : List Value} {i : Nat}, (∀ f ∈ rdF p i vs, f.holds w) ↔ Rd w p i vs
  | [], i => by simp [rdF, Rd]
  | v :: r, i => by simp only [rdF, Rd, List.forall_mem_cons, rdF_iff (vs := r)]; rfl

/-- A load, with what was looked at. -/
def ldF (P : Program) (t : TypeId) (w : World) (p : Addr) (K : Value → List Fct → Prop) : Prop :=
  match c2 P t with
  | .one s => ex1 s fun v => w.cell? p = some v ∧ K v [.cell p v]
  | .agg l => exL1 l fun vs => bif Nat.beq vs.length (P.cellsOf t) then Rd w p 0 vs ∧ K (.agg ⟨vs⟩) (rdF p 0 vs) else False
  | .many n => ∃ vs : List Value, vs.length = n ∧ Rd w p 0 vs ∧ K (.agg ⟨vs⟩) (rdF p 0 vs)

theorem ldF_run {P : Program} {t : TypeId} {p : Addr} {w : World} {K : Value → List Fct → Prop} (hu : (P.underlying t).isSome = true) (h : ldF P t w p K) :
    ∃ v fs, K v fs ∧ (∀ f ∈ fs, f.holds w) ∧ ∀ w', (∀ f ∈ fs, f.holds w') → (loadVar t p).run P w' = .ok v w' := by
  unfold ldF c2 at h
  cases ha : isAggT P t with
  | false =>
    simp only [ha, cond_false] at h
    obtain ⟨v, hc, hk⟩ := ex1_out h
    exact ⟨v, _, hk, by simpa [Fct.holds] using hc, fun w' hf => run_loadVar_one hu ha (by simpa [Fct.holds] using hf)⟩
  | true =>
    simp only [ha, cond_true] at h
    cases hb : Nat.ble (P.cellsOf t) 24 with
    | true =>
      simp only [hb, cond_true] at h
      obtain ⟨vs, _, h⟩ := exL1_out h
      cases he : Nat.beq vs.length (P.cellsOf t) with
      | false => rw [he] at h; exact h.elim
      | true =>
        simp only [he, cond_true] at h
        exact ⟨_, _, h.2, rdF_iff.2 h.1, fun w' hf => run_loadVar_agg hu ha (Nat.eq_of_beq_eq_true he) (rdF_iff.1 hf)⟩
    | false =>
      simp only [hb, cond_false] at h
      obtain ⟨vs, hl, hr, hk⟩ := h
      exact ⟨_, _, hk, rdF_iff.2 hr, fun w' hf => run_loadVar_agg hu ha hl (rdF_iff.1 hf)⟩

/-- An operation that only looks. -/
def opR (P : Program) (e : Env) (o : Oper) (w : World) (K : Value → List Fct → Prop) : Prop :=
  match o.op with
  | .pick c x y => (match ev e c with
    | .bool b => bc b (bif kn (ev e x) then K (ev e x) [] else False) (bif kn (ev e y) then K (ev e y) [] else False)
    | _ => False)
  | .load t x => (match ev e x with
    | .pointer (some p) => bif (P.underlying t).isSome then ldF P t w p K else False
    | _ => False)
  | .select _ _ => False
  | op => bif allKn e (opnds op) then pureD P (ev e) o (fun v => K v []) else False

def tmpsOf (l : List Operand) : List Nat := l.filterMap fun | .tmp t => some t | _ => none

/-- The temporaries that an operation looks at. -/
def looksL (all : List Oper) (o : Oper) : List Nat :=
  tmpsOf (opnds o.op) ++ (match o.guard with
    | some (j, _) => (dstOf all j).toList
    | none => [])

def AgrL (ts : List Nat) (e : Env) (a : Act) : Prop := ∀ t ∈ ts, get e t = unk ∨ a.tmps[t]? = some (get e t)

theorem AgrL.eval {ts : List Nat} {e : Env} {a : Act} (h : AgrL ts e a) {x : Operand} (hx : ∀ t, x = .tmp t → t ∈ ts) (hk : kn (ev e x) = true) : a.eval x = ev e x := by
  cases x with
  | tmp t =>
    rcases h t (hx t rfl) with h1 | h1
    · exact absurd h1 (kn_ne hk)
    · simp [Act.eval, ev, h1]
  | _ => rfl

theorem mem_tmpsOf {l : List Operand} {t : Nat} (h : Operand.tmp t ∈ l) : t ∈ tmpsOf l := by
  unfold tmpsOf
  rw [List.mem_filterMap]
  exact ⟨_, h, rfl⟩

theorem exec_eqL {e : Env} {a : Act} {o : Oper} (hs : AgrL (tmpsOf (opnds o.op)) e a) (hsel : ∀ cs b, o.op ≠ .select cs b) (hk : allKn e (opnds o.op) = true) :
    execOp a.eval o = execOp (ev e) o :=
  execOp_congr o hsel fun x hx => by
    have h1 := opnds_spec hsel hx
    exact hs.eval (fun t ht => mem_tmpsOf (ht ▸ h1)) (List.all_eq_true.1 hk x h1)

section
variable {P : Program} {o : Oper} {w : World}

theorem opR_out {e : Env} {K : Value → List Fct → Prop} (h : opR P e o w K) :
    ∃ v fs, K v fs ∧ (∀ f ∈ fs, f.holds w) ∧ ∀ a' w', AgrL (tmpsOf (opnds o.op)) e a' → (∀ f ∈ fs, f.holds w') → (execOp a'.eval o).run P w' = .ok (.value v) w' := by
  unfold opR at h
  split at h
  · rename_i c x y ho
    split at h
    · rename_i b hb
      have hc : ∀ a', AgrL (tmpsOf (opnds o.op)) e a' → a'.eval c = .bool b := fun a' ha => by
        rw [ha.eval (fun t ht => mem_tmpsOf (by rw [ho, ht]; simp [opnds])) (by rw [hb]; rfl), hb]
      cases b with
      | true =>
        simp only [bc] at h
        cases hk : kn (ev e x) with
        | false => rw [hk] at h; exact h.elim
        | true =>
          rw [hk] at h
          refine ⟨_, [], h, by simp, fun a' w' ha _ => ?_⟩
          have := ha.eval (x := x) (fun t ht => mem_tmpsOf (by rw [ho, ht]; simp [opnds])) hk
          simp [execOp, ho, hc a' ha, asBool, this]
      | false =>
        simp only [bc] at h
        cases hk : kn (ev e y) with
        | false => rw [hk] at h; exact h.elim
        | true =>
          rw [hk] at h
          refine ⟨_, [], h, by simp, fun a' w' ha _ => ?_⟩
          have := ha.eval (x := y) (fun t ht => mem_tmpsOf (by rw [ho, ht]; simp [opnds])) hk
          simp [execOp, ho, hc a' ha, asBool, this]
    · exact h.elim
  · rename_i t x ho
    split at h
    · rename_i p hp
      cases hu : (P.underlying t).isSome with
      | false => rw [hu] at h; exact h.elim
      | true =>
        rw [hu] at h
        obtain ⟨v, fs, hk, hf, hr⟩ := ldF_run hu h
        refine ⟨v, fs, hk, hf, fun a' w' ha hf' => ?_⟩
        have := ha.eval (x := x) (fun t ht => mem_tmpsOf (by rw [ho, ht]; simp [opnds])) (by rw [hp]; rfl)
        simp [execOp, ho, Instr.loadAt, Instr.sureAddr, this, hp, hr w' hf']
    · exact h.elim
  · exact h.elim
  · rename_i hnp hnl hsel
    cases hb : allKn e (opnds o.op) with
    | false => rw [hb] at h; exact h.elim
    | true =>
      rw [hb] at h
      simp only [cond_true] at h
      obtain ⟨v, hr, hk⟩ := good_pure h
      refine ⟨v, [], hk, by simp, fun a' w' ha _ => ?_⟩
      rw [exec_eqL ha (fun cs b h0 => hsel cs b h0) hb]
      exact hr w'

/-- .. with its guard. -/
def denGR (P : Program) (all : List Oper) (o : Oper) (e : Env) (w : World) (K : Env → List Fct → Prop) : Prop :=
  match o.guard with
  | none => opR P e o w fun v fs => K (putE e o.dst v) fs
  | some (j, want) => match dstOf all j with
    | none => False
    | some t => match get e t with
      | .tuple _ => K (putE e o.dst undef) []
      | .bool b => bc b
        (bif want then opR P ((t, .bool true) :: e) o w fun v fs => K (putE ((t, .bool true) :: e) o.dst v) fs else K (putE ((t, .bool true) :: e) o.dst undef) [])
        (bif want then K (putE ((t, .bool false) :: e) o.dst undef) [] else opR P ((t, .bool false) :: e) o w fun v fs => K (putE ((t, .bool false) :: e) o.dst v) fs)
      | _ => False

/-- What an operation that only looks leaves, wherever it comes. -/
def Yld (P : Program) (all : List Oper) (o : Oper) (a : Act) (w : World) (v : Value) : Prop :=
  (Region.wanted o (yielded all.toArray a.tmps) = true ∧ (execOp a.eval o).run P w = .ok (.value v) w) ∨ (Region.wanted o (yielded all.toArray a.tmps) = false ∧ v = undef)

theorem get_putE {e : Env} {d : Option Nat} {v : Value} (t : Nat) : get (putE e d v) t = if d = some t then v else get e t := by
  cases d with
  | none => simp [putE]
  | some s => simp [putE, get_cons]

theorem get_known {e : Env} {s : Nat} {v : Value} (h : get e s = v) (t : Nat) : get ((s, v) :: e) t = get e t := by
  rw [get_cons]
  by_cases hs : s = t
  · subst hs; simp [h]
  · simp [hs]

theorem AgrL.of_eq {ts ts' : List Nat} {e e' : Env} {a : Act} (h : AgrL ts e a) (hsub : ∀ t ∈ ts', t ∈ ts) (he : ∀ t, get e' t = get e t) : AgrL ts' e' a :=
  fun t ht => by rw [he t]; exact h t (hsub t ht)

theorem yielded_of {all : List Oper} {j t : Nat} {e : Env} {a : Act} {b : Bool} (hd : dstOf all j = some t) (hb : get e t = .bool b) (ha : get e t = unk ∨ a.tmps[t]? = some (get e t)) :
    yielded all.toArray a.tmps j = some b := by
  have hne : a.tmps[t]? = some (.bool b) := by
    rcases ha with h1 | h1
    · rw [hb] at h1; cases h1
    · rw [hb] at h1; exact h1
  unfold dstOf at hd
  unfold yielded
  have : (all.toArray[j]?).bind (·.dst) = some t := by simpa using hd
  rw [this]
  simp [hne]

theorem yielded_tup {all : List Oper} {j t : Nat} {e : Env} {a : Act} {vs : Array Value} (hd : dstOf all j = some t) (hb : get e t = .tuple vs) (ha : get e t = unk ∨ a.tmps[t]? = some (get e t)) :
    yielded all.toArray a.tmps j = none := by
  have hne : a.tmps[t]? = some (.tuple vs) := by
    rcases ha with h1 | h1
    · rw [hb] at h1; cases h1
    · rw [hb] at h1; exact h1
  unfold dstOf at hd
  unfold yielded
  have : (all.toArray[j]?).bind (·.dst) = some t := by simpa using hd
  rw [this]
  simp [hne]

theorem denGR_out {all : List Oper} {e : Env} {K : Env → List Fct → Prop} (h : denGR P all o e w K) :
    ∃ e' v fs, (∀ t, get e' t = if o.dst = some t then v else get e t) ∧ K e' fs ∧ (∀ f ∈ fs, f.holds w) ∧
      ∀ a' w', AgrL (looksL all o) e a' → (∀ f ∈ fs, f.holds w') → Yld P all o a' w' v := by
  unfold denGR at h
  split at h
  · rename_i hg
    obtain ⟨v, fs, hk, hf, hr⟩ := opR_out h
    refine ⟨_, v, fs, fun t => get_putE t, hk, hf, fun a' w' ha hf' => .inl ⟨by simp [Region.wanted, hg], hr a' w' (ha.of_eq ?_ fun _ => rfl) hf'⟩⟩
    intro t ht; unfold looksL; exact List.mem_append_left _ ht
  · rename_i j want hg
    split at h
    · exact h.elim
    · rename_i t ht
      have hlk : t ∈ looksL all o := by unfold looksL; rw [hg]; simp [ht]
      split at h
      · rename_i vs hb
        refine ⟨_, undef, [], fun s => get_putE s, h, by simp, fun a' w' ha _ => .inr ⟨?_, rfl⟩⟩
        simp only [Region.wanted, hg]
        rw [yielded_tup ht hb (ha t hlk)]
        simp
      · rename_i b hb
        have hsub : ∀ s ∈ tmpsOf (opnds o.op), s ∈ looksL all o := fun s hs => by unfold looksL; exact List.mem_append_left _ hs
        have run : ∀ b', b = b' → want = b' → opR P ((t, .bool b') :: e) o w (fun v fs => K (putE ((t, .bool b') :: e) o.dst v) fs) → (∃ e' v fs, (∀ t, get e' t = if o.dst = some t then v else get e t) ∧ K e' fs ∧ (∀ f ∈ fs, f.holds w) ∧
      ∀ a' w', AgrL (looksL all o) e a' → (∀ f ∈ fs, f.holds w') → Yld P all o a' w' v) := fun b' hb' hw' h => by
          subst hb'
          obtain ⟨v, fs, hk, hf, hr⟩ := opR_out h
          exact (⟨_, v, fs, fun s => by rw [get_putE, get_known hb], hk, hf, fun a' w' ha hf' => .inl ⟨by
            simp only [Region.wanted, hg]
            rw [yielded_of ht hb (ha t hlk), hw']; simp, hr a' w' (ha.of_eq hsub (get_known hb)) hf'⟩⟩)
        have skip : ∀ b', b = b' → want = !b' → K (putE ((t, .bool b') :: e) o.dst undef) [] → (∃ e' v fs, (∀ t, get e' t = if o.dst = some t then v else get e t) ∧ K e' fs ∧ (∀ f ∈ fs, f.holds w) ∧
      ∀ a' w', AgrL (looksL all o) e a' → (∀ f ∈ fs, f.holds w') → Yld P all o a' w' v) := fun b' hb' hw' h => by
          subst hb'
          exact (⟨_, undef, [], fun s => by rw [get_putE, get_known hb], h, by simp, fun a' w' ha _ => .inr ⟨by
            simp only [Region.wanted, hg]
            rw [yielded_of ht hb (ha t hlk), hw']; cases b <;> simp, rfl⟩⟩)
        cases b with
        | true =>
          simp only [bc] at h
          cases want with
          | true => exact run true rfl rfl h
          | false => exact skip true rfl rfl h
        | false =>
          simp only [bc] at h
          cases want with
          | true => exact skip false rfl rfl h
          | false => exact run false rfl rfl h
      · exact h.elim

theorem value_nd {ρ : Operand → Value} {v : Value} {w' : World} (h : (execOp ρ o).run P w = .ok (.value v) w') : ∀ c, o.op ≠ .defer c := by
  intro c hc
  unfold execOp at h
  rw [hc] at h
  simp only [Sem.run_bind] at h
  generalize (resolve ρ c o.type).run P w = r at h
  cases r <;> simp [Result.andThen] at h

variable {D : List Deferred} {r : Option Nat}

/-- An act that has what the temporaries' list says, filled up from another one. -/
theorem fill_act (n : Nat) (e : Env) (a : Act) (hn : a.tmps.size = n) (he : ∀ t, get e t ≠ unk → t < n) :
    ∃ b : Act, Sub D n e b ∧ ∀ t, (get e t = unk ∨ a.tmps[t]? = some (get e t)) → b.tmps[t]? = a.tmps[t]? := by
  refine ⟨{ tmps := Array.ofFn fun i : Fin n => open Classical in if get e i.1 = unk then a.tmps.getD i.1 undef else get e i.1, defers := D }, ⟨rfl, by simp, fun t => ?_⟩, fun t ht => ?_⟩
  · by_cases h : get e t = unk
    · exact .inl h
    · right
      have := he t h
      simp [this, h]
  · by_cases hlt : t < n
    · have h2 : a.tmps[t]? = some (a.tmps[t]'(hn ▸ hlt)) := Array.getElem?_eq_getElem (hn ▸ hlt)
      rcases ht with h | h
      · simp [hlt, h, h2]
      · by_cases h0 : get e t = unk
        · simp [hlt, h0, h2]
        · simp [hlt, h0, h]
    · rcases ht with h | h
      · simp [hlt, Array.getElem?_eq_none (by omega : a.tmps.size ≤ t)]
      · simp [Array.getElem?_eq_none (by omega : a.tmps.size ≤ t)] at h

/-- An operation that may write, carried out where it stands: only what it looks at need be there. -/
theorem denG_wpL {all : List Oper} {n : Nat} {e : Env} {a : Act} {K : Env → World → Prop} {next : Act → World → Prop} {Q : Exit → Act → World → Prop}
    (hn0 : a.tmps.size = n) (hen : ∀ t, get e t ≠ unk → t < n) (hag : AgrL (looksL all o) e a) (hsel : ∀ cs b, o.op ≠ .select cs b) (h : denG P all o e w K)
    (hn : ∀ e' v w', (∀ t, get e' t = if o.dst = some t then v else get e t) → K e' w' → next (a.put o.dst v) w') :
    if Region.wanted o (yielded all.toArray a.tmps) then o.wpIn (FW r) 0 P a w next Q else next (a.put o.dst undef) w := by
  obtain ⟨b, hb, hab⟩ := fill_act (D := []) n e a hn0 hen
  have hops : ∀ x ∈ o.op.operands, a.eval x = b.eval x := fun x hx => by
    cases x with
    | tmp t =>
      have ht : t ∈ looksL all o := by unfold looksL; exact List.mem_append_left _ (mem_tmpsOf (opnds_spec hsel hx))
      have := hab t (hag t ht)
      simp [Act.eval, this]
    | _ => rfl
  have hex : execOp a.eval o = execOp b.eval o := execOp_congr o hsel hops
  unfold denG at h
  split at h
  · rename_i hg
    simp only [Region.wanted, hg, if_true]
    obtain ⟨ρ, he, hgd⟩ := denOp_good hb h
    exact hgd.wp (denOp_nd h) (hex.trans he) fun v w' hk => hn _ v w' (fun t => get_putE t) hk
  · rename_i j want hg
    split at h
    · exact h.elim
    · rename_i t ht
      have hlk : t ∈ looksL all o := by unfold looksL; rw [hg]; simp [ht]
      split at h
      · rename_i vs hc
        simp only [Region.wanted, hg, yielded_tup ht hc (hag t hlk)]
        simp
        exact hn _ undef w (fun s => get_putE s) h
      · rename_i c hc
        have hy := yielded_of ht hc (hag t hlk)
        simp only [Region.wanted, hg, hy]
        have hsk := get_known hc
        have hb' : ∀ {c'}, c = c' → Sub [] n ((t, .bool c') :: e) b := fun {c'} h0 => by
          subst h0
          exact ⟨hb.1, hb.2.1, fun s => by rw [get_known hc s]; exact hb.2.2 s⟩
        cases c with
        | true =>
          simp only [bc] at h
          cases want with
          | true =>
            simp only [cond_true] at h
            simp only [beq_self_eq_true, if_true]
            obtain ⟨ρ, he, hgd⟩ := denOp_good (hb' rfl) h
            exact hgd.wp (denOp_nd h) (hex.trans he) fun v w' hk => hn _ v w' (fun s => by rw [get_putE, hsk]) hk
          | false =>
            simp only [cond_false] at h
            simp
            exact hn _ undef w (fun s => by rw [get_putE, hsk]) h
        | false =>
          simp only [bc] at h
          cases want with
          | true =>
            simp only [cond_true] at h
            simp
            exact hn _ undef w (fun s => by rw [get_putE, hsk]) h
          | false =>
            simp only [cond_false] at h
            simp only [beq_self_eq_true, if_true]
            obtain ⟨ρ, he, hgd⟩ := denOp_good (hb' rfl) h
            exact hgd.wp (denOp_nd h) (hex.trans he) fun v w' hk => hn _ v w' (fun s => by rw [get_putE, hsk]) hk
      · exact h.elim
end
end Go.Den
