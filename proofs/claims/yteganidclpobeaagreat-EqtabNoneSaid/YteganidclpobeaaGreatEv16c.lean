/- Ev16c: a run by a plan. Own work; a part of the proof of a claim. Conditions: none beyond those that stand in each theorem. -/
import Derived.Test.YteganidclpobeaaGreatEv16b
/- Ev16c: a run by a plan. -/
set_option linter.unusedSimpArgs false
set_option linter.unusedVariables false
namespace Go.Den
open Go
section
variable {P : Program} {σ σ' : Sg} {le le' : LE} {e : Env} {a : Act} {o : Oper} {H H' : LHeap} {w w' : World}

theorem predsIn_mono {V j : Nat} {o : Oper} (h : predsIn V o = true) : predsIn (V ||| 2 ^ j) o = true := by
  unfold predsIn at h ⊢
  rw [List.all_eq_true] at h ⊢
  intro x hx
  have := h x hx
  cases hb : bE x with
  | false => simp
  | true =>
    rw [hb] at this
    have h1 : V.testBit x.on = true := by simpa using this
    simp [testBit_add, h1]

theorem onlyF_mono {V i : Nat} {F G : List Nat} (hs : ∀ k ∈ F, k ∈ G) : ∀ {l : List Oper} {k : Nat}, onlyF V F i k l = true → onlyF V G i k l = true
  | [], _, _ => rfl
  | o :: r, k, h => by
    simp only [onlyF, Bool.and_eq_true, Bool.or_eq_true] at h ⊢
    refine ⟨?_, onlyF_mono hs h.2⟩
    rcases h.1 with ((h1 | h1) | h1) | h1
    · exact .inl (.inl (.inl h1))
    · exact .inl (.inl (.inr (hasN_iff.2 (hs _ (hasN_iff.1 h1)))))
    · exact .inl (.inr h1)
    · exact .inr h1

theorem altL_nil {V i : Nat} {Fl : List Nat} (h : ∀ k ∈ Fl, V.testBit k = true ∨ k = i) : altL V i Fl = [] := by
  unfold altL
  rw [List.filter_eq_nil_iff]
  intro k hk
  rcases h k hk with h1 | h1
  · simp [h1]
  · simp [h1]

theorem andT_nil {a : Prop} {l : List Nat} {f : List Nat → Prop} (hl : l = []) (ha : a) : andT a l f := by subst hl; exact ha

theorem andT_mk {a : Prop} {f : List Nat → Prop} : ∀ {l : List Nat}, a → f l → andT a l f
  | [], ha, _ => ha
  | _ :: _, ha, hf => ⟨ha, hf⟩

theorem altK_one {l : List Oper} {A : List Nat} {V : Nat} {SL : List (Nat × List Fct)} {R : Nat → List (Nat × List Fct) → Env → World → Prop} {j : Nat} {oj : Oper} (hj : l[j]? = some oj) (hv : V.testBit j = false) (hp : predsIn V oj = true)
    (hd : denG P l oj e w fun e' w' => pendK SL (A.getD j 0) w' (R (V ||| 2 ^ j) (keepSL (A.getD j 0) SL) e' w')) : ∀ {L : List Nat}, (∀ k ∈ L, k = j) → altK P l A V SL e w R L
  | [], _ => trivial
  | k :: r, h => by
    have hk := h k (by simp)
    subst hk
    refine ⟨?_, altK_one hj hv hp hd fun x hx => h x (by simp [hx])⟩
    rw [hj]
    dsimp only
    rw [hv, hp]
    exact hd

theorem keepSL_zero (SL : List (Nat × List Fct)) : keepSL 0 SL = SL := by
  unfold keepSL
  rw [List.filter_eq_self]
  intro x _
  simp

theorem isAlO_out {o : Oper} (h : isAlO o = true) : ∃ t d, o.op = .alloc t ∧ o.guard = none ∧ o.dst = some d := by
  unfold isAlO at h
  split at h
  · rename_i t d h1 h2 h3; exact ⟨t, d, h1, h2, h3⟩
  · cases h

theorem denG_alloc {all : List Oper} {oj : Oper} {t : TypeId} {d : Nat} {cs : Array Value} {K : Env → World → Prop} (h1 : oj.op = .alloc t) (h2 : oj.guard = none) (h3 : oj.dst = some d) (hz : zc P t = some cs)
    (hk : K (putE e (some d) (.pointer (some ⟨w.heap.size, 0, none⟩))) (w.alloc (.cells cs t))) : denG P all oj e w K := by
  unfold denG
  rw [h2]
  dsimp only
  unfold denOp
  rw [h1]
  dsimp only
  have hkn : Go.Den.allKn e (opnds (.alloc t)) = true := rfl
  rw [hkn, cond_true]
  unfold core
  rw [h1]
  dsimp only
  rw [hz, h3]
  dsimp only
  intro w' hw'
  subst hw'
  exact hk

theorem ER.forget (h : ER P σ le e) (d : Option Nat) : ER P σ (lput le d .un) e := by
  cases d with
  | none => exact h
  | some t =>
    refine ⟨?_, ?_, fun u => ?_⟩
    · simp only [lput]
      cases Nat.blt t le.n with
      | true => exact wf_tset _ _ _ _ h.wf
      | false => exact h.wf
    · simp only [lput]
      cases Nat.blt t le.n <;> exact h.sz
    · rw [lget_lput h.wf h.sz]
      by_cases hu : t = u ∧ t < le.n
      · rw [if_pos hu]; exact .inl rfl
      · rw [if_neg hu]; exact h.val u

/-- What is not known may be anything. -/
theorem ER.put_un (h : ER P σ le e) {d : Nat} (hd : lget le d = .un) (v : Value) : ER P σ le (putE e (some d) v) := by
  refine ⟨h.wf, h.sz, fun u => ?_⟩
  by_cases hu : d = u
  · subst hu; exact .inl hd
  · rw [get_putE, if_neg (by simpa using hu)]; exact h.val u

/-- What is known already is told. -/
theorem ER.tell (h : ER P σ le e) {d : Nat} {v : LV} (hv : VR P σ v (get e d)) : ER P σ (lput le (some d) v) e := by
  refine ⟨?_, ?_, fun u => ?_⟩
  · simp only [lput]
    cases Nat.blt d le.n with
    | true => exact wf_tset _ _ _ _ h.wf
    | false => exact h.wf
  · simp only [lput]
    cases Nat.blt d le.n <;> exact h.sz
  · rw [lget_lput h.wf h.sz]
    by_cases hu : d = u ∧ d < le.n
    · rw [if_pos hu, ← hu.1]; exact .inr hv
    · rw [if_neg hu]; exact h.val u

theorem lget_un (h : ER P σ le e) {d : Option Nat} {x : Nat} {v : LV} (hu : lget le x = .un) (hd : d ≠ some x) : lget (lput le d v) x = .un := by
  cases d with
  | none => exact hu
  | some t =>
    rw [lget_lput h.wf h.sz, if_neg (fun hh => hd (by rw [hh.1]))]
    exact hu

theorem apartF_out {l : List Oper} {j i d : Nat} {o oj : Oper} (hj : l[j]? = some oj) (hd : oj.dst = some d) (h : apartF l (some j) i o = true) : i ≠ j ∧ o.dst ≠ some d := by
  unfold apartF at h
  simp only [Bool.and_eq_true, Bool.not_eq_true'] at h
  refine ⟨fun hij => ?_, fun ho => ?_⟩
  · subst hij; simp at h
  · have h2 := h.2
    have : dstOf l j = some d := by unfold dstOf; rw [hj]; exact hd
    rw [this] at h2
    simp only [Bool.not_eq_true'] at h2
    rw [sameD_iff.2 ho] at h2
    cases h2

theorem or_swap (V a b : Nat) : (V ||| a) ||| b = (V ||| b) ||| a := by rw [Nat.or_assoc, Nat.or_comm a b, ← Nat.or_assoc]

/-- What a plan's run is to show: with no new block that floats; with one that has not come; with one that has come ahead. -/
def PN (P : Program) (call : CallE) (l : List Oper) (A : List Nat) (K : Env → World → Prop) (le' : LE) (H' : LHeap) (pl : List (Nat × Nat)) : Prop :=
  ∀ (V : Nat) (SL : List (Nat × List (Nat × Nat × LV))) (SL' : List (Nat × List Fct)) (σ : Sg) (le : LE) (e : Env) (H : LHeap) (w : World) (m : Nat) (Fl : List Nat), (∀ k ∈ Fl, V.testBit k = true) → 2 * pl.length + 1 ≤ m →
    planOk l A pl V none = true → ER P σ le e → MR P σ H w → All2 (SR σ) SL SL' → plL P call l A pl none SL le H = some (le', H') →
    (∀ σ' e' w', Ext σ σ' → ER P σ' le' e' → MR P σ' H' w' → K e' w') → denPl P l A K m pl Fl V SL' e w

def PF (P : Program) (call : CallE) (l : List Oper) (A : List Nat) (K : Env → World → Prop) (le' : LE) (H' : LHeap) (pl : List (Nat × Nat)) : Prop :=
  ∀ (j d : Nat) (t : TypeId) (oj : Oper) (V : Nat) (SL : List (Nat × List (Nat × Nat × LV))) (SL' : List (Nat × List Fct)) (σ : Sg) (le : LE) (e : Env) (H : LHeap) (w : World) (m : Nat) (Fl : List Nat),
    l[j]? = some oj → oj.op = .alloc t → oj.guard = none → oj.dst = some d → A.getD j 0 = 0 → V.testBit j = false → predsIn V oj = true → lget le d = .un → (zc P t).isSome = true →
    (∀ k ∈ Fl, V.testBit k = true ∨ k = j) → j ∈ Fl → 2 * pl.length + 2 ≤ m →
    planOk l A pl V (some j) = true → ER P σ le e → MR P σ H w → All2 (SR σ) SL SL' → plL P call l A pl (some j) SL le H = some (le', H') →
    (∀ σ' e' w', Ext σ σ' → ER P σ' le' e' → MR P σ' H' w' → K e' w') → denPl P l A K m pl Fl V SL' e w

def PE (P : Program) (call : CallE) (l : List Oper) (A : List Nat) (K : Env → World → Prop) (le' : LE) (H' : LHeap) (pl : List (Nat × Nat)) : Prop :=
  ∀ (j d hb : Nat) (t : TypeId) (cs : Array Value) (oj : Oper) (σ0 : Sg) (V : Nat) (SL : List (Nat × List (Nat × Nat × LV))) (SL' : List (Nat × List Fct)) (σ : Sg) (le : LE) (e : Env) (H : LHeap) (w : World) (m : Nat) (Fl : List Nat),
    l[j]? = some oj → oj.op = .alloc t → oj.guard = none → oj.dst = some d → A.getD j 0 = 0 → zc P t = some cs → get e d = .pointer (some ⟨hb, 0, none⟩) → Hid σ0 σ hb (.cells cs t) →
    (∀ k ∈ Fl, (V ||| 2 ^ j).testBit k = true) → 2 * pl.length + 1 ≤ m →
    planOk l A pl V (some j) = true → ER P σ le e → MR P σ H w → All2 (SR σ) SL SL' → plL P call l A pl (some j) SL le H = some (le', H') →
    (∀ σ' e' w', Ext σ0 σ' → ER P σ' le' e' → MR P σ' H' w' → K e' w') → denPl P l A K m pl Fl (V ||| 2 ^ j) SL' e w

theorem step_alloc {call : CallE} {all : List Oper} {oj : Oper} {t : TypeId} {d : Nat} (h1 : oj.op = .alloc t) (h2 : oj.guard = none) (h3 : oj.dst = some d) (h : stepL P call all oj le H = some (le', H')) :
    ∃ k b, zerosB P t 1 = some k ∧ H.new k = some (b, H') ∧ le' = lput le (some d) (.ptr b 0) := by
  unfold stepL at h
  rw [h1, h2] at h
  dsimp only at h
  unfold guardL at h
  rw [h2] at h
  dsimp only at h
  have e1 : opL P call le oj H = allocL P t H := by
    unfold opL
    rw [h1]
    dsimp only
    have : allKnL le (opnds (.alloc t)) = true := rfl
    rw [this, cond_true]
    unfold opW
    rw [h1]
  rw [e1] at h
  unfold allocL at h
  cases hz : zerosB P t 1 with
  | none => rw [hz] at h; simp at h
  | some k =>
    rw [hz] at h
    dsimp only at h
    unfold newL at h
    cases hn : H.new k with
    | none => rw [hn] at h; simp at h
    | some x =>
      obtain ⟨b, H1⟩ := x
      rw [hn] at h
      simp only [h3] at h
      have hk : isKn (LV.ptr b 0) = true := rfl
      rw [hk, cond_true] at h
      simp only [Option.some.injEq, Prod.mk.injEq] at h
      exact ⟨k, b, rfl, by rw [← h.2]; exact hn, h.1.symm⟩

theorem keepL_zero (SL : List (Nat × List (Nat × Nat × LV))) : keepL 0 SL = SL := by
  unfold keepL
  rw [List.filter_eq_self]
  intro x _
  simp

theorem lget_put_un (h : ER P σ le e) (d : Nat) : lget (lput le (some d) .un) d = .un := by
  rw [lget_lput h.wf h.sz]
  by_cases hd : d < le.n
  · rw [if_pos ⟨rfl, hd⟩]
  · rw [if_neg (fun hh => hd hh.2)]
    unfold lget
    rw [blt_false hd]; rfl

theorem beq_ne {r a b : Nat} (h : Nat.beq r a = true) (hab : a ≠ b) : Nat.beq r b = false := by
  rw [Nat.eq_of_beq_eq_true h, Bool.eq_false_iff]
  intro hb
  exact hab (Nat.eq_of_beq_eq_true hb)

theorem zero_blk {t : TypeId} {cs : Array Value} {k : Blk} (hz : zc P t = some cs) (hk : zerosB P t 1 = some k) : wfT (dep k.size) k.cells ∧ ∀ o lv, Blk.get P k o = some lv → ∃ v, VR1 σ lv v ∧ cs[o]? = some v := by
  unfold zerosB at hk
  obtain ⟨hn, hk⟩ := bif_some (x := k) hk
  have hn : 0 < zLen P t := by simpa [Nat.blt_eq] using hn
  simp only [Option.some.injEq] at hk; subst hk
  exact ⟨wf_nil _, zero_cells hn (fun z' hz' hs o ho => by
    rw [hz] at hz'; simp only [Option.some.injEq] at hz'; subst hz'
    rw [Nat.mod_eq_of_lt (by omega)])⟩

theorem PE_cons {call : CallE} {l : List Oper} {A : List Nat} (hcs : CS P call) (hp : plainOps l = true) {K : Env → World → Prop} {r i : Nat} {pl : List (Nat × Nat)} (ihN : PN P call l A K le' H' pl) (ihE : PE P call l A K le' H' pl) :
    PE P call l A K le' H' ((r, i) :: pl) := by
  intro j d hb t cs oj σ0 V SL SL' σ le e H w m Fl hj hop hg hd hA hz he hid hFl hm hpl hr hmr hs h hk
  simp only [List.length_cons] at hm
  obtain ⟨m, rfl⟩ : ∃ m', m = m' + 1 := ⟨m - 1, by omega⟩
  simp only [planOk] at hpl
  simp only [plL] at h
  simp only [denPl]
  cases ho : l[i]? with
  | none => rw [ho] at h; simp at h
  | some o =>
  rw [ho] at h hpl
  dsimp only at h hpl ⊢
  simp only [Bool.and_eq_true, Bool.not_eq_true'] at hpl
  obtain ⟨⟨hVi, hpre⟩, hc⟩ := hpl
  cases h2 : Nat.beq r 2 with
  | true => rw [h2, cond_true] at hc; simp at hc
  | false =>
  rw [h2, cond_false] at hc h
  rw [cond_false]
  cases h0 : Nat.beq r 0 with
  | true =>
    rw [h0, cond_true] at hc h
    have h3 := beq_ne h0 (b := 3) (by decide)
    simp only [Bool.and_eq_true] at hc
    obtain ⟨hij, hdo⟩ := apartF_out hj hd hc.1
    have hVi' : (V ||| 2 ^ j).testBit i = false := by rw [testBit_add, hVi]; simp; exact fun h => hij h.symm
    rw [h3, Bool.false_and, cond_false, hVi', predsIn_mono hpre]
    simp only [Bool.not_false, Bool.and_self, cond_true]
    split at h
    · rename_i le1 fs h5
      refine stepLR_K2 hr hmr h5 fun e' fs' hag hr' hf => ?_
      rw [or_swap]
      exact ihE j d hb t cs oj σ0 _ ((i, fs) :: SL) ((i, fs') :: SL') σ le1 e' H w m Fl hj hop hg hd hA hz (by rw [hag d hdo]; exact he) hid (fun k hk => by rw [or_swap, testBit_add, hFl k hk]; rfl) (by omega) hc.2 hr' hmr ⟨⟨rfl, hf⟩, hs⟩ h hk
    · simp at h
  | false =>
    rw [h0, cond_false] at hc h
    cases h1 : Nat.beq r 1 with
    | true =>
      rw [h1, cond_true] at hc
      have h3 := beq_ne h1 (b := 3) (by decide)
      simp only [Bool.and_eq_true] at hc
      obtain ⟨⟨hap, hon⟩, hpo⟩ := hc
      obtain ⟨hij, hdo⟩ := apartF_out hj hd hap
      unfold onlyO at hon
      simp only [Bool.and_eq_true] at hon
      have hVi' : (V ||| 2 ^ j).testBit i = false := by rw [testBit_add, hVi]; simp; exact fun h => hij h.symm
      rw [h3, Bool.false_and, cond_false, hVi', predsIn_mono hpre]
      simp only [Bool.not_false, Bool.and_self, cond_true, cond_false]
      rw [onlyF_mono (G := Fl) (fun k hk => by cases hk) hon.2, cond_true]
      obtain ⟨_, h⟩ := bif_some (x := (le', H')) h
      split at h
      · rename_i le1 H1 h5
        obtain ⟨h6, h⟩ := bif_some (x := (le', H')) h
        rw [h3, cond_false] at h
        rw [plain_step (List.all_eq_true.1 hp o (List.mem_of_getElem? ho))] at h5
        refine andT_nil (altL_nil fun k hk => .inl (hFl k hk)) ?_
        refine guardL_K2 hcs hr hmr h5 fun σ' e' w' hag hx hr' hm' => ?_
        have hs' : All2 (SR σ') SL SL' := SR.monoF hx.f hs
        refine pendL_K hm' ?_ h6 hs'
        rw [or_swap]
        exact ihE j d hb t cs oj σ0 _ _ _ σ' le1 e' H1 w' m Fl hj hop hg hd hA hz (by rw [hag d hdo]; exact he) (hid.ext hx) (fun k hk => by rw [or_swap, testBit_add, hFl k hk]; rfl) (by omega) hpo hr' hm' (keepL_rel hs') h hk
      · simp at h
    | false =>
      rw [h1, cond_false] at hc
      simp only [Bool.and_eq_true] at hc
      obtain ⟨⟨⟨h3, hji⟩, hon⟩, hpo⟩ := hc
      have hji := Nat.eq_of_beq_eq_true hji
      subst hji
      obtain rfl : oj = o := by rw [hj] at ho; exact Option.some.inj ho
      have hVj' : (V ||| 2 ^ j).testBit j = true := by rw [testBit_add]; simp
      rw [h3, hVj', Bool.and_self, cond_true]
      obtain ⟨_, h⟩ := bif_some (x := (le', H')) h
      split at h
      · rename_i le1 H1 h5
        obtain ⟨h6, h⟩ := bif_some (x := (le', H')) h
        rw [h3, cond_true, hA, keepL_zero] at h
        obtain ⟨k, b, hk1, hk2, rfl⟩ := step_alloc hop hg hd h5
        obtain ⟨hw1, hw2⟩ := zero_blk (σ := σ) hz hk1
        obtain ⟨σ3, hx3, hm3, hb3, hf3⟩ := hmr.reveal hid hk2 hw1 hw2
        exact ihN _ SL SL' σ3 _ e H1 w m Fl hFl (by omega) hpo (ER.tell (d := d) (v := .ptr b 0) (hr.monoF hf3) (show VR P σ3 (.ptr b 0) (get e d) from ⟨(hb, 0), hb3, he⟩)) hm3 (SR.monoF hf3 hs) h fun σ' e' w' hx => hk σ' e' w' (hx3.trans hx)
      · simp at h

theorem PF_cons {call : CallE} {l : List Oper} {A : List Nat} (hcs : CS P call) (hp : plainOps l = true) {K : Env → World → Prop} {r i : Nat} {pl : List (Nat × Nat)} (ihN : PN P call l A K le' H' pl) (ihF : PF P call l A K le' H' pl)
    (hE : PE P call l A K le' H' ((r, i) :: pl)) : PF P call l A K le' H' ((r, i) :: pl) := by
  intro j d t oj V SL SL' σ le e H w m Fl hj hop hg hd hA hVj hpj hu hz hFl hjF hm hpl hr hmr hs h hk
  have hpl0 := hpl
  have h00 := h
  simp only [List.length_cons] at hm
  obtain ⟨m, rfl⟩ : ∃ m', m = m' + 1 := ⟨m - 1, by omega⟩
  simp only [planOk] at hpl
  simp only [plL] at h
  simp only [denPl]
  cases ho : l[i]? with
  | none => rw [ho] at h; simp at h
  | some o =>
  rw [ho] at h hpl
  dsimp only at h hpl ⊢
  simp only [Bool.and_eq_true, Bool.not_eq_true'] at hpl
  obtain ⟨⟨hVi, hpre⟩, hc⟩ := hpl
  cases h2 : Nat.beq r 2 with
  | true => rw [h2, cond_true] at hc; simp at hc
  | false =>
  rw [h2, cond_false] at hc h
  rw [cond_false]
  rw [hVi, Bool.and_false, cond_false, hpre]
  simp only [Bool.not_false, Bool.and_self, cond_true]
  cases h0 : Nat.beq r 0 with
  | true =>
    rw [h0, cond_true] at hc h
    simp only [cond_true]
    simp only [Bool.and_eq_true] at hc
    obtain ⟨hij, hdo⟩ := apartF_out hj hd hc.1
    split at h
    · rename_i le1 fs h5
      obtain ⟨v, hv⟩ := stepLR_put h5
      refine stepLR_K2 hr hmr h5 fun e' fs' hag hr' hf => ?_
      exact ihF j d t oj _ ((i, fs) :: SL) ((i, fs') :: SL') σ le1 e' H w m Fl hj hop hg hd hA (by rw [testBit_add, hVj]; simp; exact hij) (predsIn_mono hpj) (by rw [hv]; exact lget_un hr hu hdo) hz
        (fun k hk => (hFl k hk).imp (fun h => by rw [testBit_add, h]; rfl) id) hjF (by omega) hc.2 hr' hmr ⟨⟨rfl, hf⟩, hs⟩ h hk
    · simp at h
  | false =>
    rw [h0, cond_false] at hc h
    simp only [cond_false]
    cases h1 : Nat.beq r 1 with
    | true =>
      rw [h1, cond_true] at hc
      have h3 := beq_ne h1 (b := 3) (by decide)
      simp only [Bool.and_eq_true] at hc
      obtain ⟨⟨hap, hon⟩, hpo⟩ := hc
      obtain ⟨hij, hdo⟩ := apartF_out hj hd hap
      unfold onlyO at hon
      simp only [Bool.and_eq_true] at hon
      rw [onlyF_mono (G := Fl) (fun k hk => by rw [List.mem_singleton.1 hk]; exact hjF) hon.1, cond_true]
      obtain ⟨hpd, h⟩ := bif_some (x := (le', H')) h
      rw [h3] at hpd
      have hpd : pendL P H 0 SL = true := by simpa using hpd
      split at h
      · rename_i le1 H1 h5
        obtain ⟨h6, h⟩ := bif_some (x := (le', H')) h
        rw [h3, cond_false] at h
        rw [plain_step (List.all_eq_true.1 hp o (List.mem_of_getElem? ho))] at h5
        obtain ⟨v, hv⟩ := guardL_put h5
        refine andT_mk ?_ (altK_one hj hVj hpj ?_ fun k hk => ?_)
        · refine guardL_K2 hcs hr hmr h5 fun σ' e' w' hag hx hr' hm' => ?_
          have hs' : All2 (SR σ') SL SL' := SR.monoF hx.f hs
          refine pendL_K hm' ?_ h6 hs'
          exact ihF j d t oj _ _ _ σ' le1 e' H1 w' m Fl hj hop hg hd hA (by rw [testBit_add, hVj]; simp; exact hij) (predsIn_mono hpj) (by rw [hv]; exact lget_un hr hu hdo) hz
            (fun k hk => (hFl k hk).imp (fun h => by rw [testBit_add, h]; rfl) id) hjF (by omega) hpo hr' hm' (keepL_rel hs') h fun σ'' e'' w'' hx' => hk σ'' e'' w'' (hx.trans hx')
        · obtain ⟨cs, hcs'⟩ := Option.isSome_iff_exists.1 hz
          refine denG_alloc hop hg hd hcs' ?_
          rw [hA, keepSL_zero]
          refine pendL_K (hmr.hide cs t) ?_ hpd (SR.monoF hide_f hs)
          exact hE j d w.heap.size t cs oj σ V SL SL' _ le _ H _ m Fl hj hop hg hd hA hcs' (by rw [get_putE, if_pos rfl]) (Hid.of (hmr.fz.hi _ (Nat.le_refl _)))
            (fun k hk => by rw [testBit_add]; rcases hFl k hk with h | h; rw [h]; rfl; rw [h]; simp) (by simp only [List.length_cons]; omega) hpl0 ((hr.monoF hide_f).put_un hu _) (hmr.hide cs t) (SR.monoF hide_f hs) h00 hk
        · unfold altL at hk
          rw [List.mem_filter] at hk
          rcases hFl k hk.1 with h7 | h7
          · have := hk.2; rw [h7] at this; simp at this
          · exact h7
      · simp at h
    | false =>
      rw [h1, cond_false] at hc
      simp only [Bool.and_eq_true] at hc
      obtain ⟨⟨⟨h3, hji⟩, hon⟩, hpo⟩ := hc
      have hji := Nat.eq_of_beq_eq_true hji
      subst hji
      rw [onlyF_mono (G := Fl) (fun k hk => by rw [List.mem_singleton.1 hk]; exact hjF) hon, cond_true]
      obtain ⟨_, h⟩ := bif_some (x := (le', H')) h
      split at h
      · rename_i le1 H1 h5
        obtain ⟨h6, h⟩ := bif_some (x := (le', H')) h
        rw [h3, cond_true] at h
        rw [plain_step (List.all_eq_true.1 hp o (List.mem_of_getElem? ho))] at h5
        refine andT_nil (altL_nil hFl) ?_
        refine guardL_K2 hcs hr hmr h5 fun σ' e' w' hag hx hr' hm' => ?_
        have hs' : All2 (SR σ') SL SL' := SR.monoF hx.f hs
        refine pendL_K hm' ?_ h6 hs'
        exact ihN _ _ _ σ' le1 e' H1 w' m Fl (fun k hk => by rw [testBit_add]; rcases hFl k hk with h | h; rw [h]; rfl; rw [h]; simp) (by omega) hpo hr' hm' (keepL_rel hs') h fun σ'' e'' w'' hx' => hk σ'' e'' w'' (hx.trans hx')
      · simp at h

theorem PN_cons {call : CallE} {l : List Oper} {A : List Nat} (hcs : CS P call) (hp : plainOps l = true) {K : Env → World → Prop} {r i : Nat} {pl : List (Nat × Nat)} (ihN : PN P call l A K le' H' pl) (ihF : PF P call l A K le' H' pl) :
    PN P call l A K le' H' ((r, i) :: pl) := by
  intro V SL SL' σ le e H w m Fl hFl hm hpl hr hmr hs h hk
  simp only [List.length_cons] at hm
  obtain ⟨m, rfl⟩ : ∃ m', m = m' + 1 := ⟨m - 1, by omega⟩
  simp only [planOk] at hpl
  simp only [plL] at h
  simp only [denPl]
  cases ho : l[i]? with
  | none => rw [ho] at h; simp at h
  | some o =>
  rw [ho] at h hpl
  dsimp only at h hpl ⊢
  simp only [Bool.and_eq_true, Bool.not_eq_true'] at hpl
  obtain ⟨⟨hVi, hpre⟩, hc⟩ := hpl
  cases h2 : Nat.beq r 2 with
  | true =>
    rw [h2, cond_true] at hc
    rw [cond_true]
    have h0 := beq_ne h2 (b := 0) (by decide)
    rw [h0, cond_false, h2, cond_true] at h
    simp only [Bool.and_eq_true] at hc
    obtain ⟨⟨⟨_, hal⟩, hA⟩, hpo⟩ := hc
    obtain ⟨t, d, ha1, ha2, ha3⟩ := isAlO_out hal
    obtain ⟨hzc, h⟩ := bif_some (x := (le', H')) h
    unfold zcOk at hzc
    rw [ha1] at hzc
    rw [ha3] at h
    exact ihF i d t o V SL SL' σ _ e H w m (i :: Fl) ho ha1 ha2 ha3 (Nat.eq_of_beq_eq_true hA) hVi hpre (lget_put_un hr d) hzc
      (fun k hk => by rcases List.mem_cons.1 hk with h | h; exact .inr h; exact .inl (hFl k h)) (by simp) (by omega) hpo (hr.forget _) hmr hs h hk
  | false =>
  rw [h2, cond_false] at hc h
  rw [cond_false]
  rw [hVi, Bool.and_false, cond_false, hpre]
  simp only [Bool.not_false, Bool.and_self, cond_true]
  cases h0 : Nat.beq r 0 with
  | true =>
    rw [h0, cond_true] at hc h
    simp only [cond_true]
    simp only [Bool.and_eq_true] at hc
    split at h
    · rename_i le1 fs h5
      refine stepLR_K2 hr hmr h5 fun e' fs' hag hr' hf => ?_
      exact ihN _ ((i, fs) :: SL) ((i, fs') :: SL') σ le1 e' H w m Fl (fun k hk => by rw [testBit_add, hFl k hk]; rfl) (by omega) hc.2 hr' hmr ⟨⟨rfl, hf⟩, hs⟩ h hk
    · simp at h
  | false =>
    rw [h0, cond_false] at hc h
    simp only [cond_false]
    cases h1 : Nat.beq r 1 with
    | true =>
      rw [h1, cond_true] at hc
      have h3 := beq_ne h1 (b := 3) (by decide)
      simp only [Bool.and_eq_true] at hc
      obtain ⟨⟨hap, hon⟩, hpo⟩ := hc
      unfold onlyO at hon
      dsimp only at hon
      rw [onlyF_mono (G := Fl) (fun k hk => by cases hk) hon, cond_true]
      obtain ⟨_, h⟩ := bif_some (x := (le', H')) h
      split at h
      · rename_i le1 H1 h5
        obtain ⟨h6, h⟩ := bif_some (x := (le', H')) h
        rw [h3, cond_false] at h
        rw [plain_step (List.all_eq_true.1 hp o (List.mem_of_getElem? ho))] at h5
        refine andT_nil (altL_nil fun k hk => .inl (hFl k hk)) ?_
        refine guardL_K2 hcs hr hmr h5 fun σ' e' w' hag hx hr' hm' => ?_
        have hs' : All2 (SR σ') SL SL' := SR.monoF hx.f hs
        refine pendL_K hm' ?_ h6 hs'
        exact ihN _ _ _ σ' le1 e' H1 w' m Fl (fun k hk => by rw [testBit_add, hFl k hk]; rfl) (by omega) hpo hr' hm' (keepL_rel hs') h fun σ'' e'' w'' hx' => hk σ'' e'' w'' (hx.trans hx')
      · simp at h
    | false =>
      rw [h1, cond_false] at hc
      simp at hc

theorem plans_ok {call : CallE} {l : List Oper} {A : List Nat} (hcs : CS P call) (hp : plainOps l = true) {K : Env → World → Prop} : ∀ pl, PN P call l A K le' H' pl ∧ PF P call l A K le' H' pl ∧ PE P call l A K le' H' pl
  | [] => by
    refine ⟨?_, ?_, ?_⟩
    · intro V SL SL' σ le e H w m Fl hFl hm hpl hr hmr hs h hk
      obtain ⟨m, rfl⟩ : ∃ m', m = m' + 1 := ⟨m - 1, by simp at hm; omega⟩
      simp only [plL, Option.some.injEq, Prod.mk.injEq] at h
      obtain ⟨rfl, rfl⟩ := h
      simp only [planOk, Bool.and_eq_true] at hpl
      simp only [denPl, hpl.1, cond_true]
      exact hk σ e w (Ext.refl σ) hr hmr
    · intro j d t oj V SL SL' σ le e H w m Fl hj hop hg hd hA hVj hpj hu hz hFl hjF hm hpl
      simp [planOk] at hpl
    · intro j d hb t cs oj σ0 V SL SL' σ le e H w m Fl hj hop hg hd hA hz he hid hFl hm hpl
      simp [planOk] at hpl
  | (r, i) :: pl => by
    obtain ⟨hN, hF, hE⟩ := plans_ok hcs hp pl
    have hE' := PE_cons (r := r) (i := i) hcs hp hN hE
    exact ⟨PN_cons hcs hp hN hF, PF_cons hcs hp hN hF hE', hE'⟩

theorem fuelOf_ge : ∀ pl : List (Nat × Nat), 2 * pl.length + 1 ≤ fuelOf pl
  | [] => Nat.le_refl _
  | _ :: r => by have := fuelOf_ge r; simp only [fuelOf, List.length_cons]; omega

theorem plL_n {call : CallE} {l : List Oper} {A : List Nat} (hp : plainOps l = true) : ∀ {pl : List (Nat × Nat)} {fl : Option Nat} {SL : List (Nat × List (Nat × Nat × LV))} {le : LE} {H : LHeap}, plL P call l A pl fl SL le H = some (le', H') →
    le'.n = le.n ∧ le'.rd = le.rd ∧ le'.df = le.df
  | [], fl, SL, le, H, h => by
    simp only [plL, Option.some.injEq, Prod.mk.injEq] at h
    rw [← h.1]; exact ⟨rfl, rfl, rfl⟩
  | (r, i) :: pl, fl, SL, le, H, h => by
    simp only [plL] at h
    split at h
    · simp at h
    · rename_i o ho
      cases hr : Nat.beq r 0 with
      | true =>
        rw [hr, cond_true] at h
        split at h
        · rename_i le1 fs h1
          have a := stepLR_n h1
          have b := plL_n hp h
          exact ⟨b.1.trans a.1, b.2.1.trans a.2.1, b.2.2.trans a.2.2⟩
        · simp at h
      | false =>
        rw [hr, cond_false] at h
        cases hr2 : Nat.beq r 2 with
        | true =>
          rw [hr2, cond_true] at h
          obtain ⟨_, h⟩ := bif_some (x := (le', H')) h
          have a := lput_n le o.dst .un
          have b := plL_n hp h
          exact ⟨b.1.trans a.1, b.2.1.trans a.2.2.1, b.2.2.trans a.2.1⟩
        | false =>
        rw [hr2, cond_false] at h
        obtain ⟨_, h⟩ := bif_some (x := (le', H')) h
        split at h
        · rename_i le1 H1 h1
          obtain ⟨_, h⟩ := bif_some (x := (le', H')) h
          have a := opL_n h1
          rw [plain_step (List.all_eq_true.1 hp o (List.mem_of_getElem? ho))] at h1
          have c := guardL_df h1
          have b := plL_n hp h
          exact ⟨b.1.trans a.1, b.2.1.trans a.2, b.2.2.trans c⟩
        · simp at h

theorem plL_D {call : CallE} (hcs : CS P call) {l : List Oper} {A : List Nat} (hp : plainOps l = true) {K : Env → World → Prop} {pl : List (Nat × Nat)} {le : LE} (hpl : planOk l A pl 0 none = true) (hr : ER P σ le e) (hm : MR P σ H w)
    (h : plL P call l A pl none [] le H = some (le', H')) (hk : ∀ σ' e' w', Ext σ σ' → ER P σ' le' e' → MR P σ' H' w' → K e' w') : denPl P l A K (fuelOf pl) pl [] 0 [] e w :=
  (plans_ok hcs hp pl).1 0 [] [] σ le e H w (fuelOf pl) [] (fun k hk => by cases hk) (fuelOf_ge pl) hpl hr hm trivial h hk

/-- A region. -/
theorem regL_wp {call : CallE} {pls : Plans} {id : Nat} {ops : Array Oper} {dr : Bool} {out : Out} {r : Option Nat} {Q : Exit → Act → World → Prop} (hcs : CS P call) (hA : AR P σ le a) (hrd : le.rd = r.isSome) (hm : MR P σ H w)
    (hd : ops.toList.all (dstLt le.n) = true) (h : regL P pls call id ops.toList dr le H = some (out, le', H'))
    (hn : ∀ σ' a' w', Ext σ σ' → AR P σ' le' a' → MR P σ' H' w' → le'.n = le.n → le'.rd = le.rd → out = .nx → Q .normal a' w') : (Code.region id ops dr).wpIn (FW r) 0 P Q a w := by
  unfold regL at h
  cases dr with
  | false =>
    simp only [cond_false] at h
    split at h
    · rename_i le1 H1 h1
      simp only [Option.some.injEq, Prod.mk.injEq] at h
      obtain ⟨rfl, rfl, rfl⟩ := h
      refine wpIn_region_list ?_
      have := opsL_wp (r := r) (Q := Q) hcs hA hrd hm hd h1 fun σ' a' w' hx hA' hm' h3 h4 => hn σ' a' w' hx hA' hm' h3 h4 rfl
      have e0 : ops.toList.toArray = ops := by simp
      rw [e0] at this
      exact this
    · simp at h
  | true =>
    simp only [cond_true] at h
    split at h
    · rename_i le1 H1 h1
      simp only [Option.some.injEq, Prod.mk.injEq] at h
      obtain ⟨ho, hl, hH⟩ := h
      subst hl; subst hH
      split at h1
      · simp at h1
      · rename_i pl hpl
        obtain ⟨hc, h1⟩ := bif_some (x := (le1, H1)) h1
        simp only [Bool.and_eq_true] at hc
        obtain ⟨h2, h3, h4, h5⟩ := hc
        obtain ⟨e, hr, hs⟩ := hA.env
        have hn' := plL_n h5 h1
        refine denDraw_wp (pl := planOf pls id) (K := NX P σ le1 H1) (D := a.defers) hd (fun e' a' w' hs' hk => ?_) hs (fun t ht => ?_) ?_
        · obtain ⟨σ', hx, hr', hm'⟩ := hk
          refine hn σ' a' w' hx (AR.of (D := a.defers) hr' (by rw [hn'.1]; exact hs') ?_) hm' hn'.1 hn'.2.1 ho.symm
          rw [hn'.2.2]; exact hA.d.imp fun _ _ => DR1.mono hx
        · rcases hs.2.2 t with h6 | h6
          · exact absurd h6 ht
          · rw [← hs.2.1]; exact (Array.getElem?_eq_some_iff.1 h6).1
        · unfold denDraw
          rw [h2, h3]
          simp only [Bool.and_self, cond_true]
          intro w' hw'
          subst hw'
          exact plL_D hcs h5 h4 hr hm.drew h1 fun σ' e' w' hx hr' hm' => ⟨σ', hx, hr', hm'⟩
    · simp at h

end
end Go.Den
