/- Den4d: soundness of a plan for a region that draws its order. Own work; a part of the proof of a claim. Conditions: none beyond those that stand in each theorem. -/
import Derived.Test.YteganidclpobeaaGreatDen4c
import Derived.OrdersIn
/- Den4d: soundness of a plan for a region that draws its order. -/
set_option linter.unusedSimpArgs false
set_option linter.unusedVariables false
namespace Go.Den
open Go

def Ls (listed : Array Bool) (i : Nat) : Prop := listed.getD i false = true

theorem Ls_set {listed : Array Bool} {i j : Nat} (hi : i < listed.size) : Ls (listed.setIfInBounds i true) j ↔ i = j ∨ Ls listed j := by
  unfold Ls
  by_cases h : i = j
  · subst h; simp [hi]
  · simp [Array.getElem?_setIfInBounds_ne h, h]

/-- How many of the first k are not listed yet. -/
def unl (listed : Array Bool) : Nat → Nat
  | 0 => 0
  | k + 1 => (bif listed.getD k false then 0 else 1) + unl listed k

theorem unl_set {listed : Array Bool} {i : Nat} (hi : i < listed.size) (hn : ¬ Ls listed i) : ∀ k, (i < k → unl (listed.setIfInBounds i true) k + 1 = unl listed k) ∧ (k ≤ i → unl (listed.setIfInBounds i true) k = unl listed k)
  | 0 => ⟨fun h => absurd h (by omega), fun _ => rfl⟩
  | k + 1 => by
    obtain ⟨h1, h2⟩ := unl_set hi hn k
    have hn' : listed.getD i false = false := by simpa [Ls] using hn
    by_cases hk : i = k
    · subst hk
      refine ⟨fun _ => ?_, fun h => absurd h (by omega)⟩
      have e1 : (listed.setIfInBounds i true).getD i false = true := by simp [hi]
      simp only [unl, e1, hn', cond_true, cond_false]
      have := h2 (Nat.le_refl _)
      omega
    · have e1 : (listed.setIfInBounds i true).getD k false = listed.getD k false := getD_set_ne false hk
      simp only [unl, e1]
      exact ⟨fun h => by have := h1 (by omega); omega, fun h => by have := h2 (by omega); omega⟩

theorem unl_zero {listed : Array Bool} : ∀ {k}, unl listed k = 0 → ∀ i, i < k → Ls listed i
  | 0, _, i, h => absurd h (by omega)
  | k + 1, h, i, hi => by
    simp only [unl] at h
    cases hk : listed.getD k false with
    | true =>
      by_cases hik : i = k
      · subst hik; exact hk
      · exact unl_zero (by omega : unl listed k = 0) i (by omega)
    | false => rw [hk] at h; simp at h

theorem testBit_add {V i j : Nat} : (V ||| 2 ^ i).testBit j = (V.testBit j || decide (i = j)) := by
  rw [Nat.testBit_or, Nat.testBit_two_pow]

theorem getD_true {listed : Array Bool} {i : Nat} (h : i < listed.size) : listed.getD i true = listed.getD i false := by
  simp [h]

section
variable {P : Program} {ops : Array Oper} {D : List Deferred} {r : Option Nat} {n : Nat} {K : Env → World → Prop} {Q : Exit → Act → World → Prop} {pl0 : List (Nat × Nat)}

structure Inv (P : Program) (ops : Array Oper) (D : List Deferred) (n : Nat) (pl0 : List (Nat × Nat)) (listed : Array Bool) (V : Nat) (SL : List (Nat × List Fct)) (e : Env) (a : Act) (w : World) : Prop where
  size : listed.size = ops.size
  sub : ∀ i, Ls listed i → V.testBit i = true
  down : ∀ i o, ops.toList[i]? = some o → Ls listed i → ∀ x ∈ o.after.toList, bE x = true → Ls listed x.on
  downV : ∀ i o, ops.toList[i]? = some o → V.testBit i = true → ∀ x ∈ o.after.toList, bE x = true → V.testBit x.on = true
  vlt : ∀ i, V.testBit i = true → i < ops.size
  defers : a.defers = D
  tsize : a.tmps.size = n
  en : ∀ t, get e t ≠ unk → t < n
  agree : ∀ t, (∀ i o, V.testBit i = true → ¬ Ls listed i → ops.toList[i]? = some o → o.dst ≠ some t) → get e t = unk ∨ a.tmps[t]? = some (get e t)
  pend : ∀ i o, V.testBit i = true → ¬ Ls listed i → ops.toList[i]? = some o → virIn pl0 i = true ∧ ∃ fs v, (i, fs) ∈ SL ∧ (∀ f ∈ fs, f.holds w) ∧ (∀ d, o.dst = some d → get e d = v) ∧
      ∀ a' w', AgrL (looksL ops.toList o) e a' → (∀ f ∈ fs, f.holds w') → Yld P ops.toList o a' w' v

variable (hst : statI ops.toList (ancs ops.toList []) pl0 0 ops.toList = true) (hdl : ops.toList.all (dstLt n) = true)
include hst

theorem st_lt (j : Nat) (o : Oper) (h : ops.toList[j]? = some o) : ∀ e ∈ o.after.toList, bE e = true → e.on < j := by
  have := (statI_spec hst j o h).1
  simpa using this

theorem st_pair {i j : Nat} {oi oj : Oper} (hi : ops.toList[i]? = some oi) (hj : ops.toList[j]? = some oj) : pairOk ops.toList (ancs ops.toList []) pl0 i oi j oj = true := by
  have := (statI_spec hst i oi hi).2.2.2
  rw [Nat.zero_add] at this
  have := statJ_spec this j oj hj
  rwa [Nat.zero_add] at this

theorem st_sel {i : Nat} {oi : Oper} (hi : ops.toList[i]? = some oi) : ∀ cs b, oi.op ≠ .select cs b := by
  have := (statI_spec hst i oi hi).2.1
  intro cs b h
  rw [isSel, h] at this
  cases this

theorem st_vir {i : Nat} {oi : Oper} (hi : ops.toList[i]? = some oi) (hv : virIn pl0 i = true) : actIn pl0 i = false := by
  have := (statI_spec hst i oi hi).2.2.1
  rw [Nat.zero_add] at this
  cases h : actIn pl0 i with
  | false => rfl
  | true => exact (this h hv).elim

/-- If i writes t, and is carried out ahead: whoever looks at t waits on i; i does not look at it itself; nobody else who is carried out ahead writes it. -/
theorem vir_looks {i j : Nat} {oi oj : Oper} {t : Nat} (hi : ops.toList[i]? = some oi) (hj : ops.toList[j]? = some oj) (hv : virIn pl0 i = true) (hd : oi.dst = some t) (hl : t ∈ looksL ops.toList oj) :
    ((ancs ops.toList []).getD j 0).testBit i = true := by
  have hp := st_pair hst hi hj
  have ha := st_vir hst hi hv
  unfold pairOk at hp
  rw [hd] at hp
  simp only at hp
  cases hb : Nat.beq i j with
  | true =>
    have hij := Nat.eq_of_beq_eq_true hb
    subst hij
    obtain rfl : oi = oj := by rw [hi] at hj; exact Option.some.inj hj
    simp only [Nat.beq_eq_true_eq, hb, cond_true, ha, Bool.false_or, Bool.not_eq_true'] at hp
    rw [hasN_iff.2 hl] at hp
    cases hp
  | false =>
    rw [hb] at hp
    simp only [cond_false, ha, Bool.and_false, Bool.or_false, Bool.and_eq_true, Bool.or_eq_true, Bool.not_eq_true'] at hp
    rcases hp.1 with h | h
    · rw [hasN_iff.2 hl] at h; cases h
    · exact h

theorem dst_ne {i j : Nat} {oi oj : Oper} {t : Nat} (hi : ops.toList[i]? = some oi) (hj : ops.toList[j]? = some oj) (hv : virIn pl0 i = true) (hij : i ≠ j) (hd : oi.dst = some t) (hd' : oj.dst = some t) :
    ((ancs ops.toList []).getD j 0).testBit i = true ∧ actIn pl0 j = true := by
  have hp := st_pair hst hi hj
  have ha := st_vir hst hi hv
  unfold pairOk at hp
  rw [hd] at hp
  simp only at hp
  have hb : Nat.beq i j = false := by rw [Bool.eq_false_iff]; intro hb; exact hij (Nat.eq_of_beq_eq_true hb)
  rw [hb] at hp
  simp only [cond_false, ha, Bool.and_false, Bool.or_false, Bool.and_eq_true, Bool.or_eq_true, Bool.not_eq_true'] at hp
  rcases hp.2 with h | h
  · rw [sameD_iff.2 hd'] at h; cases h
  · exact h

/-- .. and j, which writes t, against one that is carried out ahead and looks at t. -/
theorem act_looks {i j : Nat} {oi oj : Oper} {t : Nat} (hi : ops.toList[i]? = some oi) (hj : ops.toList[j]? = some oj) (hij : j ≠ i) (hd : oj.dst = some t) (hl : t ∈ looksL ops.toList oi) :
    ((ancs ops.toList []).getD i 0).testBit j = true ∨ ((ancs ops.toList []).getD j 0).testBit i = true := by
  have hp := st_pair hst hj hi
  unfold pairOk at hp
  rw [hd] at hp
  simp only at hp
  have hb : Nat.beq j i = false := by rw [Bool.eq_false_iff]; intro hb; exact hij (Nat.eq_of_beq_eq_true hb)
  rw [hb] at hp
  simp only [cond_false, Bool.and_eq_true, Bool.or_eq_true, Bool.not_eq_true'] at hp
  rcases hp.1 with (h | h) | h
  · rw [hasN_iff.2 hl] at h; cases h
  · exact .inl h
  · exact .inr h.1

variable {listed : Array Bool} {V : Nat} {SL : List (Nat × List Fct)} {e : Env} {a : Act} {w : World}

/-- Of an operation that may come now: whoever it waits on is listed. -/
theorem anc_listed (I : Inv P ops D n pl0 listed V SL e a w) {j : Nat} {oj : Oper} (hj : ops.toList[j]? = some oj) (hr : ∀ x ∈ oj.after.toList, bE x = true → Ls listed x.on) {i : Nat}
    (h : ((ancs ops.toList []).getD j 0).testBit i = true) : Ls listed i :=
  anc_down (D := Ls listed) (fun j o ho hd => I.down j o ho hd) (st_lt hst) j oj hj hr i h

theorem anc_V (I : Inv P ops D n pl0 listed V SL e a w) {j : Nat} {oj : Oper} (hj : ops.toList[j]? = some oj) (hr : V.testBit j = true) {i : Nat}
    (h : ((ancs ops.toList []).getD j 0).testBit i = true) : V.testBit i = true :=
  anc_down (D := fun i => V.testBit i = true) (fun j o ho hd => I.downV j o ho hd) (st_lt hst) j oj hj (I.downV j oj hj hr) i h

/-- What an operation that may come now looks at is there. -/
theorem looks_agree (I : Inv P ops D n pl0 listed V SL e a w) {j : Nat} {oj : Oper} (hj : ops.toList[j]? = some oj) (hr : ∀ x ∈ oj.after.toList, bE x = true → Ls listed x.on) :
    AgrL (looksL ops.toList oj) e a := by
  intro t ht
  refine I.agree t fun i o hv hn ho hd => ?_
  exact hn (anc_listed hst I hj hr (vir_looks hst ho hj (I.pend i o hv hn ho).1 hd ht))

include hdl in
/-- The plan goes on ahead until number j has been carried out ahead, or stands next. -/
theorem advance {j : Nat} {oj : Oper} (hj : ops.toList[j]? = some oj) (hr : ∀ x ∈ oj.after.toList, bE x = true → Ls listed x.on) :
    ∀ (m : Nat) (pl : List (Nat × Nat)) (Fl : List Nat) (V : Nat) (SL : List (Nat × List Fct)) (e : Env), Inv P ops D n pl0 listed V SL e a w → (∀ i, virIn pl i = true → virIn pl0 i = true) → denPl P ops.toList (ancs ops.toList []) K m pl Fl V SL e w →
      (∃ m' pl' Fl' V' SL' e', Inv P ops D n pl0 listed V' SL' e' a w ∧ (∀ i, virIn pl' i = true → virIn pl0 i = true) ∧ denPl P ops.toList (ancs ops.toList []) K m' pl' Fl' V' SL' e' w ∧ V'.testBit j = true) ∨
      (∃ m' pl' Fl' V' SL' e', Inv P ops D n pl0 listed V' SL' e' a w ∧ (∀ i, virIn pl' i = true → virIn pl0 i = true) ∧ V'.testBit j = false ∧
        denG P ops.toList oj e' w fun e'' w' => pendK SL' ((ancs ops.toList []).getD j 0) w' (denPl P ops.toList (ancs ops.toList []) K m' pl' Fl' (V' ||| 2 ^ j) (keepSL ((ancs ops.toList []).getD j 0) SL') e'' w'))
  | 0, _, _, _, _, _, _, _, h => h.elim
  | m + 1, [], Fl, V, SL, e, I, hv, h => by
    left
    refine ⟨m + 1, [], Fl, V, SL, e, I, hv, h, ?_⟩
    simp only [denPl] at h
    cases hb : Nat.beq V (2 ^ ops.toList.length - 1) with
    | false => rw [hb] at h; exact h.elim
    | true =>
      rw [Nat.eq_of_beq_eq_true hb, Nat.testBit_two_pow_sub_one]
      have : j < ops.toList.length := (List.getElem?_eq_some_iff.1 hj).1
      simpa using this
  | m + 1, (r, i) :: pl, Fl, V, SL, e, I, hv, h => by
    cases hVj : V.testBit j with
    | true => exact .inl ⟨_, _, Fl, V, SL, e, I, hv, h, hVj⟩
    | false =>
      have h' := h
      simp only [denPl] at h
      split at h
      · exact h.elim
      · rename_i o ho
        have hv' : ∀ k, virIn pl k = true → virIn pl0 k = true := fun k hk => hv k (by
          unfold virIn at hk ⊢
          rw [List.any_cons, hk, Bool.or_true])
        cases h2 : Nat.beq r 2 with
        | true => rw [h2] at h; exact advance hj hr m pl (i :: Fl) V SL e I hv' h
        | false =>
        rw [h2, cond_false] at h
        cases h3 : (Nat.beq r 3 && V.testBit i) with
        | true => rw [h3] at h; exact advance hj hr m pl Fl V SL e I hv' h
        | false =>
        rw [h3, cond_false] at h
        cases hc : (!V.testBit i && predsIn V o) with
        | false => rw [hc] at h; exact h.elim
        | true =>
          rw [hc] at h
          simp only [cond_true] at h
          simp only [Bool.and_eq_true, Bool.not_eq_true'] at hc
          obtain ⟨hVi, hpre⟩ := hc
          have hpreV : ∀ x ∈ o.after.toList, bE x = true → V.testBit x.on = true := fun x hx hb => by
            have := List.all_eq_true.1 hpre x hx
            rw [hb] at this
            simpa using this
          have hjpre : predsIn V oj = true := by
            unfold predsIn
            rw [List.all_eq_true]
            intro x hx
            cases hb : bE x with
            | false => simp
            | true => simp [I.sub _ (hr x hx hb)]
          cases hr0 : Nat.beq r 0 with
          | true =>
            rw [hr0] at h
            simp only [cond_true] at h
            have hvi : virIn pl0 i = true := hv i (by
              unfold virIn
              rw [List.any_cons]
              simp [Nat.eq_of_beq_eq_true hr0])
            obtain ⟨e', v, fs, he', hk, hf, hy⟩ := denGR_out h
            have hnl : ¬ Ls listed i := fun hl => by rw [I.sub i hl] at hVi; cases hVi
            have hin : i < ops.size := by
              have : i < ops.toList.length := (List.getElem?_eq_some_iff.1 ho).1
              simpa using this
            have same : ∀ k ok, ops.toList[k]? = some ok → V.testBit k = true → ∀ t ∈ looksL ops.toList ok, get e' t = get e t := fun k ok hok hVk t ht => by
              rw [he' t]
              by_cases hd : o.dst = some t
              · exfalso
                have := vir_looks hst ho hok hvi hd ht
                have := anc_V hst I hok hVk this
                rw [hVi] at this; cases this
              · rw [if_neg hd]
            have self : ∀ t ∈ looksL ops.toList o, get e' t = get e t := fun t ht => by
              rw [he' t]
              by_cases hd : o.dst = some t
              · exfalso
                have h1 := vir_looks hst ho ho hvi hd ht
                have h2 := anc_down (D := fun k => k < i ∨ V.testBit k = true) (fun j o' hj' hd' x hx hb => by
                  rcases hd' with hd' | hd'
                  · exact .inl (Nat.lt_trans (st_lt hst j o' hj' x hx hb) hd')
                  · exact .inr (I.downV j o' hj' hd' x hx hb)) (st_lt hst) i o ho (fun x hx hb => .inl (st_lt hst i o ho x hx hb)) i h1
                rcases h2 with h2 | h2
                · omega
                · rw [hVi] at h2; cases h2
              · rw [if_neg hd]
            have I' : Inv P ops D n pl0 listed (V ||| 2 ^ i) ((i, fs) :: SL) e' a w := by
              refine ⟨I.size, fun k hk => by rw [testBit_add, I.sub k hk]; rfl, I.down, ?_, ?_, I.defers, I.tsize, ?_, ?_, ?_⟩
              · intro k ok hok hVk x hx hb
                rw [testBit_add, Bool.or_eq_true, decide_eq_true_eq] at hVk
                rw [testBit_add]
                rcases hVk with hVk | rfl
                · rw [I.downV k ok hok hVk x hx hb]; rfl
                · obtain rfl : o = ok := by rw [ho] at hok; exact Option.some.inj hok
                  rw [hpreV x hx hb]; rfl
              · intro k hk
                rw [testBit_add, Bool.or_eq_true, decide_eq_true_eq] at hk
                rcases hk with hk | rfl
                · exact I.vlt k hk
                · exact hin
              · intro t ht
                rw [he' t] at ht
                by_cases hd : o.dst = some t
                · have := List.all_eq_true.1 hdl o (List.mem_of_getElem? ho)
                  exact dstLt_spec this t hd
                · rw [if_neg hd] at ht; exact I.en t ht
              · intro t ht
                have hd : o.dst ≠ some t := ht i o (by rw [testBit_add]; simp) hnl ho
                rw [he' t, if_neg hd]
                exact I.agree t fun k ok hVk hnk hok => ht k ok (by rw [testBit_add, hVk]; rfl) hnk hok
              · intro k ok hVk hnk hok
                rw [testBit_add, Bool.or_eq_true, decide_eq_true_eq] at hVk
                by_cases hki : i = k
                · subst hki
                  obtain rfl : o = ok := by rw [ho] at hok; exact Option.some.inj hok
                  refine ⟨hvi, fs, v, by simp, hf, fun d hd => by rw [he' d, if_pos hd], fun a' w' ha' hf' => hy a' w' (fun t ht => ?_) hf'⟩
                  have := ha' t ht
                  rwa [self t ht] at this
                · have hVk' := hVk.resolve_right hki
                  obtain ⟨h1, gs, u, h2, h3, h4, h5⟩ := I.pend k ok hVk' hnk hok
                  refine ⟨h1, gs, u, by simp [h2], h3, fun d hd => ?_, fun a' w' ha' hf' => h5 a' w' (fun t ht => ?_) hf'⟩
                  · rw [he' d]
                    by_cases hdd : o.dst = some d
                    · exfalso
                      have := (dst_ne hst ho hok hvi hki hdd hd).2
                      rw [st_vir hst hok h1] at this; cases this
                    · rw [if_neg hdd]; exact h4 d hd
                  · have := ha' t ht
                    rwa [same k ok hok hVk' t ht] at this
            exact advance hj hr m pl _ _ _ e' I' hv' hk
          | false =>
            rw [hr0] at h
            simp only [cond_false] at h
            cases ho' : onlyF V Fl i 0 ops.toList with
            | false => rw [ho'] at h; exact h.elim
            | true =>
              rw [ho'] at h
              simp only [cond_true] at h
              have hji := onlyF_spec ho' j oj hj (by rw [Nat.zero_add]; exact hVj) hjpre
              rw [Nat.zero_add] at hji
              by_cases hij : j = i
              · subst hij
                obtain rfl : oj = o := by rw [hj] at ho; exact Option.some.inj ho
                exact .inr ⟨m, pl, Fl, V, SL, e, I, hv', hVj, andT_1 h⟩
              · have hjF := hji.resolve_left hij
                have hjA : j ∈ altL V i Fl := by
                  unfold altL
                  rw [List.mem_filter]
                  refine ⟨hjF, ?_⟩
                  rw [hVj]
                  have : Nat.beq j i = false := by rw [Bool.eq_false_iff]; intro hb; exact hij (Nat.eq_of_beq_eq_true hb)
                  rw [this]; rfl
                exact .inr ⟨m, (r, i) :: pl, Fl, V, SL, e, I, hv, hVj, altK_mem hj (andT_2 h hjA) hjA⟩

include hdl in
theorem run_plan (hQ : ∀ e a w, Sub D n e a → K e w → Q .normal a w) :
    ∀ (fuel : Nat) (listed : Array Bool) (m : Nat) (pl : List (Nat × Nat)) (Fl : List Nat) (V : Nat) (SL : List (Nat × List Fct)) (e : Env) (a : Act) (w : World), unl listed ops.size ≤ fuel →
      Inv P ops D n pl0 listed V SL e a w → (∀ i, virIn pl i = true → virIn pl0 i = true) → denPl P ops.toList (ancs ops.toList []) K m pl Fl V SL e w → wpAnyIn (FW r) 0 P .any ops Q fuel listed a w := by
  have hlen : ops.toList.length = ops.size := by simp
  have get? : ∀ i, ops.toList[i]? = ops[i]? := fun i => Array.getElem?_toList
  -- when all are listed
  have done : ∀ (m : Nat) (listed : Array Bool) (pl : List (Nat × Nat)) (Fl : List Nat) (V : Nat) (SL : List (Nat × List Fct)) (e : Env) (a : Act) (w : World), (∀ i, i < ops.size → Ls listed i) →
      Inv P ops D n pl0 listed V SL e a w → denPl P ops.toList (ancs ops.toList []) K m pl Fl V SL e w → Q .normal a w := by
    intro m
    induction m with
    | zero => intro listed pl Fl V SL e a w _ _ h; exact h.elim
    | succ m ihm =>
    intro listed pl Fl V SL e a w hall I h
    have hs : Sub D n e a := ⟨I.defers, I.tsize, fun t => I.agree t fun i o hv hn _ => absurd (hall i (I.vlt i hv)) hn⟩
    cases pl with
    | nil =>
      simp only [denPl] at h
      cases hb : Nat.beq V (2 ^ ops.toList.length - 1) with
      | false => rw [hb] at h; exact h.elim
      | true => rw [hb] at h; exact hQ e a w hs h
    | cons x pl =>
      obtain ⟨r, i⟩ := x
      simp only [denPl] at h
      split at h
      · exact h.elim
      · rename_i o ho
        have hi : i < ops.size := by
          have : i < ops.toList.length := (List.getElem?_eq_some_iff.1 ho).1
          omega
        cases h2 : Nat.beq r 2 with
        | true => rw [h2] at h; exact ihm listed pl (i :: Fl) V SL e a w hall I h
        | false =>
          rw [h2, cond_false, I.sub i (hall i hi)] at h
          cases h3 : Nat.beq r 3 with
          | true => rw [h3] at h; exact ihm listed pl Fl V SL e a w hall I h
          | false => rw [h3] at h; exact h.elim
  -- when nobody may come, all are listed
  have none_ready : ∀ (listed : Array Bool) (V : Nat) (SL : List (Nat × List Fct)) (e : Env) (a : Act) (w : World), Inv P ops D n pl0 listed V SL e a w → Region.ready .any ops listed = [] → ∀ i, i < ops.size → Ls listed i := by
    intro listed V SL e a w I hr i
    induction i using Nat.strongRecOn with
    | _ i ih =>
      intro hi
      cases hl : listed.getD i false with
      | true => exact hl
      | false =>
        exfalso
        obtain ⟨o, ho⟩ : ∃ o, ops[i]? = some o := ⟨_, Array.getElem?_eq_getElem hi⟩
        have : i ∈ Region.ready .any ops listed := mem_ready.2 ⟨by rw [getD_true (by rw [I.size]; exact hi), hl], o, ho, fun e he hb => by
          have := st_lt hst i o (by rw [get?, ho]) e (by simpa using he) hb
          exact ih e.on this (by omega)⟩
        rw [hr] at this
        cases this
  intro fuel
  induction fuel with
  | zero =>
    intro listed m pl Fl V SL e a w hf I _ h
    have hall : ∀ i, i < ops.size → Ls listed i := unl_zero (by omega)
    refine ⟨?_, done m listed pl Fl V SL e a w hall I h⟩
    cases hr : Region.ready .any ops listed with
    | nil => rfl
    | cons i r =>
      exfalso
      have : i ∈ Region.ready .any ops listed := by rw [hr]; simp
      obtain ⟨h0, o, ho, _⟩ := mem_ready.1 this
      have hi : i < ops.size := (Array.getElem?_eq_some_iff.1 ho).1
      rw [getD_true (by rw [I.size]; exact hi)] at h0
      have := hall i hi
      rw [Ls, h0] at this
      cases this
  | succ fuel ih =>
    intro listed m pl Fl V SL e a w hf I hv h
    refine ⟨fun hr => done m listed pl Fl V SL e a w (none_ready listed V SL e a w I hr) I h, fun j hj => ?_⟩
    obtain ⟨h0, oj, hoj, hpre⟩ := mem_ready.1 hj
    have hjn : j < ops.size := (Array.getElem?_eq_some_iff.1 hoj).1
    have hnl : ¬ Ls listed j := by
      rw [getD_true (by rw [I.size]; exact hjn)] at h0
      intro hl
      rw [Ls, h0] at hl
      cases hl
    have hojl : ops.toList[j]? = some oj := by rw [get?, hoj]
    have hr : ∀ x ∈ oj.after.toList, bE x = true → Ls listed x.on := fun x hx hb => hpre x (by simpa using hx) hb
    have hszj : j < listed.size := by rw [I.size]; exact hjn
    have hfuel : unl (listed.setIfInBounds j true) ops.size ≤ fuel := by
      have := (unl_set hszj hnl ops.size).1 hjn
      omega
    have hdj := dstLt_spec (List.all_eq_true.1 hdl oj (List.mem_of_getElem? hojl))
    have down' : ∀ i o, ops.toList[i]? = some o → Ls (listed.setIfInBounds j true) i → ∀ x ∈ o.after.toList, bE x = true → Ls (listed.setIfInBounds j true) x.on := by
      intro i o ho hl x hx hb
      rw [Ls_set hszj] at hl ⊢
      rcases hl with rfl | hl
      · obtain rfl : oj = o := by rw [hojl] at ho; exact Option.some.inj ho
        exact .inr (hr x hx hb)
      · exact .inr (I.down i o ho hl x hx hb)
    rcases advance hst hdl hojl hr m pl Fl V SL e I hv h with ⟨m', pl', Fl', V', SL', e', I', hv', h', hVj⟩ | ⟨m', pl', Fl', V', SL', e', I', hv', hVj, h'⟩
    · -- it has been carried out ahead
      obtain ⟨h1, fs, v, h2, h3, h4, h5⟩ := I'.pend j oj hVj hnl hojl
      have hag := looks_agree hst I' hojl hr
      have hy := h5 a w hag h3
      have I'' : Inv P ops D n pl0 (listed.setIfInBounds j true) V' SL' e' (a.put oj.dst v) w := by
        refine ⟨by simp [I'.size], fun i hi => ?_, down', I'.downV, I'.vlt, ?_, ?_, I'.en, ?_, ?_⟩
        · rw [Ls_set hszj] at hi
          rcases hi with rfl | hi
          · exact hVj
          · exact I'.sub i hi
        · cases hd : oj.dst <;> simp [Act.put, I'.defers]
        · cases hd : oj.dst <;> simp [Act.put, I'.tsize]
        · intro t ht
          cases hd : oj.dst with
          | none =>
            refine I'.agree t fun i o hV hn ho => ?_
            by_cases hij : i = j
            · subst hij; obtain rfl : oj = o := by rw [hojl] at ho; exact Option.some.inj ho
              rw [hd]; simp
            · exact ht i o hV (by rw [Ls_set hszj]; rintro (h | h); exact hij h.symm; exact hn h) ho
          | some d =>
            by_cases hdt : d = t
            · subst hdt
              right
              simp [Act.put, I'.tsize, hdj d hd, h4 d hd]
            · have := I'.agree t fun i o hV hn ho => by
                by_cases hij : i = j
                · subst hij; obtain rfl : oj = o := by rw [hojl] at ho; exact Option.some.inj ho
                  rw [hd]; simpa using hdt
                · exact ht i o hV (by rw [Ls_set hszj]; rintro (h | h); exact hij h.symm; exact hn h) ho
              simpa [Act.put, Array.getElem?_setIfInBounds_ne hdt] using this
        · intro i o hV hn ho
          exact I'.pend i o hV (fun hl => hn (by rw [Ls_set hszj]; exact .inr hl)) ho
      have hnext := ih _ m' pl' Fl' V' SL' e' _ w hfuel I'' hv' h'
      unfold wpOpIn
      rw [hoj]
      simp only
      rcases hy with ⟨hw, hrun⟩ | ⟨hw, rfl⟩
      · have hw' : Region.wanted oj (yielded ops a.tmps) = true := by simpa using hw
        rw [if_pos hw']
        refine ⟨fun _ _ => trivial, ?_⟩
        show oj.uponIn (FW r) 0 P a _ Q ((oj.semAt r a.eval).run P w)
        rw [Oper.semAt_eq _ _ _ (value_nd hrun), hrun]
        exact hnext
      · have hw' : Region.wanted oj (yielded ops a.tmps) = false := by simpa using hw
        rw [if_neg (by rw [hw']; simp)]
        exact ⟨fun _ _ => trivial, hnext⟩
    · -- it stands next
      have hag := looks_agree hst I' hojl hr
      have := denG_wpL (r := r) (Q := Q) (next := wpAnyIn (FW r) 0 P .any ops Q fuel (listed.setIfInBounds j true)) I'.tsize I'.en hag (st_sel hst hojl) h' (fun e'' v w' he'' hk => by
        obtain ⟨hfacts, hk⟩ := pendK_out hk
        refine ih _ m' pl' Fl' _ _ e'' _ w' hfuel ?_ hv' hk
        refine ⟨by simp [I'.size], fun i hi => ?_, down', ?_, ?_, ?_, ?_, ?_, ?_, ?_⟩
        · rw [Ls_set hszj] at hi
          rw [testBit_add]
          rcases hi with rfl | hi
          · simp
          · rw [I'.sub i hi]; rfl
        · intro i o ho hV x hx hb
          rw [testBit_add, Bool.or_eq_true, decide_eq_true_eq] at hV
          rw [testBit_add]
          rcases hV with hV | rfl
          · rw [I'.downV i o ho hV x hx hb]; rfl
          · obtain rfl : oj = o := by rw [hojl] at ho; exact Option.some.inj ho
            rw [I'.sub _ (hr x hx hb)]; rfl
        · intro i hV
          rw [testBit_add, Bool.or_eq_true, decide_eq_true_eq] at hV
          rcases hV with hV | rfl
          · exact I'.vlt i hV
          · exact hjn
        · cases hd : oj.dst <;> simp [Act.put, I'.defers]
        · cases hd : oj.dst <;> simp [Act.put, I'.tsize]
        · intro t ht
          rw [he'' t] at ht
          by_cases hd : oj.dst = some t
          · exact hdj t hd
          · rw [if_neg hd] at ht; exact I'.en t ht
        · intro t ht
          have old : oj.dst ≠ some t → get e' t = unk ∨ a.tmps[t]? = some (get e' t) := fun hd => I'.agree t fun i o hV hn ho => by
            have hij : i ≠ j := fun hij => by subst hij; rw [hVj] at hV; cases hV
            exact ht i o (by rw [testBit_add, hV]; rfl) (by rw [Ls_set hszj]; rintro (h | h); exact hij h.symm; exact hn h) ho
          rw [he'' t]
          by_cases hd : oj.dst = some t
          · rw [if_pos hd]
            right
            simp [Act.put, hd, I'.tsize, hdj t hd]
          · rw [if_neg hd]
            cases hd' : oj.dst with
            | none => exact old hd
            | some d =>
              have hdt : d ≠ t := fun h => hd (by rw [hd', h])
              simpa [Act.put, Array.getElem?_setIfInBounds_ne hdt] using old hd
        · intro i o hV hn ho
          rw [testBit_add, Bool.or_eq_true, decide_eq_true_eq] at hV
          have hij : j ≠ i := fun hij => hn (by rw [Ls_set hszj]; exact .inl hij)
          have hV' := hV.resolve_right hij
          have hnl' : ¬ Ls listed i := fun hl => hn (by rw [Ls_set hszj]; exact .inr hl)
          obtain ⟨g1, fs, u, g2, g3, g4, g5⟩ := I'.pend i o hV' hnl' ho
          have hnanc : ((ancs ops.toList []).getD j 0).testBit i = false := by
            cases hb : ((ancs ops.toList []).getD j 0).testBit i with
            | false => rfl
            | true => exact (hnl' (anc_listed hst I' hojl hr hb)).elim
          have hnanc' : ((ancs ops.toList []).getD i 0).testBit j = false := by
            cases hb : ((ancs ops.toList []).getD i 0).testBit j with
            | false => rfl
            | true => have := anc_V hst I' ho hV' hb; rw [hVj] at this; cases this
          refine ⟨g1, fs, u, ?_, hfacts i fs g2 hnanc, fun d hd => ?_, fun a' w'' ha' hf' => g5 a' w'' (fun t ht => ?_) hf'⟩
          · unfold keepSL
            rw [List.mem_filter]
            exact ⟨g2, by show (!((ancs ops.toList []).getD j 0).testBit i) = true; rw [hnanc]; rfl⟩
          · rw [he'' d]
            by_cases hdd : oj.dst = some d
            · exfalso
              have := (dst_ne hst ho hojl g1 (Ne.symm hij) hd hdd).1
              rw [hnanc] at this; cases this
            · rw [if_neg hdd]; exact g4 d hd
          · have h6 := ha' t ht
            rw [he'' t] at h6
            by_cases hdd : oj.dst = some t
            · exfalso
              rcases act_looks hst ho hojl hij hdd ht with h7 | h7
              · rw [hnanc'] at h7; cases h7
              · rw [hnanc] at h7; cases h7
            · rwa [if_neg hdd] at h6)
      unfold wpOpIn
      rw [hoj]
      simp only
      have e0 : ops.toList.toArray = ops := by simp
      rw [e0] at this
      split
      · rename_i hw; rw [if_pos hw] at this; exact this
      · rename_i hw; rw [if_neg hw] at this; exact ⟨fun _ _ => trivial, this⟩

omit hst in
/-- A region that draws its order. -/
theorem denDraw_wp {id : Nat} {pl : List (Nat × Nat)} {e : Env} {a : Act} {w : World} (hd : ops.toList.all (dstLt n) = true) (hQ : ∀ e a w, Sub D n e a → K e w → Q .normal a w) (hs : Sub D n e a)
    (hen : ∀ t, get e t ≠ unk → t < n) (h : denDraw P ops.toList pl K e w) : (Code.region id ops true).wpIn (FW r) 0 P Q a w := by
  unfold denDraw at h
  cases hb : (P.follows .mixedOrders && statI ops.toList (ancs ops.toList []) pl 0 ops.toList) with
  | false => rw [hb] at h; exact h.elim
  | true =>
    rw [hb] at h
    simp only [Bool.and_eq_true] at hb
    refine wpIn_region_any hb.1 ?_
    have hl0 : ∀ i, ¬ Ls (Array.replicate ops.size false) i := fun i hl => by
      unfold Ls at hl
      by_cases hi : i < ops.size
      · simp [hi] at hl
      · simp [Array.getElem?_eq_none (by simpa using hi : (Array.replicate ops.size false).size ≤ i)] at hl
    have hle : ∀ k, unl (Array.replicate ops.size false) k ≤ k := fun k => by
      induction k with
      | zero => exact Nat.le_refl _
      | succ k ih => simp only [unl]; cases (Array.replicate ops.size false).getD k false <;> simp <;> omega
    refine run_plan (pl0 := pl) hb.2 hd hQ ops.size _ (fuelOf pl) pl [] 0 [] e a w.drew (hle _) ?_ (fun _ h => h) (h _ rfl)
    refine ⟨by simp, fun i hl => (hl0 i hl).elim, fun i o _ hl => (hl0 i hl).elim, fun i o _ hv => by simp at hv, fun i hv => by simp at hv, hs.1, hs.2.1, hen, fun t _ => hs.2.2 t, fun i o hv => by simp at hv⟩

end
end Go.Den
