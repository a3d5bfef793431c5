/- Den4c: a region that draws its order, by a plan. Own work; a part of the proof of a claim. Conditions: none beyond those that stand in each theorem. -/
import Derived.Test.YteganidclpobeaaGreatDen4b
/- Den4c: a region that draws its order, by a plan. -/
set_option linter.unusedSimpArgs false
set_option linter.unusedVariables false
namespace Go.Den
open Go

def bE (e : Edge) : Bool := Region.binds .any e

def predsIn (V : Nat) (o : Oper) : Bool := o.after.toList.all fun e => !bE e || V.testBit e.on

def ancOf (acc : List Nat) (o : Oper) : Nat := o.after.toList.foldl (fun m e => bif bE e then m ||| 2 ^ e.on ||| acc.getD e.on 0 else m) 0

def ancs : List Oper → List Nat → List Nat
  | [], acc => acc
  | o :: r, acc => ancs r (acc ++ [ancOf acc o])

def fctK : List Fct → World → Prop → Prop
  | [], _, X => X
  | .cell p v :: r, w, X => w.cell? p = some v ∧ fctK r w X
  | .blk b o :: r, w, X => w.heap[b]? = some o ∧ fctK r w X

/-- What was looked at ahead, and may come later, is still so. -/
def pendK : List (Nat × List Fct) → Nat → World → Prop → Prop
  | [], _, _, X => X
  | (i, fs) :: r, m, w, X => bif m.testBit i then pendK r m w X else fctK fs w (pendK r m w X)

def keepSL (m : Nat) (SL : List (Nat × List Fct)) : List (Nat × List Fct) := SL.filter fun x => !m.testBit x.1

def hasN (l : List Nat) (t : Nat) : Bool := l.any fun s => Nat.beq s t

/-- No other operation may come now, but those that may float. -/
def onlyF (V : Nat) (Fl : List Nat) (i : Nat) : Nat → List Oper → Bool
  | _, [] => true
  | j, o :: r => (Nat.beq j i || hasN Fl j || V.testBit j || !predsIn V o) && onlyF V Fl i (j + 1) r

def altL (V i : Nat) (Fl : List Nat) : List Nat := Fl.filter fun j => !V.testBit j && !Nat.beq j i

/-- Each of these may come now. -/
def altK (P : Program) (l : List Oper) (A : List Nat) (V : Nat) (SL : List (Nat × List Fct)) (e : Env) (w : World) (R : Nat → List (Nat × List Fct) → Env → World → Prop) : List Nat → Prop
  | [] => True
  | j :: r => (match l[j]? with
    | none => False
    | some o => bif !V.testBit j && predsIn V o then denG P l o e w fun e' w' => pendK SL (A.getD j 0) w' (R (V ||| 2 ^ j) (keepSL (A.getD j 0) SL) e' w') else False) ∧ altK P l A V SL e w R r

def andT (a : Prop) : List Nat → (List Nat → Prop) → Prop
  | [], _ => a
  | j :: r, f => a ∧ f (j :: r)

def fuelOf : List (Nat × Nat) → Nat
  | [] => 1
  | _ :: r => Nat.succ (Nat.succ (fuelOf r))

/-- A plan's entries: (0, i): i is carried out ahead; (1, i): i comes now; (2, i): from here on i may come at any time; (3, i): i comes now, if it has not come yet. -/
def denPl (P : Program) (l : List Oper) (A : List Nat) (K : Env → World → Prop) : Nat → List (Nat × Nat) → List Nat → Nat → List (Nat × List Fct) → Env → World → Prop
  | 0, _, _, _, _, _, _ => False
  | _ + 1, [], _, V, _, e, w => bif Nat.beq V (2 ^ l.length - 1) then K e w else False
  | m + 1, (r, i) :: pl, Fl, V, SL, e, w =>
    match l[i]? with
    | none => False
    | some o =>
      bif Nat.beq r 2 then denPl P l A K m pl (i :: Fl) V SL e w
      else bif Nat.beq r 3 && V.testBit i then denPl P l A K m pl Fl V SL e w
      else bif !V.testBit i && predsIn V o then
        (bif Nat.beq r 0 then denGR P l o e w fun e' fs => denPl P l A K m pl Fl (V ||| 2 ^ i) ((i, fs) :: SL) e' w
        else bif onlyF V Fl i 0 l then
          andT (denG P l o e w fun e' w' => pendK SL (A.getD i 0) w' (denPl P l A K m pl Fl (V ||| 2 ^ i) (keepSL (A.getD i 0) SL) e' w'))
            (altL V i Fl) (altK P l A V SL e w fun V SL e w => denPl P l A K m ((r, i) :: pl) Fl V SL e w)
        else False)
      else False

def actIn (pl : List (Nat × Nat)) (i : Nat) : Bool := pl.any fun x => !Nat.beq x.1 0 && Nat.beq x.2 i
def virIn (pl : List (Nat × Nat)) (i : Nat) : Bool := pl.any fun x => Nat.beq x.1 0 && Nat.beq x.2 i

def sameD (a : Option Nat) (t : Nat) : Bool :=
  match a with
  | none => false
  | some s => Nat.beq s t

/-- May the operation number i, which writes t, be carried out ahead or behind the operation number j? -/
def pairOk (l : List Oper) (A : List Nat) (pl : List (Nat × Nat)) (i : Nat) (oi : Oper) (j : Nat) (oj : Oper) : Bool :=
  match oi.dst with
  | none => true
  | some t => bif Nat.beq i j then (actIn pl i || !hasN (looksL l oi) t) else
    (!hasN (looksL l oj) t || (A.getD j 0).testBit i || ((A.getD i 0).testBit j && actIn pl i)) &&
    (!sameD oj.dst t || ((A.getD j 0).testBit i && actIn pl j) || ((A.getD i 0).testBit j && actIn pl i))

def isSel (o : Oper) : Bool :=
  match o.op with
  | .select _ _ => true
  | _ => false

def statJ (l : List Oper) (A : List Nat) (pl : List (Nat × Nat)) (i : Nat) (oi : Oper) : Nat → List Oper → Bool
  | _, [] => true
  | j, oj :: r => pairOk l A pl i oi j oj && statJ l A pl i oi (j + 1) r

def statI (l : List Oper) (A : List Nat) (pl : List (Nat × Nat)) : Nat → List Oper → Bool
  | _, [] => true
  | i, oi :: r => ((oi.after.toList.all fun e => !bE e || Nat.blt e.on i) && !isSel oi && !(actIn pl i && virIn pl i)) && (statJ l A pl i oi 0 l && statI l A pl (i + 1) r)

def denDraw (P : Program) (l : List Oper) (pl : List (Nat × Nat)) (K : Env → World → Prop) (e : Env) (w : World) : Prop :=
  bif P.follows .mixedOrders && statI l (ancs l []) pl 0 l then ∀ w', w' = World.drew w → denPl P l (ancs l []) K (fuelOf pl) pl [] 0 [] e w' else False

/-! ### soundness -/
theorem ancOf_congr {acc acc' : List Nat} {o : Oper} (h : ∀ k, acc.getD k 0 = acc'.getD k 0) : ancOf acc o = ancOf acc' o := by
  unfold ancOf
  congr 1
  funext m e
  rw [h]

theorem ancs_spec : ∀ (l : List Oper) (acc : List Nat), (∀ i, i < acc.length → (ancs l acc).getD i 0 = acc.getD i 0) ∧
    ∀ i o, l[i]? = some o → (ancs l acc).getD (acc.length + i) 0 = ancOf ((ancs l acc).take (acc.length + i)) o
  | [], acc => ⟨fun _ _ => rfl, fun i o h => by simp at h⟩
  | o :: r, acc => by
    obtain ⟨h1, h2⟩ := ancs_spec r (acc ++ [ancOf acc o])
    have hlen : (acc ++ [ancOf acc o]).length = acc.length + 1 := by simp
    have key : ∀ i, i < acc.length → (ancs (o :: r) acc).getD i 0 = acc.getD i 0 := fun i hi => by
      have := h1 i (by omega)
      simp only [ancs]
      rw [this]
      simp [List.getD, List.getElem?_append_left hi]
    refine ⟨key, fun i o' hi => ?_⟩
    cases i with
    | zero =>
      simp at hi
      subst hi
      have := h1 acc.length (by omega)
      simp only [ancs, Nat.add_zero]
      rw [this]
      have e1 : (acc ++ [ancOf acc o]).getD acc.length 0 = ancOf acc o := by simp [List.getD]
      rw [e1]
      have e2 : ∀ k, k < acc.length → ((ancs r (acc ++ [ancOf acc o])).take acc.length).getD k 0 = acc.getD k 0 := fun k hk => by
        have h3 := h1 k (by omega)
        simp [List.getD, List.getElem?_take, hk] at h3 ⊢
        rw [h3]
        simp [List.getElem?_append_left hk, hk]
      have e3 : ∀ k, ((ancs r (acc ++ [ancOf acc o])).take acc.length).getD k 0 = acc.getD k 0 := fun k => by
        by_cases hk : k < acc.length
        · exact e2 k hk
        · simp [List.getD, List.getElem?_take, hk, List.getElem?_eq_none (by omega : acc.length ≤ k)]
      exact ancOf_congr fun k => (e3 k).symm
    | succ i =>
      simp at hi
      have := h2 i o' hi
      rw [hlen] at this
      simp only [ancs]
      rw [show acc.length + (i + 1) = acc.length + 1 + i by omega]
      exact this

theorem ancOf_bit {acc : List Nat} {o : Oper} {i : Nat} (h : (ancOf acc o).testBit i = true) : ∃ e ∈ o.after.toList, bE e = true ∧ (e.on = i ∨ (acc.getD e.on 0).testBit i = true) := by
  unfold ancOf at h
  have key : ∀ (l : List Edge) (m : Nat), (l.foldl (fun m e => bif bE e then m ||| 2 ^ e.on ||| acc.getD e.on 0 else m) m).testBit i = true →
      m.testBit i = true ∨ ∃ e ∈ l, bE e = true ∧ (e.on = i ∨ (acc.getD e.on 0).testBit i = true) := by
    intro l
    induction l with
    | nil => intro m hm; exact .inl hm
    | cons x r ih =>
      intro m hm
      simp only [List.foldl_cons] at hm
      rcases ih _ hm with h1 | ⟨e, he, hb, hh⟩
      · cases hx : bE x with
        | false => rw [hx] at h1; exact .inl h1
        | true =>
          rw [hx] at h1
          simp only [cond_true, Nat.testBit_or, Bool.or_eq_true] at h1
          rcases h1 with (h1 | h1) | h1
          · exact .inl h1
          · right
            refine ⟨x, by simp, hx, .inl ?_⟩
            rw [Nat.testBit_two_pow] at h1
            simpa using h1
          · exact .inr ⟨x, by simp, hx, .inr h1⟩
      · exact .inr ⟨e, by simp [he], hb, hh⟩
  rcases key _ 0 h with h1 | h1
  · simp at h1
  · exact h1

/-- Whoever waits, directly or not, on number i, has i among the masks of 'ancs'; a set that bears what its members wait on bears these. -/
theorem anc_down {l : List Oper} {D : Nat → Prop} (hD : ∀ j o, l[j]? = some o → D j → ∀ e ∈ o.after.toList, bE e = true → D e.on)
    (hlt : ∀ j o, l[j]? = some o → ∀ e ∈ o.after.toList, bE e = true → e.on < j) :
    ∀ (j : Nat) (o : Oper), l[j]? = some o → (∀ e ∈ o.after.toList, bE e = true → D e.on) → ∀ i, ((ancs l []).getD j 0).testBit i = true → D i := by
  intro j
  induction j using Nat.strongRecOn with
  | _ j ih =>
    intro o hj hpre i hi
    have hs := (ancs_spec l []).2 j o hj
    simp only [List.length_nil, Nat.zero_add] at hs
    rw [hs] at hi
    obtain ⟨e, he, hb, h⟩ := ancOf_bit hi
    rcases h with h | h
    · exact h ▸ hpre e he hb
    · have hl := hlt j o hj e he hb
      have hlen : e.on < l.length := by
        have : j < l.length := (List.getElem?_eq_some_iff.1 hj).1
        omega
      have e1 : ((ancs l []).take j).getD e.on 0 = (ancs l []).getD e.on 0 := by simp [List.getD, List.getElem?_take, hl]
      rw [e1] at h
      obtain ⟨o', ho'⟩ : ∃ o', l[e.on]? = some o' := ⟨_, List.getElem?_eq_getElem hlen⟩
      exact ih e.on hl o' ho' (fun e' he' hb' => hD e.on o' ho' (hpre e he hb) e' he' hb') i h

theorem fctK_iff {w : World} {X : Prop} : ∀ {fs : List Fct}, fctK fs w X ↔ (∀ f ∈ fs, f.holds w) ∧ X
  | [] => by simp [fctK]
  | .cell p v :: r => by simp only [fctK, fctK_iff (fs := r), List.forall_mem_cons, Fct.holds, and_assoc]
  | .blk b o :: r => by simp only [fctK, fctK_iff (fs := r), List.forall_mem_cons, Fct.holds, and_assoc]

theorem pendK_out {w : World} {X : Prop} {m : Nat} : ∀ {SL : List (Nat × List Fct)}, pendK SL m w X → (∀ i fs, (i, fs) ∈ SL → m.testBit i = false → ∀ f ∈ fs, f.holds w) ∧ X
  | [], h => ⟨fun _ _ h => by simp at h, h⟩
  | (i, fs) :: r, h => by
    simp only [pendK] at h
    cases hb : m.testBit i with
    | true =>
      rw [hb] at h
      obtain ⟨h1, h2⟩ := pendK_out (SL := r) h
      refine ⟨fun j gs hj hm => ?_, h2⟩
      rcases List.mem_cons.1 hj with h3 | h3
      · cases h3; rw [hb] at hm; cases hm
      · exact h1 j gs h3 hm
    | false =>
      rw [hb] at h
      obtain ⟨h0, h⟩ := fctK_iff.1 h
      obtain ⟨h1, h2⟩ := pendK_out (SL := r) h
      refine ⟨fun j gs hj hm => ?_, h2⟩
      rcases List.mem_cons.1 hj with h3 | h3
      · cases h3; exact h0
      · exact h1 j gs h3 hm

theorem hasN_iff {l : List Nat} {t : Nat} : hasN l t = true ↔ t ∈ l := by
  unfold hasN
  rw [List.any_eq_true]
  constructor
  · rintro ⟨x, hx, hb⟩; exact Nat.eq_of_beq_eq_true hb ▸ hx
  · intro h; exact ⟨t, h, by simp⟩

theorem sameD_iff {a : Option Nat} {t : Nat} : sameD a t = true ↔ a = some t := by
  cases a with
  | none => simp [sameD]
  | some s => simp only [sameD, Option.some.injEq]; exact ⟨Nat.eq_of_beq_eq_true, fun h => by simp [h]⟩

theorem onlyF_spec {V i : Nat} {Fl : List Nat} : ∀ {l : List Oper} {k : Nat}, onlyF V Fl i k l = true → ∀ j o, l[j]? = some o → V.testBit (k + j) = false → predsIn V o = true → k + j = i ∨ k + j ∈ Fl
  | [], k, _, j, o, h, _, _ => by simp at h
  | x :: r, k, h, j, o, hj, hv, hp => by
    simp only [onlyF, Bool.and_eq_true, Bool.or_eq_true, Bool.not_eq_true'] at h
    cases j with
    | zero =>
      simp at hj; subst hj
      rcases h.1 with ((h1 | h1) | h1) | h1
      · exact .inl (Nat.eq_of_beq_eq_true h1)
      · exact .inr (hasN_iff.1 h1)
      · rw [Nat.add_zero] at hv; rw [hv] at h1; cases h1
      · rw [hp] at h1; cases h1
    | succ j =>
      simp at hj
      have := onlyF_spec h.2 j o hj (by rw [show k + 1 + j = k + (j + 1) by omega]; exact hv) hp
      rwa [show k + 1 + j = k + (j + 1) by omega] at this

theorem andT_1 {a : Prop} {f : List Nat → Prop} : ∀ {l : List Nat}, andT a l f → a
  | [], h => h
  | _ :: _, h => h.1

theorem andT_2 {a : Prop} {f : List Nat → Prop} {x : Nat} : ∀ {l : List Nat}, andT a l f → x ∈ l → f l
  | [], _, hx => by cases hx
  | _ :: _, h, _ => h.2

theorem altK_mem {P : Program} {l : List Oper} {A : List Nat} {V : Nat} {SL : List (Nat × List Fct)} {e : Env} {w : World} {R : Nat → List (Nat × List Fct) → Env → World → Prop} {j : Nat} {o : Oper} (ho : l[j]? = some o) :
    ∀ {Fl : List Nat}, altK P l A V SL e w R Fl → j ∈ Fl → denG P l o e w fun e' w' => pendK SL (A.getD j 0) w' (R (V ||| 2 ^ j) (keepSL (A.getD j 0) SL) e' w')
  | [], _, hj => by cases hj
  | k :: r, h, hj => by
    simp only [altK] at h
    rcases List.mem_cons.1 hj with rfl | hj
    · have h1 := h.1
      rw [ho] at h1
      simp only at h1
      cases hc : (!V.testBit j && predsIn V o) with
      | false => rw [hc] at h1; exact h1.elim
      | true => rw [hc] at h1; exact h1
    · exact altK_mem ho h.2 hj

theorem statJ_spec {l : List Oper} {A : List Nat} {pl : List (Nat × Nat)} {i : Nat} {oi : Oper} : ∀ {r : List Oper} {k : Nat}, statJ l A pl i oi k r = true → ∀ j o, r[j]? = some o → pairOk l A pl i oi (k + j) o = true
  | [], k, _, j, o, h => by simp at h
  | x :: r, k, h, j, o, hj => by
    simp only [statJ, Bool.and_eq_true] at h
    cases j with
    | zero => simp at hj; subst hj; exact h.1
    | succ j =>
      simp at hj
      have := statJ_spec h.2 j o hj
      rwa [show k + 1 + j = k + (j + 1) by omega] at this

theorem statI_spec {l : List Oper} {A : List Nat} {pl : List (Nat × Nat)} : ∀ {r : List Oper} {k : Nat}, statI l A pl k r = true → ∀ i o, r[i]? = some o →
    (∀ e ∈ o.after.toList, bE e = true → e.on < k + i) ∧ isSel o = false ∧ (actIn pl (k + i) = true → virIn pl (k + i) = true → False) ∧ statJ l A pl (k + i) o 0 l = true
  | [], k, _, j, o, h => by simp at h
  | x :: r, k, h, j, o, hj => by
    simp only [statI, Bool.and_eq_true, Bool.not_eq_true'] at h
    cases j with
    | zero =>
      simp at hj; subst hj
      refine ⟨fun e he hb => ?_, h.1.1.2, fun h1 h2 => ?_, h.2.1⟩
      · have := List.all_eq_true.1 h.1.1.1 e he
        rw [hb] at this
        simpa [Nat.blt_eq] using this
      · have := h.1.2
        rw [Nat.add_zero] at h1 h2
        rw [h1, h2] at this
        simp at this
    | succ j =>
      simp at hj
      have := statI_spec h.2.2 j o hj
      rwa [show k + 1 + j = k + (j + 1) by omega] at this

end Go.Den
