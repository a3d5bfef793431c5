/- Den5: the denotation of code, and its soundness. Own work; a part of the proof of a claim. Conditions: none beyond those that stand in each theorem. -/
import Derived.Test.YteganidclpobeaaGreatDen4d
/- Den5: the denotation of code, and its soundness. -/
set_option linter.unusedVariables false
set_option linter.unusedSimpArgs false
namespace Go.Den
open Go

/-- Notes beside the code: where the denotation stops, and with which temporaries. -/
inductive Ann where
  | nil
  | two (a b : Ann)
  | cut (L : List Nat) (a b : Ann)
  | one (a : Ann)
  | loop (L : List Nat)
  | plan (l : List (Nat × Nat))

def post (n : Nat) (Kn : Env → World → Prop) (Kx : Nat → Env → World → Prop) (Kr : Env → World → Prop) : Exit → Act → World → Prop
  | .normal, a, w => ∃ e, Sub [] n e a ∧ Kn e w
  | .exit i, a, w => ∃ e, Sub [] n e a ∧ Kx i e w
  | .ret, a, w => ∃ e, Sub [] n e a ∧ Kr e w
  | _, _, _ => False

/-- What stands at a cut: the code's weakest precondition, of a frame that has these temporaries. -/
def WP (P : Program) (n : Nat) (c : Code) (Kn : Env → World → Prop) (Kx : Nat → Env → World → Prop) (Kr : Env → World → Prop) (e : Env) (w : World) : Prop :=
  ∀ a, Sub [] n e a → c.wpIn (FW none) 0 P (post n Kn Kx Kr) a w

def inBlk (id : Nat) (Kn : Env → World → Prop) (Kx : Nat → Env → World → Prop) : Nat → Env → World → Prop :=
  fun i e w => bif Nat.beq i id then Kn e w else Kx i e w

def cutK (L : List Nat) (K : Env → World → Prop) : Env → World → Prop := fun e w => K (norm L e) w

def noX : Nat → Env → World → Prop := fun _ _ _ => False

def den (P : Program) (n : Nat) : Code → Ann → (Env → World → Prop) → (Nat → Env → World → Prop) → (Env → World → Prop) → Env → World → Prop
  | .skip, _, Kn, _, _ => fun e w => Kn e w
  | .region _ ops dr, an, Kn, _, _ => fun e w =>
    bif dr then (match an with
      | .plan pl => denDraw P ops.toList pl Kn e w
      | _ => False) else denOps P ops.toList ops.toList e w Kn
  | .seq a b, an, Kn, Kx, Kr => match an with
    | .cut L x _ => den P n a x (cutK L (WP P n b Kn Kx Kr)) Kx Kr
    | .two x y => den P n a x (den P n b y Kn Kx Kr) Kx Kr
    | _ => den P n a .nil (den P n b .nil Kn Kx Kr) Kx Kr
  | .cond c t f, an, Kn, Kx, Kr => fun e w =>
    match ev e c with
    | .bool b => (match an with
      | .two x y => bc b (den P n t x Kn Kx Kr e w) (den P n f y Kn Kx Kr e w)
      | _ => bc b (den P n t .nil Kn Kx Kr e w) (den P n f .nil Kn Kx Kr e w))
    | _ => False
  | .block id c, an, Kn, Kx, Kr => (match an with
    | .one x => den P n c x Kn (inBlk id Kn Kx) Kr
    | _ => den P n c .nil Kn (inBlk id Kn Kx) Kr)
  | .loop c, an, Kn, Kx, Kr => (match an with
    | .loop L => cutK L (WP P n (.loop c) Kn Kx Kr)
    | _ => fun _ _ => False)
  | .exit id, _, _, Kx, _ => fun e w => Kx id e w
  | .ret, _, _, _, Kr => fun e w => Kr e w
  | _, _, _, _, _ => fun _ _ => False

/-- All temporaries that are written lie in the frame. -/
def codeOk (n : Nat) : Code → Bool
  | .region _ ops _ => ops.toList.all (dstLt n)
  | .seq a b => codeOk n a && codeOk n b
  | .cond _ t f => codeOk n t && codeOk n f
  | .block _ c => codeOk n c
  | .loop c => codeOk n c
  | .scope c => codeOk n c
  | .rangeFunc _ _ a b => codeOk n a && codeOk n b
  | _ => true

section
variable {P : Program} {n : Nat}

theorem post_mono {Kn : Env → World → Prop} {Kx : Nat → Env → World → Prop} {Kr : Env → World → Prop} {Q : Exit → Act → World → Prop}
    (h1 : ∀ e a w, Sub [] n e a → Kn e w → Q .normal a w) (h2 : ∀ i e a w, Sub [] n e a → Kx i e w → Q (.exit i) a w) (h3 : ∀ e a w, Sub [] n e a → Kr e w → Q .ret a w) :
    ∀ x a w, post n Kn Kx Kr x a w → Q x a w := by
  intro x a w h
  cases x with
  | normal => obtain ⟨e, hs, hk⟩ := h; exact h1 e a w hs hk
  | exit i => obtain ⟨e, hs, hk⟩ := h; exact h2 i e a w hs hk
  | ret => obtain ⟨e, hs, hk⟩ := h; exact h3 e a w hs hk
  | goto l => exact h.elim
  | panic c => exact h.elim
  | outgrown => exact h.elim

theorem wp_cutK {c : Code} {L : List Nat} {Kn : Env → World → Prop} {Kx : Nat → Env → World → Prop} {Kr : Env → World → Prop} {e : Env} {a : Act} {w : World}
    (hs : Sub [] n e a) (h : cutK L (WP P n c Kn Kx Kr) e w) : c.wpIn (FW none) 0 P (post n Kn Kx Kr) a w := h a (hs.norm L)

theorem wp_bool {e : Env} {a : Act} {c : Operand} {b : Bool} (hs : Sub [] n e a) (h : ev e c = .bool b) : a.eval c = .bool b := by
  rw [hs.eval (by rw [h]; rfl), h]

theorem den_sound :
    ∀ (c : Code) (an : Ann) (Kn : Env → World → Prop) (Kx : Nat → Env → World → Prop) (Kr : Env → World → Prop) (e : Env) (a : Act) (w : World),
      codeOk n c = true → Sub [] n e a → den P n c an Kn Kx Kr e w → c.wpIn (FW none) 0 P (post n Kn Kx Kr) a w := by
  intro c
  induction c with
  | skip => intro an Kn Kx Kr e a w _ hs h; exact wpIn_skip ⟨e, hs, h⟩
  | region id ops dr =>
    intro an Kn Kx Kr e a w hd hs h
    cases dr with
    | true =>
      simp only [den, cond_true] at h
      cases an with
      | plan pl =>
        refine denDraw_wp (K := Kn) (Q := post n Kn Kx Kr) hd (fun e a w hs hk => ⟨e, hs, hk⟩) hs (fun t ht => ?_) h
        rcases hs.2.2 t with h1 | h1
        · exact absurd h1 ht
        · rw [← hs.2.1]; exact (Array.getElem?_eq_some_iff.1 h1).1
      | _ => exact h.elim
    | false =>
      simp only [den, cond_false] at h
      exact wpIn_region_list (denOps_wp (r := none) (Q := post n Kn Kx Kr) (fun e a w hs hk => ⟨e, hs, hk⟩) ops.toList e a w hd hs h)
  | seq x y ihx ihy =>
    intro an Kn Kx Kr e a w hd hs h
    simp only [codeOk, Bool.and_eq_true] at hd
    have two : ∀ u v, den P n x u (den P n y v Kn Kx Kr) Kx Kr e w → (Code.seq x y).wpIn (FW none) 0 P (post n Kn Kx Kr) a w := by
      intro u v h
      refine wpIn_seq (Code.wpIn_mono ?_ (ihx u _ _ _ e a w hd.1 hs h))
      exact post_mono (fun e a w hs hk => ihy v Kn Kx Kr e a w hd.2 hs hk) (fun i e a w hs hk => ⟨e, hs, hk⟩) (fun e a w hs hk => ⟨e, hs, hk⟩)
    cases an with
    | cut L u v =>
      simp only [den] at h
      refine wpIn_seq (Code.wpIn_mono ?_ (ihx u _ _ _ e a w hd.1 hs h))
      exact post_mono (fun e a w hs hk => wp_cutK hs hk) (fun i e a w hs hk => ⟨e, hs, hk⟩) (fun e a w hs hk => ⟨e, hs, hk⟩)
    | two u v => exact two u v h
    | nil => exact two .nil .nil h
    | one _ => exact two .nil .nil h
    | loop _ => exact two .nil .nil h
    | plan _ => exact two .nil .nil h
  | cond c x y ihx ihy =>
    intro an Kn Kx Kr e a w hd hs h
    simp only [codeOk, Bool.and_eq_true] at hd
    simp only [den] at h
    split at h
    · rename_i b hb
      have hc := wp_bool hs hb
      have go : ∀ u v, bc b (den P n x u Kn Kx Kr e w) (den P n y v Kn Kx Kr e w) → (Code.cond c x y).wpIn (FW none) 0 P (post n Kn Kx Kr) a w := by
        intro u v h
        cases b with
        | true => exact wpIn_cond_true hc (ihx u Kn Kx Kr e a w hd.1 hs h)
        | false => exact wpIn_cond_false hc (ihy v Kn Kx Kr e a w hd.2 hs h)
      cases an with
      | two u v => exact go u v h
      | nil => exact go .nil .nil h
      | cut _ _ _ => exact go .nil .nil h
      | one _ => exact go .nil .nil h
      | loop _ => exact go .nil .nil h
      | plan _ => exact go .nil .nil h
    · exact h.elim
  | block id c ih =>
    intro an Kn Kx Kr e a w hd hs h
    have go : ∀ u, den P n c u Kn (inBlk id Kn Kx) Kr e w → (Code.block id c).wpIn (FW none) 0 P (post n Kn Kx Kr) a w := by
      intro u h
      refine wpIn_block (Code.wpIn_mono ?_ (ih u _ _ _ e a w hd hs h))
      refine post_mono (fun e a w hs hk => ⟨e, hs, hk⟩) (fun i e a w hs hk => ?_) (fun e a w hs hk => ⟨e, hs, hk⟩)
      simp only [inBlk] at hk
      simp only [Exit.inBlock]
      by_cases hi : i = id
      · subst hi; simp at hk ⊢; exact ⟨e, hs, hk⟩
      · have : Nat.beq i id = false := by rw [Bool.eq_false_iff]; intro hb; exact hi (Nat.eq_of_beq_eq_true hb)
        rw [this] at hk
        rw [if_neg hi]; exact ⟨e, hs, hk⟩
    cases an with
    | one u => exact go u h
    | nil => exact go .nil h
    | cut _ _ _ => exact go .nil h
    | two _ _ => exact go .nil h
    | loop _ => exact go .nil h
    | plan _ => exact go .nil h
  | loop c ih =>
    intro an Kn Kx Kr e a w hd hs h
    cases an with
    | loop L => exact wp_cutK hs h
    | _ => exact h.elim
  | exit id => intro an Kn Kx Kr e a w _ hs h; exact wpIn_exit ⟨e, hs, h⟩
  | ret => intro an Kn Kx Kr e a w _ hs h; exact wpIn_ret ⟨e, hs, h⟩
  | _ => intros; rename_i h; exact h.elim

theorem WP_of_den {c : Code} {an : Ann} {Kn : Env → World → Prop} {Kx : Nat → Env → World → Prop} {Kr : Env → World → Prop} {e : Env} {w : World}
    (hc : codeOk n c = true) (h : den P n c an Kn Kx Kr e w) : WP P n c Kn Kx Kr e w := fun a hs => den_sound c an Kn Kx Kr e a w hc hs h

end
end Go.Den
