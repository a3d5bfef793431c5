/- Ev7: structs that are built. Own work; a part of the proof of a claim. Conditions: none beyond those that stand in each theorem. -/
import Derived.Test.YteganidclpobeaaGreatEv6
/- Ev7: structs that are built. -/
set_option linter.unusedSimpArgs false
set_option linter.unusedVariables false
namespace Go.Den
open Go
section
variable {P : Program} {σ σ' : Sg} {le : LE} {e : Env} {o : Oper} {Kp : Value → Prop}

def setsA : Nat → List Value → Array Value → Array Value
  | _, [], a => a
  | o, v :: r, a => setsA (o + 1) r (a.setIfInBounds o v)

theorem fold_setsA (vs : Array Value) (off : Nat) (cells : Array Value) : vs.zipIdx.foldl (fun cs (x : Value × Nat) => cs.setIfInBounds (off + x.2) x.1) cells = setsA off vs.toList cells := by
  rw [← Array.foldl_toList, Array.toList_zipIdx]
  have key : ∀ (l : List Value) (k : Nat) (cells : Array Value), (l.zipIdx k).foldl (fun cs (x : Value × Nat) => cs.setIfInBounds (off + x.2) x.1) cells = setsA (off + k) l cells := by
    intro l
    induction l with
    | nil => intro k cells; rfl
    | cons v l ih => intro k cells; simp only [List.zipIdx_cons, List.foldl_cons, setsA]; rw [ih]; rfl
  simpa using key vs.toList 0 cells

theorem size_setsA : ∀ (l : List Value) (o : Nat) (a : Array Value), (setsA o l a).size = a.size
  | [], _, _ => rfl
  | v :: r, o, a => by simp [setsA, size_setsA r]

theorem cells_rel {lv : LV} {v : Value} (h : VR P σ lv v) (h1 : ∀ x ∈ cellsL lv, one1 x = true) : All2 (VR1 σ) (cellsL lv) v.cells.toList := by
  cases lv with
  | agg l => obtain ⟨l', ha, rfl⟩ := h; exact ha
  | un => exact h.elim
  | agb a b c => have := h1 _ (List.mem_singleton.2 rfl); simp [one1] at this
  | tup l => have := h1 _ (List.mem_singleton.2 rfl); simp [one1] at this
  | sc u => 
    have h' : VR1 σ (.sc u) v := h
    have : v.cells = #[v] := by have := VR1.oneC h'; cases v <;> first | rfl | simp [oneC] at this
    rw [this]; exact ⟨h', trivial⟩
  | ptr a b =>
    have h' : VR1 σ (.ptr a b) v := h
    have : v.cells = #[v] := by have := VR1.oneC h'; cases v <;> first | rfl | simp [oneC] at this
    rw [this]; exact ⟨h', trivial⟩
  | sl a b c d f =>
    have h' : VR1 σ (.sl a b c d f) v := h
    have : v.cells = #[v] := by have := VR1.oneC h'; cases v <;> first | rfl | simp [oneC] at this
    rw [this]; exact ⟨h', trivial⟩
  | fn a b c =>
    have h' : VR1 σ (.fn a b c) v := h
    have : v.cells = #[v] := by have := VR1.oneC h'; cases v <;> first | rfl | simp [oneC] at this
    rw [this]; exact ⟨h', trivial⟩
  | mp a =>
    have h' : VR1 σ (.mp a) v := h
    have : v.cells = #[v] := by have := VR1.oneC h'; cases v <;> first | rfl | simp [oneC] at this
    rw [this]; exact ⟨h', trivial⟩
  | yl a =>
    have h' : VR1 σ (.yl a) v := h
    have : v.cells = #[v] := by have := VR1.oneC h'; cases v <;> first | rfl | simp [oneC] at this
    rw [this]; exact ⟨h', trivial⟩

theorem All2.set {α β : Type} {R : α → β → Prop} {a : α} {b : β} (hab : R a b) : ∀ {l : List α} {m : List β} {i : Nat}, All2 R l m → All2 R (l.set i a) (m.set i b)
  | [], [], i, h => by simpa using h
  | x :: l, y :: m, 0, h => ⟨hab, h.2⟩
  | x :: l, y :: m, i + 1, h => ⟨h.1, All2.set hab h.2⟩
  | [], _ :: _, _, h => h.elim
  | _ :: _, [], _, h => h.elim

theorem overS_one {l : List LV} : ∀ {vs : List LV} {o : Nat} {l' : List LV}, overS o vs l = some l' → True := fun _ => trivial

theorem overS_out : ∀ {vs : List LV} {o : Nat} {l l' : List LV}, overS o vs l = some l' → (∀ x ∈ vs, one1 x = true) ∧ l'.length = l.length ∧ (vs = [] ∨ o + vs.length ≤ l.length)
  | [], o, l, l', h => by simp only [overS, Option.some.injEq] at h; subst h; simp
  | v :: r, o, l, l', h => by
    simp only [overS] at h
    obtain ⟨hb, h⟩ := bif_some (x := l') h
    simp only [Bool.and_eq_true] at hb
    obtain ⟨h1, h2, h3⟩ := overS_out h
    have ho : o < l.length := by simpa [Nat.blt_eq] using hb.1
    refine ⟨fun x hx => ?_, by simpa using h2, .inr ?_⟩
    · rcases List.mem_cons.1 hx with rfl | hx
      · exact hb.2
      · exact h1 x hx
    · rcases h3 with rfl | h3
      · simp; omega
      · simp at h3 ⊢; omega

theorem overS_rel : ∀ {vs : List LV} {us : List Value} {o : Nat} {l l' : List LV} {a : Array Value}, overS o vs l = some l' → All2 (VR1 σ) vs us → All2 (VR1 σ) l a.toList → All2 (VR1 σ) l' (setsA o us a).toList
  | [], [], o, l, l', a, h, _, ha => by simp only [overS, Option.some.injEq] at h; subst h; exact ha
  | v :: r, u :: us, o, l, l', a, h, hv, ha => by
    simp only [overS] at h
    obtain ⟨hb, h⟩ := bif_some (x := l') h
    exact overS_rel (o := o + 1) (a := a.setIfInBounds o u) h hv.2 (by rw [Array.toList_setIfInBounds]; exact All2.set hv.1 ha)
  | [], _ :: _, _, _, _, _, _, hv, _ => hv.elim
  | _ :: _, [], _, _, _, _, _, hv, _ => hv.elim

def PartsR (P : Program) (σ : Sg) : List (Nat × LV) → List (Nat × Value) → Prop
  | [], [] => True
  | (i, a) :: l, (j, b) :: m => i = j ∧ (isKn a = true → VR P σ a b) ∧ PartsR P σ l m
  | _, _ => False

theorem fillL_rel {place : Nat → Option (Nat × Nat)} : ∀ {ps : List (Nat × LV)} {qs : List (Nat × Value)} {l l' : List LV} {a : Array Value}, fillL place l ps = some l' → PartsR P σ ps qs →
    All2 (VR1 σ) l a.toList → ∃ a', Instr.fill place a qs = some a' ∧ All2 (VR1 σ) l' a'.toList
  | [], [], l, l', a, h, _, ha => by simp only [fillL, Option.some.injEq] at h; subst h; exact ⟨a, rfl, ha⟩
  | (i, v) :: ps, (j, u) :: qs, l, l', a, h, hp, ha => by
    obtain ⟨rfl, hv, hp⟩ := hp
    simp only [fillL] at h
    cases hpl : place i with
    | none => simp [hpl] at h
    | some os =>
      obtain ⟨off, size⟩ := os
      simp only [hpl] at h
      obtain ⟨hb, h⟩ := bif_some (x := l') h
      simp only [Bool.and_eq_true] at hb
      cases hov : overS off (cellsL v) l with
      | none => simp [hov] at h
      | some l1 =>
        simp only [hov] at h
        obtain ⟨h1, h2, h3⟩ := overS_out hov
        have hc := cells_rel (hv hb.1.2) h1
        have hsz : (cellsL v).length = size := Nat.eq_of_beq_eq_true hb.1.1
        have hs : u.cells.size = size := by rw [← hsz, hc.length]; simp
        have hl : l.length = a.size := by rw [ha.length]; simp
        have hle : off + size ≤ l.length := Nat.le_of_ble_eq_true hb.2
        obtain ⟨a', hf, har⟩ := fillL_rel (a := setsA off u.cells.toList a) h hp (overS_rel hov hc ha)
        refine ⟨a', ?_, har⟩
        simp only [Instr.fill, hpl]
        rw [if_neg (by simp [hs]; omega), ← hf, ← fold_setsA]
  | [], _ :: _, _, _, _, _, hv, _ => hv.elim
  | _ :: _, [], _, _, _, _, hv, _ => hv.elim

theorem zList_out {t : TypeId} (h : 0 < zLen P t) : ∃ z : Array Value, zc P t = some z ∧ z.toList.all scalar = true ∧ zList P t = z.toList.map .sc ∧ z.size = zLen P t := by
  unfold zLen zList at *
  cases hz : zc P t with
  | none => simp [hz] at h
  | some z =>
    simp only [hz] at h ⊢
    cases hs : z.toList.all scalar with
    | false => rw [hs] at h; simp at h
    | true => refine ⟨z, rfl, by rw [← hs], by simp, by simp⟩

theorem zTr_get {t : TypeId} (h : 0 < zLen P t) (j : Nat) : tget (dep (zLen P t)) (zTr P t) (j % zLen P t) = (zList P t)[j % zLen P t]? := by
  have hlt := Nat.mod_lt j h
  have hd := lt_dep (zLen P t)
  unfold zTr
  rw [show (zList P t).length = zLen P t from rfl, trOf_get _ _ _ _ _ (wf_nil _) (by rw [show (zList P t).length = zLen P t from rfl]; omega) (by omega)]
  rw [if_pos ⟨Nat.zero_le _, by rw [show (zList P t).length = zLen P t from rfl]; omega⟩]
  simp

/-- The zero value, over and over. -/
theorem Blk.get_zero {t : TypeId} (h : 0 < zLen P t) {n j : Nat} (hj : j < n) : Blk.get P ⟨n, some t, .nil⟩ j = (zList P t)[j % zLen P t]? := by
  unfold Blk.get
  simp only
  rw [blt_true hj, cond_true, tget_nil]
  exact zTr_get h j

def RB (P : Program) (σ : Sg) (t : TypeId) (n : Nat) (c : Tr LV) (a : Array Value) : Prop :=
  wfT (dep n) c ∧ a.size = n ∧ ∀ j u, a[j]? = some u → ∃ lv, Blk.get P ⟨n, some t, c⟩ j = some lv ∧ VR1 σ lv u

theorem overL_rel {t : TypeId} {n : Nat} : ∀ {vs : List LV} {us : List Value} {o : Nat} {c c' : Tr LV} {a : Array Value}, overL (dep n) n o vs c = some c' → All2 (VR1 σ) vs us → RB P σ t n c a → RB P σ t n c' (setsA o us a)
  | [], [], o, c, c', a, h, _, ha => by simp only [overL, Option.some.injEq] at h; subst h; exact ha
  | v :: r, u :: us, o, c, c', a, h, hv, ha => by
    simp only [overL] at h
    obtain ⟨hb, h⟩ := bif_some (x := c') h
    simp only [Bool.and_eq_true] at hb
    have ho : o < n := by simpa [Nat.blt_eq] using hb.1
    obtain ⟨h1, h2, h3⟩ := ha
    refine overL_rel (o := o + 1) (a := a.setIfInBounds o u) h hv.2 ⟨wf_tset _ _ _ _ h1, by simp [h2], fun j w hj => ?_⟩
    have hg := Blk.get_set (P := P) (k := ⟨n, some t, c⟩) (o := o) (m := j) (v := v) h1 ho
    simp only at hg
    rw [hg]
    rw [Array.getElem?_setIfInBounds] at hj
    by_cases he : o = j
    · subst he
      rw [if_pos rfl, if_pos (by omega)] at hj
      simp only [Option.some.injEq] at hj; subst hj
      exact ⟨v, by simp, hv.1⟩
    · rw [if_neg he] at hj
      rw [if_neg he]
      exact h3 j w hj
  | [], _ :: _, _, _, _, _, _, hv, _ => hv.elim
  | _ :: _, [], _, _, _, _, _, hv, _ => hv.elim

theorem overL_out {d n : Nat} : ∀ {vs : List LV} {o : Nat} {c c' : Tr LV}, overL d n o vs c = some c' → (∀ x ∈ vs, one1 x = true)
  | [], o, c, c', h => by simp
  | v :: r, o, c, c', h => by
    simp only [overL] at h
    obtain ⟨hb, h⟩ := bif_some (x := c') h
    simp only [Bool.and_eq_true] at hb
    intro x hx
    rcases List.mem_cons.1 hx with rfl | hx
    · exact hb.2
    · exact overL_out h x hx

theorem fillB_rel {place : Nat → Option (Nat × Nat)} {t : TypeId} {n : Nat} : ∀ {ps : List (Nat × LV)} {qs : List (Nat × Value)} {c c' : Tr LV} {a : Array Value}, fillB place (dep n) n ps c = some c' → PartsR P σ ps qs →
    RB P σ t n c a → ∃ a', Instr.fill place a qs = some a' ∧ RB P σ t n c' a'
  | [], [], c, c', a, h, _, ha => by simp only [fillB, Option.some.injEq] at h; subst h; exact ⟨a, rfl, ha⟩
  | (i, v) :: ps, (j, u) :: qs, c, c', a, h, hp, ha => by
    obtain ⟨rfl, hv, hp⟩ := hp
    simp only [fillB] at h
    cases hpl : place i with
    | none => simp [hpl] at h
    | some os =>
      obtain ⟨off, size⟩ := os
      simp only [hpl] at h
      obtain ⟨hb, h⟩ := bif_some (x := c') h
      simp only [Bool.and_eq_true] at hb
      cases hov : overL (dep n) n off (cellsL v) c with
      | none => simp [hov] at h
      | some c1 =>
        simp only [hov] at h
        have h1 := overL_out hov
        have hc := cells_rel (hv hb.1.2) h1
        have hsz : (cellsL v).length = size := Nat.eq_of_beq_eq_true hb.1.1
        have hs : u.cells.size = size := by rw [← hsz, hc.length]; simp
        have hl : a.size = n := ha.2.1
        have hle : off + size ≤ n := Nat.le_of_ble_eq_true hb.2
        obtain ⟨a', hf, har⟩ := fillB_rel (a := setsA off u.cells.toList a) h hp (overL_rel hov hc ha)
        refine ⟨a', ?_, har⟩
        simp only [Instr.fill, hpl]
        rw [if_neg (by simp [hs]; omega), ← hf, ← fold_setsA]
  | [], _ :: _, _, _, _, _, hv, _ => hv.elim
  | _ :: _, [], _, _, _, _, hv, _ => hv.elim

theorem RB_zero {t : TypeId} {z : Array Value} (hn : 0 < zLen P t) (hz : zc P t = some z) : RB P σ t (zLen P t) .nil z := by
  obtain ⟨z', h1, h2, h3, h4⟩ := zList_out hn
  rw [hz] at h1; simp only [Option.some.injEq] at h1; subst h1
  refine ⟨wf_nil _, h4, fun j u hj => ?_⟩
  have hlt : j < zLen P t := by
    rw [← h4]
    rcases Nat.lt_or_ge j z.size with h | h
    · exact h
    · rw [Array.getElem?_eq_none h] at hj; simp at hj
  refine ⟨.sc u, ?_, rfl, ?_⟩
  · rw [Blk.get_zero hn hlt, Nat.mod_eq_of_lt hlt, h3]
    simp [hj]
  · rw [List.all_eq_true] at h2
    exact h2 u (by rw [← Array.getElem?_toList] at hj; exact List.mem_of_getElem? hj)

theorem buildP_rel {t : TypeId} {place : Nat → Option (Nat × Nat)} {ps : List (Nat × LV)} {qs : List (Nat × Value)} {v : LV} {z : Array Value} (hn : 0 < zLen P t) (hz : zc P t = some z)
    (h : buildP P t place ps = some v) (hp : PartsR P σ ps qs) : ∃ a', Instr.fill place z qs = some a' ∧ VR P σ v (.agg a') := by
  unfold buildP at h
  cases hb : Nat.blt 12 (zLen P t) with
  | true =>
    rw [hb, cond_true] at h
    split at h
    · rename_i c hc
      simp only [Option.some.injEq] at h; subst h
      obtain ⟨a', hf, h1, h2, h3⟩ := fillB_rel hc hp (RB_zero (σ := σ) hn hz)
      refine ⟨a', hf, a'.toList, by simpa using h2, h1, fun j u hj => ?_, by simp⟩
      rw [Nat.zero_add]
      exact h3 j u (by rw [← Array.getElem?_toList]; exact hj)
    · simp at h
  | false =>
    rw [hb, cond_false] at h
    split at h
    · rename_i l hl
      simp only [Option.some.injEq] at h; subst h
      obtain ⟨z', h1, h2, h3, h4⟩ := zList_out hn
      rw [hz] at h1; simp only [Option.some.injEq] at h1; subst h1
      obtain ⟨a', hf, ha⟩ := fillL_rel (a := z) hl hp (by rw [h3]; exact All2_sc h2)
      exact ⟨a', hf, a'.toList, ha, by simp⟩
    · simp at h

theorem simple_places {fs : Array Field} (h : fs.toList.all (fun f => (P.info? f.type).isSome) = true) :
    simple P (fs.mapM fun f => Prod.mk f.offset <$> sizeOf f.type) = some (structPlaces P fs).toArray := by
  have e1 : fs = fs.toList.toArray := by simp
  rw [e1, List.mapM_toArray, simple_map]
  have key : ∀ l : List Field, l.all (fun f => (P.info? f.type).isSome) = true → simple P (l.mapM fun f => Prod.mk f.offset <$> sizeOf f.type) = some (l.map fun f => (f.offset, P.cellsOf f.type)) := by
    intro l
    induction l with
    | nil => intro _; rfl
    | cons f l ih =>
      intro h
      simp only [List.all_cons, Bool.and_eq_true] at h
      simp only [List.mapM_cons, simple_bind, simple_map, simple_sizeOf h.1, Option.map_some, Option.bind_some, simple_pure, ih h.2, List.map_cons]
  rw [key fs.toList h]
  simp [structPlaces]

theorem partsR_lev (hr : ER P σ le e) (ps : Array (Nat × Operand)) : PartsR P σ (partsL le ps) (ps.map fun x => (x.1, ev e x.2)).toList := by
  unfold partsL
  rw [Array.toList_map]
  induction ps.toList with
  | nil => trivial
  | cons p l ih => exact ⟨rfl, fun hk => hr.lev p.2 hk, ih⟩

theorem buildL_D {t : TypeId} {ps : Array (Nat × Operand)} {v : LV} (hr : ER P σ le e) (ho : o.op = .build t ps) (h : buildL P t (partsL le ps) = some v) (hk : ∀ v', VR P σ v v' → Kp v') :
    simpleD P (ev e) o Kp := by
  unfold buildL at h
  obtain ⟨hn, h⟩ := bif_some (x := v) h
  have hn : 0 < zLen P t := by simpa [Nat.blt_eq] using hn
  obtain ⟨z, hz, hzs, hzl, hzn⟩ := zList_out hn
  obtain ⟨zv, hzv, hzc⟩ := simple_zero hz
  split at h
  · rename_i fs hu
    obtain ⟨hf, h⟩ := bif_some (x := v) h
    obtain ⟨a', hfill, hvr⟩ := buildP_rel hn hz h (partsR_lev hr ps)
    have hpl : (fun i : Nat => (structPlaces P fs)[i]?) = (fun i : Nat => (structPlaces P fs).toArray[i]?) := by funext i; simp
    rw [hpl] at hfill
    have : simple P (execOp (ev e) o) = some (.value (.agg a')) := by
      simp [execOp, ho, Instr.build, simple_bind, simple_map, hzv, simple_underlying hu, hzc, simple_pure]
      rw [Array.toList_map] at hfill
      rw [simple_places hf, Option.bind_some, Function.comp, hfill]
      rfl
    unfold simpleD; rw [this]
    exact hk _ hvr
  · rename_i len el hu
    obtain ⟨hf, h⟩ := bif_some (x := v) h
    obtain ⟨a', hfill, hvr⟩ := buildP_rel hn hz h (partsR_lev hr ps)
    have : simple P (execOp (ev e) o) = some (.value (.agg a')) := by
      simp [execOp, ho, Instr.build, simple_bind, simple_map, hzv, simple_underlying hu, hzc, simple_pure, simple_sizeOf hf]
      rw [Array.toList_map] at hfill
      rw [hfill]
      rfl
    unfold simpleD; rw [this]
    exact hk _ hvr
  · simp at h

end
end Go.Den
