/- Ev3: what a run's values and heap stand for. Own work; a part of the proof of a claim. Conditions: none beyond those that stand in each theorem. -/
import Derived.Test.YteganidclpobeaaGreatEv2
/- Ev3: what a run's values and heap stand for. -/
set_option linter.unusedSimpArgs false
set_option linter.unusedVariables false
namespace Go.Den
open Go

/-- Where the run's blocks lie; which blocks of the world it may touch; what the others are, and stay. -/
structure Sg where
  f : Nat → Option (Nat × Nat)
  A : Nat → Prop
  F : Nat → Option Obj
  os : Os
  out : Array (Nat × ByteArray)

instance : CoeFun Sg (fun _ => Nat → Option (Nat × Nat)) := ⟨Sg.f⟩

structure Ext (σ σ' : Sg) : Prop where
  f : ∀ b r, σ b = some r → σ' b = some r
  A : σ'.A = σ.A
  F : σ'.F = σ.F
  os : σ'.os = σ.os
  out : σ'.out = σ.out

instance {σ σ' : Sg} : CoeFun (Ext σ σ') (fun _ => ∀ b r, σ b = some r → σ' b = some r) := ⟨Ext.f⟩

theorem Ext.refl (σ : Sg) : Ext σ σ := ⟨fun _ _ h => h, rfl, rfl, rfl, rfl⟩
theorem Ext.trans {a b c : Sg} (h : Ext a b) (h' : Ext b c) : Ext a c :=
  ⟨fun x r hx => h'.f x r (h.f x r hx), h'.A.trans h.A, h'.F.trans h.F, h'.os.trans h.os, h'.out.trans h.out⟩

structure Fz (σ : Sg) (w : World) : Prop where
  hi : ∀ b, w.heap.size ≤ b → σ.A b
  old : ∀ b, ¬ σ.A b → w.heap[b]? = σ.F b
  os : w.os = σ.os
  out : w.output = σ.out
  nf : ∀ a : Addr, σ.A a.block → w.frozen? a = false

theorem frozen_alloc_other {w : World} {o : Obj} (ho : ∀ c t f, o ≠ .cells c t f) (a : Addr) : (w.alloc o).frozen? a = if a.block = w.heap.size then false else w.frozen? a := by
  unfold World.frozen? World.alloc
  simp only [Array.getElem?_push]
  by_cases h : a.block = w.heap.size
  · rw [if_pos h, if_pos h]
    cases o with
    | cells c t f => exact absurd rfl (ho c t f)
    | _ => rfl
  · rw [if_neg h, if_neg h]

theorem frozen_alloc_cells {w : World} {c : Array Value} {t : TypeId} (a : Addr) : (w.alloc (.cells c t)).frozen? a = if a.block = w.heap.size then false else w.frozen? a := by
  unfold World.frozen? World.alloc
  simp only [Array.getElem?_push]
  by_cases h : a.block = w.heap.size
  · rw [if_pos h, if_pos h]; simp
  · rw [if_neg h, if_neg h]

theorem Fz.alloc0 {σ : Sg} {w : World} (h : Fz σ w) (o : Obj) (hf : ∀ a : Addr, (w.alloc o).frozen? a = if a.block = w.heap.size then false else w.frozen? a) : Fz σ (w.alloc o) := by
  refine ⟨fun b hb => h.hi b ?_, fun b hb => ?_, h.os, h.out, fun a ha => ?_⟩
  · unfold World.alloc at hb; simp only [Array.size_push] at hb; omega
  · rw [← h.old b hb]
    have : b < w.heap.size := by
      rcases Nat.lt_or_ge b w.heap.size with h1 | h1
      · exact h1
      · exact absurd (h.hi b h1) hb
    unfold World.alloc
    simp only [Array.getElem?_push]
    rw [if_neg (by omega)]
  · rw [hf]
    split
    · rfl
    · exact h.nf a ha

theorem Fz.alloc {σ : Sg} {w : World} (h : Fz σ w) (c : Array Value) (t : TypeId) : Fz σ (w.alloc (.cells c t)) := h.alloc0 _ frozen_alloc_cells

theorem Fz.allocO {σ : Sg} {w : World} (h : Fz σ w) {o : Obj} (ho : ∀ c t f, o ≠ .cells c t f) : Fz σ (w.alloc o) := h.alloc0 _ (frozen_alloc_other ho)

theorem Fz.setCell {σ : Sg} {w : World} (h : Fz σ w) {a : Addr} {v : Value} (ha : σ.A a.block) : Fz σ (w.setCell a v) := by
  refine ⟨fun b hb => h.hi b ?_, fun b hb => ?_, h.os, h.out, fun b hb => ?_⟩
  · simpa [World.setCell] using hb
  · rw [← h.old b hb]
    simp only [World.setCell, Array.getElem?_modify]
    rw [if_neg (fun he => hb (by rw [← he]; exact ha))]
  · rw [World.frozen?_setCell]; exact h.nf b hb

theorem Fz.setObj {σ : Sg} {w : World} (h : Fz σ w) {r : Nat} {o : Obj} (ho : ∀ c t f, o ≠ .cells c t f) (ha : σ.A r) : Fz σ (World.setObj' w r o) := by
  refine ⟨fun b hb => h.hi b ?_, fun b hb => ?_, h.os, h.out, fun a hb => ?_⟩
  · simpa [World.setObj'] using hb
  · rw [← h.old b hb]
    simp only [World.setObj', Array.getElem?_setIfInBounds]
    rw [if_neg (fun he => hb (by rw [← he]; exact ha))]
  · have := h.nf a hb
    unfold World.frozen? World.setObj' at *
    simp only [Array.getElem?_setIfInBounds]
    by_cases hr : r = a.block
    · rw [if_pos hr]
      by_cases hl : r < w.heap.size
      · rw [if_pos hl]
        cases o with
        | cells c t f => exact absurd rfl (ho c t f)
        | _ => rfl
      · rw [if_neg hl]
    · rw [if_neg hr]; exact this

theorem Fz.drew {σ : Sg} {w : World} (h : Fz σ w) : Fz σ w.drew := ⟨h.hi, h.old, h.os, h.out, h.nf⟩

def VR0 (σ : Sg) : LV → Value → Prop
  | .sc v, v' => v' = v ∧ scalar v = true
  | .ptr b o, v' => ∃ r, σ b = some r ∧ v' = .pointer (some ⟨r.1, o, none⟩)
  | .sl b o n c ex, v' => ∃ r c', σ b = some r ∧ c ≤ c' ∧ (if ex then c' = c else o = 0 ∧ c' = r.2) ∧ v' = .slice (some ⟨r.1, o, none⟩) n c'
  | .mp b, v' => ∃ r, σ b = some r ∧ v' = .map (some r.1)
  | .yl b, v' => ∃ r, σ b = some r ∧ v' = .func (.yield r.1) ⟨[]⟩ ⟨[]⟩
  | _, _ => False

/-- Two lists, place by place. -/
def All2 {α β : Type} (R : α → β → Prop) : List α → List β → Prop
  | [], [] => True
  | a :: l, b :: m => R a b ∧ All2 R l m
  | _, _ => False

/-- The value of one cell. -/
def VR1 (σ : Sg) : LV → Value → Prop
  | .fn k fs cs, v' => ∃ fs' cs', All2 (VR0 σ) fs fs' ∧ All2 (VR0 σ) cs cs' ∧ v' = .func (.func k) ⟨fs'⟩ ⟨cs'⟩
  | v, v' => VR0 σ v v'

def VR2 (P : Program) (σ : Sg) : LV → Value → Prop
  | .agg l, v' => ∃ l', All2 (VR1 σ) l l' ∧ v' = .agg ⟨l'⟩
  | .agb k o n, v' => ∃ l', l'.length = n ∧ wfT (dep k.size) k.cells ∧ (∀ j u, l'[j]? = some u → ∃ lv, Blk.get P k (o + j) = some lv ∧ VR1 σ lv u) ∧ v' = .agg ⟨l'⟩
  | v, v' => VR1 σ v v'

def VR (P : Program) (σ : Sg) : LV → Value → Prop
  | .tup l, v' => ∃ l', All2 (VR2 P σ) l l' ∧ v' = .tuple ⟨l'⟩
  | v, v' => VR2 P σ v v'

section
variable {P : Program} {σ σ' : Sg} {H H' : LHeap} {w w' : World}

theorem All2.imp {α β : Type} {R S : α → β → Prop} (h : ∀ a b, R a b → S a b) : ∀ {l : List α} {m : List β}, All2 R l m → All2 S l m
  | [], [], _ => trivial
  | _ :: _, _ :: _, hh => ⟨h _ _ hh.1, All2.imp h hh.2⟩
  | [], _ :: _, hh => hh.elim
  | _ :: _, [], hh => hh.elim

theorem All2.length {α β : Type} {R : α → β → Prop} : ∀ {l : List α} {m : List β}, All2 R l m → l.length = m.length
  | [], [], _ => rfl
  | _ :: _, _ :: _, hh => by simp [All2.length hh.2]
  | [], _ :: _, hh => hh.elim
  | _ :: _, [], hh => hh.elim

theorem All2.append {α β : Type} {R : α → β → Prop} : ∀ {l : List α} {m : List β} {l2 : List α} {m2 : List β}, All2 R l m → All2 R l2 m2 → All2 R (l ++ l2) (m ++ m2)
  | [], [], _, _, _, h => h
  | _ :: _, _ :: _, _, _, hh, h => ⟨hh.1, All2.append hh.2 h⟩
  | [], _ :: _, _, _, hh, _ => hh.elim
  | _ :: _, [], _, _, hh, _ => hh.elim

theorem All2.get {α β : Type} {R : α → β → Prop} : ∀ {l : List α} {m : List β} {i : Nat} {a : α}, All2 R l m → l[i]? = some a → ∃ b, m[i]? = some b ∧ R a b
  | [], [], i, a, _, h => by simp at h
  | x :: l, y :: m, 0, a, hh, h => ⟨y, rfl, by simp at h; exact h ▸ hh.1⟩
  | x :: l, y :: m, i + 1, a, hh, h => by
    obtain ⟨b, hb, hr⟩ := All2.get (i := i) hh.2 (by simpa using h)
    exact ⟨b, by simpa using hb, hr⟩
  | [], _ :: _, _, _, hh, _ => hh.elim
  | _ :: _, [], _, _, hh, _ => hh.elim

theorem All2.take {α β : Type} {R : α → β → Prop} : ∀ {l : List α} {m : List β} (i : Nat), All2 R l m → All2 R (l.take i) (m.take i)
  | [], [], i, _ => by simp [All2]
  | x :: l, y :: m, 0, hh => by simp [All2]
  | x :: l, y :: m, i + 1, hh => by simpa [All2] using ⟨hh.1, All2.take i hh.2⟩
  | [], _ :: _, _, hh => hh.elim
  | _ :: _, [], _, hh => hh.elim

theorem All2.drop {α β : Type} {R : α → β → Prop} : ∀ {l : List α} {m : List β} (i : Nat), All2 R l m → All2 R (l.drop i) (m.drop i)
  | [], [], i, _ => by simp [All2]
  | x :: l, y :: m, 0, hh => by simpa using hh
  | x :: l, y :: m, i + 1, hh => by simpa using All2.drop i hh.2
  | [], _ :: _, _, hh => hh.elim
  | _ :: _, [], _, hh => hh.elim

theorem All2.rev {α β : Type} {R : α → β → Prop} : ∀ {l : List α} {m : List β}, All2 R l m → All2 R l.reverse m.reverse
  | [], [], _ => trivial
  | _ :: _, _ :: _, hh => by simpa using All2.append (All2.rev hh.2) (show All2 R [_] [_] from ⟨hh.1, trivial⟩)
  | [], _ :: _, hh => hh.elim
  | _ :: _, [], hh => hh.elim

theorem VR0.mono (h : Ext σ σ') : ∀ {v : LV} {v' : Value}, VR0 σ v v' → VR0 σ' v v' := by
  intro v v' hv
  cases v <;> simp only [VR0] at hv ⊢
  · exact hv
  · obtain ⟨r, h1, h2⟩ := hv; exact ⟨r, h _ _ h1, h2⟩
  · obtain ⟨r, c', h1, h2⟩ := hv; exact ⟨r, c', h _ _ h1, h2⟩
  · obtain ⟨r, h1, h2⟩ := hv; exact ⟨r, h _ _ h1, h2⟩
  · obtain ⟨r, h1, h2⟩ := hv; exact ⟨r, h _ _ h1, h2⟩

theorem VR1.mono (h : Ext σ σ') : ∀ {v : LV} {v' : Value}, VR1 σ v v' → VR1 σ' v v' := by
  intro v v' hv
  cases v with
  | fn k fs cs =>
    obtain ⟨fs', cs', h1, h2, h3⟩ := hv
    exact ⟨fs', cs', h1.imp fun _ _ => VR0.mono h, h2.imp fun _ _ => VR0.mono h, h3⟩
  | un => exact hv.elim
  | sc a => exact VR0.mono (v := .sc a) h hv
  | ptr a b => exact VR0.mono (v := .ptr a b) h hv
  | sl a b c d e => exact VR0.mono (v := .sl a b c d e) h hv
  | mp a => exact VR0.mono (v := .mp a) h hv
  | yl a => exact VR0.mono (v := .yl a) h hv
  | agg a => exact hv.elim
  | agb a b c => exact hv.elim
  | tup a => exact hv.elim

theorem VR2.mono (h : Ext σ σ') : ∀ {v : LV} {v' : Value}, VR2 P σ v v' → VR2 P σ' v v' := by
  intro v v' hv
  cases v with
  | agg l =>
    obtain ⟨l', h1, h2⟩ := hv
    exact ⟨l', h1.imp fun _ _ => VR1.mono h, h2⟩
  | agb k o n =>
    obtain ⟨l', h1, hw, h2, h3⟩ := hv
    exact ⟨l', h1, hw, fun j u hj => let ⟨lv, a, b⟩ := h2 j u hj; ⟨lv, a, VR1.mono h b⟩, h3⟩
  | un => exact hv.elim
  | sc a => exact VR1.mono (v := .sc a) h hv
  | ptr a b => exact VR1.mono (v := .ptr a b) h hv
  | sl a b c d e => exact VR1.mono (v := .sl a b c d e) h hv
  | mp a => exact VR1.mono (v := .mp a) h hv
  | yl a => exact VR1.mono (v := .yl a) h hv
  | fn a b c => exact VR1.mono (v := .fn a b c) h hv
  | tup a => exact hv.elim

theorem VR.mono (h : Ext σ σ') : ∀ {v : LV} {v' : Value}, VR P σ v v' → VR P σ' v v' := by
  intro v v' hv
  cases v with
  | tup l =>
    obtain ⟨l', h1, h2⟩ := hv
    exact ⟨l', h1.imp fun _ _ => VR2.mono h, h2⟩
  | un => exact hv.elim
  | sc a => exact VR2.mono (P := P) (v := .sc a) h hv
  | ptr a b => exact VR2.mono (P := P) (v := .ptr a b) h hv
  | sl a b c d e => exact VR2.mono (P := P) (v := .sl a b c d e) h hv
  | mp a => exact VR2.mono (P := P) (v := .mp a) h hv
  | yl a => exact VR2.mono (P := P) (v := .yl a) h hv
  | fn a b c => exact VR2.mono (P := P) (v := .fn a b c) h hv
  | agg a => exact VR2.mono (P := P) (v := .agg a) h hv
  | agb a b c => exact VR2.mono (P := P) (v := .agb a b c) h hv

/-- Of one cell. -/
theorem VR.one {v : LV} {v' : Value} (h1 : one1 v = true) (h : VR P σ v v') : VR1 σ v v' := by
  cases v <;> first | exact h | (simp [one1] at h1)

theorem VR.of1 {v : LV} {v' : Value} (h : VR1 σ v v') : VR P σ v v' := by
  cases v <;> first | exact h | exact h.elim

theorem VR.of2 {v : LV} {v' : Value} (h : VR2 P σ v v') : VR P σ v v' := by
  cases v <;> first | exact h | exact h.elim

theorem VR2.of1 {v : LV} {v' : Value} (h : VR1 σ v v') : VR2 P σ v v' := by
  cases v <;> first | exact h | exact h.elim

theorem scalar_kn {v : Value} (h : scalar v = true) : kn v = true := by
  cases v <;> simp [scalar, kn] at h ⊢

theorem VR.kn {v : LV} {v' : Value} (h : VR P σ v v') : kn v' = true := by
  cases v with
  | un => exact h.elim
  | sc v => obtain ⟨rfl, h⟩ := h; exact scalar_kn h
  | ptr b o => obtain ⟨r, _, rfl⟩ := h; rfl
  | sl b o n c ex => obtain ⟨r, c', _, _, _, rfl⟩ := h; rfl
  | fn k fs cs => obtain ⟨_, _, _, _, rfl⟩ := h; rfl
  | mp b => obtain ⟨r, _, rfl⟩ := h; rfl
  | yl b => obtain ⟨r, _, rfl⟩ := h; rfl
  | agg l => obtain ⟨l', _, rfl⟩ := h; rfl
  | agb k o n => obtain ⟨l', _, _, _, rfl⟩ := h; rfl
  | tup l => obtain ⟨l', _, rfl⟩ := h; rfl

theorem VR1.oneC {v : LV} {v' : Value} (h : VR1 σ v v') : oneC v' = true := by
  cases v with
  | un => exact h.elim
  | sc v => obtain ⟨rfl, h⟩ := h; revert h; cases v' <;> simp [scalar, Go.Den.oneC]
  | ptr b o => obtain ⟨r, _, rfl⟩ := h; rfl
  | sl b o n c ex => obtain ⟨r, c', _, _, _, rfl⟩ := h; rfl
  | fn k fs cs => obtain ⟨_, _, _, _, rfl⟩ := h; rfl
  | mp b => obtain ⟨r, _, rfl⟩ := h; rfl
  | yl b => obtain ⟨r, _, rfl⟩ := h; rfl
  | agg l => exact h.elim
  | agb k o n => exact h.elim
  | tup l => exact h.elim

theorem VR1.isKn {v : LV} {v' : Value} (h : VR1 σ v v') : one1 v = true := by
  cases v <;> first | rfl | exact h.elim

theorem All2.oneB : ∀ {l : List LV} {l' : List Value}, All2 (VR1 σ) l l' → oneB l' = true
  | [], [], _ => rfl
  | _ :: _, _ :: _, hh => by simp [Go.Den.oneB, VR1.oneC hh.1, All2.oneB hh.2]
  | [], _ :: _, hh => hh.elim
  | _ :: _, [], hh => hh.elim

/-- Temporaries, as an array. -/
structure TR (P : Program) (σ : Sg) (le : LE) (ts : Array Value) : Prop where
  wf : wfT le.d le.t
  sz : le.n ≤ 2 ^ le.d
  n : ts.size = le.n
  val : ∀ t, lget le t = .un ∨ ∃ v, ts[t]? = some v ∧ VR P σ (lget le t) v

theorem TR.mono {le : LE} {ts : Array Value} (h : TR P σ le ts) (hx : Ext σ σ') : TR P σ' le ts :=
  ⟨h.wf, h.sz, h.n, fun t => (h.val t).imp id fun ⟨v, h1, h2⟩ => ⟨v, h1, VR.mono hx h2⟩⟩

def OR (P : Program) (σ : Sg) : LObj → Obj → Prop
  | .it s pos, o => o = .stringIter s pos
  | .mp es clock, o => o = .map ⟨es⟩ clock
  | .dq op, o => o = .deferred (bif op then some [] else none)
  | .lp st pend le ps as bd _, o => ∃ r, o = .loop r ∧ r.state = st ∧ r.pending = pend ∧ r.params.toList = ps ∧ r.assign = as ∧ r.body = bd ∧ TR P σ le r.tmps

theorem OR.mono (hx : Ext σ σ') {x : LObj} {o : Obj} (h : OR P σ x o) : OR P σ' x o := by
  cases x with
  | lp st pend le ps as bd df => obtain ⟨r, h1, h2, h3, h4, h5, h6, h7⟩ := h; exact ⟨r, h1, h2, h3, h4, h5, h6, h7.mono hx⟩
  | _ => exact h

theorem OR.noCells {x : LObj} {o : Obj} (h : OR P σ x o) {c : Array Value} {e : TypeId} {f : Nat × Nat} : o ≠ .cells c e f := by
  cases x with
  | lp st pend le ps as bd df => obtain ⟨r, rfl, _⟩ := h; simp
  | it s p => rw [h]; simp
  | mp s p => rw [h]; simp
  | dq s => rw [h]; simp

def alive (P : Program) (H : LHeap) (b : Nat) : Prop := (∃ o lv, H.get P b o = some lv) ∨ ∃ x, tget TD H.its b = some x

structure MR (P : Program) (σ : Sg) (H : LHeap) (w : World) : Prop where
  wm : wfT TD H.mem
  wi : wfT TD H.its
  wc : ∀ b k, tget TD H.mem b = some k → wfT (dep k.size) k.cells
  nx : H.next ≤ TM
  fr : ∀ b, H.next ≤ b → b < TM → tget TD H.mem b = none ∧ tget TD H.its b = none ∧ tget TD H.aps b = none
  bd : ∀ b r, σ b = some r → b < H.next ∧ r.1 < w.heap.size
  cell : ∀ b o lv r, σ b = some r → H.get P b o = some lv → ∃ v, VR1 σ lv v ∧ w.cell? ⟨r.1, o, none⟩ = some v ∧ w.frozen? ⟨r.1, o, none⟩ = false
  its : ∀ b x r, σ b = some r → tget TD H.its b = some x → ∃ o, OR P σ x o ∧ w.heap[r.1]? = some o
  inj : ∀ b b' r r', σ b = some r → σ b' = some r' → r.1 = r'.1 → alive P H b → alive P H b' → b = b'
  ap : ∀ b r z, σ b = some r → tget TD H.aps b = some z → ∀ j, j < r.2 * z → (∃ u, w.cell? ⟨r.1, j, none⟩ = some u) ∧ w.frozen? ⟨r.1, j, none⟩ = false
  wa : wfT TD H.aps
  lo : ∀ b r, σ b = some r → σ.A r.1
  fz : Fz σ w

theorem tget_tset_TD {α : Type} {t : Tr α} {n m : Nat} {a : α} (hw : wfT TD t) (hn : n < TM) (hm : m < TM) : tget TD (tset TD t n a) m = if n = m then some a else tget TD t m := by
  rw [tget_tset _ _ _ _ _ hw, Nat.mod_eq_of_lt (show n < 2 ^ TD from hn), Nat.mod_eq_of_lt (show m < 2 ^ TD from hm)]

theorem Blk.get_lt {k : Blk} {o : Nat} {v : LV} (h : Blk.get P k o = some v) : o < k.size := by
  unfold Blk.get at h
  cases hb : Nat.blt o k.size with
  | false => rw [hb] at h; simp at h
  | true => simpa [Nat.blt_eq] using hb

theorem Blk.get_set {k : Blk} {o m : Nat} {v : LV} (hw : wfT (dep k.size) k.cells) (ho : o < k.size) :
    Blk.get P { k with cells := tset (dep k.size) k.cells o v } m = if o = m then some v else Blk.get P k m := by
  unfold Blk.get
  simp only
  by_cases hm : m < k.size
  · rw [show Nat.blt m k.size = true by simpa [Nat.blt_eq] using hm, cond_true, cond_true, tget_tset_dep hw ho hm]
    by_cases h : o = m
    · simp [h]
    · simp [h]
  · rw [show Nat.blt m k.size = false by rw [Bool.eq_false_iff]; simpa [Nat.blt_eq] using hm, cond_false, cond_false, if_neg (by omega)]

theorem LHeap.set_out {b o : Nat} {v : LV} (h : H.set P b o v = some H') : ∃ k u, tget TD H.mem b = some k ∧ Blk.get P k o = some u ∧ H.get P b o = some u ∧
    H' = { H with mem := tset TD H.mem b { k with cells := tset (dep k.size) k.cells o v } } := by
  unfold LHeap.set at h
  cases hk : tget TD H.mem b with
  | none => simp [hk] at h
  | some k =>
    simp only [hk] at h
    cases hu : Blk.get P k o with
    | none => simp [hu] at h
    | some u =>
      simp only [hu, Option.some.injEq] at h
      exact ⟨k, u, rfl, hu, by simp [LHeap.get, hk, hu], h.symm⟩

theorem MR.lt (h : MR P σ H w) {b : Nat} {r : Nat × Nat} (hb : σ b = some r) : b < TM := Nat.lt_of_lt_of_le (h.bd b r hb).1 h.nx

theorem LHeap.get_set (hm : wfT TD H.mem) (hc : ∀ b k, tget TD H.mem b = some k → wfT (dep k.size) k.cells) {b o b' o' : Nat} {v : LV} (hb : b < TM) (hb' : b' < TM) (h : H.set P b o v = some H') :
    H'.get P b' o' = if b = b' ∧ o = o' then some v else H.get P b' o' := by
  obtain ⟨k, u, hk, hu, _, rfl⟩ := LHeap.set_out h
  unfold LHeap.get
  simp only
  rw [tget_tset_TD hm hb hb']
  by_cases he : b = b'
  · subst he
    simp only [if_true, true_and, hk]
    exact Blk.get_set (hc _ _ hk) (Blk.get_lt hu)
  · simp [he]

theorem alive_get {b o : Nat} {v : LV} (h : H.get P b o = some v) : alive P H b := .inl ⟨o, v, h⟩

theorem alive_set (hm : MR P σ H w) {b o b' : Nat} {v : LV} (hb : b < TM) (hb' : b' < TM) (h : H.set P b o v = some H') (ha : alive P H' b') : alive P H b' := by
  rcases ha with ⟨o', lv, hg⟩ | ⟨x, hx⟩
  · rw [LHeap.get_set hm.wm hm.wc hb hb' h] at hg
    obtain ⟨k, u, hk, hu, hg0, _⟩ := LHeap.set_out h
    split at hg
    · rename_i he; rw [← he.1]; exact alive_get hg0
    · exact alive_get hg
  · obtain ⟨k, u, hk, hu, hg0, rfl⟩ := LHeap.set_out h
    exact .inr ⟨x, hx⟩

theorem heap_setCell {a : Addr} {v : Value} {r : Nat} {o : Obj} (ho : ∀ c e f, o ≠ .cells c e f) (h : w.heap[r]? = some o) : (w.setCell a v).heap[r]? = some o := by
  simp only [World.setCell, Array.getElem?_modify]
  by_cases hb : a.block = r
  · rw [if_pos hb, h]
    cases o with
    | cells c e f => exact absurd rfl (ho c e f)
    | _ => rfl
  · rw [if_neg hb, h]

theorem its_setCell {a : Addr} {v : Value} {r : Nat} {x : LObj} (h : ∃ o, OR P σ x o ∧ w.heap[r]? = some o) : ∃ o, OR P σ x o ∧ (w.setCell a v).heap[r]? = some o := by
  obtain ⟨o, h1, h2⟩ := h
  exact ⟨o, h1, heap_setCell (fun _ _ _ => OR.noCells h1) h2⟩

theorem size_setCell {a : Addr} {v : Value} : (w.setCell a v).heap.size = w.heap.size := by simp [World.setCell]

/-- One cell is written. -/
theorem MR.set (hm : MR P σ H w) {b o : Nat} {r : Nat × Nat} {lv : LV} {v : Value} (hb : σ b = some r) (hv : VR1 σ lv v) (h : H.set P b o lv = some H') :
    ((∃ u, w.cell? ⟨r.1, o, none⟩ = some u) ∧ w.frozen? ⟨r.1, o, none⟩ = false) ∧ MR P σ H' (w.setCell ⟨r.1, o, none⟩ v) := by
  obtain ⟨k, u, hk, hu, hg0, hH⟩ := LHeap.set_out h
  obtain ⟨u', _, hc, hf⟩ := hm.cell b o u r hb hg0
  have hbt := hm.lt hb
  refine ⟨⟨⟨u', hc⟩, hf⟩, ?_⟩
  constructor
  · rw [hH]; exact wf_tset _ _ _ _ hm.wm
  · rw [hH]; exact hm.wi
  · intro b' k' hk'
    rw [hH] at hk'
    simp only at hk'
    rw [tget_tset _ _ _ _ _ hm.wm] at hk'
    split at hk'
    · simp only [Option.some.injEq] at hk'; subst hk'; exact wf_tset _ _ _ _ (hm.wc _ _ hk)
    · exact hm.wc _ _ hk'
  · rw [hH]; exact hm.nx
  · intro b' h1 h2
    rw [hH] at h1 ⊢
    refine ⟨?_, (hm.fr b' h1 h2).2⟩
    simp only
    rw [tget_tset_TD hm.wm hbt h2, if_neg (by have := (hm.bd b r hb).1; simp only at h1; omega)]
    exact (hm.fr b' h1 h2).1
  · intro b' r' hb'
    rw [hH, size_setCell]; exact hm.bd b' r' hb'
  · intro b' o' lv' r' hb' hg'
    rw [LHeap.get_set hm.wm hm.wc hbt (hm.lt hb') h] at hg'
    split at hg'
    · rename_i he
      obtain ⟨rfl, rfl⟩ := he
      simp only [Option.some.injEq] at hg'
      subst hg'
      rw [hb] at hb'; simp only [Option.some.injEq] at hb'; subst hb'
      exact ⟨v, hv, World.cell?_setCell_same _ _ _ hc, by rw [World.frozen?_setCell]; exact hf⟩
    · rename_i he
      obtain ⟨v', h1, h2, h3⟩ := hm.cell b' o' lv' r' hb' hg'
      refine ⟨v', h1, ?_, by rw [World.frozen?_setCell]; exact h3⟩
      rw [World.cell?_setCell_other]
      · exact h2
      · intro hab
        simp only [Addr.mk.injEq, and_true] at hab
        exact he ⟨hm.inj b b' r r' hb hb' hab.1 (alive_get hg0) (alive_get hg'), hab.2⟩
  · intro b' x r' hb' hx
    rw [hH] at hx
    exact its_setCell (hm.its b' x r' hb' hx)
  · intro b1 b2 r1 r2 h1 h2 hr a1 a2
    exact hm.inj b1 b2 r1 r2 h1 h2 hr (alive_set hm hbt (hm.lt h1) h a1) (alive_set hm hbt (hm.lt h2) h a2)
  · intro b' r' z hb' hz j hj
    rw [hH] at hz
    obtain ⟨⟨u1, hu1⟩, hf1⟩ := hm.ap b' r' z hb' hz j hj
    refine ⟨?_, by rw [World.frozen?_setCell]; exact hf1⟩
    by_cases he : (⟨r.1, o, none⟩ : Addr) = ⟨r'.1, j, none⟩
    · rw [← he]; exact ⟨v, World.cell?_setCell_same _ _ _ hc⟩
    · exact ⟨u1, by rw [World.cell?_setCell_other _ _ _ _ he]; exact hu1⟩
  · rw [hH]; exact hm.wa
  · exact hm.lo
  · exact hm.fz.setCell (hm.lo b r hb)

theorem add_mk (r q i : Nat) : (⟨r, q, none⟩ : Addr).add i = ⟨r, q + i, none⟩ := by
  unfold Addr.add
  split <;> simp_all

/-- Cells, one behind the other, are written. -/
theorem MR.setN : ∀ {l : List LV} {l' : List Value} {H H' : LHeap} {w : World} {b o q i : Nat} {r : Nat × Nat}, MR P σ H w → σ b = some r → All2 (VR1 σ) l l' → H.setN P b o l = some H' →
    q + i = o → Wb w ⟨r.1, q, none⟩ i l' ∧ MR P σ H' (setCells w ⟨r.1, q, none⟩ i l')
  | [], [], H, H', w, b, o, q, i, r, hm, hb, ha, h, hp => by
    simp only [LHeap.setN, Option.some.injEq] at h
    subst h
    exact ⟨trivial, hm⟩
  | lv :: l, v :: l', H, H', w, b, o, q, i, r, hm, hb, ha, h, hp => by
    simp only [LHeap.setN] at h
    cases h1 : H.set P b o lv with
    | none => simp [h1] at h
    | some H1 =>
      simp only [h1] at h
      obtain ⟨hw, hm1⟩ := hm.set hb ha.1 h1
      have hp0 : (⟨r.1, q, none⟩ : Addr).add i = ⟨r.1, o, none⟩ := by rw [add_mk, hp]
      have hp1 : q + (i + 1) = o + 1 := by omega
      obtain ⟨hw2, hm2⟩ := MR.setN hm1 hb ha.2 h hp1
      refine ⟨⟨by rw [hp0]; exact hw, ?_⟩, by rw [setCells, hp0]; exact hm2⟩
      have keep : ∀ (m : List Value) (j : Nat), Wb (w.setCell ⟨r.1, o, none⟩ v) ⟨r.1, q, none⟩ j m → Wb w ⟨r.1, q, none⟩ j m := by
        intro m
        induction m with
        | nil => intro j _; trivial
        | cons u m ih =>
          intro j hj
          obtain ⟨⟨⟨u', hu'⟩, hfz⟩, hr⟩ := hj
          refine ⟨⟨?_, by rw [World.frozen?_setCell] at hfz; exact hfz⟩, ih _ hr⟩
          by_cases he : (⟨r.1, o, none⟩ : Addr) = (⟨r.1, q, none⟩ : Addr).add j
          · rw [← he]; exact hw.1
          · rw [World.cell?_setCell_other _ _ _ _ he] at hu'; exact ⟨u', hu'⟩
      exact keep _ _ hw2
  | [], _ :: _, _, _, _, _, _, _, _, _, _, _, ha, _, _ => ha.elim
  | _ :: _, [], _, _, _, _, _, _, _, _, _, _, ha, _, _ => ha.elim

theorem LHeap.getN_out : ∀ {n o : Nat} {b : Nat} {l : List LV}, H.getN P b o n = some l → l.length = n ∧ ∀ j v, l[j]? = some v → H.get P b (o + j) = some v
  | 0, o, b, l, h => by simp only [LHeap.getN, Option.some.injEq] at h; subst h; simp
  | n + 1, o, b, l, h => by
    simp only [LHeap.getN] at h
    cases h1 : H.get P b o with
    | none => simp [h1] at h
    | some v =>
      simp only [h1] at h
      cases h2 : H.getN P b (o + 1) n with
      | none => simp [h2] at h
      | some l1 =>
        simp only [h2, Option.some.injEq] at h
        subst h
        obtain ⟨hl, hg⟩ := LHeap.getN_out h2
        refine ⟨by simp [hl], fun j u hj => ?_⟩
        cases j with
        | zero => simp at hj; subst hj; exact h1
        | succ j => rw [show o + (j + 1) = o + 1 + j by omega]; exact hg j u (by simpa using hj)

/-- Cells, one behind the other, are read. -/
theorem MR.getN (hm : MR P σ H w) {b : Nat} {r : Nat × Nat} (hb : σ b = some r) : ∀ {n o : Nat} {l : List LV} {q i : Nat}, H.getN P b o n = some l → q + i = o → ∃ l', All2 (VR1 σ) l l' ∧ Rd w ⟨r.1, q, none⟩ i l'
  | 0, o, l, q, i, h, hp => by simp only [LHeap.getN, Option.some.injEq] at h; subst h; exact ⟨[], trivial, trivial⟩
  | n + 1, o, l, q, i, h, hp => by
    simp only [LHeap.getN] at h
    cases h1 : H.get P b o with
    | none => simp [h1] at h
    | some v =>
      simp only [h1] at h
      cases h2 : H.getN P b (o + 1) n with
      | none => simp [h2] at h
      | some l1 =>
        simp only [h2, Option.some.injEq] at h
        subst h
        have hp0 : (⟨r.1, q, none⟩ : Addr).add i = ⟨r.1, o, none⟩ := by rw [add_mk, hp]
        have hp1 : q + (i + 1) = o + 1 := by omega
        obtain ⟨l', ha, hr⟩ := MR.getN hm hb h2 hp1
        obtain ⟨u, hu, hc, _⟩ := hm.cell b o v r hb h1
        exact ⟨u :: l', ⟨hu, ha⟩, by rw [hp0]; exact hc, hr⟩

end
end Go.Den
