/- Ev16b: plans, with a new block that may come at any time. Own work; a part of the proof of a claim. Conditions: none beyond those that stand in each theorem. -/
import Derived.Test.YteganidclpobeaaGreatEv16
/- Ev16b: plans, with a new block that may come at any time. -/
set_option linter.unusedSimpArgs false
set_option linter.unusedVariables false
namespace Go.Den
open Go
section
variable {P : Program} {σ σ' : Sg} {le le' : LE} {e : Env} {a : Act} {o : Oper} {H H' : LHeap} {w w' : World}

theorem VR0.monoF (h : ∀ b r, σ b = some r → σ' b = some r) : ∀ {v : LV} {v' : Value}, VR0 σ v v' → VR0 σ' v v' := by
  intro v v' hv
  cases v <;> simp only [VR0] at hv ⊢
  · exact hv
  · obtain ⟨r, h1, h2⟩ := hv; exact ⟨r, h _ _ h1, h2⟩
  · obtain ⟨r, c', h1, h2⟩ := hv; exact ⟨r, c', h _ _ h1, h2⟩
  · obtain ⟨r, h1, h2⟩ := hv; exact ⟨r, h _ _ h1, h2⟩
  · obtain ⟨r, h1, h2⟩ := hv; exact ⟨r, h _ _ h1, h2⟩

theorem VR1.monoF (h : ∀ b r, σ b = some r → σ' b = some r) : ∀ {v : LV} {v' : Value}, VR1 σ v v' → VR1 σ' v v' := by
  intro v v' hv
  cases v with
  | fn k fs cs =>
    obtain ⟨fs', cs', h1, h2, h3⟩ := hv
    exact ⟨fs', cs', h1.imp fun _ _ => VR0.monoF h, h2.imp fun _ _ => VR0.monoF h, h3⟩
  | un => exact hv.elim
  | sc a => exact VR0.monoF (v := .sc a) h hv
  | ptr a b => exact VR0.monoF (v := .ptr a b) h hv
  | sl a b c d e => exact VR0.monoF (v := .sl a b c d e) h hv
  | mp a => exact VR0.monoF (v := .mp a) h hv
  | yl a => exact VR0.monoF (v := .yl a) h hv
  | agg a => exact hv.elim
  | agb a b c => exact hv.elim
  | tup a => exact hv.elim

theorem VR2.monoF (h : ∀ b r, σ b = some r → σ' b = some r) : ∀ {v : LV} {v' : Value}, VR2 P σ v v' → VR2 P σ' v v' := by
  intro v v' hv
  cases v with
  | agg l =>
    obtain ⟨l', h1, h2⟩ := hv
    exact ⟨l', h1.imp fun _ _ => VR1.monoF h, h2⟩
  | agb k o n =>
    obtain ⟨l', h1, hw, h2, h3⟩ := hv
    exact ⟨l', h1, hw, fun j u hj => let ⟨lv, a, b⟩ := h2 j u hj; ⟨lv, a, VR1.monoF h b⟩, h3⟩
  | un => exact hv.elim
  | sc a => exact VR1.monoF (v := .sc a) h hv
  | ptr a b => exact VR1.monoF (v := .ptr a b) h hv
  | sl a b c d e => exact VR1.monoF (v := .sl a b c d e) h hv
  | mp a => exact VR1.monoF (v := .mp a) h hv
  | yl a => exact VR1.monoF (v := .yl a) h hv
  | fn a b c => exact VR1.monoF (v := .fn a b c) h hv
  | tup a => exact hv.elim

theorem VR.monoF (h : ∀ b r, σ b = some r → σ' b = some r) : ∀ {v : LV} {v' : Value}, VR P σ v v' → VR P σ' v v' := by
  intro v v' hv
  cases v with
  | tup l =>
    obtain ⟨l', h1, h2⟩ := hv
    exact ⟨l', h1.imp fun _ _ => VR2.monoF h, h2⟩
  | un => exact hv.elim
  | sc a => exact VR2.monoF (P := P) (v := .sc a) h hv
  | ptr a b => exact VR2.monoF (P := P) (v := .ptr a b) h hv
  | sl a b c d e => exact VR2.monoF (P := P) (v := .sl a b c d e) h hv
  | mp a => exact VR2.monoF (P := P) (v := .mp a) h hv
  | yl a => exact VR2.monoF (P := P) (v := .yl a) h hv
  | fn a b c => exact VR2.monoF (P := P) (v := .fn a b c) h hv
  | agg a => exact VR2.monoF (P := P) (v := .agg a) h hv
  | agb a b c => exact VR2.monoF (P := P) (v := .agb a b c) h hv


theorem TR.monoF (hx : ∀ b r, σ b = some r → σ' b = some r) {ts : Array Value} (h : TR P σ le ts) : TR P σ' le ts :=
  ⟨h.wf, h.sz, h.n, fun t => (h.val t).imp id fun ⟨v, h1, h2⟩ => ⟨v, h1, VR.monoF hx h2⟩⟩

theorem OR.monoF (hx : ∀ b r, σ b = some r → σ' b = some r) {x : LObj} {o : Obj} (h : OR P σ x o) : OR P σ' x o := by
  cases x with
  | lp st pend le ps as bd df => obtain ⟨r, h1, h2, h3, h4, h5, h6, h7⟩ := h; exact ⟨r, h1, h2, h3, h4, h5, h6, h7.monoF hx⟩
  | _ => exact h

theorem ER.monoF (h : ER P σ le e) (hx : ∀ b r, σ b = some r → σ' b = some r) : ER P σ' le e := ⟨h.wf, h.sz, fun t => (h.val t).imp id (VR.monoF hx)⟩

theorem FR.monoF (hx : ∀ b r, σ b = some r → σ' b = some r) {x : Nat × Nat × LV} {f : Fct} (h : FR σ x f) : FR σ' x f := by
  obtain ⟨r, v, h1, h2, h3⟩ := h
  exact ⟨r, v, hx _ _ h1, VR1.monoF hx h2, h3⟩

theorem SR.monoF (hx : ∀ b r, σ b = some r → σ' b = some r) {SL : List (Nat × List (Nat × Nat × LV))} {SL' : List (Nat × List Fct)} (h : All2 (SR σ) SL SL') : All2 (SR σ') SL SL' :=
  h.imp fun x y hxy => ⟨hxy.1, hxy.2.imp fun _ _ => FR.monoF hx⟩

/-- A block of the world that the run does not know of yet. -/
structure Hid (σ0 σ : Sg) (hb : Nat) (ob : Obj) : Prop where
  f : ∀ b r, σ0 b = some r → σ b = some r
  A : ∀ b, σ.A b ↔ σ0.A b ∧ b ≠ hb
  F : ∀ b, σ.F b = if b = hb then some ob else σ0.F b
  os : σ.os = σ0.os
  out : σ.out = σ0.out
  a0 : σ0.A hb

theorem Hid.ext {σ0 : Sg} {hb : Nat} {ob : Obj} (h : Hid σ0 σ hb ob) (hx : Ext σ σ') : Hid σ0 σ' hb ob :=
  ⟨fun b r hb => hx.f b r (h.f b r hb), fun b => by rw [hx.A]; exact h.A b, fun b => by rw [hx.F]; exact h.F b, hx.os.trans h.os, hx.out.trans h.out, h.a0⟩

def Sg.hide (σ : Sg) (hb : Nat) (ob : Obj) : Sg := { σ with A := fun b => σ.A b ∧ b ≠ hb, F := fun b => if b = hb then some ob else σ.F b }

theorem Hid.of {hb : Nat} {ob : Obj} (ha : σ.A hb) : Hid σ (σ.hide hb ob) hb ob := ⟨fun _ _ h => h, fun _ => Iff.rfl, fun _ => rfl, rfl, rfl, ha⟩

theorem hide_f {hb : Nat} {ob : Obj} : ∀ b r, σ b = some r → (σ.hide hb ob) b = some r := fun _ _ h => h

theorem MR.hide (hm : MR P σ H w) (cs : Array Value) (t : TypeId) : MR P (σ.hide w.heap.size (.cells cs t)) H (w.alloc (.cells cs t)) := by
  have hlt : ∀ b r, σ b = some r → r.1 < w.heap.size := fun b r h => (hm.bd b r h).2
  refine ⟨hm.wm, hm.wi, hm.wc, hm.nx, hm.fr, fun b r h => ⟨(hm.bd b r h).1, ?_⟩, fun b o lv r h hg => ?_, fun b x r h hi => ?_, fun b b' r r' h h' => hm.inj b b' r r' h h', fun b r z h hz j hj => ?_, hm.wa, fun b r h => ⟨hm.lo b r h, ?_⟩, ?_⟩
  · rw [alloc_size]; have := hlt b r h; omega
  · obtain ⟨v, hv, hc, hf⟩ := hm.cell b o lv r h hg
    have := hlt b r h
    refine ⟨v, VR1.monoF hide_f hv, ?_, ?_⟩
    · rw [World.cell?_alloc_old _ _ _ (by simp only; omega)]; exact hc
    · rw [World.frozen?_alloc_old _ _ _ (by simp only; omega)]; exact hf
  · rw [alloc_heap_lt (hlt b r h)]
    exact (hm.its b x r h hi).imp fun o h => ⟨OR.monoF hide_f h.1, h.2⟩
  · obtain ⟨⟨u, hu⟩, hf⟩ := hm.ap b r z h hz j hj
    have := hlt b r h
    refine ⟨⟨u, ?_⟩, ?_⟩
    · rw [World.cell?_alloc_old _ _ _ (by simp only; omega)]; exact hu
    · rw [World.frozen?_alloc_old _ _ _ (by simp only; omega)]; exact hf
  · have := hlt b r h; omega
  · refine ⟨fun b hb => ?_, fun b hb => ?_, hm.fz.os, hm.fz.out, fun a ha => ?_⟩
    · rw [alloc_size] at hb
      exact ⟨hm.fz.hi b (by omega), by omega⟩
    · show (w.alloc (.cells cs t)).heap[b]? = if b = w.heap.size then some (.cells cs t) else σ.F b
      by_cases h : b = w.heap.size
      · subst h; rw [if_pos rfl, alloc_heap_new]
      · rw [if_neg h]
        have hA : ¬ σ.A b := fun hA => hb ⟨hA, h⟩
        have hl : b < w.heap.size := by
          rcases Nat.lt_or_ge b w.heap.size with h1 | h1
          · exact h1
          · exact absurd (hm.fz.hi b h1) hA
        rw [alloc_heap_lt hl]
        exact hm.fz.old b hA
    · rw [frozen_alloc_cells, if_neg ha.2]
      exact hm.fz.nf a ha.1

theorem MR.reveal {σ0 : Sg} {hb : Nat} {cs : Array Value} {t : TypeId} (h0 : Hid σ0 σ hb (.cells cs t)) (hm : MR P σ H w) {k : Blk} {b : Nat} (h : H.new k = some (b, H')) (hw : wfT (dep k.size) k.cells)
    (hc : ∀ o lv, Blk.get P k o = some lv → ∃ v, VR1 σ lv v ∧ cs[o]? = some v) :
    ∃ σ3 : Sg, Ext σ0 σ3 ∧ MR P σ3 H' w ∧ σ3 b = some (hb, 0) ∧ ∀ x r, σ x = some r → σ3 x = some r := by
  have hnA : ¬ σ.A hb := fun h => ((h0.A hb).1 h).2 rfl
  have hob : w.heap[hb]? = some (.cells cs t) := by rw [hm.fz.old hb hnA, h0.F, if_pos rfl]
  have hlb : hb < w.heap.size := (Array.getElem?_eq_some_iff.1 hob).1
  have hcell : ∀ o, w.cell? ⟨hb, o, none⟩ = cs[o]? := fun o => by unfold World.cell?; simp only [hob]; rfl
  have hfroz : ∀ a : Addr, a.block = hb → w.frozen? a = false := fun a ha => by unfold World.frozen?; rw [ha, hob]; simp
  have hne : ∀ x r, σ x = some r → r.1 ≠ hb := fun x r hx he => hnA (he ▸ hm.lo x r hx)
  unfold LHeap.new at h
  cases hbl : Nat.blt H.next TM with
  | false => rw [hbl] at h; simp at h
  | true =>
    rw [hbl] at h
    simp only [cond_true, Option.some.injEq, Prod.mk.injEq] at h
    obtain ⟨rfl, rfl⟩ := h
    have hlt : H.next < TM := by simpa [Nat.blt_eq] using hbl
    have hx := hm.ext (b := H.next) (r := (hb, 0)) (Nat.le_refl _)
    have hx' : ∀ x r, σ x = some r → (⟨(σ.put H.next (hb, 0)).f, σ0.A, σ0.F, σ0.os, σ0.out⟩ : Sg) x = some r := hx.f
    have getn : ∀ b' o', b' < TM → LHeap.get P { H with next := H.next + 1, mem := tset TD H.mem H.next k } b' o' = if H.next = b' then Blk.get P k o' else H.get P b' o' := by
      intro b' o' hb'
      unfold LHeap.get
      simp only
      rw [tget_tset_TD hm.wm hlt hb']
      by_cases he : H.next = b' <;> simp [he]
    have sput : ∀ b' r', (⟨(σ.put H.next (hb, 0)).f, σ0.A, σ0.F, σ0.os, σ0.out⟩ : Sg) b' = some r' → (b' = H.next ∧ r' = (hb, 0)) ∨ (b' ≠ H.next ∧ σ b' = some r') := by
      intro b' r' h'
      have h' : (if b' = H.next then some (hb, 0) else σ b') = some r' := h'
      by_cases he : b' = H.next
      · rw [if_pos he] at h'; simp at h'; exact .inl ⟨he, h'.symm⟩
      · rw [if_neg he] at h'; exact .inr ⟨he, h'⟩
    have al : ∀ b', b' ≠ H.next → b' < TM → alive P { H with next := H.next + 1, mem := tset TD H.mem H.next k } b' → alive P H b' := by
      intro b' hne hl ha
      rcases ha with ⟨o', lv, hg⟩ | ha
      · rw [getn _ _ hl, if_neg (fun h => hne h.symm)] at hg; exact .inl ⟨o', lv, hg⟩
      · exact .inr ha
    refine ⟨⟨(σ.put H.next (hb, 0)).f, σ0.A, σ0.F, σ0.os, σ0.out⟩, ⟨fun b' r' h' => hx' b' r' (h0.f b' r' h'), rfl, rfl, rfl, rfl⟩, ?_, Sg.put_same σ H.next (hb, 0), hx'⟩
    constructor
    · exact wf_tset _ _ _ _ hm.wm
    · exact hm.wi
    · intro b' k' hk'
      simp only at hk'
      rw [tget_tset _ _ _ _ _ hm.wm] at hk'
      split at hk'
      · simp only [Option.some.injEq] at hk'; subst hk'; exact hw
      · exact hm.wc _ _ hk'
    · exact hlt
    · intro b' h1 h2
      simp only at h1 ⊢
      refine ⟨?_, (hm.fr b' (by omega) h2).2⟩
      rw [tget_tset_TD hm.wm hlt h2, if_neg (by omega)]
      exact (hm.fr b' (by omega) h2).1
    · intro b' r' hb'
      rcases sput b' r' hb' with ⟨rfl, rfl⟩ | ⟨_, hb'⟩
      · exact ⟨Nat.lt_succ_self _, hlb⟩
      · have := hm.bd b' r' hb'; exact ⟨Nat.lt_succ_of_lt this.1, this.2⟩
    · intro b' o' lv r' hb' hg
      rcases sput b' r' hb' with ⟨rfl, rfl⟩ | ⟨hne', hb'⟩
      · rw [getn _ _ hlt, if_pos rfl] at hg
        obtain ⟨v, hv, hcv⟩ := hc o' lv hg
        exact ⟨v, VR1.monoF hx' hv, by rw [hcell]; exact hcv, hfroz _ rfl⟩
      · rw [getn _ _ (hm.lt hb'), if_neg (fun h => hne' h.symm)] at hg
        obtain ⟨v, hv, hcv, hf⟩ := hm.cell b' o' lv r' hb' hg
        exact ⟨v, VR1.monoF hx' hv, hcv, hf⟩
    · intro b' x r' hb' hi
      rcases sput b' r' hb' with ⟨rfl, rfl⟩ | ⟨hne', hb'⟩
      · rw [show tget TD ({ H with next := H.next + 1, mem := tset TD H.mem H.next k } : LHeap).its H.next = tget TD H.its H.next from rfl, (hm.fr H.next (Nat.le_refl _) hlt).2.1] at hi
        simp at hi
      · exact (hm.its b' x r' hb' hi).imp fun o h => ⟨OR.monoF hx' h.1, h.2⟩
    · intro b1 b2 r1 r2 h1 h2 hrr a1 a2
      rcases sput b1 r1 h1 with ⟨rfl, rfl⟩ | ⟨n1, h1⟩
      · rcases sput b2 _ h2 with ⟨rfl, _⟩ | ⟨n2, h2⟩
        · rfl
        · exact absurd hrr.symm (hne b2 _ h2)
      · rcases sput b2 _ h2 with ⟨rfl, rfl⟩ | ⟨n2, h2⟩
        · exact absurd hrr (hne b1 _ h1)
        · exact hm.inj b1 b2 r1 r2 h1 h2 hrr (al b1 n1 (hm.lt h1) a1) (al b2 n2 (hm.lt h2) a2)
    · intro b' r' z hb' hz j hj
      rcases sput b' r' hb' with ⟨rfl, rfl⟩ | ⟨hne', hb'⟩
      · rw [show tget TD (LHeap.aps _) H.next = tget TD H.aps H.next from rfl, (hm.fr H.next (Nat.le_refl _) hlt).2.2] at hz
        simp at hz
      · exact hm.ap b' r' z hb' hz j hj
    · exact hm.wa
    · intro b' r' hb'
      rcases sput b' r' hb' with ⟨rfl, rfl⟩ | ⟨hne', hb'⟩
      · exact h0.a0
      · exact ((h0.A _).1 (hm.lo _ _ hb')).1
    · refine ⟨fun b hb => ((h0.A b).1 (hm.fz.hi b hb)).1, fun b hb' => ?_, hm.fz.os.trans h0.os, hm.fz.out.trans h0.out, fun a ha => ?_⟩
      · rw [hm.fz.old b (fun hA => hb' ((h0.A b).1 hA).1), h0.F, if_neg (fun he : b = hb => hb' (by show σ0.A b; rw [he]; exact h0.a0))]; try rfl
      · by_cases he : a.block = hb
        · exact hfroz a he
        · exact hm.fz.nf a ((h0.A _).2 ⟨ha, he⟩)
end
end Go.Den
