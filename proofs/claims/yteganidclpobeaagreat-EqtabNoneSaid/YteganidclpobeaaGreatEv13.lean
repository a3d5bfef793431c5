/- Ev13: maps. Own work; a part of the proof of a claim. Conditions: none beyond those that stand in each theorem. -/
import Derived.Test.YteganidclpobeaaGreatEv12
/- Ev13: maps. -/
set_option linter.unusedSimpArgs false
set_option linter.unusedVariables false
namespace Go.Den
open Go
section
variable {P : Program} {σ σ' : Sg} {le : LE} {e : Env} {o : Oper} {H H' : LHeap} {w : World} {K : Value → World → Prop}

theorem findNow_found {kd : TypeDesc} {k : IntKind} {n : Int} : ∀ {es : List MapEntry} {i j : Nat} {v : Value}, Instr.findNow kd (.int k n) es i = some (some (j, v)) →
    i ≤ j ∧ ∃ e, es[j - i]? = some e ∧ e.key = .int k n ∧ e.val = v
  | [], i, j, v, h => by simp [Instr.findNow] at h
  | e :: es, i, j, v, h => by
    unfold Instr.findNow at h
    split at h
    · rename_i hs
      simp only [Option.some.injEq, Prod.mk.injEq] at h
      obtain ⟨rfl, rfl⟩ := h
      refine ⟨Nat.le_refl _, e, by simp, ?_, rfl⟩
      unfold Instr.sameNow at hs
      split at hs
      · rename_i h1 h2
        simp only [Value.int.injEq] at h1
        obtain ⟨rfl, rfl⟩ := h1
        split at hs
        · rename_i hk; subst hk; simp at hs; rw [h2, hs]
        · simp at hs
      · rename_i h1 _; cases h1
      · rename_i h1 _; cases h1
      · simp at hs
    · obtain ⟨h1, e', h2, h3⟩ := findNow_found h
      refine ⟨by omega, e', ?_, h3⟩
      rw [show j - i = (j - (i + 1)) + 1 by omega]
      simpa using h2
    · simp at h

theorem mapT_out {t : TypeId} {kd : TypeDesc} {el : TypeId} (h : mapT P t = some (kd, el)) : ∃ key k, P.underlying t = some (.map key el) ∧ P.underlying key = some (.int k) ∧ kd = .int k := by
  unfold mapT at h
  split at h
  · rename_i key el' hu
    split at h
    · rename_i k hk
      simp only [Option.some.injEq, Prod.mk.injEq] at h
      obtain ⟨rfl, rfl⟩ := h
      exact ⟨key, k, hu, hk, rfl⟩
    · simp at h
  · simp at h

theorem zero1_out {t : TypeId} {v : Value} (h : zero1 P t = some v) : scalar v = true ∧ simple P (zeroValue t) = some v := by
  unfold zero1 at h
  split at h
  · rename_i u hu
    obtain ⟨hs, h⟩ := bif_some (x := v) h
    simp only [Option.some.injEq] at h
    subst h
    refine ⟨hs, ?_⟩
    cases hi : P.info? t with
    | none => rw [hi] at hu; simp at hu
    | some i =>
      rw [hi] at hu
      simp only [Option.bind_some] at hu
      unfold zeroValue
      rw [simple_bind, simple_info hi]
      simp only [Option.bind_some, hu]
      rfl
  · simp at h

theorem run_checkKey {b : Bool} {key : TypeId} {k : IntKind} {v : Value} (hk : P.underlying key = some (.int k)) (w : World) : (Instr.checkKey b 10000 key v).run P w = .ok () w := by
  unfold Instr.checkKey
  simp only [Sem.run_bind, run_underlying hk, Result.andThen]
  rfl

theorem run_findKey' {key : TypeId} {k : IntKind} {v : Value} {es : List MapEntry} {r : Option (Nat × Value)} (hk : P.underlying key = some (.int k)) (h : Instr.findNow (.int k) v es 0 = some r) (w : World) :
    (Instr.findKey key v es).run P w = .ok r w := by
  unfold Instr.findKey
  simp only [Sem.run_bind, run_underlying hk, Result.andThen, h]
  rfl

theorem run_getObj_map {r : Nat} {es : Array MapEntry} {c : Nat} (h : w.heap[r]? = some (.map es c)) : (getObj r).run P w = .ok (.map es c) w := by simp [getObj, Sem.run, h]
theorem run_setObj_map {r : Nat} {es : Array MapEntry} {c : Nat} (o : Obj) (h : w.heap[r]? = some (.map es c)) : (setObj r o).run P w = .ok () (World.setObj' w r o) := by simp [setObj, Sem.run, h, World.setObj']

theorem MR.map (hm : MR P σ H w) {b : Nat} {r : Nat × Nat} {es : List MapEntry} {c : Nat} (hb : σ b = some r) (hx : tget TD H.its b = some (.mp es c)) : w.heap[r.1]? = some (.map ⟨es⟩ c) := by
  obtain ⟨o, h1, h2⟩ := hm.its b _ r hb hx
  obtain rfl : o = .map ⟨es⟩ c := h1
  exact h2

theorem lookup_run (hm : MR P σ H w) {t : TypeId} {m i v : LV} {m' i' : Value} {ok : Bool} (h : lookupL P t m i ok H = some v) (h1 : VR P σ m m') (h2 : VR P σ i i') :
    ∃ v', VR P σ v v' ∧ (Instr.lookup t m' i' ok).run P w = .ok v' w := by
  unfold lookupL at h
  split at h
  · rename_i kd el b i hmt
    obtain ⟨key, k, hu, hk, rfl⟩ := mapT_out hmt
    obtain ⟨r, hs, rfl⟩ := h1
    obtain ⟨rfl, hsi⟩ := h2
    split at h
    · rename_i es c hi
      have ho := hm.map hs hi
      have fin : ∀ (x : Option (Nat × Value)), Instr.findNow (.int k) i' es 0 = some x →
          (Instr.lookup t (.map (some r.1)) i' ok).run P w = (do
            let (v, ok') ← (match x with | some (_, v) => pure (v, true) | none => do pure (← zeroValue el, false) : Sem (Value × Bool))
            pure (if ok then .tuple #[v, .bool ok'] else v) : Sem Value).run P w := by
        intro x hx
        unfold Instr.lookup
        simp only [Sem.run_bind, run_underlying hu, Result.andThen, run_getObj_map ho, run_checkKey hk, run_findKey' hk hx, Sem.run_pure]
        cases x with
        | some p => simp [Sem.run_bind, Result.andThen]
        | none => simp only [Sem.run_bind, Result.andThen]; cases (zeroValue el).run P w <;> simp
      split at h
      · rename_i j u hx
        obtain ⟨hsu, h⟩ := bif_some (x := v) h
        simp only [Option.some.injEq] at h
        subst h
        refine ⟨if ok then .tuple #[u, .bool true] else u, ?_, by rw [fin _ hx]; cases ok <;> rfl⟩
        cases ok with
        | true => exact ⟨[u, .bool true], ⟨⟨rfl, hsu⟩, ⟨rfl, rfl⟩, trivial⟩, rfl⟩
        | false => exact ⟨rfl, hsu⟩
      · rename_i z hx hz
        obtain ⟨hsz, hzr⟩ := zero1_out hz
        have hzr := simple_run hzr w
        simp only [Option.some.injEq] at h
        subst h
        refine ⟨if ok then .tuple #[z, .bool false] else z, ?_, by rw [fin _ hx]; simp only [Sem.run_bind, hzr, Result.andThen, Sem.run_pure]⟩
        cases ok with
        | true => exact ⟨[z, .bool false], ⟨⟨rfl, hsz⟩, ⟨rfl, rfl⟩, trivial⟩, rfl⟩
        | false => exact ⟨rfl, hsz⟩
      · simp at h
    · simp at h
  · simp at h

theorem run_keyStays {es : List MapEntry} {k : IntKind} {n : Int} {j : Nat} {e : MapEntry} (he : es[j]? = some e) (hk : e.key = .int k n) (w : World) :
    (Instr.keyThatStays ((((⟨es⟩ : Array MapEntry)[j]?).map (·.key)).getD (.int k n)) (.int k n)).run P w = .ok (.int k n) w := by
  have : (((⟨es⟩ : Array MapEntry)[j]?).map (·.key)).getD (.int k n) = .int k n := by simp [he, hk]
  rw [this]
  unfold Instr.keyThatStays
  rw [if_pos (by simp [Instr.sameBits])]
  rfl

theorem run_keyStays' {es : List MapEntry} {k : IntKind} {n : Int} {j : Nat} {e : MapEntry} (he : es[j]? = some e) (hk : e.key = .int k n) (w : World) :
    (Instr.keyThatStays (((es[j]?).map (·.key)).getD (.int k n)) (.int k n)).run P w = .ok (.int k n) w := by
  have := run_keyStays (P := P) he hk w
  simpa using this

theorem modify_mk (es : List MapEntry) (j : Nat) (f : MapEntry → MapEntry) : (⟨es⟩ : Array MapEntry).modify j f = ⟨es.modify j f⟩ := by
  apply Array.ext'; simp

theorem push_mk (es : List MapEntry) (x : MapEntry) : (⟨es⟩ : Array MapEntry).push x = ⟨es ++ [x]⟩ := by apply Array.ext'; simp

theorem mapUpdate_run (hm : MR P σ H w) {t : TypeId} {m i v : LV} {m' i' v' : Value} (h : mapUpdateL P t m i v H = some H') (h1 : VR P σ m m') (h2 : VR P σ i i') (h3 : VR P σ v v') :
    ∃ w', (Instr.mapUpdate t m' i' v').run P w = .ok () w' ∧ MR P σ H' w' := by
  unfold mapUpdateL at h
  split at h
  · rename_i kd el b k n u hmt
    obtain ⟨key, k', hu, hk, rfl⟩ := mapT_out hmt
    obtain ⟨r, hs, rfl⟩ := h1
    obtain ⟨rfl, hsi⟩ := h2
    obtain ⟨rfl, hsv⟩ := h3
    split at h
    · rename_i es c hi
      have ho := hm.map hs hi
      split at h
      · rename_i j x hx
        simp only [Option.some.injEq] at h
        subst h
        obtain ⟨_, e, he, hke, _⟩ := findNow_found hx
        rw [Nat.sub_zero] at he
        refine ⟨_, ?_, hm.setObj (y := .mp (es.modify j fun e => { e with key := .int k n, val := v' }) c) (ob := .map ⟨es.modify j fun e => { e with key := .int k n, val := v' }⟩ c) hs hi rfl⟩
        unfold Instr.mapUpdate
        simp only [Sem.run_bind, run_underlying hu, Result.andThen, run_getObj_map ho, run_checkKey hk, run_findKey' hk hx, run_keyStays he hke, run_keyStays' he hke, run_setObj_map _ ho, modify_mk]
      · rename_i hx
        simp only [Option.some.injEq] at h
        subst h
        refine ⟨_, ?_, hm.setObj (y := .mp (es ++ [({ key := .int k n, val := v', born := c } : MapEntry)]) (c + 1)) (ob := .map ⟨es ++ [({ key := .int k n, val := v', born := c } : MapEntry)]⟩ (c + 1)) hs hi rfl⟩
        unfold Instr.mapUpdate
        simp only [Sem.run_bind, run_underlying hu, Result.andThen, run_getObj_map ho, run_checkKey hk, run_findKey' hk hx, run_setObj_map _ ho, push_mk]
      · simp at h
    · simp at h
  · simp at h

theorem mapEntry_run (hm : MR P σ H w) {t : TypeId} {m i v : LV} {m' i' : Value} (h : mapEntryL P t m i H = some (v, H')) (h1 : VR P σ m m') (h2 : VR P σ i i') :
    ∃ v' w', VR P σ v v' ∧ (Instr.mapEntry t m' i').run P w = .ok v' w' ∧ MR P σ H' w' := by
  unfold mapEntryL at h
  split at h
  · rename_i kd el b k n hmt
    obtain ⟨key, k', hu, hk, rfl⟩ := mapT_out hmt
    obtain ⟨r, hs, rfl⟩ := h1
    obtain ⟨rfl, hsi⟩ := h2
    split at h
    · rename_i es c hi
      have ho := hm.map hs hi
      split at h
      · rename_i j x hx
        obtain ⟨hsx, h⟩ := bif_some (x := (v, H')) h
        simp only [Option.some.injEq, Prod.mk.injEq] at h
        obtain ⟨rfl, rfl⟩ := h
        obtain ⟨_, e, he, hke, _⟩ := findNow_found hx
        rw [Nat.sub_zero] at he
        refine ⟨.tuple #[x, .int .i64 (((es[j]?).map (·.born)).getD 0)], _, ⟨[x, .int .i64 (((es[j]?).map (·.born)).getD 0)], ⟨⟨rfl, hsx⟩, ⟨rfl, rfl⟩, trivial⟩, rfl⟩, ?_,
          hm.setObj (y := .mp (es.modify j fun e => { e with key := .int k n }) c) (ob := .map ⟨es.modify j fun e => { e with key := .int k n }⟩ c) hs hi rfl⟩
        unfold Instr.mapEntry
        simp only [Sem.run_bind, run_underlying hu, Result.andThen, run_getObj_map ho, run_checkKey hk, run_findKey' hk hx, run_keyStays he hke, run_keyStays' he hke, run_setObj_map _ ho, modify_mk, Sem.run_pure, goInt]
        simp
      · rename_i z hx hz
        obtain ⟨hsz, hzr⟩ := zero1_out hz
        have hzr := simple_run hzr w
        simp only [Option.some.injEq, Prod.mk.injEq] at h
        obtain ⟨rfl, rfl⟩ := h
        refine ⟨.tuple #[z, .int .i64 c], _, ⟨[z, .int .i64 c], ⟨⟨rfl, hsz⟩, ⟨rfl, rfl⟩, trivial⟩, rfl⟩, ?_,
          hm.setObj (y := .mp (es ++ [({ key := .int k n, val := z, born := c } : MapEntry)]) (c + 1)) (ob := .map ⟨es ++ [({ key := .int k n, val := z, born := c } : MapEntry)]⟩ (c + 1)) hs hi rfl⟩
        unfold Instr.mapEntry
        simp only [Sem.run_bind, run_underlying hu, Result.andThen, run_getObj_map ho, run_checkKey hk, run_findKey' hk hx, hzr, run_setObj_map _ ho, push_mk, Sem.run_pure, goInt]
      · simp at h
    · simp at h
  · simp at h

theorem entryStore_run (hm : MR P σ H w) {t : TypeId} {m s v : LV} {m' s' v' : Value} (h : entryStoreL m s v H = some H') (h1 : VR P σ m m') (h2 : VR P σ s s') (h3 : VR P σ v v') :
    ∃ w', (Instr.entryStore t m' s' v').run P w = .ok () w' ∧ MR P σ H' w' := by
  unfold entryStoreL at h
  split at h
  · rename_i b k n u
    obtain ⟨r, hs, rfl⟩ := h1
    obtain ⟨rfl, hsi⟩ := h2
    obtain ⟨rfl, hsv⟩ := h3
    split at h
    · rename_i es c hi
      have ho := hm.map hs hi
      split at h
      · rename_i j hj
        simp only [Option.some.injEq] at h
        subst h
        refine ⟨_, ?_, hm.setObj (y := .mp (es.modify j fun e => { e with val := v' }) c) (ob := .map ⟨es.modify j fun e => { e with val := v' }⟩ c) hs hi rfl⟩
        have hj' : (⟨es⟩ : Array MapEntry).findIdx? (fun e => (e.born : Int) == n) = some j := by simpa using hj
        unfold Instr.entryStore
        simp only [Sem.run_bind, Result.andThen, run_getObj_map ho, asInt, asIntOf, Sem.run_pure, hj', run_setObj_map _ ho, modify_mk]
      · simp at h
    · simp at h
  · simp at h

theorem makeMap_run (hm : MR P σ H w) {t : TypeId} {v : LV} (h : makeMapL P t H = some (v, H')) :
    ∃ σ' v' w', Ext σ σ' ∧ VR P σ' v v' ∧ (Instr.makeMap t none).run P w = .ok v' w' ∧ MR P σ' H' w' := by
  unfold makeMapL at h
  split at h
  · obtain ⟨hb, h⟩ := bif_some (x := (v, H')) h
    have hlt : H.next < TM := by simpa [Nat.blt_eq] using hb
    simp only [Option.some.injEq, Prod.mk.injEq] at h
    obtain ⟨rfl, rfl⟩ := h
    obtain ⟨hx', hm'⟩ := hm.newObj hlt (.mp [] 0) 0 (ob := .map ⟨[]⟩ 0) rfl
    exact ⟨_, _, _, hx', ⟨_, Sg.put_same _ _ _, rfl⟩, rfl, hm'⟩
  · simp at h
end
end Go.Den
