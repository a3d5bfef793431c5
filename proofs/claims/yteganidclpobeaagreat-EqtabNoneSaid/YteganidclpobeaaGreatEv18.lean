/- Ev18: code; rounds; calls. Own work; a part of the proof of a claim. Conditions: none beyond those that stand in each theorem. -/
import Derived.Test.YteganidclpobeaaGreatEv17
/- Ev18: code; rounds; calls. -/
set_option linter.unusedSimpArgs false
set_option linter.unusedVariables false
namespace Go.Den
open Go
section
variable {P : Program} {σ σ' : Sg} {le le' : LE} {e : Env} {a : Act} {o : Oper} {H H' : LHeap} {w w' : World}

theorem scopeL_wp {ev : Ev} {c : Code} {r : Option Nat} (hev : EvS P ev) : ∀ (n : Nat) {cur : Code} {σ : Sg} {le : LE} {a : Act} {H : LHeap} {w : World} {o : Out} {le' : LE} {H' : LHeap} {Q : Exit → Act → World → Prop},
    AR P σ le a → le.rd = r.isSome → MR P σ H w → scopeL ev c n cur le H = some (o, le', H') →
    (∀ σ' a' w', Ext σ σ' → AR P σ' le' a' → MR P σ' H' w' → le'.n = le.n → le'.rd = le.rd → Q (outE o) a' w') → cur.wpIn (FW r) 0 P (scopeW (FW r) 0 P c Q n) a w
  | 0, cur, σ, le, a, H, w, o, le', H', Q, hA, hrd, hm, h, hn => by simp [scopeL] at h
  | n + 1, cur, σ, le, a, H, w, o, le', H', Q, hA, hrd, hm, h, hn => by
    simp only [scopeL] at h
    obtain ⟨hc, h⟩ := bif_some (x := (o, le', H')) h
    split at h
    · rename_i l le1 H1 h1
      split at h
      · rename_i rest hf
        refine hev hc hA hrd hm h1 fun σ' a' w' hx hA' hm' h2 h3 => ?_
        exact ⟨rest, hf, scopeL_wp hev n hA' (h3.trans hrd) hm' h fun σ'' a'' w'' hx' hA'' hm'' h4 h5 => hn σ'' a'' w'' (hx.trans hx') hA'' hm'' (h4.trans h2) (h5.trans h3)⟩
      · simp at h
    · rename_i res hne
      refine hev hc hA hrd hm h fun σ' a' w' hx hA' hm' h2 h3 => ?_
      have := hn σ' a' w' hx hA' hm' h2 h3
      cases o with
      | gt l => exact absurd h (by intro h; exact hne _ _ _ h)
      | nx => exact this
      | ex i => exact this
      | rt => exact this

theorem codeL_S {pls : Plans} {call : CallE} {low : Ev} {fuel : Nat} (hcs : CS P call) (hlow : EvS P low) : EvS P (codeL P pls call low fuel) := by
  intro c
  induction c with
  | skip =>
    intro σ le a H w o le' H' r Q hc hA hrd hm h hn
    simp only [codeL, Option.some.injEq, Prod.mk.injEq] at h
    obtain ⟨rfl, rfl, rfl⟩ := h
    exact wpIn_skip (hn σ a w (Ext.refl σ) hA hm rfl rfl)
  | label l =>
    intro σ le a H w o le' H' r Q hc hA hrd hm h hn
    simp only [codeL, Option.some.injEq, Prod.mk.injEq] at h
    obtain ⟨rfl, rfl, rfl⟩ := h
    exact wpIn_label (hn σ a w (Ext.refl σ) hA hm rfl rfl)
  | region id ops dr =>
    intro σ le a H w o le' H' r Q hc hA hrd hm h hn
    simp only [codeL] at h
    exact regL_wp hcs hA hrd hm hc h fun σ' a' w' h1 h2 h3 h4 h5 h6 => by
      have := hn σ' a' w' h1 h2 h3 h4 h5
      rw [h6] at this
      exact this
  | seq x y ihx ihy =>
    intro σ le a H w o le' H' r Q hc hA hrd hm h hn
    simp only [codeOk, Bool.and_eq_true] at hc
    simp only [codeL] at h
    refine wpIn_seq ?_
    split at h
    · rename_i le1 H1 h1
      exact ihx hc.1 hA hrd hm h1 fun σ' a' w' hx hA' hm' h2 h3 =>
        ihy (by rw [h2]; exact hc.2) hA' (h3.trans hrd) hm' h fun σ'' a'' w'' hx' hA'' hm'' h4 h5 => hn σ'' a'' w'' (hx.trans hx') hA'' hm'' (h4.trans h2) (h5.trans h3)
    · rename_i res hne
      refine ihx hc.1 hA hrd hm h fun σ' a' w' hx hA' hm' h2 h3 => ?_
      have := hn σ' a' w' hx hA' hm' h2 h3
      cases o with
      | nx => exact absurd h (by intro h; exact hne _ _ h)
      | _ => exact this
  | cond c x y ihx ihy =>
    intro σ le a H w o le' H' r Q hc hA hrd hm h hn
    simp only [codeOk, Bool.and_eq_true] at hc
    simp only [codeL] at h
    split at h
    · rename_i b hb
      have hcb := hA.bool hb
      cases b with
      | true => exact wpIn_cond_true hcb (ihx hc.1 hA hrd hm h hn)
      | false => exact wpIn_cond_false hcb (ihy hc.2 hA hrd hm h hn)
    · simp at h
  | block id c ih =>
    intro σ le a H w o le' H' r Q hc hA hrd hm h hn
    simp only [codeL] at h
    refine wpIn_block ?_
    split at h
    · rename_i i le1 H1 h1
      refine ih hc hA hrd hm h1 fun σ' a' w' hx hA' hm' h2 h3 => ?_
      simp only [outE, Exit.inBlock]
      cases hi : Nat.beq i id with
      | true =>
        have : i = id := Nat.eq_of_beq_eq_true hi
        rw [hi, cond_true] at h
        simp only [Option.some.injEq, Prod.mk.injEq] at h
        obtain ⟨rfl, rfl, rfl⟩ := h
        rw [if_pos this]
        exact hn σ' a' w' hx hA' hm' h2 h3
      | false =>
        have : i ≠ id := by intro he; subst he; simp at hi
        rw [hi, cond_false] at h
        simp only [Option.some.injEq, Prod.mk.injEq] at h
        obtain ⟨rfl, rfl, rfl⟩ := h
        rw [if_neg this]
        exact hn σ' a' w' hx hA' hm' h2 h3
    · rename_i res hne
      refine ih hc hA hrd hm h fun σ' a' w' hx hA' hm' h2 h3 => ?_
      have := hn σ' a' w' hx hA' hm' h2 h3
      cases o with
      | ex i => exact absurd h (by intro h; exact hne _ _ _ h)
      | _ => exact this
  | loop c ih =>
    intro σ le a H w o le' H' r Q hc hA hrd hm h hn
    simp only [codeL] at h
    exact wpIn_loop_rounds fuel (loopL_wp (fun h1 h2 h3 h4 h5 h6 => ih h1 h2 h3 h4 h5 h6) fuel hc hA hrd hm h hn)
  | rangeFunc f ps as bd _ _ =>
    intro σ le a H w o le' H' r Q hc hA hrd hm h hn
    simp only [codeL] at h
    exact rfL_wp hcs hA hrd hm h hn
  | exit id =>
    intro σ le a H w o le' H' r Q hc hA hrd hm h hn
    simp only [codeL, Option.some.injEq, Prod.mk.injEq] at h
    obtain ⟨rfl, rfl, rfl⟩ := h
    exact wpIn_exit (hn σ a w (Ext.refl σ) hA hm rfl rfl)
  | scope c ih =>
    intro σ le a H w o le' H' r Q hc hA hrd hm h hn
    simp only [codeL] at h
    split at h
    · rename_i l le1 H1 h1
      split at h
      · rename_i rest hf
        refine wpIn_scope (fuel + 1) ?_
        refine ih hc hA hrd hm h1 fun σ' a' w' hx hA' hm' h2 h3 => ?_
        exact ⟨rest, hf, scopeL_wp hlow fuel hA' (h3.trans hrd) hm' h fun σ'' a'' w'' hx' hA'' hm'' h4 h5 => hn σ'' a'' w'' (hx.trans hx') hA'' hm'' (h4.trans h2) (h5.trans h3)⟩
      · simp at h
    · rename_i res hne
      refine wpIn_scope 0 ?_
      refine ih hc hA hrd hm h fun σ' a' w' hx hA' hm' h2 h3 => ?_
      have := hn σ' a' w' hx hA' hm' h2 h3
      cases o with
      | gt l => exact absurd h (by intro h; exact hne _ _ _ h)
      | nx => exact this
      | ex i => exact this
      | rt => exact this
  | goto l =>
    intro σ le a H w o le' H' r Q hc hA hrd hm h hn
    simp only [codeL, Option.some.injEq, Prod.mk.injEq] at h
    obtain ⟨rfl, rfl, rfl⟩ := h
    exact wpIn_goto (hn σ a w (Ext.refl σ) hA hm rfl rfl)
  | ret =>
    intro σ le a H w o le' H' r Q hc hA hrd hm h hn
    simp only [codeL, Option.some.injEq, Prod.mk.injEq] at h
    obtain ⟨rfl, rfl, rfl⟩ := h
    exact wpIn_ret (hn σ a w (Ext.refl σ) hA hm rfl rfl)
  | refuse s =>
    intro σ le a H w o le' H' r Q hc hA hrd hm h hn
    simp [codeL] at h

/-! rounds -/
theorem TR.put {ts : Array Value} (h : TR P σ le ts) {t : Nat} {v : LV} {v' : Value} (hv : VR P σ v v') (ht : t < le.n) : TR P σ (lput le (some t) v) (ts.setIfInBounds t v') := by
  have hn := lput_n le (some t) v
  refine ⟨?_, by rw [hn.1, hn.2.2.2]; exact h.sz, by rw [hn.1, Array.size_setIfInBounds]; exact h.n, fun u => ?_⟩
  · rw [hn.2.2.2]
    show wfT le.d (lput le (some t) v).t
    simp only [lput, blt_true ht, cond_true]
    exact wf_tset _ _ _ _ h.wf
  · rw [lget_lput h.wf h.sz]
    by_cases hu : t = u
    · subst hu
      rw [if_pos ⟨rfl, ht⟩]
      exact .inr ⟨v', by rw [Array.getElem?_setIfInBounds_self_of_lt (by rw [h.n]; exact ht)], hv⟩
    · rw [if_neg (fun h => hu h.1), Array.getElem?_setIfInBounds_ne hu]
      exact h.val u

theorem setPs_rel : ∀ {ps : List Nat} {vs : List LV} {vs' : List Value} {le : LE} {ts : Array Value}, TR P σ le ts → All2 (VR P σ) vs vs' → ps.all (fun t => Nat.blt t le.n) = true → ps.length = vs.length →
    TR P σ (setPs ps vs le) ((ps.zip vs').foldl (fun ts x => ts.setIfInBounds x.1 x.2) ts) ∧ (setPs ps vs le).n = le.n
  | [], [], [], le, ts, h, _, _, _ => ⟨h, rfl⟩
  | p :: ps, v :: vs, v' :: vs', le, ts, h, ha, hp, hl => by
    simp only [List.all_cons, Bool.and_eq_true] at hp
    have hlt : p < le.n := by simpa [Nat.blt_eq] using hp.1
    have h1 := h.put ha.1 hlt
    have hn := (lput_n le (some p) v).1
    have := setPs_rel h1 ha.2 (by rw [hn]; exact hp.2) (by simpa using hl)
    simp only [setPs, List.zip_cons_cons, List.foldl_cons]
    exact ⟨this.1, this.2.trans hn⟩
  | [], _ :: _, _, _, _, _, _, _, hl => by simp at hl
  | _ :: _, [], _, _, _, _, _, _, hl => by simp at hl
  | _ :: _, _ :: _, [], _, _, _, ha, _, _ => ha.elim
  | [], [], _ :: _, _, _, _, ha, _, _ => ha.elim

theorem jumpOf_none {o : Out} : (jumpOf o).isNone = true ↔ o = .nx := by cases o <;> simp [jumpOf]

theorem yieldL_S {pls : Nat → Plans} {ev : Plans → Ev} {b : Nat} {args : List LV} {v : LV} {args' : List Value} {r : Nat × Nat} (hev : ∀ p, EvS P (ev p)) (h : yieldL P pls ev b args H = some (v, H')) (hb : σ b = some r) (hm : MR P σ H w)
    (ha : All2 (VR P σ) args args') : YLD P r.1 ⟨args'⟩ w (RS P σ v H') := by
  unfold yieldL at h
  split at h
  · rename_i st0 pd0 le ps as bd df0 hi
    obtain ⟨hc, h⟩ := bif_some (x := (v, H')) h
    simp only [Bool.and_eq_true] at hc
    obtain ⟨hlen, ⟨hkn, hps⟩, hca, hcb⟩ := hc
    have hlen : args.length = ps.length := Nat.eq_of_beq_eq_true hlen
    obtain ⟨ob, ⟨lr, rfl, g1, g2, g3, g4, g5, g6⟩, hw⟩ := hm.its b _ r hb hi
    have hsz : (⟨args'⟩ : Array Value).size = lr.params.size := by
      have h1 := ha.length
      have h2 : lr.params.toList.length = lr.params.size := Array.length_toList
      rw [g3] at h2
      simp only [List.size_toArray]
      omega
    refine ⟨_, _, _, _, run_yield (P := P) hw hsz, ?_⟩
    obtain ⟨ht, hn⟩ := setPs_rel g6 ha hps hlen.symm
    have hfold : (lr.params.zip ⟨args'⟩).foldl (fun tmps (x : Nat × Value) => tmps.setIfInBounds x.1 x.2) lr.tmps = (ps.zip args').foldl (fun ts x => ts.setIfInBounds x.1 x.2) lr.tmps := by
      rw [← Array.foldl_toList, Array.toList_zip, g3]
    split at h
    · rename_i le1 H1 h1
      split at h
      · rename_i pd le0 ps0 as0 bd0 df1 hi1
        split at h
        · rename_i o le2 H2 h2
          split at h
          · rename_i st3 pd3 le3 ps3 as3 bd3 df3 hi2
            simp only [Option.some.injEq, Prod.mk.injEq] at h
            obtain ⟨rfl, rfl⟩ := h
            refine roundIn_of_wpIn trivial ?_
            show lr.assign.wpIn (FW (some r.1)) 0 P _ _ w
            rw [g4, g5]
            have hA : AR P σ { setPs ps args le with df := [], rd := true } { tmps := (lr.params.zip ⟨args'⟩).foldl (fun tmps (x : Nat × Value) => tmps.setIfInBounds x.1 x.2) lr.tmps, defers := [] } := by
              rw [hfold]; exact ⟨⟨ht.wf, ht.sz, ht.n, ht.val⟩, trivial⟩
            refine hev _ (r := some r.1) (by show codeOk (setPs ps args le).n as = true; rw [hn]; exact hca) hA rfl hm h1 fun σ1 a1 w1 hx1 hA1 hm1 hn1 hd1 => ?_
            have hb1 := hx1 _ _ hb
            obtain ⟨ob1, ⟨lr1, rfl, k1, k2, k3, k4, k5, k6⟩, hw1⟩ := hm1.its b _ r hb1 hi1
            refine ⟨_, run_beginRound (P := P) hw1 k1, ?_⟩
            have hm1' := hm1.setObj (y := .lp .busy pd le0 ps0 as0 bd0 df1) (ob := .loop { lr1 with state := .busy }) hb1 hi1 ⟨_, rfl, rfl, k2, k3, k4, k5, k6⟩
            show bd.wpIn (FW (some r.1)) 0 P _ _ _
            refine hev _ (r := some r.1) (by rw [hn1]; show codeOk (setPs ps args le).n bd = true; rw [hn]; exact hcb) hA1 (by rw [hd1]; rfl) hm1' h2 fun σ2 a2 w2 hx2 hA2 hm2 _ _ => ?_
            have hb2 := hx2 _ _ hb1
            obtain ⟨ob2, ⟨lr2, rfl, m1, m2, m3, m4, m5, m6⟩, hw2⟩ := hm2.its b _ r hb2 hi2
            have fin : ∀ (j : Option Code), jumpOf o = j → ∃ v w', (Instr.endRound r.1 j).run P w2 = .ok v w' ∧ R1 (RS P σ (.sc (.bool (jumpOf o).isNone)) { H2 with its := tset TD H2.its b (.lp (bif (jumpOf o).isNone then .ready else .done) (jumpOf o) le3 ps3 as3 bd3 df3) }) (.returned v) w' := by
              intro j hj
              refine ⟨_, _, run_endRound (P := P) j hw2, σ2, hx1.trans hx2, ?_, ?_⟩
              · rw [hj]; exact ⟨rfl, rfl⟩
              · refine hm2.setObj (y := .lp (bif (jumpOf o).isNone then .ready else .done) (jumpOf o) le3 ps3 as3 bd3 df3) (ob := .loop { lr2 with state := if j.isNone then .ready else .done, pending := j }) hb2 hi2 ⟨_, rfl, ?_, hj.symm, m3, m4, m5, m6⟩
                rw [hj]; cases j <;> rfl
            cases o with
            | nx => exact fin none rfl
            | rt => exact fin (some .ret) rfl
            | ex i => exact fin (some (.exit i)) rfl
            | gt l => exact fin (some (.goto l)) rfl
          · simp at h
        · simp at h
      · simp at h
    · simp at h
  · simp at h
end
end Go.Den
