/- Den4: soundness of append; of any operation; of lists of operations. Own work; a part of the proof of a claim. Conditions: none beyond those that stand in each theorem. -/
import Derived.Test.YteganidclpobeaaGreatDen3
import Derived.TacticsIn
/- Den4: soundness of append; of any operation; of lists of operations. -/
set_option linter.unusedSimpArgs false
set_option linter.unusedVariables false
namespace Go.Den
open Go

section
variable {P : Program} {ρ : Operand → Value} {o : Oper} {w : World} {K : Value → World → Prop}

theorem run_firstCells_rd {w : World} {sz n : Nat} {b : Option Addr} {len cap : Nat} {cs : List Value} (hl : cs.length = n * sz) (h : n = 0 ∨ optP b fun q => Rd w q 0 cs) :
    (Builtin.firstCells sz n (.slice b len cap)).run P w = .ok cs.toArray w := by
  cases b with
  | some q =>
    have hc : ∀ j v, cs[j]? = some v → w.cell? (q.add j) = some v := by
      rcases h with h | h
      · subst h; intro j v hj; rw [Nat.zero_mul] at hl; rw [List.length_eq_zero_iff.1 hl] at hj; simp at hj
      · intro j v hj; have := Rd_get h j v hj; simpa using this
    simpa using run_firstCells_some (P := P) w sz n q len cap cs hl hc
  | none =>
    rcases h with h | h
    · subst h
      rw [Nat.zero_mul] at hl
      rw [List.length_eq_zero_iff.1 hl]
      simp [Builtin.firstCells]
    · exact h.elim

theorem drew_rd {w : World} {p : Addr} : ∀ {vs : List Value} {i : Nat}, Rd w p i vs → Rd w.drew p i vs
  | [], _, _ => trivial
  | _ :: _, _, h => ⟨h.1, drew_rd h.2⟩

theorem good_ap {c : Call} {x y : Operand} {t u : TypeId} (ho : o.op = .call c) (hc : c.callee = .builtin .append) (ha : c.args.toList = [x, y]) (ht : c.argTypes.toList = [t, u])
    (hu : isSliceT P u = true) (h : apD P t (ρ x) (ρ y) w K) : Good P ρ o w K := by
  obtain ⟨cal, ⟨as⟩, ⟨ats⟩⟩ := c
  simp only at hc ha ht
  subst hc; subst ha; subst ht
  have huu : ∃ e, P.underlying u = some (.slice e) := by
    unfold isSliceT at hu
    cases hd : P.underlying u with
    | none => rw [hd] at hu; cases hu
    | some d => cases d <;> first | exact ⟨_, rfl⟩ | (rw [hd] at hu; cases hu)
  obtain ⟨eu, huu⟩ := huu
  unfold apD at h
  split at h
  · rename_i el base n cap xb m xc hut hx hy
    cases hz : (zc P el).isSome with
    | false => rw [hz] at h; exact h.elim
    | true =>
      rw [hz] at h
      simp only [cond_true] at h
      unfold apF at h
      obtain ⟨news, olds, hnl, hnr, hn1, hroom, hgrow⟩ := h
      obtain ⟨cs, hcs⟩ := Option.isSome_iff_exists.1 hz
      obtain ⟨i, z, hi, hz1, rfl⟩ := zc_of hcs
      have hsz : i.size = P.cellsOf el := by simp [Program.cellsOf, hi]
      have hby : i.bytes = P.bytesOf el := by simp [Program.bytesOf, hi]
      have hrun0 : (execOp ρ o).run P w = ((Builtin.append_ #[t, u] o.type #[.slice base n cap, .slice xb m xc]).run P w).andThen fun a w' => .ok (.value a) w' := by
        unfold execOp
        rw [ho]
        simp [resolve, invoke, builtin, hx, hy]
      rw [← hsz] at hnl hroom hgrow
      rcases Nat.lt_or_ge cap (n + m) with hgt | hle
      rotate_left
      · obtain ⟨hwb, hk⟩ := hroom hle
        refine .val _ _ ?_ (hk _ rfl)
        rw [hrun0]
        have hf := run_firstCells_rd (P := P) (len := m) (cap := xc) hnl hnr
        cases base with
        | some p =>
          have hwb' : Wb w (p.add (n * i.size)) 0 news := by
            rcases hwb with h0 | h0
            · subst h0; rw [Nat.zero_mul] at hnl; rw [List.length_eq_zero_iff.1 hnl]; trivial
            · exact h0
          have hst := run_storeCells (P := P) news w (p.add (n * i.size)) 0 hwb' hn1
          simp [Builtin.append_, run_underlying hut, run_underlying huu, sizeOf, typeInfo, hi, Builtin.lenOf, hle, hf, hst]
        | none =>
          simp [Builtin.append_, run_underlying hut, run_underlying huu, sizeOf, typeInfo, hi, Builtin.lenOf, hle, hf]
      · obtain ⟨⟨hfit, h63, hol, hor⟩, hk⟩ := hgrow hgt
        refine .val _ _ ?_ (hk (grownCap w (n + m) cap el) _ (grownCap_ge w (n + m) cap el) rfl)
        rw [hrun0]
        have hnr' : m = 0 ∨ optP xb fun q => Rd w.drew q 0 news := hnr.imp id fun h => by cases xb with | none => exact h | some q => exact drew_rd h
        have hor' : n = 0 ∨ optP base fun q => Rd w.drew q 0 olds := hor.imp id fun h => by cases base with | none => exact h | some q => exact drew_rd h
        have hf := run_firstCells_rd (P := P) (w := w.drew) (len := m) (cap := xc) hnl hnr'
        have hfo := run_firstCells_rd (P := P) (w := w.drew) (len := n) (cap := cap) hol hor'
        have hn : ¬ (n + m ≤ cap) := by omega
        have h63' : ¬ (9223372036854775807 < ((n : Int) + (m : Int))) := by omega
        have hfit' := growslice_fits (need := n + m) (old := cap) (bytes := i.bytes) hgt (by rw [hby]; exact hfit)
        have h48' : ¬ (281474976710656 < Builtin.nextslicecap (n + m) cap * i.bytes) := by omega
        simp [Builtin.append_, run_underlying hut, run_underlying huu, sizeOf, typeInfo, zeroValue, hi, hz1, Builtin.lenOf, hn, h63', h48', Question.forced, hf, hfo, newRow, grownCap, zcA, hcs]
        congr 2
        apply Array.ext'
        simp
  · exact h.elim

theorem good_pure {Kp : Value → Prop} (h : pureD P ρ o Kp) : Pur P ρ o Kp := by
  unfold pureD at h
  split at h
  · rename_i ho; exact good_nilCheck ho h
  · rename_i ho; exact good_fieldAddr ho h
  · rename_i ho; exact good_ixa ho h
  · rename_i ho; exact good_ix ho h
  · rename_i ho; exact good_bin ho h
  · rename_i ho; exact good_sl ho h
  · rename_i c ho
    split at h
    · rename_i hc ha; exact good_len ho hc ha h
    · rename_i hc ha; exact good_cap ho hc ha h
    · exact good_simple h
    · exact good_simple h
    · exact h.elim
  all_goals first | exact good_simple h | exact h.elim

theorem good_sem (h : semD P ρ o w K) : Good P ρ o w K := by
  rcases h with ⟨v, w', h, hk⟩ | ⟨w', h, hk⟩
  · exact .val v w' h hk
  · exact .skip w' h hk

theorem good_core (h : core P ρ o w K) : Good P ρ o w K := by
  unfold core at h
  split at h
  · rename_i ho; exact good_load ho h
  · rename_i ho; exact good_store ho h
  · rename_i ho; exact good_alloc ho h
  · rename_i ho; exact good_box ho h
  · rename_i ho; exact good_bs ho h
  · rename_i ho; exact good_mk ho h
  · rename_i ho; exact good_rg ho h
  · rename_i ho; exact good_nx ho h
  · exact good_sem h
  · exact good_sem h
  · exact good_sem h
  · exact good_sem h
  · exact good_sem h
  · rename_i c ho
    split at h
    · rename_i hc; exact good_call ho hc h
    · rename_i hc
      split at h
      · rename_i x y t u ha ht
        cases hb : isSliceT P u with
        | false => rw [hb] at h; exact h.elim
        | true => rw [hb] at h; exact good_ap ho hc ha ht hb h
      · exact h.elim
    · exact good_sem h
    · exact (good_pure h).good
  · exact (good_pure h).good

variable {D : List Deferred}

theorem denOp_nd {e : Env} (h : denOp P e o w K) : ∀ c, o.op ≠ .defer c := by
  intro c hc
  unfold denOp at h
  rw [hc] at h
  simp only at h
  generalize allKn e (opnds (Op.defer c)) = b at h
  cases b with
  | false => exact h
  | true => unfold core at h; simp only [hc] at h; unfold pureD at h; simp only [hc] at h; exact h

theorem denOp_good {n : Nat} {e : Env} {a : Act} (hs : Sub D n e a) (h : denOp P e o w K) : ∃ ρ, execOp a.eval o = execOp ρ o ∧ Good P ρ o w K := by
  unfold denOp at h
  split at h
  · rename_i c x y ho
    split at h
    · rename_i b hb
      have hc : a.eval c = .bool b := by rw [hs.eval (by rw [hb]; rfl), hb]
      refine ⟨a.eval, rfl, ?_⟩
      cases b with
      | true =>
        simp only [bc] at h
        cases hk : kn (ev e x) with
        | false => rw [hk] at h; exact h.elim
        | true => rw [hk] at h; exact .val _ w (by simp [execOp, ho, hc, asBool, hs.eval hk]) h
      | false =>
        simp only [bc] at h
        cases hk : kn (ev e y) with
        | false => rw [hk] at h; exact h.elim
        | true => rw [hk] at h; exact .val _ w (by simp [execOp, ho, hc, asBool, hs.eval hk]) h
    · exact h.elim
  · exact h.elim
  · rename_i hsel
    generalize hb : allKn e (opnds o.op) = b at h
    cases b with
    | false => exact h.elim
    | true => exact ⟨ev e, exec_eq hs (fun cs b h0 => hsel cs b h0) hb, good_core h⟩

theorem denOp_wp {r : Option Nat} {n : Nat} {e : Env} {a : Act} {next : Act → World → Prop} {Q : Exit → Act → World → Prop} (hs : Sub D n e a) (h : denOp P e o w K)
    (hn : ∀ v w', K v w' → next (a.put o.dst v) w') : o.wpIn (FW r) 0 P a w next Q := by
  obtain ⟨ρ, he, hg⟩ := denOp_good hs h
  exact hg.wp (denOp_nd h) he hn
end
variable {D : List Deferred} {r : Option Nat}

def dstOf (all : List Oper) (j : Nat) : Option Nat := (all[j]?).bind (·.dst)

/-- One operation with its guard. -/
def denG (P : Program) (all : List Oper) (o : Oper) (e : Env) (w : World) (K : Env → World → Prop) : Prop :=
  match o.guard with
  | none => denOp P e o w fun v w' => K (putE e o.dst v) w'
  | some (j, want) => match dstOf all j with
    | none => False
    | some t => match get e t with
      | .tuple _ => K (putE e o.dst undef) w
      | .bool b => bc b
        (bif want then denOp P ((t, .bool true) :: e) o w fun v w' => K (putE ((t, .bool true) :: e) o.dst v) w' else K (putE ((t, .bool true) :: e) o.dst undef) w)
        (bif want then K (putE ((t, .bool false) :: e) o.dst undef) w else denOp P ((t, .bool false) :: e) o w fun v w' => K (putE ((t, .bool false) :: e) o.dst v) w')
      | _ => False

def denOps (P : Program) (all : List Oper) : List Oper → Env → World → (Env → World → Prop) → Prop
  | [], e, w, K => K e w
  | o :: r, e, w, K => denG P all o e w fun e' w' => denOps P all r e' w' K

def dstLt (n : Nat) (o : Oper) : Bool :=
  match o.dst with
  | none => true
  | some t => Nat.blt t n

theorem dstLt_spec {n : Nat} {o : Oper} (h : dstLt n o = true) : ∀ t, o.dst = some t → t < n := by
  intro t ht
  rw [dstLt, ht] at h
  simpa [Nat.blt_eq] using h

/-- An operation with its guard, for the machine: what 'wpOps' asks of one operation. -/
theorem denG_wp {P : Program} {all : List Oper} {o : Oper} {n : Nat} {e : Env} {a : Act} {w : World} {K : Env → World → Prop} {next : Act → World → Prop} {Q : Exit → Act → World → Prop}
    (hs : Sub D n e a) (hd : dstLt n o = true) (h : denG P all o e w K) (hn : ∀ e' v w', Sub D n e' (a.put o.dst v) → K e' w' → next (a.put o.dst v) w') :
    if Region.wanted o (yielded all.toArray a.tmps) then o.wpIn (FW r) 0 P a w next Q else next (a.put o.dst undef) w := by
  have hd' := dstLt_spec hd
  unfold denG at h
  split at h
  · rename_i hg
    simp only [Region.wanted, hg, if_true]
    exact denOp_wp hs h fun v w' hk => hn _ _ _ (hs.put o.dst v hd') hk
  · rename_i j want hg
    split at h
    · exact h.elim
    · rename_i t ht
      split at h
      · rename_i vs hb
        have hne : a.tmps[t]? = some (.tuple vs) := by
          rcases hs.2.2 t with h1 | h1
          · rw [hb] at h1; cases h1
          · rw [hb] at h1; exact h1
        have hy : yielded all.toArray a.tmps j = none := by
          unfold dstOf at ht
          unfold yielded
          have : (all.toArray[j]?).bind (·.dst) = some t := by simpa using ht
          rw [this]
          simp [hne]
        simp only [Region.wanted, hg, hy]
        simp
        exact hn _ _ _ (hs.put o.dst undef hd') h
      · rename_i b hb
        have hne : a.tmps[t]? = some (.bool b) := by
          rcases hs.2.2 t with h1 | h1
          · rw [hb] at h1; cases h1
          · rw [hb] at h1; exact h1
        have hy : yielded all.toArray a.tmps j = some b := by
          unfold dstOf at ht
          unfold yielded
          have : (all.toArray[j]?).bind (·.dst) = some t := by simpa using ht
          rw [this]
          simp [hne]
        simp only [Region.wanted, hg, hy]
        cases b with
        | true =>
          simp only [bc] at h
          have hs' := hs.setKnown hne
          cases want with
          | true =>
            simp only [cond_true] at h
            simp only [beq_self_eq_true, if_true]
            exact denOp_wp hs' h fun v w' hk => hn _ _ _ (hs'.put o.dst v hd') hk
          | false =>
            simp only [cond_false] at h
            simp
            exact hn _ _ _ (hs'.put o.dst undef hd') h
        | false =>
          simp only [bc] at h
          have hs' := hs.setKnown hne
          cases want with
          | true =>
            simp only [cond_true] at h
            simp
            exact hn _ _ _ (hs'.put o.dst undef hd') h
          | false =>
            simp only [cond_false] at h
            simp only [beq_self_eq_true, if_true]
            exact denOp_wp hs' h fun v w' hk => hn _ _ _ (hs'.put o.dst v hd') hk
      · exact h.elim

theorem denOps_wp {P : Program} {all : List Oper} {n : Nat} {K : Env → World → Prop} {Q : Exit → Act → World → Prop} (hQ : ∀ e a w, Sub D n e a → K e w → Q .normal a w) :
    ∀ (l : List Oper) (e : Env) (a : Act) (w : World), l.all (dstLt n) = true → Sub D n e a → denOps P all l e w K → wpListIn (FW r) 0 P all.toArray Q l a w
  | [], e, a, w, _, hs, h => hQ e a w hs h
  | o :: rs, e, a, w, hd, hs, h => by
    simp only [List.all_cons, Bool.and_eq_true] at hd
    have := denG_wp (r := r) (Q := Q) (next := wpListIn (FW r) 0 P all.toArray Q rs) hs hd.1 h fun e' v w' hs' hk => denOps_wp hQ rs e' _ w' hd.2 hs' hk
    unfold wpListIn
    split
    · rename_i hw; rw [if_pos hw] at this; exact this
    · rename_i hw; rw [if_neg hw] at this; exact ⟨fun _ _ => trivial, this⟩

end Go.Den
