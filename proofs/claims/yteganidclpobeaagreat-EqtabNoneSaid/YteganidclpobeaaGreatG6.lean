/- What WeakNobody and its callees come to, printed by a program of mine and checked by the kernel. Own work; a part of the proof of a claim. Conditions: none beyond those that stand in each theorem. -/
import Derived.Test.YteganidclpobeaaGreatDen7
import Derived.Test.YteganidclpobeaaGreatProg
set_option linter.unusedVariables false
set_option maxRecDepth 100000
set_option linter.unusedSimpArgs false
namespace Go.Den
open Go Go.Proofs
/- moraine/morainelaw12.WeakNobody -/
noncomputable def c6 : Code := bodyOf Tryz.f6
def R6 (k : Value → World → Prop) : Env → World → Prop := retK Tryz.prog [.tmp 4] [] k
def ok6_0 (e : Env) : Bool := isL (get e 0) && (isL (get e 5) && (isI .i64 (get e 7)))
def un6_0 (e : Env) : Option Addr × Nat × Nat × Option Addr × Nat × Nat × Int := (vLa (get e 0), vLn (get e 0), vLc (get e 0), vLa (get e 5), vLn (get e 5), vLc (get e 5), vI (get e 7))
def bk6_0 (B : (Option Addr × Nat × Nat × Option Addr × Nat × Nat × Int) → World → Prop) : Env → World → Prop := fun e w => bif ok6_0 e then B (un6_0 e) w else False
def L6_0 (k : Value → World → Prop) (a0 : Option Addr) (n0 : Nat) (c0 : Nat) (a5 : Option Addr) (n5 : Nat) (c5 : Nat) (x7 : Int) (w : World) : Prop := WP Tryz.prog 56 (blkC (seqR (seqL (seqR (seqR (seqR (seqR (seqR c6)))))))) (den Tryz.prog 56 (seqR (seqR (seqR (seqR (seqR (seqR c6)))))) .nil (R6 k) noX (R6 k)) (inBlk 0 (den Tryz.prog 56 (seqR (seqR (seqR (seqR (seqR (seqR c6)))))) .nil (R6 k) noX (R6 k)) noX) (R6 k) [(0, (.slice a0 n0 c0)), (5, (.slice a5 n5 c5)), (7, (.int .i64 x7))] w
def FL6_0 (B0 : (Option Addr × Nat × Nat × Option Addr × Nat × Nat × Int) → World → Prop) (k : Value → World → Prop) (a0 : Option Addr) (n0 : Nat) (c0 : Nat) (a5 : Option Addr) (n5 : Nat) (c5 : Nat) (x7 : Int) (w : World) : Prop :=
 bc (decide ((x7 : Int) < (n5 : Int)))
 (optP a5 fun q_21 => (0 ≤ x7 ∧ x7 < (n5 : Int)) ∧ ∃ (x_22 : Int), World.cell? w (Addr.add q_21 (x7.toNat * 2)) = some (.int .u64 x_22) ∧ optP a5 fun q_23 => (0 ≤ x7 ∧ x7 < (n5 : Int)) ∧ st1 w (Addr.add q_23 (x7.toNat * 2)) (.int .u64 (IntKind.wrap .u64 (x_22 + 1))) fun w_24 => ∀ w_25, w_25 = World.drew w_24 → optP a5 fun q_26 => (0 ≤ x7 ∧ x7 < (n5 : Int)) ∧ ∃ (x_27 : Int) (x_28 : Int), Rd w_25 (Addr.add q_26 (x7.toNat * 2)) 0 [(.int .u64 x_27), (.int .u64 x_28)] ∧ optP a0 fun q_29 => (0 ≤ x7 ∧ x7 < (n0 : Int)) ∧ ∃ (x_30 : Int) (x_31 : Int), Rd w_25 (Addr.add q_29 (x7.toNat * 2)) 0 [(.int .u64 x_30), (.int .u64 x_31)] ∧ bc (eqInts [(.int .u64 x_27), (.int .u64 x_28)] [(.int .u64 x_30), (.int .u64 x_31)])
 (k (.bool false) w_25)
 (B0 (a0, n0, c0, a5, n5, c5, (IntKind.wrap .i64 (x7 + 1))) w_25))
 (CALL Tryz.prog 47 ⟨[]⟩ w fun v_32 w_33 => ∃ (b_34 : Bool), v_32 = (.bool b_34) ∧ k (.bool b_34) w_33)
theorem L6_0_body (B0 : (Option Addr × Nat × Nat × Option Addr × Nat × Nat × Int) → World → Prop) (k : Value → World → Prop) (a0 : Option Addr) (n0 : Nat) (c0 : Nat) (a5 : Option Addr) (n5 : Nat) (c5 : Nat) (x7 : Int) (w : World) (h : FL6_0 B0 k a0 n0 c0 a5 n5 c5 x7 w) : WP Tryz.prog 56 (loopC (blkC (seqR (seqL (seqR (seqR (seqR (seqR (seqR c6))))))))) (bk6_0 B0) (inBlk 0 (den Tryz.prog 56 (seqR (seqR (seqR (seqR (seqR (seqR c6)))))) .nil (R6 k) noX (R6 k)) noX) (R6 k) [(0, (.slice a0 n0 c0)), (5, (.slice a5 n5 c5)), (7, (.int .i64 x7))] w :=
  WP_of_den (an := (.two .nil (.two (.one (.two .nil (.two (.plan [(0, 0), (0, 1), (0, 2), (0, 3), (0, 4), (0, 5), (0, 6), (0, 7), (0, 8)]) .nil))) .nil))) (by kernel_rfl) (Eq.mp (by kernel_rfl) h)
theorem L6_0_rule (k : Value → World → Prop) (I : Nat → (Option Addr × Nat × Nat × Option Addr × Nat × Nat × Int) → World → Prop) (round : ∀ (n : Nat) (a0 : Option Addr) (n0 : Nat) (c0 : Nat) (a5 : Option Addr) (n5 : Nat) (c5 : Nat) (x7 : Int) (w : World), I n (a0, n0, c0, a5, n5, c5, x7) w → FL6_0 (fun x w => ∃ n', n' < n ∧ I n' x w) k a0 n0 c0 a5 n5 c5 x7 w) (n : Nat) (a0 : Option Addr) (n0 : Nat) (c0 : Nat) (a5 : Option Addr) (n5 : Nat) (c5 : Nat) (x7 : Int) (w : World) (h : I n (a0, n0, c0, a5, n5, c5, x7) w) : L6_0 k a0 n0 c0 a5 n5 c5 x7 w :=
  WP_loop (fun x : Option Addr × Nat × Nat × Option Addr × Nat × Nat × Int => [(0, (.slice x.1 x.2.1 x.2.2.1)), (5, (.slice x.2.2.2.1 x.2.2.2.2.1 x.2.2.2.2.2.1)), (7, (.int .i64 x.2.2.2.2.2.2))]) un6_0 ok6_0 (fun e h t => hun_cons (isL_eq (and_l h)) (hun_cons (isL_eq (and_l (and_r h))) (hun_cons (isI_eq (and_r (and_r h))) (hun_nil t)))) I (fun n x w hi => L6_0_body _ k x.1 x.2.1 x.2.2.1 x.2.2.2.1 x.2.2.2.2.1 x.2.2.2.2.2.1 x.2.2.2.2.2.2 w (round n x.1 x.2.1 x.2.2.1 x.2.2.2.1 x.2.2.2.2.1 x.2.2.2.2.2.1 x.2.2.2.2.2.2 w hi)) n (a0, n0, c0, a5, n5, c5, x7) w h
def F6 (a0 : Option Addr) (n0 : Nat) (c0 : Nat) (a1 : Option Addr) (n1 : Nat) (c1 : Nat) (k : Value → World → Prop) (w : World) : Prop :=
 bc (decide (((n0 : Int) : Int) > 1000)) (CALL Tryz.prog 47 ⟨[]⟩ w fun v_1 w_2 => ∃ (b_3 : Bool), v_1 = (.bool b_3) ∧ k (.bool b_3) w_2) (bc (decide (((n1 : Int) : Int) > 1000))
 (CALL Tryz.prog 47 ⟨[]⟩ w fun v_4 w_5 => ∃ (b_6 : Bool), v_4 = (.bool b_6) ∧ k (.bool b_6) w_5)
 (CALL Tryz.prog 53 ⟨[(.pointer none)]⟩ w fun v_7 w_8 => v_7 = (.tuple ⟨[]⟩) ∧ CALL Tryz.prog 50 ⟨[(.pointer none), (.slice a0 n0 c0)]⟩ w_8 fun v_9 w_10 => ∃ (l_11a : Option Addr) (l_11n l_11c : Nat), v_9 = (.slice l_11a l_11n l_11c) ∧ CALL Tryz.prog 54 ⟨[(.pointer none), (.slice a1 n1 c1)]⟩ w_10 fun v_12 w_13 => ∃ (l_14a : Option Addr) (l_14n l_14c : Nat), v_12 = (.slice l_14a l_14n l_14c) ∧ CALL Tryz.prog 55 ⟨[(.slice l_11a l_11n l_11c), (.slice a0 n0 c0)]⟩ w_13 fun v_15 w_16 => ∃ (b_17 : Bool), v_15 = (.bool b_17) ∧ bc (!b_17) (k (.bool false) w_16) (CALL Tryz.prog 56 ⟨[(.slice l_14a l_14n l_14c), (.slice a1 n1 c1)]⟩ w_16 fun v_18 w_19 => ∃ (b_20 : Bool), v_18 = (.bool b_20) ∧ bc (!b_20)
 (k (.bool false) w_19)
 (L6_0 k a0 n0 c0 l_11a l_11n l_11c (0 : Int) w_19))))
theorem C6 (a0 : Option Addr) (n0 : Nat) (c0 : Nat) (a1 : Option Addr) (n1 : Nat) (c1 : Nat) (k : Value → World → Prop) (w : World) (h : F6 a0 n0 c0 a1 n1 c1 k w) : CALL Tryz.prog 6 ⟨[(.slice a0 n0 c0), (.slice a1 n1 c1)]⟩ w k :=
  calls_of_WP Tryz.func6 (c := c6) (by kernel_rfl) (by kernel_rfl) (Nat.le_of_ble_eq_true (by kernel_rfl)) (WP_of_den (an := (.two .nil (.two .nil (.two .nil (.two .nil (.two .nil (.two (.two .nil (.one (.loop [0, 5, 7]))) .nil))))))) (by kernel_rfl) (Eq.mp (by kernel_rfl) h))

/- moraine/weak.Breaks -/
noncomputable def c53n : Code := bodyOf Tryz.f53
def R53n (k : Value → World → Prop) : Env → World → Prop := retK Tryz.prog [] [] k
def ok53n_0 (e : Env) : Bool := isP (get e 0) && (isL (get e 9) && (isI .i64 (get e 10) && (isI .i64 (get e 11))))
def un53n_0 (e : Env) : Option Addr × Option Addr × Nat × Nat × Int × Int := (vP (get e 0), vLa (get e 9), vLn (get e 9), vLc (get e 9), vI (get e 10), vI (get e 11))
def bk53n_0 (B : (Option Addr × Option Addr × Nat × Nat × Int × Int) → World → Prop) : Env → World → Prop := fun e w => bif ok53n_0 e then B (un53n_0 e) w else False
def L53n_0 (k : Value → World → Prop) (o0 : Option Addr) (a9 : Option Addr) (n9 : Nat) (c9 : Nat) (x10 : Int) (x11 : Int) (w : World) : Prop := WP Tryz.prog 76 (blkC (seqR (seqR c53n))) (R53n k) (inBlk 0 (R53n k) noX) (R53n k) [(0, (.pointer o0)), (9, (.slice a9 n9 c9)), (10, (.int .i64 x10)), (11, (.int .i64 x11))] w
def FL53n_0 (B0 : (Option Addr × Option Addr × Nat × Nat × Int × Int) → World → Prop) (k : Value → World → Prop) (o0 : Option Addr) (a9 : Option Addr) (n9 : Nat) (c9 : Nat) (x10 : Int) (x11 : Int) (w : World) : Prop :=
 bc (decide ((x11 : Int) < x10))
 (optP a9 fun q_7 => (0 ≤ x11 ∧ x11 < (n9 : Int)) ∧ ∃ (x_8 : Int), World.cell? w (Addr.add q_7 (x11.toNat * 1)) = some (.int .i64 x_8) ∧ optP o0 fun q_9 => ∃ (p_10 : Option Addr), World.cell? w q_9 = some (.pointer p_10) ∧ optP p_10 fun q_11 => ∃ (p_12 : Option Addr), World.cell? w q_11 = some (.pointer p_12) ∧ optP p_12 fun q_13 => ∃ (p_14 : Option Addr), World.cell? w q_13 = some (.pointer p_14) ∧ optP p_14 fun q_15 => ∃ (p_16 : Option Addr), World.cell? w q_15 = some (.pointer p_16) ∧ CALL Tryz.prog 42 ⟨[(.pointer p_16), (.int .i64 x_8)]⟩ w fun v_17 w_18 => ∃ (x_19 : Int) (x_20 : Int), v_17 = (.tuple ⟨[(.int .u64 x_19), (.int .i64 x_20)]⟩) ∧ CALL Tryz.prog 43 ⟨[(.pointer o0), (.int .u64 x_19)]⟩ w_18 fun v_21 w_22 => ∃ (b_23 : Bool), v_21 = (.bool b_23) ∧ bc (!b_23)
 (B0 (o0, a9, n9, c9, x10, (IntKind.wrap .i64 (x11 + 1))) w_22)
 (CALL Tryz.prog 62 ⟨[(.pointer o0), (.int .u64 x_19)]⟩ w_22 fun v_24 w_25 => ∃ (b_26 : Bool), v_24 = (.bool b_26) ∧ bc b_26
 (∀ w_27, w_27 = World.drew w_25 → optP o0 fun q_28 => ∃ (p_29 : Option Addr), World.cell? w_27 q_28 = some (.pointer p_29) ∧ optP p_29 fun q_30 => ∃ (p_31 : Option Addr), World.cell? w_27 q_30 = some (.pointer p_31) ∧ optP p_31 fun q_32 => ∃ (p_33 : Option Addr), World.cell? w_27 q_32 = some (.pointer p_33) ∧ optP p_33 fun q_34 => ∃ (p_35 : Option Addr), World.cell? w_27 q_34 = some (.pointer p_35) ∧ CALL Tryz.prog 38 ⟨[(.pointer o0), (.int .u64 x_19)]⟩ w_27 fun v_36 w_37 => ∃ (x_38 : Int), v_36 = (.int .u64 x_38) ∧ World.cell? w_37 q_34 = some (.pointer p_35) ∧ World.cell? w_37 q_32 = some (.pointer p_33) ∧ World.cell? w_37 q_30 = some (.pointer p_31) ∧ World.cell? w_37 q_28 = some (.pointer p_29) ∧ CALL Tryz.prog 44 ⟨[(.pointer p_35), (.int .i64 x_8), (.int .u64 x_38)]⟩ w_37 fun v_39 w_40 => ∃ (x_41 : Int), v_39 = (.int .i64 x_41) ∧ B0 (o0, a9, n9, c9, x10, (IntKind.wrap .i64 (x11 + 1))) w_40)
 (optP o0 fun q_42 => ∃ (p_43 : Option Addr), World.cell? w_25 q_42 = some (.pointer p_43) ∧ optP p_43 fun q_44 => ∃ (p_45 : Option Addr), World.cell? w_25 q_44 = some (.pointer p_45) ∧ optP p_45 fun q_46 => ∃ (p_47 : Option Addr), World.cell? w_25 q_46 = some (.pointer p_47) ∧ optP p_47 fun q_48 => ∃ (p_49 : Option Addr), World.cell? w_25 q_48 = some (.pointer p_49) ∧ CALL Tryz.prog 44 ⟨[(.pointer p_49), (.int .i64 x_8), (.int .u64 44)]⟩ w_25 fun v_50 w_51 => ∃ (x_52 : Int), v_50 = (.int .i64 x_52) ∧ B0 (o0, a9, n9, c9, x10, (IntKind.wrap .i64 (x11 + 1))) w_51)))
 (k (.tuple ⟨[]⟩) w)
theorem L53n_0_body (B0 : (Option Addr × Option Addr × Nat × Nat × Int × Int) → World → Prop) (k : Value → World → Prop) (o0 : Option Addr) (a9 : Option Addr) (n9 : Nat) (c9 : Nat) (x10 : Int) (x11 : Int) (w : World) (h : FL53n_0 B0 k o0 a9 n9 c9 x10 x11 w) : WP Tryz.prog 76 (loopC (blkC (seqR (seqR c53n)))) (bk53n_0 B0) (inBlk 0 (R53n k) noX) (R53n k) [(0, (.pointer o0)), (9, (.slice a9 n9 c9)), (10, (.int .i64 x10)), (11, (.int .i64 x11))] w :=
  WP_of_den (an := (.two .nil (.two .nil (.two (.one (.two .nil (.two .nil (.one (.two .nil (.two .nil (.two .nil (.two (.plan [(0, 0), (0, 1), (0, 2), (0, 3), (0, 4), (0, 5), (0, 6), (0, 7), (0, 8), (0, 9), (0, 10), (0, 11), (0, 12), (0, 13), (0, 14), (0, 15), (1, 16), (1, 17)]) .nil)))))))) .nil)))) (by kernel_rfl) (Eq.mp (by kernel_rfl) h)
theorem L53n_0_rule (k : Value → World → Prop) (I : Nat → (Option Addr × Option Addr × Nat × Nat × Int × Int) → World → Prop) (round : ∀ (n : Nat) (o0 : Option Addr) (a9 : Option Addr) (n9 : Nat) (c9 : Nat) (x10 : Int) (x11 : Int) (w : World), I n (o0, a9, n9, c9, x10, x11) w → FL53n_0 (fun x w => ∃ n', n' < n ∧ I n' x w) k o0 a9 n9 c9 x10 x11 w) (n : Nat) (o0 : Option Addr) (a9 : Option Addr) (n9 : Nat) (c9 : Nat) (x10 : Int) (x11 : Int) (w : World) (h : I n (o0, a9, n9, c9, x10, x11) w) : L53n_0 k o0 a9 n9 c9 x10 x11 w :=
  WP_loop (fun x : Option Addr × Option Addr × Nat × Nat × Int × Int => [(0, (.pointer x.1)), (9, (.slice x.2.1 x.2.2.1 x.2.2.2.1)), (10, (.int .i64 x.2.2.2.2.1)), (11, (.int .i64 x.2.2.2.2.2))]) un53n_0 ok53n_0 (fun e h t => hun_cons (isP_eq (and_l h)) (hun_cons (isL_eq (and_l (and_r h))) (hun_cons (isI_eq (and_l (and_r (and_r h)))) (hun_cons (isI_eq (and_r (and_r (and_r h)))) (hun_nil t))))) I (fun n x w hi => L53n_0_body _ k x.1 x.2.1 x.2.2.1 x.2.2.2.1 x.2.2.2.2.1 x.2.2.2.2.2 w (round n x.1 x.2.1 x.2.2.1 x.2.2.2.1 x.2.2.2.2.1 x.2.2.2.2.2 w hi)) n (o0, a9, n9, c9, x10, x11) w h
def F53n (k : Value → World → Prop) (w : World) : Prop :=
 CALL Tryz.prog 136 ⟨[(.pointer none)]⟩ w fun v_1 w_2 => ∃ (b_3 : Bool), v_1 = (.bool b_3) ∧ bc b_3
 (k (.tuple ⟨[]⟩) w_2)
 (CALL Tryz.prog 41 ⟨[(.pointer none)]⟩ w_2 fun v_4 w_5 => ∃ (l_6a : Option Addr) (l_6n l_6c : Nat), v_4 = (.slice l_6a l_6n l_6c) ∧ L53n_0 k none l_6a l_6n l_6c (l_6n : Int) (0 : Int) w_5)
theorem C53n (k : Value → World → Prop) (w : World) (h : F53n  k w) : CALL Tryz.prog 53 ⟨[(.pointer none)]⟩ w k :=
  calls_of_WP Tryz.func53 (c := c53n) (by kernel_rfl) (by kernel_rfl) (Nat.le_of_ble_eq_true (by kernel_rfl)) (WP_of_den (an := (.two .nil (.two .nil (.one (.loop [0, 9, 10, 11]))))) (by kernel_rfl) (Eq.mp (by kernel_rfl) h))

/- moraine/weak.Prune -/
noncomputable def c54n : Code := bodyOf Tryz.f54
def R54n (k : Value → World → Prop) : Env → World → Prop := retK Tryz.prog [.tmp 4] [] k
def ok54n_0 (e : Env) : Bool := isP (get e 0) && (isL (get e 5) && (isL (get e 12) && (isI .i64 (get e 13) && (isI .i64 (get e 14)))))
def un54n_0 (e : Env) : Option Addr × Option Addr × Nat × Nat × Option Addr × Nat × Nat × Int × Int := (vP (get e 0), vLa (get e 5), vLn (get e 5), vLc (get e 5), vLa (get e 12), vLn (get e 12), vLc (get e 12), vI (get e 13), vI (get e 14))
def bk54n_0 (B : (Option Addr × Option Addr × Nat × Nat × Option Addr × Nat × Nat × Int × Int) → World → Prop) : Env → World → Prop := fun e w => bif ok54n_0 e then B (un54n_0 e) w else False
def L54n_0 (k : Value → World → Prop) (o0 : Option Addr) (a5 : Option Addr) (n5 : Nat) (c5 : Nat) (a12 : Option Addr) (n12 : Nat) (c12 : Nat) (x13 : Int) (x14 : Int) (w : World) : Prop := WP Tryz.prog 29 (blkC (seqR (seqL (seqR (seqR (seqR c54n)))))) (den Tryz.prog 29 (seqR (seqR (seqR (seqR c54n)))) .nil (R54n k) noX (R54n k)) (inBlk 0 (den Tryz.prog 29 (seqR (seqR (seqR (seqR c54n)))) .nil (R54n k) noX (R54n k)) noX) (R54n k) [(0, (.pointer o0)), (5, (.slice a5 n5 c5)), (12, (.slice a12 n12 c12)), (13, (.int .i64 x13)), (14, (.int .i64 x14))] w
def FL54n_0 (B0 : (Option Addr × Option Addr × Nat × Nat × Option Addr × Nat × Nat × Int × Int) → World → Prop) (k : Value → World → Prop) (o0 : Option Addr) (a5 : Option Addr) (n5 : Nat) (c5 : Nat) (a12 : Option Addr) (n12 : Nat) (c12 : Nat) (x13 : Int) (x14 : Int) (w : World) : Prop :=
 bc (decide ((x14 : Int) < x13))
 (optP a12 fun q_7 => (0 ≤ x14 ∧ x14 < (n12 : Int)) ∧ ∃ (x_8 : Int), World.cell? w (Addr.add q_7 (x14.toNat * 1)) = some (.int .u64 x_8) ∧ CALL Tryz.prog 62 ⟨[(.pointer o0), (.int .u64 x_8)]⟩ w fun v_9 w_10 => ∃ (b_11 : Bool), v_9 = (.bool b_11) ∧ bc b_11
 (CALL Tryz.prog 38 ⟨[(.pointer o0), (.int .u64 x_8)]⟩ w_10 fun v_12 w_13 => ∃ (x_14 : Int), v_12 = (.int .u64 x_14) ∧ al w_13 ⟨[(.int .u64 x_14)]⟩ 39 fun b_15 w_16 => apF Tryz.prog 39 a5 n5 c5 (some ⟨b_15, 0, none⟩) 1 w_16 fun a_17 c_18 w_19 => B0 (o0, a_17, (n5 + 1), c_18, a12, n12, c12, x13, (IntKind.wrap .i64 (x14 + 1))) w_19)
 (B0 (o0, a5, n5, c5, a12, n12, c12, x13, (IntKind.wrap .i64 (x14 + 1))) w_10))
 (k (.slice a5 n5 c5) w)
theorem L54n_0_body (B0 : (Option Addr × Option Addr × Nat × Nat × Option Addr × Nat × Nat × Int × Int) → World → Prop) (k : Value → World → Prop) (o0 : Option Addr) (a5 : Option Addr) (n5 : Nat) (c5 : Nat) (a12 : Option Addr) (n12 : Nat) (c12 : Nat) (x13 : Int) (x14 : Int) (w : World) (h : FL54n_0 B0 k o0 a5 n5 c5 a12 n12 c12 x13 x14 w) : WP Tryz.prog 29 (loopC (blkC (seqR (seqL (seqR (seqR (seqR c54n))))))) (bk54n_0 B0) (inBlk 0 (den Tryz.prog 29 (seqR (seqR (seqR (seqR c54n)))) .nil (R54n k) noX (R54n k)) noX) (R54n k) [(0, (.pointer o0)), (5, (.slice a5 n5 c5)), (12, (.slice a12 n12 c12)), (13, (.int .i64 x13)), (14, (.int .i64 x14))] w :=
  WP_of_den (an := .nil) (by kernel_rfl) (Eq.mp (by kernel_rfl) h)
theorem L54n_0_rule (k : Value → World → Prop) (I : Nat → (Option Addr × Option Addr × Nat × Nat × Option Addr × Nat × Nat × Int × Int) → World → Prop) (round : ∀ (n : Nat) (o0 : Option Addr) (a5 : Option Addr) (n5 : Nat) (c5 : Nat) (a12 : Option Addr) (n12 : Nat) (c12 : Nat) (x13 : Int) (x14 : Int) (w : World), I n (o0, a5, n5, c5, a12, n12, c12, x13, x14) w → FL54n_0 (fun x w => ∃ n', n' < n ∧ I n' x w) k o0 a5 n5 c5 a12 n12 c12 x13 x14 w) (n : Nat) (o0 : Option Addr) (a5 : Option Addr) (n5 : Nat) (c5 : Nat) (a12 : Option Addr) (n12 : Nat) (c12 : Nat) (x13 : Int) (x14 : Int) (w : World) (h : I n (o0, a5, n5, c5, a12, n12, c12, x13, x14) w) : L54n_0 k o0 a5 n5 c5 a12 n12 c12 x13 x14 w :=
  WP_loop (fun x : Option Addr × Option Addr × Nat × Nat × Option Addr × Nat × Nat × Int × Int => [(0, (.pointer x.1)), (5, (.slice x.2.1 x.2.2.1 x.2.2.2.1)), (12, (.slice x.2.2.2.2.1 x.2.2.2.2.2.1 x.2.2.2.2.2.2.1)), (13, (.int .i64 x.2.2.2.2.2.2.2.1)), (14, (.int .i64 x.2.2.2.2.2.2.2.2))]) un54n_0 ok54n_0 (fun e h t => hun_cons (isP_eq (and_l h)) (hun_cons (isL_eq (and_l (and_r h))) (hun_cons (isL_eq (and_l (and_r (and_r h)))) (hun_cons (isI_eq (and_l (and_r (and_r (and_r h))))) (hun_cons (isI_eq (and_r (and_r (and_r (and_r h))))) (hun_nil t)))))) I (fun n x w hi => L54n_0_body _ k x.1 x.2.1 x.2.2.1 x.2.2.2.1 x.2.2.2.2.1 x.2.2.2.2.2.1 x.2.2.2.2.2.2.1 x.2.2.2.2.2.2.2.1 x.2.2.2.2.2.2.2.2 w (round n x.1 x.2.1 x.2.2.1 x.2.2.2.1 x.2.2.2.2.1 x.2.2.2.2.2.1 x.2.2.2.2.2.2.1 x.2.2.2.2.2.2.2.1 x.2.2.2.2.2.2.2.2 w hi)) n (o0, a5, n5, c5, a12, n12, c12, x13, x14) w h
def F54n (a1 : Option Addr) (n1 : Nat) (c1 : Nat) (k : Value → World → Prop) (w : World) : Prop :=
 CALL Tryz.prog 136 ⟨[(.pointer none)]⟩ w fun v_1 w_2 => ∃ (b_3 : Bool), v_1 = (.bool b_3) ∧ bc b_3
 (CALL Tryz.prog 141 ⟨[(.slice a1 n1 c1)]⟩ w_2 fun v_4 w_5 => ∃ (l_6a : Option Addr) (l_6n l_6c : Nat), v_4 = (.slice l_6a l_6n l_6c) ∧ k (.slice l_6a l_6n l_6c) w_5)
 (L54n_0 k none none 0 0 a1 n1 c1 (n1 : Int) (0 : Int) w_2)
theorem C54n (a1 : Option Addr) (n1 : Nat) (c1 : Nat) (k : Value → World → Prop) (w : World) (h : F54n a1 n1 c1 k w) : CALL Tryz.prog 54 ⟨[(.pointer none), (.slice a1 n1 c1)]⟩ w k :=
  calls_of_WP Tryz.func54 (c := c54n) (by kernel_rfl) (by kernel_rfl) (Nat.le_of_ble_eq_true (by kernel_rfl)) (WP_of_den (an := (.two .nil (.two .nil (.two .nil (.two (.two .nil (.one (.loop [0, 5, 12, 13, 14]))) .nil))))) (by kernel_rfl) (Eq.mp (by kernel_rfl) h))

/- slices.Clone[[]moraine/api.Entry,moraine/api.Entry] -/
noncomputable def c137 : Code := bodyOf Tryz.f137
def R137 (k : Value → World → Prop) : Env → World → Prop := retK Tryz.prog [.tmp 2] [] k
def F137 (a0 : Option Addr) (n0 : Nat) (c0 : Nat) (k : Value → World → Prop) (w : World) : Prop :=
 bc (a0.isNone)
 (k (.slice none 0 0) w)
 (al w ⟨[]⟩ 82 fun b_1 w_2 => apF Tryz.prog 82 (some ⟨b_1, 0, none⟩) 0 0 a0 n0 w_2 fun a_3 c_4 w_5 => k (.slice a_3 (0 + n0) c_4) w_5)
theorem C137 (a0 : Option Addr) (n0 : Nat) (c0 : Nat) (k : Value → World → Prop) (w : World) (h : F137 a0 n0 c0 k w) : CALL Tryz.prog 137 ⟨[(.slice a0 n0 c0)]⟩ w k :=
  calls_of_WP Tryz.func137 (c := c137) (by kernel_rfl) (by kernel_rfl) (Nat.le_of_ble_eq_true (by kernel_rfl)) (WP_of_den (an := .nil) (by kernel_rfl) (Eq.mp (by kernel_rfl) h))

/- slices.Clone[[]moraine/api.Word,moraine/api.Word] -/
noncomputable def c141 : Code := bodyOf Tryz.f141
def R141 (k : Value → World → Prop) : Env → World → Prop := retK Tryz.prog [.tmp 2] [] k
def F141 (a0 : Option Addr) (n0 : Nat) (c0 : Nat) (k : Value → World → Prop) (w : World) : Prop :=
 bc (a0.isNone)
 (k (.slice none 0 0) w)
 (al w ⟨[]⟩ 39 fun b_1 w_2 => apF Tryz.prog 39 (some ⟨b_1, 0, none⟩) 0 0 a0 n0 w_2 fun a_3 c_4 w_5 => k (.slice a_3 (0 + n0) c_4) w_5)
theorem C141 (a0 : Option Addr) (n0 : Nat) (c0 : Nat) (k : Value → World → Prop) (w : World) (h : F141 a0 n0 c0 k w) : CALL Tryz.prog 141 ⟨[(.slice a0 n0 c0)]⟩ w k :=
  calls_of_WP Tryz.func141 (c := c141) (by kernel_rfl) (by kernel_rfl) (Nat.le_of_ble_eq_true (by kernel_rfl)) (WP_of_den (an := .nil) (by kernel_rfl) (Eq.mp (by kernel_rfl) h))

/- moraine/weak.ended -/
noncomputable def c136n : Code := bodyOf Tryz.f136
def R136n (k : Value → World → Prop) : Env → World → Prop := retK Tryz.prog [.tmp 2] [] k
def F136n (k : Value → World → Prop) (w : World) : Prop :=
 k (.bool true) w
theorem C136n (k : Value → World → Prop) (w : World) (h : F136n  k w) : CALL Tryz.prog 136 ⟨[(.pointer none)]⟩ w k :=
  calls_of_WP Tryz.func136 (c := c136n) (by kernel_rfl) (by kernel_rfl) (Nat.le_of_ble_eq_true (by kernel_rfl)) (WP_of_den (an := .nil) (by kernel_rfl) (Eq.mp (by kernel_rfl) h))

/- moraine/moraineref12.Same -/
noncomputable def c55 : Code := bodyOf Tryz.f55
def R55 (k : Value → World → Prop) : Env → World → Prop := retK Tryz.prog [.tmp 4] [] k
def ok55_0 (e : Env) : Bool := isL (get e 0) && (isL (get e 1) && (isI .i64 (get e 5)))
def un55_0 (e : Env) : Option Addr × Nat × Nat × Option Addr × Nat × Nat × Int := (vLa (get e 0), vLn (get e 0), vLc (get e 0), vLa (get e 1), vLn (get e 1), vLc (get e 1), vI (get e 5))
def bk55_0 (B : (Option Addr × Nat × Nat × Option Addr × Nat × Nat × Int) → World → Prop) : Env → World → Prop := fun e w => bif ok55_0 e then B (un55_0 e) w else False
def L55_0 (k : Value → World → Prop) (a0 : Option Addr) (n0 : Nat) (c0 : Nat) (a1 : Option Addr) (n1 : Nat) (c1 : Nat) (x5 : Int) (w : World) : Prop := WP Tryz.prog 26 (blkC (seqR (seqL (seqR (seqR c55))))) (den Tryz.prog 26 (seqR (seqR (seqR c55))) .nil (R55 k) noX (R55 k)) (inBlk 0 (den Tryz.prog 26 (seqR (seqR (seqR c55))) .nil (R55 k) noX (R55 k)) noX) (R55 k) [(0, (.slice a0 n0 c0)), (1, (.slice a1 n1 c1)), (5, (.int .i64 x5))] w
def FL55_0 (B0 : (Option Addr × Nat × Nat × Option Addr × Nat × Nat × Int) → World → Prop) (k : Value → World → Prop) (a0 : Option Addr) (n0 : Nat) (c0 : Nat) (a1 : Option Addr) (n1 : Nat) (c1 : Nat) (x5 : Int) (w : World) : Prop :=
 bc (decide ((x5 : Int) < (n0 : Int)))
 (∀ w_1, w_1 = World.drew w → optP a0 fun q_2 => (0 ≤ x5 ∧ x5 < (n0 : Int)) ∧ ∃ (x_3 : Int) (x_4 : Int), Rd w_1 (Addr.add q_2 (x5.toNat * 2)) 0 [(.int .u64 x_3), (.int .u64 x_4)] ∧ optP a1 fun q_5 => (0 ≤ x5 ∧ x5 < (n1 : Int)) ∧ ∃ (x_6 : Int) (x_7 : Int), Rd w_1 (Addr.add q_5 (x5.toNat * 2)) 0 [(.int .u64 x_6), (.int .u64 x_7)] ∧ bc (!(eqInts [(.int .u64 x_3), (.int .u64 x_4)] [(.int .u64 x_6), (.int .u64 x_7)]))
 (k (.bool false) w_1)
 (B0 (a0, n0, c0, a1, n1, c1, (IntKind.wrap .i64 (x5 + 1))) w_1))
 (k (.bool true) w)
theorem L55_0_body (B0 : (Option Addr × Nat × Nat × Option Addr × Nat × Nat × Int) → World → Prop) (k : Value → World → Prop) (a0 : Option Addr) (n0 : Nat) (c0 : Nat) (a1 : Option Addr) (n1 : Nat) (c1 : Nat) (x5 : Int) (w : World) (h : FL55_0 B0 k a0 n0 c0 a1 n1 c1 x5 w) : WP Tryz.prog 26 (loopC (blkC (seqR (seqL (seqR (seqR c55)))))) (bk55_0 B0) (inBlk 0 (den Tryz.prog 26 (seqR (seqR (seqR c55))) .nil (R55 k) noX (R55 k)) noX) (R55 k) [(0, (.slice a0 n0 c0)), (1, (.slice a1 n1 c1)), (5, (.int .i64 x5))] w :=
  WP_of_den (an := (.two .nil (.two (.one (.two (.plan [(0, 0), (0, 1), (0, 2), (0, 3), (0, 4), (0, 5), (0, 6), (0, 7), (0, 8)]) .nil)) .nil))) (by kernel_rfl) (Eq.mp (by kernel_rfl) h)
theorem L55_0_rule (k : Value → World → Prop) (I : Nat → (Option Addr × Nat × Nat × Option Addr × Nat × Nat × Int) → World → Prop) (round : ∀ (n : Nat) (a0 : Option Addr) (n0 : Nat) (c0 : Nat) (a1 : Option Addr) (n1 : Nat) (c1 : Nat) (x5 : Int) (w : World), I n (a0, n0, c0, a1, n1, c1, x5) w → FL55_0 (fun x w => ∃ n', n' < n ∧ I n' x w) k a0 n0 c0 a1 n1 c1 x5 w) (n : Nat) (a0 : Option Addr) (n0 : Nat) (c0 : Nat) (a1 : Option Addr) (n1 : Nat) (c1 : Nat) (x5 : Int) (w : World) (h : I n (a0, n0, c0, a1, n1, c1, x5) w) : L55_0 k a0 n0 c0 a1 n1 c1 x5 w :=
  WP_loop (fun x : Option Addr × Nat × Nat × Option Addr × Nat × Nat × Int => [(0, (.slice x.1 x.2.1 x.2.2.1)), (1, (.slice x.2.2.2.1 x.2.2.2.2.1 x.2.2.2.2.2.1)), (5, (.int .i64 x.2.2.2.2.2.2))]) un55_0 ok55_0 (fun e h t => hun_cons (isL_eq (and_l h)) (hun_cons (isL_eq (and_l (and_r h))) (hun_cons (isI_eq (and_r (and_r h))) (hun_nil t)))) I (fun n x w hi => L55_0_body _ k x.1 x.2.1 x.2.2.1 x.2.2.2.1 x.2.2.2.2.1 x.2.2.2.2.2.1 x.2.2.2.2.2.2 w (round n x.1 x.2.1 x.2.2.1 x.2.2.2.1 x.2.2.2.2.1 x.2.2.2.2.2.1 x.2.2.2.2.2.2 w hi)) n (a0, n0, c0, a1, n1, c1, x5) w h
def F55 (a0 : Option Addr) (n0 : Nat) (c0 : Nat) (a1 : Option Addr) (n1 : Nat) (c1 : Nat) (k : Value → World → Prop) (w : World) : Prop :=
 bc (((n0 : Int) : Int) != (n1 : Int))
 (k (.bool false) w)
 (L55_0 k a0 n0 c0 a1 n1 c1 (0 : Int) w)
theorem C55 (a0 : Option Addr) (n0 : Nat) (c0 : Nat) (a1 : Option Addr) (n1 : Nat) (c1 : Nat) (k : Value → World → Prop) (w : World) (h : F55 a0 n0 c0 a1 n1 c1 k w) : CALL Tryz.prog 55 ⟨[(.slice a0 n0 c0), (.slice a1 n1 c1)]⟩ w k :=
  calls_of_WP Tryz.func55 (c := c55) (by kernel_rfl) (by kernel_rfl) (Nat.le_of_ble_eq_true (by kernel_rfl)) (WP_of_den (an := (.two .nil (.two .nil (.two (.two .nil (.one (.loop [0, 1, 5]))) .nil)))) (by kernel_rfl) (Eq.mp (by kernel_rfl) h))

/- moraine/morainelaw12.words -/
noncomputable def c56 : Code := bodyOf Tryz.f56
def R56 (k : Value → World → Prop) : Env → World → Prop := retK Tryz.prog [.tmp 4] [] k
def ok56_0 (e : Env) : Bool := isL (get e 0) && (isL (get e 1) && (isI .i64 (get e 5)))
def un56_0 (e : Env) : Option Addr × Nat × Nat × Option Addr × Nat × Nat × Int := (vLa (get e 0), vLn (get e 0), vLc (get e 0), vLa (get e 1), vLn (get e 1), vLc (get e 1), vI (get e 5))
def bk56_0 (B : (Option Addr × Nat × Nat × Option Addr × Nat × Nat × Int) → World → Prop) : Env → World → Prop := fun e w => bif ok56_0 e then B (un56_0 e) w else False
def L56_0 (k : Value → World → Prop) (a0 : Option Addr) (n0 : Nat) (c0 : Nat) (a1 : Option Addr) (n1 : Nat) (c1 : Nat) (x5 : Int) (w : World) : Prop := WP Tryz.prog 26 (blkC (seqR (seqL (seqR (seqR c56))))) (den Tryz.prog 26 (seqR (seqR (seqR c56))) .nil (R56 k) noX (R56 k)) (inBlk 0 (den Tryz.prog 26 (seqR (seqR (seqR c56))) .nil (R56 k) noX (R56 k)) noX) (R56 k) [(0, (.slice a0 n0 c0)), (1, (.slice a1 n1 c1)), (5, (.int .i64 x5))] w
def FL56_0 (B0 : (Option Addr × Nat × Nat × Option Addr × Nat × Nat × Int) → World → Prop) (k : Value → World → Prop) (a0 : Option Addr) (n0 : Nat) (c0 : Nat) (a1 : Option Addr) (n1 : Nat) (c1 : Nat) (x5 : Int) (w : World) : Prop :=
 bc (decide ((x5 : Int) < (n0 : Int)))
 (∀ w_1, w_1 = World.drew w → optP a0 fun q_2 => (0 ≤ x5 ∧ x5 < (n0 : Int)) ∧ ∃ (x_3 : Int), World.cell? w_1 (Addr.add q_2 (x5.toNat * 1)) = some (.int .u64 x_3) ∧ optP a1 fun q_4 => (0 ≤ x5 ∧ x5 < (n1 : Int)) ∧ ∃ (x_5 : Int), World.cell? w_1 (Addr.add q_4 (x5.toNat * 1)) = some (.int .u64 x_5) ∧ bc ((x_3 : Int) != x_5)
 (k (.bool false) w_1)
 (B0 (a0, n0, c0, a1, n1, c1, (IntKind.wrap .i64 (x5 + 1))) w_1))
 (k (.bool true) w)
theorem L56_0_body (B0 : (Option Addr × Nat × Nat × Option Addr × Nat × Nat × Int) → World → Prop) (k : Value → World → Prop) (a0 : Option Addr) (n0 : Nat) (c0 : Nat) (a1 : Option Addr) (n1 : Nat) (c1 : Nat) (x5 : Int) (w : World) (h : FL56_0 B0 k a0 n0 c0 a1 n1 c1 x5 w) : WP Tryz.prog 26 (loopC (blkC (seqR (seqL (seqR (seqR c56)))))) (bk56_0 B0) (inBlk 0 (den Tryz.prog 26 (seqR (seqR (seqR c56))) .nil (R56 k) noX (R56 k)) noX) (R56 k) [(0, (.slice a0 n0 c0)), (1, (.slice a1 n1 c1)), (5, (.int .i64 x5))] w :=
  WP_of_den (an := (.two .nil (.two (.one (.two (.plan [(0, 0), (0, 1), (0, 2), (0, 3), (0, 4), (0, 5), (0, 6), (0, 7), (0, 8)]) .nil)) .nil))) (by kernel_rfl) (Eq.mp (by kernel_rfl) h)
theorem L56_0_rule (k : Value → World → Prop) (I : Nat → (Option Addr × Nat × Nat × Option Addr × Nat × Nat × Int) → World → Prop) (round : ∀ (n : Nat) (a0 : Option Addr) (n0 : Nat) (c0 : Nat) (a1 : Option Addr) (n1 : Nat) (c1 : Nat) (x5 : Int) (w : World), I n (a0, n0, c0, a1, n1, c1, x5) w → FL56_0 (fun x w => ∃ n', n' < n ∧ I n' x w) k a0 n0 c0 a1 n1 c1 x5 w) (n : Nat) (a0 : Option Addr) (n0 : Nat) (c0 : Nat) (a1 : Option Addr) (n1 : Nat) (c1 : Nat) (x5 : Int) (w : World) (h : I n (a0, n0, c0, a1, n1, c1, x5) w) : L56_0 k a0 n0 c0 a1 n1 c1 x5 w :=
  WP_loop (fun x : Option Addr × Nat × Nat × Option Addr × Nat × Nat × Int => [(0, (.slice x.1 x.2.1 x.2.2.1)), (1, (.slice x.2.2.2.1 x.2.2.2.2.1 x.2.2.2.2.2.1)), (5, (.int .i64 x.2.2.2.2.2.2))]) un56_0 ok56_0 (fun e h t => hun_cons (isL_eq (and_l h)) (hun_cons (isL_eq (and_l (and_r h))) (hun_cons (isI_eq (and_r (and_r h))) (hun_nil t)))) I (fun n x w hi => L56_0_body _ k x.1 x.2.1 x.2.2.1 x.2.2.2.1 x.2.2.2.2.1 x.2.2.2.2.2.1 x.2.2.2.2.2.2 w (round n x.1 x.2.1 x.2.2.1 x.2.2.2.1 x.2.2.2.2.1 x.2.2.2.2.2.1 x.2.2.2.2.2.2 w hi)) n (a0, n0, c0, a1, n1, c1, x5) w h
def F56 (a0 : Option Addr) (n0 : Nat) (c0 : Nat) (a1 : Option Addr) (n1 : Nat) (c1 : Nat) (k : Value → World → Prop) (w : World) : Prop :=
 bc (((n0 : Int) : Int) != (n1 : Int))
 (k (.bool false) w)
 (L56_0 k a0 n0 c0 a1 n1 c1 (0 : Int) w)
theorem C56 (a0 : Option Addr) (n0 : Nat) (c0 : Nat) (a1 : Option Addr) (n1 : Nat) (c1 : Nat) (k : Value → World → Prop) (w : World) (h : F56 a0 n0 c0 a1 n1 c1 k w) : CALL Tryz.prog 56 ⟨[(.slice a0 n0 c0), (.slice a1 n1 c1)]⟩ w k :=
  calls_of_WP Tryz.func56 (c := c56) (by kernel_rfl) (by kernel_rfl) (Nat.le_of_ble_eq_true (by kernel_rfl)) (WP_of_den (an := (.two .nil (.two .nil (.two (.two .nil (.one (.loop [0, 1, 5]))) .nil)))) (by kernel_rfl) (Eq.mp (by kernel_rfl) h))

end Go.Den
