/- What EqtabNone and its callees come to, printed by a program of mine and checked by the kernel. Own work; a part of the proof of a claim. Conditions: none beyond those that stand in each theorem. -/
import Derived.Test.YteganidclpobeaaGreatDen7
import Derived.Test.YteganidclpobeaaGreatProg
set_option linter.unusedVariables false
set_option maxRecDepth 100000
set_option linter.unusedSimpArgs false
namespace Go.Den.S15
open Go Go.Den Go.Proofs
/- moraine/morainelaw15.EqtabNone -/
noncomputable def c19 : Code := bodyOf Tryz.f19
def R19 (k : Value → World → Prop) : Env → World → Prop := retK Tryz.prog [.tmp 6] [] k
def F19 (x0 : Int) (x1 : Int) (x2 : Int) (k : Value → World → Prop) (w : World) : Prop :=
 CALL Tryz.prog 26 ⟨[(.int .i64 8)]⟩ w fun v_1 w_2 => ∃ (p_3 : Option Addr) (x_4 : Int), v_1 = (.tuple ⟨[(.pointer p_3), (.int .i64 x_4)]⟩) ∧ bc ((x_4 : Int) != 0)
 (k (.bool false) w_2)
 (CALL Tryz.prog 87 ⟨[(.pointer p_3), (.int .u64 x0), (.int .u64 x1), (.int .u64 x2)]⟩ w_2 fun v_5 w_6 => ∃ (x_7 : Int), v_5 = (.int .i64 x_7) ∧ CALL Tryz.prog 90 ⟨[(.pointer p_3), (.int .u64 x0), (.int .u64 x1)]⟩ w_6 fun v_8 w_9 => ∃ (x_10 : Int) (b_11 : Bool) (x_12 : Int), v_8 = (.tuple ⟨[(.int .u64 x_10), (.bool b_11), (.int .i64 x_12)]⟩) ∧ CALL Tryz.prog 91 ⟨[(.pointer p_3), (.int .u64 x0), (.int .u64 x1)]⟩ w_9 fun v_13 w_14 => ∃ (b_15 : Bool) (x_16 : Int), v_13 = (.tuple ⟨[(.bool b_15), (.int .i64 x_16)]⟩) ∧ CALL Tryz.prog 92 ⟨[(.pointer p_3), (.int .u64 x0)]⟩ w_14 fun v_17 w_18 => ∃ (x_19 : Int) (x_20 : Int), v_17 = (.tuple ⟨[(.int .i64 x_19), (.int .i64 x_20)]⟩) ∧ CALL Tryz.prog 93 ⟨[(.pointer none), (.int .u64 x0)]⟩ w_18 fun v_21 w_22 => ∃ (l_23a : Option Addr) (l_23n l_23c : Nat) (x_24 : Int), v_21 = (.tuple ⟨[(.slice l_23a l_23n l_23c), (.int .i64 x_24)]⟩) ∧ CALL Tryz.prog 94 ⟨[(.pointer none)]⟩ w_22 fun v_25 w_26 => ∃ (x_27 : Int) (x_28 : Int), v_25 = (.tuple ⟨[(.int .u64 x_27), (.int .i64 x_28)]⟩) ∧ bc ((x_7 : Int) == 3) (bc (!b_11) (bc ((x_12 : Int) == 3) (bc (!b_15) (bc ((x_16 : Int) == 3) (bc ((x_19 : Int) == 0) (bc ((x_20 : Int) == 3) (bc (((l_23n : Int) : Int) == 0) (bc ((x_24 : Int) == 3) (bc ((x_27 : Int) == 0) (bc ((x_28 : Int) == 2) (CALL Tryz.prog 81 ⟨[]⟩ w_26 fun v_29 w_30 => ∃ (b_31 : Bool), v_29 = (.bool b_31) ∧ k (.bool b_31) w_30) (k (.bool false) w_26)) (k (.bool false) w_26)) (k (.bool false) w_26)) (k (.bool false) w_26)) (k (.bool false) w_26)) (k (.bool false) w_26)) (k (.bool false) w_26)) (k (.bool false) w_26)) (k (.bool false) w_26)) (k (.bool false) w_26)) (k (.bool false) w_26))
theorem C19 (x0 : Int) (x1 : Int) (x2 : Int) (k : Value → World → Prop) (w : World) (h : F19 x0 x1 x2 k w) : CALL Tryz.prog 19 ⟨[(.int .u64 x0), (.int .u64 x1), (.int .u64 x2)]⟩ w k :=
  calls_of_WP Tryz.func19 (c := c19) (by kernel_rfl) (by kernel_rfl) (Nat.le_of_ble_eq_true (by kernel_rfl)) (WP_of_den (an := .nil) (by kernel_rfl) (Eq.mp (by kernel_rfl) h))

/- moraine/eqtab.Put -/
noncomputable def c87 : Code := bodyOf Tryz.f87
def R87 (k : Value → World → Prop) : Env → World → Prop := retK Tryz.prog [.tmp 8] [] k
def F87 (p0 : Addr) (x1 : Int) (x2 : Int) (x3 : Int) (k : Value → World → Prop) (w : World) : Prop :=
 CALL Tryz.prog 160 ⟨[(.pointer (some p0)), (.int .u64 x1)]⟩ w fun v_1 w_2 => ∃ (p_3 : Option Addr) (x_4 : Int) (x_5 : Int), v_1 = (.tuple ⟨[(.agg ⟨[(.pointer p_3), (.int .u64 x_4)]⟩), (.int .i64 x_5)]⟩) ∧ al w_2 ⟨[(.pointer none), (.int .u64 0)]⟩ 244 fun b_6 w_7 => stN w_7 ⟨b_6, 0, none⟩ [(.pointer p_3), (.int .u64 x_4)] fun w_8 => bc ((x_5 : Int) != 0)
 (k (.int .i64 x_5) w_8)
 (∃ (p_9 : Option Addr) (x_10 : Int), Rd w_8 ⟨b_6, 0, none⟩ 0 [(.pointer p_9), (.int .u64 x_10)] ∧ CALL Tryz.prog 161 ⟨[(.agg ⟨[(.pointer p_9), (.int .u64 x_10)]⟩), (.int .u64 x2)]⟩ w_8 fun v_11 w_12 => ∃ (x_13 : Int) (b_14 : Bool), v_11 = (.tuple ⟨[(.int .u64 x_13), (.bool b_14)]⟩) ∧ bc b_14
 (CALL Tryz.prog 162 ⟨[(.pointer (some p0)), (.int .u64 x_13), (.int .u64 x3)]⟩ w_12 fun v_15 w_16 => ∃ (x_17 : Int), v_15 = (.int .i64 x_17) ∧ k (.int .i64 x_17) w_16)
 (CALL Tryz.prog 163 ⟨[(.int .u64 x2)]⟩ w_12 fun v_18 w_19 => ∃ (x_20 : Int), v_18 = (.int .i64 x_20) ∧ CALL Tryz.prog 49 ⟨[(.pointer (some p0)), (.int .u64 x2), (.int .u64 x3)]⟩ w_19 fun v_21 w_22 => ∃ (x_23 : Int) (x_24 : Int), v_21 = (.tuple ⟨[(.int .u64 x_23), (.int .i64 x_24)]⟩) ∧ bc ((x_24 : Int) != 0)
 (k (.int .i64 x_24) w_22)
 (∃ (p_25 : Option Addr) (x_26 : Int), Rd w_22 ⟨b_6, 0, none⟩ 0 [(.pointer p_25), (.int .u64 x_26)] ∧ CALL Tryz.prog 164 ⟨[(.agg ⟨[(.pointer p_25), (.int .u64 x_26)]⟩), (.int .i64 1)]⟩ w_22 fun v_27 w_28 => ∃ (x_29 : Int), v_27 = (.int .u64 x_29) ∧ CALL Tryz.prog 49 ⟨[(.pointer (some p0)), (.int .u64 x_23), (.int .u64 x_29)]⟩ w_28 fun v_30 w_31 => ∃ (x_32 : Int) (x_33 : Int), v_30 = (.tuple ⟨[(.int .u64 x_32), (.int .i64 x_33)]⟩) ∧ bc ((x_33 : Int) != 0)
 (k (.int .i64 x_33) w_31)
 (∃ (p_34 : Option Addr) (x_35 : Int), Rd w_31 ⟨b_6, 0, none⟩ 0 [(.pointer p_34), (.int .u64 x_35)] ∧ CALL Tryz.prog 165 ⟨[(.agg ⟨[(.pointer p_34), (.int .u64 x_35)]⟩), (.int .i64 x_20)]⟩ w_31 fun v_36 w_37 => ∃ (x_38 : Int), v_36 = (.int .u64 x_38) ∧ CALL Tryz.prog 49 ⟨[(.pointer (some p0)), (.int .u64 x_23), (.int .u64 x_38)]⟩ w_37 fun v_39 w_40 => ∃ (x_41 : Int) (x_42 : Int), v_39 = (.tuple ⟨[(.int .u64 x_41), (.int .i64 x_42)]⟩) ∧ bc ((x_42 : Int) != 0)
 (k (.int .i64 x_42) w_40)
 (∃ (p_43 : Option Addr) (x_44 : Int), Rd w_40 ⟨b_6, 0, none⟩ 0 [(.pointer p_43), (.int .u64 x_44)] ∧ CALL Tryz.prog 164 ⟨[(.agg ⟨[(.pointer p_43), (.int .u64 x_44)]⟩), (.int .i64 0)]⟩ w_40 fun v_45 w_46 => ∃ (x_47 : Int), v_45 = (.int .u64 x_47) ∧ CALL Tryz.prog 166 ⟨[(.int .u64 x_47)]⟩ w_46 fun v_48 w_49 => ∃ (x_50 : Int) (b_51 : Bool), v_48 = (.tuple ⟨[(.int .i64 x_50), (.bool b_51)]⟩) ∧ ∀ w_52, w_52 = World.drew w_49 → ∃ (p_53 : Option Addr) (x_54 : Int), Rd w_52 ⟨b_6, 0, none⟩ 0 [(.pointer p_53), (.int .u64 x_54)] ∧ CALL Tryz.prog 168 ⟨[(.int .i64 (IntKind.wrap .i64 (x_50 + 1)))]⟩ w_52 fun v_55 w_56 => ∃ (x_57 : Int), v_55 = (.int .u64 x_57) ∧ World.cell? w_56 ⟨b_6, 0, none⟩ = some (.pointer p_53) ∧ World.cell? w_56 ⟨b_6, 1, none⟩ = some (.int .u64 x_54) ∧ CALL Tryz.prog 167 ⟨[(.agg ⟨[(.pointer p_53), (.int .u64 x_54)]⟩), (.int .i64 0), (.int .u64 x_57)]⟩ w_56 fun v_58 w_59 => v_58 = (.tuple ⟨[]⟩) ∧ ∃ (p_60 : Option Addr) (x_61 : Int), Rd w_59 ⟨b_6, 0, none⟩ 0 [(.pointer p_60), (.int .u64 x_61)] ∧ CALL Tryz.prog 167 ⟨[(.agg ⟨[(.pointer p_60), (.int .u64 x_61)]⟩), (.int .i64 1), (.int .u64 x_32)]⟩ w_59 fun v_62 w_63 => v_62 = (.tuple ⟨[]⟩) ∧ ∃ (p_64 : Option Addr) (x_65 : Int), Rd w_63 ⟨b_6, 0, none⟩ 0 [(.pointer p_64), (.int .u64 x_65)] ∧ CALL Tryz.prog 169 ⟨[(.agg ⟨[(.pointer p_64), (.int .u64 x_65)]⟩), (.int .i64 x_20), (.int .u64 x_41)]⟩ w_63 fun v_66 w_67 => v_66 = (.tuple ⟨[]⟩) ∧ k (.int .i64 0) w_67)))))
theorem C87 (p0 : Addr) (x1 : Int) (x2 : Int) (x3 : Int) (k : Value → World → Prop) (w : World) (h : F87 p0 x1 x2 x3 k w) : CALL Tryz.prog 87 ⟨[(.pointer (some p0)), (.int .u64 x1), (.int .u64 x2), (.int .u64 x3)]⟩ w k :=
  calls_of_WP Tryz.func87 (c := c87) (by kernel_rfl) (by kernel_rfl) (Nat.le_of_ble_eq_true (by kernel_rfl)) (WP_of_den (an := (.two .nil (.two .nil (.two .nil (.two .nil (.two .nil (.two .nil (.two .nil (.two .nil (.two .nil (.two .nil (.two .nil (.two .nil (.two (.plan [(0, 0), (0, 1), (0, 2), (1, 3), (1, 4)]) .nil)))))))))))))) (by kernel_rfl) (Eq.mp (by kernel_rfl) h))

/- moraine/eqtab.Get -/
noncomputable def c90 : Code := bodyOf Tryz.f90
def R90 (k : Value → World → Prop) : Env → World → Prop := retK Tryz.prog [.tmp 6, .tmp 7, .tmp 8] [] k
def F90 (p0 : Addr) (x1 : Int) (x2 : Int) (k : Value → World → Prop) (w : World) : Prop :=
 CALL Tryz.prog 160 ⟨[(.pointer (some p0)), (.int .u64 x1)]⟩ w fun v_1 w_2 => ∃ (p_3 : Option Addr) (x_4 : Int) (x_5 : Int), v_1 = (.tuple ⟨[(.agg ⟨[(.pointer p_3), (.int .u64 x_4)]⟩), (.int .i64 x_5)]⟩) ∧ al w_2 ⟨[(.pointer none), (.int .u64 0)]⟩ 244 fun b_6 w_7 => stN w_7 ⟨b_6, 0, none⟩ [(.pointer p_3), (.int .u64 x_4)] fun w_8 => bc ((x_5 : Int) != 0)
 (k (.tuple ⟨[(.int .u64 0), (.bool false), (.int .i64 x_5)]⟩) w_8)
 (∃ (p_9 : Option Addr) (x_10 : Int), Rd w_8 ⟨b_6, 0, none⟩ 0 [(.pointer p_9), (.int .u64 x_10)] ∧ CALL Tryz.prog 161 ⟨[(.agg ⟨[(.pointer p_9), (.int .u64 x_10)]⟩), (.int .u64 x2)]⟩ w_8 fun v_11 w_12 => ∃ (x_13 : Int) (b_14 : Bool), v_11 = (.tuple ⟨[(.int .u64 x_13), (.bool b_14)]⟩) ∧ bc (!b_14)
 (k (.tuple ⟨[(.int .u64 0), (.bool false), (.int .i64 0)]⟩) w_12)
 (CALL Tryz.prog 58 ⟨[(.pointer (some p0)), (.int .u64 x_13)]⟩ w_12 fun v_15 w_16 => ∃ (x_17 : Int) (x_18 : Int), v_15 = (.tuple ⟨[(.int .u64 x_17), (.int .i64 x_18)]⟩) ∧ k (.tuple ⟨[(.int .u64 x_17), (.bool true), (.int .i64 x_18)]⟩) w_16))
theorem C90 (p0 : Addr) (x1 : Int) (x2 : Int) (k : Value → World → Prop) (w : World) (h : F90 p0 x1 x2 k w) : CALL Tryz.prog 90 ⟨[(.pointer (some p0)), (.int .u64 x1), (.int .u64 x2)]⟩ w k :=
  calls_of_WP Tryz.func90 (c := c90) (by kernel_rfl) (by kernel_rfl) (Nat.le_of_ble_eq_true (by kernel_rfl)) (WP_of_den (an := .nil) (by kernel_rfl) (Eq.mp (by kernel_rfl) h))

/- moraine/eqtab.Delete -/
noncomputable def c91 : Code := bodyOf Tryz.f91
def R91 (k : Value → World → Prop) : Env → World → Prop := retK Tryz.prog [.tmp 6, .tmp 7] [] k
def F91 (p0 : Addr) (x1 : Int) (x2 : Int) (k : Value → World → Prop) (w : World) : Prop :=
 CALL Tryz.prog 160 ⟨[(.pointer (some p0)), (.int .u64 x1)]⟩ w fun v_1 w_2 => ∃ (p_3 : Option Addr) (x_4 : Int) (x_5 : Int), v_1 = (.tuple ⟨[(.agg ⟨[(.pointer p_3), (.int .u64 x_4)]⟩), (.int .i64 x_5)]⟩) ∧ al w_2 ⟨[(.pointer none), (.int .u64 0)]⟩ 244 fun b_6 w_7 => stN w_7 ⟨b_6, 0, none⟩ [(.pointer p_3), (.int .u64 x_4)] fun w_8 => bc ((x_5 : Int) != 0)
 (k (.tuple ⟨[(.bool false), (.int .i64 x_5)]⟩) w_8)
 (∃ (p_9 : Option Addr) (x_10 : Int), Rd w_8 ⟨b_6, 0, none⟩ 0 [(.pointer p_9), (.int .u64 x_10)] ∧ CALL Tryz.prog 161 ⟨[(.agg ⟨[(.pointer p_9), (.int .u64 x_10)]⟩), (.int .u64 x2)]⟩ w_8 fun v_11 w_12 => ∃ (x_13 : Int) (b_14 : Bool), v_11 = (.tuple ⟨[(.int .u64 x_13), (.bool b_14)]⟩) ∧ bc (!b_14)
 (k (.tuple ⟨[(.bool false), (.int .i64 0)]⟩) w_12)
 (CALL Tryz.prog 163 ⟨[(.int .u64 x2)]⟩ w_12 fun v_15 w_16 => ∃ (x_17 : Int), v_15 = (.int .i64 x_17) ∧ ∀ w_18, w_18 = World.drew w_16 → ∃ (p_19 : Option Addr) (x_20 : Int), Rd w_18 ⟨b_6, 0, none⟩ 0 [(.pointer p_19), (.int .u64 x_20)] ∧ ∃ (p_21 : Option Addr) (x_22 : Int), Rd w_18 ⟨b_6, 0, none⟩ 0 [(.pointer p_21), (.int .u64 x_22)] ∧ CALL Tryz.prog 165 ⟨[(.agg ⟨[(.pointer p_21), (.int .u64 x_22)]⟩), (.int .i64 x_17)]⟩ w_18 fun v_23 w_24 => ∃ (x_25 : Int), v_23 = (.int .u64 x_25) ∧ World.cell? w_24 ⟨b_6, 0, none⟩ = some (.pointer p_19) ∧ World.cell? w_24 ⟨b_6, 1, none⟩ = some (.int .u64 x_20) ∧ CALL Tryz.prog 170 ⟨[(.agg ⟨[(.pointer p_19), (.int .u64 x_20)]⟩), (.int .u64 x_25), (.int .u64 x_13)]⟩ w_24 fun v_26 w_27 => ∃ (x_28 : Int), v_26 = (.int .u64 x_28) ∧ ∃ (p_29 : Option Addr) (x_30 : Int), Rd w_27 ⟨b_6, 0, none⟩ 0 [(.pointer p_29), (.int .u64 x_30)] ∧ CALL Tryz.prog 169 ⟨[(.agg ⟨[(.pointer p_29), (.int .u64 x_30)]⟩), (.int .i64 x_17), (.int .u64 x_28)]⟩ w_27 fun v_31 w_32 => v_31 = (.tuple ⟨[]⟩) ∧ ∀ w_33, w_33 = World.drew w_32 → ∃ (p_34 : Option Addr) (x_35 : Int), Rd w_33 ⟨b_6, 0, none⟩ 0 [(.pointer p_34), (.int .u64 x_35)] ∧ ∃ (p_36 : Option Addr) (x_37 : Int), Rd w_33 ⟨b_6, 0, none⟩ 0 [(.pointer p_36), (.int .u64 x_37)] ∧ CALL Tryz.prog 164 ⟨[(.agg ⟨[(.pointer p_36), (.int .u64 x_37)]⟩), (.int .i64 1)]⟩ w_33 fun v_38 w_39 => ∃ (x_40 : Int), v_38 = (.int .u64 x_40) ∧ World.cell? w_39 ⟨b_6, 0, none⟩ = some (.pointer p_34) ∧ World.cell? w_39 ⟨b_6, 1, none⟩ = some (.int .u64 x_35) ∧ CALL Tryz.prog 170 ⟨[(.agg ⟨[(.pointer p_34), (.int .u64 x_35)]⟩), (.int .u64 x_40), (.int .u64 x_13)]⟩ w_39 fun v_41 w_42 => ∃ (x_43 : Int), v_41 = (.int .u64 x_43) ∧ ∃ (p_44 : Option Addr) (x_45 : Int), Rd w_42 ⟨b_6, 0, none⟩ 0 [(.pointer p_44), (.int .u64 x_45)] ∧ CALL Tryz.prog 167 ⟨[(.agg ⟨[(.pointer p_44), (.int .u64 x_45)]⟩), (.int .i64 1), (.int .u64 x_43)]⟩ w_42 fun v_46 w_47 => v_46 = (.tuple ⟨[]⟩) ∧ ∃ (p_48 : Option Addr) (x_49 : Int), Rd w_47 ⟨b_6, 0, none⟩ 0 [(.pointer p_48), (.int .u64 x_49)] ∧ CALL Tryz.prog 171 ⟨[(.agg ⟨[(.pointer p_48), (.int .u64 x_49)]⟩), (.int .u64 x_13)]⟩ w_47 fun v_50 w_51 => v_50 = (.tuple ⟨[]⟩) ∧ ∃ (p_52 : Option Addr) (x_53 : Int), Rd w_51 ⟨b_6, 0, none⟩ 0 [(.pointer p_52), (.int .u64 x_53)] ∧ CALL Tryz.prog 164 ⟨[(.agg ⟨[(.pointer p_52), (.int .u64 x_53)]⟩), (.int .i64 0)]⟩ w_51 fun v_54 w_55 => ∃ (x_56 : Int), v_54 = (.int .u64 x_56) ∧ CALL Tryz.prog 166 ⟨[(.int .u64 x_56)]⟩ w_55 fun v_57 w_58 => ∃ (x_59 : Int) (b_60 : Bool), v_57 = (.tuple ⟨[(.int .i64 x_59), (.bool b_60)]⟩) ∧ ∀ w_61, w_61 = World.drew w_58 → ∃ (p_62 : Option Addr) (x_63 : Int), Rd w_61 ⟨b_6, 0, none⟩ 0 [(.pointer p_62), (.int .u64 x_63)] ∧ CALL Tryz.prog 168 ⟨[(.int .i64 (IntKind.wrap .i64 (x_59 - 1)))]⟩ w_61 fun v_64 w_65 => ∃ (x_66 : Int), v_64 = (.int .u64 x_66) ∧ World.cell? w_65 ⟨b_6, 0, none⟩ = some (.pointer p_62) ∧ World.cell? w_65 ⟨b_6, 1, none⟩ = some (.int .u64 x_63) ∧ CALL Tryz.prog 167 ⟨[(.agg ⟨[(.pointer p_62), (.int .u64 x_63)]⟩), (.int .i64 0), (.int .u64 x_66)]⟩ w_65 fun v_67 w_68 => v_67 = (.tuple ⟨[]⟩) ∧ k (.tuple ⟨[(.bool true), (.int .i64 0)]⟩) w_68))
theorem C91 (p0 : Addr) (x1 : Int) (x2 : Int) (k : Value → World → Prop) (w : World) (h : F91 p0 x1 x2 k w) : CALL Tryz.prog 91 ⟨[(.pointer (some p0)), (.int .u64 x1), (.int .u64 x2)]⟩ w k :=
  calls_of_WP Tryz.func91 (c := c91) (by kernel_rfl) (by kernel_rfl) (Nat.le_of_ble_eq_true (by kernel_rfl)) (WP_of_den (an := (.two .nil (.two .nil (.two .nil (.two .nil (.two .nil (.two .nil (.two (.plan [(0, 0), (0, 1), (0, 2), (0, 4), (1, 3), (1, 5), (0, 6)]) (.two .nil (.two (.plan [(0, 0), (0, 1), (0, 3), (1, 2), (1, 4), (0, 5)]) (.two .nil (.two .nil (.two .nil (.two (.plan [(0, 0), (0, 1), (0, 2), (1, 3), (1, 4)]) .nil)))))))))))))) (by kernel_rfl) (Eq.mp (by kernel_rfl) h))

/- moraine/eqtab.Count -/
noncomputable def c92 : Code := bodyOf Tryz.f92
def R92 (k : Value → World → Prop) : Env → World → Prop := retK Tryz.prog [.tmp 4, .tmp 5] [] k
def F92 (p0 : Addr) (x1 : Int) (k : Value → World → Prop) (w : World) : Prop :=
 CALL Tryz.prog 160 ⟨[(.pointer (some p0)), (.int .u64 x1)]⟩ w fun v_1 w_2 => ∃ (p_3 : Option Addr) (x_4 : Int) (x_5 : Int), v_1 = (.tuple ⟨[(.agg ⟨[(.pointer p_3), (.int .u64 x_4)]⟩), (.int .i64 x_5)]⟩) ∧ al w_2 ⟨[(.pointer none), (.int .u64 0)]⟩ 244 fun b_6 w_7 => stN w_7 ⟨b_6, 0, none⟩ [(.pointer p_3), (.int .u64 x_4)] fun w_8 => bc ((x_5 : Int) != 0)
 (k (.tuple ⟨[(.int .i64 0), (.int .i64 x_5)]⟩) w_8)
 (∃ (p_9 : Option Addr) (x_10 : Int), Rd w_8 ⟨b_6, 0, none⟩ 0 [(.pointer p_9), (.int .u64 x_10)] ∧ CALL Tryz.prog 164 ⟨[(.agg ⟨[(.pointer p_9), (.int .u64 x_10)]⟩), (.int .i64 0)]⟩ w_8 fun v_11 w_12 => ∃ (x_13 : Int), v_11 = (.int .u64 x_13) ∧ CALL Tryz.prog 166 ⟨[(.int .u64 x_13)]⟩ w_12 fun v_14 w_15 => ∃ (x_16 : Int) (b_17 : Bool), v_14 = (.tuple ⟨[(.int .i64 x_16), (.bool b_17)]⟩) ∧ k (.tuple ⟨[(.int .i64 x_16), (.int .i64 0)]⟩) w_15)
theorem C92 (p0 : Addr) (x1 : Int) (k : Value → World → Prop) (w : World) (h : F92 p0 x1 k w) : CALL Tryz.prog 92 ⟨[(.pointer (some p0)), (.int .u64 x1)]⟩ w k :=
  calls_of_WP Tryz.func92 (c := c92) (by kernel_rfl) (by kernel_rfl) (Nat.le_of_ble_eq_true (by kernel_rfl)) (WP_of_den (an := .nil) (by kernel_rfl) (Eq.mp (by kernel_rfl) h))

/- moraine/eqtab.Keys -/
noncomputable def c93n : Code := bodyOf Tryz.f93
def R93n (k : Value → World → Prop) : Env → World → Prop := retK Tryz.prog [.tmp 4, .tmp 5] [] k
def F93n (x1 : Int) (k : Value → World → Prop) (w : World) : Prop :=
 al w ⟨[(.pointer none)]⟩ 27 fun b_1 w_2 => ∃ (p_3 : Option Addr), World.cell? w_2 ⟨b_1, 0, none⟩ = some (.pointer p_3) ∧ CALL Tryz.prog 172 ⟨[(.pointer p_3), (.int .u64 x1), (.func (.func 173) ⟨[]⟩ ⟨[(.pointer (some ⟨b_1, 0, none⟩))]⟩)]⟩ w_2 fun v_4 w_5 => ∃ (l_6a : Option Addr) (l_6n l_6c : Nat) (x_7 : Int), v_4 = (.tuple ⟨[(.slice l_6a l_6n l_6c), (.int .i64 x_7)]⟩) ∧ k (.tuple ⟨[(.slice l_6a l_6n l_6c), (.int .i64 x_7)]⟩) w_5
theorem C93n (x1 : Int) (k : Value → World → Prop) (w : World) (h : F93n x1 k w) : CALL Tryz.prog 93 ⟨[(.pointer none), (.int .u64 x1)]⟩ w k :=
  calls_of_WP Tryz.func93 (c := c93n) (by kernel_rfl) (by kernel_rfl) (Nat.le_of_ble_eq_true (by kernel_rfl)) (WP_of_den (an := .nil) (by kernel_rfl) (Eq.mp (by kernel_rfl) h))

/- moraine/eqtab.New -/
noncomputable def c94n : Code := bodyOf Tryz.f94
def R94n (k : Value → World → Prop) : Env → World → Prop := retK Tryz.prog [.tmp 2, .tmp 3] [] k
def F94n (k : Value → World → Prop) (w : World) : Prop :=
 k (.tuple ⟨[(.int .u64 0), (.int .i64 2)]⟩) w
theorem C94n (k : Value → World → Prop) (w : World) (h : F94n  k w) : CALL Tryz.prog 94 ⟨[(.pointer none)]⟩ w k :=
  calls_of_WP Tryz.func94 (c := c94n) (by kernel_rfl) (by kernel_rfl) (Nat.le_of_ble_eq_true (by kernel_rfl)) (WP_of_den (an := .nil) (by kernel_rfl) (Eq.mp (by kernel_rfl) h))

/- moraine/eqtab.told -/
noncomputable def c172n : Code := bodyOf Tryz.f172
def R172n (k : Value → World → Prop) : Env → World → Prop := retK Tryz.prog [.tmp 6, .tmp 7] [] k
def D172n_0 (k : Value → World → Prop) (w : World) : Prop := WP Tryz.prog 49 (seqR (seqR (seqR (seqR c172n)))) (R172n k) noX (R172n k) [] w
def F172n (x1 : Int) (f2k : FuncId) (f2x f2y : Array Value) (k : Value → World → Prop) (w : World) : Prop :=
 al w ⟨[(.pointer none)]⟩ 27 fun b_1 w_2 => al w_2 ⟨[(.func (.func f2k) f2x f2y)]⟩ 86 fun b_3 w_4 => ∃ (p_5 : Option Addr), World.cell? w_4 ⟨b_1, 0, none⟩ = some (.pointer p_5) ∧ CALL Tryz.prog 160 ⟨[(.pointer p_5), (.int .u64 x1)]⟩ w_4 fun v_6 w_7 => ∃ (p_8 : Option Addr) (x_9 : Int) (x_10 : Int), v_6 = (.tuple ⟨[(.agg ⟨[(.pointer p_8), (.int .u64 x_9)]⟩), (.int .i64 x_10)]⟩) ∧ al w_7 ⟨[(.pointer none), (.int .u64 0)]⟩ 244 fun b_11 w_12 => stN w_12 ⟨b_11, 0, none⟩ [(.pointer p_8), (.int .u64 x_9)] fun w_13 => bc ((x_10 : Int) != 0)
 (k (.tuple ⟨[(.slice none 0 0), (.int .i64 x_10)]⟩) w_13)
 (al w_13 ⟨[(.slice none 0 0)]⟩ 32 fun b_14 w_15 => D172n_0 k w_15)
theorem C172n (x1 : Int) (f2k : FuncId) (f2x f2y : Array Value) (k : Value → World → Prop) (w : World) (h : F172n x1 f2k f2x f2y k w) : CALL Tryz.prog 172 ⟨[(.pointer none), (.int .u64 x1), (.func (.func f2k) f2x f2y)]⟩ w k :=
  calls_of_WP Tryz.func172 (c := c172n) (by kernel_rfl) (by kernel_rfl) (Nat.le_of_ble_eq_true (by kernel_rfl)) (WP_of_den (an := (.two .nil (.two .nil (.two .nil (.cut [] .nil .nil))))) (by kernel_rfl) (Eq.mp (by kernel_rfl) h))

/- moraine/eqtab.open -/
noncomputable def c160 : Code := bodyOf Tryz.f160
def R160 (k : Value → World → Prop) : Env → World → Prop := retK Tryz.prog [.cell 4 244, .tmp 5] [] k
def F160 (p0 : Addr) (x1 : Int) (k : Value → World → Prop) (w : World) : Prop :=
 al w ⟨[(.pointer none), (.int .u64 0)]⟩ 244 fun b_1 w_2 => CALL Tryz.prog 63 ⟨[(.pointer (some p0)), (.int .u64 x1)]⟩ w_2 fun v_3 w_4 => ∃ (x_5 : Int), v_3 = (.int .i64 x_5) ∧ bc ((x_5 : Int) != 11) (stN w_4 ⟨b_1, 0, none⟩ [(.pointer none), (.int .u64 0)] fun w_6 => ∃ (p_7 : Option Addr) (x_8 : Int), Rd w_6 ⟨b_1, 0, none⟩ 0 [(.pointer p_7), (.int .u64 x_8)] ∧ k (.tuple ⟨[(.agg ⟨[(.pointer p_7), (.int .u64 x_8)]⟩), (.int .i64 3)]⟩) w_6) (CALL Tryz.prog 112 ⟨[(.pointer (some p0)), (.int .u64 x1)]⟩ w_4 fun v_9 w_10 => ∃ (x_11 : Int), v_9 = (.int .i64 x_11) ∧ bc ((x_11 : Int) != 4)
 (stN w_10 ⟨b_1, 0, none⟩ [(.pointer none), (.int .u64 0)] fun w_12 => ∃ (p_13 : Option Addr) (x_14 : Int), Rd w_12 ⟨b_1, 0, none⟩ 0 [(.pointer p_13), (.int .u64 x_14)] ∧ k (.tuple ⟨[(.agg ⟨[(.pointer p_13), (.int .u64 x_14)]⟩), (.int .i64 3)]⟩) w_12)
 (stN w_10 ⟨b_1, 0, none⟩ [(.pointer (some p0)), (.int .u64 x1)] fun w_15 => ∃ (p_16 : Option Addr) (x_17 : Int), Rd w_15 ⟨b_1, 0, none⟩ 0 [(.pointer p_16), (.int .u64 x_17)] ∧ k (.tuple ⟨[(.agg ⟨[(.pointer p_16), (.int .u64 x_17)]⟩), (.int .i64 0)]⟩) w_15))
theorem C160 (p0 : Addr) (x1 : Int) (k : Value → World → Prop) (w : World) (h : F160 p0 x1 k w) : CALL Tryz.prog 160 ⟨[(.pointer (some p0)), (.int .u64 x1)]⟩ w k :=
  calls_of_WP Tryz.func160 (c := c160) (by kernel_rfl) (by kernel_rfl) (Nat.le_of_ble_eq_true (by kernel_rfl)) (WP_of_den (an := .nil) (by kernel_rfl) (Eq.mp (by kernel_rfl) h))

/- moraine/eqtab.open -/
noncomputable def c160n : Code := bodyOf Tryz.f160
def R160n (k : Value → World → Prop) : Env → World → Prop := retK Tryz.prog [.cell 4 244, .tmp 5] [] k
def F160n (x1 : Int) (k : Value → World → Prop) (w : World) : Prop :=
 al w ⟨[(.pointer none), (.int .u64 0)]⟩ 244 fun b_1 w_2 => stN w_2 ⟨b_1, 0, none⟩ [(.pointer none), (.int .u64 0)] fun w_3 => ∃ (p_4 : Option Addr) (x_5 : Int), Rd w_3 ⟨b_1, 0, none⟩ 0 [(.pointer p_4), (.int .u64 x_5)] ∧ k (.tuple ⟨[(.agg ⟨[(.pointer p_4), (.int .u64 x_5)]⟩), (.int .i64 3)]⟩) w_3
theorem C160n (x1 : Int) (k : Value → World → Prop) (w : World) (h : F160n x1 k w) : CALL Tryz.prog 160 ⟨[(.pointer none), (.int .u64 x1)]⟩ w k :=
  calls_of_WP Tryz.func160 (c := c160n) (by kernel_rfl) (by kernel_rfl) (Nat.le_of_ble_eq_true (by kernel_rfl)) (WP_of_den (an := .nil) (by kernel_rfl) (Eq.mp (by kernel_rfl) h))

/- (*moraine/obj.Heap).Type -/
noncomputable def c63 : Code := bodyOf Tryz.f63
def R63 (k : Value → World → Prop) : Env → World → Prop := retK Tryz.prog [.tmp 4] [] k
def F63 (p0 : Addr) (x1 : Int) (k : Value → World → Prop) (w : World) : Prop :=
 CALL Tryz.prog 142 ⟨[(.pointer (some p0)), (.int .u64 x1)]⟩ w fun v_1 w_2 => ∃ (x_3 : Int) (x_4 : Int) (x_5 : Int) (x_6 : Int) (b_7 : Bool), v_1 = (.tuple ⟨[(.int .i64 x_3), (.int .i64 x_4), (.int .i64 x_5), (.int .u64 x_6), (.bool b_7)]⟩) ∧ k (.int .i64 x_4) w_2
theorem C63 (p0 : Addr) (x1 : Int) (k : Value → World → Prop) (w : World) (h : F63 p0 x1 k w) : CALL Tryz.prog 63 ⟨[(.pointer (some p0)), (.int .u64 x1)]⟩ w k :=
  calls_of_WP Tryz.func63 (c := c63) (by kernel_rfl) (by kernel_rfl) (Nat.le_of_ble_eq_true (by kernel_rfl)) (WP_of_den (an := .nil) (by kernel_rfl) (Eq.mp (by kernel_rfl) h))

/- (*moraine/obj.Heap).Len -/
noncomputable def c112 : Code := bodyOf Tryz.f112
def R112 (k : Value → World → Prop) : Env → World → Prop := retK Tryz.prog [.tmp 4] [] k
def F112 (p0 : Addr) (x1 : Int) (k : Value → World → Prop) (w : World) : Prop :=
 CALL Tryz.prog 142 ⟨[(.pointer (some p0)), (.int .u64 x1)]⟩ w fun v_1 w_2 => ∃ (x_3 : Int) (x_4 : Int) (x_5 : Int) (x_6 : Int) (b_7 : Bool), v_1 = (.tuple ⟨[(.int .i64 x_3), (.int .i64 x_4), (.int .i64 x_5), (.int .u64 x_6), (.bool b_7)]⟩) ∧ k (.int .i64 x_5) w_2
theorem C112 (p0 : Addr) (x1 : Int) (k : Value → World → Prop) (w : World) (h : F112 p0 x1 k w) : CALL Tryz.prog 112 ⟨[(.pointer (some p0)), (.int .u64 x1)]⟩ w k :=
  calls_of_WP Tryz.func112 (c := c112) (by kernel_rfl) (by kernel_rfl) (Nat.le_of_ble_eq_true (by kernel_rfl)) (WP_of_den (an := .nil) (by kernel_rfl) (Eq.mp (by kernel_rfl) h))

/- (*moraine/obj.Heap).object -/
noncomputable def c142 : Code := bodyOf Tryz.f142
def R142 (k : Value → World → Prop) : Env → World → Prop := retK Tryz.prog [.tmp 4, .tmp 5, .tmp 6, .tmp 7, .tmp 8] [] k
def ok142_0 (e : Env) : Bool := isA (get e 0) && (isI .u64 (get e 1) && (isAgK [.int .i64, .int .i64] (get e 15) && (isI .i64 (get e 16))))
def un142_0 (e : Env) : Addr × Int × Int × Int × Int := (vA (get e 0), vI (get e 1), vI (nthV (vAgL (get e 15)) 0), vI (nthV (vAgL (get e 15)) 1), vI (get e 16))
def bk142_0 (B : (Addr × Int × Int × Int × Int) → World → Prop) : Env → World → Prop := fun e w => bif ok142_0 e then B (un142_0 e) w else False
def L142_0 (k : Value → World → Prop) (p0 : Addr) (x1 : Int) (x15_0 : Int) (x15_1 : Int) (x16 : Int) (w : World) : Prop := WP Tryz.prog 87 (blkC (seqR (seqL (seqR c142)))) (den Tryz.prog 87 (seqR (seqR c142)) .nil (R142 k) noX (R142 k)) (inBlk 0 (den Tryz.prog 87 (seqR (seqR c142)) .nil (R142 k) noX (R142 k)) noX) (R142 k) [(0, (.pointer (some p0))), (1, (.int .u64 x1)), (15, (.agg ⟨[(.int .i64 x15_0), (.int .i64 x15_1)]⟩)), (16, (.int .i64 x16))] w
def FL142_0 (B0 : (Addr × Int × Int × Int × Int) → World → Prop) (k : Value → World → Prop) (p0 : Addr) (x1 : Int) (x15_0 : Int) (x15_1 : Int) (x16 : Int) (w : World) : Prop :=
 bc (decide ((x16 : Int) < 2))
 ((0 ≤ x16 ∧ x16 < 2) ∧ ∃ (x_1 : Int), ([(.int .i64 x15_0), (.int .i64 x15_1)] : List Value)[(x16 : Int).toNat]? = some (.int .i64 x_1) ∧ CALL Tryz.prog 204 ⟨[(.pointer (some p0)), (.int .u64 x1), (.int .i64 3), (.int .i64 x_1)]⟩ w fun v_2 w_3 => ∃ (x_4 : Int) (b_5 : Bool), v_2 = (.tuple ⟨[(.int .i64 x_4), (.bool b_5)]⟩) ∧ bc (!b_5)
 (B0 (p0, x1, x15_0, x15_1, (IntKind.wrap .i64 (x16 + 1))) w_3)
 (∃ (p_6 : Option Addr), World.cell? w_3 p0 = some (.pointer p_6) ∧ optP p_6 fun q_7 => ∃ (p_8 : Option Addr), World.cell? w_3 q_7 = some (.pointer p_8) ∧ optP p_8 fun q_9 => ∃ (p_10 : Option Addr), World.cell? w_3 q_9 = some (.pointer p_10) ∧ CALL Tryz.prog 42 ⟨[(.pointer p_10), (.int .i64 x_4)]⟩ w_3 fun v_11 w_12 => ∃ (x_13 : Int) (x_14 : Int), v_11 = (.tuple ⟨[(.int .u64 x_13), (.int .i64 x_14)]⟩) ∧ CALL Tryz.prog 205 ⟨[(.int .u64 x_13)]⟩ w_12 fun v_15 w_16 => ∃ (x_17 : Int) (x_18 : Int) (x_19 : Int) (b_20 : Bool), v_15 = (.tuple ⟨[(.int .i64 x_17), (.int .i64 x_18), (.int .u64 x_19), (.bool b_20)]⟩) ∧ ∃ (p_21 : Option Addr), World.cell? w_16 p0 = some (.pointer p_21) ∧ optP p_21 fun q_22 => ∃ (p_23 : Option Addr), World.cell? w_16 q_22 = some (.pointer p_23) ∧ optP p_23 fun q_24 => ∃ (p_25 : Option Addr), World.cell? w_16 q_24 = some (.pointer p_25) ∧ CALL Tryz.prog 76 ⟨[(.pointer p_25), (.int .i64 (IntKind.wrap .i64 (Int.tdiv x_4 64)))]⟩ w_16 fun v_26 w_27 => ∃ (x_28 : Int) (x_29 : Int) (x_30 : Int) (x_31 : Int) (x_32 : Int) (x_33 : Int) (x_34 : Int) (b_35 : Bool), v_26 = (.tuple ⟨[(.agg ⟨[(.int .i64 x_28), (.int .i64 x_29), (.int .i64 x_30), (.int .i64 x_31), (.int .i64 x_32), (.int .i64 x_33), (.int .i64 x_34)]⟩), (.bool b_35)]⟩) ∧ al w_27 ⟨[(.int .i64 0), (.int .i64 0), (.int .i64 0), (.int .i64 0), (.int .i64 0), (.int .i64 0), (.int .i64 0)]⟩ 127 fun b_36 w_37 => stN w_37 ⟨b_36, 0, none⟩ [(.int .i64 x_28), (.int .i64 x_29), (.int .i64 x_30), (.int .i64 x_31), (.int .i64 x_32), (.int .i64 x_33), (.int .i64 x_34)] fun w_38 => bc b_20 (CALL Tryz.prog 135 ⟨[(.int .i64 x_17)]⟩ w_38 fun v_39 w_40 => ∃ (x_41 : Int), v_39 = (.int .i64 x_41) ∧ bc ((x_41 : Int) == x_1) (∃ (x_42 : Int), World.cell? w_40 ⟨b_36, 2, none⟩ = some (.int .i64 x_42) ∧ bc (decide (((IntKind.wrap .i64 ((Int.tmod x_4 64) + x_18)) : Int) < x_42))
 (k (.tuple ⟨[(.int .i64 x_4), (.int .i64 x_17), (.int .i64 x_18), (.int .u64 x_19), (.bool true)]⟩) w_40)
 (B0 (p0, x1, x15_0, x15_1, (IntKind.wrap .i64 (x16 + 1))) w_40)) (B0 (p0, x1, x15_0, x15_1, (IntKind.wrap .i64 (x16 + 1))) w_40)) (B0 (p0, x1, x15_0, x15_1, (IntKind.wrap .i64 (x16 + 1))) w_38)))
 (k (.tuple ⟨[(.int .i64 0), (.int .i64 0), (.int .i64 0), (.int .u64 0), (.bool false)]⟩) w)
theorem L142_0_body (B0 : (Addr × Int × Int × Int × Int) → World → Prop) (k : Value → World → Prop) (p0 : Addr) (x1 : Int) (x15_0 : Int) (x15_1 : Int) (x16 : Int) (w : World) (h : FL142_0 B0 k p0 x1 x15_0 x15_1 x16 w) : WP Tryz.prog 87 (loopC (blkC (seqR (seqL (seqR c142))))) (bk142_0 B0) (inBlk 0 (den Tryz.prog 87 (seqR (seqR c142)) .nil (R142 k) noX (R142 k)) noX) (R142 k) [(0, (.pointer (some p0))), (1, (.int .u64 x1)), (15, (.agg ⟨[(.int .i64 x15_0), (.int .i64 x15_1)]⟩)), (16, (.int .i64 x16))] w :=
  WP_of_den (an := .nil) (by kernel_rfl) (Eq.mp (by kernel_rfl) h)
theorem L142_0_rule (k : Value → World → Prop) (I : Nat → (Addr × Int × Int × Int × Int) → World → Prop) (round : ∀ (n : Nat) (p0 : Addr) (x1 : Int) (x15_0 : Int) (x15_1 : Int) (x16 : Int) (w : World), I n (p0, x1, x15_0, x15_1, x16) w → FL142_0 (fun x w => ∃ n', n' < n ∧ I n' x w) k p0 x1 x15_0 x15_1 x16 w) (n : Nat) (p0 : Addr) (x1 : Int) (x15_0 : Int) (x15_1 : Int) (x16 : Int) (w : World) (h : I n (p0, x1, x15_0, x15_1, x16) w) : L142_0 k p0 x1 x15_0 x15_1 x16 w :=
  WP_loop (fun x : Addr × Int × Int × Int × Int => [(0, (.pointer (some x.1))), (1, (.int .u64 x.2.1)), (15, (.agg ⟨[(.int .i64 x.2.2.1), (.int .i64 x.2.2.2.1)]⟩)), (16, (.int .i64 x.2.2.2.2))]) un142_0 ok142_0 (fun e h t => hun_cons (isA_eq (and_l h)) (hun_cons (isI_eq (and_l (and_r h))) (hun_cons (isAgK_eq (and_l (and_r (and_r h)))) (hun_cons (isI_eq (and_r (and_r (and_r h)))) (hun_nil t))))) I (fun n x w hi => L142_0_body _ k x.1 x.2.1 x.2.2.1 x.2.2.2.1 x.2.2.2.2 w (round n x.1 x.2.1 x.2.2.1 x.2.2.2.1 x.2.2.2.2 w hi)) n (p0, x1, x15_0, x15_1, x16) w h
def F142 (p0 : Addr) (x1 : Int) (k : Value → World → Prop) (w : World) : Prop :=
 L142_0 k p0 x1 (2 : Int) (3 : Int) (0 : Int) w
theorem C142 (p0 : Addr) (x1 : Int) (k : Value → World → Prop) (w : World) (h : F142 p0 x1 k w) : CALL Tryz.prog 142 ⟨[(.pointer (some p0)), (.int .u64 x1)]⟩ w k :=
  calls_of_WP Tryz.func142 (c := c142) (by kernel_rfl) (by kernel_rfl) (Nat.le_of_ble_eq_true (by kernel_rfl)) (WP_of_den (an := (.two .nil (.two (.two .nil (.one (.loop [0, 1, 15, 16]))) .nil))) (by kernel_rfl) (Eq.mp (by kernel_rfl) h))

/- (*moraine/obj.Heap).at -/
noncomputable def c204 : Code := bodyOf Tryz.f204
def R204 (k : Value → World → Prop) : Env → World → Prop := retK Tryz.prog [.tmp 8, .tmp 9] [] k
def F204 (p0 : Addr) (x1 : Int) (x2 : Int) (x3 : Int) (k : Value → World → Prop) (w : World) : Prop :=
 CALL Tryz.prog 107 ⟨[(.int .u64 x1)]⟩ w fun v_1 w_2 => ∃ (x_3 : Int) (b_4 : Bool), v_1 = (.tuple ⟨[(.int .i64 x_3), (.bool b_4)]⟩) ∧ CALL Tryz.prog 144 ⟨[(.pointer (some p0))]⟩ w_2 fun v_5 w_6 => ∃ (b_7 : Bool), v_5 = (.bool b_7) ∧ bc b_7 (k (.tuple ⟨[(.int .i64 0), (.bool false)]⟩) w_6) (bc (!b_4) (k (.tuple ⟨[(.int .i64 0), (.bool false)]⟩) w_6) (CALL Tryz.prog 109 ⟨[(.int .u64 x1)]⟩ w_6 fun v_8 w_9 => ∃ (x_10 : Int), v_8 = (.int .i64 x_10) ∧ bc ((x_10 : Int) != x2)
 (k (.tuple ⟨[(.int .i64 0), (.bool false)]⟩) w_9)
 (∃ (p_11 : Option Addr), World.cell? w_9 p0 = some (.pointer p_11) ∧ optP p_11 fun q_12 => ∃ (p_13 : Option Addr), World.cell? w_9 q_12 = some (.pointer p_13) ∧ optP p_13 fun q_14 => ∃ (p_15 : Option Addr), World.cell? w_9 q_14 = some (.pointer p_15) ∧ CALL Tryz.prog 76 ⟨[(.pointer p_15), (.int .i64 (IntKind.wrap .i64 (Int.tdiv x_3 64)))]⟩ w_9 fun v_16 w_17 => ∃ (x_18 : Int) (x_19 : Int) (x_20 : Int) (x_21 : Int) (x_22 : Int) (x_23 : Int) (x_24 : Int) (b_25 : Bool), v_16 = (.tuple ⟨[(.agg ⟨[(.int .i64 x_18), (.int .i64 x_19), (.int .i64 x_20), (.int .i64 x_21), (.int .i64 x_22), (.int .i64 x_23), (.int .i64 x_24)]⟩), (.bool b_25)]⟩) ∧ al w_17 ⟨[(.int .i64 0), (.int .i64 0), (.int .i64 0), (.int .i64 0), (.int .i64 0), (.int .i64 0), (.int .i64 0)]⟩ 127 fun b_26 w_27 => stN w_27 ⟨b_26, 0, none⟩ [(.int .i64 x_18), (.int .i64 x_19), (.int .i64 x_20), (.int .i64 x_21), (.int .i64 x_22), (.int .i64 x_23), (.int .i64 x_24)] fun w_28 => ∀ w_29, w_29 = World.drew w_28 → bc b_25 (∃ (x_30 : Int), World.cell? w_29 ⟨b_26, 1, none⟩ = some (.int .i64 x_30) ∧ bc ((x_30 : Int) == x3) (∃ (x_31 : Int), World.cell? w_29 ⟨b_26, 2, none⟩ = some (.int .i64 x_31) ∧ k (.tuple ⟨[(.int .i64 x_3), (.bool (decide (((Int.tmod x_3 64) : Int) < x_31)))]⟩) w_29) (k (.tuple ⟨[(.int .i64 x_3), (.bool false)]⟩) w_29)) (k (.tuple ⟨[(.int .i64 x_3), (.bool false)]⟩) w_29))))
theorem C204 (p0 : Addr) (x1 : Int) (x2 : Int) (x3 : Int) (k : Value → World → Prop) (w : World) (h : F204 p0 x1 x2 x3 k w) : CALL Tryz.prog 204 ⟨[(.pointer (some p0)), (.int .u64 x1), (.int .i64 x2), (.int .i64 x3)]⟩ w k :=
  calls_of_WP Tryz.func204 (c := c204) (by kernel_rfl) (by kernel_rfl) (Nat.le_of_ble_eq_true (by kernel_rfl)) (WP_of_den (an := (.two .nil (.two .nil (.two .nil (.two .nil (.two (.plan [(0, 0), (0, 1), (0, 2), (0, 3), (0, 4), (0, 5), (0, 6), (0, 7), (0, 8), (0, 9), (0, 10), (0, 11), (0, 12), (0, 13), (0, 14), (0, 15), (0, 16)]) .nil)))))) (by kernel_rfl) (Eq.mp (by kernel_rfl) h))

/- (*moraine/seg.Mem).Seg -/
noncomputable def c76 : Code := bodyOf Tryz.f76
def R76 (k : Value → World → Prop) : Env → World → Prop := retK Tryz.prog [.cell 4 127, .tmp 5] [] k
def F76 (p0 : Addr) (x1 : Int) (k : Value → World → Prop) (w : World) : Prop :=
 al w ⟨[(.int .i64 0), (.int .i64 0), (.int .i64 0), (.int .i64 0), (.int .i64 0), (.int .i64 0), (.int .i64 0)]⟩ 127 fun b_1 w_2 => CALL Tryz.prog 150 ⟨[(.pointer (some p0)), (.int .i64 x1)]⟩ w_2 fun v_3 w_4 => ∃ (p_5 : Option Addr), v_3 = (.pointer p_5) ∧ bc (p_5.isNone)
 (stN w_4 ⟨b_1, 0, none⟩ [(.int .i64 0), (.int .i64 0), (.int .i64 0), (.int .i64 0), (.int .i64 0), (.int .i64 0), (.int .i64 0)] fun w_6 => ∃ (x_7 : Int) (x_8 : Int) (x_9 : Int) (x_10 : Int) (x_11 : Int) (x_12 : Int) (x_13 : Int), Rd w_6 ⟨b_1, 0, none⟩ 0 [(.int .i64 x_7), (.int .i64 x_8), (.int .i64 x_9), (.int .i64 x_10), (.int .i64 x_11), (.int .i64 x_12), (.int .i64 x_13)] ∧ k (.tuple ⟨[(.agg ⟨[(.int .i64 x_7), (.int .i64 x_8), (.int .i64 x_9), (.int .i64 x_10), (.int .i64 x_11), (.int .i64 x_12), (.int .i64 x_13)]⟩), (.bool false)]⟩) w_6)
 (optP p_5 fun q_14 => ∃ (x_15 : Int) (x_16 : Int) (x_17 : Int) (x_18 : Int) (x_19 : Int) (x_20 : Int) (x_21 : Int), Rd w_4 q_14 0 [(.int .i64 x_15), (.int .i64 x_16), (.int .i64 x_17), (.int .i64 x_18), (.int .i64 x_19), (.int .i64 x_20), (.int .i64 x_21)] ∧ stN w_4 ⟨b_1, 0, none⟩ [(.int .i64 x_15), (.int .i64 x_16), (.int .i64 x_17), (.int .i64 x_18), (.int .i64 x_19), (.int .i64 x_20), (.int .i64 x_21)] fun w_22 => ∃ (x_23 : Int) (x_24 : Int) (x_25 : Int) (x_26 : Int) (x_27 : Int) (x_28 : Int) (x_29 : Int), Rd w_22 ⟨b_1, 0, none⟩ 0 [(.int .i64 x_23), (.int .i64 x_24), (.int .i64 x_25), (.int .i64 x_26), (.int .i64 x_27), (.int .i64 x_28), (.int .i64 x_29)] ∧ k (.tuple ⟨[(.agg ⟨[(.int .i64 x_23), (.int .i64 x_24), (.int .i64 x_25), (.int .i64 x_26), (.int .i64 x_27), (.int .i64 x_28), (.int .i64 x_29)]⟩), (.bool true)]⟩) w_22)
theorem C76 (p0 : Addr) (x1 : Int) (k : Value → World → Prop) (w : World) (h : F76 p0 x1 k w) : CALL Tryz.prog 76 ⟨[(.pointer (some p0)), (.int .i64 x1)]⟩ w k :=
  calls_of_WP Tryz.func76 (c := c76) (by kernel_rfl) (by kernel_rfl) (Nat.le_of_ble_eq_true (by kernel_rfl)) (WP_of_den (an := .nil) (by kernel_rfl) (Eq.mp (by kernel_rfl) h))

/- moraine/word.Addr -/
noncomputable def c107 : Code := bodyOf Tryz.f107
def R107 (k : Value → World → Prop) : Env → World → Prop := retK Tryz.prog [.tmp 2, .tmp 3] [] k
def F107 (x0 : Int) (k : Value → World → Prop) (w : World) : Prop :=
 CALL Tryz.prog 109 ⟨[(.int .u64 x0)]⟩ w fun v_1 w_2 => ∃ (x_3 : Int), v_1 = (.int .i64 x_3) ∧ CALL Tryz.prog 184 ⟨[(.int .i64 x_3)]⟩ w_2 fun v_4 w_5 => ∃ (b_6 : Bool), v_4 = (.bool b_6) ∧ bc (!b_6) (k (.tuple ⟨[(.int .i64 0), (.bool false)]⟩) w_5) (CALL Tryz.prog 185 ⟨[(.int .u64 x0)]⟩ w_5 fun v_7 w_8 => ∃ (b_9 : Bool), v_7 = (.bool b_9) ∧ bc (!b_9)
 (k (.tuple ⟨[(.int .i64 0), (.bool false)]⟩) w_8)
 (k (.tuple ⟨[(.int .i64 (IntKind.wrap .i64 (Int.fdiv x0 8))), (.bool true)]⟩) w_8))
theorem C107 (x0 : Int) (k : Value → World → Prop) (w : World) (h : F107 x0 k w) : CALL Tryz.prog 107 ⟨[(.int .u64 x0)]⟩ w k :=
  calls_of_WP Tryz.func107 (c := c107) (by kernel_rfl) (by kernel_rfl) (Nat.le_of_ble_eq_true (by kernel_rfl)) (WP_of_den (an := .nil) (by kernel_rfl) (Eq.mp (by kernel_rfl) h))

/- moraine/word.Tag -/
noncomputable def c109 : Code := bodyOf Tryz.f109
def R109 (k : Value → World → Prop) : Env → World → Prop := retK Tryz.prog [.tmp 2] [] k
def F109 (x0 : Int) (k : Value → World → Prop) (w : World) : Prop :=
 k (.int .i64 (IntKind.wrap .i64 (bAnd .u64 x0 7))) w
theorem C109 (x0 : Int) (k : Value → World → Prop) (w : World) (h : F109 x0 k w) : CALL Tryz.prog 109 ⟨[(.int .u64 x0)]⟩ w k :=
  calls_of_WP Tryz.func109 (c := c109) (by kernel_rfl) (by kernel_rfl) (Nat.le_of_ble_eq_true (by kernel_rfl)) (WP_of_den (an := .nil) (by kernel_rfl) (Eq.mp (by kernel_rfl) h))

/- (*moraine/obj.Heap).none -/
noncomputable def c144 : Code := bodyOf Tryz.f144
def R144 (k : Value → World → Prop) : Env → World → Prop := retK Tryz.prog [.tmp 2] [] k
def F144 (p0 : Addr) (k : Value → World → Prop) (w : World) : Prop :=
 ∃ (p_1 : Option Addr), World.cell? w p0 = some (.pointer p_1) ∧ k (.bool (p_1.isNone)) w
theorem C144 (p0 : Addr) (k : Value → World → Prop) (w : World) (h : F144 p0 k w) : CALL Tryz.prog 144 ⟨[(.pointer (some p0))]⟩ w k :=
  calls_of_WP Tryz.func144 (c := c144) (by kernel_rfl) (by kernel_rfl) (Nat.le_of_ble_eq_true (by kernel_rfl)) (WP_of_den (an := .nil) (by kernel_rfl) (Eq.mp (by kernel_rfl) h))

/- (*moraine/seg.Mem).at -/
noncomputable def c150 : Code := bodyOf Tryz.f150
def R150 (k : Value → World → Prop) : Env → World → Prop := retK Tryz.prog [.tmp 4] [] k
def F150 (p0 : Addr) (x1 : Int) (k : Value → World → Prop) (w : World) : Prop :=
 bc (decide ((x1 : Int) < 0)) (k (.pointer none) w) (∃ (l_1a : Option Addr) (l_1n l_1c : Nat), World.cell? w p0 = some (.slice l_1a l_1n l_1c) ∧ bc (decide ((x1 : Int) ≥ (l_1n : Int))) (k (.pointer none) w) (∃ (l_2a : Option Addr) (l_2n l_2c : Nat), World.cell? w p0 = some (.slice l_2a l_2n l_2c) ∧ optP l_2a fun q_3 => (0 ≤ x1 ∧ x1 < (l_2n : Int)) ∧ ∃ (x_4 : Int), World.cell? w (Addr.add (Addr.add q_3 (x1.toNat * 72)) 7) = some (.int .i64 x_4) ∧ bc ((x_4 : Int) == 0)
 (k (.pointer none) w)
 (∃ (l_5a : Option Addr) (l_5n l_5c : Nat), World.cell? w p0 = some (.slice l_5a l_5n l_5c) ∧ optP l_5a fun q_6 => (0 ≤ x1 ∧ x1 < (l_5n : Int)) ∧ k (.pointer (some (Addr.add q_6 (x1.toNat * 72)))) w)))
theorem C150 (p0 : Addr) (x1 : Int) (k : Value → World → Prop) (w : World) (h : F150 p0 x1 k w) : CALL Tryz.prog 150 ⟨[(.pointer (some p0)), (.int .i64 x1)]⟩ w k :=
  calls_of_WP Tryz.func150 (c := c150) (by kernel_rfl) (by kernel_rfl) (Nat.le_of_ble_eq_true (by kernel_rfl)) (WP_of_den (an := .nil) (by kernel_rfl) (Eq.mp (by kernel_rfl) h))

/- moraine/word.place -/
noncomputable def c184 : Code := bodyOf Tryz.f184
def R184 (k : Value → World → Prop) : Env → World → Prop := retK Tryz.prog [.tmp 2] [] k
def F184 (x0 : Int) (k : Value → World → Prop) (w : World) : Prop :=
 bc (decide ((x0 : Int) ≥ 1)) (bc (decide ((x0 : Int) ≤ 3)) (k (.bool true) w) (k (.bool ((x0 : Int) == 6)) w)) (k (.bool ((x0 : Int) == 6)) w)
theorem C184 (x0 : Int) (k : Value → World → Prop) (w : World) (h : F184 x0 k w) : CALL Tryz.prog 184 ⟨[(.int .i64 x0)]⟩ w k :=
  calls_of_WP Tryz.func184 (c := c184) (by kernel_rfl) (by kernel_rfl) (Nat.le_of_ble_eq_true (by kernel_rfl)) (WP_of_den (an := .nil) (by kernel_rfl) (Eq.mp (by kernel_rfl) h))

/- moraine/word.May -/
noncomputable def c185 : Code := bodyOf Tryz.f185
def R185 (k : Value → World → Prop) : Env → World → Prop := retK Tryz.prog [.tmp 2] [] k
def F185 (x0 : Int) (k : Value → World → Prop) (w : World) : Prop :=
 CALL Tryz.prog 222 ⟨[(.int .u64 x0)]⟩ w fun v_1 w_2 => ∃ (x_3 : Int) (x_4 : Int) (x_5 : Int), v_1 = (.tuple ⟨[(.int .i64 x_3), (.int .i64 x_4), (.int .u64 x_5)]⟩) ∧ CALL Tryz.prog 109 ⟨[(.int .u64 x0)]⟩ w_2 fun v_6 w_7 => ∃ (x_8 : Int), v_6 = (.int .i64 x_8) ∧ bc ((x_8 : Int) == 0)
 (k (.bool true) w_7)
 (bc ((x_8 : Int) == 1)
 (k (.bool (decide (((Int.fdiv x0 8) : Int) < 65536))) w_7)
 (bc ((x_8 : Int) == 2)
 (k (.bool (decide (((Int.fdiv x0 8) : Int) < 65536))) w_7)
 (bc ((x_8 : Int) == 3)
 (k (.bool (decide (((Int.fdiv x0 8) : Int) < 65536))) w_7)
 (bc ((x_8 : Int) == 6)
 (k (.bool (decide (((Int.fdiv x0 8) : Int) < 65536))) w_7)
 (bc ((x_8 : Int) == 4)
 (bc ((x_3 : Int) == 7)
 (CALL Tryz.prog 223 ⟨[(.int .u64 (Int.fdiv x0 256))]⟩ w_7 fun v_9 w_10 => ∃ (b_11 : Bool), v_9 = (.bool b_11) ∧ k (.bool b_11) w_10)
 (k (.bool (decide (((Int.fdiv x0 8) : Int) ≤ 6))) w_7))
 (bc ((x_8 : Int) == 5)
 (bc (decide ((x_3 : Int) ≥ 1)) (bc (decide ((x_3 : Int) ≤ 13)) (k (.bool (decide ((x_4 : Int) ≤ 62))) w_7) (k (.bool false) w_7)) (k (.bool false) w_7))
 (k (.bool false) w_7)))))))
theorem C185 (x0 : Int) (k : Value → World → Prop) (w : World) (h : F185 x0 k w) : CALL Tryz.prog 185 ⟨[(.int .u64 x0)]⟩ w k :=
  calls_of_WP Tryz.func185 (c := c185) (by kernel_rfl) (by kernel_rfl) (Nat.le_of_ble_eq_true (by kernel_rfl)) (WP_of_den (an := .nil) (by kernel_rfl) (Eq.mp (by kernel_rfl) h))

/- moraine/word.parts -/
noncomputable def c222 : Code := bodyOf Tryz.f222
def R222 (k : Value → World → Prop) : Env → World → Prop := retK Tryz.prog [.tmp 2, .tmp 3, .tmp 4] [] k
def F222 (x0 : Int) (k : Value → World → Prop) (w : World) : Prop :=
 al w ⟨[(.int .u64 x0)]⟩ 39 fun b_1 w_2 => CALL Tryz.prog 240 ⟨[(.int .i64 3), (.int .i64 5), (.pointer (some ⟨b_1, 0, none⟩))]⟩ w_2 fun v_3 w_4 => ∃ (x_5 : Int), v_3 = (.int .u64 x_5) ∧ CALL Tryz.prog 240 ⟨[(.int .i64 8), (.int .i64 8), (.pointer (some ⟨b_1, 0, none⟩))]⟩ w_4 fun v_6 w_7 => ∃ (x_8 : Int), v_6 = (.int .u64 x_8) ∧ CALL Tryz.prog 240 ⟨[(.int .i64 16), (.int .i64 48), (.pointer (some ⟨b_1, 0, none⟩))]⟩ w_7 fun v_9 w_10 => ∃ (x_11 : Int), v_9 = (.int .u64 x_11) ∧ k (.tuple ⟨[(.int .i64 (IntKind.wrap .i64 x_5)), (.int .i64 (IntKind.wrap .i64 x_8)), (.int .u64 x_11)]⟩) w_10
theorem C222 (x0 : Int) (k : Value → World → Prop) (w : World) (h : F222 x0 k w) : CALL Tryz.prog 222 ⟨[(.int .u64 x0)]⟩ w k :=
  calls_of_WP Tryz.func222 (c := c222) (by kernel_rfl) (by kernel_rfl) (Nat.le_of_ble_eq_true (by kernel_rfl)) (WP_of_den (an := .nil) (by kernel_rfl) (Eq.mp (by kernel_rfl) h))

/- moraine/word.letter -/
noncomputable def c223 : Code := bodyOf Tryz.f223
def R223 (k : Value → World → Prop) : Env → World → Prop := retK Tryz.prog [.tmp 2] [] k
def F223 (x0 : Int) (k : Value → World → Prop) (w : World) : Prop :=
 bc (decide ((x0 : Int) ≤ 1114111)) (bc (decide ((x0 : Int) < 55296)) (k (.bool true) w) (k (.bool (decide ((x0 : Int) > 57343))) w)) (k (.bool false) w)
theorem C223 (x0 : Int) (k : Value → World → Prop) (w : World) (h : F223 x0 k w) : CALL Tryz.prog 223 ⟨[(.int .u64 x0)]⟩ w k :=
  calls_of_WP Tryz.func223 (c := c223) (by kernel_rfl) (by kernel_rfl) (Nat.le_of_ble_eq_true (by kernel_rfl)) (WP_of_den (an := .nil) (by kernel_rfl) (Eq.mp (by kernel_rfl) h))

/- moraine/word.parts$1 -/
noncomputable def c240 : Code := bodyOf Tryz.f240
def R240 (k : Value → World → Prop) : Env → World → Prop := retK Tryz.prog [.tmp 5] [] k
def F240 (x0 : Int) (x1 : Int) (p2 : Addr) (k : Value → World → Prop) (w : World) : Prop :=
 ∀ w_1, w_1 = World.drew w → ∃ (x_2 : Int), World.cell? w_1 p2 = some (.int .u64 x_2) ∧ 0 ≤ x0 ∧ 0 ≤ x1 ∧ k (.int .u64 (bAnd .u64 (Int.fdiv x_2 (2 ^ (min (x0 : Int).toNat 64))) (IntKind.wrap .u64 ((IntKind.wrap .u64 (1 * (2 ^ (min (x1 : Int).toNat 64)))) - 1)))) w_1
theorem C240 (x0 : Int) (x1 : Int) (p2 : Addr) (k : Value → World → Prop) (w : World) (h : F240 x0 x1 p2 k w) : CALL Tryz.prog 240 ⟨[(.int .i64 x0), (.int .i64 x1), (.pointer (some p2))]⟩ w k :=
  calls_of_WP Tryz.func240 (c := c240) (by kernel_rfl) (by kernel_rfl) (Nat.le_of_ble_eq_true (by kernel_rfl)) (WP_of_den (an := (.two .nil (.two (.plan [(0, 0), (0, 1), (0, 2), (0, 3), (0, 4), (0, 5), (0, 6), (0, 7)]) .nil))) (by kernel_rfl) (Eq.mp (by kernel_rfl) h))

/- moraine/morainelaw15.awake -/
noncomputable def c81 : Code := bodyOf Tryz.f81
def R81 (k : Value → World → Prop) : Env → World → Prop := retK Tryz.prog [.tmp 0] [] k
def F81 (k : Value → World → Prop) (w : World) : Prop :=
 CALL Tryz.prog 82 ⟨[]⟩ w fun v_1 w_2 => ∃ (p_3 : Option Addr), v_1 = (.pointer p_3) ∧ bc (!p_3.isNone) (CALL Tryz.prog 83 ⟨[(.pointer p_3), (.agg ⟨[(.int .i64 0), (.int .i64 0), (.int .i64 1), (.int .i64 0), (.bool false)]⟩)]⟩ w_2 fun v_4 w_5 => ∃ (b_6 : Bool), v_4 = (.bool b_6) ∧ bc b_6 (CALL Tryz.prog 83 ⟨[(.pointer p_3), (.agg ⟨[(.int .i64 0), (.int .i64 1), (.int .i64 2), (.int .i64 0), (.bool false)]⟩)]⟩ w_5 fun v_7 w_8 => ∃ (b_9 : Bool), v_7 = (.bool b_9) ∧ bc b_9 (CALL Tryz.prog 83 ⟨[(.pointer p_3), (.agg ⟨[(.int .i64 0), (.int .i64 0), (.int .i64 3), (.int .i64 0), (.bool false)]⟩)]⟩ w_8 fun v_10 w_11 => ∃ (b_12 : Bool), v_10 = (.bool b_12) ∧ bc b_12 (CALL Tryz.prog 84 ⟨[(.pointer p_3)]⟩ w_11 fun v_13 w_14 => ∃ (b_15 : Bool), v_13 = (.bool b_15) ∧ bc b_15 (optP p_3 fun q_16 => ∃ (p_17 : Option Addr), World.cell? w_14 (Addr.add q_16 42) = some (.pointer p_17) ∧ optP p_17 fun q_18 => ∃ (l_19a : Option Addr) (l_19n l_19c : Nat), World.cell? w_14 q_18 = some (.slice l_19a l_19n l_19c) ∧ k (.bool (((l_19n : Int) : Int) == 2)) w_14) (k (.bool false) w_14)) (k (.bool false) w_11)) (k (.bool false) w_8)) (k (.bool false) w_5)) (k (.bool false) w_2)
theorem C81 (k : Value → World → Prop) (w : World) (h : F81  k w) : CALL Tryz.prog 81 ⟨[]⟩ w k :=
  calls_of_WP Tryz.func81 (c := c81) (by kernel_rfl) (by kernel_rfl) (Nat.le_of_ble_eq_true (by kernel_rfl)) (WP_of_den (an := .nil) (by kernel_rfl) (Eq.mp (by kernel_rfl) h))

end Go.Den.S15
