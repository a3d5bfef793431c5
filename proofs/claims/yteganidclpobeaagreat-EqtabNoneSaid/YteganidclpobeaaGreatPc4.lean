/- Pc4: what awake 15 does with that heap. Own work; a part of the proof of a claim. Conditions: none beyond those that stand in each theorem. -/
import Derived.Test.YteganidclpobeaaGreatPc1
import Derived.Test.YteganidclpobeaaGreatPc2
import Derived.Test.YteganidclpobeaaGreatEvT1
import Derived.KernelRfl
/- Pc4: what awake 15 does with that heap. -/
set_option linter.unusedVariables false
set_option linter.unusedSimpArgs false
namespace Go.Den
open Go Go.Proofs
noncomputable def call15 (a b c : Int) : LV := .agg [.sc (.int .i64 a), .sc (.int .i64 b), .sc (.int .i64 c), .sc (.int .i64 0), .sc (.bool false)]
noncomputable def thenT (r : Option (LV × LHeap)) (f : LHeap → Bool) : Bool :=
  match r with
  | some (.sc (.bool true), H) => f H
  | _ => false
noncomputable def len2 (P : Program) (H : LHeap) : Bool :=
  match H.get P 6 42 with
  | some (.ptr b o) => (match H.get P b o with
    | some (.sl _ _ 2 _ _) => true
    | _ => false)
  | _ => false
noncomputable def rest15 : Bool :=
  thenT (runF Tryz.prog plansZ 3000 40 83 [.ptr 6 0, call15 0 0 1] Hb15) fun H2 =>
  thenT (runF Tryz.prog plansZ 3000 40 83 [.ptr 6 0, call15 0 1 2] H2) fun H3 =>
  thenT (runF Tryz.prog plansZ 3000 40 83 [.ptr 6 0, call15 0 0 3] H3) fun H4 =>
  thenT (runF Tryz.prog plansZ 3000 40 84 [.ptr 6 0] H4) fun H5 => len2 Tryz.prog H5
theorem rest15_true : rest15 = true := by kernel_rfl
end Go.Den
