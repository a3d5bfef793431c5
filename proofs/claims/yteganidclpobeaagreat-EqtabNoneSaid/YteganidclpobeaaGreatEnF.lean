/- The closed facts of EqtabNone's row, each a theorem of its own, and their join. Own work; a part of the proof of a claim. Conditions: none beyond those that stand in each theorem. -/
import Derived.Test.YteganidclpobeaaGreatRows
import Derived.JoinedOf
import Derived.JoinedAt
set_option linter.unusedVariables false
set_option maxRecDepth 100000
set_option linter.unusedSimpArgs false
namespace Go.Den.S15
theorem and_i {a b : Bool} (ha : a = true) (hb : b = true) : (a && b) = true := by rw [ha, hb]; rfl
end Go.Den.S15
namespace Go.Proofs.YteganidclpobeaaGreat.eqtabNone
theorem q0 : (fun (P : Program) (f : FuncId) (fn : Func) (s : ChangeSpec) (c : OpenClaim) => c.wf (OpenSpec.ofChange s)) Tryz.prog 19 Tryz.f19 Rows.eqtabNoneSpec Rows.eqtabNoneRow = true := by kernel_rfl
theorem q1 : (fun (P : Program) (f : FuncId) (fn : Func) (s : ChangeSpec) (c : OpenClaim) => laidOutB P) Tryz.prog 19 Tryz.f19 Rows.eqtabNoneSpec Rows.eqtabNoneRow = true := by kernel_rfl
theorem q2 : (fun (P : Program) (f : FuncId) (fn : Func) (s : ChangeSpec) (c : OpenClaim) => mapsRowed P) Tryz.prog 19 Tryz.f19 Rows.eqtabNoneSpec Rows.eqtabNoneRow = true := by kernel_rfl
theorem q3 : (fun (P : Program) (f : FuncId) (fn : Func) (s : ChangeSpec) (c : OpenClaim) => fn.params.all (P.readableRec ·)) Tryz.prog 19 Tryz.f19 Rows.eqtabNoneSpec Rows.eqtabNoneRow = true := by kernel_rfl
theorem q4 : (fun (P : Program) (f : FuncId) (fn : Func) (s : ChangeSpec) (c : OpenClaim) => namedTie P c.named s.vars) Tryz.prog 19 Tryz.f19 Rows.eqtabNoneSpec Rows.eqtabNoneRow = true := by kernel_rfl
theorem q5 : (fun (P : Program) (f : FuncId) (fn : Func) (s : ChangeSpec) (c : OpenClaim) => (c.stops == [])) Tryz.prog 19 Tryz.f19 Rows.eqtabNoneSpec Rows.eqtabNoneRow = true := by kernel_rfl
theorem q6 : (fun (P : Program) (f : FuncId) (fn : Func) (s : ChangeSpec) (c : OpenClaim) => (P.stops == [])) Tryz.prog 19 Tryz.f19 Rows.eqtabNoneSpec Rows.eqtabNoneRow = true := by kernel_rfl
theorem q7 : (fun (P : Program) (f : FuncId) (fn : Func) (s : ChangeSpec) (c : OpenClaim) => (c.knobs == [])) Tryz.prog 19 Tryz.f19 Rows.eqtabNoneSpec Rows.eqtabNoneRow = true := by kernel_rfl
theorem q8 : (fun (P : Program) (f : FuncId) (fn : Func) (s : ChangeSpec) (c : OpenClaim) => (P.stopKnobs == [])) Tryz.prog 19 Tryz.f19 Rows.eqtabNoneSpec Rows.eqtabNoneRow = true := by kernel_rfl
theorem q9 : (fun (P : Program) (f : FuncId) (fn : Func) (s : ChangeSpec) (c : OpenClaim) => (c.inPlace == P.inPlace f)) Tryz.prog 19 Tryz.f19 Rows.eqtabNoneSpec Rows.eqtabNoneRow = true := by kernel_rfl
theorem q10 : (fun (P : Program) (f : FuncId) (fn : Func) (s : ChangeSpec) (c : OpenClaim) => (c.unfollowed == P.unfollowed f)) Tryz.prog 19 Tryz.f19 Rows.eqtabNoneSpec Rows.eqtabNoneRow = true := by kernel_rfl
theorem q11 : (fun (P : Program) (f : FuncId) (fn : Func) (s : ChangeSpec) (c : OpenClaim) => (c.recurses == P.recurses f)) Tryz.prog 19 Tryz.f19 Rows.eqtabNoneSpec Rows.eqtabNoneRow = true := by kernel_rfl
theorem q12 : (fun (P : Program) (f : FuncId) (fn : Func) (s : ChangeSpec) (c : OpenClaim) => (c.named == P.varsNamed f)) Tryz.prog 19 Tryz.f19 Rows.eqtabNoneSpec Rows.eqtabNoneRow = true := by kernel_rfl
theorem q13 : (fun (P : Program) (f : FuncId) (fn : Func) (s : ChangeSpec) (c : OpenClaim) => (c.maps == (fn.params.toList ++ s.plain.varTypes P).any (P.mapsRec ·))) Tryz.prog 19 Tryz.f19 Rows.eqtabNoneSpec Rows.eqtabNoneRow = true := by kernel_rfl
theorem q14 : (fun (P : Program) (f : FuncId) (fn : Func) (s : ChangeSpec) (c : OpenClaim) => (c.ifaces == (fn.params.toList ++ s.plain.varTypes P).any (P.ifacesRec ·))) Tryz.prog 19 Tryz.f19 Rows.eqtabNoneSpec Rows.eqtabNoneRow = true := by kernel_rfl
theorem q15 : (fun (P : Program) (f : FuncId) (fn : Func) (s : ChangeSpec) (c : OpenClaim) => (c.mapsOut == P.mapsAmong fn.resultTypes.toList)) Tryz.prog 19 Tryz.f19 Rows.eqtabNoneSpec Rows.eqtabNoneRow = true := by kernel_rfl
theorem q16 : (fun (P : Program) (f : FuncId) (fn : Func) (s : ChangeSpec) (c : OpenClaim) => (c.loops == (fn.params.toList ++ s.plain.varTypes P).any (P.loopsFrom ·))) Tryz.prog 19 Tryz.f19 Rows.eqtabNoneSpec Rows.eqtabNoneRow = true := by kernel_rfl
theorem q17 : (fun (P : Program) (f : FuncId) (fn : Func) (s : ChangeSpec) (c : OpenClaim) => (c.wideKeys == (fn.params.toList ++ s.plain.varTypes P ++ fn.resultTypes.toList).any (P.wideKeysFrom ·))) Tryz.prog 19 Tryz.f19 Rows.eqtabNoneSpec Rows.eqtabNoneRow = true := by kernel_rfl
theorem q18 : (fun (P : Program) (f : FuncId) (fn : Func) (s : ChangeSpec) (c : OpenClaim) => s.vars.all (P.varReadable ·)) Tryz.prog 19 Tryz.f19 Rows.eqtabNoneSpec Rows.eqtabNoneRow = true := by kernel_rfl
theorem q19 : (fun (P : Program) (f : FuncId) (fn : Func) (s : ChangeSpec) (c : OpenClaim) => fn.resultTypes.all (fun t => P.readableRec t && decide (t < P.types.size))) Tryz.prog 19 Tryz.f19 Rows.eqtabNoneSpec Rows.eqtabNoneRow = true := by kernel_rfl
theorem q20 : (fun (P : Program) (f : FuncId) (fn : Func) (s : ChangeSpec) (c : OpenClaim) => (c.ifacesOut == fn.resultTypes.toList.any (P.ifacesRec ·))) Tryz.prog 19 Tryz.f19 Rows.eqtabNoneSpec Rows.eqtabNoneRow = true := by kernel_rfl
theorem q21 : (fun (P : Program) (f : FuncId) (fn : Func) (s : ChangeSpec) (c : OpenClaim) => (c.loopsOut == fn.resultTypes.toList.any (P.loopsFrom ·))) Tryz.prog 19 Tryz.f19 Rows.eqtabNoneSpec Rows.eqtabNoneRow = true := by kernel_rfl
theorem q22 : (fun (P : Program) (f : FuncId) (fn : Func) (s : ChangeSpec) (c : OpenClaim) => (c.plainKeys == P.plainKeys)) Tryz.prog 19 Tryz.f19 Rows.eqtabNoneSpec Rows.eqtabNoneRow = true := by kernel_rfl
theorem q23 : (fun (P : Program) (f : FuncId) (fn : Func) (s : ChangeSpec) (c : OpenClaim) => c.shortTexts.isNone) Tryz.prog 19 Tryz.f19 Rows.eqtabNoneSpec Rows.eqtabNoneRow = true := by kernel_rfl
theorem q24 : (fun (P : Program) (f : FuncId) (fn : Func) (s : ChangeSpec) (c : OpenClaim) => P.stopsHeard) Tryz.prog 19 Tryz.f19 Rows.eqtabNoneSpec Rows.eqtabNoneRow = true := by kernel_rfl
theorem q25 : (fun (P : Program) (f : FuncId) (fn : Func) (s : ChangeSpec) (c : OpenClaim) => P.mayEnter) Tryz.prog 19 Tryz.f19 Rows.eqtabNoneSpec Rows.eqtabNoneRow = true := by kernel_rfl
theorem q26 : (fun (P : Program) (f : FuncId) (fn : Func) (s : ChangeSpec) (c : OpenClaim) => (c.lifted == P.liftsFinal)) Tryz.prog 19 Tryz.f19 Rows.eqtabNoneSpec Rows.eqtabNoneRow = true := by kernel_rfl
theorem q27 : (fun (P : Program) (f : FuncId) (fn : Func) (s : ChangeSpec) (c : OpenClaim) => (P.make == some c.make)) Tryz.prog 19 Tryz.f19 Rows.eqtabNoneSpec Rows.eqtabNoneRow = true := by kernel_rfl
theorem q28 : (fun (P : Program) (f : FuncId) (fn : Func) (s : ChangeSpec) (c : OpenClaim) => (c.kinds == (if c.domain.isEmpty then [] else fn.params.toList.map fun t => match P.underlying t with | some (.int k) => some k | _ => none))) Tryz.prog 19 Tryz.f19 Rows.eqtabNoneSpec Rows.eqtabNoneRow = true := by kernel_rfl
theorem q29 : (fun (P : Program) (f : FuncId) (fn : Func) (s : ChangeSpec) (c : OpenClaim) => (c.pinned == c.pinnedBy)) Tryz.prog 19 Tryz.f19 Rows.eqtabNoneSpec Rows.eqtabNoneRow = true := by kernel_rfl
theorem q30 : (fun (P : Program) (f : FuncId) (fn : Func) (s : ChangeSpec) (c : OpenClaim) => (c.veiled == (fn.params.toList ++ s.plain.varTypes P ++ fn.resultTypes.toList).any (P.veiledRec ·))) Tryz.prog 19 Tryz.f19 Rows.eqtabNoneSpec Rows.eqtabNoneRow = true := by kernel_rfl
theorem q31 : (fun (P : Program) (f : FuncId) (fn : Func) (s : ChangeSpec) (c : OpenClaim) => c.veiledFits P fn.params.toList (fn.params.toList ++ s.plain.varTypes P ++ fn.resultTypes.toList)) Tryz.prog 19 Tryz.f19 Rows.eqtabNoneSpec Rows.eqtabNoneRow = true := by kernel_rfl
theorem closed : joinedFacts Tryz.prog 19 Tryz.f19 Rows.eqtabNoneSpec Rows.eqtabNoneRow = true := by
  unfold joinedFacts
  exact Go.Den.S15.and_i (Go.Den.S15.and_i (Go.Den.S15.and_i (Go.Den.S15.and_i (Go.Den.S15.and_i (Go.Den.S15.and_i (Go.Den.S15.and_i (Go.Den.S15.and_i (Go.Den.S15.and_i (Go.Den.S15.and_i (Go.Den.S15.and_i (Go.Den.S15.and_i (Go.Den.S15.and_i (Go.Den.S15.and_i (Go.Den.S15.and_i (Go.Den.S15.and_i (Go.Den.S15.and_i (Go.Den.S15.and_i (Go.Den.S15.and_i (Go.Den.S15.and_i (Go.Den.S15.and_i (Go.Den.S15.and_i (Go.Den.S15.and_i (Go.Den.S15.and_i (Go.Den.S15.and_i (Go.Den.S15.and_i (Go.Den.S15.and_i (Go.Den.S15.and_i (Go.Den.S15.and_i (Go.Den.S15.and_i (Go.Den.S15.and_i q0 q1) q2) q3) q4) q5) q6) q7) q8) q9) q10) q11) q12) q13) q14) q15) q16) q17) q18) q19) q20) q21) q22) q23) q24) q25) q26) q27) q28) q29) q30) q31
end Go.Proofs.YteganidclpobeaaGreat.eqtabNone
