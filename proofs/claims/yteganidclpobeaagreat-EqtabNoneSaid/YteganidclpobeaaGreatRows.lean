/-
  No cell of these rows narrows 'for every input' (looked for: loops, veiled, ifaces, maps, wideKeys, modest, calm, conditions, laid).
  DERIVED. THE GIVEN ROWS OF THIS SEAT. 19 by the template 'for every input the law returns true; each argument reads behind the call as it read before'; 0 by the template 'total and deterministic' (their statements: YteganidclpobeaaGreatTotals.lean).
  GIVEN WITH THE SEED: the statements are not yours to turn. If you find one false, say at which input.
  Laid BY PROGRAM, IN A SANDBOX (cutbox-rows.mjs): the forced cells as the released guide's own fill.sh prints them over the translation b55cb3e2655e24e0… (all of the seat's roots in one cut). By AI agents, Wed Nov 11 2026. No macro, syntax, notation, axiom, sorry.
-/
import Derived.Test.YteganidclpobeaaGreatChecked
import GoSem.Claim
import GoSem.ClaimJoined
import GoSem.ClaimMapViews
import Derived.JoinedTies
import Derived.KernelRfl
namespace Go.Proofs.YteganidclpobeaaGreat
/- THE CELL 'sum', in the pinned program and in every row, IS THE sha256 OF THE DUMP (.gsa) THAT YteganidclpobeaaGreatProg.lean LOADS. Nothing in Lean hashes anything: it is a label: what it is worth is what the hold of that sum in a sandbox is worth. -/
noncomputable def Tryz.pinned : Pinned := { name := "yteganidclpobeaagreat", sum := "b55cb3e2655e24e0492ac36bcdf6e596ee77be097a3196772f149d076ee4fdee", checked := Tryz.checked }
namespace Rows
def none {H : Type} : Left H := { results := [], args := [] }

/-- 'morainelaw14.AuditSame': WHATEVER THE INPUT: true; the input reads as it did. -/
def auditSameSpec : ChangeSpec := { name := "auditSame", fn := fun _ => fun
  | [d1, d2] => { results := [.lit (.bool true)], args := [d1, d2] }
  | _ => none }
def auditSameRow : OpenClaim := { program := "yteganidclpobeaagreat", sum := "b55cb3e2655e24e0492ac36bcdf6e596ee77be097a3196772f149d076ee4fdee", func := "moraine/morainelaw14.AuditSame", spec := "auditSame", unfollowed := true, recurses := true, apart := false }
def AuditSameSaid : Prop := auditSameRow.holds Tryz.pinned (OpenSpec.ofChange auditSameSpec)

/-- ITS FALSE NEIGHBOUR: 'it returns false'. Refute it at one input. -/
def auditSameWrong : ChangeSpec := { name := "auditSame", fn := fun _ => fun
  | [d1, d2] => { results := [.lit (.bool false)], args := [d1, d2] }
  | _ => none }
def AuditSameWrongFalsely : Prop := auditSameRow.holds Tryz.pinned (OpenSpec.ofChange auditSameWrong)

/-- 'morainelaw11.TraceShape': WHATEVER THE INPUT: true; the input reads as it did. -/
def traceShapeSpec : ChangeSpec := { name := "traceShape", fn := fun _ => fun
  | [d1, d2] => { results := [.lit (.bool true)], args := [d1, d2] }
  | _ => none }
def traceShapeRow : OpenClaim := { program := "yteganidclpobeaagreat", sum := "b55cb3e2655e24e0492ac36bcdf6e596ee77be097a3196772f149d076ee4fdee", func := "moraine/morainelaw11.TraceShape", spec := "traceShape", unfollowed := true, recurses := true, apart := false }
def TraceShapeSaid : Prop := traceShapeRow.holds Tryz.pinned (OpenSpec.ofChange traceShapeSpec)

/-- ITS FALSE NEIGHBOUR: 'it returns false'. Refute it at one input. -/
def traceShapeWrong : ChangeSpec := { name := "traceShape", fn := fun _ => fun
  | [d1, d2] => { results := [.lit (.bool false)], args := [d1, d2] }
  | _ => none }
def TraceShapeWrongFalsely : Prop := traceShapeRow.holds Tryz.pinned (OpenSpec.ofChange traceShapeWrong)

/-- 'morainelaw12.WeakOrder': WHATEVER THE INPUT: true; the input reads as it did. -/
def weakOrderSpec : ChangeSpec := { name := "weakOrder", fn := fun _ => fun
  | [d1, d2] => { results := [.lit (.bool true)], args := [d1, d2] }
  | _ => none }
def weakOrderRow : OpenClaim := { program := "yteganidclpobeaagreat", sum := "b55cb3e2655e24e0492ac36bcdf6e596ee77be097a3196772f149d076ee4fdee", func := "moraine/morainelaw12.WeakOrder", spec := "weakOrder", unfollowed := true, recurses := true, apart := false }
def WeakOrderSaid : Prop := weakOrderRow.holds Tryz.pinned (OpenSpec.ofChange weakOrderSpec)

/-- ITS FALSE NEIGHBOUR: 'it returns false'. Refute it at one input. -/
def weakOrderWrong : ChangeSpec := { name := "weakOrder", fn := fun _ => fun
  | [d1, d2] => { results := [.lit (.bool false)], args := [d1, d2] }
  | _ => none }
def WeakOrderWrongFalsely : Prop := weakOrderRow.holds Tryz.pinned (OpenSpec.ofChange weakOrderWrong)

/-- 'morainelaw12.WeakNobody': WHATEVER THE INPUT: true; the input reads as it did. -/
def weakNobodySpec : ChangeSpec := { name := "weakNobody", fn := fun _ => fun
  | [d1, d2] => { results := [.lit (.bool true)], args := [d1, d2] }
  | _ => none }
def weakNobodyRow : OpenClaim := { program := "yteganidclpobeaagreat", sum := "b55cb3e2655e24e0492ac36bcdf6e596ee77be097a3196772f149d076ee4fdee", func := "moraine/morainelaw12.WeakNobody", spec := "weakNobody", unfollowed := true, recurses := true, apart := false }
def WeakNobodySaid : Prop := weakNobodyRow.holds Tryz.pinned (OpenSpec.ofChange weakNobodySpec)

/-- ITS FALSE NEIGHBOUR: 'it returns false'. Refute it at one input. -/
def weakNobodyWrong : ChangeSpec := { name := "weakNobody", fn := fun _ => fun
  | [d1, d2] => { results := [.lit (.bool false)], args := [d1, d2] }
  | _ => none }
def WeakNobodyWrongFalsely : Prop := weakNobodyRow.holds Tryz.pinned (OpenSpec.ofChange weakNobodyWrong)

/-- 'morainelaw12.WeakBroken': WHATEVER THE INPUT: true; the input reads as it did. -/
def weakBrokenSpec : ChangeSpec := { name := "weakBroken", fn := fun _ => fun
  | [d1, d2, d3] => { results := [.lit (.bool true)], args := [d1, d2, d3] }
  | _ => none }
def weakBrokenRow : OpenClaim := { program := "yteganidclpobeaagreat", sum := "b55cb3e2655e24e0492ac36bcdf6e596ee77be097a3196772f149d076ee4fdee", func := "moraine/morainelaw12.WeakBroken", spec := "weakBroken", unfollowed := true, recurses := true, apart := false }
def WeakBrokenSaid : Prop := weakBrokenRow.holds Tryz.pinned (OpenSpec.ofChange weakBrokenSpec)

/-- ITS FALSE NEIGHBOUR: 'it returns false'. Refute it at one input. -/
def weakBrokenWrong : ChangeSpec := { name := "weakBroken", fn := fun _ => fun
  | [d1, d2, d3] => { results := [.lit (.bool false)], args := [d1, d2, d3] }
  | _ => none }
def WeakBrokenWrongFalsely : Prop := weakBrokenRow.holds Tryz.pinned (OpenSpec.ofChange weakBrokenWrong)

/-- 'morainelaw12.WeakGuards': WHATEVER THE INPUT: true; the input reads as it did. -/
def weakGuardsSpec : ChangeSpec := { name := "weakGuards", fn := fun _ => fun
  | [d1, d2] => { results := [.lit (.bool true)], args := [d1, d2] }
  | _ => none }
def weakGuardsRow : OpenClaim := { program := "yteganidclpobeaagreat", sum := "b55cb3e2655e24e0492ac36bcdf6e596ee77be097a3196772f149d076ee4fdee", func := "moraine/morainelaw12.WeakGuards", spec := "weakGuards", unfollowed := true, recurses := true, apart := false }
def WeakGuardsSaid : Prop := weakGuardsRow.holds Tryz.pinned (OpenSpec.ofChange weakGuardsSpec)

/-- ITS FALSE NEIGHBOUR: 'it returns false'. Refute it at one input. -/
def weakGuardsWrong : ChangeSpec := { name := "weakGuards", fn := fun _ => fun
  | [d1, d2] => { results := [.lit (.bool false)], args := [d1, d2] }
  | _ => none }
def WeakGuardsWrongFalsely : Prop := weakGuardsRow.holds Tryz.pinned (OpenSpec.ofChange weakGuardsWrong)

/-- 'morainelaw13.GcNobody': WHATEVER THE INPUT: true; the input reads as it did. -/
def gcNobodySpec : ChangeSpec := { name := "gcNobody", fn := fun _ => fun
  | [d1, d2] => { results := [.lit (.bool true)], args := [d1, d2] }
  | _ => none }
def gcNobodyRow : OpenClaim := { program := "yteganidclpobeaagreat", sum := "b55cb3e2655e24e0492ac36bcdf6e596ee77be097a3196772f149d076ee4fdee", func := "moraine/morainelaw13.GcNobody", spec := "gcNobody", unfollowed := true, recurses := true, apart := false }
def GcNobodySaid : Prop := gcNobodyRow.holds Tryz.pinned (OpenSpec.ofChange gcNobodySpec)

/-- ITS FALSE NEIGHBOUR: 'it returns false'. Refute it at one input. -/
def gcNobodyWrong : ChangeSpec := { name := "gcNobody", fn := fun _ => fun
  | [d1, d2] => { results := [.lit (.bool false)], args := [d1, d2] }
  | _ => none }
def GcNobodyWrongFalsely : Prop := gcNobodyRow.holds Tryz.pinned (OpenSpec.ofChange gcNobodyWrong)

/-- 'morainelaw13.GcShape': WHATEVER THE INPUT: true; the input reads as it did. -/
def gcShapeSpec : ChangeSpec := { name := "gcShape", fn := fun _ => fun
  | [d1, d2] => { results := [.lit (.bool true)], args := [d1, d2] }
  | _ => none }
def gcShapeRow : OpenClaim := { program := "yteganidclpobeaagreat", sum := "b55cb3e2655e24e0492ac36bcdf6e596ee77be097a3196772f149d076ee4fdee", func := "moraine/morainelaw13.GcShape", spec := "gcShape", unfollowed := true, recurses := true, apart := false }
def GcShapeSaid : Prop := gcShapeRow.holds Tryz.pinned (OpenSpec.ofChange gcShapeSpec)

/-- ITS FALSE NEIGHBOUR: 'it returns false'. Refute it at one input. -/
def gcShapeWrong : ChangeSpec := { name := "gcShape", fn := fun _ => fun
  | [d1, d2] => { results := [.lit (.bool false)], args := [d1, d2] }
  | _ => none }
def GcShapeWrongFalsely : Prop := gcShapeRow.holds Tryz.pinned (OpenSpec.ofChange gcShapeWrong)

/-- 'morainelaw13.GcAgain': WHATEVER THE INPUT: true; the input reads as it did. -/
def gcAgainSpec : ChangeSpec := { name := "gcAgain", fn := fun _ => fun
  | [d1, d2] => { results := [.lit (.bool true)], args := [d1, d2] }
  | _ => none }
def gcAgainRow : OpenClaim := { program := "yteganidclpobeaagreat", sum := "b55cb3e2655e24e0492ac36bcdf6e596ee77be097a3196772f149d076ee4fdee", func := "moraine/morainelaw13.GcAgain", spec := "gcAgain", unfollowed := true, recurses := true, apart := false }
def GcAgainSaid : Prop := gcAgainRow.holds Tryz.pinned (OpenSpec.ofChange gcAgainSpec)

/-- ITS FALSE NEIGHBOUR: 'it returns false'. Refute it at one input. -/
def gcAgainWrong : ChangeSpec := { name := "gcAgain", fn := fun _ => fun
  | [d1, d2] => { results := [.lit (.bool false)], args := [d1, d2] }
  | _ => none }
def GcAgainWrongFalsely : Prop := gcAgainRow.holds Tryz.pinned (OpenSpec.ofChange gcAgainWrong)

/-- 'morainelaw13.GcTight': WHATEVER THE INPUT: true; the input reads as it did. -/
def gcTightSpec : ChangeSpec := { name := "gcTight", fn := fun _ => fun
  | [d1, d2] => { results := [.lit (.bool true)], args := [d1, d2] }
  | _ => none }
def gcTightRow : OpenClaim := { program := "yteganidclpobeaagreat", sum := "b55cb3e2655e24e0492ac36bcdf6e596ee77be097a3196772f149d076ee4fdee", func := "moraine/morainelaw13.GcTight", spec := "gcTight", unfollowed := true, recurses := true, apart := false }
def GcTightSaid : Prop := gcTightRow.holds Tryz.pinned (OpenSpec.ofChange gcTightSpec)

/-- ITS FALSE NEIGHBOUR: 'it returns false'. Refute it at one input. -/
def gcTightWrong : ChangeSpec := { name := "gcTight", fn := fun _ => fun
  | [d1, d2] => { results := [.lit (.bool false)], args := [d1, d2] }
  | _ => none }
def GcTightWrongFalsely : Prop := gcTightRow.holds Tryz.pinned (OpenSpec.ofChange gcTightWrong)

/-- 'morainelaw13.GcOlder': WHATEVER THE INPUT: true; the input reads as it did. -/
def gcOlderSpec : ChangeSpec := { name := "gcOlder", fn := fun _ => fun
  | [d1, d2] => { results := [.lit (.bool true)], args := [d1, d2] }
  | _ => none }
def gcOlderRow : OpenClaim := { program := "yteganidclpobeaagreat", sum := "b55cb3e2655e24e0492ac36bcdf6e596ee77be097a3196772f149d076ee4fdee", func := "moraine/morainelaw13.GcOlder", spec := "gcOlder", unfollowed := true, recurses := true, apart := false }
def GcOlderSaid : Prop := gcOlderRow.holds Tryz.pinned (OpenSpec.ofChange gcOlderSpec)

/-- ITS FALSE NEIGHBOUR: 'it returns false'. Refute it at one input. -/
def gcOlderWrong : ChangeSpec := { name := "gcOlder", fn := fun _ => fun
  | [d1, d2] => { results := [.lit (.bool false)], args := [d1, d2] }
  | _ => none }
def GcOlderWrongFalsely : Prop := gcOlderRow.holds Tryz.pinned (OpenSpec.ofChange gcOlderWrong)

/-- 'morainelaw14.AuditSound': WHATEVER THE INPUT: true; the input reads as it did. -/
def auditSoundSpec : ChangeSpec := { name := "auditSound", fn := fun _ => fun
  | [d1, d2] => { results := [.lit (.bool true)], args := [d1, d2] }
  | _ => none }
def auditSoundRow : OpenClaim := { program := "yteganidclpobeaagreat", sum := "b55cb3e2655e24e0492ac36bcdf6e596ee77be097a3196772f149d076ee4fdee", func := "moraine/morainelaw14.AuditSound", spec := "auditSound", unfollowed := true, recurses := true, apart := false }
def AuditSoundSaid : Prop := auditSoundRow.holds Tryz.pinned (OpenSpec.ofChange auditSoundSpec)

/-- ITS FALSE NEIGHBOUR: 'it returns false'. Refute it at one input. -/
def auditSoundWrong : ChangeSpec := { name := "auditSound", fn := fun _ => fun
  | [d1, d2] => { results := [.lit (.bool false)], args := [d1, d2] }
  | _ => none }
def AuditSoundWrongFalsely : Prop := auditSoundRow.holds Tryz.pinned (OpenSpec.ofChange auditSoundWrong)

/-- 'morainelaw14.AuditLive': WHATEVER THE INPUT: true; the input reads as it did. -/
def auditLiveSpec : ChangeSpec := { name := "auditLive", fn := fun _ => fun
  | [d1, d2] => { results := [.lit (.bool true)], args := [d1, d2] }
  | _ => none }
def auditLiveRow : OpenClaim := { program := "yteganidclpobeaagreat", sum := "b55cb3e2655e24e0492ac36bcdf6e596ee77be097a3196772f149d076ee4fdee", func := "moraine/morainelaw14.AuditLive", spec := "auditLive", unfollowed := true, recurses := true, apart := false }
def AuditLiveSaid : Prop := auditLiveRow.holds Tryz.pinned (OpenSpec.ofChange auditLiveSpec)

/-- ITS FALSE NEIGHBOUR: 'it returns false'. Refute it at one input. -/
def auditLiveWrong : ChangeSpec := { name := "auditLive", fn := fun _ => fun
  | [d1, d2] => { results := [.lit (.bool false)], args := [d1, d2] }
  | _ => none }
def AuditLiveWrongFalsely : Prop := auditLiveRow.holds Tryz.pinned (OpenSpec.ofChange auditLiveWrong)

/-- 'morainelaw14.AuditMoves': WHATEVER THE INPUT: true; the input reads as it did. -/
def auditMovesSpec : ChangeSpec := { name := "auditMoves", fn := fun _ => fun
  | [d1, d2] => { results := [.lit (.bool true)], args := [d1, d2] }
  | _ => none }
def auditMovesRow : OpenClaim := { program := "yteganidclpobeaagreat", sum := "b55cb3e2655e24e0492ac36bcdf6e596ee77be097a3196772f149d076ee4fdee", func := "moraine/morainelaw14.AuditMoves", spec := "auditMoves", unfollowed := true, recurses := true, apart := false }
def AuditMovesSaid : Prop := auditMovesRow.holds Tryz.pinned (OpenSpec.ofChange auditMovesSpec)

/-- ITS FALSE NEIGHBOUR: 'it returns false'. Refute it at one input. -/
def auditMovesWrong : ChangeSpec := { name := "auditMoves", fn := fun _ => fun
  | [d1, d2] => { results := [.lit (.bool false)], args := [d1, d2] }
  | _ => none }
def AuditMovesWrongFalsely : Prop := auditMovesRow.holds Tryz.pinned (OpenSpec.ofChange auditMovesWrong)

/-- 'morainelaw15.EqtabPlays': WHATEVER THE INPUT: true; the input reads as it did. -/
def eqtabPlaysSpec : ChangeSpec := { name := "eqtabPlays", fn := fun _ => fun
  | [d] => { results := [.lit (.bool true)], args := [d] }
  | _ => none }
def eqtabPlaysRow : OpenClaim := { program := "yteganidclpobeaagreat", sum := "b55cb3e2655e24e0492ac36bcdf6e596ee77be097a3196772f149d076ee4fdee", func := "moraine/morainelaw15.EqtabPlays", spec := "eqtabPlays", unfollowed := true, recurses := true, apart := false }
def EqtabPlaysSaid : Prop := eqtabPlaysRow.holds Tryz.pinned (OpenSpec.ofChange eqtabPlaysSpec)

/-- ITS FALSE NEIGHBOUR: 'it returns false'. Refute it at one input. -/
def eqtabPlaysWrong : ChangeSpec := { name := "eqtabPlays", fn := fun _ => fun
  | [d] => { results := [.lit (.bool false)], args := [d] }
  | _ => none }
def EqtabPlaysWrongFalsely : Prop := eqtabPlaysRow.holds Tryz.pinned (OpenSpec.ofChange eqtabPlaysWrong)

/-- 'morainelaw15.EqtabFull': WHATEVER THE INPUT: true; the input reads as it did. -/
def eqtabFullSpec : ChangeSpec := { name := "eqtabFull", fn := fun _ => fun
  | [d1, d2, d3] => { results := [.lit (.bool true)], args := [d1, d2, d3] }
  | _ => none }
def eqtabFullRow : OpenClaim := { program := "yteganidclpobeaagreat", sum := "b55cb3e2655e24e0492ac36bcdf6e596ee77be097a3196772f149d076ee4fdee", func := "moraine/morainelaw15.EqtabFull", spec := "eqtabFull", unfollowed := true, recurses := true, apart := false }
def EqtabFullSaid : Prop := eqtabFullRow.holds Tryz.pinned (OpenSpec.ofChange eqtabFullSpec)

/-- ITS FALSE NEIGHBOUR: 'it returns false'. Refute it at one input. -/
def eqtabFullWrong : ChangeSpec := { name := "eqtabFull", fn := fun _ => fun
  | [d1, d2, d3] => { results := [.lit (.bool false)], args := [d1, d2, d3] }
  | _ => none }
def EqtabFullWrongFalsely : Prop := eqtabFullRow.holds Tryz.pinned (OpenSpec.ofChange eqtabFullWrong)

/-- 'morainelaw15.EqtabNone': WHATEVER THE INPUT: true; the input reads as it did. -/
def eqtabNoneSpec : ChangeSpec := { name := "eqtabNone", fn := fun _ => fun
  | [d1, d2, d3] => { results := [.lit (.bool true)], args := [d1, d2, d3] }
  | _ => none }
def eqtabNoneRow : OpenClaim := { program := "yteganidclpobeaagreat", sum := "b55cb3e2655e24e0492ac36bcdf6e596ee77be097a3196772f149d076ee4fdee", func := "moraine/morainelaw15.EqtabNone", spec := "eqtabNone", unfollowed := true, recurses := true, apart := false }
def EqtabNoneSaid : Prop := eqtabNoneRow.holds Tryz.pinned (OpenSpec.ofChange eqtabNoneSpec)

/-- ITS FALSE NEIGHBOUR: 'it returns false'. Refute it at one input. -/
def eqtabNoneWrong : ChangeSpec := { name := "eqtabNone", fn := fun _ => fun
  | [d1, d2, d3] => { results := [.lit (.bool false)], args := [d1, d2, d3] }
  | _ => none }
def EqtabNoneWrongFalsely : Prop := eqtabNoneRow.holds Tryz.pinned (OpenSpec.ofChange eqtabNoneWrong)

/-- 'morainelaw15.EqtabApart': WHATEVER THE INPUT: true; the input reads as it did. -/
def eqtabApartSpec : ChangeSpec := { name := "eqtabApart", fn := fun _ => fun
  | [d1, d2] => { results := [.lit (.bool true)], args := [d1, d2] }
  | _ => none }
def eqtabApartRow : OpenClaim := { program := "yteganidclpobeaagreat", sum := "b55cb3e2655e24e0492ac36bcdf6e596ee77be097a3196772f149d076ee4fdee", func := "moraine/morainelaw15.EqtabApart", spec := "eqtabApart", unfollowed := true, recurses := true, apart := false }
def EqtabApartSaid : Prop := eqtabApartRow.holds Tryz.pinned (OpenSpec.ofChange eqtabApartSpec)

/-- ITS FALSE NEIGHBOUR: 'it returns false'. Refute it at one input. -/
def eqtabApartWrong : ChangeSpec := { name := "eqtabApart", fn := fun _ => fun
  | [d1, d2] => { results := [.lit (.bool false)], args := [d1, d2] }
  | _ => none }
def EqtabApartWrongFalsely : Prop := eqtabApartRow.holds Tryz.pinned (OpenSpec.ofChange eqtabApartWrong)

/-- 'morainelaw15.EqtabOrder': WHATEVER THE INPUT: true; the input reads as it did. -/
def eqtabOrderSpec : ChangeSpec := { name := "eqtabOrder", fn := fun _ => fun
  | [d1, d2] => { results := [.lit (.bool true)], args := [d1, d2] }
  | _ => none }
def eqtabOrderRow : OpenClaim := { program := "yteganidclpobeaagreat", sum := "b55cb3e2655e24e0492ac36bcdf6e596ee77be097a3196772f149d076ee4fdee", func := "moraine/morainelaw15.EqtabOrder", spec := "eqtabOrder", unfollowed := true, recurses := true, apart := false }
def EqtabOrderSaid : Prop := eqtabOrderRow.holds Tryz.pinned (OpenSpec.ofChange eqtabOrderSpec)

/-- ITS FALSE NEIGHBOUR: 'it returns false'. Refute it at one input. -/
def eqtabOrderWrong : ChangeSpec := { name := "eqtabOrder", fn := fun _ => fun
  | [d1, d2] => { results := [.lit (.bool false)], args := [d1, d2] }
  | _ => none }
def EqtabOrderWrongFalsely : Prop := eqtabOrderRow.holds Tryz.pinned (OpenSpec.ofChange eqtabOrderWrong)

/- THE SECOND FORM. 'bulk': how many values and letters a reading holds, each counted each time it is reached (what is shared counts as often as it is met; a slice's spare places count too). A statement '..UptoSaid' is the law's where the arguments, and the package variables that the reading takes, are together of bulk at most 1048576: NARROWER than '..Said'. Prove '..Said' where nothing that the law and all that it calls make is longer than what came in: it says more and counts as full. Else prove '..UptoSaid'. A law counts once. -/
mutual
def uptoBulk {H : Type} : DataW H → Nat
  | .lit (.string bytes) => bytes.length + 1
  | .lit _ => 1
  | .nil => 1
  | .ptr d => uptoBulk d + 1
  | .slice elems spare => uptoBulkAll elems + uptoBulkAll spare + 1
  | .agg parts => uptoBulkAll parts + 1
  | .iface _ d => uptoBulk d + 1
  | .map entries => uptoBulkEntries entries + 1
  | .held _ => 1
def uptoBulkAll {H : Type} : List (DataW H) → Nat
  | [] => 0
  | d :: r => uptoBulk d + uptoBulkAll r
def uptoBulkEntries {H : Type} : List (Lit × DataW H) → Nat
  | [] => 0
  | x :: r => uptoBulkEntry x + uptoBulkEntries r
def uptoBulkEntry {H : Type} : Lit × DataW H → Nat
  | (.string bytes, d) => bytes.length + uptoBulk d + 1
  | (_, d) => uptoBulk d + 1
 end
def uptoSmall : (H : Type) → List (DataW H) → Bool := fun _ ds => decide (uptoBulkAll ds ≤ 1048576)
def OpenSpec.upto (s : _root_.Go.ChangeSpec) : _root_.Go.OpenSpec := { _root_.Go.OpenSpec.ofChange s with cond := some uptoSmall }

/-- 'morainelaw14.AuditSame', WHERE WHAT IT READS IS OF BULK AT MOST 1048576: true; the input reads as it did. -/
def auditSameUptoRow : OpenClaim := { program := "yteganidclpobeaagreat", sum := "b55cb3e2655e24e0492ac36bcdf6e596ee77be097a3196772f149d076ee4fdee", func := "moraine/morainelaw14.AuditSame", spec := "auditSame", unfollowed := true, recurses := true, apart := false, narrowed := true }
def AuditSameUptoSaid : Prop := auditSameUptoRow.holds Tryz.pinned (OpenSpec.upto auditSameSpec)

/-- 'morainelaw11.TraceShape', WHERE WHAT IT READS IS OF BULK AT MOST 1048576: true; the input reads as it did. -/
def traceShapeUptoRow : OpenClaim := { program := "yteganidclpobeaagreat", sum := "b55cb3e2655e24e0492ac36bcdf6e596ee77be097a3196772f149d076ee4fdee", func := "moraine/morainelaw11.TraceShape", spec := "traceShape", unfollowed := true, recurses := true, apart := false, narrowed := true }
def TraceShapeUptoSaid : Prop := traceShapeUptoRow.holds Tryz.pinned (OpenSpec.upto traceShapeSpec)

/-- 'morainelaw12.WeakOrder', WHERE WHAT IT READS IS OF BULK AT MOST 1048576: true; the input reads as it did. -/
def weakOrderUptoRow : OpenClaim := { program := "yteganidclpobeaagreat", sum := "b55cb3e2655e24e0492ac36bcdf6e596ee77be097a3196772f149d076ee4fdee", func := "moraine/morainelaw12.WeakOrder", spec := "weakOrder", unfollowed := true, recurses := true, apart := false, narrowed := true }
def WeakOrderUptoSaid : Prop := weakOrderUptoRow.holds Tryz.pinned (OpenSpec.upto weakOrderSpec)

/-- 'morainelaw12.WeakNobody', WHERE WHAT IT READS IS OF BULK AT MOST 1048576: true; the input reads as it did. -/
def weakNobodyUptoRow : OpenClaim := { program := "yteganidclpobeaagreat", sum := "b55cb3e2655e24e0492ac36bcdf6e596ee77be097a3196772f149d076ee4fdee", func := "moraine/morainelaw12.WeakNobody", spec := "weakNobody", unfollowed := true, recurses := true, apart := false, narrowed := true }
def WeakNobodyUptoSaid : Prop := weakNobodyUptoRow.holds Tryz.pinned (OpenSpec.upto weakNobodySpec)

/-- 'morainelaw12.WeakBroken', WHERE WHAT IT READS IS OF BULK AT MOST 1048576: true; the input reads as it did. -/
def weakBrokenUptoRow : OpenClaim := { program := "yteganidclpobeaagreat", sum := "b55cb3e2655e24e0492ac36bcdf6e596ee77be097a3196772f149d076ee4fdee", func := "moraine/morainelaw12.WeakBroken", spec := "weakBroken", unfollowed := true, recurses := true, apart := false, narrowed := true }
def WeakBrokenUptoSaid : Prop := weakBrokenUptoRow.holds Tryz.pinned (OpenSpec.upto weakBrokenSpec)

/-- 'morainelaw12.WeakGuards', WHERE WHAT IT READS IS OF BULK AT MOST 1048576: true; the input reads as it did. -/
def weakGuardsUptoRow : OpenClaim := { program := "yteganidclpobeaagreat", sum := "b55cb3e2655e24e0492ac36bcdf6e596ee77be097a3196772f149d076ee4fdee", func := "moraine/morainelaw12.WeakGuards", spec := "weakGuards", unfollowed := true, recurses := true, apart := false, narrowed := true }
def WeakGuardsUptoSaid : Prop := weakGuardsUptoRow.holds Tryz.pinned (OpenSpec.upto weakGuardsSpec)

/-- 'morainelaw13.GcNobody', WHERE WHAT IT READS IS OF BULK AT MOST 1048576: true; the input reads as it did. -/
def gcNobodyUptoRow : OpenClaim := { program := "yteganidclpobeaagreat", sum := "b55cb3e2655e24e0492ac36bcdf6e596ee77be097a3196772f149d076ee4fdee", func := "moraine/morainelaw13.GcNobody", spec := "gcNobody", unfollowed := true, recurses := true, apart := false, narrowed := true }
def GcNobodyUptoSaid : Prop := gcNobodyUptoRow.holds Tryz.pinned (OpenSpec.upto gcNobodySpec)

/-- 'morainelaw13.GcShape', WHERE WHAT IT READS IS OF BULK AT MOST 1048576: true; the input reads as it did. -/
def gcShapeUptoRow : OpenClaim := { program := "yteganidclpobeaagreat", sum := "b55cb3e2655e24e0492ac36bcdf6e596ee77be097a3196772f149d076ee4fdee", func := "moraine/morainelaw13.GcShape", spec := "gcShape", unfollowed := true, recurses := true, apart := false, narrowed := true }
def GcShapeUptoSaid : Prop := gcShapeUptoRow.holds Tryz.pinned (OpenSpec.upto gcShapeSpec)

/-- 'morainelaw13.GcAgain', WHERE WHAT IT READS IS OF BULK AT MOST 1048576: true; the input reads as it did. -/
def gcAgainUptoRow : OpenClaim := { program := "yteganidclpobeaagreat", sum := "b55cb3e2655e24e0492ac36bcdf6e596ee77be097a3196772f149d076ee4fdee", func := "moraine/morainelaw13.GcAgain", spec := "gcAgain", unfollowed := true, recurses := true, apart := false, narrowed := true }
def GcAgainUptoSaid : Prop := gcAgainUptoRow.holds Tryz.pinned (OpenSpec.upto gcAgainSpec)

/-- 'morainelaw13.GcTight', WHERE WHAT IT READS IS OF BULK AT MOST 1048576: true; the input reads as it did. -/
def gcTightUptoRow : OpenClaim := { program := "yteganidclpobeaagreat", sum := "b55cb3e2655e24e0492ac36bcdf6e596ee77be097a3196772f149d076ee4fdee", func := "moraine/morainelaw13.GcTight", spec := "gcTight", unfollowed := true, recurses := true, apart := false, narrowed := true }
def GcTightUptoSaid : Prop := gcTightUptoRow.holds Tryz.pinned (OpenSpec.upto gcTightSpec)

/-- 'morainelaw13.GcOlder', WHERE WHAT IT READS IS OF BULK AT MOST 1048576: true; the input reads as it did. -/
def gcOlderUptoRow : OpenClaim := { program := "yteganidclpobeaagreat", sum := "b55cb3e2655e24e0492ac36bcdf6e596ee77be097a3196772f149d076ee4fdee", func := "moraine/morainelaw13.GcOlder", spec := "gcOlder", unfollowed := true, recurses := true, apart := false, narrowed := true }
def GcOlderUptoSaid : Prop := gcOlderUptoRow.holds Tryz.pinned (OpenSpec.upto gcOlderSpec)

/-- 'morainelaw14.AuditSound', WHERE WHAT IT READS IS OF BULK AT MOST 1048576: true; the input reads as it did. -/
def auditSoundUptoRow : OpenClaim := { program := "yteganidclpobeaagreat", sum := "b55cb3e2655e24e0492ac36bcdf6e596ee77be097a3196772f149d076ee4fdee", func := "moraine/morainelaw14.AuditSound", spec := "auditSound", unfollowed := true, recurses := true, apart := false, narrowed := true }
def AuditSoundUptoSaid : Prop := auditSoundUptoRow.holds Tryz.pinned (OpenSpec.upto auditSoundSpec)

/-- 'morainelaw14.AuditLive', WHERE WHAT IT READS IS OF BULK AT MOST 1048576: true; the input reads as it did. -/
def auditLiveUptoRow : OpenClaim := { program := "yteganidclpobeaagreat", sum := "b55cb3e2655e24e0492ac36bcdf6e596ee77be097a3196772f149d076ee4fdee", func := "moraine/morainelaw14.AuditLive", spec := "auditLive", unfollowed := true, recurses := true, apart := false, narrowed := true }
def AuditLiveUptoSaid : Prop := auditLiveUptoRow.holds Tryz.pinned (OpenSpec.upto auditLiveSpec)

/-- 'morainelaw14.AuditMoves', WHERE WHAT IT READS IS OF BULK AT MOST 1048576: true; the input reads as it did. -/
def auditMovesUptoRow : OpenClaim := { program := "yteganidclpobeaagreat", sum := "b55cb3e2655e24e0492ac36bcdf6e596ee77be097a3196772f149d076ee4fdee", func := "moraine/morainelaw14.AuditMoves", spec := "auditMoves", unfollowed := true, recurses := true, apart := false, narrowed := true }
def AuditMovesUptoSaid : Prop := auditMovesUptoRow.holds Tryz.pinned (OpenSpec.upto auditMovesSpec)

/-- 'morainelaw15.EqtabPlays', WHERE WHAT IT READS IS OF BULK AT MOST 1048576: true; the input reads as it did. -/
def eqtabPlaysUptoRow : OpenClaim := { program := "yteganidclpobeaagreat", sum := "b55cb3e2655e24e0492ac36bcdf6e596ee77be097a3196772f149d076ee4fdee", func := "moraine/morainelaw15.EqtabPlays", spec := "eqtabPlays", unfollowed := true, recurses := true, apart := false, narrowed := true }
def EqtabPlaysUptoSaid : Prop := eqtabPlaysUptoRow.holds Tryz.pinned (OpenSpec.upto eqtabPlaysSpec)

/-- 'morainelaw15.EqtabFull', WHERE WHAT IT READS IS OF BULK AT MOST 1048576: true; the input reads as it did. -/
def eqtabFullUptoRow : OpenClaim := { program := "yteganidclpobeaagreat", sum := "b55cb3e2655e24e0492ac36bcdf6e596ee77be097a3196772f149d076ee4fdee", func := "moraine/morainelaw15.EqtabFull", spec := "eqtabFull", unfollowed := true, recurses := true, apart := false, narrowed := true }
def EqtabFullUptoSaid : Prop := eqtabFullUptoRow.holds Tryz.pinned (OpenSpec.upto eqtabFullSpec)

/-- 'morainelaw15.EqtabNone', WHERE WHAT IT READS IS OF BULK AT MOST 1048576: true; the input reads as it did. -/
def eqtabNoneUptoRow : OpenClaim := { program := "yteganidclpobeaagreat", sum := "b55cb3e2655e24e0492ac36bcdf6e596ee77be097a3196772f149d076ee4fdee", func := "moraine/morainelaw15.EqtabNone", spec := "eqtabNone", unfollowed := true, recurses := true, apart := false, narrowed := true }
def EqtabNoneUptoSaid : Prop := eqtabNoneUptoRow.holds Tryz.pinned (OpenSpec.upto eqtabNoneSpec)

/-- 'morainelaw15.EqtabApart', WHERE WHAT IT READS IS OF BULK AT MOST 1048576: true; the input reads as it did. -/
def eqtabApartUptoRow : OpenClaim := { program := "yteganidclpobeaagreat", sum := "b55cb3e2655e24e0492ac36bcdf6e596ee77be097a3196772f149d076ee4fdee", func := "moraine/morainelaw15.EqtabApart", spec := "eqtabApart", unfollowed := true, recurses := true, apart := false, narrowed := true }
def EqtabApartUptoSaid : Prop := eqtabApartUptoRow.holds Tryz.pinned (OpenSpec.upto eqtabApartSpec)

/-- 'morainelaw15.EqtabOrder', WHERE WHAT IT READS IS OF BULK AT MOST 1048576: true; the input reads as it did. -/
def eqtabOrderUptoRow : OpenClaim := { program := "yteganidclpobeaagreat", sum := "b55cb3e2655e24e0492ac36bcdf6e596ee77be097a3196772f149d076ee4fdee", func := "moraine/morainelaw15.EqtabOrder", spec := "eqtabOrder", unfollowed := true, recurses := true, apart := false, narrowed := true }
def EqtabOrderUptoSaid : Prop := eqtabOrderUptoRow.holds Tryz.pinned (OpenSpec.upto eqtabOrderSpec)

end Rows
end Go.Proofs.YteganidclpobeaaGreat
