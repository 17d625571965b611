/-
  NARROWER THAN 'FOR EVERY INPUT', by the rows' own cells (each row's printed sentence says how): FnExactProgramSame: loops · FnExactMoveDecl: loops · FnExactProgramLike: loops.
  DERIVED. THE GIVEN ROWS OF THIS SEAT. 8 by the template 'for every input the law returns true; each argument reads behind the call as it read before'; 0 by the template 'total and deterministic' (their statements: YtgkpfkfomonmgaaGreatTotals.lean).
  GIVEN WITH THE SEED: the statements are not yours to turn. If you find one false, say at which input.
  Laid BY PROGRAM, IN A SANDBOX (cutbox-rows.mjs): the forced cells as the released guide's own fill.sh prints them over the translation ef944e177bb0e0fc… (all of the seat's roots in one cut). By AI agents, Wed Nov 11 2026. No macro, syntax, notation, axiom, sorry.
-/
import Derived.Test.YtgkpfkfomonmgaaGreatChecked
import GoSem.Claim
import GoSem.ClaimJoined
import GoSem.ClaimMapViews
import Derived.JoinedTies
import Derived.KernelRfl
namespace Go.Proofs.YtgkpfkfomonmgaaGreat
/- THE CELL 'sum', in the pinned program and in every row, IS THE sha256 OF THE DUMP (.gsa) THAT YtgkpfkfomonmgaaGreatProg.lean LOADS. Nothing in Lean hashes anything: it is a label: what it is worth is what the hold of that sum in a sandbox is worth. -/
noncomputable def Tryz.pinned : Pinned := { name := "ytgkpfkfomonmgaagreat", sum := "ef944e177bb0e0fcecebdbe906b89d5871498eedc8013a7453e763873a4184cb", checked := Tryz.checked }
namespace Rows
def none {H : Type} : Left H := { results := [], args := [] }

/-- 'laws.FnExactProgramSame': WHATEVER THE INPUT: true; the input reads as it did. -/
def fnExactProgramSameSpec : ChangeSpec := { name := "fnExactProgramSame", fn := fun _ => fun
  | [d1, d2] => { results := [.lit (.bool true)], args := [d1, d2] }
  | _ => none }
def fnExactProgramSameRow : OpenClaim := { program := "ytgkpfkfomonmgaagreat", sum := "ef944e177bb0e0fcecebdbe906b89d5871498eedc8013a7453e763873a4184cb", func := "loop.example/turnedsafely/laws.FnExactProgramSame", spec := "fnExactProgramSame", inPlace := ["internal/bytealg.IndexByteString", "internal/bytealg.IndexString"], unfollowed := true, recurses := true, named := ["internal/bytealg.MaxLen"], loops := true, apart := false }
def FnExactProgramSameSaid : Prop := fnExactProgramSameRow.holds Tryz.pinned (OpenSpec.ofChange fnExactProgramSameSpec)

/-- ITS FALSE NEIGHBOUR: 'it returns false'. Refute it at one input. -/
def fnExactProgramSameWrong : ChangeSpec := { name := "fnExactProgramSame", fn := fun _ => fun
  | [d1, d2] => { results := [.lit (.bool false)], args := [d1, d2] }
  | _ => none }
def FnExactProgramSameWrongFalsely : Prop := fnExactProgramSameRow.holds Tryz.pinned (OpenSpec.ofChange fnExactProgramSameWrong)

/-- 'laws.FnSimpleRule': WHATEVER THE INPUT: true; the input reads as it did. -/
def fnSimpleRuleSpec : ChangeSpec := { name := "fnSimpleRule", fn := fun _ => fun
  | [d] => { results := [.lit (.bool true)], args := [d] }
  | _ => none }
def fnSimpleRuleRow : OpenClaim := { program := "ytgkpfkfomonmgaagreat", sum := "ef944e177bb0e0fcecebdbe906b89d5871498eedc8013a7453e763873a4184cb", func := "loop.example/turnedsafely/laws.FnSimpleRule", spec := "fnSimpleRule", inPlace := ["internal/bytealg.IndexByteString", "internal/bytealg.IndexString"], unfollowed := true, recurses := true, named := ["internal/bytealg.MaxLen"], apart := false }
def FnSimpleRuleSaid : Prop := fnSimpleRuleRow.holds Tryz.pinned (OpenSpec.ofChange fnSimpleRuleSpec)

/-- ITS FALSE NEIGHBOUR: 'it returns false'. Refute it at one input. -/
def fnSimpleRuleWrong : ChangeSpec := { name := "fnSimpleRule", fn := fun _ => fun
  | [d] => { results := [.lit (.bool false)], args := [d] }
  | _ => none }
def FnSimpleRuleWrongFalsely : Prop := fnSimpleRuleRow.holds Tryz.pinned (OpenSpec.ofChange fnSimpleRuleWrong)

/-- 'laws.FnProgramSize': WHATEVER THE INPUT: true; the input reads as it did. -/
def fnProgramSizeSpec : ChangeSpec := { name := "fnProgramSize", fn := fun _ => fun
  | [d] => { results := [.lit (.bool true)], args := [d] }
  | _ => none }
def fnProgramSizeRow : OpenClaim := { program := "ytgkpfkfomonmgaagreat", sum := "ef944e177bb0e0fcecebdbe906b89d5871498eedc8013a7453e763873a4184cb", func := "loop.example/turnedsafely/laws.FnProgramSize", spec := "fnProgramSize", inPlace := ["internal/bytealg.IndexByteString", "internal/bytealg.IndexString"], unfollowed := true, recurses := true, named := ["internal/bytealg.MaxLen"], apart := false }
def FnProgramSizeSaid : Prop := fnProgramSizeRow.holds Tryz.pinned (OpenSpec.ofChange fnProgramSizeSpec)

/-- ITS FALSE NEIGHBOUR: 'it returns false'. Refute it at one input. -/
def fnProgramSizeWrong : ChangeSpec := { name := "fnProgramSize", fn := fun _ => fun
  | [d] => { results := [.lit (.bool false)], args := [d] }
  | _ => none }
def FnProgramSizeWrongFalsely : Prop := fnProgramSizeRow.holds Tryz.pinned (OpenSpec.ofChange fnProgramSizeWrong)

/-- 'laws.FnSimpleAll': WHATEVER THE INPUT: true; the input reads as it did. -/
def fnSimpleAllSpec : ChangeSpec := { name := "fnSimpleAll", fn := fun _ => fun
  | [d] => { results := [.lit (.bool true)], args := [d] }
  | _ => none }
def fnSimpleAllRow : OpenClaim := { program := "ytgkpfkfomonmgaagreat", sum := "ef944e177bb0e0fcecebdbe906b89d5871498eedc8013a7453e763873a4184cb", func := "loop.example/turnedsafely/laws.FnSimpleAll", spec := "fnSimpleAll", inPlace := ["internal/bytealg.IndexByteString", "internal/bytealg.IndexString"], unfollowed := true, recurses := true, named := ["internal/bytealg.MaxLen"], apart := false }
def FnSimpleAllSaid : Prop := fnSimpleAllRow.holds Tryz.pinned (OpenSpec.ofChange fnSimpleAllSpec)

/-- ITS FALSE NEIGHBOUR: 'it returns false'. Refute it at one input. -/
def fnSimpleAllWrong : ChangeSpec := { name := "fnSimpleAll", fn := fun _ => fun
  | [d] => { results := [.lit (.bool false)], args := [d] }
  | _ => none }
def FnSimpleAllWrongFalsely : Prop := fnSimpleAllRow.holds Tryz.pinned (OpenSpec.ofChange fnSimpleAllWrong)

/-- 'laws.FnExactMoveDecl': WHATEVER THE INPUT: true; the input reads as it did. -/
def fnExactMoveDeclSpec : ChangeSpec := { name := "fnExactMoveDecl", fn := fun _ => fun
  | [d1, d2, d3, d4] => { results := [.lit (.bool true)], args := [d1, d2, d3, d4] }
  | _ => none }
def fnExactMoveDeclRow : OpenClaim := { program := "ytgkpfkfomonmgaagreat", sum := "ef944e177bb0e0fcecebdbe906b89d5871498eedc8013a7453e763873a4184cb", func := "loop.example/turnedsafely/laws.FnExactMoveDecl", spec := "fnExactMoveDecl", inPlace := ["internal/bytealg.IndexByteString", "internal/bytealg.IndexString"], unfollowed := true, recurses := true, named := ["internal/bytealg.MaxLen"], loops := true, apart := false }
def FnExactMoveDeclSaid : Prop := fnExactMoveDeclRow.holds Tryz.pinned (OpenSpec.ofChange fnExactMoveDeclSpec)

/-- ITS FALSE NEIGHBOUR: 'it returns false'. Refute it at one input. -/
def fnExactMoveDeclWrong : ChangeSpec := { name := "fnExactMoveDecl", fn := fun _ => fun
  | [d1, d2, d3, d4] => { results := [.lit (.bool false)], args := [d1, d2, d3, d4] }
  | _ => none }
def FnExactMoveDeclWrongFalsely : Prop := fnExactMoveDeclRow.holds Tryz.pinned (OpenSpec.ofChange fnExactMoveDeclWrong)

/-- 'laws.FnDeclOf': WHATEVER THE INPUT: true; the input reads as it did. -/
def fnDeclOfSpec : ChangeSpec := { name := "fnDeclOf", fn := fun _ => fun
  | [d] => { results := [.lit (.bool true)], args := [d] }
  | _ => none }
def fnDeclOfRow : OpenClaim := { program := "ytgkpfkfomonmgaagreat", sum := "ef944e177bb0e0fcecebdbe906b89d5871498eedc8013a7453e763873a4184cb", func := "loop.example/turnedsafely/laws.FnDeclOf", spec := "fnDeclOf", inPlace := ["internal/bytealg.IndexByteString", "internal/bytealg.IndexString"], unfollowed := true, recurses := true, named := ["internal/bytealg.MaxLen"], apart := false }
def FnDeclOfSaid : Prop := fnDeclOfRow.holds Tryz.pinned (OpenSpec.ofChange fnDeclOfSpec)

/-- ITS FALSE NEIGHBOUR: 'it returns false'. Refute it at one input. -/
def fnDeclOfWrong : ChangeSpec := { name := "fnDeclOf", fn := fun _ => fun
  | [d] => { results := [.lit (.bool false)], args := [d] }
  | _ => none }
def FnDeclOfWrongFalsely : Prop := fnDeclOfRow.holds Tryz.pinned (OpenSpec.ofChange fnDeclOfWrong)

/-- 'laws.FnExactProgramLike': WHATEVER THE INPUT: true; the input reads as it did. -/
def fnExactProgramLikeSpec : ChangeSpec := { name := "fnExactProgramLike", fn := fun _ => fun
  | [d1, d2] => { results := [.lit (.bool true)], args := [d1, d2] }
  | _ => none }
def fnExactProgramLikeRow : OpenClaim := { program := "ytgkpfkfomonmgaagreat", sum := "ef944e177bb0e0fcecebdbe906b89d5871498eedc8013a7453e763873a4184cb", func := "loop.example/turnedsafely/laws.FnExactProgramLike", spec := "fnExactProgramLike", inPlace := ["internal/bytealg.IndexByteString", "internal/bytealg.IndexString"], unfollowed := true, recurses := true, named := ["internal/bytealg.MaxLen"], loops := true, apart := false }
def FnExactProgramLikeSaid : Prop := fnExactProgramLikeRow.holds Tryz.pinned (OpenSpec.ofChange fnExactProgramLikeSpec)

/-- ITS FALSE NEIGHBOUR: 'it returns false'. Refute it at one input. -/
def fnExactProgramLikeWrong : ChangeSpec := { name := "fnExactProgramLike", fn := fun _ => fun
  | [d1, d2] => { results := [.lit (.bool false)], args := [d1, d2] }
  | _ => none }
def FnExactProgramLikeWrongFalsely : Prop := fnExactProgramLikeRow.holds Tryz.pinned (OpenSpec.ofChange fnExactProgramLikeWrong)

/-- 'laws.FnValueTyped': WHATEVER THE INPUT: true; the input reads as it did. -/
def fnValueTypedSpec : ChangeSpec := { name := "fnValueTyped", fn := fun _ => fun
  | [d] => { results := [.lit (.bool true)], args := [d] }
  | _ => none }
def fnValueTypedRow : OpenClaim := { program := "ytgkpfkfomonmgaagreat", sum := "ef944e177bb0e0fcecebdbe906b89d5871498eedc8013a7453e763873a4184cb", func := "loop.example/turnedsafely/laws.FnValueTyped", spec := "fnValueTyped", inPlace := ["internal/bytealg.IndexByteString", "internal/bytealg.IndexString"], unfollowed := true, recurses := true, named := ["internal/bytealg.MaxLen"], apart := false }
def FnValueTypedSaid : Prop := fnValueTypedRow.holds Tryz.pinned (OpenSpec.ofChange fnValueTypedSpec)

/-- ITS FALSE NEIGHBOUR: 'it returns false'. Refute it at one input. -/
def fnValueTypedWrong : ChangeSpec := { name := "fnValueTyped", fn := fun _ => fun
  | [d] => { results := [.lit (.bool false)], args := [d] }
  | _ => none }
def FnValueTypedWrongFalsely : Prop := fnValueTypedRow.holds Tryz.pinned (OpenSpec.ofChange fnValueTypedWrong)

/- THE SECOND FORM. 'bulk': how many values and letters a reading holds, each counted each time it is reached (what is shared counts as often as it is met; a slice's spare places count too). A statement '..UptoSaid' is the law's where the arguments, and the package variables that the reading takes, are together of bulk at most 1048576: NARROWER than '..Said'. Prove '..Said' where nothing that the law and all that it calls make is longer than what came in: it says more and counts as full. Else prove '..UptoSaid'. A law counts once. -/
mutual
def uptoBulk {H : Type} : DataW H → Nat
  | .lit (.string bytes) => bytes.length + 1
  | .lit _ => 1
  | .nil => 1
  | .ptr d => uptoBulk d + 1
  | .slice elems spare => uptoBulkAll elems + uptoBulkAll spare + 1
  | .agg parts => uptoBulkAll parts + 1
  | .iface _ d => uptoBulk d + 1
  | .map entries => uptoBulkEntries entries + 1
  | .held _ => 1
def uptoBulkAll {H : Type} : List (DataW H) → Nat
  | [] => 0
  | d :: r => uptoBulk d + uptoBulkAll r
def uptoBulkEntries {H : Type} : List (Lit × DataW H) → Nat
  | [] => 0
  | x :: r => uptoBulkEntry x + uptoBulkEntries r
def uptoBulkEntry {H : Type} : Lit × DataW H → Nat
  | (.string bytes, d) => bytes.length + uptoBulk d + 1
  | (_, d) => uptoBulk d + 1
 end
def uptoSmall : (H : Type) → List (DataW H) → Bool := fun _ ds => decide (uptoBulkAll ds ≤ 1048576)
def OpenSpec.upto (s : _root_.Go.ChangeSpec) : _root_.Go.OpenSpec := { _root_.Go.OpenSpec.ofChange s with cond := some uptoSmall }

/-- 'laws.FnExactProgramSame', WHERE WHAT IT READS IS OF BULK AT MOST 1048576: true; the input reads as it did. -/
def fnExactProgramSameUptoRow : OpenClaim := { program := "ytgkpfkfomonmgaagreat", sum := "ef944e177bb0e0fcecebdbe906b89d5871498eedc8013a7453e763873a4184cb", func := "loop.example/turnedsafely/laws.FnExactProgramSame", spec := "fnExactProgramSame", inPlace := ["internal/bytealg.IndexByteString", "internal/bytealg.IndexString"], unfollowed := true, recurses := true, named := ["internal/bytealg.MaxLen"], loops := true, apart := false, narrowed := true }
def FnExactProgramSameUptoSaid : Prop := fnExactProgramSameUptoRow.holds Tryz.pinned (OpenSpec.upto fnExactProgramSameSpec)

/-- 'laws.FnSimpleRule', WHERE WHAT IT READS IS OF BULK AT MOST 1048576: true; the input reads as it did. -/
def fnSimpleRuleUptoRow : OpenClaim := { program := "ytgkpfkfomonmgaagreat", sum := "ef944e177bb0e0fcecebdbe906b89d5871498eedc8013a7453e763873a4184cb", func := "loop.example/turnedsafely/laws.FnSimpleRule", spec := "fnSimpleRule", inPlace := ["internal/bytealg.IndexByteString", "internal/bytealg.IndexString"], unfollowed := true, recurses := true, named := ["internal/bytealg.MaxLen"], apart := false, narrowed := true }
def FnSimpleRuleUptoSaid : Prop := fnSimpleRuleUptoRow.holds Tryz.pinned (OpenSpec.upto fnSimpleRuleSpec)

/-- 'laws.FnProgramSize', WHERE WHAT IT READS IS OF BULK AT MOST 1048576: true; the input reads as it did. -/
def fnProgramSizeUptoRow : OpenClaim := { program := "ytgkpfkfomonmgaagreat", sum := "ef944e177bb0e0fcecebdbe906b89d5871498eedc8013a7453e763873a4184cb", func := "loop.example/turnedsafely/laws.FnProgramSize", spec := "fnProgramSize", inPlace := ["internal/bytealg.IndexByteString", "internal/bytealg.IndexString"], unfollowed := true, recurses := true, named := ["internal/bytealg.MaxLen"], apart := false, narrowed := true }
def FnProgramSizeUptoSaid : Prop := fnProgramSizeUptoRow.holds Tryz.pinned (OpenSpec.upto fnProgramSizeSpec)

/-- 'laws.FnSimpleAll', WHERE WHAT IT READS IS OF BULK AT MOST 1048576: true; the input reads as it did. -/
def fnSimpleAllUptoRow : OpenClaim := { program := "ytgkpfkfomonmgaagreat", sum := "ef944e177bb0e0fcecebdbe906b89d5871498eedc8013a7453e763873a4184cb", func := "loop.example/turnedsafely/laws.FnSimpleAll", spec := "fnSimpleAll", inPlace := ["internal/bytealg.IndexByteString", "internal/bytealg.IndexString"], unfollowed := true, recurses := true, named := ["internal/bytealg.MaxLen"], apart := false, narrowed := true }
def FnSimpleAllUptoSaid : Prop := fnSimpleAllUptoRow.holds Tryz.pinned (OpenSpec.upto fnSimpleAllSpec)

/-- 'laws.FnExactMoveDecl', WHERE WHAT IT READS IS OF BULK AT MOST 1048576: true; the input reads as it did. -/
def fnExactMoveDeclUptoRow : OpenClaim := { program := "ytgkpfkfomonmgaagreat", sum := "ef944e177bb0e0fcecebdbe906b89d5871498eedc8013a7453e763873a4184cb", func := "loop.example/turnedsafely/laws.FnExactMoveDecl", spec := "fnExactMoveDecl", inPlace := ["internal/bytealg.IndexByteString", "internal/bytealg.IndexString"], unfollowed := true, recurses := true, named := ["internal/bytealg.MaxLen"], loops := true, apart := false, narrowed := true }
def FnExactMoveDeclUptoSaid : Prop := fnExactMoveDeclUptoRow.holds Tryz.pinned (OpenSpec.upto fnExactMoveDeclSpec)

/-- 'laws.FnDeclOf', WHERE WHAT IT READS IS OF BULK AT MOST 1048576: true; the input reads as it did. -/
def fnDeclOfUptoRow : OpenClaim := { program := "ytgkpfkfomonmgaagreat", sum := "ef944e177bb0e0fcecebdbe906b89d5871498eedc8013a7453e763873a4184cb", func := "loop.example/turnedsafely/laws.FnDeclOf", spec := "fnDeclOf", inPlace := ["internal/bytealg.IndexByteString", "internal/bytealg.IndexString"], unfollowed := true, recurses := true, named := ["internal/bytealg.MaxLen"], apart := false, narrowed := true }
def FnDeclOfUptoSaid : Prop := fnDeclOfUptoRow.holds Tryz.pinned (OpenSpec.upto fnDeclOfSpec)

/-- 'laws.FnExactProgramLike', WHERE WHAT IT READS IS OF BULK AT MOST 1048576: true; the input reads as it did. -/
def fnExactProgramLikeUptoRow : OpenClaim := { program := "ytgkpfkfomonmgaagreat", sum := "ef944e177bb0e0fcecebdbe906b89d5871498eedc8013a7453e763873a4184cb", func := "loop.example/turnedsafely/laws.FnExactProgramLike", spec := "fnExactProgramLike", inPlace := ["internal/bytealg.IndexByteString", "internal/bytealg.IndexString"], unfollowed := true, recurses := true, named := ["internal/bytealg.MaxLen"], loops := true, apart := false, narrowed := true }
def FnExactProgramLikeUptoSaid : Prop := fnExactProgramLikeUptoRow.holds Tryz.pinned (OpenSpec.upto fnExactProgramLikeSpec)

/-- 'laws.FnValueTyped', WHERE WHAT IT READS IS OF BULK AT MOST 1048576: true; the input reads as it did. -/
def fnValueTypedUptoRow : OpenClaim := { program := "ytgkpfkfomonmgaagreat", sum := "ef944e177bb0e0fcecebdbe906b89d5871498eedc8013a7453e763873a4184cb", func := "loop.example/turnedsafely/laws.FnValueTyped", spec := "fnValueTyped", inPlace := ["internal/bytealg.IndexByteString", "internal/bytealg.IndexString"], unfollowed := true, recurses := true, named := ["internal/bytealg.MaxLen"], apart := false, narrowed := true }
def FnValueTypedUptoSaid : Prop := fnValueTypedUptoRow.holds Tryz.pinned (OpenSpec.upto fnValueTypedSpec)

end Rows
end Go.Proofs.YtgkpfkfomonmgaaGreat
