/-
  NARROWER THAN 'FOR EVERY INPUT', by the rows' own cells (each row's printed sentence says how): FnExactProgramLike: loops · FnExactValueTyped: loops · FnExactProgramTyped: loops · FnExactMayDo: loops · FnExactMostSteps: loops.
  DERIVED. THE GIVEN ROWS OF THIS SEAT. 5 by the template 'for every input the law returns true; each argument reads behind the call as it read before'; 0 by the template 'total and deterministic' (their statements: YtnkakbpefcoanaaGreatTotals.lean).
  GIVEN WITH THE SEED: the statements are not yours to turn. If you find one false, say at which input.
  Laid BY PROGRAM, IN A SANDBOX (cutbox-rows.mjs): the forced cells as the released guide's own fill.sh prints them over the translation 47f118d75ad66010… (all of the seat's roots in one cut). By AI agents, Wed Nov 11 2026. No macro, syntax, notation, axiom, sorry.
-/
import Derived.Test.YtnkakbpefcoanaaGreatChecked
import GoSem.Claim
import GoSem.ClaimJoined
import GoSem.ClaimMapViews
import Derived.JoinedTies
import Derived.KernelRfl
namespace Go.Proofs.YtnkakbpefcoanaaGreat
/- THE CELL 'sum', in the pinned program and in every row, IS THE sha256 OF THE DUMP (.gsa) THAT YtnkakbpefcoanaaGreatProg.lean LOADS. Nothing in Lean hashes anything: it is a label: what it is worth is what the hold of that sum in a sandbox is worth. -/
noncomputable def Tryz.pinned : Pinned := { name := "ytnkakbpefcoanaagreat", sum := "47f118d75ad66010f5d52f915ec385357a16535de1606d8a61d797d23451200d", checked := Tryz.checked }
namespace Rows
def none {H : Type} : Left H := { results := [], args := [] }

/-- 'laws.FnExactProgramLike': WHATEVER THE INPUT: true; the input reads as it did. -/
def fnExactProgramLikeSpec : ChangeSpec := { name := "fnExactProgramLike", fn := fun _ => fun
  | [d1, d2] => { results := [.lit (.bool true)], args := [d1, d2] }
  | _ => none }
def fnExactProgramLikeRow : OpenClaim := { program := "ytnkakbpefcoanaagreat", sum := "47f118d75ad66010f5d52f915ec385357a16535de1606d8a61d797d23451200d", func := "loop.example/turnedsafely/laws.FnExactProgramLike", spec := "fnExactProgramLike", inPlace := ["internal/bytealg.IndexByteString", "internal/bytealg.IndexString"], unfollowed := true, recurses := true, named := ["internal/bytealg.MaxLen"], loops := true, plainKeys := false, apart := false }
def FnExactProgramLikeSaid : Prop := fnExactProgramLikeRow.holds Tryz.pinned (OpenSpec.ofChange fnExactProgramLikeSpec)

/-- ITS FALSE NEIGHBOUR: 'it returns false'. Refute it at one input. -/
def fnExactProgramLikeWrong : ChangeSpec := { name := "fnExactProgramLike", fn := fun _ => fun
  | [d1, d2] => { results := [.lit (.bool false)], args := [d1, d2] }
  | _ => none }
def FnExactProgramLikeWrongFalsely : Prop := fnExactProgramLikeRow.holds Tryz.pinned (OpenSpec.ofChange fnExactProgramLikeWrong)

/-- 'laws.FnExactValueTyped': WHATEVER THE INPUT: true; the input reads as it did. -/
def fnExactValueTypedSpec : ChangeSpec := { name := "fnExactValueTyped", fn := fun _ => fun
  | [d1, d2, d3] => { results := [.lit (.bool true)], args := [d1, d2, d3] }
  | _ => none }
def fnExactValueTypedRow : OpenClaim := { program := "ytnkakbpefcoanaagreat", sum := "47f118d75ad66010f5d52f915ec385357a16535de1606d8a61d797d23451200d", func := "loop.example/turnedsafely/laws.FnExactValueTyped", spec := "fnExactValueTyped", inPlace := ["internal/bytealg.IndexByteString", "internal/bytealg.IndexString"], unfollowed := true, recurses := true, named := ["internal/bytealg.MaxLen"], loops := true, plainKeys := false, apart := false }
def FnExactValueTypedSaid : Prop := fnExactValueTypedRow.holds Tryz.pinned (OpenSpec.ofChange fnExactValueTypedSpec)

/-- ITS FALSE NEIGHBOUR: 'it returns false'. Refute it at one input. -/
def fnExactValueTypedWrong : ChangeSpec := { name := "fnExactValueTyped", fn := fun _ => fun
  | [d1, d2, d3] => { results := [.lit (.bool false)], args := [d1, d2, d3] }
  | _ => none }
def FnExactValueTypedWrongFalsely : Prop := fnExactValueTypedRow.holds Tryz.pinned (OpenSpec.ofChange fnExactValueTypedWrong)

/-- 'laws.FnExactProgramTyped': WHATEVER THE INPUT: true; the input reads as it did. -/
def fnExactProgramTypedSpec : ChangeSpec := { name := "fnExactProgramTyped", fn := fun _ => fun
  | [d] => { results := [.lit (.bool true)], args := [d] }
  | _ => none }
def fnExactProgramTypedRow : OpenClaim := { program := "ytnkakbpefcoanaagreat", sum := "47f118d75ad66010f5d52f915ec385357a16535de1606d8a61d797d23451200d", func := "loop.example/turnedsafely/laws.FnExactProgramTyped", spec := "fnExactProgramTyped", inPlace := ["internal/bytealg.IndexByteString", "internal/bytealg.IndexString"], unfollowed := true, recurses := true, named := ["internal/bytealg.MaxLen"], loops := true, plainKeys := false, apart := false }
def FnExactProgramTypedSaid : Prop := fnExactProgramTypedRow.holds Tryz.pinned (OpenSpec.ofChange fnExactProgramTypedSpec)

/-- ITS FALSE NEIGHBOUR: 'it returns false'. Refute it at one input. -/
def fnExactProgramTypedWrong : ChangeSpec := { name := "fnExactProgramTyped", fn := fun _ => fun
  | [d] => { results := [.lit (.bool false)], args := [d] }
  | _ => none }
def FnExactProgramTypedWrongFalsely : Prop := fnExactProgramTypedRow.holds Tryz.pinned (OpenSpec.ofChange fnExactProgramTypedWrong)

/-- 'laws.FnExactMayDo': WHATEVER THE INPUT: true; the input reads as it did. -/
def fnExactMayDoSpec : ChangeSpec := { name := "fnExactMayDo", fn := fun _ => fun
  | [d1, d2, d3] => { results := [.lit (.bool true)], args := [d1, d2, d3] }
  | _ => none }
def fnExactMayDoRow : OpenClaim := { program := "ytnkakbpefcoanaagreat", sum := "47f118d75ad66010f5d52f915ec385357a16535de1606d8a61d797d23451200d", func := "loop.example/turnedsafely/laws.FnExactMayDo", spec := "fnExactMayDo", inPlace := ["internal/bytealg.IndexByteString", "internal/bytealg.IndexString"], unfollowed := true, recurses := true, named := ["internal/bytealg.MaxLen"], loops := true, plainKeys := false, apart := false }
def FnExactMayDoSaid : Prop := fnExactMayDoRow.holds Tryz.pinned (OpenSpec.ofChange fnExactMayDoSpec)

/-- ITS FALSE NEIGHBOUR: 'it returns false'. Refute it at one input. -/
def fnExactMayDoWrong : ChangeSpec := { name := "fnExactMayDo", fn := fun _ => fun
  | [d1, d2, d3] => { results := [.lit (.bool false)], args := [d1, d2, d3] }
  | _ => none }
def FnExactMayDoWrongFalsely : Prop := fnExactMayDoRow.holds Tryz.pinned (OpenSpec.ofChange fnExactMayDoWrong)

/-- 'laws.FnExactMostSteps': WHATEVER THE INPUT: true; the input reads as it did. -/
def fnExactMostStepsSpec : ChangeSpec := { name := "fnExactMostSteps", fn := fun _ => fun
  | [d1, d2, d3] => { results := [.lit (.bool true)], args := [d1, d2, d3] }
  | _ => none }
def fnExactMostStepsRow : OpenClaim := { program := "ytnkakbpefcoanaagreat", sum := "47f118d75ad66010f5d52f915ec385357a16535de1606d8a61d797d23451200d", func := "loop.example/turnedsafely/laws.FnExactMostSteps", spec := "fnExactMostSteps", inPlace := ["internal/bytealg.IndexByteString", "internal/bytealg.IndexString"], unfollowed := true, recurses := true, named := ["internal/bytealg.MaxLen"], loops := true, plainKeys := false, apart := false }
def FnExactMostStepsSaid : Prop := fnExactMostStepsRow.holds Tryz.pinned (OpenSpec.ofChange fnExactMostStepsSpec)

/-- ITS FALSE NEIGHBOUR: 'it returns false'. Refute it at one input. -/
def fnExactMostStepsWrong : ChangeSpec := { name := "fnExactMostSteps", fn := fun _ => fun
  | [d1, d2, d3] => { results := [.lit (.bool false)], args := [d1, d2, d3] }
  | _ => none }
def FnExactMostStepsWrongFalsely : Prop := fnExactMostStepsRow.holds Tryz.pinned (OpenSpec.ofChange fnExactMostStepsWrong)

/- THE SECOND FORM. 'bulk': how many values and letters a reading holds, each counted each time it is reached (what is shared counts as often as it is met; a slice's spare places count too). A statement '..UptoSaid' is the law's where the arguments, and the package variables that the reading takes, are together of bulk at most 1048576: NARROWER than '..Said'. Prove '..Said' where nothing that the law and all that it calls make is longer than what came in: it says more and counts as full. Else prove '..UptoSaid'. A law counts once. -/
mutual
def uptoBulk {H : Type} : DataW H → Nat
  | .lit (.string bytes) => bytes.length + 1
  | .lit _ => 1
  | .nil => 1
  | .ptr d => uptoBulk d + 1
  | .slice elems spare => uptoBulkAll elems + uptoBulkAll spare + 1
  | .agg parts => uptoBulkAll parts + 1
  | .iface _ d => uptoBulk d + 1
  | .map entries => uptoBulkEntries entries + 1
  | .held _ => 1
def uptoBulkAll {H : Type} : List (DataW H) → Nat
  | [] => 0
  | d :: r => uptoBulk d + uptoBulkAll r
def uptoBulkEntries {H : Type} : List (Lit × DataW H) → Nat
  | [] => 0
  | x :: r => uptoBulkEntry x + uptoBulkEntries r
def uptoBulkEntry {H : Type} : Lit × DataW H → Nat
  | (.string bytes, d) => bytes.length + uptoBulk d + 1
  | (_, d) => uptoBulk d + 1
 end
def uptoSmall : (H : Type) → List (DataW H) → Bool := fun _ ds => decide (uptoBulkAll ds ≤ 1048576)
def OpenSpec.upto (s : _root_.Go.ChangeSpec) : _root_.Go.OpenSpec := { _root_.Go.OpenSpec.ofChange s with cond := some uptoSmall }

/-- 'laws.FnExactProgramLike', WHERE WHAT IT READS IS OF BULK AT MOST 1048576: true; the input reads as it did. -/
def fnExactProgramLikeUptoRow : OpenClaim := { program := "ytnkakbpefcoanaagreat", sum := "47f118d75ad66010f5d52f915ec385357a16535de1606d8a61d797d23451200d", func := "loop.example/turnedsafely/laws.FnExactProgramLike", spec := "fnExactProgramLike", inPlace := ["internal/bytealg.IndexByteString", "internal/bytealg.IndexString"], unfollowed := true, recurses := true, named := ["internal/bytealg.MaxLen"], loops := true, plainKeys := false, apart := false, narrowed := true }
def FnExactProgramLikeUptoSaid : Prop := fnExactProgramLikeUptoRow.holds Tryz.pinned (OpenSpec.upto fnExactProgramLikeSpec)

/-- 'laws.FnExactValueTyped', WHERE WHAT IT READS IS OF BULK AT MOST 1048576: true; the input reads as it did. -/
def fnExactValueTypedUptoRow : OpenClaim := { program := "ytnkakbpefcoanaagreat", sum := "47f118d75ad66010f5d52f915ec385357a16535de1606d8a61d797d23451200d", func := "loop.example/turnedsafely/laws.FnExactValueTyped", spec := "fnExactValueTyped", inPlace := ["internal/bytealg.IndexByteString", "internal/bytealg.IndexString"], unfollowed := true, recurses := true, named := ["internal/bytealg.MaxLen"], loops := true, plainKeys := false, apart := false, narrowed := true }
def FnExactValueTypedUptoSaid : Prop := fnExactValueTypedUptoRow.holds Tryz.pinned (OpenSpec.upto fnExactValueTypedSpec)

/-- 'laws.FnExactProgramTyped', WHERE WHAT IT READS IS OF BULK AT MOST 1048576: true; the input reads as it did. -/
def fnExactProgramTypedUptoRow : OpenClaim := { program := "ytnkakbpefcoanaagreat", sum := "47f118d75ad66010f5d52f915ec385357a16535de1606d8a61d797d23451200d", func := "loop.example/turnedsafely/laws.FnExactProgramTyped", spec := "fnExactProgramTyped", inPlace := ["internal/bytealg.IndexByteString", "internal/bytealg.IndexString"], unfollowed := true, recurses := true, named := ["internal/bytealg.MaxLen"], loops := true, plainKeys := false, apart := false, narrowed := true }
def FnExactProgramTypedUptoSaid : Prop := fnExactProgramTypedUptoRow.holds Tryz.pinned (OpenSpec.upto fnExactProgramTypedSpec)

/-- 'laws.FnExactMayDo', WHERE WHAT IT READS IS OF BULK AT MOST 1048576: true; the input reads as it did. -/
def fnExactMayDoUptoRow : OpenClaim := { program := "ytnkakbpefcoanaagreat", sum := "47f118d75ad66010f5d52f915ec385357a16535de1606d8a61d797d23451200d", func := "loop.example/turnedsafely/laws.FnExactMayDo", spec := "fnExactMayDo", inPlace := ["internal/bytealg.IndexByteString", "internal/bytealg.IndexString"], unfollowed := true, recurses := true, named := ["internal/bytealg.MaxLen"], loops := true, plainKeys := false, apart := false, narrowed := true }
def FnExactMayDoUptoSaid : Prop := fnExactMayDoUptoRow.holds Tryz.pinned (OpenSpec.upto fnExactMayDoSpec)

/-- 'laws.FnExactMostSteps', WHERE WHAT IT READS IS OF BULK AT MOST 1048576: true; the input reads as it did. -/
def fnExactMostStepsUptoRow : OpenClaim := { program := "ytnkakbpefcoanaagreat", sum := "47f118d75ad66010f5d52f915ec385357a16535de1606d8a61d797d23451200d", func := "loop.example/turnedsafely/laws.FnExactMostSteps", spec := "fnExactMostSteps", inPlace := ["internal/bytealg.IndexByteString", "internal/bytealg.IndexString"], unfollowed := true, recurses := true, named := ["internal/bytealg.MaxLen"], loops := true, plainKeys := false, apart := false, narrowed := true }
def FnExactMostStepsUptoSaid : Prop := fnExactMostStepsUptoRow.holds Tryz.pinned (OpenSpec.upto fnExactMostStepsSpec)

end Rows
end Go.Proofs.YtnkakbpefcoanaaGreat
