/-
  No cell of these rows narrows 'for every input' (looked for: loops, veiled, ifaces, maps, wideKeys, modest, calm, conditions, laid).
  DERIVED. THE GIVEN ROWS OF THIS SEAT. 13 by the template 'for every input the law returns true; each argument reads behind the call as it read before'; 0 by the template 'total and deterministic' (their statements: YtkkfnpbbigcpbaaTotals.lean).
  GIVEN WITH THE SEED: the statements are not yours to turn. If you find one false, say at which input.
  Laid BY PROGRAM, IN A SANDBOX (cutbox-rows.mjs): the forced cells as the released guide's own fill.sh prints them over the translation 01481dc88398f004… (all of the seat's roots in one cut). By AI agents, Wed Nov 11 2026. No macro, syntax, notation, axiom, sorry.
-/
import Derived.Test.YtkkfnpbbigcpbaaChecked
import GoSem.Claim
import GoSem.ClaimJoined
import GoSem.ClaimMapViews
import Derived.JoinedTies
import Derived.KernelRfl
namespace Go.Proofs.Ytkkfnpbbigcpbaa
/- THE CELL 'sum', in the pinned program and in every row, IS THE sha256 OF THE DUMP (.gsa) THAT YtkkfnpbbigcpbaaProg.lean LOADS. Nothing in Lean hashes anything: it is a label: what it is worth is what the hold of that sum in a sandbox is worth. -/
noncomputable def Try.pinned : Pinned := { name := "ytkkfnpbbigcpbaa", sum := "01481dc88398f004fbcb60480cb0d6d057b498f9b14bd0c22763bba65e9c3587", checked := Try.checked }
namespace Rows
def none {H : Type} : Left H := { results := [], args := [] }

/-- 'parterrelaw07.NameRefs': WHATEVER THE INPUT: true; the input reads as it did. -/
def nameRefsSpec : ChangeSpec := { name := "nameRefs", fn := fun _ => fun
  | [d] => { results := [.lit (.bool true)], args := [d] }
  | _ => none }
def nameRefsRow : OpenClaim := { program := "ytkkfnpbbigcpbaa", sum := "01481dc88398f004fbcb60480cb0d6d057b498f9b14bd0c22763bba65e9c3587", func := "parterre/parterrelaw07.NameRefs", spec := "nameRefs", inPlace := ["internal/abi.NoEscape"], apart := false }
def NameRefsSaid : Prop := nameRefsRow.holds Try.pinned (OpenSpec.ofChange nameRefsSpec)

/-- ITS FALSE NEIGHBOUR: 'it returns false'. Refute it at one input. -/
def nameRefsWrong : ChangeSpec := { name := "nameRefs", fn := fun _ => fun
  | [d] => { results := [.lit (.bool false)], args := [d] }
  | _ => none }
def NameRefsWrongFalsely : Prop := nameRefsRow.holds Try.pinned (OpenSpec.ofChange nameRefsWrong)

/-- 'parterrelaw07.NameOrders': WHATEVER THE INPUT: true; the input reads as it did. -/
def nameOrdersSpec : ChangeSpec := { name := "nameOrders", fn := fun _ => fun
  | [d1, d2] => { results := [.lit (.bool true)], args := [d1, d2] }
  | _ => none }
def nameOrdersRow : OpenClaim := { program := "ytkkfnpbbigcpbaa", sum := "01481dc88398f004fbcb60480cb0d6d057b498f9b14bd0c22763bba65e9c3587", func := "parterre/parterrelaw07.NameOrders", spec := "nameOrders", inPlace := ["internal/abi.NoEscape"], apart := false }
def NameOrdersSaid : Prop := nameOrdersRow.holds Try.pinned (OpenSpec.ofChange nameOrdersSpec)

/-- ITS FALSE NEIGHBOUR: 'it returns false'. Refute it at one input. -/
def nameOrdersWrong : ChangeSpec := { name := "nameOrders", fn := fun _ => fun
  | [d1, d2] => { results := [.lit (.bool false)], args := [d1, d2] }
  | _ => none }
def NameOrdersWrongFalsely : Prop := nameOrdersRow.holds Try.pinned (OpenSpec.ofChange nameOrdersWrong)

/-- 'parterrelaw08.DartEnds': WHATEVER THE INPUT: true; the input reads as it did. -/
def dartEndsSpec : ChangeSpec := { name := "dartEnds", fn := fun _ => fun
  | [d1, d2, d3] => { results := [.lit (.bool true)], args := [d1, d2, d3] }
  | _ => none }
def dartEndsRow : OpenClaim := { program := "ytkkfnpbbigcpbaa", sum := "01481dc88398f004fbcb60480cb0d6d057b498f9b14bd0c22763bba65e9c3587", func := "parterre/parterrelaw08.DartEnds", spec := "dartEnds", apart := false }
def DartEndsSaid : Prop := dartEndsRow.holds Try.pinned (OpenSpec.ofChange dartEndsSpec)

/-- ITS FALSE NEIGHBOUR: 'it returns false'. Refute it at one input. -/
def dartEndsWrong : ChangeSpec := { name := "dartEnds", fn := fun _ => fun
  | [d1, d2, d3] => { results := [.lit (.bool false)], args := [d1, d2, d3] }
  | _ => none }
def DartEndsWrongFalsely : Prop := dartEndsRow.holds Try.pinned (OpenSpec.ofChange dartEndsWrong)

/-- 'parterrelaw05.SpaceFirst': WHATEVER THE INPUT: true; the input reads as it did. -/
def spaceFirstSpec : ChangeSpec := { name := "spaceFirst", fn := fun _ => fun
  | [d1, d2, d3] => { results := [.lit (.bool true)], args := [d1, d2, d3] }
  | _ => none }
def spaceFirstRow : OpenClaim := { program := "ytkkfnpbbigcpbaa", sum := "01481dc88398f004fbcb60480cb0d6d057b498f9b14bd0c22763bba65e9c3587", func := "parterre/parterrelaw05.SpaceFirst", spec := "spaceFirst", unfollowed := true, recurses := true, apart := false }
def SpaceFirstSaid : Prop := spaceFirstRow.holds Try.pinned (OpenSpec.ofChange spaceFirstSpec)

/-- ITS FALSE NEIGHBOUR: 'it returns false'. Refute it at one input. -/
def spaceFirstWrong : ChangeSpec := { name := "spaceFirst", fn := fun _ => fun
  | [d1, d2, d3] => { results := [.lit (.bool false)], args := [d1, d2, d3] }
  | _ => none }
def SpaceFirstWrongFalsely : Prop := spaceFirstRow.holds Try.pinned (OpenSpec.ofChange spaceFirstWrong)

/-- 'parterrelaw05.SpaceBack': WHATEVER THE INPUT: true; the input reads as it did. -/
def spaceBackSpec : ChangeSpec := { name := "spaceBack", fn := fun _ => fun
  | [d1, d2, d3] => { results := [.lit (.bool true)], args := [d1, d2, d3] }
  | _ => none }
def spaceBackRow : OpenClaim := { program := "ytkkfnpbbigcpbaa", sum := "01481dc88398f004fbcb60480cb0d6d057b498f9b14bd0c22763bba65e9c3587", func := "parterre/parterrelaw05.SpaceBack", spec := "spaceBack", unfollowed := true, recurses := true, apart := false }
def SpaceBackSaid : Prop := spaceBackRow.holds Try.pinned (OpenSpec.ofChange spaceBackSpec)

/-- ITS FALSE NEIGHBOUR: 'it returns false'. Refute it at one input. -/
def spaceBackWrong : ChangeSpec := { name := "spaceBack", fn := fun _ => fun
  | [d1, d2, d3] => { results := [.lit (.bool false)], args := [d1, d2, d3] }
  | _ => none }
def SpaceBackWrongFalsely : Prop := spaceBackRow.holds Try.pinned (OpenSpec.ofChange spaceBackWrong)

/-- 'parterrelaw05.SpaceNil': WHATEVER THE INPUT: true; the input reads as it did. -/
def spaceNilSpec : ChangeSpec := { name := "spaceNil", fn := fun _ => fun
  | [d1, d2] => { results := [.lit (.bool true)], args := [d1, d2] }
  | _ => none }
def spaceNilRow : OpenClaim := { program := "ytkkfnpbbigcpbaa", sum := "01481dc88398f004fbcb60480cb0d6d057b498f9b14bd0c22763bba65e9c3587", func := "parterre/parterrelaw05.SpaceNil", spec := "spaceNil", unfollowed := true, recurses := true, apart := false }
def SpaceNilSaid : Prop := spaceNilRow.holds Try.pinned (OpenSpec.ofChange spaceNilSpec)

/-- ITS FALSE NEIGHBOUR: 'it returns false'. Refute it at one input. -/
def spaceNilWrong : ChangeSpec := { name := "spaceNil", fn := fun _ => fun
  | [d1, d2] => { results := [.lit (.bool false)], args := [d1, d2] }
  | _ => none }
def SpaceNilWrongFalsely : Prop := spaceNilRow.holds Try.pinned (OpenSpec.ofChange spaceNilWrong)

/-- 'parterrelaw08.DartTurns': WHATEVER THE INPUT: true; the input reads as it did. -/
def dartTurnsSpec : ChangeSpec := { name := "dartTurns", fn := fun _ => fun
  | [d1, d2, d3] => { results := [.lit (.bool true)], args := [d1, d2, d3] }
  | _ => none }
def dartTurnsRow : OpenClaim := { program := "ytkkfnpbbigcpbaa", sum := "01481dc88398f004fbcb60480cb0d6d057b498f9b14bd0c22763bba65e9c3587", func := "parterre/parterrelaw08.DartTurns", spec := "dartTurns", unfollowed := true, recurses := true, apart := false }
def DartTurnsSaid : Prop := dartTurnsRow.holds Try.pinned (OpenSpec.ofChange dartTurnsSpec)

/-- ITS FALSE NEIGHBOUR: 'it returns false'. Refute it at one input. -/
def dartTurnsWrong : ChangeSpec := { name := "dartTurns", fn := fun _ => fun
  | [d1, d2, d3] => { results := [.lit (.bool false)], args := [d1, d2, d3] }
  | _ => none }
def DartTurnsWrongFalsely : Prop := dartTurnsRow.holds Try.pinned (OpenSpec.ofChange dartTurnsWrong)

/-- 'parterrelaw08.DartBegins': WHATEVER THE INPUT: true; the input reads as it did. -/
def dartBeginsSpec : ChangeSpec := { name := "dartBegins", fn := fun _ => fun
  | [d1, d2, d3, d4] => { results := [.lit (.bool true)], args := [d1, d2, d3, d4] }
  | _ => none }
def dartBeginsRow : OpenClaim := { program := "ytkkfnpbbigcpbaa", sum := "01481dc88398f004fbcb60480cb0d6d057b498f9b14bd0c22763bba65e9c3587", func := "parterre/parterrelaw08.DartBegins", spec := "dartBegins", unfollowed := true, recurses := true, apart := false }
def DartBeginsSaid : Prop := dartBeginsRow.holds Try.pinned (OpenSpec.ofChange dartBeginsSpec)

/-- ITS FALSE NEIGHBOUR: 'it returns false'. Refute it at one input. -/
def dartBeginsWrong : ChangeSpec := { name := "dartBegins", fn := fun _ => fun
  | [d1, d2, d3, d4] => { results := [.lit (.bool false)], args := [d1, d2, d3, d4] }
  | _ => none }
def DartBeginsWrongFalsely : Prop := dartBeginsRow.holds Try.pinned (OpenSpec.ofChange dartBeginsWrong)

/-- 'parterrelaw03.WireNil': WHATEVER THE INPUT: true; the input reads as it did. -/
def wireNilSpec : ChangeSpec := { name := "wireNil", fn := fun _ => fun
  | [] => { results := [.lit (.bool true)], args := [] }
  | _ => none }
def wireNilRow : OpenClaim := { program := "ytkkfnpbbigcpbaa", sum := "01481dc88398f004fbcb60480cb0d6d057b498f9b14bd0c22763bba65e9c3587", func := "parterre/parterrelaw03.WireNil", spec := "wireNil", inPlace := ["internal/abi.NoEscape", "internal/bytealg.MakeNoZero"], apart := false }
def WireNilSaid : Prop := wireNilRow.holds Try.pinned (OpenSpec.ofChange wireNilSpec)

/-- ITS FALSE NEIGHBOUR: 'it returns false'. Refute it at one input. -/
def wireNilWrong : ChangeSpec := { name := "wireNil", fn := fun _ => fun
  | [] => { results := [.lit (.bool false)], args := [] }
  | _ => none }
def WireNilWrongFalsely : Prop := wireNilRow.holds Try.pinned (OpenSpec.ofChange wireNilWrong)

/-- 'parterrelaw03.WireLays': WHATEVER THE INPUT: true; the input reads as it did. -/
def wireLaysSpec : ChangeSpec := { name := "wireLays", fn := fun _ => fun
  | [d1, d2, d3, d4, d5] => { results := [.lit (.bool true)], args := [d1, d2, d3, d4, d5] }
  | _ => none }
def wireLaysRow : OpenClaim := { program := "ytkkfnpbbigcpbaa", sum := "01481dc88398f004fbcb60480cb0d6d057b498f9b14bd0c22763bba65e9c3587", func := "parterre/parterrelaw03.WireLays", spec := "wireLays", inPlace := ["internal/abi.NoEscape", "internal/bytealg.MakeNoZero"], unfollowed := true, recurses := true, apart := false }
def WireLaysSaid : Prop := wireLaysRow.holds Try.pinned (OpenSpec.ofChange wireLaysSpec)

/-- ITS FALSE NEIGHBOUR: 'it returns false'. Refute it at one input. -/
def wireLaysWrong : ChangeSpec := { name := "wireLays", fn := fun _ => fun
  | [d1, d2, d3, d4, d5] => { results := [.lit (.bool false)], args := [d1, d2, d3, d4, d5] }
  | _ => none }
def WireLaysWrongFalsely : Prop := wireLaysRow.holds Try.pinned (OpenSpec.ofChange wireLaysWrong)

/-- 'parterrelaw07.NameFiles': WHATEVER THE INPUT: true; the input reads as it did. -/
def nameFilesSpec : ChangeSpec := { name := "nameFiles", fn := fun _ => fun
  | [d1, d2] => { results := [.lit (.bool true)], args := [d1, d2] }
  | _ => none }
def nameFilesRow : OpenClaim := { program := "ytkkfnpbbigcpbaa", sum := "01481dc88398f004fbcb60480cb0d6d057b498f9b14bd0c22763bba65e9c3587", func := "parterre/parterrelaw07.NameFiles", spec := "nameFiles", inPlace := ["internal/abi.NoEscape", "internal/bytealg.IndexByteString", "internal/bytealg.IndexString"], named := ["internal/bytealg.MaxLen"], apart := false }
def NameFilesSaid : Prop := nameFilesRow.holds Try.pinned (OpenSpec.ofChange nameFilesSpec)

/-- ITS FALSE NEIGHBOUR: 'it returns false'. Refute it at one input. -/
def nameFilesWrong : ChangeSpec := { name := "nameFiles", fn := fun _ => fun
  | [d1, d2] => { results := [.lit (.bool false)], args := [d1, d2] }
  | _ => none }
def NameFilesWrongFalsely : Prop := nameFilesRow.holds Try.pinned (OpenSpec.ofChange nameFilesWrong)

/-- 'parterrelaw07.NamePicks': WHATEVER THE INPUT: true; the input reads as it did. -/
def namePicksSpec : ChangeSpec := { name := "namePicks", fn := fun _ => fun
  | [d1, d2] => { results := [.lit (.bool true)], args := [d1, d2] }
  | _ => none }
def namePicksRow : OpenClaim := { program := "ytkkfnpbbigcpbaa", sum := "01481dc88398f004fbcb60480cb0d6d057b498f9b14bd0c22763bba65e9c3587", func := "parterre/parterrelaw07.NamePicks", spec := "namePicks", inPlace := ["internal/abi.NoEscape", "internal/bytealg.IndexByteString", "internal/bytealg.IndexString"], named := ["internal/bytealg.MaxLen"], apart := false }
def NamePicksSaid : Prop := namePicksRow.holds Try.pinned (OpenSpec.ofChange namePicksSpec)

/-- ITS FALSE NEIGHBOUR: 'it returns false'. Refute it at one input. -/
def namePicksWrong : ChangeSpec := { name := "namePicks", fn := fun _ => fun
  | [d1, d2] => { results := [.lit (.bool false)], args := [d1, d2] }
  | _ => none }
def NamePicksWrongFalsely : Prop := namePicksRow.holds Try.pinned (OpenSpec.ofChange namePicksWrong)

/-- 'parterrelaw03.WireBack': WHATEVER THE INPUT: true; the input reads as it did. -/
def wireBackSpec : ChangeSpec := { name := "wireBack", fn := fun _ => fun
  | [d1, d2, d3, d4] => { results := [.lit (.bool true)], args := [d1, d2, d3, d4] }
  | _ => none }
def wireBackRow : OpenClaim := { program := "ytkkfnpbbigcpbaa", sum := "01481dc88398f004fbcb60480cb0d6d057b498f9b14bd0c22763bba65e9c3587", func := "parterre/parterrelaw03.WireBack", spec := "wireBack", inPlace := ["internal/abi.NoEscape", "internal/bytealg.MakeNoZero"], unfollowed := true, recurses := true, apart := false }
def WireBackSaid : Prop := wireBackRow.holds Try.pinned (OpenSpec.ofChange wireBackSpec)

/-- ITS FALSE NEIGHBOUR: 'it returns false'. Refute it at one input. -/
def wireBackWrong : ChangeSpec := { name := "wireBack", fn := fun _ => fun
  | [d1, d2, d3, d4] => { results := [.lit (.bool false)], args := [d1, d2, d3, d4] }
  | _ => none }
def WireBackWrongFalsely : Prop := wireBackRow.holds Try.pinned (OpenSpec.ofChange wireBackWrong)

/- THE SECOND FORM. 'bulk': how many values and letters a reading holds, each counted each time it is reached (what is shared counts as often as it is met; a slice's spare places count too). A statement '..UptoSaid' is the law's where the arguments, and the package variables that the reading takes, are together of bulk at most 1048576: NARROWER than '..Said'. Prove '..Said' where nothing that the law and all that it calls make is longer than what came in: it says more and counts as full. Else prove '..UptoSaid'. A law counts once. -/
mutual
def uptoBulk {H : Type} : DataW H → Nat
  | .lit (.string bytes) => bytes.length + 1
  | .lit _ => 1
  | .nil => 1
  | .ptr d => uptoBulk d + 1
  | .slice elems spare => uptoBulkAll elems + uptoBulkAll spare + 1
  | .agg parts => uptoBulkAll parts + 1
  | .iface _ d => uptoBulk d + 1
  | .map entries => uptoBulkEntries entries + 1
  | .held _ => 1
def uptoBulkAll {H : Type} : List (DataW H) → Nat
  | [] => 0
  | d :: r => uptoBulk d + uptoBulkAll r
def uptoBulkEntries {H : Type} : List (Lit × DataW H) → Nat
  | [] => 0
  | x :: r => uptoBulkEntry x + uptoBulkEntries r
def uptoBulkEntry {H : Type} : Lit × DataW H → Nat
  | (.string bytes, d) => bytes.length + uptoBulk d + 1
  | (_, d) => uptoBulk d + 1
 end
def uptoSmall : (H : Type) → List (DataW H) → Bool := fun _ ds => decide (uptoBulkAll ds ≤ 1048576)
def OpenSpec.upto (s : _root_.Go.ChangeSpec) : _root_.Go.OpenSpec := { _root_.Go.OpenSpec.ofChange s with cond := some uptoSmall }

/-- 'parterrelaw07.NameRefs', WHERE WHAT IT READS IS OF BULK AT MOST 1048576: true; the input reads as it did. -/
def nameRefsUptoRow : OpenClaim := { program := "ytkkfnpbbigcpbaa", sum := "01481dc88398f004fbcb60480cb0d6d057b498f9b14bd0c22763bba65e9c3587", func := "parterre/parterrelaw07.NameRefs", spec := "nameRefs", inPlace := ["internal/abi.NoEscape"], apart := false, narrowed := true }
def NameRefsUptoSaid : Prop := nameRefsUptoRow.holds Try.pinned (OpenSpec.upto nameRefsSpec)

/-- 'parterrelaw07.NameOrders', WHERE WHAT IT READS IS OF BULK AT MOST 1048576: true; the input reads as it did. -/
def nameOrdersUptoRow : OpenClaim := { program := "ytkkfnpbbigcpbaa", sum := "01481dc88398f004fbcb60480cb0d6d057b498f9b14bd0c22763bba65e9c3587", func := "parterre/parterrelaw07.NameOrders", spec := "nameOrders", inPlace := ["internal/abi.NoEscape"], apart := false, narrowed := true }
def NameOrdersUptoSaid : Prop := nameOrdersUptoRow.holds Try.pinned (OpenSpec.upto nameOrdersSpec)

/-- 'parterrelaw08.DartEnds', WHERE WHAT IT READS IS OF BULK AT MOST 1048576: true; the input reads as it did. -/
def dartEndsUptoRow : OpenClaim := { program := "ytkkfnpbbigcpbaa", sum := "01481dc88398f004fbcb60480cb0d6d057b498f9b14bd0c22763bba65e9c3587", func := "parterre/parterrelaw08.DartEnds", spec := "dartEnds", apart := false, narrowed := true }
def DartEndsUptoSaid : Prop := dartEndsUptoRow.holds Try.pinned (OpenSpec.upto dartEndsSpec)

/-- 'parterrelaw05.SpaceFirst', WHERE WHAT IT READS IS OF BULK AT MOST 1048576: true; the input reads as it did. -/
def spaceFirstUptoRow : OpenClaim := { program := "ytkkfnpbbigcpbaa", sum := "01481dc88398f004fbcb60480cb0d6d057b498f9b14bd0c22763bba65e9c3587", func := "parterre/parterrelaw05.SpaceFirst", spec := "spaceFirst", unfollowed := true, recurses := true, apart := false, narrowed := true }
def SpaceFirstUptoSaid : Prop := spaceFirstUptoRow.holds Try.pinned (OpenSpec.upto spaceFirstSpec)

/-- 'parterrelaw05.SpaceBack', WHERE WHAT IT READS IS OF BULK AT MOST 1048576: true; the input reads as it did. -/
def spaceBackUptoRow : OpenClaim := { program := "ytkkfnpbbigcpbaa", sum := "01481dc88398f004fbcb60480cb0d6d057b498f9b14bd0c22763bba65e9c3587", func := "parterre/parterrelaw05.SpaceBack", spec := "spaceBack", unfollowed := true, recurses := true, apart := false, narrowed := true }
def SpaceBackUptoSaid : Prop := spaceBackUptoRow.holds Try.pinned (OpenSpec.upto spaceBackSpec)

/-- 'parterrelaw05.SpaceNil', WHERE WHAT IT READS IS OF BULK AT MOST 1048576: true; the input reads as it did. -/
def spaceNilUptoRow : OpenClaim := { program := "ytkkfnpbbigcpbaa", sum := "01481dc88398f004fbcb60480cb0d6d057b498f9b14bd0c22763bba65e9c3587", func := "parterre/parterrelaw05.SpaceNil", spec := "spaceNil", unfollowed := true, recurses := true, apart := false, narrowed := true }
def SpaceNilUptoSaid : Prop := spaceNilUptoRow.holds Try.pinned (OpenSpec.upto spaceNilSpec)

/-- 'parterrelaw08.DartTurns', WHERE WHAT IT READS IS OF BULK AT MOST 1048576: true; the input reads as it did. -/
def dartTurnsUptoRow : OpenClaim := { program := "ytkkfnpbbigcpbaa", sum := "01481dc88398f004fbcb60480cb0d6d057b498f9b14bd0c22763bba65e9c3587", func := "parterre/parterrelaw08.DartTurns", spec := "dartTurns", unfollowed := true, recurses := true, apart := false, narrowed := true }
def DartTurnsUptoSaid : Prop := dartTurnsUptoRow.holds Try.pinned (OpenSpec.upto dartTurnsSpec)

/-- 'parterrelaw08.DartBegins', WHERE WHAT IT READS IS OF BULK AT MOST 1048576: true; the input reads as it did. -/
def dartBeginsUptoRow : OpenClaim := { program := "ytkkfnpbbigcpbaa", sum := "01481dc88398f004fbcb60480cb0d6d057b498f9b14bd0c22763bba65e9c3587", func := "parterre/parterrelaw08.DartBegins", spec := "dartBegins", unfollowed := true, recurses := true, apart := false, narrowed := true }
def DartBeginsUptoSaid : Prop := dartBeginsUptoRow.holds Try.pinned (OpenSpec.upto dartBeginsSpec)

/-- 'parterrelaw03.WireNil', WHERE WHAT IT READS IS OF BULK AT MOST 1048576: true; the input reads as it did. -/
def wireNilUptoRow : OpenClaim := { program := "ytkkfnpbbigcpbaa", sum := "01481dc88398f004fbcb60480cb0d6d057b498f9b14bd0c22763bba65e9c3587", func := "parterre/parterrelaw03.WireNil", spec := "wireNil", inPlace := ["internal/abi.NoEscape", "internal/bytealg.MakeNoZero"], apart := false, narrowed := true }
def WireNilUptoSaid : Prop := wireNilUptoRow.holds Try.pinned (OpenSpec.upto wireNilSpec)

/-- 'parterrelaw03.WireLays', WHERE WHAT IT READS IS OF BULK AT MOST 1048576: true; the input reads as it did. -/
def wireLaysUptoRow : OpenClaim := { program := "ytkkfnpbbigcpbaa", sum := "01481dc88398f004fbcb60480cb0d6d057b498f9b14bd0c22763bba65e9c3587", func := "parterre/parterrelaw03.WireLays", spec := "wireLays", inPlace := ["internal/abi.NoEscape", "internal/bytealg.MakeNoZero"], unfollowed := true, recurses := true, apart := false, narrowed := true }
def WireLaysUptoSaid : Prop := wireLaysUptoRow.holds Try.pinned (OpenSpec.upto wireLaysSpec)

/-- 'parterrelaw07.NameFiles', WHERE WHAT IT READS IS OF BULK AT MOST 1048576: true; the input reads as it did. -/
def nameFilesUptoRow : OpenClaim := { program := "ytkkfnpbbigcpbaa", sum := "01481dc88398f004fbcb60480cb0d6d057b498f9b14bd0c22763bba65e9c3587", func := "parterre/parterrelaw07.NameFiles", spec := "nameFiles", inPlace := ["internal/abi.NoEscape", "internal/bytealg.IndexByteString", "internal/bytealg.IndexString"], named := ["internal/bytealg.MaxLen"], apart := false, narrowed := true }
def NameFilesUptoSaid : Prop := nameFilesUptoRow.holds Try.pinned (OpenSpec.upto nameFilesSpec)

/-- 'parterrelaw07.NamePicks', WHERE WHAT IT READS IS OF BULK AT MOST 1048576: true; the input reads as it did. -/
def namePicksUptoRow : OpenClaim := { program := "ytkkfnpbbigcpbaa", sum := "01481dc88398f004fbcb60480cb0d6d057b498f9b14bd0c22763bba65e9c3587", func := "parterre/parterrelaw07.NamePicks", spec := "namePicks", inPlace := ["internal/abi.NoEscape", "internal/bytealg.IndexByteString", "internal/bytealg.IndexString"], named := ["internal/bytealg.MaxLen"], apart := false, narrowed := true }
def NamePicksUptoSaid : Prop := namePicksUptoRow.holds Try.pinned (OpenSpec.upto namePicksSpec)

/-- 'parterrelaw03.WireBack', WHERE WHAT IT READS IS OF BULK AT MOST 1048576: true; the input reads as it did. -/
def wireBackUptoRow : OpenClaim := { program := "ytkkfnpbbigcpbaa", sum := "01481dc88398f004fbcb60480cb0d6d057b498f9b14bd0c22763bba65e9c3587", func := "parterre/parterrelaw03.WireBack", spec := "wireBack", inPlace := ["internal/abi.NoEscape", "internal/bytealg.MakeNoZero"], unfollowed := true, recurses := true, apart := false, narrowed := true }
def WireBackUptoSaid : Prop := wireBackUptoRow.holds Try.pinned (OpenSpec.upto wireBackSpec)

end Rows
end Go.Proofs.Ytkkfnpbbigcpbaa
