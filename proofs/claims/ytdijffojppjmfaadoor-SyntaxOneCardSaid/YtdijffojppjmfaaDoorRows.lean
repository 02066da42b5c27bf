/-
  NARROWER THAN 'FOR EVERY INPUT', by the rows' own cells (each row's printed sentence says how): SyntaxParses: laid · SyntaxExprs: laid · SyntaxBrackets: laid · SyntaxBlanks: laid · SyntaxLeft: laid · SyntaxPrefix: laid · SyntaxOne: laid · SyntaxTells: loops, laid · PrintExprs: loops, laid · PrintExprBack: loops, laid.
  DERIVED. THE GIVEN ROWS OF THIS SEAT. 10 by the template 'for every input the law returns true; each argument reads behind the call as it read before'; 0 by the template 'total and deterministic' (their statements: YtdijffojppjmfaaDoorTotals.lean).
  GIVEN WITH THE SEED: the statements are not yours to turn. If you find one false, say at which input.
  Laid BY PROGRAM, IN A SANDBOX (cutbox-rows.mjs): the forced cells as the released guide's own fill.sh prints them over the translation 6f596670b71c24fd… (all of the seat's roots in one cut). By AI agents, Wed Nov 11 2026. No macro, syntax, notation, axiom, sorry.
-/
import Derived.Test.YtdijffojppjmfaaDoorChecked
import GoSem.Claim
import GoSem.ClaimJoined
import GoSem.ClaimMapViews
import Derived.JoinedTies
import Derived.KernelRfl
namespace Go.Proofs.YtdijffojppjmfaaDoor
/- THE CELL 'sum', in the pinned program and in every row, IS THE sha256 OF THE DUMP (.gsa) THAT YtdijffojppjmfaaDoorProg.lean LOADS. Nothing in Lean hashes anything: it is a label: what it is worth is what the hold of that sum in a sandbox is worth. -/
noncomputable def Tryd.pinned : Pinned := { name := "ytdijffojppjmfaadoor", sum := "6f596670b71c24fd3ca99b322d698865d4373a74804ba419254f09aef369aca2", checked := Tryd.checked }
namespace Rows
def none {H : Type} : Left H := { results := [], args := [] }

/- WHAT THE LISTED PACKAGE-LEVEL VARIABLES READ AS WHEN THE CALL BEGINS. Each datum BY PROGRAM (the guide's laid-datum.mjs) off the statement by which the dump's own 'gosem.cut.vars' lays the variable. In a bare row this is a premise. The card (YtdijffojppjmfaaDoorCards.lean) ties it to the program's text. -/
def laid_bireme_syntax_levels {H : Type} : DataW H := .agg [.slice [.lit (.string [124, 124])] [], .slice [.lit (.string [38, 38])] [], .slice [.lit (.string [124])] [], .slice [.lit (.string [94])] [], .slice [.lit (.string [38])] [], .slice [.lit (.string [61, 61]), .lit (.string [33, 61])] [], .slice [.lit (.string [60]), .lit (.string [60, 61]), .lit (.string [62]), .lit (.string [62, 61])] [], .slice [.lit (.string [60, 60]), .lit (.string [62, 62])] [], .slice [.lit (.string [43]), .lit (.string [45])] [], .slice [.lit (.string [42]), .lit (.string [47]), .lit (.string [37])] []]
def laid_math_bits_deBruijn32tab {H : Type} : DataW H := .agg [.lit (.int .u8 0), .lit (.int .u8 1), .lit (.int .u8 28), .lit (.int .u8 2), .lit (.int .u8 29), .lit (.int .u8 14), .lit (.int .u8 24), .lit (.int .u8 3), .lit (.int .u8 30), .lit (.int .u8 22), .lit (.int .u8 20), .lit (.int .u8 15), .lit (.int .u8 25), .lit (.int .u8 17), .lit (.int .u8 4), .lit (.int .u8 8), .lit (.int .u8 31), .lit (.int .u8 27), .lit (.int .u8 13), .lit (.int .u8 23), .lit (.int .u8 21), .lit (.int .u8 19), .lit (.int .u8 16), .lit (.int .u8 7), .lit (.int .u8 26), .lit (.int .u8 12), .lit (.int .u8 18), .lit (.int .u8 6), .lit (.int .u8 11), .lit (.int .u8 5), .lit (.int .u8 10), .lit (.int .u8 9)]
def laid_math_bits_deBruijn64tab {H : Type} : DataW H := .agg [.lit (.int .u8 0), .lit (.int .u8 1), .lit (.int .u8 56), .lit (.int .u8 2), .lit (.int .u8 57), .lit (.int .u8 49), .lit (.int .u8 28), .lit (.int .u8 3), .lit (.int .u8 61), .lit (.int .u8 58), .lit (.int .u8 42), .lit (.int .u8 50), .lit (.int .u8 38), .lit (.int .u8 29), .lit (.int .u8 17), .lit (.int .u8 4), .lit (.int .u8 62), .lit (.int .u8 47), .lit (.int .u8 59), .lit (.int .u8 36), .lit (.int .u8 45), .lit (.int .u8 43), .lit (.int .u8 51), .lit (.int .u8 22), .lit (.int .u8 53), .lit (.int .u8 39), .lit (.int .u8 33), .lit (.int .u8 30), .lit (.int .u8 24), .lit (.int .u8 18), .lit (.int .u8 12), .lit (.int .u8 5), .lit (.int .u8 63), .lit (.int .u8 55), .lit (.int .u8 48), .lit (.int .u8 27), .lit (.int .u8 60), .lit (.int .u8 41), .lit (.int .u8 37), .lit (.int .u8 16), .lit (.int .u8 46), .lit (.int .u8 35), .lit (.int .u8 44), .lit (.int .u8 21), .lit (.int .u8 52), .lit (.int .u8 32), .lit (.int .u8 23), .lit (.int .u8 11), .lit (.int .u8 54), .lit (.int .u8 26), .lit (.int .u8 40), .lit (.int .u8 15), .lit (.int .u8 34), .lit (.int .u8 20), .lit (.int .u8 31), .lit (.int .u8 10), .lit (.int .u8 25), .lit (.int .u8 14), .lit (.int .u8 19), .lit (.int .u8 9), .lit (.int .u8 13), .lit (.int .u8 8), .lit (.int .u8 7), .lit (.int .u8 6)]
def laid_internal_strconv_uint64pow10 {H : Type} : DataW H := .agg [.lit (.int .u64 1), .lit (.int .u64 10), .lit (.int .u64 100), .lit (.int .u64 1000), .lit (.int .u64 10000), .lit (.int .u64 100000), .lit (.int .u64 1000000), .lit (.int .u64 10000000), .lit (.int .u64 100000000), .lit (.int .u64 1000000000), .lit (.int .u64 10000000000), .lit (.int .u64 100000000000), .lit (.int .u64 1000000000000), .lit (.int .u64 10000000000000), .lit (.int .u64 100000000000000), .lit (.int .u64 1000000000000000), .lit (.int .u64 10000000000000000), .lit (.int .u64 100000000000000000), .lit (.int .u64 1000000000000000000), .lit (.int .u64 10000000000000000000)]
def laid_bireme_syntax_exprs {H : Type} : DataW H := .map [(.int .i64 1, .agg [.lit (.int .i64 0), .lit (.bool false), .lit (.bool false), .lit (.bool false)]), (.int .i64 2, .agg [.lit (.int .i64 0), .lit (.bool true), .lit (.bool false), .lit (.bool false)]), (.int .i64 3, .agg [.lit (.int .i64 1), .lit (.bool true), .lit (.bool false), .lit (.bool false)]), (.int .i64 4, .agg [.lit (.int .i64 (-1)), .lit (.bool true), .lit (.bool false), .lit (.bool false)]), (.int .i64 5, .agg [.lit (.int .i64 1), .lit (.bool false), .lit (.bool false), .lit (.bool false)]), (.int .i64 6, .agg [.lit (.int .i64 2), .lit (.bool false), .lit (.bool false), .lit (.bool false)]), (.int .i64 7, .agg [.lit (.int .i64 3), .lit (.bool false), .lit (.bool false), .lit (.bool false)])]

/-- 'biremelaw03.SyntaxParses': WHATEVER THE INPUT: true; the input reads as it did. -/
def syntaxParsesSpec : ChangeSpec := { name := "syntaxParses", fn := fun _ => fun
  | [d] => { results := [.lit (.bool true)], args := [d] }
  | _ => none }
def syntaxParsesRow : OpenClaim := { program := "ytdijffojppjmfaadoor", sum := "6f596670b71c24fd3ca99b322d698865d4373a74804ba419254f09aef369aca2", func := "bireme/biremelaw03.SyntaxParses", spec := "syntaxParses", inPlace := ["internal/bytealg.IndexByteString"], unfollowed := true, recurses := true, named := ["bireme/syntax.levels"], apart := false, laid := [("bireme/syntax.levels", laid_bireme_syntax_levels)] }
def SyntaxParsesSaid : Prop := syntaxParsesRow.holds Tryd.pinned (OpenSpec.ofChange syntaxParsesSpec)

/-- ITS FALSE NEIGHBOUR: 'it returns false'. Refute it at one input. -/
def syntaxParsesWrong : ChangeSpec := { name := "syntaxParses", fn := fun _ => fun
  | [d] => { results := [.lit (.bool false)], args := [d] }
  | _ => none }
def SyntaxParsesWrongFalsely : Prop := syntaxParsesRow.holds Tryd.pinned (OpenSpec.ofChange syntaxParsesWrong)

/-- 'biremelaw03.SyntaxExprs': WHATEVER THE INPUT: true; the input reads as it did. -/
def syntaxExprsSpec : ChangeSpec := { name := "syntaxExprs", fn := fun _ => fun
  | [d] => { results := [.lit (.bool true)], args := [d] }
  | _ => none }
def syntaxExprsRow : OpenClaim := { program := "ytdijffojppjmfaadoor", sum := "6f596670b71c24fd3ca99b322d698865d4373a74804ba419254f09aef369aca2", func := "bireme/biremelaw03.SyntaxExprs", spec := "syntaxExprs", inPlace := ["internal/bytealg.IndexByteString"], unfollowed := true, recurses := true, named := ["bireme/syntax.levels"], apart := false, laid := [("bireme/syntax.levels", laid_bireme_syntax_levels)] }
def SyntaxExprsSaid : Prop := syntaxExprsRow.holds Tryd.pinned (OpenSpec.ofChange syntaxExprsSpec)

/-- ITS FALSE NEIGHBOUR: 'it returns false'. Refute it at one input. -/
def syntaxExprsWrong : ChangeSpec := { name := "syntaxExprs", fn := fun _ => fun
  | [d] => { results := [.lit (.bool false)], args := [d] }
  | _ => none }
def SyntaxExprsWrongFalsely : Prop := syntaxExprsRow.holds Tryd.pinned (OpenSpec.ofChange syntaxExprsWrong)

/-- 'biremelaw03.SyntaxBrackets': WHATEVER THE INPUT: true; the input reads as it did. -/
def syntaxBracketsSpec : ChangeSpec := { name := "syntaxBrackets", fn := fun _ => fun
  | [d1, d2] => { results := [.lit (.bool true)], args := [d1, d2] }
  | _ => none }
def syntaxBracketsRow : OpenClaim := { program := "ytdijffojppjmfaadoor", sum := "6f596670b71c24fd3ca99b322d698865d4373a74804ba419254f09aef369aca2", func := "bireme/biremelaw03.SyntaxBrackets", spec := "syntaxBrackets", inPlace := ["internal/bytealg.IndexByteString"], unfollowed := true, recurses := true, named := ["bireme/syntax.levels"], apart := false, laid := [("bireme/syntax.levels", laid_bireme_syntax_levels)] }
def SyntaxBracketsSaid : Prop := syntaxBracketsRow.holds Tryd.pinned (OpenSpec.ofChange syntaxBracketsSpec)

/-- ITS FALSE NEIGHBOUR: 'it returns false'. Refute it at one input. -/
def syntaxBracketsWrong : ChangeSpec := { name := "syntaxBrackets", fn := fun _ => fun
  | [d1, d2] => { results := [.lit (.bool false)], args := [d1, d2] }
  | _ => none }
def SyntaxBracketsWrongFalsely : Prop := syntaxBracketsRow.holds Tryd.pinned (OpenSpec.ofChange syntaxBracketsWrong)

/-- 'biremelaw03.SyntaxBlanks': WHATEVER THE INPUT: true; the input reads as it did. -/
def syntaxBlanksSpec : ChangeSpec := { name := "syntaxBlanks", fn := fun _ => fun
  | [d1, d2] => { results := [.lit (.bool true)], args := [d1, d2] }
  | _ => none }
def syntaxBlanksRow : OpenClaim := { program := "ytdijffojppjmfaadoor", sum := "6f596670b71c24fd3ca99b322d698865d4373a74804ba419254f09aef369aca2", func := "bireme/biremelaw03.SyntaxBlanks", spec := "syntaxBlanks", inPlace := ["internal/bytealg.IndexByteString"], unfollowed := true, recurses := true, named := ["bireme/syntax.levels"], apart := false, laid := [("bireme/syntax.levels", laid_bireme_syntax_levels)] }
def SyntaxBlanksSaid : Prop := syntaxBlanksRow.holds Tryd.pinned (OpenSpec.ofChange syntaxBlanksSpec)

/-- ITS FALSE NEIGHBOUR: 'it returns false'. Refute it at one input. -/
def syntaxBlanksWrong : ChangeSpec := { name := "syntaxBlanks", fn := fun _ => fun
  | [d1, d2] => { results := [.lit (.bool false)], args := [d1, d2] }
  | _ => none }
def SyntaxBlanksWrongFalsely : Prop := syntaxBlanksRow.holds Tryd.pinned (OpenSpec.ofChange syntaxBlanksWrong)

/-- 'biremelaw03.SyntaxLeft': WHATEVER THE INPUT: true; the input reads as it did. -/
def syntaxLeftSpec : ChangeSpec := { name := "syntaxLeft", fn := fun _ => fun
  | [d1, d2] => { results := [.lit (.bool true)], args := [d1, d2] }
  | _ => none }
def syntaxLeftRow : OpenClaim := { program := "ytdijffojppjmfaadoor", sum := "6f596670b71c24fd3ca99b322d698865d4373a74804ba419254f09aef369aca2", func := "bireme/biremelaw03.SyntaxLeft", spec := "syntaxLeft", inPlace := ["internal/bytealg.IndexByteString"], unfollowed := true, recurses := true, named := ["bireme/syntax.levels"], apart := false, laid := [("bireme/syntax.levels", laid_bireme_syntax_levels)] }
def SyntaxLeftSaid : Prop := syntaxLeftRow.holds Tryd.pinned (OpenSpec.ofChange syntaxLeftSpec)

/-- ITS FALSE NEIGHBOUR: 'it returns false'. Refute it at one input. -/
def syntaxLeftWrong : ChangeSpec := { name := "syntaxLeft", fn := fun _ => fun
  | [d1, d2] => { results := [.lit (.bool false)], args := [d1, d2] }
  | _ => none }
def SyntaxLeftWrongFalsely : Prop := syntaxLeftRow.holds Tryd.pinned (OpenSpec.ofChange syntaxLeftWrong)

/-- 'biremelaw03.SyntaxPrefix': WHATEVER THE INPUT: true; the input reads as it did. -/
def syntaxPrefixSpec : ChangeSpec := { name := "syntaxPrefix", fn := fun _ => fun
  | [d] => { results := [.lit (.bool true)], args := [d] }
  | _ => none }
def syntaxPrefixRow : OpenClaim := { program := "ytdijffojppjmfaadoor", sum := "6f596670b71c24fd3ca99b322d698865d4373a74804ba419254f09aef369aca2", func := "bireme/biremelaw03.SyntaxPrefix", spec := "syntaxPrefix", inPlace := ["internal/bytealg.IndexByteString"], unfollowed := true, recurses := true, named := ["bireme/syntax.levels"], apart := false, laid := [("bireme/syntax.levels", laid_bireme_syntax_levels)] }
def SyntaxPrefixSaid : Prop := syntaxPrefixRow.holds Tryd.pinned (OpenSpec.ofChange syntaxPrefixSpec)

/-- ITS FALSE NEIGHBOUR: 'it returns false'. Refute it at one input. -/
def syntaxPrefixWrong : ChangeSpec := { name := "syntaxPrefix", fn := fun _ => fun
  | [d] => { results := [.lit (.bool false)], args := [d] }
  | _ => none }
def SyntaxPrefixWrongFalsely : Prop := syntaxPrefixRow.holds Tryd.pinned (OpenSpec.ofChange syntaxPrefixWrong)

/-- 'biremelaw03.SyntaxOne': WHATEVER THE INPUT: true; the input reads as it did. -/
def syntaxOneSpec : ChangeSpec := { name := "syntaxOne", fn := fun _ => fun
  | [d1, d2] => { results := [.lit (.bool true)], args := [d1, d2] }
  | _ => none }
def syntaxOneRow : OpenClaim := { program := "ytdijffojppjmfaadoor", sum := "6f596670b71c24fd3ca99b322d698865d4373a74804ba419254f09aef369aca2", func := "bireme/biremelaw03.SyntaxOne", spec := "syntaxOne", inPlace := ["internal/bytealg.IndexByteString"], unfollowed := true, recurses := true, named := ["bireme/syntax.levels"], apart := false, laid := [("bireme/syntax.levels", laid_bireme_syntax_levels)] }
def SyntaxOneSaid : Prop := syntaxOneRow.holds Tryd.pinned (OpenSpec.ofChange syntaxOneSpec)

/-- ITS FALSE NEIGHBOUR: 'it returns false'. Refute it at one input. -/
def syntaxOneWrong : ChangeSpec := { name := "syntaxOne", fn := fun _ => fun
  | [d1, d2] => { results := [.lit (.bool false)], args := [d1, d2] }
  | _ => none }
def SyntaxOneWrongFalsely : Prop := syntaxOneRow.holds Tryd.pinned (OpenSpec.ofChange syntaxOneWrong)

/-- 'biremelaw03.SyntaxTells': WHATEVER THE INPUT: true; the input reads as it did. -/
def syntaxTellsSpec : ChangeSpec := { name := "syntaxTells", fn := fun _ => fun
  | [d1, d2, d3] => { results := [.lit (.bool true)], args := [d1, d2, d3] }
  | _ => none }
def syntaxTellsRow : OpenClaim := { program := "ytdijffojppjmfaadoor", sum := "6f596670b71c24fd3ca99b322d698865d4373a74804ba419254f09aef369aca2", func := "bireme/biremelaw03.SyntaxTells", spec := "syntaxTells", inPlace := ["internal/bytealg.IndexByteString"], unfollowed := true, recurses := true, named := ["bireme/syntax.levels"], loops := true, apart := false, laid := [("bireme/syntax.levels", laid_bireme_syntax_levels)] }
def SyntaxTellsSaid : Prop := syntaxTellsRow.holds Tryd.pinned (OpenSpec.ofChange syntaxTellsSpec)

/-- ITS FALSE NEIGHBOUR: 'it returns false'. Refute it at one input. -/
def syntaxTellsWrong : ChangeSpec := { name := "syntaxTells", fn := fun _ => fun
  | [d1, d2, d3] => { results := [.lit (.bool false)], args := [d1, d2, d3] }
  | _ => none }
def SyntaxTellsWrongFalsely : Prop := syntaxTellsRow.holds Tryd.pinned (OpenSpec.ofChange syntaxTellsWrong)

/-- 'biremelaw04.PrintExprs': WHATEVER THE INPUT: true; the input reads as it did. -/
def printExprsSpec : ChangeSpec := { name := "printExprs", fn := fun _ => fun
  | [d] => { results := [.lit (.bool true)], args := [d] }
  | _ => none }
def printExprsRow : OpenClaim := { program := "ytdijffojppjmfaadoor", sum := "6f596670b71c24fd3ca99b322d698865d4373a74804ba419254f09aef369aca2", func := "bireme/biremelaw04.PrintExprs", spec := "printExprs", inPlace := ["internal/abi.NoEscape", "internal/bytealg.MakeNoZero", "internal/bytealg.IndexByteString"], unfollowed := true, recurses := true, named := ["bireme/syntax.exprs", "bireme/syntax.levels", "internal/strconv.uint64pow10", "math/bits.deBruijn32tab", "math/bits.deBruijn64tab"], loops := true, apart := false, laid := [("math/bits.deBruijn32tab", laid_math_bits_deBruijn32tab), ("math/bits.deBruijn64tab", laid_math_bits_deBruijn64tab), ("internal/strconv.uint64pow10", laid_internal_strconv_uint64pow10), ("bireme/syntax.exprs", laid_bireme_syntax_exprs), ("bireme/syntax.levels", laid_bireme_syntax_levels)] }
def PrintExprsSaid : Prop := printExprsRow.holds Tryd.pinned (OpenSpec.ofChange printExprsSpec)

/-- ITS FALSE NEIGHBOUR: 'it returns false'. Refute it at one input. -/
def printExprsWrong : ChangeSpec := { name := "printExprs", fn := fun _ => fun
  | [d] => { results := [.lit (.bool false)], args := [d] }
  | _ => none }
def PrintExprsWrongFalsely : Prop := printExprsRow.holds Tryd.pinned (OpenSpec.ofChange printExprsWrong)

/-- 'biremelaw04.PrintExprBack': WHATEVER THE INPUT: true; the input reads as it did. -/
def printExprBackSpec : ChangeSpec := { name := "printExprBack", fn := fun _ => fun
  | [d] => { results := [.lit (.bool true)], args := [d] }
  | _ => none }
def printExprBackRow : OpenClaim := { program := "ytdijffojppjmfaadoor", sum := "6f596670b71c24fd3ca99b322d698865d4373a74804ba419254f09aef369aca2", func := "bireme/biremelaw04.PrintExprBack", spec := "printExprBack", inPlace := ["internal/abi.NoEscape", "internal/bytealg.MakeNoZero", "internal/bytealg.IndexByteString"], unfollowed := true, recurses := true, named := ["bireme/syntax.exprs", "bireme/syntax.levels", "internal/strconv.uint64pow10", "math/bits.deBruijn32tab", "math/bits.deBruijn64tab"], loops := true, apart := false, laid := [("math/bits.deBruijn32tab", laid_math_bits_deBruijn32tab), ("math/bits.deBruijn64tab", laid_math_bits_deBruijn64tab), ("internal/strconv.uint64pow10", laid_internal_strconv_uint64pow10), ("bireme/syntax.exprs", laid_bireme_syntax_exprs), ("bireme/syntax.levels", laid_bireme_syntax_levels)] }
def PrintExprBackSaid : Prop := printExprBackRow.holds Tryd.pinned (OpenSpec.ofChange printExprBackSpec)

/-- ITS FALSE NEIGHBOUR: 'it returns false'. Refute it at one input. -/
def printExprBackWrong : ChangeSpec := { name := "printExprBack", fn := fun _ => fun
  | [d] => { results := [.lit (.bool false)], args := [d] }
  | _ => none }
def PrintExprBackWrongFalsely : Prop := printExprBackRow.holds Tryd.pinned (OpenSpec.ofChange printExprBackWrong)

/- THE SECOND FORM. 'bulk': how many values and letters a reading holds, each counted each time it is reached (what is shared counts as often as it is met; a slice's spare places count too). A statement '..UptoSaid' is the law's where the arguments, and the package variables that the reading takes, are together of bulk at most 1048576: NARROWER than '..Said'. Prove '..Said' where nothing that the law and all that it calls make is longer than what came in: it says more and counts as full. Else prove '..UptoSaid'. A law counts once. -/
mutual
def uptoBulk {H : Type} : DataW H → Nat
  | .lit (.string bytes) => bytes.length + 1
  | .lit _ => 1
  | .nil => 1
  | .ptr d => uptoBulk d + 1
  | .slice elems spare => uptoBulkAll elems + uptoBulkAll spare + 1
  | .agg parts => uptoBulkAll parts + 1
  | .iface _ d => uptoBulk d + 1
  | .map entries => uptoBulkEntries entries + 1
  | .held _ => 1
def uptoBulkAll {H : Type} : List (DataW H) → Nat
  | [] => 0
  | d :: r => uptoBulk d + uptoBulkAll r
def uptoBulkEntries {H : Type} : List (Lit × DataW H) → Nat
  | [] => 0
  | x :: r => uptoBulkEntry x + uptoBulkEntries r
def uptoBulkEntry {H : Type} : Lit × DataW H → Nat
  | (.string bytes, d) => bytes.length + uptoBulk d + 1
  | (_, d) => uptoBulk d + 1
 end
def uptoSmall : (H : Type) → List (DataW H) → Bool := fun _ ds => decide (uptoBulkAll ds ≤ 1048576)
def OpenSpec.upto (s : _root_.Go.ChangeSpec) : _root_.Go.OpenSpec := { _root_.Go.OpenSpec.ofChange s with cond := some uptoSmall }

/-- 'biremelaw03.SyntaxParses', WHERE WHAT IT READS IS OF BULK AT MOST 1048576: true; the input reads as it did. -/
def syntaxParsesUptoRow : OpenClaim := { program := "ytdijffojppjmfaadoor", sum := "6f596670b71c24fd3ca99b322d698865d4373a74804ba419254f09aef369aca2", func := "bireme/biremelaw03.SyntaxParses", spec := "syntaxParses", inPlace := ["internal/bytealg.IndexByteString"], unfollowed := true, recurses := true, named := ["bireme/syntax.levels"], apart := false, laid := [("bireme/syntax.levels", laid_bireme_syntax_levels)], narrowed := true }
def SyntaxParsesUptoSaid : Prop := syntaxParsesUptoRow.holds Tryd.pinned (OpenSpec.upto syntaxParsesSpec)

/-- 'biremelaw03.SyntaxExprs', WHERE WHAT IT READS IS OF BULK AT MOST 1048576: true; the input reads as it did. -/
def syntaxExprsUptoRow : OpenClaim := { program := "ytdijffojppjmfaadoor", sum := "6f596670b71c24fd3ca99b322d698865d4373a74804ba419254f09aef369aca2", func := "bireme/biremelaw03.SyntaxExprs", spec := "syntaxExprs", inPlace := ["internal/bytealg.IndexByteString"], unfollowed := true, recurses := true, named := ["bireme/syntax.levels"], apart := false, laid := [("bireme/syntax.levels", laid_bireme_syntax_levels)], narrowed := true }
def SyntaxExprsUptoSaid : Prop := syntaxExprsUptoRow.holds Tryd.pinned (OpenSpec.upto syntaxExprsSpec)

/-- 'biremelaw03.SyntaxBrackets', WHERE WHAT IT READS IS OF BULK AT MOST 1048576: true; the input reads as it did. -/
def syntaxBracketsUptoRow : OpenClaim := { program := "ytdijffojppjmfaadoor", sum := "6f596670b71c24fd3ca99b322d698865d4373a74804ba419254f09aef369aca2", func := "bireme/biremelaw03.SyntaxBrackets", spec := "syntaxBrackets", inPlace := ["internal/bytealg.IndexByteString"], unfollowed := true, recurses := true, named := ["bireme/syntax.levels"], apart := false, laid := [("bireme/syntax.levels", laid_bireme_syntax_levels)], narrowed := true }
def SyntaxBracketsUptoSaid : Prop := syntaxBracketsUptoRow.holds Tryd.pinned (OpenSpec.upto syntaxBracketsSpec)

/-- 'biremelaw03.SyntaxBlanks', WHERE WHAT IT READS IS OF BULK AT MOST 1048576: true; the input reads as it did. -/
def syntaxBlanksUptoRow : OpenClaim := { program := "ytdijffojppjmfaadoor", sum := "6f596670b71c24fd3ca99b322d698865d4373a74804ba419254f09aef369aca2", func := "bireme/biremelaw03.SyntaxBlanks", spec := "syntaxBlanks", inPlace := ["internal/bytealg.IndexByteString"], unfollowed := true, recurses := true, named := ["bireme/syntax.levels"], apart := false, laid := [("bireme/syntax.levels", laid_bireme_syntax_levels)], narrowed := true }
def SyntaxBlanksUptoSaid : Prop := syntaxBlanksUptoRow.holds Tryd.pinned (OpenSpec.upto syntaxBlanksSpec)

/-- 'biremelaw03.SyntaxLeft', WHERE WHAT IT READS IS OF BULK AT MOST 1048576: true; the input reads as it did. -/
def syntaxLeftUptoRow : OpenClaim := { program := "ytdijffojppjmfaadoor", sum := "6f596670b71c24fd3ca99b322d698865d4373a74804ba419254f09aef369aca2", func := "bireme/biremelaw03.SyntaxLeft", spec := "syntaxLeft", inPlace := ["internal/bytealg.IndexByteString"], unfollowed := true, recurses := true, named := ["bireme/syntax.levels"], apart := false, laid := [("bireme/syntax.levels", laid_bireme_syntax_levels)], narrowed := true }
def SyntaxLeftUptoSaid : Prop := syntaxLeftUptoRow.holds Tryd.pinned (OpenSpec.upto syntaxLeftSpec)

/-- 'biremelaw03.SyntaxPrefix', WHERE WHAT IT READS IS OF BULK AT MOST 1048576: true; the input reads as it did. -/
def syntaxPrefixUptoRow : OpenClaim := { program := "ytdijffojppjmfaadoor", sum := "6f596670b71c24fd3ca99b322d698865d4373a74804ba419254f09aef369aca2", func := "bireme/biremelaw03.SyntaxPrefix", spec := "syntaxPrefix", inPlace := ["internal/bytealg.IndexByteString"], unfollowed := true, recurses := true, named := ["bireme/syntax.levels"], apart := false, laid := [("bireme/syntax.levels", laid_bireme_syntax_levels)], narrowed := true }
def SyntaxPrefixUptoSaid : Prop := syntaxPrefixUptoRow.holds Tryd.pinned (OpenSpec.upto syntaxPrefixSpec)

/-- 'biremelaw03.SyntaxOne', WHERE WHAT IT READS IS OF BULK AT MOST 1048576: true; the input reads as it did. -/
def syntaxOneUptoRow : OpenClaim := { program := "ytdijffojppjmfaadoor", sum := "6f596670b71c24fd3ca99b322d698865d4373a74804ba419254f09aef369aca2", func := "bireme/biremelaw03.SyntaxOne", spec := "syntaxOne", inPlace := ["internal/bytealg.IndexByteString"], unfollowed := true, recurses := true, named := ["bireme/syntax.levels"], apart := false, laid := [("bireme/syntax.levels", laid_bireme_syntax_levels)], narrowed := true }
def SyntaxOneUptoSaid : Prop := syntaxOneUptoRow.holds Tryd.pinned (OpenSpec.upto syntaxOneSpec)

/-- 'biremelaw03.SyntaxTells', WHERE WHAT IT READS IS OF BULK AT MOST 1048576: true; the input reads as it did. -/
def syntaxTellsUptoRow : OpenClaim := { program := "ytdijffojppjmfaadoor", sum := "6f596670b71c24fd3ca99b322d698865d4373a74804ba419254f09aef369aca2", func := "bireme/biremelaw03.SyntaxTells", spec := "syntaxTells", inPlace := ["internal/bytealg.IndexByteString"], unfollowed := true, recurses := true, named := ["bireme/syntax.levels"], loops := true, apart := false, laid := [("bireme/syntax.levels", laid_bireme_syntax_levels)], narrowed := true }
def SyntaxTellsUptoSaid : Prop := syntaxTellsUptoRow.holds Tryd.pinned (OpenSpec.upto syntaxTellsSpec)

/-- 'biremelaw04.PrintExprs', WHERE WHAT IT READS IS OF BULK AT MOST 1048576: true; the input reads as it did. -/
def printExprsUptoRow : OpenClaim := { program := "ytdijffojppjmfaadoor", sum := "6f596670b71c24fd3ca99b322d698865d4373a74804ba419254f09aef369aca2", func := "bireme/biremelaw04.PrintExprs", spec := "printExprs", inPlace := ["internal/abi.NoEscape", "internal/bytealg.MakeNoZero", "internal/bytealg.IndexByteString"], unfollowed := true, recurses := true, named := ["bireme/syntax.exprs", "bireme/syntax.levels", "internal/strconv.uint64pow10", "math/bits.deBruijn32tab", "math/bits.deBruijn64tab"], loops := true, apart := false, laid := [("math/bits.deBruijn32tab", laid_math_bits_deBruijn32tab), ("math/bits.deBruijn64tab", laid_math_bits_deBruijn64tab), ("internal/strconv.uint64pow10", laid_internal_strconv_uint64pow10), ("bireme/syntax.exprs", laid_bireme_syntax_exprs), ("bireme/syntax.levels", laid_bireme_syntax_levels)], narrowed := true }
def PrintExprsUptoSaid : Prop := printExprsUptoRow.holds Tryd.pinned (OpenSpec.upto printExprsSpec)

/-- 'biremelaw04.PrintExprBack', WHERE WHAT IT READS IS OF BULK AT MOST 1048576: true; the input reads as it did. -/
def printExprBackUptoRow : OpenClaim := { program := "ytdijffojppjmfaadoor", sum := "6f596670b71c24fd3ca99b322d698865d4373a74804ba419254f09aef369aca2", func := "bireme/biremelaw04.PrintExprBack", spec := "printExprBack", inPlace := ["internal/abi.NoEscape", "internal/bytealg.MakeNoZero", "internal/bytealg.IndexByteString"], unfollowed := true, recurses := true, named := ["bireme/syntax.exprs", "bireme/syntax.levels", "internal/strconv.uint64pow10", "math/bits.deBruijn32tab", "math/bits.deBruijn64tab"], loops := true, apart := false, laid := [("math/bits.deBruijn32tab", laid_math_bits_deBruijn32tab), ("math/bits.deBruijn64tab", laid_math_bits_deBruijn64tab), ("internal/strconv.uint64pow10", laid_internal_strconv_uint64pow10), ("bireme/syntax.exprs", laid_bireme_syntax_exprs), ("bireme/syntax.levels", laid_bireme_syntax_levels)], narrowed := true }
def PrintExprBackUptoSaid : Prop := printExprBackUptoRow.holds Tryd.pinned (OpenSpec.upto printExprBackSpec)

end Rows
end Go.Proofs.YtdijffojppjmfaaDoor
