/-
  NARROWER THAN 'FOR EVERY INPUT', by the rows' own cells (each row's printed sentence says how): ValtextParses: laid · ValtextLines: laid · ValtextWords: laid · ValtextTells: loops, laid · ValtextHolds: loops, laid · ValtextDeep: laid.
  DERIVED. THE GIVEN ROWS OF THIS SEAT. 6 by the template 'for every input the law returns true; each argument reads behind the call as it read before'; 0 by the template 'total and deterministic' (their statements: YtkahboomahhdoaaDoorTotals.lean).
  GIVEN WITH THE SEED: the statements are not yours to turn. If you find one false, say at which input.
  Laid BY PROGRAM, IN A SANDBOX (cutbox-rows.mjs): the forced cells as the released guide's own fill.sh prints them over the translation 26c89a281941cddf… (all of the seat's roots in one cut). By AI agents, Wed Nov 11 2026. No macro, syntax, notation, axiom, sorry.
-/
import Derived.Test.YtkahboomahhdoaaDoorChecked
import GoSem.Claim
import GoSem.ClaimJoined
import GoSem.ClaimMapViews
import Derived.JoinedTies
import Derived.KernelRfl
namespace Go.Proofs.YtkahboomahhdoaaDoor
/- THE CELL 'sum', in the pinned program and in every row, IS THE sha256 OF THE DUMP (.gsa) THAT YtkahboomahhdoaaDoorProg.lean LOADS. Nothing in Lean hashes anything: it is a label: what it is worth is what the hold of that sum in a sandbox is worth. -/
noncomputable def Tryd.pinned : Pinned := { name := "ytkahboomahhdoaadoor", sum := "26c89a281941cddfba1a44ebd424f1fc7b5bb0b4cf85866ac6e8bbec51b2d865", checked := Tryd.checked }
namespace Rows
def none {H : Type} : Left H := { results := [], args := [] }

/- WHAT THE LISTED PACKAGE-LEVEL VARIABLES READ AS WHEN THE CALL BEGINS. Each datum BY PROGRAM (the guide's laid-datum.mjs) off the statement by which the dump's own 'gosem.cut.vars' lays the variable. In a bare row this is a premise. The card (YtkahboomahhdoaaDoorCards.lean) ties it to the program's text. -/
def laid_math_bits_deBruijn32tab {H : Type} : DataW H := .agg [.lit (.int .u8 0), .lit (.int .u8 1), .lit (.int .u8 28), .lit (.int .u8 2), .lit (.int .u8 29), .lit (.int .u8 14), .lit (.int .u8 24), .lit (.int .u8 3), .lit (.int .u8 30), .lit (.int .u8 22), .lit (.int .u8 20), .lit (.int .u8 15), .lit (.int .u8 25), .lit (.int .u8 17), .lit (.int .u8 4), .lit (.int .u8 8), .lit (.int .u8 31), .lit (.int .u8 27), .lit (.int .u8 13), .lit (.int .u8 23), .lit (.int .u8 21), .lit (.int .u8 19), .lit (.int .u8 16), .lit (.int .u8 7), .lit (.int .u8 26), .lit (.int .u8 12), .lit (.int .u8 18), .lit (.int .u8 6), .lit (.int .u8 11), .lit (.int .u8 5), .lit (.int .u8 10), .lit (.int .u8 9)]
def laid_math_bits_deBruijn64tab {H : Type} : DataW H := .agg [.lit (.int .u8 0), .lit (.int .u8 1), .lit (.int .u8 56), .lit (.int .u8 2), .lit (.int .u8 57), .lit (.int .u8 49), .lit (.int .u8 28), .lit (.int .u8 3), .lit (.int .u8 61), .lit (.int .u8 58), .lit (.int .u8 42), .lit (.int .u8 50), .lit (.int .u8 38), .lit (.int .u8 29), .lit (.int .u8 17), .lit (.int .u8 4), .lit (.int .u8 62), .lit (.int .u8 47), .lit (.int .u8 59), .lit (.int .u8 36), .lit (.int .u8 45), .lit (.int .u8 43), .lit (.int .u8 51), .lit (.int .u8 22), .lit (.int .u8 53), .lit (.int .u8 39), .lit (.int .u8 33), .lit (.int .u8 30), .lit (.int .u8 24), .lit (.int .u8 18), .lit (.int .u8 12), .lit (.int .u8 5), .lit (.int .u8 63), .lit (.int .u8 55), .lit (.int .u8 48), .lit (.int .u8 27), .lit (.int .u8 60), .lit (.int .u8 41), .lit (.int .u8 37), .lit (.int .u8 16), .lit (.int .u8 46), .lit (.int .u8 35), .lit (.int .u8 44), .lit (.int .u8 21), .lit (.int .u8 52), .lit (.int .u8 32), .lit (.int .u8 23), .lit (.int .u8 11), .lit (.int .u8 54), .lit (.int .u8 26), .lit (.int .u8 40), .lit (.int .u8 15), .lit (.int .u8 34), .lit (.int .u8 20), .lit (.int .u8 31), .lit (.int .u8 10), .lit (.int .u8 25), .lit (.int .u8 14), .lit (.int .u8 19), .lit (.int .u8 9), .lit (.int .u8 13), .lit (.int .u8 8), .lit (.int .u8 7), .lit (.int .u8 6)]
def laid_internal_strconv_uint64pow10 {H : Type} : DataW H := .agg [.lit (.int .u64 1), .lit (.int .u64 10), .lit (.int .u64 100), .lit (.int .u64 1000), .lit (.int .u64 10000), .lit (.int .u64 100000), .lit (.int .u64 1000000), .lit (.int .u64 10000000), .lit (.int .u64 100000000), .lit (.int .u64 1000000000), .lit (.int .u64 10000000000), .lit (.int .u64 100000000000), .lit (.int .u64 1000000000000), .lit (.int .u64 10000000000000), .lit (.int .u64 100000000000000), .lit (.int .u64 1000000000000000), .lit (.int .u64 10000000000000000), .lit (.int .u64 100000000000000000), .lit (.int .u64 1000000000000000000), .lit (.int .u64 10000000000000000000)]
def laid_betrothal_valtext_words {H : Type} : DataW H := .agg [.lit (.string []), .lit (.string [117, 110, 105, 116]), .lit (.string []), .lit (.string [112, 97, 105, 114]), .lit (.string [99, 104, 97, 110]), .lit (.string [115, 101, 110, 100]), .lit (.string [114, 101, 99, 118]), .lit (.string [97, 108, 119, 97, 121, 115]), .lit (.string [110, 101, 118, 101, 114]), .lit (.string [99, 104, 111, 111, 115, 101]), .lit (.string [119, 114, 97, 112]), .lit (.string [103, 117, 97, 114, 100]), .lit (.string [110, 97, 99, 107]), .lit (.string [99, 111, 110, 100])]

/-- 'betrothallaw05.ValtextParses': WHATEVER THE INPUT: true; the input reads as it did. -/
def valtextParsesSpec : ChangeSpec := { name := "valtextParses", fn := fun _ => fun
  | [d] => { results := [.lit (.bool true)], args := [d] }
  | _ => none }
def valtextParsesRow : OpenClaim := { program := "ytkahboomahhdoaadoor", sum := "26c89a281941cddfba1a44ebd424f1fc7b5bb0b4cf85866ac6e8bbec51b2d865", func := "betrothal/betrothallaw05.ValtextParses", spec := "valtextParses", inPlace := ["internal/abi.NoEscape", "internal/bytealg.IndexByteString", "internal/bytealg.IndexString"], unfollowed := true, recurses := true, named := ["betrothal/valtext.words", "internal/strconv.uint64pow10", "math/bits.deBruijn32tab", "math/bits.deBruijn64tab", "internal/bytealg.MaxLen"], apart := false, laid := [("math/bits.deBruijn32tab", laid_math_bits_deBruijn32tab), ("math/bits.deBruijn64tab", laid_math_bits_deBruijn64tab), ("internal/strconv.uint64pow10", laid_internal_strconv_uint64pow10), ("betrothal/valtext.words", laid_betrothal_valtext_words)] }
def ValtextParsesSaid : Prop := valtextParsesRow.holds Tryd.pinned (OpenSpec.ofChange valtextParsesSpec)

/-- ITS FALSE NEIGHBOUR: 'it returns false'. Refute it at one input. -/
def valtextParsesWrong : ChangeSpec := { name := "valtextParses", fn := fun _ => fun
  | [d] => { results := [.lit (.bool false)], args := [d] }
  | _ => none }
def ValtextParsesWrongFalsely : Prop := valtextParsesRow.holds Tryd.pinned (OpenSpec.ofChange valtextParsesWrong)

/-- 'betrothallaw05.ValtextLines': WHATEVER THE INPUT: true; the input reads as it did. -/
def valtextLinesSpec : ChangeSpec := { name := "valtextLines", fn := fun _ => fun
  | [d1, d2] => { results := [.lit (.bool true)], args := [d1, d2] }
  | _ => none }
def valtextLinesRow : OpenClaim := { program := "ytkahboomahhdoaadoor", sum := "26c89a281941cddfba1a44ebd424f1fc7b5bb0b4cf85866ac6e8bbec51b2d865", func := "betrothal/betrothallaw05.ValtextLines", spec := "valtextLines", inPlace := ["internal/abi.NoEscape", "internal/bytealg.IndexByteString", "internal/bytealg.IndexString"], unfollowed := true, recurses := true, named := ["betrothal/valtext.words", "internal/strconv.uint64pow10", "math/bits.deBruijn32tab", "math/bits.deBruijn64tab", "internal/bytealg.MaxLen"], apart := false, laid := [("math/bits.deBruijn32tab", laid_math_bits_deBruijn32tab), ("math/bits.deBruijn64tab", laid_math_bits_deBruijn64tab), ("internal/strconv.uint64pow10", laid_internal_strconv_uint64pow10), ("betrothal/valtext.words", laid_betrothal_valtext_words)] }
def ValtextLinesSaid : Prop := valtextLinesRow.holds Tryd.pinned (OpenSpec.ofChange valtextLinesSpec)

/-- ITS FALSE NEIGHBOUR: 'it returns false'. Refute it at one input. -/
def valtextLinesWrong : ChangeSpec := { name := "valtextLines", fn := fun _ => fun
  | [d1, d2] => { results := [.lit (.bool false)], args := [d1, d2] }
  | _ => none }
def ValtextLinesWrongFalsely : Prop := valtextLinesRow.holds Tryd.pinned (OpenSpec.ofChange valtextLinesWrong)

/-- 'betrothallaw05.ValtextWords': WHATEVER THE INPUT: true; the input reads as it did. -/
def valtextWordsSpec : ChangeSpec := { name := "valtextWords", fn := fun _ => fun
  | [d1, d2] => { results := [.lit (.bool true)], args := [d1, d2] }
  | _ => none }
def valtextWordsRow : OpenClaim := { program := "ytkahboomahhdoaadoor", sum := "26c89a281941cddfba1a44ebd424f1fc7b5bb0b4cf85866ac6e8bbec51b2d865", func := "betrothal/betrothallaw05.ValtextWords", spec := "valtextWords", inPlace := ["internal/abi.NoEscape", "internal/bytealg.IndexByteString", "internal/bytealg.IndexString"], unfollowed := true, recurses := true, named := ["betrothal/valtext.words", "internal/strconv.uint64pow10", "math/bits.deBruijn32tab", "math/bits.deBruijn64tab", "internal/bytealg.MaxLen"], apart := false, laid := [("math/bits.deBruijn32tab", laid_math_bits_deBruijn32tab), ("math/bits.deBruijn64tab", laid_math_bits_deBruijn64tab), ("internal/strconv.uint64pow10", laid_internal_strconv_uint64pow10), ("betrothal/valtext.words", laid_betrothal_valtext_words)] }
def ValtextWordsSaid : Prop := valtextWordsRow.holds Tryd.pinned (OpenSpec.ofChange valtextWordsSpec)

/-- ITS FALSE NEIGHBOUR: 'it returns false'. Refute it at one input. -/
def valtextWordsWrong : ChangeSpec := { name := "valtextWords", fn := fun _ => fun
  | [d1, d2] => { results := [.lit (.bool false)], args := [d1, d2] }
  | _ => none }
def ValtextWordsWrongFalsely : Prop := valtextWordsRow.holds Tryd.pinned (OpenSpec.ofChange valtextWordsWrong)

/-- 'betrothallaw05.ValtextTells': WHATEVER THE INPUT: true; the input reads as it did. -/
def valtextTellsSpec : ChangeSpec := { name := "valtextTells", fn := fun _ => fun
  | [d] => { results := [.lit (.bool true)], args := [d] }
  | _ => none }
def valtextTellsRow : OpenClaim := { program := "ytkahboomahhdoaadoor", sum := "26c89a281941cddfba1a44ebd424f1fc7b5bb0b4cf85866ac6e8bbec51b2d865", func := "betrothal/betrothallaw05.ValtextTells", spec := "valtextTells", inPlace := ["internal/abi.NoEscape", "internal/bytealg.IndexByteString", "internal/bytealg.IndexString"], unfollowed := true, recurses := true, named := ["betrothal/valtext.words", "internal/strconv.uint64pow10", "math/bits.deBruijn32tab", "math/bits.deBruijn64tab", "internal/bytealg.MaxLen"], loops := true, apart := false, laid := [("math/bits.deBruijn32tab", laid_math_bits_deBruijn32tab), ("math/bits.deBruijn64tab", laid_math_bits_deBruijn64tab), ("internal/strconv.uint64pow10", laid_internal_strconv_uint64pow10), ("betrothal/valtext.words", laid_betrothal_valtext_words)] }
def ValtextTellsSaid : Prop := valtextTellsRow.holds Tryd.pinned (OpenSpec.ofChange valtextTellsSpec)

/-- ITS FALSE NEIGHBOUR: 'it returns false'. Refute it at one input. -/
def valtextTellsWrong : ChangeSpec := { name := "valtextTells", fn := fun _ => fun
  | [d] => { results := [.lit (.bool false)], args := [d] }
  | _ => none }
def ValtextTellsWrongFalsely : Prop := valtextTellsRow.holds Tryd.pinned (OpenSpec.ofChange valtextTellsWrong)

/-- 'betrothallaw05.ValtextHolds': WHATEVER THE INPUT: true; the input reads as it did. -/
def valtextHoldsSpec : ChangeSpec := { name := "valtextHolds", fn := fun _ => fun
  | [d1, d2, d3, d4] => { results := [.lit (.bool true)], args := [d1, d2, d3, d4] }
  | _ => none }
def valtextHoldsRow : OpenClaim := { program := "ytkahboomahhdoaadoor", sum := "26c89a281941cddfba1a44ebd424f1fc7b5bb0b4cf85866ac6e8bbec51b2d865", func := "betrothal/betrothallaw05.ValtextHolds", spec := "valtextHolds", inPlace := ["internal/abi.NoEscape", "internal/bytealg.IndexByteString", "internal/bytealg.IndexString"], unfollowed := true, recurses := true, named := ["betrothal/valtext.words", "internal/strconv.uint64pow10", "math/bits.deBruijn32tab", "math/bits.deBruijn64tab", "internal/bytealg.MaxLen"], loops := true, apart := false, laid := [("math/bits.deBruijn32tab", laid_math_bits_deBruijn32tab), ("math/bits.deBruijn64tab", laid_math_bits_deBruijn64tab), ("internal/strconv.uint64pow10", laid_internal_strconv_uint64pow10), ("betrothal/valtext.words", laid_betrothal_valtext_words)] }
def ValtextHoldsSaid : Prop := valtextHoldsRow.holds Tryd.pinned (OpenSpec.ofChange valtextHoldsSpec)

/-- ITS FALSE NEIGHBOUR: 'it returns false'. Refute it at one input. -/
def valtextHoldsWrong : ChangeSpec := { name := "valtextHolds", fn := fun _ => fun
  | [d1, d2, d3, d4] => { results := [.lit (.bool false)], args := [d1, d2, d3, d4] }
  | _ => none }
def ValtextHoldsWrongFalsely : Prop := valtextHoldsRow.holds Tryd.pinned (OpenSpec.ofChange valtextHoldsWrong)

/-- 'betrothallaw05.ValtextDeep': WHATEVER THE INPUT: true; the input reads as it did. -/
def valtextDeepSpec : ChangeSpec := { name := "valtextDeep", fn := fun _ => fun
  | [d1, d2, d3] => { results := [.lit (.bool true)], args := [d1, d2, d3] }
  | _ => none }
def valtextDeepRow : OpenClaim := { program := "ytkahboomahhdoaadoor", sum := "26c89a281941cddfba1a44ebd424f1fc7b5bb0b4cf85866ac6e8bbec51b2d865", func := "betrothal/betrothallaw05.ValtextDeep", spec := "valtextDeep", inPlace := ["internal/abi.NoEscape", "internal/bytealg.IndexByteString", "internal/bytealg.IndexString", "internal/bytealg.MakeNoZero"], unfollowed := true, recurses := true, named := ["betrothal/valtext.words", "internal/strconv.uint64pow10", "math/bits.deBruijn32tab", "math/bits.deBruijn64tab", "internal/bytealg.MaxLen"], apart := false, laid := [("math/bits.deBruijn32tab", laid_math_bits_deBruijn32tab), ("math/bits.deBruijn64tab", laid_math_bits_deBruijn64tab), ("internal/strconv.uint64pow10", laid_internal_strconv_uint64pow10), ("betrothal/valtext.words", laid_betrothal_valtext_words)] }
def ValtextDeepSaid : Prop := valtextDeepRow.holds Tryd.pinned (OpenSpec.ofChange valtextDeepSpec)

/-- ITS FALSE NEIGHBOUR: 'it returns false'. Refute it at one input. -/
def valtextDeepWrong : ChangeSpec := { name := "valtextDeep", fn := fun _ => fun
  | [d1, d2, d3] => { results := [.lit (.bool false)], args := [d1, d2, d3] }
  | _ => none }
def ValtextDeepWrongFalsely : Prop := valtextDeepRow.holds Tryd.pinned (OpenSpec.ofChange valtextDeepWrong)

/- THE SECOND FORM. 'bulk': how many values and letters a reading holds, each counted each time it is reached (what is shared counts as often as it is met; a slice's spare places count too). A statement '..UptoSaid' is the law's where the arguments, and the package variables that the reading takes, are together of bulk at most 1048576: NARROWER than '..Said'. Prove '..Said' where nothing that the law and all that it calls make is longer than what came in: it says more and counts as full. Else prove '..UptoSaid'. A law counts once. -/
mutual
def uptoBulk {H : Type} : DataW H → Nat
  | .lit (.string bytes) => bytes.length + 1
  | .lit _ => 1
  | .nil => 1
  | .ptr d => uptoBulk d + 1
  | .slice elems spare => uptoBulkAll elems + uptoBulkAll spare + 1
  | .agg parts => uptoBulkAll parts + 1
  | .iface _ d => uptoBulk d + 1
  | .map entries => uptoBulkEntries entries + 1
  | .held _ => 1
def uptoBulkAll {H : Type} : List (DataW H) → Nat
  | [] => 0
  | d :: r => uptoBulk d + uptoBulkAll r
def uptoBulkEntries {H : Type} : List (Lit × DataW H) → Nat
  | [] => 0
  | x :: r => uptoBulkEntry x + uptoBulkEntries r
def uptoBulkEntry {H : Type} : Lit × DataW H → Nat
  | (.string bytes, d) => bytes.length + uptoBulk d + 1
  | (_, d) => uptoBulk d + 1
 end
def uptoSmall : (H : Type) → List (DataW H) → Bool := fun _ ds => decide (uptoBulkAll ds ≤ 1048576)
def OpenSpec.upto (s : _root_.Go.ChangeSpec) : _root_.Go.OpenSpec := { _root_.Go.OpenSpec.ofChange s with cond := some uptoSmall }

/-- 'betrothallaw05.ValtextParses', WHERE WHAT IT READS IS OF BULK AT MOST 1048576: true; the input reads as it did. -/
def valtextParsesUptoRow : OpenClaim := { program := "ytkahboomahhdoaadoor", sum := "26c89a281941cddfba1a44ebd424f1fc7b5bb0b4cf85866ac6e8bbec51b2d865", func := "betrothal/betrothallaw05.ValtextParses", spec := "valtextParses", inPlace := ["internal/abi.NoEscape", "internal/bytealg.IndexByteString", "internal/bytealg.IndexString"], unfollowed := true, recurses := true, named := ["betrothal/valtext.words", "internal/strconv.uint64pow10", "math/bits.deBruijn32tab", "math/bits.deBruijn64tab", "internal/bytealg.MaxLen"], apart := false, laid := [("math/bits.deBruijn32tab", laid_math_bits_deBruijn32tab), ("math/bits.deBruijn64tab", laid_math_bits_deBruijn64tab), ("internal/strconv.uint64pow10", laid_internal_strconv_uint64pow10), ("betrothal/valtext.words", laid_betrothal_valtext_words)], narrowed := true }
def ValtextParsesUptoSaid : Prop := valtextParsesUptoRow.holds Tryd.pinned (OpenSpec.upto valtextParsesSpec)

/-- 'betrothallaw05.ValtextLines', WHERE WHAT IT READS IS OF BULK AT MOST 1048576: true; the input reads as it did. -/
def valtextLinesUptoRow : OpenClaim := { program := "ytkahboomahhdoaadoor", sum := "26c89a281941cddfba1a44ebd424f1fc7b5bb0b4cf85866ac6e8bbec51b2d865", func := "betrothal/betrothallaw05.ValtextLines", spec := "valtextLines", inPlace := ["internal/abi.NoEscape", "internal/bytealg.IndexByteString", "internal/bytealg.IndexString"], unfollowed := true, recurses := true, named := ["betrothal/valtext.words", "internal/strconv.uint64pow10", "math/bits.deBruijn32tab", "math/bits.deBruijn64tab", "internal/bytealg.MaxLen"], apart := false, laid := [("math/bits.deBruijn32tab", laid_math_bits_deBruijn32tab), ("math/bits.deBruijn64tab", laid_math_bits_deBruijn64tab), ("internal/strconv.uint64pow10", laid_internal_strconv_uint64pow10), ("betrothal/valtext.words", laid_betrothal_valtext_words)], narrowed := true }
def ValtextLinesUptoSaid : Prop := valtextLinesUptoRow.holds Tryd.pinned (OpenSpec.upto valtextLinesSpec)

/-- 'betrothallaw05.ValtextWords', WHERE WHAT IT READS IS OF BULK AT MOST 1048576: true; the input reads as it did. -/
def valtextWordsUptoRow : OpenClaim := { program := "ytkahboomahhdoaadoor", sum := "26c89a281941cddfba1a44ebd424f1fc7b5bb0b4cf85866ac6e8bbec51b2d865", func := "betrothal/betrothallaw05.ValtextWords", spec := "valtextWords", inPlace := ["internal/abi.NoEscape", "internal/bytealg.IndexByteString", "internal/bytealg.IndexString"], unfollowed := true, recurses := true, named := ["betrothal/valtext.words", "internal/strconv.uint64pow10", "math/bits.deBruijn32tab", "math/bits.deBruijn64tab", "internal/bytealg.MaxLen"], apart := false, laid := [("math/bits.deBruijn32tab", laid_math_bits_deBruijn32tab), ("math/bits.deBruijn64tab", laid_math_bits_deBruijn64tab), ("internal/strconv.uint64pow10", laid_internal_strconv_uint64pow10), ("betrothal/valtext.words", laid_betrothal_valtext_words)], narrowed := true }
def ValtextWordsUptoSaid : Prop := valtextWordsUptoRow.holds Tryd.pinned (OpenSpec.upto valtextWordsSpec)

/-- 'betrothallaw05.ValtextTells', WHERE WHAT IT READS IS OF BULK AT MOST 1048576: true; the input reads as it did. -/
def valtextTellsUptoRow : OpenClaim := { program := "ytkahboomahhdoaadoor", sum := "26c89a281941cddfba1a44ebd424f1fc7b5bb0b4cf85866ac6e8bbec51b2d865", func := "betrothal/betrothallaw05.ValtextTells", spec := "valtextTells", inPlace := ["internal/abi.NoEscape", "internal/bytealg.IndexByteString", "internal/bytealg.IndexString"], unfollowed := true, recurses := true, named := ["betrothal/valtext.words", "internal/strconv.uint64pow10", "math/bits.deBruijn32tab", "math/bits.deBruijn64tab", "internal/bytealg.MaxLen"], loops := true, apart := false, laid := [("math/bits.deBruijn32tab", laid_math_bits_deBruijn32tab), ("math/bits.deBruijn64tab", laid_math_bits_deBruijn64tab), ("internal/strconv.uint64pow10", laid_internal_strconv_uint64pow10), ("betrothal/valtext.words", laid_betrothal_valtext_words)], narrowed := true }
def ValtextTellsUptoSaid : Prop := valtextTellsUptoRow.holds Tryd.pinned (OpenSpec.upto valtextTellsSpec)

/-- 'betrothallaw05.ValtextHolds', WHERE WHAT IT READS IS OF BULK AT MOST 1048576: true; the input reads as it did. -/
def valtextHoldsUptoRow : OpenClaim := { program := "ytkahboomahhdoaadoor", sum := "26c89a281941cddfba1a44ebd424f1fc7b5bb0b4cf85866ac6e8bbec51b2d865", func := "betrothal/betrothallaw05.ValtextHolds", spec := "valtextHolds", inPlace := ["internal/abi.NoEscape", "internal/bytealg.IndexByteString", "internal/bytealg.IndexString"], unfollowed := true, recurses := true, named := ["betrothal/valtext.words", "internal/strconv.uint64pow10", "math/bits.deBruijn32tab", "math/bits.deBruijn64tab", "internal/bytealg.MaxLen"], loops := true, apart := false, laid := [("math/bits.deBruijn32tab", laid_math_bits_deBruijn32tab), ("math/bits.deBruijn64tab", laid_math_bits_deBruijn64tab), ("internal/strconv.uint64pow10", laid_internal_strconv_uint64pow10), ("betrothal/valtext.words", laid_betrothal_valtext_words)], narrowed := true }
def ValtextHoldsUptoSaid : Prop := valtextHoldsUptoRow.holds Tryd.pinned (OpenSpec.upto valtextHoldsSpec)

/-- 'betrothallaw05.ValtextDeep', WHERE WHAT IT READS IS OF BULK AT MOST 1048576: true; the input reads as it did. -/
def valtextDeepUptoRow : OpenClaim := { program := "ytkahboomahhdoaadoor", sum := "26c89a281941cddfba1a44ebd424f1fc7b5bb0b4cf85866ac6e8bbec51b2d865", func := "betrothal/betrothallaw05.ValtextDeep", spec := "valtextDeep", inPlace := ["internal/abi.NoEscape", "internal/bytealg.IndexByteString", "internal/bytealg.IndexString", "internal/bytealg.MakeNoZero"], unfollowed := true, recurses := true, named := ["betrothal/valtext.words", "internal/strconv.uint64pow10", "math/bits.deBruijn32tab", "math/bits.deBruijn64tab", "internal/bytealg.MaxLen"], apart := false, laid := [("math/bits.deBruijn32tab", laid_math_bits_deBruijn32tab), ("math/bits.deBruijn64tab", laid_math_bits_deBruijn64tab), ("internal/strconv.uint64pow10", laid_internal_strconv_uint64pow10), ("betrothal/valtext.words", laid_betrothal_valtext_words)], narrowed := true }
def ValtextDeepUptoSaid : Prop := valtextDeepUptoRow.holds Tryd.pinned (OpenSpec.upto valtextDeepSpec)

end Rows
end Go.Proofs.YtkahboomahhdoaaDoor
