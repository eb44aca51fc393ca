/-
  NARROWER THAN 'FOR EVERY INPUT', by the rows' own cells (each row's printed sentence says how): GlyphTells: laid · GlyphReads: laid · GlyphPlaces: laid · GlyphBack: laid · GlyphLines: laid · GlyphMore: laid · GlyphJoined: laid · GlyphTexts: laid.
  DERIVED. THE GIVEN ROWS OF THIS SEAT. 8 by the template 'for every input the law returns true; each argument reads behind the call as it read before'; 0 by the template 'total and deterministic' (their statements: YtjjkbfjahljeeaaDoorTotals.lean).
  GIVEN WITH THE SEED: the statements are not yours to turn. If you find one false, say at which input.
  Laid BY PROGRAM, IN A SANDBOX (cutbox-rows.mjs): the forced cells as the released guide's own fill.sh prints them over the translation 11b2c6bdc8d8cfef… (all of the seat's roots in one cut). By AI agents, Wed Nov 11 2026. No macro, syntax, notation, axiom, sorry.
-/
import Derived.Test.YtjjkbfjahljeeaaDoorChecked
import GoSem.PinnedTables
import GoSem.Claim
import GoSem.ClaimJoined
import GoSem.ClaimMapViews
import Derived.JoinedTies
import Derived.KernelRfl
namespace Go.Proofs.YtjjkbfjahljeeaaDoor
/- THE CELL 'sum', in the pinned program and in every row, IS THE sha256 OF THE DUMP (.gsa) THAT YtjjkbfjahljeeaaDoorProg.lean LOADS. Nothing in Lean hashes anything: it is a label: what it is worth is what the hold of that sum in a sandbox is worth. -/
noncomputable def Tryd.pinned : Pinned := { name := "ytjjkbfjahljeeaadoor", sum := "11b2c6bdc8d8cfef6d26a1cd92c2efc4d145506fa18932846e91065904f0a8d6", checked := Tryd.checked }
namespace Rows
def none {H : Type} : Left H := { results := [], args := [] }

/- WHAT THE LISTED PACKAGE-LEVEL VARIABLES READ AS WHEN THE CALL BEGINS. Each datum BY PROGRAM (the guide's laid-datum.mjs) off the statement by which the dump's own 'gosem.cut.vars' lays the variable. In a bare row this is a premise. The card (YtjjkbfjahljeeaaDoorCards.lean) ties it to the program's text. -/
def laid_unicode_utf8_acceptRanges {H : Type} : DataW H := .agg [.agg [.lit (.int .u8 128), .lit (.int .u8 191)], .agg [.lit (.int .u8 160), .lit (.int .u8 191)], .agg [.lit (.int .u8 128), .lit (.int .u8 159)], .agg [.lit (.int .u8 144), .lit (.int .u8 191)], .agg [.lit (.int .u8 128), .lit (.int .u8 143)], .agg [.lit (.int .u8 0), .lit (.int .u8 0)], .agg [.lit (.int .u8 0), .lit (.int .u8 0)], .agg [.lit (.int .u8 0), .lit (.int .u8 0)], .agg [.lit (.int .u8 0), .lit (.int .u8 0)], .agg [.lit (.int .u8 0), .lit (.int .u8 0)], .agg [.lit (.int .u8 0), .lit (.int .u8 0)], .agg [.lit (.int .u8 0), .lit (.int .u8 0)], .agg [.lit (.int .u8 0), .lit (.int .u8 0)], .agg [.lit (.int .u8 0), .lit (.int .u8 0)], .agg [.lit (.int .u8 0), .lit (.int .u8 0)], .agg [.lit (.int .u8 0), .lit (.int .u8 0)]]
/-- One of Go's own tables, pinned by name: the form's constant. -/
def laid_unicode_utf8_first : DataW Unit := Go.Pinned.utf8First

/-- 'leavenlaw01.GlyphTells': WHATEVER THE INPUT: true; the input reads as it did. -/
def glyphTellsSpec : ChangeSpec := { name := "glyphTells", fn := fun _ => fun
  | [d] => { results := [.lit (.bool true)], args := [d] }
  | _ => none }
def glyphTellsRow : OpenClaim := { program := "ytjjkbfjahljeeaadoor", sum := "11b2c6bdc8d8cfef6d26a1cd92c2efc4d145506fa18932846e91065904f0a8d6", func := "leaven/leavenlaw01.GlyphTells", spec := "glyphTells", inPlace := ["internal/bytealg.IndexByteString", "internal/abi.NoEscape"], unfollowed := true, recurses := true, named := ["unicode/utf8.first", "unicode/utf8.acceptRanges"], apart := false, laid := [("unicode/utf8.acceptRanges", laid_unicode_utf8_acceptRanges), ("unicode/utf8.first", laid_unicode_utf8_first)] }
def GlyphTellsSaid : Prop := glyphTellsRow.holds Tryd.pinned (OpenSpec.ofChange glyphTellsSpec)

/-- ITS FALSE NEIGHBOUR: 'it returns false'. Refute it at one input. -/
def glyphTellsWrong : ChangeSpec := { name := "glyphTells", fn := fun _ => fun
  | [d] => { results := [.lit (.bool false)], args := [d] }
  | _ => none }
def GlyphTellsWrongFalsely : Prop := glyphTellsRow.holds Tryd.pinned (OpenSpec.ofChange glyphTellsWrong)

/-- 'leavenlaw01.GlyphReads': WHATEVER THE INPUT: true; the input reads as it did. -/
def glyphReadsSpec : ChangeSpec := { name := "glyphReads", fn := fun _ => fun
  | [d] => { results := [.lit (.bool true)], args := [d] }
  | _ => none }
def glyphReadsRow : OpenClaim := { program := "ytjjkbfjahljeeaadoor", sum := "11b2c6bdc8d8cfef6d26a1cd92c2efc4d145506fa18932846e91065904f0a8d6", func := "leaven/leavenlaw01.GlyphReads", spec := "glyphReads", inPlace := ["internal/bytealg.IndexByteString", "internal/abi.NoEscape"], unfollowed := true, recurses := true, named := ["unicode/utf8.first", "unicode/utf8.acceptRanges"], apart := false, laid := [("unicode/utf8.acceptRanges", laid_unicode_utf8_acceptRanges), ("unicode/utf8.first", laid_unicode_utf8_first)] }
def GlyphReadsSaid : Prop := glyphReadsRow.holds Tryd.pinned (OpenSpec.ofChange glyphReadsSpec)

/-- ITS FALSE NEIGHBOUR: 'it returns false'. Refute it at one input. -/
def glyphReadsWrong : ChangeSpec := { name := "glyphReads", fn := fun _ => fun
  | [d] => { results := [.lit (.bool false)], args := [d] }
  | _ => none }
def GlyphReadsWrongFalsely : Prop := glyphReadsRow.holds Tryd.pinned (OpenSpec.ofChange glyphReadsWrong)

/-- 'leavenlaw01.GlyphPlaces': WHATEVER THE INPUT: true; the input reads as it did. -/
def glyphPlacesSpec : ChangeSpec := { name := "glyphPlaces", fn := fun _ => fun
  | [d1, d2] => { results := [.lit (.bool true)], args := [d1, d2] }
  | _ => none }
def glyphPlacesRow : OpenClaim := { program := "ytjjkbfjahljeeaadoor", sum := "11b2c6bdc8d8cfef6d26a1cd92c2efc4d145506fa18932846e91065904f0a8d6", func := "leaven/leavenlaw01.GlyphPlaces", spec := "glyphPlaces", inPlace := ["internal/bytealg.IndexByteString", "internal/abi.NoEscape"], unfollowed := true, recurses := true, named := ["unicode/utf8.first", "unicode/utf8.acceptRanges"], apart := false, laid := [("unicode/utf8.acceptRanges", laid_unicode_utf8_acceptRanges), ("unicode/utf8.first", laid_unicode_utf8_first)] }
def GlyphPlacesSaid : Prop := glyphPlacesRow.holds Tryd.pinned (OpenSpec.ofChange glyphPlacesSpec)

/-- ITS FALSE NEIGHBOUR: 'it returns false'. Refute it at one input. -/
def glyphPlacesWrong : ChangeSpec := { name := "glyphPlaces", fn := fun _ => fun
  | [d1, d2] => { results := [.lit (.bool false)], args := [d1, d2] }
  | _ => none }
def GlyphPlacesWrongFalsely : Prop := glyphPlacesRow.holds Tryd.pinned (OpenSpec.ofChange glyphPlacesWrong)

/-- 'leavenlaw01.GlyphBack': WHATEVER THE INPUT: true; the input reads as it did. -/
def glyphBackSpec : ChangeSpec := { name := "glyphBack", fn := fun _ => fun
  | [d1, d2, d3] => { results := [.lit (.bool true)], args := [d1, d2, d3] }
  | _ => none }
def glyphBackRow : OpenClaim := { program := "ytjjkbfjahljeeaadoor", sum := "11b2c6bdc8d8cfef6d26a1cd92c2efc4d145506fa18932846e91065904f0a8d6", func := "leaven/leavenlaw01.GlyphBack", spec := "glyphBack", inPlace := ["internal/bytealg.IndexByteString", "internal/abi.NoEscape"], unfollowed := true, recurses := true, named := ["unicode/utf8.first", "unicode/utf8.acceptRanges"], apart := false, laid := [("unicode/utf8.acceptRanges", laid_unicode_utf8_acceptRanges), ("unicode/utf8.first", laid_unicode_utf8_first)] }
def GlyphBackSaid : Prop := glyphBackRow.holds Tryd.pinned (OpenSpec.ofChange glyphBackSpec)

/-- ITS FALSE NEIGHBOUR: 'it returns false'. Refute it at one input. -/
def glyphBackWrong : ChangeSpec := { name := "glyphBack", fn := fun _ => fun
  | [d1, d2, d3] => { results := [.lit (.bool false)], args := [d1, d2, d3] }
  | _ => none }
def GlyphBackWrongFalsely : Prop := glyphBackRow.holds Tryd.pinned (OpenSpec.ofChange glyphBackWrong)

/-- 'leavenlaw01.GlyphLines': WHATEVER THE INPUT: true; the input reads as it did. -/
def glyphLinesSpec : ChangeSpec := { name := "glyphLines", fn := fun _ => fun
  | [d1, d2] => { results := [.lit (.bool true)], args := [d1, d2] }
  | _ => none }
def glyphLinesRow : OpenClaim := { program := "ytjjkbfjahljeeaadoor", sum := "11b2c6bdc8d8cfef6d26a1cd92c2efc4d145506fa18932846e91065904f0a8d6", func := "leaven/leavenlaw01.GlyphLines", spec := "glyphLines", inPlace := ["internal/bytealg.IndexByteString", "internal/abi.NoEscape"], unfollowed := true, recurses := true, named := ["unicode/utf8.first", "unicode/utf8.acceptRanges"], apart := false, laid := [("unicode/utf8.acceptRanges", laid_unicode_utf8_acceptRanges), ("unicode/utf8.first", laid_unicode_utf8_first)] }
def GlyphLinesSaid : Prop := glyphLinesRow.holds Tryd.pinned (OpenSpec.ofChange glyphLinesSpec)

/-- ITS FALSE NEIGHBOUR: 'it returns false'. Refute it at one input. -/
def glyphLinesWrong : ChangeSpec := { name := "glyphLines", fn := fun _ => fun
  | [d1, d2] => { results := [.lit (.bool false)], args := [d1, d2] }
  | _ => none }
def GlyphLinesWrongFalsely : Prop := glyphLinesRow.holds Tryd.pinned (OpenSpec.ofChange glyphLinesWrong)

/-- 'leavenlaw01.GlyphMore': WHATEVER THE INPUT: true; the input reads as it did. -/
def glyphMoreSpec : ChangeSpec := { name := "glyphMore", fn := fun _ => fun
  | [d1, d2] => { results := [.lit (.bool true)], args := [d1, d2] }
  | _ => none }
def glyphMoreRow : OpenClaim := { program := "ytjjkbfjahljeeaadoor", sum := "11b2c6bdc8d8cfef6d26a1cd92c2efc4d145506fa18932846e91065904f0a8d6", func := "leaven/leavenlaw01.GlyphMore", spec := "glyphMore", inPlace := ["internal/bytealg.IndexByteString", "internal/abi.NoEscape"], unfollowed := true, recurses := true, named := ["unicode/utf8.first", "unicode/utf8.acceptRanges"], apart := false, laid := [("unicode/utf8.acceptRanges", laid_unicode_utf8_acceptRanges), ("unicode/utf8.first", laid_unicode_utf8_first)] }
def GlyphMoreSaid : Prop := glyphMoreRow.holds Tryd.pinned (OpenSpec.ofChange glyphMoreSpec)

/-- ITS FALSE NEIGHBOUR: 'it returns false'. Refute it at one input. -/
def glyphMoreWrong : ChangeSpec := { name := "glyphMore", fn := fun _ => fun
  | [d1, d2] => { results := [.lit (.bool false)], args := [d1, d2] }
  | _ => none }
def GlyphMoreWrongFalsely : Prop := glyphMoreRow.holds Tryd.pinned (OpenSpec.ofChange glyphMoreWrong)

/-- 'leavenlaw01.GlyphJoined': WHATEVER THE INPUT: true; the input reads as it did. -/
def glyphJoinedSpec : ChangeSpec := { name := "glyphJoined", fn := fun _ => fun
  | [d1, d2] => { results := [.lit (.bool true)], args := [d1, d2] }
  | _ => none }
def glyphJoinedRow : OpenClaim := { program := "ytjjkbfjahljeeaadoor", sum := "11b2c6bdc8d8cfef6d26a1cd92c2efc4d145506fa18932846e91065904f0a8d6", func := "leaven/leavenlaw01.GlyphJoined", spec := "glyphJoined", inPlace := ["internal/bytealg.IndexByteString", "internal/abi.NoEscape"], unfollowed := true, recurses := true, named := ["unicode/utf8.first", "unicode/utf8.acceptRanges"], apart := false, laid := [("unicode/utf8.acceptRanges", laid_unicode_utf8_acceptRanges), ("unicode/utf8.first", laid_unicode_utf8_first)] }
def GlyphJoinedSaid : Prop := glyphJoinedRow.holds Tryd.pinned (OpenSpec.ofChange glyphJoinedSpec)

/-- ITS FALSE NEIGHBOUR: 'it returns false'. Refute it at one input. -/
def glyphJoinedWrong : ChangeSpec := { name := "glyphJoined", fn := fun _ => fun
  | [d1, d2] => { results := [.lit (.bool false)], args := [d1, d2] }
  | _ => none }
def GlyphJoinedWrongFalsely : Prop := glyphJoinedRow.holds Tryd.pinned (OpenSpec.ofChange glyphJoinedWrong)

/-- 'leavenlaw01.GlyphTexts': WHATEVER THE INPUT: true; the input reads as it did. -/
def glyphTextsSpec : ChangeSpec := { name := "glyphTexts", fn := fun _ => fun
  | [d1, d2, d3] => { results := [.lit (.bool true)], args := [d1, d2, d3] }
  | _ => none }
def glyphTextsRow : OpenClaim := { program := "ytjjkbfjahljeeaadoor", sum := "11b2c6bdc8d8cfef6d26a1cd92c2efc4d145506fa18932846e91065904f0a8d6", func := "leaven/leavenlaw01.GlyphTexts", spec := "glyphTexts", inPlace := ["internal/bytealg.IndexByteString", "internal/abi.NoEscape"], unfollowed := true, recurses := true, named := ["unicode/utf8.first", "unicode/utf8.acceptRanges"], apart := false, laid := [("unicode/utf8.acceptRanges", laid_unicode_utf8_acceptRanges), ("unicode/utf8.first", laid_unicode_utf8_first)] }
def GlyphTextsSaid : Prop := glyphTextsRow.holds Tryd.pinned (OpenSpec.ofChange glyphTextsSpec)

/-- ITS FALSE NEIGHBOUR: 'it returns false'. Refute it at one input. -/
def glyphTextsWrong : ChangeSpec := { name := "glyphTexts", fn := fun _ => fun
  | [d1, d2, d3] => { results := [.lit (.bool false)], args := [d1, d2, d3] }
  | _ => none }
def GlyphTextsWrongFalsely : Prop := glyphTextsRow.holds Tryd.pinned (OpenSpec.ofChange glyphTextsWrong)

/- THE SECOND FORM. 'bulk': how many values and letters a reading holds, each counted each time it is reached (what is shared counts as often as it is met; a slice's spare places count too). A statement '..UptoSaid' is the law's where the arguments, and the package variables that the reading takes, are together of bulk at most 1048576: NARROWER than '..Said'. Prove '..Said' where nothing that the law and all that it calls make is longer than what came in: it says more and counts as full. Else prove '..UptoSaid'. A law counts once. -/
mutual
def uptoBulk {H : Type} : DataW H → Nat
  | .lit (.string bytes) => bytes.length + 1
  | .lit _ => 1
  | .nil => 1
  | .ptr d => uptoBulk d + 1
  | .slice elems spare => uptoBulkAll elems + uptoBulkAll spare + 1
  | .agg parts => uptoBulkAll parts + 1
  | .iface _ d => uptoBulk d + 1
  | .map entries => uptoBulkEntries entries + 1
  | .held _ => 1
def uptoBulkAll {H : Type} : List (DataW H) → Nat
  | [] => 0
  | d :: r => uptoBulk d + uptoBulkAll r
def uptoBulkEntries {H : Type} : List (Lit × DataW H) → Nat
  | [] => 0
  | x :: r => uptoBulkEntry x + uptoBulkEntries r
def uptoBulkEntry {H : Type} : Lit × DataW H → Nat
  | (.string bytes, d) => bytes.length + uptoBulk d + 1
  | (_, d) => uptoBulk d + 1
 end
def uptoSmall : (H : Type) → List (DataW H) → Bool := fun _ ds => decide (uptoBulkAll ds ≤ 1048576)
def OpenSpec.upto (s : _root_.Go.ChangeSpec) : _root_.Go.OpenSpec := { _root_.Go.OpenSpec.ofChange s with cond := some uptoSmall }

/-- 'leavenlaw01.GlyphTells', WHERE WHAT IT READS IS OF BULK AT MOST 1048576: true; the input reads as it did. -/
def glyphTellsUptoRow : OpenClaim := { program := "ytjjkbfjahljeeaadoor", sum := "11b2c6bdc8d8cfef6d26a1cd92c2efc4d145506fa18932846e91065904f0a8d6", func := "leaven/leavenlaw01.GlyphTells", spec := "glyphTells", inPlace := ["internal/bytealg.IndexByteString", "internal/abi.NoEscape"], unfollowed := true, recurses := true, named := ["unicode/utf8.first", "unicode/utf8.acceptRanges"], apart := false, laid := [("unicode/utf8.acceptRanges", laid_unicode_utf8_acceptRanges), ("unicode/utf8.first", laid_unicode_utf8_first)], narrowed := true }
def GlyphTellsUptoSaid : Prop := glyphTellsUptoRow.holds Tryd.pinned (OpenSpec.upto glyphTellsSpec)

/-- 'leavenlaw01.GlyphReads', WHERE WHAT IT READS IS OF BULK AT MOST 1048576: true; the input reads as it did. -/
def glyphReadsUptoRow : OpenClaim := { program := "ytjjkbfjahljeeaadoor", sum := "11b2c6bdc8d8cfef6d26a1cd92c2efc4d145506fa18932846e91065904f0a8d6", func := "leaven/leavenlaw01.GlyphReads", spec := "glyphReads", inPlace := ["internal/bytealg.IndexByteString", "internal/abi.NoEscape"], unfollowed := true, recurses := true, named := ["unicode/utf8.first", "unicode/utf8.acceptRanges"], apart := false, laid := [("unicode/utf8.acceptRanges", laid_unicode_utf8_acceptRanges), ("unicode/utf8.first", laid_unicode_utf8_first)], narrowed := true }
def GlyphReadsUptoSaid : Prop := glyphReadsUptoRow.holds Tryd.pinned (OpenSpec.upto glyphReadsSpec)

/-- 'leavenlaw01.GlyphPlaces', WHERE WHAT IT READS IS OF BULK AT MOST 1048576: true; the input reads as it did. -/
def glyphPlacesUptoRow : OpenClaim := { program := "ytjjkbfjahljeeaadoor", sum := "11b2c6bdc8d8cfef6d26a1cd92c2efc4d145506fa18932846e91065904f0a8d6", func := "leaven/leavenlaw01.GlyphPlaces", spec := "glyphPlaces", inPlace := ["internal/bytealg.IndexByteString", "internal/abi.NoEscape"], unfollowed := true, recurses := true, named := ["unicode/utf8.first", "unicode/utf8.acceptRanges"], apart := false, laid := [("unicode/utf8.acceptRanges", laid_unicode_utf8_acceptRanges), ("unicode/utf8.first", laid_unicode_utf8_first)], narrowed := true }
def GlyphPlacesUptoSaid : Prop := glyphPlacesUptoRow.holds Tryd.pinned (OpenSpec.upto glyphPlacesSpec)

/-- 'leavenlaw01.GlyphBack', WHERE WHAT IT READS IS OF BULK AT MOST 1048576: true; the input reads as it did. -/
def glyphBackUptoRow : OpenClaim := { program := "ytjjkbfjahljeeaadoor", sum := "11b2c6bdc8d8cfef6d26a1cd92c2efc4d145506fa18932846e91065904f0a8d6", func := "leaven/leavenlaw01.GlyphBack", spec := "glyphBack", inPlace := ["internal/bytealg.IndexByteString", "internal/abi.NoEscape"], unfollowed := true, recurses := true, named := ["unicode/utf8.first", "unicode/utf8.acceptRanges"], apart := false, laid := [("unicode/utf8.acceptRanges", laid_unicode_utf8_acceptRanges), ("unicode/utf8.first", laid_unicode_utf8_first)], narrowed := true }
def GlyphBackUptoSaid : Prop := glyphBackUptoRow.holds Tryd.pinned (OpenSpec.upto glyphBackSpec)

/-- 'leavenlaw01.GlyphLines', WHERE WHAT IT READS IS OF BULK AT MOST 1048576: true; the input reads as it did. -/
def glyphLinesUptoRow : OpenClaim := { program := "ytjjkbfjahljeeaadoor", sum := "11b2c6bdc8d8cfef6d26a1cd92c2efc4d145506fa18932846e91065904f0a8d6", func := "leaven/leavenlaw01.GlyphLines", spec := "glyphLines", inPlace := ["internal/bytealg.IndexByteString", "internal/abi.NoEscape"], unfollowed := true, recurses := true, named := ["unicode/utf8.first", "unicode/utf8.acceptRanges"], apart := false, laid := [("unicode/utf8.acceptRanges", laid_unicode_utf8_acceptRanges), ("unicode/utf8.first", laid_unicode_utf8_first)], narrowed := true }
def GlyphLinesUptoSaid : Prop := glyphLinesUptoRow.holds Tryd.pinned (OpenSpec.upto glyphLinesSpec)

/-- 'leavenlaw01.GlyphMore', WHERE WHAT IT READS IS OF BULK AT MOST 1048576: true; the input reads as it did. -/
def glyphMoreUptoRow : OpenClaim := { program := "ytjjkbfjahljeeaadoor", sum := "11b2c6bdc8d8cfef6d26a1cd92c2efc4d145506fa18932846e91065904f0a8d6", func := "leaven/leavenlaw01.GlyphMore", spec := "glyphMore", inPlace := ["internal/bytealg.IndexByteString", "internal/abi.NoEscape"], unfollowed := true, recurses := true, named := ["unicode/utf8.first", "unicode/utf8.acceptRanges"], apart := false, laid := [("unicode/utf8.acceptRanges", laid_unicode_utf8_acceptRanges), ("unicode/utf8.first", laid_unicode_utf8_first)], narrowed := true }
def GlyphMoreUptoSaid : Prop := glyphMoreUptoRow.holds Tryd.pinned (OpenSpec.upto glyphMoreSpec)

/-- 'leavenlaw01.GlyphJoined', WHERE WHAT IT READS IS OF BULK AT MOST 1048576: true; the input reads as it did. -/
def glyphJoinedUptoRow : OpenClaim := { program := "ytjjkbfjahljeeaadoor", sum := "11b2c6bdc8d8cfef6d26a1cd92c2efc4d145506fa18932846e91065904f0a8d6", func := "leaven/leavenlaw01.GlyphJoined", spec := "glyphJoined", inPlace := ["internal/bytealg.IndexByteString", "internal/abi.NoEscape"], unfollowed := true, recurses := true, named := ["unicode/utf8.first", "unicode/utf8.acceptRanges"], apart := false, laid := [("unicode/utf8.acceptRanges", laid_unicode_utf8_acceptRanges), ("unicode/utf8.first", laid_unicode_utf8_first)], narrowed := true }
def GlyphJoinedUptoSaid : Prop := glyphJoinedUptoRow.holds Tryd.pinned (OpenSpec.upto glyphJoinedSpec)

/-- 'leavenlaw01.GlyphTexts', WHERE WHAT IT READS IS OF BULK AT MOST 1048576: true; the input reads as it did. -/
def glyphTextsUptoRow : OpenClaim := { program := "ytjjkbfjahljeeaadoor", sum := "11b2c6bdc8d8cfef6d26a1cd92c2efc4d145506fa18932846e91065904f0a8d6", func := "leaven/leavenlaw01.GlyphTexts", spec := "glyphTexts", inPlace := ["internal/bytealg.IndexByteString", "internal/abi.NoEscape"], unfollowed := true, recurses := true, named := ["unicode/utf8.first", "unicode/utf8.acceptRanges"], apart := false, laid := [("unicode/utf8.acceptRanges", laid_unicode_utf8_acceptRanges), ("unicode/utf8.first", laid_unicode_utf8_first)], narrowed := true }
def GlyphTextsUptoSaid : Prop := glyphTextsUptoRow.holds Tryd.pinned (OpenSpec.upto glyphTextsSpec)

end Rows
end Go.Proofs.YtjjkbfjahljeeaaDoor
