/-
  NARROWER THAN 'FOR EVERY INPUT', by the rows' own cells (each row's printed sentence says how): LivingSpec: loops · LivingMarginSpec: loops · LivingOrDead: loops · LivingMargin: loops · LivingMore: loops · MinimalSpec: loops · MinimalAgreeSpec: loops · MinimalBoth: loops · MinimalExchanged: loops · MinimalExactly: loops · MinimalSmallest: loops · CompareEither: loops · CompareSound: loops · CompareOrder: loops · CompareStricter: loops.
  DERIVED. THE GIVEN ROWS OF THIS SEAT. 15 by the template 'for every input the law returns true; each argument reads behind the call as it read before'; 0 by the template 'total and deterministic' (their statements: YtmnpbopkhpbhiaaTotals.lean).
  GIVEN WITH THE SEED: the statements are not yours to turn. If you find one false, say at which input.
  Laid BY PROGRAM, IN A SANDBOX (cutbox-rows.mjs): the forced cells as the released guide's own fill.sh prints them over the translation b765d93263a6f8cd… (all of the seat's roots in one cut). By AI agents, Wed Nov 11 2026. No macro, syntax, notation, axiom, sorry.
-/
import Derived.Test.YtmnpbopkhpbhiaaChecked
import GoSem.Claim
import GoSem.ClaimJoined
import GoSem.ClaimMapViews
import Derived.JoinedTies
import Derived.KernelRfl
namespace Go.Proofs.Ytmnpbopkhpbhiaa
/- THE CELL 'sum', in the pinned program and in every row, IS THE sha256 OF THE DUMP (.gsa) THAT YtmnpbopkhpbhiaaProg.lean LOADS. Nothing in Lean hashes anything: it is a label: what it is worth is what the hold of that sum in a sandbox is worth. -/
noncomputable def Try.pinned : Pinned := { name := "ytmnpbopkhpbhiaa", sum := "b765d93263a6f8cd598bd9435aa836b400abcce7393a41593be3ec4cb23969bf", checked := Try.checked }
namespace Rows
def none {H : Type} : Left H := { results := [], args := [] }

/-- 'signatorylaw51.LivingSpec': WHATEVER THE INPUT: true; the input reads as it did. -/
def livingSpecSpec : ChangeSpec := { name := "livingSpec", fn := fun _ => fun
  | [d1, d2] => { results := [.lit (.bool true)], args := [d1, d2] }
  | _ => none }
def livingSpecRow : OpenClaim := { program := "ytmnpbopkhpbhiaa", sum := "b765d93263a6f8cd598bd9435aa836b400abcce7393a41593be3ec4cb23969bf", func := "signatory/signatorylaw51.LivingSpec", spec := "livingSpec", unfollowed := true, recurses := true, loops := true, apart := false }
def LivingSpecSaid : Prop := livingSpecRow.holds Try.pinned (OpenSpec.ofChange livingSpecSpec)

/-- ITS FALSE NEIGHBOUR: 'it returns false'. Refute it at one input. -/
def livingSpecWrong : ChangeSpec := { name := "livingSpec", fn := fun _ => fun
  | [d1, d2] => { results := [.lit (.bool false)], args := [d1, d2] }
  | _ => none }
def LivingSpecWrongFalsely : Prop := livingSpecRow.holds Try.pinned (OpenSpec.ofChange livingSpecWrong)

/-- 'signatorylaw51.LivingMarginSpec': WHATEVER THE INPUT: true; the input reads as it did. -/
def livingMarginSpecSpec : ChangeSpec := { name := "livingMarginSpec", fn := fun _ => fun
  | [d1, d2] => { results := [.lit (.bool true)], args := [d1, d2] }
  | _ => none }
def livingMarginSpecRow : OpenClaim := { program := "ytmnpbopkhpbhiaa", sum := "b765d93263a6f8cd598bd9435aa836b400abcce7393a41593be3ec4cb23969bf", func := "signatory/signatorylaw51.LivingMarginSpec", spec := "livingMarginSpec", unfollowed := true, recurses := true, loops := true, apart := false }
def LivingMarginSpecSaid : Prop := livingMarginSpecRow.holds Try.pinned (OpenSpec.ofChange livingMarginSpecSpec)

/-- ITS FALSE NEIGHBOUR: 'it returns false'. Refute it at one input. -/
def livingMarginSpecWrong : ChangeSpec := { name := "livingMarginSpec", fn := fun _ => fun
  | [d1, d2] => { results := [.lit (.bool false)], args := [d1, d2] }
  | _ => none }
def LivingMarginSpecWrongFalsely : Prop := livingMarginSpecRow.holds Try.pinned (OpenSpec.ofChange livingMarginSpecWrong)

/-- 'signatorylaw51.LivingOrDead': WHATEVER THE INPUT: true; the input reads as it did. -/
def livingOrDeadSpec : ChangeSpec := { name := "livingOrDead", fn := fun _ => fun
  | [d1, d2] => { results := [.lit (.bool true)], args := [d1, d2] }
  | _ => none }
def livingOrDeadRow : OpenClaim := { program := "ytmnpbopkhpbhiaa", sum := "b765d93263a6f8cd598bd9435aa836b400abcce7393a41593be3ec4cb23969bf", func := "signatory/signatorylaw51.LivingOrDead", spec := "livingOrDead", unfollowed := true, recurses := true, loops := true, apart := false }
def LivingOrDeadSaid : Prop := livingOrDeadRow.holds Try.pinned (OpenSpec.ofChange livingOrDeadSpec)

/-- ITS FALSE NEIGHBOUR: 'it returns false'. Refute it at one input. -/
def livingOrDeadWrong : ChangeSpec := { name := "livingOrDead", fn := fun _ => fun
  | [d1, d2] => { results := [.lit (.bool false)], args := [d1, d2] }
  | _ => none }
def LivingOrDeadWrongFalsely : Prop := livingOrDeadRow.holds Try.pinned (OpenSpec.ofChange livingOrDeadWrong)

/-- 'signatorylaw51.LivingMargin': WHATEVER THE INPUT: true; the input reads as it did. -/
def livingMarginSpec : ChangeSpec := { name := "livingMargin", fn := fun _ => fun
  | [d1, d2, d3] => { results := [.lit (.bool true)], args := [d1, d2, d3] }
  | _ => none }
def livingMarginRow : OpenClaim := { program := "ytmnpbopkhpbhiaa", sum := "b765d93263a6f8cd598bd9435aa836b400abcce7393a41593be3ec4cb23969bf", func := "signatory/signatorylaw51.LivingMargin", spec := "livingMargin", unfollowed := true, recurses := true, loops := true, apart := false }
def LivingMarginSaid : Prop := livingMarginRow.holds Try.pinned (OpenSpec.ofChange livingMarginSpec)

/-- ITS FALSE NEIGHBOUR: 'it returns false'. Refute it at one input. -/
def livingMarginWrong : ChangeSpec := { name := "livingMargin", fn := fun _ => fun
  | [d1, d2, d3] => { results := [.lit (.bool false)], args := [d1, d2, d3] }
  | _ => none }
def LivingMarginWrongFalsely : Prop := livingMarginRow.holds Try.pinned (OpenSpec.ofChange livingMarginWrong)

/-- 'signatorylaw51.LivingMore': WHATEVER THE INPUT: true; the input reads as it did. -/
def livingMoreSpec : ChangeSpec := { name := "livingMore", fn := fun _ => fun
  | [d1, d2, d3] => { results := [.lit (.bool true)], args := [d1, d2, d3] }
  | _ => none }
def livingMoreRow : OpenClaim := { program := "ytmnpbopkhpbhiaa", sum := "b765d93263a6f8cd598bd9435aa836b400abcce7393a41593be3ec4cb23969bf", func := "signatory/signatorylaw51.LivingMore", spec := "livingMore", unfollowed := true, recurses := true, loops := true, apart := false }
def LivingMoreSaid : Prop := livingMoreRow.holds Try.pinned (OpenSpec.ofChange livingMoreSpec)

/-- ITS FALSE NEIGHBOUR: 'it returns false'. Refute it at one input. -/
def livingMoreWrong : ChangeSpec := { name := "livingMore", fn := fun _ => fun
  | [d1, d2, d3] => { results := [.lit (.bool false)], args := [d1, d2, d3] }
  | _ => none }
def LivingMoreWrongFalsely : Prop := livingMoreRow.holds Try.pinned (OpenSpec.ofChange livingMoreWrong)

/-- 'signatorylaw24.MinimalSpec': WHATEVER THE INPUT: true; the input reads as it did. -/
def minimalSpecSpec : ChangeSpec := { name := "minimalSpec", fn := fun _ => fun
  | [d] => { results := [.lit (.bool true)], args := [d] }
  | _ => none }
def minimalSpecRow : OpenClaim := { program := "ytmnpbopkhpbhiaa", sum := "b765d93263a6f8cd598bd9435aa836b400abcce7393a41593be3ec4cb23969bf", func := "signatory/signatorylaw24.MinimalSpec", spec := "minimalSpec", unfollowed := true, recurses := true, loops := true, apart := false }
def MinimalSpecSaid : Prop := minimalSpecRow.holds Try.pinned (OpenSpec.ofChange minimalSpecSpec)

/-- ITS FALSE NEIGHBOUR: 'it returns false'. Refute it at one input. -/
def minimalSpecWrong : ChangeSpec := { name := "minimalSpec", fn := fun _ => fun
  | [d] => { results := [.lit (.bool false)], args := [d] }
  | _ => none }
def MinimalSpecWrongFalsely : Prop := minimalSpecRow.holds Try.pinned (OpenSpec.ofChange minimalSpecWrong)

/-- 'signatorylaw24.MinimalAgreeSpec': WHATEVER THE INPUT: true; the input reads as it did. -/
def minimalAgreeSpecSpec : ChangeSpec := { name := "minimalAgreeSpec", fn := fun _ => fun
  | [d1, d2, d3] => { results := [.lit (.bool true)], args := [d1, d2, d3] }
  | _ => none }
def minimalAgreeSpecRow : OpenClaim := { program := "ytmnpbopkhpbhiaa", sum := "b765d93263a6f8cd598bd9435aa836b400abcce7393a41593be3ec4cb23969bf", func := "signatory/signatorylaw24.MinimalAgreeSpec", spec := "minimalAgreeSpec", unfollowed := true, recurses := true, loops := true, apart := false }
def MinimalAgreeSpecSaid : Prop := minimalAgreeSpecRow.holds Try.pinned (OpenSpec.ofChange minimalAgreeSpecSpec)

/-- ITS FALSE NEIGHBOUR: 'it returns false'. Refute it at one input. -/
def minimalAgreeSpecWrong : ChangeSpec := { name := "minimalAgreeSpec", fn := fun _ => fun
  | [d1, d2, d3] => { results := [.lit (.bool false)], args := [d1, d2, d3] }
  | _ => none }
def MinimalAgreeSpecWrongFalsely : Prop := minimalAgreeSpecRow.holds Try.pinned (OpenSpec.ofChange minimalAgreeSpecWrong)

/-- 'signatorylaw24.MinimalBoth': WHATEVER THE INPUT: true; the input reads as it did. -/
def minimalBothSpec : ChangeSpec := { name := "minimalBoth", fn := fun _ => fun
  | [d1, d2, d3] => { results := [.lit (.bool true)], args := [d1, d2, d3] }
  | _ => none }
def minimalBothRow : OpenClaim := { program := "ytmnpbopkhpbhiaa", sum := "b765d93263a6f8cd598bd9435aa836b400abcce7393a41593be3ec4cb23969bf", func := "signatory/signatorylaw24.MinimalBoth", spec := "minimalBoth", unfollowed := true, recurses := true, loops := true, apart := false }
def MinimalBothSaid : Prop := minimalBothRow.holds Try.pinned (OpenSpec.ofChange minimalBothSpec)

/-- ITS FALSE NEIGHBOUR: 'it returns false'. Refute it at one input. -/
def minimalBothWrong : ChangeSpec := { name := "minimalBoth", fn := fun _ => fun
  | [d1, d2, d3] => { results := [.lit (.bool false)], args := [d1, d2, d3] }
  | _ => none }
def MinimalBothWrongFalsely : Prop := minimalBothRow.holds Try.pinned (OpenSpec.ofChange minimalBothWrong)

/-- 'signatorylaw24.MinimalExchanged': WHATEVER THE INPUT: true; the input reads as it did. -/
def minimalExchangedSpec : ChangeSpec := { name := "minimalExchanged", fn := fun _ => fun
  | [d1, d2, d3] => { results := [.lit (.bool true)], args := [d1, d2, d3] }
  | _ => none }
def minimalExchangedRow : OpenClaim := { program := "ytmnpbopkhpbhiaa", sum := "b765d93263a6f8cd598bd9435aa836b400abcce7393a41593be3ec4cb23969bf", func := "signatory/signatorylaw24.MinimalExchanged", spec := "minimalExchanged", unfollowed := true, recurses := true, loops := true, apart := false }
def MinimalExchangedSaid : Prop := minimalExchangedRow.holds Try.pinned (OpenSpec.ofChange minimalExchangedSpec)

/-- ITS FALSE NEIGHBOUR: 'it returns false'. Refute it at one input. -/
def minimalExchangedWrong : ChangeSpec := { name := "minimalExchanged", fn := fun _ => fun
  | [d1, d2, d3] => { results := [.lit (.bool false)], args := [d1, d2, d3] }
  | _ => none }
def MinimalExchangedWrongFalsely : Prop := minimalExchangedRow.holds Try.pinned (OpenSpec.ofChange minimalExchangedWrong)

/-- 'signatorylaw24.MinimalExactly': WHATEVER THE INPUT: true; the input reads as it did. -/
def minimalExactlySpec : ChangeSpec := { name := "minimalExactly", fn := fun _ => fun
  | [d1, d2] => { results := [.lit (.bool true)], args := [d1, d2] }
  | _ => none }
def minimalExactlyRow : OpenClaim := { program := "ytmnpbopkhpbhiaa", sum := "b765d93263a6f8cd598bd9435aa836b400abcce7393a41593be3ec4cb23969bf", func := "signatory/signatorylaw24.MinimalExactly", spec := "minimalExactly", unfollowed := true, recurses := true, loops := true, apart := false }
def MinimalExactlySaid : Prop := minimalExactlyRow.holds Try.pinned (OpenSpec.ofChange minimalExactlySpec)

/-- ITS FALSE NEIGHBOUR: 'it returns false'. Refute it at one input. -/
def minimalExactlyWrong : ChangeSpec := { name := "minimalExactly", fn := fun _ => fun
  | [d1, d2] => { results := [.lit (.bool false)], args := [d1, d2] }
  | _ => none }
def MinimalExactlyWrongFalsely : Prop := minimalExactlyRow.holds Try.pinned (OpenSpec.ofChange minimalExactlyWrong)

/-- 'signatorylaw24.MinimalSmallest': WHATEVER THE INPUT: true; the input reads as it did. -/
def minimalSmallestSpec : ChangeSpec := { name := "minimalSmallest", fn := fun _ => fun
  | [d] => { results := [.lit (.bool true)], args := [d] }
  | _ => none }
def minimalSmallestRow : OpenClaim := { program := "ytmnpbopkhpbhiaa", sum := "b765d93263a6f8cd598bd9435aa836b400abcce7393a41593be3ec4cb23969bf", func := "signatory/signatorylaw24.MinimalSmallest", spec := "minimalSmallest", unfollowed := true, recurses := true, loops := true, apart := false }
def MinimalSmallestSaid : Prop := minimalSmallestRow.holds Try.pinned (OpenSpec.ofChange minimalSmallestSpec)

/-- ITS FALSE NEIGHBOUR: 'it returns false'. Refute it at one input. -/
def minimalSmallestWrong : ChangeSpec := { name := "minimalSmallest", fn := fun _ => fun
  | [d] => { results := [.lit (.bool false)], args := [d] }
  | _ => none }
def MinimalSmallestWrongFalsely : Prop := minimalSmallestRow.holds Try.pinned (OpenSpec.ofChange minimalSmallestWrong)

/-- 'signatorylaw25.CompareEither': WHATEVER THE INPUT: true; the input reads as it did. -/
def compareEitherSpec : ChangeSpec := { name := "compareEither", fn := fun _ => fun
  | [d1, d2, d3, d4] => { results := [.lit (.bool true)], args := [d1, d2, d3, d4] }
  | _ => none }
def compareEitherRow : OpenClaim := { program := "ytmnpbopkhpbhiaa", sum := "b765d93263a6f8cd598bd9435aa836b400abcce7393a41593be3ec4cb23969bf", func := "signatory/signatorylaw25.CompareEither", spec := "compareEither", unfollowed := true, recurses := true, loops := true, apart := false }
def CompareEitherSaid : Prop := compareEitherRow.holds Try.pinned (OpenSpec.ofChange compareEitherSpec)

/-- ITS FALSE NEIGHBOUR: 'it returns false'. Refute it at one input. -/
def compareEitherWrong : ChangeSpec := { name := "compareEither", fn := fun _ => fun
  | [d1, d2, d3, d4] => { results := [.lit (.bool false)], args := [d1, d2, d3, d4] }
  | _ => none }
def CompareEitherWrongFalsely : Prop := compareEitherRow.holds Try.pinned (OpenSpec.ofChange compareEitherWrong)

/-- 'signatorylaw25.CompareSound': WHATEVER THE INPUT: true; the input reads as it did. -/
def compareSoundSpec : ChangeSpec := { name := "compareSound", fn := fun _ => fun
  | [d1, d2, d3, d4, d5] => { results := [.lit (.bool true)], args := [d1, d2, d3, d4, d5] }
  | _ => none }
def compareSoundRow : OpenClaim := { program := "ytmnpbopkhpbhiaa", sum := "b765d93263a6f8cd598bd9435aa836b400abcce7393a41593be3ec4cb23969bf", func := "signatory/signatorylaw25.CompareSound", spec := "compareSound", unfollowed := true, recurses := true, loops := true, apart := false }
def CompareSoundSaid : Prop := compareSoundRow.holds Try.pinned (OpenSpec.ofChange compareSoundSpec)

/-- ITS FALSE NEIGHBOUR: 'it returns false'. Refute it at one input. -/
def compareSoundWrong : ChangeSpec := { name := "compareSound", fn := fun _ => fun
  | [d1, d2, d3, d4, d5] => { results := [.lit (.bool false)], args := [d1, d2, d3, d4, d5] }
  | _ => none }
def CompareSoundWrongFalsely : Prop := compareSoundRow.holds Try.pinned (OpenSpec.ofChange compareSoundWrong)

/-- 'signatorylaw25.CompareOrder': WHATEVER THE INPUT: true; the input reads as it did. -/
def compareOrderSpec : ChangeSpec := { name := "compareOrder", fn := fun _ => fun
  | [d1, d2, d3] => { results := [.lit (.bool true)], args := [d1, d2, d3] }
  | _ => none }
def compareOrderRow : OpenClaim := { program := "ytmnpbopkhpbhiaa", sum := "b765d93263a6f8cd598bd9435aa836b400abcce7393a41593be3ec4cb23969bf", func := "signatory/signatorylaw25.CompareOrder", spec := "compareOrder", unfollowed := true, recurses := true, loops := true, apart := false }
def CompareOrderSaid : Prop := compareOrderRow.holds Try.pinned (OpenSpec.ofChange compareOrderSpec)

/-- ITS FALSE NEIGHBOUR: 'it returns false'. Refute it at one input. -/
def compareOrderWrong : ChangeSpec := { name := "compareOrder", fn := fun _ => fun
  | [d1, d2, d3] => { results := [.lit (.bool false)], args := [d1, d2, d3] }
  | _ => none }
def CompareOrderWrongFalsely : Prop := compareOrderRow.holds Try.pinned (OpenSpec.ofChange compareOrderWrong)

/-- 'signatorylaw25.CompareStricter': WHATEVER THE INPUT: true; the input reads as it did. -/
def compareStricterSpec : ChangeSpec := { name := "compareStricter", fn := fun _ => fun
  | [d1, d2, d3] => { results := [.lit (.bool true)], args := [d1, d2, d3] }
  | _ => none }
def compareStricterRow : OpenClaim := { program := "ytmnpbopkhpbhiaa", sum := "b765d93263a6f8cd598bd9435aa836b400abcce7393a41593be3ec4cb23969bf", func := "signatory/signatorylaw25.CompareStricter", spec := "compareStricter", unfollowed := true, recurses := true, loops := true, apart := false }
def CompareStricterSaid : Prop := compareStricterRow.holds Try.pinned (OpenSpec.ofChange compareStricterSpec)

/-- ITS FALSE NEIGHBOUR: 'it returns false'. Refute it at one input. -/
def compareStricterWrong : ChangeSpec := { name := "compareStricter", fn := fun _ => fun
  | [d1, d2, d3] => { results := [.lit (.bool false)], args := [d1, d2, d3] }
  | _ => none }
def CompareStricterWrongFalsely : Prop := compareStricterRow.holds Try.pinned (OpenSpec.ofChange compareStricterWrong)

/- THE SECOND FORM. 'bulk': how many values and letters a reading holds, each counted each time it is reached (what is shared counts as often as it is met; a slice's spare places count too). A statement '..UptoSaid' is the law's where the arguments, and the package variables that the reading takes, are together of bulk at most 1048576: NARROWER than '..Said'. Prove '..Said' where nothing that the law and all that it calls make is longer than what came in: it says more and counts as full. Else prove '..UptoSaid'. A law counts once. -/
mutual
def uptoBulk {H : Type} : DataW H → Nat
  | .lit (.string bytes) => bytes.length + 1
  | .lit _ => 1
  | .nil => 1
  | .ptr d => uptoBulk d + 1
  | .slice elems spare => uptoBulkAll elems + uptoBulkAll spare + 1
  | .agg parts => uptoBulkAll parts + 1
  | .iface _ d => uptoBulk d + 1
  | .map entries => uptoBulkEntries entries + 1
  | .held _ => 1
def uptoBulkAll {H : Type} : List (DataW H) → Nat
  | [] => 0
  | d :: r => uptoBulk d + uptoBulkAll r
def uptoBulkEntries {H : Type} : List (Lit × DataW H) → Nat
  | [] => 0
  | x :: r => uptoBulkEntry x + uptoBulkEntries r
def uptoBulkEntry {H : Type} : Lit × DataW H → Nat
  | (.string bytes, d) => bytes.length + uptoBulk d + 1
  | (_, d) => uptoBulk d + 1
 end
def uptoSmall : (H : Type) → List (DataW H) → Bool := fun _ ds => decide (uptoBulkAll ds ≤ 1048576)
def OpenSpec.upto (s : _root_.Go.ChangeSpec) : _root_.Go.OpenSpec := { _root_.Go.OpenSpec.ofChange s with cond := some uptoSmall }

/-- 'signatorylaw51.LivingSpec', WHERE WHAT IT READS IS OF BULK AT MOST 1048576: true; the input reads as it did. -/
def livingSpecUptoRow : OpenClaim := { program := "ytmnpbopkhpbhiaa", sum := "b765d93263a6f8cd598bd9435aa836b400abcce7393a41593be3ec4cb23969bf", func := "signatory/signatorylaw51.LivingSpec", spec := "livingSpec", unfollowed := true, recurses := true, loops := true, apart := false, narrowed := true }
def LivingSpecUptoSaid : Prop := livingSpecUptoRow.holds Try.pinned (OpenSpec.upto livingSpecSpec)

/-- 'signatorylaw51.LivingMarginSpec', WHERE WHAT IT READS IS OF BULK AT MOST 1048576: true; the input reads as it did. -/
def livingMarginSpecUptoRow : OpenClaim := { program := "ytmnpbopkhpbhiaa", sum := "b765d93263a6f8cd598bd9435aa836b400abcce7393a41593be3ec4cb23969bf", func := "signatory/signatorylaw51.LivingMarginSpec", spec := "livingMarginSpec", unfollowed := true, recurses := true, loops := true, apart := false, narrowed := true }
def LivingMarginSpecUptoSaid : Prop := livingMarginSpecUptoRow.holds Try.pinned (OpenSpec.upto livingMarginSpecSpec)

/-- 'signatorylaw51.LivingOrDead', WHERE WHAT IT READS IS OF BULK AT MOST 1048576: true; the input reads as it did. -/
def livingOrDeadUptoRow : OpenClaim := { program := "ytmnpbopkhpbhiaa", sum := "b765d93263a6f8cd598bd9435aa836b400abcce7393a41593be3ec4cb23969bf", func := "signatory/signatorylaw51.LivingOrDead", spec := "livingOrDead", unfollowed := true, recurses := true, loops := true, apart := false, narrowed := true }
def LivingOrDeadUptoSaid : Prop := livingOrDeadUptoRow.holds Try.pinned (OpenSpec.upto livingOrDeadSpec)

/-- 'signatorylaw51.LivingMargin', WHERE WHAT IT READS IS OF BULK AT MOST 1048576: true; the input reads as it did. -/
def livingMarginUptoRow : OpenClaim := { program := "ytmnpbopkhpbhiaa", sum := "b765d93263a6f8cd598bd9435aa836b400abcce7393a41593be3ec4cb23969bf", func := "signatory/signatorylaw51.LivingMargin", spec := "livingMargin", unfollowed := true, recurses := true, loops := true, apart := false, narrowed := true }
def LivingMarginUptoSaid : Prop := livingMarginUptoRow.holds Try.pinned (OpenSpec.upto livingMarginSpec)

/-- 'signatorylaw51.LivingMore', WHERE WHAT IT READS IS OF BULK AT MOST 1048576: true; the input reads as it did. -/
def livingMoreUptoRow : OpenClaim := { program := "ytmnpbopkhpbhiaa", sum := "b765d93263a6f8cd598bd9435aa836b400abcce7393a41593be3ec4cb23969bf", func := "signatory/signatorylaw51.LivingMore", spec := "livingMore", unfollowed := true, recurses := true, loops := true, apart := false, narrowed := true }
def LivingMoreUptoSaid : Prop := livingMoreUptoRow.holds Try.pinned (OpenSpec.upto livingMoreSpec)

/-- 'signatorylaw24.MinimalSpec', WHERE WHAT IT READS IS OF BULK AT MOST 1048576: true; the input reads as it did. -/
def minimalSpecUptoRow : OpenClaim := { program := "ytmnpbopkhpbhiaa", sum := "b765d93263a6f8cd598bd9435aa836b400abcce7393a41593be3ec4cb23969bf", func := "signatory/signatorylaw24.MinimalSpec", spec := "minimalSpec", unfollowed := true, recurses := true, loops := true, apart := false, narrowed := true }
def MinimalSpecUptoSaid : Prop := minimalSpecUptoRow.holds Try.pinned (OpenSpec.upto minimalSpecSpec)

/-- 'signatorylaw24.MinimalAgreeSpec', WHERE WHAT IT READS IS OF BULK AT MOST 1048576: true; the input reads as it did. -/
def minimalAgreeSpecUptoRow : OpenClaim := { program := "ytmnpbopkhpbhiaa", sum := "b765d93263a6f8cd598bd9435aa836b400abcce7393a41593be3ec4cb23969bf", func := "signatory/signatorylaw24.MinimalAgreeSpec", spec := "minimalAgreeSpec", unfollowed := true, recurses := true, loops := true, apart := false, narrowed := true }
def MinimalAgreeSpecUptoSaid : Prop := minimalAgreeSpecUptoRow.holds Try.pinned (OpenSpec.upto minimalAgreeSpecSpec)

/-- 'signatorylaw24.MinimalBoth', WHERE WHAT IT READS IS OF BULK AT MOST 1048576: true; the input reads as it did. -/
def minimalBothUptoRow : OpenClaim := { program := "ytmnpbopkhpbhiaa", sum := "b765d93263a6f8cd598bd9435aa836b400abcce7393a41593be3ec4cb23969bf", func := "signatory/signatorylaw24.MinimalBoth", spec := "minimalBoth", unfollowed := true, recurses := true, loops := true, apart := false, narrowed := true }
def MinimalBothUptoSaid : Prop := minimalBothUptoRow.holds Try.pinned (OpenSpec.upto minimalBothSpec)

/-- 'signatorylaw24.MinimalExchanged', WHERE WHAT IT READS IS OF BULK AT MOST 1048576: true; the input reads as it did. -/
def minimalExchangedUptoRow : OpenClaim := { program := "ytmnpbopkhpbhiaa", sum := "b765d93263a6f8cd598bd9435aa836b400abcce7393a41593be3ec4cb23969bf", func := "signatory/signatorylaw24.MinimalExchanged", spec := "minimalExchanged", unfollowed := true, recurses := true, loops := true, apart := false, narrowed := true }
def MinimalExchangedUptoSaid : Prop := minimalExchangedUptoRow.holds Try.pinned (OpenSpec.upto minimalExchangedSpec)

/-- 'signatorylaw24.MinimalExactly', WHERE WHAT IT READS IS OF BULK AT MOST 1048576: true; the input reads as it did. -/
def minimalExactlyUptoRow : OpenClaim := { program := "ytmnpbopkhpbhiaa", sum := "b765d93263a6f8cd598bd9435aa836b400abcce7393a41593be3ec4cb23969bf", func := "signatory/signatorylaw24.MinimalExactly", spec := "minimalExactly", unfollowed := true, recurses := true, loops := true, apart := false, narrowed := true }
def MinimalExactlyUptoSaid : Prop := minimalExactlyUptoRow.holds Try.pinned (OpenSpec.upto minimalExactlySpec)

/-- 'signatorylaw24.MinimalSmallest', WHERE WHAT IT READS IS OF BULK AT MOST 1048576: true; the input reads as it did. -/
def minimalSmallestUptoRow : OpenClaim := { program := "ytmnpbopkhpbhiaa", sum := "b765d93263a6f8cd598bd9435aa836b400abcce7393a41593be3ec4cb23969bf", func := "signatory/signatorylaw24.MinimalSmallest", spec := "minimalSmallest", unfollowed := true, recurses := true, loops := true, apart := false, narrowed := true }
def MinimalSmallestUptoSaid : Prop := minimalSmallestUptoRow.holds Try.pinned (OpenSpec.upto minimalSmallestSpec)

/-- 'signatorylaw25.CompareEither', WHERE WHAT IT READS IS OF BULK AT MOST 1048576: true; the input reads as it did. -/
def compareEitherUptoRow : OpenClaim := { program := "ytmnpbopkhpbhiaa", sum := "b765d93263a6f8cd598bd9435aa836b400abcce7393a41593be3ec4cb23969bf", func := "signatory/signatorylaw25.CompareEither", spec := "compareEither", unfollowed := true, recurses := true, loops := true, apart := false, narrowed := true }
def CompareEitherUptoSaid : Prop := compareEitherUptoRow.holds Try.pinned (OpenSpec.upto compareEitherSpec)

/-- 'signatorylaw25.CompareSound', WHERE WHAT IT READS IS OF BULK AT MOST 1048576: true; the input reads as it did. -/
def compareSoundUptoRow : OpenClaim := { program := "ytmnpbopkhpbhiaa", sum := "b765d93263a6f8cd598bd9435aa836b400abcce7393a41593be3ec4cb23969bf", func := "signatory/signatorylaw25.CompareSound", spec := "compareSound", unfollowed := true, recurses := true, loops := true, apart := false, narrowed := true }
def CompareSoundUptoSaid : Prop := compareSoundUptoRow.holds Try.pinned (OpenSpec.upto compareSoundSpec)

/-- 'signatorylaw25.CompareOrder', WHERE WHAT IT READS IS OF BULK AT MOST 1048576: true; the input reads as it did. -/
def compareOrderUptoRow : OpenClaim := { program := "ytmnpbopkhpbhiaa", sum := "b765d93263a6f8cd598bd9435aa836b400abcce7393a41593be3ec4cb23969bf", func := "signatory/signatorylaw25.CompareOrder", spec := "compareOrder", unfollowed := true, recurses := true, loops := true, apart := false, narrowed := true }
def CompareOrderUptoSaid : Prop := compareOrderUptoRow.holds Try.pinned (OpenSpec.upto compareOrderSpec)

/-- 'signatorylaw25.CompareStricter', WHERE WHAT IT READS IS OF BULK AT MOST 1048576: true; the input reads as it did. -/
def compareStricterUptoRow : OpenClaim := { program := "ytmnpbopkhpbhiaa", sum := "b765d93263a6f8cd598bd9435aa836b400abcce7393a41593be3ec4cb23969bf", func := "signatory/signatorylaw25.CompareStricter", spec := "compareStricter", unfollowed := true, recurses := true, loops := true, apart := false, narrowed := true }
def CompareStricterUptoSaid : Prop := compareStricterUptoRow.holds Try.pinned (OpenSpec.upto compareStricterSpec)

end Rows
end Go.Proofs.Ytmnpbopkhpbhiaa
