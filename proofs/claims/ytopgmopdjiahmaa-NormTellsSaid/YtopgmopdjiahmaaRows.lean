/-
  NARROWER THAN 'FOR EVERY INPUT', by the rows' own cells (each row's printed sentence says how): CoerceGoes: loops · NormTells: loops · NormCast: loops · NormFails: loops · NormOrder: loops · NormOwn: loops · NormLabels: loops · TopMerges: loops.
  DERIVED. THE GIVEN ROWS OF THIS SEAT. 8 by the template 'for every input the law returns true; each argument reads behind the call as it read before'; 0 by the template 'total and deterministic' (their statements: YtopgmopdjiahmaaTotals.lean).
  GIVEN WITH THE SEED: the statements are not yours to turn. If you find one false, say at which input.
  Laid BY PROGRAM, IN A SANDBOX (cutbox-rows.mjs): the forced cells as the released guide's own fill.sh prints them over the translation 0cd3ad53cc45d4e8… (all of the seat's roots in one cut). By AI agents, Wed Nov 11 2026. No macro, syntax, notation, axiom, sorry.
-/
import Derived.Test.YtopgmopdjiahmaaChecked
import GoSem.Claim
import GoSem.ClaimJoined
import GoSem.ClaimMapViews
import Derived.JoinedTies
import Derived.KernelRfl
namespace Go.Proofs.Ytopgmopdjiahmaa
/- THE CELL 'sum', in the pinned program and in every row, IS THE sha256 OF THE DUMP (.gsa) THAT YtopgmopdjiahmaaProg.lean LOADS. Nothing in Lean hashes anything: it is a label: what it is worth is what the hold of that sum in a sandbox is worth. -/
noncomputable def Try.pinned : Pinned := { name := "ytopgmopdjiahmaa", sum := "0cd3ad53cc45d4e8d16397134c9cc2db2078a4ca0a32d2a230e2c7c0a02312e3", checked := Try.checked }
namespace Rows
def none {H : Type} : Left H := { results := [], args := [] }

/-- 'lychgatelaw15.CoerceGoes': WHATEVER THE INPUT: true; the input reads as it did. -/
def coerceGoesSpec : ChangeSpec := { name := "coerceGoes", fn := fun _ => fun
  | [d1, d2, d3] => { results := [.lit (.bool true)], args := [d1, d2, d3] }
  | _ => none }
def coerceGoesRow : OpenClaim := { program := "ytopgmopdjiahmaa", sum := "0cd3ad53cc45d4e8d16397134c9cc2db2078a4ca0a32d2a230e2c7c0a02312e3", func := "lychgate/lychgatelaw15.CoerceGoes", spec := "coerceGoes", unfollowed := true, recurses := true, loops := true, apart := false }
def CoerceGoesSaid : Prop := coerceGoesRow.holds Try.pinned (OpenSpec.ofChange coerceGoesSpec)

/-- ITS FALSE NEIGHBOUR: 'it returns false'. Refute it at one input. -/
def coerceGoesWrong : ChangeSpec := { name := "coerceGoes", fn := fun _ => fun
  | [d1, d2, d3] => { results := [.lit (.bool false)], args := [d1, d2, d3] }
  | _ => none }
def CoerceGoesWrongFalsely : Prop := coerceGoesRow.holds Try.pinned (OpenSpec.ofChange coerceGoesWrong)

/-- 'lychgatelaw16.NormTells': WHATEVER THE INPUT: true; the input reads as it did. -/
def normTellsSpec : ChangeSpec := { name := "normTells", fn := fun _ => fun
  | [d] => { results := [.lit (.bool true)], args := [d] }
  | _ => none }
def normTellsRow : OpenClaim := { program := "ytopgmopdjiahmaa", sum := "0cd3ad53cc45d4e8d16397134c9cc2db2078a4ca0a32d2a230e2c7c0a02312e3", func := "lychgate/lychgatelaw16.NormTells", spec := "normTells", unfollowed := true, recurses := true, loops := true, apart := false }
def NormTellsSaid : Prop := normTellsRow.holds Try.pinned (OpenSpec.ofChange normTellsSpec)

/-- ITS FALSE NEIGHBOUR: 'it returns false'. Refute it at one input. -/
def normTellsWrong : ChangeSpec := { name := "normTells", fn := fun _ => fun
  | [d] => { results := [.lit (.bool false)], args := [d] }
  | _ => none }
def NormTellsWrongFalsely : Prop := normTellsRow.holds Try.pinned (OpenSpec.ofChange normTellsWrong)

/-- 'lychgatelaw16.NormCast': WHATEVER THE INPUT: true; the input reads as it did. -/
def normCastSpec : ChangeSpec := { name := "normCast", fn := fun _ => fun
  | [d1, d2, d3] => { results := [.lit (.bool true)], args := [d1, d2, d3] }
  | _ => none }
def normCastRow : OpenClaim := { program := "ytopgmopdjiahmaa", sum := "0cd3ad53cc45d4e8d16397134c9cc2db2078a4ca0a32d2a230e2c7c0a02312e3", func := "lychgate/lychgatelaw16.NormCast", spec := "normCast", unfollowed := true, recurses := true, loops := true, apart := false }
def NormCastSaid : Prop := normCastRow.holds Try.pinned (OpenSpec.ofChange normCastSpec)

/-- ITS FALSE NEIGHBOUR: 'it returns false'. Refute it at one input. -/
def normCastWrong : ChangeSpec := { name := "normCast", fn := fun _ => fun
  | [d1, d2, d3] => { results := [.lit (.bool false)], args := [d1, d2, d3] }
  | _ => none }
def NormCastWrongFalsely : Prop := normCastRow.holds Try.pinned (OpenSpec.ofChange normCastWrong)

/-- 'lychgatelaw16.NormFails': WHATEVER THE INPUT: true; the input reads as it did. -/
def normFailsSpec : ChangeSpec := { name := "normFails", fn := fun _ => fun
  | [d1, d2, d3, d4, d5] => { results := [.lit (.bool true)], args := [d1, d2, d3, d4, d5] }
  | _ => none }
def normFailsRow : OpenClaim := { program := "ytopgmopdjiahmaa", sum := "0cd3ad53cc45d4e8d16397134c9cc2db2078a4ca0a32d2a230e2c7c0a02312e3", func := "lychgate/lychgatelaw16.NormFails", spec := "normFails", unfollowed := true, recurses := true, loops := true, apart := false }
def NormFailsSaid : Prop := normFailsRow.holds Try.pinned (OpenSpec.ofChange normFailsSpec)

/-- ITS FALSE NEIGHBOUR: 'it returns false'. Refute it at one input. -/
def normFailsWrong : ChangeSpec := { name := "normFails", fn := fun _ => fun
  | [d1, d2, d3, d4, d5] => { results := [.lit (.bool false)], args := [d1, d2, d3, d4, d5] }
  | _ => none }
def NormFailsWrongFalsely : Prop := normFailsRow.holds Try.pinned (OpenSpec.ofChange normFailsWrong)

/-- 'lychgatelaw16.NormOrder': WHATEVER THE INPUT: true; the input reads as it did. -/
def normOrderSpec : ChangeSpec := { name := "normOrder", fn := fun _ => fun
  | [d1, d2, d3] => { results := [.lit (.bool true)], args := [d1, d2, d3] }
  | _ => none }
def normOrderRow : OpenClaim := { program := "ytopgmopdjiahmaa", sum := "0cd3ad53cc45d4e8d16397134c9cc2db2078a4ca0a32d2a230e2c7c0a02312e3", func := "lychgate/lychgatelaw16.NormOrder", spec := "normOrder", unfollowed := true, recurses := true, loops := true, apart := false }
def NormOrderSaid : Prop := normOrderRow.holds Try.pinned (OpenSpec.ofChange normOrderSpec)

/-- ITS FALSE NEIGHBOUR: 'it returns false'. Refute it at one input. -/
def normOrderWrong : ChangeSpec := { name := "normOrder", fn := fun _ => fun
  | [d1, d2, d3] => { results := [.lit (.bool false)], args := [d1, d2, d3] }
  | _ => none }
def NormOrderWrongFalsely : Prop := normOrderRow.holds Try.pinned (OpenSpec.ofChange normOrderWrong)

/-- 'lychgatelaw16.NormOwn': WHATEVER THE INPUT: true; the input reads as it did. -/
def normOwnSpec : ChangeSpec := { name := "normOwn", fn := fun _ => fun
  | [d] => { results := [.lit (.bool true)], args := [d] }
  | _ => none }
def normOwnRow : OpenClaim := { program := "ytopgmopdjiahmaa", sum := "0cd3ad53cc45d4e8d16397134c9cc2db2078a4ca0a32d2a230e2c7c0a02312e3", func := "lychgate/lychgatelaw16.NormOwn", spec := "normOwn", unfollowed := true, recurses := true, loops := true, apart := false }
def NormOwnSaid : Prop := normOwnRow.holds Try.pinned (OpenSpec.ofChange normOwnSpec)

/-- ITS FALSE NEIGHBOUR: 'it returns false'. Refute it at one input. -/
def normOwnWrong : ChangeSpec := { name := "normOwn", fn := fun _ => fun
  | [d] => { results := [.lit (.bool false)], args := [d] }
  | _ => none }
def NormOwnWrongFalsely : Prop := normOwnRow.holds Try.pinned (OpenSpec.ofChange normOwnWrong)

/-- 'lychgatelaw16.NormLabels': WHATEVER THE INPUT: true; the input reads as it did. -/
def normLabelsSpec : ChangeSpec := { name := "normLabels", fn := fun _ => fun
  | [d1, d2, d3] => { results := [.lit (.bool true)], args := [d1, d2, d3] }
  | _ => none }
def normLabelsRow : OpenClaim := { program := "ytopgmopdjiahmaa", sum := "0cd3ad53cc45d4e8d16397134c9cc2db2078a4ca0a32d2a230e2c7c0a02312e3", func := "lychgate/lychgatelaw16.NormLabels", spec := "normLabels", unfollowed := true, recurses := true, loops := true, apart := false }
def NormLabelsSaid : Prop := normLabelsRow.holds Try.pinned (OpenSpec.ofChange normLabelsSpec)

/-- ITS FALSE NEIGHBOUR: 'it returns false'. Refute it at one input. -/
def normLabelsWrong : ChangeSpec := { name := "normLabels", fn := fun _ => fun
  | [d1, d2, d3] => { results := [.lit (.bool false)], args := [d1, d2, d3] }
  | _ => none }
def NormLabelsWrongFalsely : Prop := normLabelsRow.holds Try.pinned (OpenSpec.ofChange normLabelsWrong)

/-- 'lychgatetop.TopMerges': WHATEVER THE INPUT: true; the input reads as it did. -/
def topMergesSpec : ChangeSpec := { name := "topMerges", fn := fun _ => fun
  | [d1, d2, d3] => { results := [.lit (.bool true)], args := [d1, d2, d3] }
  | _ => none }
def topMergesRow : OpenClaim := { program := "ytopgmopdjiahmaa", sum := "0cd3ad53cc45d4e8d16397134c9cc2db2078a4ca0a32d2a230e2c7c0a02312e3", func := "lychgate/lychgatetop.TopMerges", spec := "topMerges", unfollowed := true, recurses := true, loops := true, apart := false }
def TopMergesSaid : Prop := topMergesRow.holds Try.pinned (OpenSpec.ofChange topMergesSpec)

/-- ITS FALSE NEIGHBOUR: 'it returns false'. Refute it at one input. -/
def topMergesWrong : ChangeSpec := { name := "topMerges", fn := fun _ => fun
  | [d1, d2, d3] => { results := [.lit (.bool false)], args := [d1, d2, d3] }
  | _ => none }
def TopMergesWrongFalsely : Prop := topMergesRow.holds Try.pinned (OpenSpec.ofChange topMergesWrong)

/- THE SECOND FORM. 'bulk': how many values and letters a reading holds, each counted each time it is reached (what is shared counts as often as it is met; a slice's spare places count too). A statement '..UptoSaid' is the law's where the arguments, and the package variables that the reading takes, are together of bulk at most 1048576: NARROWER than '..Said'. Prove '..Said' where nothing that the law and all that it calls make is longer than what came in: it says more and counts as full. Else prove '..UptoSaid'. A law counts once. -/
mutual
def uptoBulk {H : Type} : DataW H → Nat
  | .lit (.string bytes) => bytes.length + 1
  | .lit _ => 1
  | .nil => 1
  | .ptr d => uptoBulk d + 1
  | .slice elems spare => uptoBulkAll elems + uptoBulkAll spare + 1
  | .agg parts => uptoBulkAll parts + 1
  | .iface _ d => uptoBulk d + 1
  | .map entries => uptoBulkEntries entries + 1
  | .held _ => 1
def uptoBulkAll {H : Type} : List (DataW H) → Nat
  | [] => 0
  | d :: r => uptoBulk d + uptoBulkAll r
def uptoBulkEntries {H : Type} : List (Lit × DataW H) → Nat
  | [] => 0
  | x :: r => uptoBulkEntry x + uptoBulkEntries r
def uptoBulkEntry {H : Type} : Lit × DataW H → Nat
  | (.string bytes, d) => bytes.length + uptoBulk d + 1
  | (_, d) => uptoBulk d + 1
 end
def uptoSmall : (H : Type) → List (DataW H) → Bool := fun _ ds => decide (uptoBulkAll ds ≤ 1048576)
def OpenSpec.upto (s : _root_.Go.ChangeSpec) : _root_.Go.OpenSpec := { _root_.Go.OpenSpec.ofChange s with cond := some uptoSmall }

/-- 'lychgatelaw15.CoerceGoes', WHERE WHAT IT READS IS OF BULK AT MOST 1048576: true; the input reads as it did. -/
def coerceGoesUptoRow : OpenClaim := { program := "ytopgmopdjiahmaa", sum := "0cd3ad53cc45d4e8d16397134c9cc2db2078a4ca0a32d2a230e2c7c0a02312e3", func := "lychgate/lychgatelaw15.CoerceGoes", spec := "coerceGoes", unfollowed := true, recurses := true, loops := true, apart := false, narrowed := true }
def CoerceGoesUptoSaid : Prop := coerceGoesUptoRow.holds Try.pinned (OpenSpec.upto coerceGoesSpec)

/-- 'lychgatelaw16.NormTells', WHERE WHAT IT READS IS OF BULK AT MOST 1048576: true; the input reads as it did. -/
def normTellsUptoRow : OpenClaim := { program := "ytopgmopdjiahmaa", sum := "0cd3ad53cc45d4e8d16397134c9cc2db2078a4ca0a32d2a230e2c7c0a02312e3", func := "lychgate/lychgatelaw16.NormTells", spec := "normTells", unfollowed := true, recurses := true, loops := true, apart := false, narrowed := true }
def NormTellsUptoSaid : Prop := normTellsUptoRow.holds Try.pinned (OpenSpec.upto normTellsSpec)

/-- 'lychgatelaw16.NormCast', WHERE WHAT IT READS IS OF BULK AT MOST 1048576: true; the input reads as it did. -/
def normCastUptoRow : OpenClaim := { program := "ytopgmopdjiahmaa", sum := "0cd3ad53cc45d4e8d16397134c9cc2db2078a4ca0a32d2a230e2c7c0a02312e3", func := "lychgate/lychgatelaw16.NormCast", spec := "normCast", unfollowed := true, recurses := true, loops := true, apart := false, narrowed := true }
def NormCastUptoSaid : Prop := normCastUptoRow.holds Try.pinned (OpenSpec.upto normCastSpec)

/-- 'lychgatelaw16.NormFails', WHERE WHAT IT READS IS OF BULK AT MOST 1048576: true; the input reads as it did. -/
def normFailsUptoRow : OpenClaim := { program := "ytopgmopdjiahmaa", sum := "0cd3ad53cc45d4e8d16397134c9cc2db2078a4ca0a32d2a230e2c7c0a02312e3", func := "lychgate/lychgatelaw16.NormFails", spec := "normFails", unfollowed := true, recurses := true, loops := true, apart := false, narrowed := true }
def NormFailsUptoSaid : Prop := normFailsUptoRow.holds Try.pinned (OpenSpec.upto normFailsSpec)

/-- 'lychgatelaw16.NormOrder', WHERE WHAT IT READS IS OF BULK AT MOST 1048576: true; the input reads as it did. -/
def normOrderUptoRow : OpenClaim := { program := "ytopgmopdjiahmaa", sum := "0cd3ad53cc45d4e8d16397134c9cc2db2078a4ca0a32d2a230e2c7c0a02312e3", func := "lychgate/lychgatelaw16.NormOrder", spec := "normOrder", unfollowed := true, recurses := true, loops := true, apart := false, narrowed := true }
def NormOrderUptoSaid : Prop := normOrderUptoRow.holds Try.pinned (OpenSpec.upto normOrderSpec)

/-- 'lychgatelaw16.NormOwn', WHERE WHAT IT READS IS OF BULK AT MOST 1048576: true; the input reads as it did. -/
def normOwnUptoRow : OpenClaim := { program := "ytopgmopdjiahmaa", sum := "0cd3ad53cc45d4e8d16397134c9cc2db2078a4ca0a32d2a230e2c7c0a02312e3", func := "lychgate/lychgatelaw16.NormOwn", spec := "normOwn", unfollowed := true, recurses := true, loops := true, apart := false, narrowed := true }
def NormOwnUptoSaid : Prop := normOwnUptoRow.holds Try.pinned (OpenSpec.upto normOwnSpec)

/-- 'lychgatelaw16.NormLabels', WHERE WHAT IT READS IS OF BULK AT MOST 1048576: true; the input reads as it did. -/
def normLabelsUptoRow : OpenClaim := { program := "ytopgmopdjiahmaa", sum := "0cd3ad53cc45d4e8d16397134c9cc2db2078a4ca0a32d2a230e2c7c0a02312e3", func := "lychgate/lychgatelaw16.NormLabels", spec := "normLabels", unfollowed := true, recurses := true, loops := true, apart := false, narrowed := true }
def NormLabelsUptoSaid : Prop := normLabelsUptoRow.holds Try.pinned (OpenSpec.upto normLabelsSpec)

/-- 'lychgatetop.TopMerges', WHERE WHAT IT READS IS OF BULK AT MOST 1048576: true; the input reads as it did. -/
def topMergesUptoRow : OpenClaim := { program := "ytopgmopdjiahmaa", sum := "0cd3ad53cc45d4e8d16397134c9cc2db2078a4ca0a32d2a230e2c7c0a02312e3", func := "lychgate/lychgatetop.TopMerges", spec := "topMerges", unfollowed := true, recurses := true, loops := true, apart := false, narrowed := true }
def TopMergesUptoSaid : Prop := topMergesUptoRow.holds Try.pinned (OpenSpec.upto topMergesSpec)

end Rows
end Go.Proofs.Ytopgmopdjiahmaa
