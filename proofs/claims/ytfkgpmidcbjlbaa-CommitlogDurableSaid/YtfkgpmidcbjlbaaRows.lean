/-
  No cell of these rows narrows 'for every input' (looked for: loops, veiled, ifaces, maps, wideKeys, modest, calm, conditions, laid).
  DERIVED. THE GIVEN ROWS OF THIS SEAT. 5 by the template 'for every input the law returns true; each argument reads behind the call as it read before'; 0 by the template 'total and deterministic' (their statements: YtfkgpmidcbjlbaaTotals.lean).
  GIVEN WITH THE SEED: the statements are not yours to turn. If you find one false, say at which input.
  Laid BY PROGRAM, IN A SANDBOX (cutbox-rows.mjs): the forced cells as the released guide's own fill.sh prints them over the translation d04a9838989b5f40… (all of the seat's roots in one cut). By AI agents, Wed Nov 11 2026. No macro, syntax, notation, axiom, sorry.
-/
import Derived.Test.YtfkgpmidcbjlbaaChecked
import GoSem.Claim
import GoSem.ClaimJoined
import GoSem.ClaimMapViews
import Derived.JoinedTies
import Derived.KernelRfl
namespace Go.Proofs.Ytfkgpmidcbjlbaa
/- THE CELL 'sum', in the pinned program and in every row, IS THE sha256 OF THE DUMP (.gsa) THAT YtfkgpmidcbjlbaaProg.lean LOADS. Nothing in Lean hashes anything: it is a label: what it is worth is what the hold of that sum in a sandbox is worth. -/
noncomputable def Try.pinned : Pinned := { name := "ytfkgpmidcbjlbaa", sum := "d04a9838989b5f406e5f2ef40ab9bf6c75822d2f8bd6257f4b66786de426faeb", checked := Try.checked }
namespace Rows
def none {H : Type} : Left H := { results := [], args := [] }

/-- 'laminalaw24.CommitlogRecords': WHATEVER THE INPUT: true; the input reads as it did. -/
def commitlogRecordsSpec : ChangeSpec := { name := "commitlogRecords", fn := fun _ => fun
  | [d1, d2, d3] => { results := [.lit (.bool true)], args := [d1, d2, d3] }
  | _ => none }
def commitlogRecordsRow : OpenClaim := { program := "ytfkgpmidcbjlbaa", sum := "d04a9838989b5f406e5f2ef40ab9bf6c75822d2f8bd6257f4b66786de426faeb", func := "lamina/laminalaw24.CommitlogRecords", spec := "commitlogRecords", unfollowed := true, recurses := true, apart := false }
def CommitlogRecordsSaid : Prop := commitlogRecordsRow.holds Try.pinned (OpenSpec.ofChange commitlogRecordsSpec)

/-- ITS FALSE NEIGHBOUR: 'it returns false'. Refute it at one input. -/
def commitlogRecordsWrong : ChangeSpec := { name := "commitlogRecords", fn := fun _ => fun
  | [d1, d2, d3] => { results := [.lit (.bool false)], args := [d1, d2, d3] }
  | _ => none }
def CommitlogRecordsWrongFalsely : Prop := commitlogRecordsRow.holds Try.pinned (OpenSpec.ofChange commitlogRecordsWrong)

/-- 'laminalaw24.CommitlogScan': WHATEVER THE INPUT: true; the input reads as it did. -/
def commitlogScanSpec : ChangeSpec := { name := "commitlogScan", fn := fun _ => fun
  | [d] => { results := [.lit (.bool true)], args := [d] }
  | _ => none }
def commitlogScanRow : OpenClaim := { program := "ytfkgpmidcbjlbaa", sum := "d04a9838989b5f406e5f2ef40ab9bf6c75822d2f8bd6257f4b66786de426faeb", func := "lamina/laminalaw24.CommitlogScan", spec := "commitlogScan", unfollowed := true, recurses := true, apart := false }
def CommitlogScanSaid : Prop := commitlogScanRow.holds Try.pinned (OpenSpec.ofChange commitlogScanSpec)

/-- ITS FALSE NEIGHBOUR: 'it returns false'. Refute it at one input. -/
def commitlogScanWrong : ChangeSpec := { name := "commitlogScan", fn := fun _ => fun
  | [d] => { results := [.lit (.bool false)], args := [d] }
  | _ => none }
def CommitlogScanWrongFalsely : Prop := commitlogScanRow.holds Try.pinned (OpenSpec.ofChange commitlogScanWrong)

/-- 'laminalaw24.CommitlogPrefix': WHATEVER THE INPUT: true; the input reads as it did. -/
def commitlogPrefixSpec : ChangeSpec := { name := "commitlogPrefix", fn := fun _ => fun
  | [d1, d2] => { results := [.lit (.bool true)], args := [d1, d2] }
  | _ => none }
def commitlogPrefixRow : OpenClaim := { program := "ytfkgpmidcbjlbaa", sum := "d04a9838989b5f406e5f2ef40ab9bf6c75822d2f8bd6257f4b66786de426faeb", func := "lamina/laminalaw24.CommitlogPrefix", spec := "commitlogPrefix", unfollowed := true, recurses := true, apart := false }
def CommitlogPrefixSaid : Prop := commitlogPrefixRow.holds Try.pinned (OpenSpec.ofChange commitlogPrefixSpec)

/-- ITS FALSE NEIGHBOUR: 'it returns false'. Refute it at one input. -/
def commitlogPrefixWrong : ChangeSpec := { name := "commitlogPrefix", fn := fun _ => fun
  | [d1, d2] => { results := [.lit (.bool false)], args := [d1, d2] }
  | _ => none }
def CommitlogPrefixWrongFalsely : Prop := commitlogPrefixRow.holds Try.pinned (OpenSpec.ofChange commitlogPrefixWrong)

/-- 'laminalaw24.CommitlogDamage': WHATEVER THE INPUT: true; the input reads as it did. -/
def commitlogDamageSpec : ChangeSpec := { name := "commitlogDamage", fn := fun _ => fun
  | [d1, d2, d3] => { results := [.lit (.bool true)], args := [d1, d2, d3] }
  | _ => none }
def commitlogDamageRow : OpenClaim := { program := "ytfkgpmidcbjlbaa", sum := "d04a9838989b5f406e5f2ef40ab9bf6c75822d2f8bd6257f4b66786de426faeb", func := "lamina/laminalaw24.CommitlogDamage", spec := "commitlogDamage", unfollowed := true, recurses := true, apart := false }
def CommitlogDamageSaid : Prop := commitlogDamageRow.holds Try.pinned (OpenSpec.ofChange commitlogDamageSpec)

/-- ITS FALSE NEIGHBOUR: 'it returns false'. Refute it at one input. -/
def commitlogDamageWrong : ChangeSpec := { name := "commitlogDamage", fn := fun _ => fun
  | [d1, d2, d3] => { results := [.lit (.bool false)], args := [d1, d2, d3] }
  | _ => none }
def CommitlogDamageWrongFalsely : Prop := commitlogDamageRow.holds Try.pinned (OpenSpec.ofChange commitlogDamageWrong)

/-- 'laminalaw24.CommitlogDurable': WHATEVER THE INPUT: true; the input reads as it did. -/
def commitlogDurableSpec : ChangeSpec := { name := "commitlogDurable", fn := fun _ => fun
  | [d1, d2, d3, d4] => { results := [.lit (.bool true)], args := [d1, d2, d3, d4] }
  | _ => none }
def commitlogDurableRow : OpenClaim := { program := "ytfkgpmidcbjlbaa", sum := "d04a9838989b5f406e5f2ef40ab9bf6c75822d2f8bd6257f4b66786de426faeb", func := "lamina/laminalaw24.CommitlogDurable", spec := "commitlogDurable", unfollowed := true, recurses := true, apart := false }
def CommitlogDurableSaid : Prop := commitlogDurableRow.holds Try.pinned (OpenSpec.ofChange commitlogDurableSpec)

/-- ITS FALSE NEIGHBOUR: 'it returns false'. Refute it at one input. -/
def commitlogDurableWrong : ChangeSpec := { name := "commitlogDurable", fn := fun _ => fun
  | [d1, d2, d3, d4] => { results := [.lit (.bool false)], args := [d1, d2, d3, d4] }
  | _ => none }
def CommitlogDurableWrongFalsely : Prop := commitlogDurableRow.holds Try.pinned (OpenSpec.ofChange commitlogDurableWrong)

/- THE SECOND FORM. 'bulk': how many values and letters a reading holds, each counted each time it is reached (what is shared counts as often as it is met; a slice's spare places count too). A statement '..UptoSaid' is the law's where the arguments, and the package variables that the reading takes, are together of bulk at most 1048576: NARROWER than '..Said'. Prove '..Said' where nothing that the law and all that it calls make is longer than what came in: it says more and counts as full. Else prove '..UptoSaid'. A law counts once. -/
mutual
def uptoBulk {H : Type} : DataW H → Nat
  | .lit (.string bytes) => bytes.length + 1
  | .lit _ => 1
  | .nil => 1
  | .ptr d => uptoBulk d + 1
  | .slice elems spare => uptoBulkAll elems + uptoBulkAll spare + 1
  | .agg parts => uptoBulkAll parts + 1
  | .iface _ d => uptoBulk d + 1
  | .map entries => uptoBulkEntries entries + 1
  | .held _ => 1
def uptoBulkAll {H : Type} : List (DataW H) → Nat
  | [] => 0
  | d :: r => uptoBulk d + uptoBulkAll r
def uptoBulkEntries {H : Type} : List (Lit × DataW H) → Nat
  | [] => 0
  | x :: r => uptoBulkEntry x + uptoBulkEntries r
def uptoBulkEntry {H : Type} : Lit × DataW H → Nat
  | (.string bytes, d) => bytes.length + uptoBulk d + 1
  | (_, d) => uptoBulk d + 1
 end
def uptoSmall : (H : Type) → List (DataW H) → Bool := fun _ ds => decide (uptoBulkAll ds ≤ 1048576)
def OpenSpec.upto (s : _root_.Go.ChangeSpec) : _root_.Go.OpenSpec := { _root_.Go.OpenSpec.ofChange s with cond := some uptoSmall }

/-- 'laminalaw24.CommitlogRecords', WHERE WHAT IT READS IS OF BULK AT MOST 1048576: true; the input reads as it did. -/
def commitlogRecordsUptoRow : OpenClaim := { program := "ytfkgpmidcbjlbaa", sum := "d04a9838989b5f406e5f2ef40ab9bf6c75822d2f8bd6257f4b66786de426faeb", func := "lamina/laminalaw24.CommitlogRecords", spec := "commitlogRecords", unfollowed := true, recurses := true, apart := false, narrowed := true }
def CommitlogRecordsUptoSaid : Prop := commitlogRecordsUptoRow.holds Try.pinned (OpenSpec.upto commitlogRecordsSpec)

/-- 'laminalaw24.CommitlogScan', WHERE WHAT IT READS IS OF BULK AT MOST 1048576: true; the input reads as it did. -/
def commitlogScanUptoRow : OpenClaim := { program := "ytfkgpmidcbjlbaa", sum := "d04a9838989b5f406e5f2ef40ab9bf6c75822d2f8bd6257f4b66786de426faeb", func := "lamina/laminalaw24.CommitlogScan", spec := "commitlogScan", unfollowed := true, recurses := true, apart := false, narrowed := true }
def CommitlogScanUptoSaid : Prop := commitlogScanUptoRow.holds Try.pinned (OpenSpec.upto commitlogScanSpec)

/-- 'laminalaw24.CommitlogPrefix', WHERE WHAT IT READS IS OF BULK AT MOST 1048576: true; the input reads as it did. -/
def commitlogPrefixUptoRow : OpenClaim := { program := "ytfkgpmidcbjlbaa", sum := "d04a9838989b5f406e5f2ef40ab9bf6c75822d2f8bd6257f4b66786de426faeb", func := "lamina/laminalaw24.CommitlogPrefix", spec := "commitlogPrefix", unfollowed := true, recurses := true, apart := false, narrowed := true }
def CommitlogPrefixUptoSaid : Prop := commitlogPrefixUptoRow.holds Try.pinned (OpenSpec.upto commitlogPrefixSpec)

/-- 'laminalaw24.CommitlogDamage', WHERE WHAT IT READS IS OF BULK AT MOST 1048576: true; the input reads as it did. -/
def commitlogDamageUptoRow : OpenClaim := { program := "ytfkgpmidcbjlbaa", sum := "d04a9838989b5f406e5f2ef40ab9bf6c75822d2f8bd6257f4b66786de426faeb", func := "lamina/laminalaw24.CommitlogDamage", spec := "commitlogDamage", unfollowed := true, recurses := true, apart := false, narrowed := true }
def CommitlogDamageUptoSaid : Prop := commitlogDamageUptoRow.holds Try.pinned (OpenSpec.upto commitlogDamageSpec)

/-- 'laminalaw24.CommitlogDurable', WHERE WHAT IT READS IS OF BULK AT MOST 1048576: true; the input reads as it did. -/
def commitlogDurableUptoRow : OpenClaim := { program := "ytfkgpmidcbjlbaa", sum := "d04a9838989b5f406e5f2ef40ab9bf6c75822d2f8bd6257f4b66786de426faeb", func := "lamina/laminalaw24.CommitlogDurable", spec := "commitlogDurable", unfollowed := true, recurses := true, apart := false, narrowed := true }
def CommitlogDurableUptoSaid : Prop := commitlogDurableUptoRow.holds Try.pinned (OpenSpec.upto commitlogDurableSpec)

end Rows
end Go.Proofs.Ytfkgpmidcbjlbaa
