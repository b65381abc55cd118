/-
  No cell of these rows narrows 'for every input' (looked for: loops, veiled, ifaces, maps, wideKeys, modest, calm, conditions, laid).
  DERIVED. THE GIVEN ROWS OF THIS SEAT. 11 by the template 'for every input the law returns true; each argument reads behind the call as it read before'; 0 by the template 'total and deterministic' (their statements: YthkphapmnlndbabTotals.lean).
  GIVEN WITH THE SEED: the statements are not yours to turn. If you find one false, say at which input.
  Laid BY PROGRAM, IN A SANDBOX (cutbox-rows.mjs): the forced cells as the released guide's own fill.sh prints them over the translation 2129fd0c896ca17c… (all of the seat's roots in one cut). By AI agents, Wed Nov 11 2026. No macro, syntax, notation, axiom, sorry.
-/
import Derived.Test.YthkphapmnlndbabChecked
import GoSem.Claim
import GoSem.ClaimJoined
import GoSem.ClaimMapViews
import Derived.JoinedTies
import Derived.KernelRfl
namespace Go.Proofs.Ythkphapmnlndbab
/- THE CELL 'sum', in the pinned program and in every row, IS THE sha256 OF THE DUMP (.gsa) THAT YthkphapmnlndbabProg.lean LOADS. Nothing in Lean hashes anything: it is a label: what it is worth is what the hold of that sum in a sandbox is worth. -/
noncomputable def Try.pinned : Pinned := { name := "ythkphapmnlndbab", sum := "2129fd0c896ca17ccfb7f3c737c9c288e1f1560ec59348809dfe4ff7798b4ab5", checked := Try.checked }
namespace Rows
def none {H : Type} : Left H := { results := [], args := [] }

/-- 'talarialaw03.MarkNext': WHATEVER THE INPUT: true; the input reads as it did. -/
def markNextSpec : ChangeSpec := { name := "markNext", fn := fun _ => fun
  | [d1, d2, d3] => { results := [.lit (.bool true)], args := [d1, d2, d3] }
  | _ => none }
def markNextRow : OpenClaim := { program := "ythkphapmnlndbab", sum := "2129fd0c896ca17ccfb7f3c737c9c288e1f1560ec59348809dfe4ff7798b4ab5", func := "talaria/talarialaw03.MarkNext", spec := "markNext", plainKeys := false, apart := false }
def MarkNextSaid : Prop := markNextRow.holds Try.pinned (OpenSpec.ofChange markNextSpec)

/-- ITS FALSE NEIGHBOUR: 'it returns false'. Refute it at one input. -/
def markNextWrong : ChangeSpec := { name := "markNext", fn := fun _ => fun
  | [d1, d2, d3] => { results := [.lit (.bool false)], args := [d1, d2, d3] }
  | _ => none }
def MarkNextWrongFalsely : Prop := markNextRow.holds Try.pinned (OpenSpec.ofChange markNextWrong)

/-- 'talarialaw03.MarkLine': WHATEVER THE INPUT: true; the input reads as it did. -/
def markLineSpec : ChangeSpec := { name := "markLine", fn := fun _ => fun
  | [d1, d2, d3] => { results := [.lit (.bool true)], args := [d1, d2, d3] }
  | _ => none }
def markLineRow : OpenClaim := { program := "ythkphapmnlndbab", sum := "2129fd0c896ca17ccfb7f3c737c9c288e1f1560ec59348809dfe4ff7798b4ab5", func := "talaria/talarialaw03.MarkLine", spec := "markLine", plainKeys := false, apart := false }
def MarkLineSaid : Prop := markLineRow.holds Try.pinned (OpenSpec.ofChange markLineSpec)

/-- ITS FALSE NEIGHBOUR: 'it returns false'. Refute it at one input. -/
def markLineWrong : ChangeSpec := { name := "markLine", fn := fun _ => fun
  | [d1, d2, d3] => { results := [.lit (.bool false)], args := [d1, d2, d3] }
  | _ => none }
def MarkLineWrongFalsely : Prop := markLineRow.holds Try.pinned (OpenSpec.ofChange markLineWrong)

/-- 'talarialaw03.MarkOrders': WHATEVER THE INPUT: true; the input reads as it did. -/
def markOrdersSpec : ChangeSpec := { name := "markOrders", fn := fun _ => fun
  | [d1, d2, d3] => { results := [.lit (.bool true)], args := [d1, d2, d3] }
  | _ => none }
def markOrdersRow : OpenClaim := { program := "ythkphapmnlndbab", sum := "2129fd0c896ca17ccfb7f3c737c9c288e1f1560ec59348809dfe4ff7798b4ab5", func := "talaria/talarialaw03.MarkOrders", spec := "markOrders", plainKeys := false, apart := false }
def MarkOrdersSaid : Prop := markOrdersRow.holds Try.pinned (OpenSpec.ofChange markOrdersSpec)

/-- ITS FALSE NEIGHBOUR: 'it returns false'. Refute it at one input. -/
def markOrdersWrong : ChangeSpec := { name := "markOrders", fn := fun _ => fun
  | [d1, d2, d3] => { results := [.lit (.bool false)], args := [d1, d2, d3] }
  | _ => none }
def MarkOrdersWrongFalsely : Prop := markOrdersRow.holds Try.pinned (OpenSpec.ofChange markOrdersWrong)

/-- 'talarialaw19.TransferPlays': WHATEVER THE INPUT: true; the input reads as it did. -/
def transferPlaysSpec : ChangeSpec := { name := "transferPlays", fn := fun _ => fun
  | [d1, d2] => { results := [.lit (.bool true)], args := [d1, d2] }
  | _ => none }
def transferPlaysRow : OpenClaim := { program := "ythkphapmnlndbab", sum := "2129fd0c896ca17ccfb7f3c737c9c288e1f1560ec59348809dfe4ff7798b4ab5", func := "talaria/talarialaw19.TransferPlays", spec := "transferPlays", plainKeys := false, apart := false }
def TransferPlaysSaid : Prop := transferPlaysRow.holds Try.pinned (OpenSpec.ofChange transferPlaysSpec)

/-- ITS FALSE NEIGHBOUR: 'it returns false'. Refute it at one input. -/
def transferPlaysWrong : ChangeSpec := { name := "transferPlays", fn := fun _ => fun
  | [d1, d2] => { results := [.lit (.bool false)], args := [d1, d2] }
  | _ => none }
def TransferPlaysWrongFalsely : Prop := transferPlaysRow.holds Try.pinned (OpenSpec.ofChange transferPlaysWrong)

/-- 'talarialaw19.TransferEnds': WHATEVER THE INPUT: true; the input reads as it did. -/
def transferEndsSpec : ChangeSpec := { name := "transferEnds", fn := fun _ => fun
  | [d1, d2] => { results := [.lit (.bool true)], args := [d1, d2] }
  | _ => none }
def transferEndsRow : OpenClaim := { program := "ythkphapmnlndbab", sum := "2129fd0c896ca17ccfb7f3c737c9c288e1f1560ec59348809dfe4ff7798b4ab5", func := "talaria/talarialaw19.TransferEnds", spec := "transferEnds", plainKeys := false, apart := false }
def TransferEndsSaid : Prop := transferEndsRow.holds Try.pinned (OpenSpec.ofChange transferEndsSpec)

/-- ITS FALSE NEIGHBOUR: 'it returns false'. Refute it at one input. -/
def transferEndsWrong : ChangeSpec := { name := "transferEnds", fn := fun _ => fun
  | [d1, d2] => { results := [.lit (.bool false)], args := [d1, d2] }
  | _ => none }
def TransferEndsWrongFalsely : Prop := transferEndsRow.holds Try.pinned (OpenSpec.ofChange transferEndsWrong)

/-- 'talarialaw17.CellPlays': WHATEVER THE INPUT: true; the input reads as it did. -/
def cellPlaysSpec : ChangeSpec := { name := "cellPlays", fn := fun _ => fun
  | [d] => { results := [.lit (.bool true)], args := [d] }
  | _ => none }
def cellPlaysRow : OpenClaim := { program := "ythkphapmnlndbab", sum := "2129fd0c896ca17ccfb7f3c737c9c288e1f1560ec59348809dfe4ff7798b4ab5", func := "talaria/talarialaw17.CellPlays", spec := "cellPlays", plainKeys := false, apart := false }
def CellPlaysSaid : Prop := cellPlaysRow.holds Try.pinned (OpenSpec.ofChange cellPlaysSpec)

/-- ITS FALSE NEIGHBOUR: 'it returns false'. Refute it at one input. -/
def cellPlaysWrong : ChangeSpec := { name := "cellPlays", fn := fun _ => fun
  | [d] => { results := [.lit (.bool false)], args := [d] }
  | _ => none }
def CellPlaysWrongFalsely : Prop := cellPlaysRow.holds Try.pinned (OpenSpec.ofChange cellPlaysWrong)

/-- 'talarialaw17.CellRises': WHATEVER THE INPUT: true; the input reads as it did. -/
def cellRisesSpec : ChangeSpec := { name := "cellRises", fn := fun _ => fun
  | [d] => { results := [.lit (.bool true)], args := [d] }
  | _ => none }
def cellRisesRow : OpenClaim := { program := "ythkphapmnlndbab", sum := "2129fd0c896ca17ccfb7f3c737c9c288e1f1560ec59348809dfe4ff7798b4ab5", func := "talaria/talarialaw17.CellRises", spec := "cellRises", plainKeys := false, apart := false }
def CellRisesSaid : Prop := cellRisesRow.holds Try.pinned (OpenSpec.ofChange cellRisesSpec)

/-- ITS FALSE NEIGHBOUR: 'it returns false'. Refute it at one input. -/
def cellRisesWrong : ChangeSpec := { name := "cellRises", fn := fun _ => fun
  | [d] => { results := [.lit (.bool false)], args := [d] }
  | _ => none }
def CellRisesWrongFalsely : Prop := cellRisesRow.holds Try.pinned (OpenSpec.ofChange cellRisesWrong)

/-- 'talarialaw17.CellMerges': WHATEVER THE INPUT: true; the input reads as it did. -/
def cellMergesSpec : ChangeSpec := { name := "cellMerges", fn := fun _ => fun
  | [d1, d2] => { results := [.lit (.bool true)], args := [d1, d2] }
  | _ => none }
def cellMergesRow : OpenClaim := { program := "ythkphapmnlndbab", sum := "2129fd0c896ca17ccfb7f3c737c9c288e1f1560ec59348809dfe4ff7798b4ab5", func := "talaria/talarialaw17.CellMerges", spec := "cellMerges", unfollowed := true, recurses := true, plainKeys := false, apart := false }
def CellMergesSaid : Prop := cellMergesRow.holds Try.pinned (OpenSpec.ofChange cellMergesSpec)

/-- ITS FALSE NEIGHBOUR: 'it returns false'. Refute it at one input. -/
def cellMergesWrong : ChangeSpec := { name := "cellMerges", fn := fun _ => fun
  | [d1, d2] => { results := [.lit (.bool false)], args := [d1, d2] }
  | _ => none }
def CellMergesWrongFalsely : Prop := cellMergesRow.holds Try.pinned (OpenSpec.ofChange cellMergesWrong)

/-- 'talarialaw26.HistoryOf': WHATEVER THE INPUT: true; the input reads as it did. -/
def historyOfSpec : ChangeSpec := { name := "historyOf", fn := fun _ => fun
  | [d1, d2] => { results := [.lit (.bool true)], args := [d1, d2] }
  | _ => none }
def historyOfRow : OpenClaim := { program := "ythkphapmnlndbab", sum := "2129fd0c896ca17ccfb7f3c737c9c288e1f1560ec59348809dfe4ff7798b4ab5", func := "talaria/talarialaw26.HistoryOf", spec := "historyOf", plainKeys := false, apart := false }
def HistoryOfSaid : Prop := historyOfRow.holds Try.pinned (OpenSpec.ofChange historyOfSpec)

/-- ITS FALSE NEIGHBOUR: 'it returns false'. Refute it at one input. -/
def historyOfWrong : ChangeSpec := { name := "historyOf", fn := fun _ => fun
  | [d1, d2] => { results := [.lit (.bool false)], args := [d1, d2] }
  | _ => none }
def HistoryOfWrongFalsely : Prop := historyOfRow.holds Try.pinned (OpenSpec.ofChange historyOfWrong)

/-- 'talarialaw23.QueueOrder': WHATEVER THE INPUT: true; the input reads as it did. -/
def queueOrderSpec : ChangeSpec := { name := "queueOrder", fn := fun _ => fun
  | [d1, d2] => { results := [.lit (.bool true)], args := [d1, d2] }
  | _ => none }
def queueOrderRow : OpenClaim := { program := "ythkphapmnlndbab", sum := "2129fd0c896ca17ccfb7f3c737c9c288e1f1560ec59348809dfe4ff7798b4ab5", func := "talaria/talarialaw23.QueueOrder", spec := "queueOrder", unfollowed := true, recurses := true, plainKeys := false, apart := false }
def QueueOrderSaid : Prop := queueOrderRow.holds Try.pinned (OpenSpec.ofChange queueOrderSpec)

/-- ITS FALSE NEIGHBOUR: 'it returns false'. Refute it at one input. -/
def queueOrderWrong : ChangeSpec := { name := "queueOrder", fn := fun _ => fun
  | [d1, d2] => { results := [.lit (.bool false)], args := [d1, d2] }
  | _ => none }
def QueueOrderWrongFalsely : Prop := queueOrderRow.holds Try.pinned (OpenSpec.ofChange queueOrderWrong)

/-- 'talarialaw23.QueuePlays': WHATEVER THE INPUT: true; the input reads as it did. -/
def queuePlaysSpec : ChangeSpec := { name := "queuePlays", fn := fun _ => fun
  | [d] => { results := [.lit (.bool true)], args := [d] }
  | _ => none }
def queuePlaysRow : OpenClaim := { program := "ythkphapmnlndbab", sum := "2129fd0c896ca17ccfb7f3c737c9c288e1f1560ec59348809dfe4ff7798b4ab5", func := "talaria/talarialaw23.QueuePlays", spec := "queuePlays", unfollowed := true, recurses := true, plainKeys := false, apart := false }
def QueuePlaysSaid : Prop := queuePlaysRow.holds Try.pinned (OpenSpec.ofChange queuePlaysSpec)

/-- ITS FALSE NEIGHBOUR: 'it returns false'. Refute it at one input. -/
def queuePlaysWrong : ChangeSpec := { name := "queuePlays", fn := fun _ => fun
  | [d] => { results := [.lit (.bool false)], args := [d] }
  | _ => none }
def QueuePlaysWrongFalsely : Prop := queuePlaysRow.holds Try.pinned (OpenSpec.ofChange queuePlaysWrong)

/- THE SECOND FORM. 'bulk': how many values and letters a reading holds, each counted each time it is reached (what is shared counts as often as it is met; a slice's spare places count too). A statement '..UptoSaid' is the law's where the arguments, and the package variables that the reading takes, are together of bulk at most 1048576: NARROWER than '..Said'. Prove '..Said' where nothing that the law and all that it calls make is longer than what came in: it says more and counts as full. Else prove '..UptoSaid'. A law counts once. -/
mutual
def uptoBulk {H : Type} : DataW H → Nat
  | .lit (.string bytes) => bytes.length + 1
  | .lit _ => 1
  | .nil => 1
  | .ptr d => uptoBulk d + 1
  | .slice elems spare => uptoBulkAll elems + uptoBulkAll spare + 1
  | .agg parts => uptoBulkAll parts + 1
  | .iface _ d => uptoBulk d + 1
  | .map entries => uptoBulkEntries entries + 1
  | .held _ => 1
def uptoBulkAll {H : Type} : List (DataW H) → Nat
  | [] => 0
  | d :: r => uptoBulk d + uptoBulkAll r
def uptoBulkEntries {H : Type} : List (Lit × DataW H) → Nat
  | [] => 0
  | x :: r => uptoBulkEntry x + uptoBulkEntries r
def uptoBulkEntry {H : Type} : Lit × DataW H → Nat
  | (.string bytes, d) => bytes.length + uptoBulk d + 1
  | (_, d) => uptoBulk d + 1
 end
def uptoSmall : (H : Type) → List (DataW H) → Bool := fun _ ds => decide (uptoBulkAll ds ≤ 1048576)
def OpenSpec.upto (s : _root_.Go.ChangeSpec) : _root_.Go.OpenSpec := { _root_.Go.OpenSpec.ofChange s with cond := some uptoSmall }

/-- 'talarialaw03.MarkNext', WHERE WHAT IT READS IS OF BULK AT MOST 1048576: true; the input reads as it did. -/
def markNextUptoRow : OpenClaim := { program := "ythkphapmnlndbab", sum := "2129fd0c896ca17ccfb7f3c737c9c288e1f1560ec59348809dfe4ff7798b4ab5", func := "talaria/talarialaw03.MarkNext", spec := "markNext", plainKeys := false, apart := false, narrowed := true }
def MarkNextUptoSaid : Prop := markNextUptoRow.holds Try.pinned (OpenSpec.upto markNextSpec)

/-- 'talarialaw03.MarkLine', WHERE WHAT IT READS IS OF BULK AT MOST 1048576: true; the input reads as it did. -/
def markLineUptoRow : OpenClaim := { program := "ythkphapmnlndbab", sum := "2129fd0c896ca17ccfb7f3c737c9c288e1f1560ec59348809dfe4ff7798b4ab5", func := "talaria/talarialaw03.MarkLine", spec := "markLine", plainKeys := false, apart := false, narrowed := true }
def MarkLineUptoSaid : Prop := markLineUptoRow.holds Try.pinned (OpenSpec.upto markLineSpec)

/-- 'talarialaw03.MarkOrders', WHERE WHAT IT READS IS OF BULK AT MOST 1048576: true; the input reads as it did. -/
def markOrdersUptoRow : OpenClaim := { program := "ythkphapmnlndbab", sum := "2129fd0c896ca17ccfb7f3c737c9c288e1f1560ec59348809dfe4ff7798b4ab5", func := "talaria/talarialaw03.MarkOrders", spec := "markOrders", plainKeys := false, apart := false, narrowed := true }
def MarkOrdersUptoSaid : Prop := markOrdersUptoRow.holds Try.pinned (OpenSpec.upto markOrdersSpec)

/-- 'talarialaw19.TransferPlays', WHERE WHAT IT READS IS OF BULK AT MOST 1048576: true; the input reads as it did. -/
def transferPlaysUptoRow : OpenClaim := { program := "ythkphapmnlndbab", sum := "2129fd0c896ca17ccfb7f3c737c9c288e1f1560ec59348809dfe4ff7798b4ab5", func := "talaria/talarialaw19.TransferPlays", spec := "transferPlays", plainKeys := false, apart := false, narrowed := true }
def TransferPlaysUptoSaid : Prop := transferPlaysUptoRow.holds Try.pinned (OpenSpec.upto transferPlaysSpec)

/-- 'talarialaw19.TransferEnds', WHERE WHAT IT READS IS OF BULK AT MOST 1048576: true; the input reads as it did. -/
def transferEndsUptoRow : OpenClaim := { program := "ythkphapmnlndbab", sum := "2129fd0c896ca17ccfb7f3c737c9c288e1f1560ec59348809dfe4ff7798b4ab5", func := "talaria/talarialaw19.TransferEnds", spec := "transferEnds", plainKeys := false, apart := false, narrowed := true }
def TransferEndsUptoSaid : Prop := transferEndsUptoRow.holds Try.pinned (OpenSpec.upto transferEndsSpec)

/-- 'talarialaw17.CellPlays', WHERE WHAT IT READS IS OF BULK AT MOST 1048576: true; the input reads as it did. -/
def cellPlaysUptoRow : OpenClaim := { program := "ythkphapmnlndbab", sum := "2129fd0c896ca17ccfb7f3c737c9c288e1f1560ec59348809dfe4ff7798b4ab5", func := "talaria/talarialaw17.CellPlays", spec := "cellPlays", plainKeys := false, apart := false, narrowed := true }
def CellPlaysUptoSaid : Prop := cellPlaysUptoRow.holds Try.pinned (OpenSpec.upto cellPlaysSpec)

/-- 'talarialaw17.CellRises', WHERE WHAT IT READS IS OF BULK AT MOST 1048576: true; the input reads as it did. -/
def cellRisesUptoRow : OpenClaim := { program := "ythkphapmnlndbab", sum := "2129fd0c896ca17ccfb7f3c737c9c288e1f1560ec59348809dfe4ff7798b4ab5", func := "talaria/talarialaw17.CellRises", spec := "cellRises", plainKeys := false, apart := false, narrowed := true }
def CellRisesUptoSaid : Prop := cellRisesUptoRow.holds Try.pinned (OpenSpec.upto cellRisesSpec)

/-- 'talarialaw17.CellMerges', WHERE WHAT IT READS IS OF BULK AT MOST 1048576: true; the input reads as it did. -/
def cellMergesUptoRow : OpenClaim := { program := "ythkphapmnlndbab", sum := "2129fd0c896ca17ccfb7f3c737c9c288e1f1560ec59348809dfe4ff7798b4ab5", func := "talaria/talarialaw17.CellMerges", spec := "cellMerges", unfollowed := true, recurses := true, plainKeys := false, apart := false, narrowed := true }
def CellMergesUptoSaid : Prop := cellMergesUptoRow.holds Try.pinned (OpenSpec.upto cellMergesSpec)

/-- 'talarialaw26.HistoryOf', WHERE WHAT IT READS IS OF BULK AT MOST 1048576: true; the input reads as it did. -/
def historyOfUptoRow : OpenClaim := { program := "ythkphapmnlndbab", sum := "2129fd0c896ca17ccfb7f3c737c9c288e1f1560ec59348809dfe4ff7798b4ab5", func := "talaria/talarialaw26.HistoryOf", spec := "historyOf", plainKeys := false, apart := false, narrowed := true }
def HistoryOfUptoSaid : Prop := historyOfUptoRow.holds Try.pinned (OpenSpec.upto historyOfSpec)

/-- 'talarialaw23.QueueOrder', WHERE WHAT IT READS IS OF BULK AT MOST 1048576: true; the input reads as it did. -/
def queueOrderUptoRow : OpenClaim := { program := "ythkphapmnlndbab", sum := "2129fd0c896ca17ccfb7f3c737c9c288e1f1560ec59348809dfe4ff7798b4ab5", func := "talaria/talarialaw23.QueueOrder", spec := "queueOrder", unfollowed := true, recurses := true, plainKeys := false, apart := false, narrowed := true }
def QueueOrderUptoSaid : Prop := queueOrderUptoRow.holds Try.pinned (OpenSpec.upto queueOrderSpec)

/-- 'talarialaw23.QueuePlays', WHERE WHAT IT READS IS OF BULK AT MOST 1048576: true; the input reads as it did. -/
def queuePlaysUptoRow : OpenClaim := { program := "ythkphapmnlndbab", sum := "2129fd0c896ca17ccfb7f3c737c9c288e1f1560ec59348809dfe4ff7798b4ab5", func := "talaria/talarialaw23.QueuePlays", spec := "queuePlays", unfollowed := true, recurses := true, plainKeys := false, apart := false, narrowed := true }
def QueuePlaysUptoSaid : Prop := queuePlaysUptoRow.holds Try.pinned (OpenSpec.upto queuePlaysSpec)

end Rows
end Go.Proofs.Ythkphapmnlndbab
