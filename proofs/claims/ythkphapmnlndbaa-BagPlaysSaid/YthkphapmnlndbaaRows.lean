/-
  No cell of these rows narrows 'for every input' (looked for: loops, veiled, ifaces, maps, wideKeys, modest, calm, conditions, laid).
  DERIVED. THE GIVEN ROWS OF THIS SEAT. 12 by the template 'for every input the law returns true; each argument reads behind the call as it read before'; 0 by the template 'total and deterministic' (their statements: YthkphapmnlndbaaTotals.lean).
  GIVEN WITH THE SEED: the statements are not yours to turn. If you find one false, say at which input.
  Laid BY PROGRAM, IN A SANDBOX (cutbox-rows.mjs): the forced cells as the released guide's own fill.sh prints them over the translation b0a9e94116c7ebfb… (all of the seat's roots in one cut). By AI agents, Wed Nov 11 2026. No macro, syntax, notation, axiom, sorry.
-/
import Derived.Test.YthkphapmnlndbaaChecked
import GoSem.Claim
import GoSem.ClaimJoined
import GoSem.ClaimMapViews
import Derived.JoinedTies
import Derived.KernelRfl
namespace Go.Proofs.Ythkphapmnlndbaa
/- THE CELL 'sum', in the pinned program and in every row, IS THE sha256 OF THE DUMP (.gsa) THAT YthkphapmnlndbaaProg.lean LOADS. Nothing in Lean hashes anything: it is a label: what it is worth is what the hold of that sum in a sandbox is worth. -/
noncomputable def Try.pinned : Pinned := { name := "ythkphapmnlndbaa", sum := "b0a9e94116c7ebfbb53fd368f6375fdb80b0cb2555967ef21dde85d77136fb5d", checked := Try.checked }
namespace Rows
def none {H : Type} : Left H := { results := [], args := [] }

/-- 'talarialaw02.CrcSums': WHATEVER THE INPUT: true; the input reads as it did. -/
def crcSumsSpec : ChangeSpec := { name := "crcSums", fn := fun _ => fun
  | [d1, d2] => { results := [.lit (.bool true)], args := [d1, d2] }
  | _ => none }
def crcSumsRow : OpenClaim := { program := "ythkphapmnlndbaa", sum := "b0a9e94116c7ebfbb53fd368f6375fdb80b0cb2555967ef21dde85d77136fb5d", func := "talaria/talarialaw02.CrcSums", spec := "crcSums", apart := false }
def CrcSumsSaid : Prop := crcSumsRow.holds Try.pinned (OpenSpec.ofChange crcSumsSpec)

/-- ITS FALSE NEIGHBOUR: 'it returns false'. Refute it at one input. -/
def crcSumsWrong : ChangeSpec := { name := "crcSums", fn := fun _ => fun
  | [d1, d2] => { results := [.lit (.bool false)], args := [d1, d2] }
  | _ => none }
def CrcSumsWrongFalsely : Prop := crcSumsRow.holds Try.pinned (OpenSpec.ofChange crcSumsWrong)

/-- 'talarialaw02.CrcTurns': WHATEVER THE INPUT: true; the input reads as it did. -/
def crcTurnsSpec : ChangeSpec := { name := "crcTurns", fn := fun _ => fun
  | [d1, d2, d3] => { results := [.lit (.bool true)], args := [d1, d2, d3] }
  | _ => none }
def crcTurnsRow : OpenClaim := { program := "ythkphapmnlndbaa", sum := "b0a9e94116c7ebfbb53fd368f6375fdb80b0cb2555967ef21dde85d77136fb5d", func := "talaria/talarialaw02.CrcTurns", spec := "crcTurns", apart := false }
def CrcTurnsSaid : Prop := crcTurnsRow.holds Try.pinned (OpenSpec.ofChange crcTurnsSpec)

/-- ITS FALSE NEIGHBOUR: 'it returns false'. Refute it at one input. -/
def crcTurnsWrong : ChangeSpec := { name := "crcTurns", fn := fun _ => fun
  | [d1, d2, d3] => { results := [.lit (.bool false)], args := [d1, d2, d3] }
  | _ => none }
def CrcTurnsWrongFalsely : Prop := crcTurnsRow.holds Try.pinned (OpenSpec.ofChange crcTurnsWrong)

/-- 'talarialaw02.CrcBursts': WHATEVER THE INPUT: true; the input reads as it did. -/
def crcBurstsSpec : ChangeSpec := { name := "crcBursts", fn := fun _ => fun
  | [d1, d2, d3] => { results := [.lit (.bool true)], args := [d1, d2, d3] }
  | _ => none }
def crcBurstsRow : OpenClaim := { program := "ythkphapmnlndbaa", sum := "b0a9e94116c7ebfbb53fd368f6375fdb80b0cb2555967ef21dde85d77136fb5d", func := "talaria/talarialaw02.CrcBursts", spec := "crcBursts", apart := false }
def CrcBurstsSaid : Prop := crcBurstsRow.holds Try.pinned (OpenSpec.ofChange crcBurstsSpec)

/-- ITS FALSE NEIGHBOUR: 'it returns false'. Refute it at one input. -/
def crcBurstsWrong : ChangeSpec := { name := "crcBursts", fn := fun _ => fun
  | [d1, d2, d3] => { results := [.lit (.bool false)], args := [d1, d2, d3] }
  | _ => none }
def CrcBurstsWrongFalsely : Prop := crcBurstsRow.holds Try.pinned (OpenSpec.ofChange crcBurstsWrong)

/-- 'talarialaw02.CrcSplits': WHATEVER THE INPUT: true; the input reads as it did. -/
def crcSplitsSpec : ChangeSpec := { name := "crcSplits", fn := fun _ => fun
  | [d1, d2] => { results := [.lit (.bool true)], args := [d1, d2] }
  | _ => none }
def crcSplitsRow : OpenClaim := { program := "ythkphapmnlndbaa", sum := "b0a9e94116c7ebfbb53fd368f6375fdb80b0cb2555967ef21dde85d77136fb5d", func := "talaria/talarialaw02.CrcSplits", spec := "crcSplits", apart := false }
def CrcSplitsSaid : Prop := crcSplitsRow.holds Try.pinned (OpenSpec.ofChange crcSplitsSpec)

/-- ITS FALSE NEIGHBOUR: 'it returns false'. Refute it at one input. -/
def crcSplitsWrong : ChangeSpec := { name := "crcSplits", fn := fun _ => fun
  | [d1, d2] => { results := [.lit (.bool false)], args := [d1, d2] }
  | _ => none }
def CrcSplitsWrongFalsely : Prop := crcSplitsRow.holds Try.pinned (OpenSpec.ofChange crcSplitsWrong)

/-- 'talarialaw07.BagPlays': WHATEVER THE INPUT: true; the input reads as it did. -/
def bagPlaysSpec : ChangeSpec := { name := "bagPlays", fn := fun _ => fun
  | [d1, d2] => { results := [.lit (.bool true)], args := [d1, d2] }
  | _ => none }
def bagPlaysRow : OpenClaim := { program := "ythkphapmnlndbaa", sum := "b0a9e94116c7ebfbb53fd368f6375fdb80b0cb2555967ef21dde85d77136fb5d", func := "talaria/talarialaw07.BagPlays", spec := "bagPlays", unfollowed := true, recurses := true, apart := false }
def BagPlaysSaid : Prop := bagPlaysRow.holds Try.pinned (OpenSpec.ofChange bagPlaysSpec)

/-- ITS FALSE NEIGHBOUR: 'it returns false'. Refute it at one input. -/
def bagPlaysWrong : ChangeSpec := { name := "bagPlays", fn := fun _ => fun
  | [d1, d2] => { results := [.lit (.bool false)], args := [d1, d2] }
  | _ => none }
def BagPlaysWrongFalsely : Prop := bagPlaysRow.holds Try.pinned (OpenSpec.ofChange bagPlaysWrong)

/-- 'talarialaw07.BagOnce': WHATEVER THE INPUT: true; the input reads as it did. -/
def bagOnceSpec : ChangeSpec := { name := "bagOnce", fn := fun _ => fun
  | [d1, d2] => { results := [.lit (.bool true)], args := [d1, d2] }
  | _ => none }
def bagOnceRow : OpenClaim := { program := "ythkphapmnlndbaa", sum := "b0a9e94116c7ebfbb53fd368f6375fdb80b0cb2555967ef21dde85d77136fb5d", func := "talaria/talarialaw07.BagOnce", spec := "bagOnce", unfollowed := true, recurses := true, apart := false }
def BagOnceSaid : Prop := bagOnceRow.holds Try.pinned (OpenSpec.ofChange bagOnceSpec)

/-- ITS FALSE NEIGHBOUR: 'it returns false'. Refute it at one input. -/
def bagOnceWrong : ChangeSpec := { name := "bagOnce", fn := fun _ => fun
  | [d1, d2] => { results := [.lit (.bool false)], args := [d1, d2] }
  | _ => none }
def BagOnceWrongFalsely : Prop := bagOnceRow.holds Try.pinned (OpenSpec.ofChange bagOnceWrong)

/-- 'talarialaw21.LeaseEnds': WHATEVER THE INPUT: true; the input reads as it did. -/
def leaseEndsSpec : ChangeSpec := { name := "leaseEnds", fn := fun _ => fun
  | [d1, d2] => { results := [.lit (.bool true)], args := [d1, d2] }
  | _ => none }
def leaseEndsRow : OpenClaim := { program := "ythkphapmnlndbaa", sum := "b0a9e94116c7ebfbb53fd368f6375fdb80b0cb2555967ef21dde85d77136fb5d", func := "talaria/talarialaw21.LeaseEnds", spec := "leaseEnds", apart := false }
def LeaseEndsSaid : Prop := leaseEndsRow.holds Try.pinned (OpenSpec.ofChange leaseEndsSpec)

/-- ITS FALSE NEIGHBOUR: 'it returns false'. Refute it at one input. -/
def leaseEndsWrong : ChangeSpec := { name := "leaseEnds", fn := fun _ => fun
  | [d1, d2] => { results := [.lit (.bool false)], args := [d1, d2] }
  | _ => none }
def LeaseEndsWrongFalsely : Prop := leaseEndsRow.holds Try.pinned (OpenSpec.ofChange leaseEndsWrong)

/-- 'talarialaw21.LeasePlays': WHATEVER THE INPUT: true; the input reads as it did. -/
def leasePlaysSpec : ChangeSpec := { name := "leasePlays", fn := fun _ => fun
  | [d1, d2, d3] => { results := [.lit (.bool true)], args := [d1, d2, d3] }
  | _ => none }
def leasePlaysRow : OpenClaim := { program := "ythkphapmnlndbaa", sum := "b0a9e94116c7ebfbb53fd368f6375fdb80b0cb2555967ef21dde85d77136fb5d", func := "talaria/talarialaw21.LeasePlays", spec := "leasePlays", apart := false }
def LeasePlaysSaid : Prop := leasePlaysRow.holds Try.pinned (OpenSpec.ofChange leasePlaysSpec)

/-- ITS FALSE NEIGHBOUR: 'it returns false'. Refute it at one input. -/
def leasePlaysWrong : ChangeSpec := { name := "leasePlays", fn := fun _ => fun
  | [d1, d2, d3] => { results := [.lit (.bool false)], args := [d1, d2, d3] }
  | _ => none }
def LeasePlaysWrongFalsely : Prop := leasePlaysRow.holds Try.pinned (OpenSpec.ofChange leasePlaysWrong)

/-- 'talarialaw21.LeasePaced': WHATEVER THE INPUT: true; the input reads as it did. -/
def leasePacedSpec : ChangeSpec := { name := "leasePaced", fn := fun _ => fun
  | [d1, d2, d3] => { results := [.lit (.bool true)], args := [d1, d2, d3] }
  | _ => none }
def leasePacedRow : OpenClaim := { program := "ythkphapmnlndbaa", sum := "b0a9e94116c7ebfbb53fd368f6375fdb80b0cb2555967ef21dde85d77136fb5d", func := "talaria/talarialaw21.LeasePaced", spec := "leasePaced", unfollowed := true, recurses := true, apart := false }
def LeasePacedSaid : Prop := leasePacedRow.holds Try.pinned (OpenSpec.ofChange leasePacedSpec)

/-- ITS FALSE NEIGHBOUR: 'it returns false'. Refute it at one input. -/
def leasePacedWrong : ChangeSpec := { name := "leasePaced", fn := fun _ => fun
  | [d1, d2, d3] => { results := [.lit (.bool false)], args := [d1, d2, d3] }
  | _ => none }
def LeasePacedWrongFalsely : Prop := leasePacedRow.holds Try.pinned (OpenSpec.ofChange leasePacedWrong)

/-- 'talarialaw08.PaceJudges': WHATEVER THE INPUT: true; the input reads as it did. -/
def paceJudgesSpec : ChangeSpec := { name := "paceJudges", fn := fun _ => fun
  | [d1, d2] => { results := [.lit (.bool true)], args := [d1, d2] }
  | _ => none }
def paceJudgesRow : OpenClaim := { program := "ythkphapmnlndbaa", sum := "b0a9e94116c7ebfbb53fd368f6375fdb80b0cb2555967ef21dde85d77136fb5d", func := "talaria/talarialaw08.PaceJudges", spec := "paceJudges", unfollowed := true, recurses := true, apart := false }
def PaceJudgesSaid : Prop := paceJudgesRow.holds Try.pinned (OpenSpec.ofChange paceJudgesSpec)

/-- ITS FALSE NEIGHBOUR: 'it returns false'. Refute it at one input. -/
def paceJudgesWrong : ChangeSpec := { name := "paceJudges", fn := fun _ => fun
  | [d1, d2] => { results := [.lit (.bool false)], args := [d1, d2] }
  | _ => none }
def PaceJudgesWrongFalsely : Prop := paceJudgesRow.holds Try.pinned (OpenSpec.ofChange paceJudgesWrong)

/-- 'talarialaw08.PaceHolds': WHATEVER THE INPUT: true; the input reads as it did. -/
def paceHoldsSpec : ChangeSpec := { name := "paceHolds", fn := fun _ => fun
  | [d1, d2, d3] => { results := [.lit (.bool true)], args := [d1, d2, d3] }
  | _ => none }
def paceHoldsRow : OpenClaim := { program := "ythkphapmnlndbaa", sum := "b0a9e94116c7ebfbb53fd368f6375fdb80b0cb2555967ef21dde85d77136fb5d", func := "talaria/talarialaw08.PaceHolds", spec := "paceHolds", unfollowed := true, recurses := true, apart := false }
def PaceHoldsSaid : Prop := paceHoldsRow.holds Try.pinned (OpenSpec.ofChange paceHoldsSpec)

/-- ITS FALSE NEIGHBOUR: 'it returns false'. Refute it at one input. -/
def paceHoldsWrong : ChangeSpec := { name := "paceHolds", fn := fun _ => fun
  | [d1, d2, d3] => { results := [.lit (.bool false)], args := [d1, d2, d3] }
  | _ => none }
def PaceHoldsWrongFalsely : Prop := paceHoldsRow.holds Try.pinned (OpenSpec.ofChange paceHoldsWrong)

/-- 'talarialaw08.PaceEven': WHATEVER THE INPUT: true; the input reads as it did. -/
def paceEvenSpec : ChangeSpec := { name := "paceEven", fn := fun _ => fun
  | [d1, d2, d3] => { results := [.lit (.bool true)], args := [d1, d2, d3] }
  | _ => none }
def paceEvenRow : OpenClaim := { program := "ythkphapmnlndbaa", sum := "b0a9e94116c7ebfbb53fd368f6375fdb80b0cb2555967ef21dde85d77136fb5d", func := "talaria/talarialaw08.PaceEven", spec := "paceEven", unfollowed := true, recurses := true, apart := false }
def PaceEvenSaid : Prop := paceEvenRow.holds Try.pinned (OpenSpec.ofChange paceEvenSpec)

/-- ITS FALSE NEIGHBOUR: 'it returns false'. Refute it at one input. -/
def paceEvenWrong : ChangeSpec := { name := "paceEven", fn := fun _ => fun
  | [d1, d2, d3] => { results := [.lit (.bool false)], args := [d1, d2, d3] }
  | _ => none }
def PaceEvenWrongFalsely : Prop := paceEvenRow.holds Try.pinned (OpenSpec.ofChange paceEvenWrong)

/- THE SECOND FORM. 'bulk': how many values and letters a reading holds, each counted each time it is reached (what is shared counts as often as it is met; a slice's spare places count too). A statement '..UptoSaid' is the law's where the arguments, and the package variables that the reading takes, are together of bulk at most 1048576: NARROWER than '..Said'. Prove '..Said' where nothing that the law and all that it calls make is longer than what came in: it says more and counts as full. Else prove '..UptoSaid'. A law counts once. -/
mutual
def uptoBulk {H : Type} : DataW H → Nat
  | .lit (.string bytes) => bytes.length + 1
  | .lit _ => 1
  | .nil => 1
  | .ptr d => uptoBulk d + 1
  | .slice elems spare => uptoBulkAll elems + uptoBulkAll spare + 1
  | .agg parts => uptoBulkAll parts + 1
  | .iface _ d => uptoBulk d + 1
  | .map entries => uptoBulkEntries entries + 1
  | .held _ => 1
def uptoBulkAll {H : Type} : List (DataW H) → Nat
  | [] => 0
  | d :: r => uptoBulk d + uptoBulkAll r
def uptoBulkEntries {H : Type} : List (Lit × DataW H) → Nat
  | [] => 0
  | x :: r => uptoBulkEntry x + uptoBulkEntries r
def uptoBulkEntry {H : Type} : Lit × DataW H → Nat
  | (.string bytes, d) => bytes.length + uptoBulk d + 1
  | (_, d) => uptoBulk d + 1
 end
def uptoSmall : (H : Type) → List (DataW H) → Bool := fun _ ds => decide (uptoBulkAll ds ≤ 1048576)
def OpenSpec.upto (s : _root_.Go.ChangeSpec) : _root_.Go.OpenSpec := { _root_.Go.OpenSpec.ofChange s with cond := some uptoSmall }

/-- 'talarialaw02.CrcSums', WHERE WHAT IT READS IS OF BULK AT MOST 1048576: true; the input reads as it did. -/
def crcSumsUptoRow : OpenClaim := { program := "ythkphapmnlndbaa", sum := "b0a9e94116c7ebfbb53fd368f6375fdb80b0cb2555967ef21dde85d77136fb5d", func := "talaria/talarialaw02.CrcSums", spec := "crcSums", apart := false, narrowed := true }
def CrcSumsUptoSaid : Prop := crcSumsUptoRow.holds Try.pinned (OpenSpec.upto crcSumsSpec)

/-- 'talarialaw02.CrcTurns', WHERE WHAT IT READS IS OF BULK AT MOST 1048576: true; the input reads as it did. -/
def crcTurnsUptoRow : OpenClaim := { program := "ythkphapmnlndbaa", sum := "b0a9e94116c7ebfbb53fd368f6375fdb80b0cb2555967ef21dde85d77136fb5d", func := "talaria/talarialaw02.CrcTurns", spec := "crcTurns", apart := false, narrowed := true }
def CrcTurnsUptoSaid : Prop := crcTurnsUptoRow.holds Try.pinned (OpenSpec.upto crcTurnsSpec)

/-- 'talarialaw02.CrcBursts', WHERE WHAT IT READS IS OF BULK AT MOST 1048576: true; the input reads as it did. -/
def crcBurstsUptoRow : OpenClaim := { program := "ythkphapmnlndbaa", sum := "b0a9e94116c7ebfbb53fd368f6375fdb80b0cb2555967ef21dde85d77136fb5d", func := "talaria/talarialaw02.CrcBursts", spec := "crcBursts", apart := false, narrowed := true }
def CrcBurstsUptoSaid : Prop := crcBurstsUptoRow.holds Try.pinned (OpenSpec.upto crcBurstsSpec)

/-- 'talarialaw02.CrcSplits', WHERE WHAT IT READS IS OF BULK AT MOST 1048576: true; the input reads as it did. -/
def crcSplitsUptoRow : OpenClaim := { program := "ythkphapmnlndbaa", sum := "b0a9e94116c7ebfbb53fd368f6375fdb80b0cb2555967ef21dde85d77136fb5d", func := "talaria/talarialaw02.CrcSplits", spec := "crcSplits", apart := false, narrowed := true }
def CrcSplitsUptoSaid : Prop := crcSplitsUptoRow.holds Try.pinned (OpenSpec.upto crcSplitsSpec)

/-- 'talarialaw07.BagPlays', WHERE WHAT IT READS IS OF BULK AT MOST 1048576: true; the input reads as it did. -/
def bagPlaysUptoRow : OpenClaim := { program := "ythkphapmnlndbaa", sum := "b0a9e94116c7ebfbb53fd368f6375fdb80b0cb2555967ef21dde85d77136fb5d", func := "talaria/talarialaw07.BagPlays", spec := "bagPlays", unfollowed := true, recurses := true, apart := false, narrowed := true }
def BagPlaysUptoSaid : Prop := bagPlaysUptoRow.holds Try.pinned (OpenSpec.upto bagPlaysSpec)

/-- 'talarialaw07.BagOnce', WHERE WHAT IT READS IS OF BULK AT MOST 1048576: true; the input reads as it did. -/
def bagOnceUptoRow : OpenClaim := { program := "ythkphapmnlndbaa", sum := "b0a9e94116c7ebfbb53fd368f6375fdb80b0cb2555967ef21dde85d77136fb5d", func := "talaria/talarialaw07.BagOnce", spec := "bagOnce", unfollowed := true, recurses := true, apart := false, narrowed := true }
def BagOnceUptoSaid : Prop := bagOnceUptoRow.holds Try.pinned (OpenSpec.upto bagOnceSpec)

/-- 'talarialaw21.LeaseEnds', WHERE WHAT IT READS IS OF BULK AT MOST 1048576: true; the input reads as it did. -/
def leaseEndsUptoRow : OpenClaim := { program := "ythkphapmnlndbaa", sum := "b0a9e94116c7ebfbb53fd368f6375fdb80b0cb2555967ef21dde85d77136fb5d", func := "talaria/talarialaw21.LeaseEnds", spec := "leaseEnds", apart := false, narrowed := true }
def LeaseEndsUptoSaid : Prop := leaseEndsUptoRow.holds Try.pinned (OpenSpec.upto leaseEndsSpec)

/-- 'talarialaw21.LeasePlays', WHERE WHAT IT READS IS OF BULK AT MOST 1048576: true; the input reads as it did. -/
def leasePlaysUptoRow : OpenClaim := { program := "ythkphapmnlndbaa", sum := "b0a9e94116c7ebfbb53fd368f6375fdb80b0cb2555967ef21dde85d77136fb5d", func := "talaria/talarialaw21.LeasePlays", spec := "leasePlays", apart := false, narrowed := true }
def LeasePlaysUptoSaid : Prop := leasePlaysUptoRow.holds Try.pinned (OpenSpec.upto leasePlaysSpec)

/-- 'talarialaw21.LeasePaced', WHERE WHAT IT READS IS OF BULK AT MOST 1048576: true; the input reads as it did. -/
def leasePacedUptoRow : OpenClaim := { program := "ythkphapmnlndbaa", sum := "b0a9e94116c7ebfbb53fd368f6375fdb80b0cb2555967ef21dde85d77136fb5d", func := "talaria/talarialaw21.LeasePaced", spec := "leasePaced", unfollowed := true, recurses := true, apart := false, narrowed := true }
def LeasePacedUptoSaid : Prop := leasePacedUptoRow.holds Try.pinned (OpenSpec.upto leasePacedSpec)

/-- 'talarialaw08.PaceJudges', WHERE WHAT IT READS IS OF BULK AT MOST 1048576: true; the input reads as it did. -/
def paceJudgesUptoRow : OpenClaim := { program := "ythkphapmnlndbaa", sum := "b0a9e94116c7ebfbb53fd368f6375fdb80b0cb2555967ef21dde85d77136fb5d", func := "talaria/talarialaw08.PaceJudges", spec := "paceJudges", unfollowed := true, recurses := true, apart := false, narrowed := true }
def PaceJudgesUptoSaid : Prop := paceJudgesUptoRow.holds Try.pinned (OpenSpec.upto paceJudgesSpec)

/-- 'talarialaw08.PaceHolds', WHERE WHAT IT READS IS OF BULK AT MOST 1048576: true; the input reads as it did. -/
def paceHoldsUptoRow : OpenClaim := { program := "ythkphapmnlndbaa", sum := "b0a9e94116c7ebfbb53fd368f6375fdb80b0cb2555967ef21dde85d77136fb5d", func := "talaria/talarialaw08.PaceHolds", spec := "paceHolds", unfollowed := true, recurses := true, apart := false, narrowed := true }
def PaceHoldsUptoSaid : Prop := paceHoldsUptoRow.holds Try.pinned (OpenSpec.upto paceHoldsSpec)

/-- 'talarialaw08.PaceEven', WHERE WHAT IT READS IS OF BULK AT MOST 1048576: true; the input reads as it did. -/
def paceEvenUptoRow : OpenClaim := { program := "ythkphapmnlndbaa", sum := "b0a9e94116c7ebfbb53fd368f6375fdb80b0cb2555967ef21dde85d77136fb5d", func := "talaria/talarialaw08.PaceEven", spec := "paceEven", unfollowed := true, recurses := true, apart := false, narrowed := true }
def PaceEvenUptoSaid : Prop := paceEvenUptoRow.holds Try.pinned (OpenSpec.upto paceEvenSpec)

end Rows
end Go.Proofs.Ythkphapmnlndbaa
