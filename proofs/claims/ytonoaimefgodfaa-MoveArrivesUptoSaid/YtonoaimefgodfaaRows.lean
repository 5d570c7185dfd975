/-
  No cell of these rows narrows 'for every input' (looked for: loops, veiled, ifaces, maps, wideKeys, modest, calm, conditions, laid).
  DERIVED. THE GIVEN ROWS OF THIS SEAT. 11 by the template 'for every input the law returns true; each argument reads behind the call as it read before'; 0 by the template 'total and deterministic' (their statements: YtonoaimefgodfaaTotals.lean).
  GIVEN WITH THE SEED: the statements are not yours to turn. If you find one false, say at which input.
  Laid BY PROGRAM, IN A SANDBOX (cutbox-rows.mjs): the forced cells as the released guide's own fill.sh prints them over the translation 2741223f9c05a6b9… (all of the seat's roots in one cut). By AI agents, Wed Nov 11 2026. No macro, syntax, notation, axiom, sorry.
-/
import Derived.Test.YtonoaimefgodfaaChecked
import GoSem.Claim
import GoSem.ClaimJoined
import GoSem.ClaimMapViews
import Derived.JoinedTies
import Derived.KernelRfl
namespace Go.Proofs.Ytonoaimefgodfaa
/- THE CELL 'sum', in the pinned program and in every row, IS THE sha256 OF THE DUMP (.gsa) THAT YtonoaimefgodfaaProg.lean LOADS. Nothing in Lean hashes anything: it is a label: what it is worth is what the hold of that sum in a sandbox is worth. -/
noncomputable def Try.pinned : Pinned := { name := "ytonoaimefgodfaa", sum := "2741223f9c05a6b93bdac8357675419da418c8a5d43ffd23dcd82646526eba42", checked := Try.checked }
namespace Rows
def none {H : Type} : Left H := { results := [], args := [] }

/-- 'roadkeep5.ChunkTorn': WHATEVER THE INPUT: true; the input reads as it did. -/
def chunkTornSpec : ChangeSpec := { name := "chunkTorn", fn := fun _ => fun
  | [d1, d2] => { results := [.lit (.bool true)], args := [d1, d2] }
  | _ => none }
def chunkTornRow : OpenClaim := { program := "ytonoaimefgodfaa", sum := "2741223f9c05a6b93bdac8357675419da418c8a5d43ffd23dcd82646526eba42", func := "roadstead/roadkeep5.ChunkTorn", spec := "chunkTorn", plainKeys := false, apart := false }
def ChunkTornSaid : Prop := chunkTornRow.holds Try.pinned (OpenSpec.ofChange chunkTornSpec)

/-- ITS FALSE NEIGHBOUR: 'it returns false'. Refute it at one input. -/
def chunkTornWrong : ChangeSpec := { name := "chunkTorn", fn := fun _ => fun
  | [d1, d2] => { results := [.lit (.bool false)], args := [d1, d2] }
  | _ => none }
def ChunkTornWrongFalsely : Prop := chunkTornRow.holds Try.pinned (OpenSpec.ofChange chunkTornWrong)

/-- 'roadkeep5.LockTurned': WHATEVER THE INPUT: true; the input reads as it did. -/
def lockTurnedSpec : ChangeSpec := { name := "lockTurned", fn := fun _ => fun
  | [d1, d2] => { results := [.lit (.bool true)], args := [d1, d2] }
  | _ => none }
def lockTurnedRow : OpenClaim := { program := "ytonoaimefgodfaa", sum := "2741223f9c05a6b93bdac8357675419da418c8a5d43ffd23dcd82646526eba42", func := "roadstead/roadkeep5.LockTurned", spec := "lockTurned", plainKeys := false, apart := false }
def LockTurnedSaid : Prop := lockTurnedRow.holds Try.pinned (OpenSpec.ofChange lockTurnedSpec)

/-- ITS FALSE NEIGHBOUR: 'it returns false'. Refute it at one input. -/
def lockTurnedWrong : ChangeSpec := { name := "lockTurned", fn := fun _ => fun
  | [d1, d2] => { results := [.lit (.bool false)], args := [d1, d2] }
  | _ => none }
def LockTurnedWrongFalsely : Prop := lockTurnedRow.holds Try.pinned (OpenSpec.ofChange lockTurnedWrong)

/-- 'roadkeep5.MarkApart': WHATEVER THE INPUT: true; the input reads as it did. -/
def markApartSpec : ChangeSpec := { name := "markApart", fn := fun _ => fun
  | [d1, d2, d3] => { results := [.lit (.bool true)], args := [d1, d2, d3] }
  | _ => none }
def markApartRow : OpenClaim := { program := "ytonoaimefgodfaa", sum := "2741223f9c05a6b93bdac8357675419da418c8a5d43ffd23dcd82646526eba42", func := "roadstead/roadkeep5.MarkApart", spec := "markApart", plainKeys := false, apart := false }
def MarkApartSaid : Prop := markApartRow.holds Try.pinned (OpenSpec.ofChange markApartSpec)

/-- ITS FALSE NEIGHBOUR: 'it returns false'. Refute it at one input. -/
def markApartWrong : ChangeSpec := { name := "markApart", fn := fun _ => fun
  | [d1, d2, d3] => { results := [.lit (.bool false)], args := [d1, d2, d3] }
  | _ => none }
def MarkApartWrongFalsely : Prop := markApartRow.holds Try.pinned (OpenSpec.ofChange markApartWrong)

/-- 'roadkeep5.ChunkJoins': WHATEVER THE INPUT: true; the input reads as it did. -/
def chunkJoinsSpec : ChangeSpec := { name := "chunkJoins", fn := fun _ => fun
  | [d] => { results := [.lit (.bool true)], args := [d] }
  | _ => none }
def chunkJoinsRow : OpenClaim := { program := "ytonoaimefgodfaa", sum := "2741223f9c05a6b93bdac8357675419da418c8a5d43ffd23dcd82646526eba42", func := "roadstead/roadkeep5.ChunkJoins", spec := "chunkJoins", inPlace := ["internal/bytealg.IndexByte", "internal/bytealg.IndexByteString", "internal/bytealg.IndexString"], named := ["internal/bytealg.MaxLen"], plainKeys := false, apart := false }
def ChunkJoinsSaid : Prop := chunkJoinsRow.holds Try.pinned (OpenSpec.ofChange chunkJoinsSpec)

/-- ITS FALSE NEIGHBOUR: 'it returns false'. Refute it at one input. -/
def chunkJoinsWrong : ChangeSpec := { name := "chunkJoins", fn := fun _ => fun
  | [d] => { results := [.lit (.bool false)], args := [d] }
  | _ => none }
def ChunkJoinsWrongFalsely : Prop := chunkJoinsRow.holds Try.pinned (OpenSpec.ofChange chunkJoinsWrong)

/-- 'roadkeep5.ChunkShares': WHATEVER THE INPUT: true; the input reads as it did. -/
def chunkSharesSpec : ChangeSpec := { name := "chunkShares", fn := fun _ => fun
  | [d1, d2] => { results := [.lit (.bool true)], args := [d1, d2] }
  | _ => none }
def chunkSharesRow : OpenClaim := { program := "ytonoaimefgodfaa", sum := "2741223f9c05a6b93bdac8357675419da418c8a5d43ffd23dcd82646526eba42", func := "roadstead/roadkeep5.ChunkShares", spec := "chunkShares", inPlace := ["internal/bytealg.IndexByte"], unfollowed := true, recurses := true, plainKeys := false, apart := false }
def ChunkSharesSaid : Prop := chunkSharesRow.holds Try.pinned (OpenSpec.ofChange chunkSharesSpec)

/-- ITS FALSE NEIGHBOUR: 'it returns false'. Refute it at one input. -/
def chunkSharesWrong : ChangeSpec := { name := "chunkShares", fn := fun _ => fun
  | [d1, d2] => { results := [.lit (.bool false)], args := [d1, d2] }
  | _ => none }
def ChunkSharesWrongFalsely : Prop := chunkSharesRow.holds Try.pinned (OpenSpec.ofChange chunkSharesWrong)

/-- 'roadkeep5.MoveOrder': WHATEVER THE INPUT: true; the input reads as it did. -/
def moveOrderSpec : ChangeSpec := { name := "moveOrder", fn := fun _ => fun
  | [d1, d2, d3] => { results := [.lit (.bool true)], args := [d1, d2, d3] }
  | _ => none }
def moveOrderRow : OpenClaim := { program := "ytonoaimefgodfaa", sum := "2741223f9c05a6b93bdac8357675419da418c8a5d43ffd23dcd82646526eba42", func := "roadstead/roadkeep5.MoveOrder", spec := "moveOrder", unfollowed := true, recurses := true, plainKeys := false, apart := false }
def MoveOrderSaid : Prop := moveOrderRow.holds Try.pinned (OpenSpec.ofChange moveOrderSpec)

/-- ITS FALSE NEIGHBOUR: 'it returns false'. Refute it at one input. -/
def moveOrderWrong : ChangeSpec := { name := "moveOrder", fn := fun _ => fun
  | [d1, d2, d3] => { results := [.lit (.bool false)], args := [d1, d2, d3] }
  | _ => none }
def MoveOrderWrongFalsely : Prop := moveOrderRow.holds Try.pinned (OpenSpec.ofChange moveOrderWrong)

/-- 'roadkeep5.MoveArrives': WHATEVER THE INPUT: true; the input reads as it did. -/
def moveArrivesSpec : ChangeSpec := { name := "moveArrives", fn := fun _ => fun
  | [d1, d2, d3] => { results := [.lit (.bool true)], args := [d1, d2, d3] }
  | _ => none }
def moveArrivesRow : OpenClaim := { program := "ytonoaimefgodfaa", sum := "2741223f9c05a6b93bdac8357675419da418c8a5d43ffd23dcd82646526eba42", func := "roadstead/roadkeep5.MoveArrives", spec := "moveArrives", unfollowed := true, recurses := true, plainKeys := false, apart := false }
def MoveArrivesSaid : Prop := moveArrivesRow.holds Try.pinned (OpenSpec.ofChange moveArrivesSpec)

/-- ITS FALSE NEIGHBOUR: 'it returns false'. Refute it at one input. -/
def moveArrivesWrong : ChangeSpec := { name := "moveArrives", fn := fun _ => fun
  | [d1, d2, d3] => { results := [.lit (.bool false)], args := [d1, d2, d3] }
  | _ => none }
def MoveArrivesWrongFalsely : Prop := moveArrivesRow.holds Try.pinned (OpenSpec.ofChange moveArrivesWrong)

/-- 'roadkeep5.MoveLater': WHATEVER THE INPUT: true; the input reads as it did. -/
def moveLaterSpec : ChangeSpec := { name := "moveLater", fn := fun _ => fun
  | [d1, d2, d3, d4] => { results := [.lit (.bool true)], args := [d1, d2, d3, d4] }
  | _ => none }
def moveLaterRow : OpenClaim := { program := "ytonoaimefgodfaa", sum := "2741223f9c05a6b93bdac8357675419da418c8a5d43ffd23dcd82646526eba42", func := "roadstead/roadkeep5.MoveLater", spec := "moveLater", unfollowed := true, recurses := true, plainKeys := false, apart := false }
def MoveLaterSaid : Prop := moveLaterRow.holds Try.pinned (OpenSpec.ofChange moveLaterSpec)

/-- ITS FALSE NEIGHBOUR: 'it returns false'. Refute it at one input. -/
def moveLaterWrong : ChangeSpec := { name := "moveLater", fn := fun _ => fun
  | [d1, d2, d3, d4] => { results := [.lit (.bool false)], args := [d1, d2, d3, d4] }
  | _ => none }
def MoveLaterWrongFalsely : Prop := moveLaterRow.holds Try.pinned (OpenSpec.ofChange moveLaterWrong)

/-- 'roadkeep5.MarkSum': WHATEVER THE INPUT: true; the input reads as it did. -/
def markSumSpec : ChangeSpec := { name := "markSum", fn := fun _ => fun
  | [d1, d2] => { results := [.lit (.bool true)], args := [d1, d2] }
  | _ => none }
def markSumRow : OpenClaim := { program := "ytonoaimefgodfaa", sum := "2741223f9c05a6b93bdac8357675419da418c8a5d43ffd23dcd82646526eba42", func := "roadstead/roadkeep5.MarkSum", spec := "markSum", unfollowed := true, recurses := true, plainKeys := false, apart := false }
def MarkSumSaid : Prop := markSumRow.holds Try.pinned (OpenSpec.ofChange markSumSpec)

/-- ITS FALSE NEIGHBOUR: 'it returns false'. Refute it at one input. -/
def markSumWrong : ChangeSpec := { name := "markSum", fn := fun _ => fun
  | [d1, d2] => { results := [.lit (.bool false)], args := [d1, d2] }
  | _ => none }
def MarkSumWrongFalsely : Prop := markSumRow.holds Try.pinned (OpenSpec.ofChange markSumWrong)

/-- 'roadkeep5.MarkEnds': WHATEVER THE INPUT: true; the input reads as it did. -/
def markEndsSpec : ChangeSpec := { name := "markEnds", fn := fun _ => fun
  | [d1, d2] => { results := [.lit (.bool true)], args := [d1, d2] }
  | _ => none }
def markEndsRow : OpenClaim := { program := "ytonoaimefgodfaa", sum := "2741223f9c05a6b93bdac8357675419da418c8a5d43ffd23dcd82646526eba42", func := "roadstead/roadkeep5.MarkEnds", spec := "markEnds", unfollowed := true, recurses := true, plainKeys := false, apart := false }
def MarkEndsSaid : Prop := markEndsRow.holds Try.pinned (OpenSpec.ofChange markEndsSpec)

/-- ITS FALSE NEIGHBOUR: 'it returns false'. Refute it at one input. -/
def markEndsWrong : ChangeSpec := { name := "markEnds", fn := fun _ => fun
  | [d1, d2] => { results := [.lit (.bool false)], args := [d1, d2] }
  | _ => none }
def MarkEndsWrongFalsely : Prop := markEndsRow.holds Try.pinned (OpenSpec.ofChange markEndsWrong)

/-- 'roadkeep5.MarkLater': WHATEVER THE INPUT: true; the input reads as it did. -/
def markLaterSpec : ChangeSpec := { name := "markLater", fn := fun _ => fun
  | [d1, d2, d3] => { results := [.lit (.bool true)], args := [d1, d2, d3] }
  | _ => none }
def markLaterRow : OpenClaim := { program := "ytonoaimefgodfaa", sum := "2741223f9c05a6b93bdac8357675419da418c8a5d43ffd23dcd82646526eba42", func := "roadstead/roadkeep5.MarkLater", spec := "markLater", unfollowed := true, recurses := true, plainKeys := false, apart := false }
def MarkLaterSaid : Prop := markLaterRow.holds Try.pinned (OpenSpec.ofChange markLaterSpec)

/-- ITS FALSE NEIGHBOUR: 'it returns false'. Refute it at one input. -/
def markLaterWrong : ChangeSpec := { name := "markLater", fn := fun _ => fun
  | [d1, d2, d3] => { results := [.lit (.bool false)], args := [d1, d2, d3] }
  | _ => none }
def MarkLaterWrongFalsely : Prop := markLaterRow.holds Try.pinned (OpenSpec.ofChange markLaterWrong)

/- THE SECOND FORM. 'bulk': how many values and letters a reading holds, each counted each time it is reached (what is shared counts as often as it is met; a slice's spare places count too). A statement '..UptoSaid' is the law's where the arguments, and the package variables that the reading takes, are together of bulk at most 1048576: NARROWER than '..Said'. Prove '..Said' where nothing that the law and all that it calls make is longer than what came in: it says more and counts as full. Else prove '..UptoSaid'. A law counts once. -/
mutual
def uptoBulk {H : Type} : DataW H → Nat
  | .lit (.string bytes) => bytes.length + 1
  | .lit _ => 1
  | .nil => 1
  | .ptr d => uptoBulk d + 1
  | .slice elems spare => uptoBulkAll elems + uptoBulkAll spare + 1
  | .agg parts => uptoBulkAll parts + 1
  | .iface _ d => uptoBulk d + 1
  | .map entries => uptoBulkEntries entries + 1
  | .held _ => 1
def uptoBulkAll {H : Type} : List (DataW H) → Nat
  | [] => 0
  | d :: r => uptoBulk d + uptoBulkAll r
def uptoBulkEntries {H : Type} : List (Lit × DataW H) → Nat
  | [] => 0
  | x :: r => uptoBulkEntry x + uptoBulkEntries r
def uptoBulkEntry {H : Type} : Lit × DataW H → Nat
  | (.string bytes, d) => bytes.length + uptoBulk d + 1
  | (_, d) => uptoBulk d + 1
 end
def uptoSmall : (H : Type) → List (DataW H) → Bool := fun _ ds => decide (uptoBulkAll ds ≤ 1048576)
def OpenSpec.upto (s : _root_.Go.ChangeSpec) : _root_.Go.OpenSpec := { _root_.Go.OpenSpec.ofChange s with cond := some uptoSmall }

/-- 'roadkeep5.ChunkTorn', WHERE WHAT IT READS IS OF BULK AT MOST 1048576: true; the input reads as it did. -/
def chunkTornUptoRow : OpenClaim := { program := "ytonoaimefgodfaa", sum := "2741223f9c05a6b93bdac8357675419da418c8a5d43ffd23dcd82646526eba42", func := "roadstead/roadkeep5.ChunkTorn", spec := "chunkTorn", plainKeys := false, apart := false, narrowed := true }
def ChunkTornUptoSaid : Prop := chunkTornUptoRow.holds Try.pinned (OpenSpec.upto chunkTornSpec)

/-- 'roadkeep5.LockTurned', WHERE WHAT IT READS IS OF BULK AT MOST 1048576: true; the input reads as it did. -/
def lockTurnedUptoRow : OpenClaim := { program := "ytonoaimefgodfaa", sum := "2741223f9c05a6b93bdac8357675419da418c8a5d43ffd23dcd82646526eba42", func := "roadstead/roadkeep5.LockTurned", spec := "lockTurned", plainKeys := false, apart := false, narrowed := true }
def LockTurnedUptoSaid : Prop := lockTurnedUptoRow.holds Try.pinned (OpenSpec.upto lockTurnedSpec)

/-- 'roadkeep5.MarkApart', WHERE WHAT IT READS IS OF BULK AT MOST 1048576: true; the input reads as it did. -/
def markApartUptoRow : OpenClaim := { program := "ytonoaimefgodfaa", sum := "2741223f9c05a6b93bdac8357675419da418c8a5d43ffd23dcd82646526eba42", func := "roadstead/roadkeep5.MarkApart", spec := "markApart", plainKeys := false, apart := false, narrowed := true }
def MarkApartUptoSaid : Prop := markApartUptoRow.holds Try.pinned (OpenSpec.upto markApartSpec)

/-- 'roadkeep5.ChunkJoins', WHERE WHAT IT READS IS OF BULK AT MOST 1048576: true; the input reads as it did. -/
def chunkJoinsUptoRow : OpenClaim := { program := "ytonoaimefgodfaa", sum := "2741223f9c05a6b93bdac8357675419da418c8a5d43ffd23dcd82646526eba42", func := "roadstead/roadkeep5.ChunkJoins", spec := "chunkJoins", inPlace := ["internal/bytealg.IndexByte", "internal/bytealg.IndexByteString", "internal/bytealg.IndexString"], named := ["internal/bytealg.MaxLen"], plainKeys := false, apart := false, narrowed := true }
def ChunkJoinsUptoSaid : Prop := chunkJoinsUptoRow.holds Try.pinned (OpenSpec.upto chunkJoinsSpec)

/-- 'roadkeep5.ChunkShares', WHERE WHAT IT READS IS OF BULK AT MOST 1048576: true; the input reads as it did. -/
def chunkSharesUptoRow : OpenClaim := { program := "ytonoaimefgodfaa", sum := "2741223f9c05a6b93bdac8357675419da418c8a5d43ffd23dcd82646526eba42", func := "roadstead/roadkeep5.ChunkShares", spec := "chunkShares", inPlace := ["internal/bytealg.IndexByte"], unfollowed := true, recurses := true, plainKeys := false, apart := false, narrowed := true }
def ChunkSharesUptoSaid : Prop := chunkSharesUptoRow.holds Try.pinned (OpenSpec.upto chunkSharesSpec)

/-- 'roadkeep5.MoveOrder', WHERE WHAT IT READS IS OF BULK AT MOST 1048576: true; the input reads as it did. -/
def moveOrderUptoRow : OpenClaim := { program := "ytonoaimefgodfaa", sum := "2741223f9c05a6b93bdac8357675419da418c8a5d43ffd23dcd82646526eba42", func := "roadstead/roadkeep5.MoveOrder", spec := "moveOrder", unfollowed := true, recurses := true, plainKeys := false, apart := false, narrowed := true }
def MoveOrderUptoSaid : Prop := moveOrderUptoRow.holds Try.pinned (OpenSpec.upto moveOrderSpec)

/-- 'roadkeep5.MoveArrives', WHERE WHAT IT READS IS OF BULK AT MOST 1048576: true; the input reads as it did. -/
def moveArrivesUptoRow : OpenClaim := { program := "ytonoaimefgodfaa", sum := "2741223f9c05a6b93bdac8357675419da418c8a5d43ffd23dcd82646526eba42", func := "roadstead/roadkeep5.MoveArrives", spec := "moveArrives", unfollowed := true, recurses := true, plainKeys := false, apart := false, narrowed := true }
def MoveArrivesUptoSaid : Prop := moveArrivesUptoRow.holds Try.pinned (OpenSpec.upto moveArrivesSpec)

/-- 'roadkeep5.MoveLater', WHERE WHAT IT READS IS OF BULK AT MOST 1048576: true; the input reads as it did. -/
def moveLaterUptoRow : OpenClaim := { program := "ytonoaimefgodfaa", sum := "2741223f9c05a6b93bdac8357675419da418c8a5d43ffd23dcd82646526eba42", func := "roadstead/roadkeep5.MoveLater", spec := "moveLater", unfollowed := true, recurses := true, plainKeys := false, apart := false, narrowed := true }
def MoveLaterUptoSaid : Prop := moveLaterUptoRow.holds Try.pinned (OpenSpec.upto moveLaterSpec)

/-- 'roadkeep5.MarkSum', WHERE WHAT IT READS IS OF BULK AT MOST 1048576: true; the input reads as it did. -/
def markSumUptoRow : OpenClaim := { program := "ytonoaimefgodfaa", sum := "2741223f9c05a6b93bdac8357675419da418c8a5d43ffd23dcd82646526eba42", func := "roadstead/roadkeep5.MarkSum", spec := "markSum", unfollowed := true, recurses := true, plainKeys := false, apart := false, narrowed := true }
def MarkSumUptoSaid : Prop := markSumUptoRow.holds Try.pinned (OpenSpec.upto markSumSpec)

/-- 'roadkeep5.MarkEnds', WHERE WHAT IT READS IS OF BULK AT MOST 1048576: true; the input reads as it did. -/
def markEndsUptoRow : OpenClaim := { program := "ytonoaimefgodfaa", sum := "2741223f9c05a6b93bdac8357675419da418c8a5d43ffd23dcd82646526eba42", func := "roadstead/roadkeep5.MarkEnds", spec := "markEnds", unfollowed := true, recurses := true, plainKeys := false, apart := false, narrowed := true }
def MarkEndsUptoSaid : Prop := markEndsUptoRow.holds Try.pinned (OpenSpec.upto markEndsSpec)

/-- 'roadkeep5.MarkLater', WHERE WHAT IT READS IS OF BULK AT MOST 1048576: true; the input reads as it did. -/
def markLaterUptoRow : OpenClaim := { program := "ytonoaimefgodfaa", sum := "2741223f9c05a6b93bdac8357675419da418c8a5d43ffd23dcd82646526eba42", func := "roadstead/roadkeep5.MarkLater", spec := "markLater", unfollowed := true, recurses := true, plainKeys := false, apart := false, narrowed := true }
def MarkLaterUptoSaid : Prop := markLaterUptoRow.holds Try.pinned (OpenSpec.upto markLaterSpec)

end Rows
end Go.Proofs.Ytonoaimefgodfaa
