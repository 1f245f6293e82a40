/-
  No cell of these rows narrows 'for every input' (looked for: loops, veiled, ifaces, maps, wideKeys, modest, calm, conditions, laid).
  DERIVED. THE GIVEN ROWS OF THIS SEAT. 18 by the template 'for every input the law returns true; each argument reads behind the call as it read before'; 0 by the template 'total and deterministic' (their statements: YtdgdigliepncpaaTotals.lean).
  GIVEN WITH THE SEED: the statements are not yours to turn. If you find one false, say at which input.
  Laid BY PROGRAM, IN A SANDBOX (cutbox-rows.mjs): the forced cells as the released guide's own fill.sh prints them over the translation 24ef9e30b4c99d35… (all of the seat's roots in one cut). By AI agents, Wed Nov 11 2026. No macro, syntax, notation, axiom, sorry.
-/
import Derived.Test.YtdgdigliepncpaaChecked
import GoSem.Claim
import GoSem.ClaimJoined
import GoSem.ClaimMapViews
import Derived.JoinedTies
import Derived.KernelRfl
namespace Go.Proofs.Ytdgdigliepncpaa
/- THE CELL 'sum', in the pinned program and in every row, IS THE sha256 OF THE DUMP (.gsa) THAT YtdgdigliepncpaaProg.lean LOADS. Nothing in Lean hashes anything: it is a label: what it is worth is what the hold of that sum in a sandbox is worth. -/
noncomputable def Try.pinned : Pinned := { name := "ytdgdigliepncpaa", sum := "24ef9e30b4c99d356749a98c631513d6ea4f37cc5ba346a30954b5000d691f13", checked := Try.checked }
namespace Rows
def none {H : Type} : Left H := { results := [], args := [] }

/-- 'bartizanlaw10.BondNobody': WHATEVER THE INPUT: true; the input reads as it did. -/
def bondNobodySpec : ChangeSpec := { name := "bondNobody", fn := fun _ => fun
  | [d1, d2, d3] => { results := [.lit (.bool true)], args := [d1, d2, d3] }
  | _ => none }
def bondNobodyRow : OpenClaim := { program := "ytdgdigliepncpaa", sum := "24ef9e30b4c99d356749a98c631513d6ea4f37cc5ba346a30954b5000d691f13", func := "bartizan/bartizanlaw10.BondNobody", spec := "bondNobody", inPlace := ["maps.clone"], unfollowed := true, recurses := true, plainKeys := false, apart := false }
def BondNobodySaid : Prop := bondNobodyRow.holds Try.pinned (OpenSpec.ofChange bondNobodySpec)

/-- ITS FALSE NEIGHBOUR: 'it returns false'. Refute it at one input. -/
def bondNobodyWrong : ChangeSpec := { name := "bondNobody", fn := fun _ => fun
  | [d1, d2, d3] => { results := [.lit (.bool false)], args := [d1, d2, d3] }
  | _ => none }
def BondNobodyWrongFalsely : Prop := bondNobodyRow.holds Try.pinned (OpenSpec.ofChange bondNobodyWrong)

/-- 'bartizanlaw08.TxForms': WHATEVER THE INPUT: true; the input reads as it did. -/
def txFormsSpec : ChangeSpec := { name := "txForms", fn := fun _ => fun
  | [d1, d2] => { results := [.lit (.bool true)], args := [d1, d2] }
  | _ => none }
def txFormsRow : OpenClaim := { program := "ytdgdigliepncpaa", sum := "24ef9e30b4c99d356749a98c631513d6ea4f37cc5ba346a30954b5000d691f13", func := "bartizan/bartizanlaw08.TxForms", spec := "txForms", unfollowed := true, recurses := true, plainKeys := false, apart := false }
def TxFormsSaid : Prop := txFormsRow.holds Try.pinned (OpenSpec.ofChange txFormsSpec)

/-- ITS FALSE NEIGHBOUR: 'it returns false'. Refute it at one input. -/
def txFormsWrong : ChangeSpec := { name := "txForms", fn := fun _ => fun
  | [d1, d2] => { results := [.lit (.bool false)], args := [d1, d2] }
  | _ => none }
def TxFormsWrongFalsely : Prop := txFormsRow.holds Try.pinned (OpenSpec.ofChange txFormsWrong)

/-- 'bartizanlaw08.TxReads': WHATEVER THE INPUT: true; the input reads as it did. -/
def txReadsSpec : ChangeSpec := { name := "txReads", fn := fun _ => fun
  | [d1, d2] => { results := [.lit (.bool true)], args := [d1, d2] }
  | _ => none }
def txReadsRow : OpenClaim := { program := "ytdgdigliepncpaa", sum := "24ef9e30b4c99d356749a98c631513d6ea4f37cc5ba346a30954b5000d691f13", func := "bartizan/bartizanlaw08.TxReads", spec := "txReads", unfollowed := true, recurses := true, plainKeys := false, apart := false }
def TxReadsSaid : Prop := txReadsRow.holds Try.pinned (OpenSpec.ofChange txReadsSpec)

/-- ITS FALSE NEIGHBOUR: 'it returns false'. Refute it at one input. -/
def txReadsWrong : ChangeSpec := { name := "txReads", fn := fun _ => fun
  | [d1, d2] => { results := [.lit (.bool false)], args := [d1, d2] }
  | _ => none }
def TxReadsWrongFalsely : Prop := txReadsRow.holds Try.pinned (OpenSpec.ofChange txReadsWrong)

/-- 'bartizanlaw15.JusticeBuilds': WHATEVER THE INPUT: true; the input reads as it did. -/
def justiceBuildsSpec : ChangeSpec := { name := "justiceBuilds", fn := fun _ => fun
  | [d1, d2, d3, d4, d5] => { results := [.lit (.bool true)], args := [d1, d2, d3, d4, d5] }
  | _ => none }
def justiceBuildsRow : OpenClaim := { program := "ytdgdigliepncpaa", sum := "24ef9e30b4c99d356749a98c631513d6ea4f37cc5ba346a30954b5000d691f13", func := "bartizan/bartizanlaw15.JusticeBuilds", spec := "justiceBuilds", unfollowed := true, recurses := true, plainKeys := false, apart := false }
def JusticeBuildsSaid : Prop := justiceBuildsRow.holds Try.pinned (OpenSpec.ofChange justiceBuildsSpec)

/-- ITS FALSE NEIGHBOUR: 'it returns false'. Refute it at one input. -/
def justiceBuildsWrong : ChangeSpec := { name := "justiceBuilds", fn := fun _ => fun
  | [d1, d2, d3, d4, d5] => { results := [.lit (.bool false)], args := [d1, d2, d3, d4, d5] }
  | _ => none }
def JusticeBuildsWrongFalsely : Prop := justiceBuildsRow.holds Try.pinned (OpenSpec.ofChange justiceBuildsWrong)

/-- 'bartizanlaw17.ProofBytes': WHATEVER THE INPUT: true; the input reads as it did. -/
def proofBytesSpec : ChangeSpec := { name := "proofBytes", fn := fun _ => fun
  | [d1, d2] => { results := [.lit (.bool true)], args := [d1, d2] }
  | _ => none }
def proofBytesRow : OpenClaim := { program := "ytdgdigliepncpaa", sum := "24ef9e30b4c99d356749a98c631513d6ea4f37cc5ba346a30954b5000d691f13", func := "bartizan/bartizanlaw17.ProofBytes", spec := "proofBytes", unfollowed := true, recurses := true, plainKeys := false, apart := false }
def ProofBytesSaid : Prop := proofBytesRow.holds Try.pinned (OpenSpec.ofChange proofBytesSpec)

/-- ITS FALSE NEIGHBOUR: 'it returns false'. Refute it at one input. -/
def proofBytesWrong : ChangeSpec := { name := "proofBytes", fn := fun _ => fun
  | [d1, d2] => { results := [.lit (.bool false)], args := [d1, d2] }
  | _ => none }
def ProofBytesWrongFalsely : Prop := proofBytesRow.holds Try.pinned (OpenSpec.ofChange proofBytesWrong)

/-- 'bartizanlaw17.ProofLong': WHATEVER THE INPUT: true; the input reads as it did. -/
def proofLongSpec : ChangeSpec := { name := "proofLong", fn := fun _ => fun
  | [d] => { results := [.lit (.bool true)], args := [d] }
  | _ => none }
def proofLongRow : OpenClaim := { program := "ytdgdigliepncpaa", sum := "24ef9e30b4c99d356749a98c631513d6ea4f37cc5ba346a30954b5000d691f13", func := "bartizan/bartizanlaw17.ProofLong", spec := "proofLong", unfollowed := true, recurses := true, plainKeys := false, apart := false }
def ProofLongSaid : Prop := proofLongRow.holds Try.pinned (OpenSpec.ofChange proofLongSpec)

/-- ITS FALSE NEIGHBOUR: 'it returns false'. Refute it at one input. -/
def proofLongWrong : ChangeSpec := { name := "proofLong", fn := fun _ => fun
  | [d] => { results := [.lit (.bool false)], args := [d] }
  | _ => none }
def ProofLongWrongFalsely : Prop := proofLongRow.holds Try.pinned (OpenSpec.ofChange proofLongWrong)

/-- 'bartizanlaw17.ProofChecks': WHATEVER THE INPUT: true; the input reads as it did. -/
def proofChecksSpec : ChangeSpec := { name := "proofChecks", fn := fun _ => fun
  | [d1, d2, d3, d4, d5, d6] => { results := [.lit (.bool true)], args := [d1, d2, d3, d4, d5, d6] }
  | _ => none }
def proofChecksRow : OpenClaim := { program := "ytdgdigliepncpaa", sum := "24ef9e30b4c99d356749a98c631513d6ea4f37cc5ba346a30954b5000d691f13", func := "bartizan/bartizanlaw17.ProofChecks", spec := "proofChecks", unfollowed := true, recurses := true, plainKeys := false, apart := false }
def ProofChecksSaid : Prop := proofChecksRow.holds Try.pinned (OpenSpec.ofChange proofChecksSpec)

/-- ITS FALSE NEIGHBOUR: 'it returns false'. Refute it at one input. -/
def proofChecksWrong : ChangeSpec := { name := "proofChecks", fn := fun _ => fun
  | [d1, d2, d3, d4, d5, d6] => { results := [.lit (.bool false)], args := [d1, d2, d3, d4, d5, d6] }
  | _ => none }
def ProofChecksWrongFalsely : Prop := proofChecksRow.holds Try.pinned (OpenSpec.ofChange proofChecksWrong)

/-- 'bartizanlaw30.PeerNobody': WHATEVER THE INPUT: true; the input reads as it did. -/
def peerNobodySpec : ChangeSpec := { name := "peerNobody", fn := fun _ => fun
  | [d1, d2] => { results := [.lit (.bool true)], args := [d1, d2] }
  | _ => none }
def peerNobodyRow : OpenClaim := { program := "ytdgdigliepncpaa", sum := "24ef9e30b4c99d356749a98c631513d6ea4f37cc5ba346a30954b5000d691f13", func := "bartizan/bartizanlaw30.PeerNobody", spec := "peerNobody", unfollowed := true, recurses := true, plainKeys := false, apart := false }
def PeerNobodySaid : Prop := peerNobodyRow.holds Try.pinned (OpenSpec.ofChange peerNobodySpec)

/-- ITS FALSE NEIGHBOUR: 'it returns false'. Refute it at one input. -/
def peerNobodyWrong : ChangeSpec := { name := "peerNobody", fn := fun _ => fun
  | [d1, d2] => { results := [.lit (.bool false)], args := [d1, d2] }
  | _ => none }
def PeerNobodyWrongFalsely : Prop := peerNobodyRow.holds Try.pinned (OpenSpec.ofChange peerNobodyWrong)

/-- 'bartizanlaw25.RegistryPlays': WHATEVER THE INPUT: true; the input reads as it did. -/
def registryPlaysSpec : ChangeSpec := { name := "registryPlays", fn := fun _ => fun
  | [d1, d2, d3] => { results := [.lit (.bool true)], args := [d1, d2, d3] }
  | _ => none }
def registryPlaysRow : OpenClaim := { program := "ytdgdigliepncpaa", sum := "24ef9e30b4c99d356749a98c631513d6ea4f37cc5ba346a30954b5000d691f13", func := "bartizan/bartizanlaw25.RegistryPlays", spec := "registryPlays", unfollowed := true, recurses := true, plainKeys := false, apart := false }
def RegistryPlaysSaid : Prop := registryPlaysRow.holds Try.pinned (OpenSpec.ofChange registryPlaysSpec)

/-- ITS FALSE NEIGHBOUR: 'it returns false'. Refute it at one input. -/
def registryPlaysWrong : ChangeSpec := { name := "registryPlays", fn := fun _ => fun
  | [d1, d2, d3] => { results := [.lit (.bool false)], args := [d1, d2, d3] }
  | _ => none }
def RegistryPlaysWrongFalsely : Prop := registryPlaysRow.holds Try.pinned (OpenSpec.ofChange registryPlaysWrong)

/-- 'bartizanlaw25.RegistryOrders': WHATEVER THE INPUT: true; the input reads as it did. -/
def registryOrdersSpec : ChangeSpec := { name := "registryOrders", fn := fun _ => fun
  | [d1, d2, d3, d4] => { results := [.lit (.bool true)], args := [d1, d2, d3, d4] }
  | _ => none }
def registryOrdersRow : OpenClaim := { program := "ytdgdigliepncpaa", sum := "24ef9e30b4c99d356749a98c631513d6ea4f37cc5ba346a30954b5000d691f13", func := "bartizan/bartizanlaw25.RegistryOrders", spec := "registryOrders", unfollowed := true, recurses := true, plainKeys := false, apart := false }
def RegistryOrdersSaid : Prop := registryOrdersRow.holds Try.pinned (OpenSpec.ofChange registryOrdersSpec)

/-- ITS FALSE NEIGHBOUR: 'it returns false'. Refute it at one input. -/
def registryOrdersWrong : ChangeSpec := { name := "registryOrders", fn := fun _ => fun
  | [d1, d2, d3, d4] => { results := [.lit (.bool false)], args := [d1, d2, d3, d4] }
  | _ => none }
def RegistryOrdersWrongFalsely : Prop := registryOrdersRow.holds Try.pinned (OpenSpec.ofChange registryOrdersWrong)

/-- 'bartizanlaw30.PeerPlays': WHATEVER THE INPUT: true; the input reads as it did. -/
def peerPlaysSpec : ChangeSpec := { name := "peerPlays", fn := fun _ => fun
  | [d1, d2, d3, d4, d5, d6] => { results := [.lit (.bool true)], args := [d1, d2, d3, d4, d5, d6] }
  | _ => none }
def peerPlaysRow : OpenClaim := { program := "ytdgdigliepncpaa", sum := "24ef9e30b4c99d356749a98c631513d6ea4f37cc5ba346a30954b5000d691f13", func := "bartizan/bartizanlaw30.PeerPlays", spec := "peerPlays", unfollowed := true, recurses := true, plainKeys := false, apart := false }
def PeerPlaysSaid : Prop := peerPlaysRow.holds Try.pinned (OpenSpec.ofChange peerPlaysSpec)

/-- ITS FALSE NEIGHBOUR: 'it returns false'. Refute it at one input. -/
def peerPlaysWrong : ChangeSpec := { name := "peerPlays", fn := fun _ => fun
  | [d1, d2, d3, d4, d5, d6] => { results := [.lit (.bool false)], args := [d1, d2, d3, d4, d5, d6] }
  | _ => none }
def PeerPlaysWrongFalsely : Prop := peerPlaysRow.holds Try.pinned (OpenSpec.ofChange peerPlaysWrong)

/-- 'bartizanlaw25.RegistryLeaves': WHATEVER THE INPUT: true; the input reads as it did. -/
def registryLeavesSpec : ChangeSpec := { name := "registryLeaves", fn := fun _ => fun
  | [d1, d2] => { results := [.lit (.bool true)], args := [d1, d2] }
  | _ => none }
def registryLeavesRow : OpenClaim := { program := "ytdgdigliepncpaa", sum := "24ef9e30b4c99d356749a98c631513d6ea4f37cc5ba346a30954b5000d691f13", func := "bartizan/bartizanlaw25.RegistryLeaves", spec := "registryLeaves", unfollowed := true, recurses := true, plainKeys := false, apart := false }
def RegistryLeavesSaid : Prop := registryLeavesRow.holds Try.pinned (OpenSpec.ofChange registryLeavesSpec)

/-- ITS FALSE NEIGHBOUR: 'it returns false'. Refute it at one input. -/
def registryLeavesWrong : ChangeSpec := { name := "registryLeaves", fn := fun _ => fun
  | [d1, d2] => { results := [.lit (.bool false)], args := [d1, d2] }
  | _ => none }
def RegistryLeavesWrongFalsely : Prop := registryLeavesRow.holds Try.pinned (OpenSpec.ofChange registryLeavesWrong)

/-- 'bartizanlaw26.BookGates': WHATEVER THE INPUT: true; the input reads as it did. -/
def bookGatesSpec : ChangeSpec := { name := "bookGates", fn := fun _ => fun
  | [d] => { results := [.lit (.bool true)], args := [d] }
  | _ => none }
def bookGatesRow : OpenClaim := { program := "ytdgdigliepncpaa", sum := "24ef9e30b4c99d356749a98c631513d6ea4f37cc5ba346a30954b5000d691f13", func := "bartizan/bartizanlaw26.BookGates", spec := "bookGates", unfollowed := true, recurses := true, plainKeys := false, apart := false }
def BookGatesSaid : Prop := bookGatesRow.holds Try.pinned (OpenSpec.ofChange bookGatesSpec)

/-- ITS FALSE NEIGHBOUR: 'it returns false'. Refute it at one input. -/
def bookGatesWrong : ChangeSpec := { name := "bookGates", fn := fun _ => fun
  | [d] => { results := [.lit (.bool false)], args := [d] }
  | _ => none }
def BookGatesWrongFalsely : Prop := bookGatesRow.holds Try.pinned (OpenSpec.ofChange bookGatesWrong)

/-- 'bartizanlaw42.FeePicks': WHATEVER THE INPUT: true; the input reads as it did. -/
def feePicksSpec : ChangeSpec := { name := "feePicks", fn := fun _ => fun
  | [d1, d2, d3] => { results := [.lit (.bool true)], args := [d1, d2, d3] }
  | _ => none }
def feePicksRow : OpenClaim := { program := "ytdgdigliepncpaa", sum := "24ef9e30b4c99d356749a98c631513d6ea4f37cc5ba346a30954b5000d691f13", func := "bartizan/bartizanlaw42.FeePicks", spec := "feePicks", inPlace := ["internal/bytealg.Compare"], unfollowed := true, recurses := true, plainKeys := false, apart := false }
def FeePicksSaid : Prop := feePicksRow.holds Try.pinned (OpenSpec.ofChange feePicksSpec)

/-- ITS FALSE NEIGHBOUR: 'it returns false'. Refute it at one input. -/
def feePicksWrong : ChangeSpec := { name := "feePicks", fn := fun _ => fun
  | [d1, d2, d3] => { results := [.lit (.bool false)], args := [d1, d2, d3] }
  | _ => none }
def FeePicksWrongFalsely : Prop := feePicksRow.holds Try.pinned (OpenSpec.ofChange feePicksWrong)

/-- 'bartizanlaw26.BookBytes': WHATEVER THE INPUT: true; the input reads as it did. -/
def bookBytesSpec : ChangeSpec := { name := "bookBytes", fn := fun _ => fun
  | [d1, d2] => { results := [.lit (.bool true)], args := [d1, d2] }
  | _ => none }
def bookBytesRow : OpenClaim := { program := "ytdgdigliepncpaa", sum := "24ef9e30b4c99d356749a98c631513d6ea4f37cc5ba346a30954b5000d691f13", func := "bartizan/bartizanlaw26.BookBytes", spec := "bookBytes", unfollowed := true, recurses := true, plainKeys := false, apart := false }
def BookBytesSaid : Prop := bookBytesRow.holds Try.pinned (OpenSpec.ofChange bookBytesSpec)

/-- ITS FALSE NEIGHBOUR: 'it returns false'. Refute it at one input. -/
def bookBytesWrong : ChangeSpec := { name := "bookBytes", fn := fun _ => fun
  | [d1, d2] => { results := [.lit (.bool false)], args := [d1, d2] }
  | _ => none }
def BookBytesWrongFalsely : Prop := bookBytesRow.holds Try.pinned (OpenSpec.ofChange bookBytesWrong)

/-- 'bartizanlaw42.FeeSends': WHATEVER THE INPUT: true; the input reads as it did. -/
def feeSendsSpec : ChangeSpec := { name := "feeSends", fn := fun _ => fun
  | [d1, d2, d3, d4, d5] => { results := [.lit (.bool true)], args := [d1, d2, d3, d4, d5] }
  | _ => none }
def feeSendsRow : OpenClaim := { program := "ytdgdigliepncpaa", sum := "24ef9e30b4c99d356749a98c631513d6ea4f37cc5ba346a30954b5000d691f13", func := "bartizan/bartizanlaw42.FeeSends", spec := "feeSends", inPlace := ["internal/bytealg.Compare"], unfollowed := true, recurses := true, plainKeys := false, apart := false }
def FeeSendsSaid : Prop := feeSendsRow.holds Try.pinned (OpenSpec.ofChange feeSendsSpec)

/-- ITS FALSE NEIGHBOUR: 'it returns false'. Refute it at one input. -/
def feeSendsWrong : ChangeSpec := { name := "feeSends", fn := fun _ => fun
  | [d1, d2, d3, d4, d5] => { results := [.lit (.bool false)], args := [d1, d2, d3, d4, d5] }
  | _ => none }
def FeeSendsWrongFalsely : Prop := feeSendsRow.holds Try.pinned (OpenSpec.ofChange feeSendsWrong)

/-- 'bartizanlaw26.BookRecords': WHATEVER THE INPUT: true; the input reads as it did. -/
def bookRecordsSpec : ChangeSpec := { name := "bookRecords", fn := fun _ => fun
  | [d] => { results := [.lit (.bool true)], args := [d] }
  | _ => none }
def bookRecordsRow : OpenClaim := { program := "ytdgdigliepncpaa", sum := "24ef9e30b4c99d356749a98c631513d6ea4f37cc5ba346a30954b5000d691f13", func := "bartizan/bartizanlaw26.BookRecords", spec := "bookRecords", unfollowed := true, recurses := true, plainKeys := false, apart := false }
def BookRecordsSaid : Prop := bookRecordsRow.holds Try.pinned (OpenSpec.ofChange bookRecordsSpec)

/-- ITS FALSE NEIGHBOUR: 'it returns false'. Refute it at one input. -/
def bookRecordsWrong : ChangeSpec := { name := "bookRecords", fn := fun _ => fun
  | [d] => { results := [.lit (.bool false)], args := [d] }
  | _ => none }
def BookRecordsWrongFalsely : Prop := bookRecordsRow.holds Try.pinned (OpenSpec.ofChange bookRecordsWrong)

/-- 'bartizanlaw26.BookNobody': WHATEVER THE INPUT: true; the input reads as it did. -/
def bookNobodySpec : ChangeSpec := { name := "bookNobody", fn := fun _ => fun
  | [d] => { results := [.lit (.bool true)], args := [d] }
  | _ => none }
def bookNobodyRow : OpenClaim := { program := "ytdgdigliepncpaa", sum := "24ef9e30b4c99d356749a98c631513d6ea4f37cc5ba346a30954b5000d691f13", func := "bartizan/bartizanlaw26.BookNobody", spec := "bookNobody", inPlace := ["maps.clone"], unfollowed := true, recurses := true, plainKeys := false, apart := false }
def BookNobodySaid : Prop := bookNobodyRow.holds Try.pinned (OpenSpec.ofChange bookNobodySpec)

/-- ITS FALSE NEIGHBOUR: 'it returns false'. Refute it at one input. -/
def bookNobodyWrong : ChangeSpec := { name := "bookNobody", fn := fun _ => fun
  | [d] => { results := [.lit (.bool false)], args := [d] }
  | _ => none }
def BookNobodyWrongFalsely : Prop := bookNobodyRow.holds Try.pinned (OpenSpec.ofChange bookNobodyWrong)

/- THE SECOND FORM. 'bulk': how many values and letters a reading holds, each counted each time it is reached (what is shared counts as often as it is met; a slice's spare places count too). A statement '..UptoSaid' is the law's where the arguments, and the package variables that the reading takes, are together of bulk at most 1048576: NARROWER than '..Said'. Prove '..Said' where nothing that the law and all that it calls make is longer than what came in: it says more and counts as full. Else prove '..UptoSaid'. A law counts once. -/
mutual
def uptoBulk {H : Type} : DataW H → Nat
  | .lit (.string bytes) => bytes.length + 1
  | .lit _ => 1
  | .nil => 1
  | .ptr d => uptoBulk d + 1
  | .slice elems spare => uptoBulkAll elems + uptoBulkAll spare + 1
  | .agg parts => uptoBulkAll parts + 1
  | .iface _ d => uptoBulk d + 1
  | .map entries => uptoBulkEntries entries + 1
  | .held _ => 1
def uptoBulkAll {H : Type} : List (DataW H) → Nat
  | [] => 0
  | d :: r => uptoBulk d + uptoBulkAll r
def uptoBulkEntries {H : Type} : List (Lit × DataW H) → Nat
  | [] => 0
  | x :: r => uptoBulkEntry x + uptoBulkEntries r
def uptoBulkEntry {H : Type} : Lit × DataW H → Nat
  | (.string bytes, d) => bytes.length + uptoBulk d + 1
  | (_, d) => uptoBulk d + 1
 end
def uptoSmall : (H : Type) → List (DataW H) → Bool := fun _ ds => decide (uptoBulkAll ds ≤ 1048576)
def OpenSpec.upto (s : _root_.Go.ChangeSpec) : _root_.Go.OpenSpec := { _root_.Go.OpenSpec.ofChange s with cond := some uptoSmall }

/-- 'bartizanlaw10.BondNobody', WHERE WHAT IT READS IS OF BULK AT MOST 1048576: true; the input reads as it did. -/
def bondNobodyUptoRow : OpenClaim := { program := "ytdgdigliepncpaa", sum := "24ef9e30b4c99d356749a98c631513d6ea4f37cc5ba346a30954b5000d691f13", func := "bartizan/bartizanlaw10.BondNobody", spec := "bondNobody", inPlace := ["maps.clone"], unfollowed := true, recurses := true, plainKeys := false, apart := false, narrowed := true }
def BondNobodyUptoSaid : Prop := bondNobodyUptoRow.holds Try.pinned (OpenSpec.upto bondNobodySpec)

/-- 'bartizanlaw08.TxForms', WHERE WHAT IT READS IS OF BULK AT MOST 1048576: true; the input reads as it did. -/
def txFormsUptoRow : OpenClaim := { program := "ytdgdigliepncpaa", sum := "24ef9e30b4c99d356749a98c631513d6ea4f37cc5ba346a30954b5000d691f13", func := "bartizan/bartizanlaw08.TxForms", spec := "txForms", unfollowed := true, recurses := true, plainKeys := false, apart := false, narrowed := true }
def TxFormsUptoSaid : Prop := txFormsUptoRow.holds Try.pinned (OpenSpec.upto txFormsSpec)

/-- 'bartizanlaw08.TxReads', WHERE WHAT IT READS IS OF BULK AT MOST 1048576: true; the input reads as it did. -/
def txReadsUptoRow : OpenClaim := { program := "ytdgdigliepncpaa", sum := "24ef9e30b4c99d356749a98c631513d6ea4f37cc5ba346a30954b5000d691f13", func := "bartizan/bartizanlaw08.TxReads", spec := "txReads", unfollowed := true, recurses := true, plainKeys := false, apart := false, narrowed := true }
def TxReadsUptoSaid : Prop := txReadsUptoRow.holds Try.pinned (OpenSpec.upto txReadsSpec)

/-- 'bartizanlaw15.JusticeBuilds', WHERE WHAT IT READS IS OF BULK AT MOST 1048576: true; the input reads as it did. -/
def justiceBuildsUptoRow : OpenClaim := { program := "ytdgdigliepncpaa", sum := "24ef9e30b4c99d356749a98c631513d6ea4f37cc5ba346a30954b5000d691f13", func := "bartizan/bartizanlaw15.JusticeBuilds", spec := "justiceBuilds", unfollowed := true, recurses := true, plainKeys := false, apart := false, narrowed := true }
def JusticeBuildsUptoSaid : Prop := justiceBuildsUptoRow.holds Try.pinned (OpenSpec.upto justiceBuildsSpec)

/-- 'bartizanlaw17.ProofBytes', WHERE WHAT IT READS IS OF BULK AT MOST 1048576: true; the input reads as it did. -/
def proofBytesUptoRow : OpenClaim := { program := "ytdgdigliepncpaa", sum := "24ef9e30b4c99d356749a98c631513d6ea4f37cc5ba346a30954b5000d691f13", func := "bartizan/bartizanlaw17.ProofBytes", spec := "proofBytes", unfollowed := true, recurses := true, plainKeys := false, apart := false, narrowed := true }
def ProofBytesUptoSaid : Prop := proofBytesUptoRow.holds Try.pinned (OpenSpec.upto proofBytesSpec)

/-- 'bartizanlaw17.ProofLong', WHERE WHAT IT READS IS OF BULK AT MOST 1048576: true; the input reads as it did. -/
def proofLongUptoRow : OpenClaim := { program := "ytdgdigliepncpaa", sum := "24ef9e30b4c99d356749a98c631513d6ea4f37cc5ba346a30954b5000d691f13", func := "bartizan/bartizanlaw17.ProofLong", spec := "proofLong", unfollowed := true, recurses := true, plainKeys := false, apart := false, narrowed := true }
def ProofLongUptoSaid : Prop := proofLongUptoRow.holds Try.pinned (OpenSpec.upto proofLongSpec)

/-- 'bartizanlaw17.ProofChecks', WHERE WHAT IT READS IS OF BULK AT MOST 1048576: true; the input reads as it did. -/
def proofChecksUptoRow : OpenClaim := { program := "ytdgdigliepncpaa", sum := "24ef9e30b4c99d356749a98c631513d6ea4f37cc5ba346a30954b5000d691f13", func := "bartizan/bartizanlaw17.ProofChecks", spec := "proofChecks", unfollowed := true, recurses := true, plainKeys := false, apart := false, narrowed := true }
def ProofChecksUptoSaid : Prop := proofChecksUptoRow.holds Try.pinned (OpenSpec.upto proofChecksSpec)

/-- 'bartizanlaw30.PeerNobody', WHERE WHAT IT READS IS OF BULK AT MOST 1048576: true; the input reads as it did. -/
def peerNobodyUptoRow : OpenClaim := { program := "ytdgdigliepncpaa", sum := "24ef9e30b4c99d356749a98c631513d6ea4f37cc5ba346a30954b5000d691f13", func := "bartizan/bartizanlaw30.PeerNobody", spec := "peerNobody", unfollowed := true, recurses := true, plainKeys := false, apart := false, narrowed := true }
def PeerNobodyUptoSaid : Prop := peerNobodyUptoRow.holds Try.pinned (OpenSpec.upto peerNobodySpec)

/-- 'bartizanlaw25.RegistryPlays', WHERE WHAT IT READS IS OF BULK AT MOST 1048576: true; the input reads as it did. -/
def registryPlaysUptoRow : OpenClaim := { program := "ytdgdigliepncpaa", sum := "24ef9e30b4c99d356749a98c631513d6ea4f37cc5ba346a30954b5000d691f13", func := "bartizan/bartizanlaw25.RegistryPlays", spec := "registryPlays", unfollowed := true, recurses := true, plainKeys := false, apart := false, narrowed := true }
def RegistryPlaysUptoSaid : Prop := registryPlaysUptoRow.holds Try.pinned (OpenSpec.upto registryPlaysSpec)

/-- 'bartizanlaw25.RegistryOrders', WHERE WHAT IT READS IS OF BULK AT MOST 1048576: true; the input reads as it did. -/
def registryOrdersUptoRow : OpenClaim := { program := "ytdgdigliepncpaa", sum := "24ef9e30b4c99d356749a98c631513d6ea4f37cc5ba346a30954b5000d691f13", func := "bartizan/bartizanlaw25.RegistryOrders", spec := "registryOrders", unfollowed := true, recurses := true, plainKeys := false, apart := false, narrowed := true }
def RegistryOrdersUptoSaid : Prop := registryOrdersUptoRow.holds Try.pinned (OpenSpec.upto registryOrdersSpec)

/-- 'bartizanlaw30.PeerPlays', WHERE WHAT IT READS IS OF BULK AT MOST 1048576: true; the input reads as it did. -/
def peerPlaysUptoRow : OpenClaim := { program := "ytdgdigliepncpaa", sum := "24ef9e30b4c99d356749a98c631513d6ea4f37cc5ba346a30954b5000d691f13", func := "bartizan/bartizanlaw30.PeerPlays", spec := "peerPlays", unfollowed := true, recurses := true, plainKeys := false, apart := false, narrowed := true }
def PeerPlaysUptoSaid : Prop := peerPlaysUptoRow.holds Try.pinned (OpenSpec.upto peerPlaysSpec)

/-- 'bartizanlaw25.RegistryLeaves', WHERE WHAT IT READS IS OF BULK AT MOST 1048576: true; the input reads as it did. -/
def registryLeavesUptoRow : OpenClaim := { program := "ytdgdigliepncpaa", sum := "24ef9e30b4c99d356749a98c631513d6ea4f37cc5ba346a30954b5000d691f13", func := "bartizan/bartizanlaw25.RegistryLeaves", spec := "registryLeaves", unfollowed := true, recurses := true, plainKeys := false, apart := false, narrowed := true }
def RegistryLeavesUptoSaid : Prop := registryLeavesUptoRow.holds Try.pinned (OpenSpec.upto registryLeavesSpec)

/-- 'bartizanlaw26.BookGates', WHERE WHAT IT READS IS OF BULK AT MOST 1048576: true; the input reads as it did. -/
def bookGatesUptoRow : OpenClaim := { program := "ytdgdigliepncpaa", sum := "24ef9e30b4c99d356749a98c631513d6ea4f37cc5ba346a30954b5000d691f13", func := "bartizan/bartizanlaw26.BookGates", spec := "bookGates", unfollowed := true, recurses := true, plainKeys := false, apart := false, narrowed := true }
def BookGatesUptoSaid : Prop := bookGatesUptoRow.holds Try.pinned (OpenSpec.upto bookGatesSpec)

/-- 'bartizanlaw42.FeePicks', WHERE WHAT IT READS IS OF BULK AT MOST 1048576: true; the input reads as it did. -/
def feePicksUptoRow : OpenClaim := { program := "ytdgdigliepncpaa", sum := "24ef9e30b4c99d356749a98c631513d6ea4f37cc5ba346a30954b5000d691f13", func := "bartizan/bartizanlaw42.FeePicks", spec := "feePicks", inPlace := ["internal/bytealg.Compare"], unfollowed := true, recurses := true, plainKeys := false, apart := false, narrowed := true }
def FeePicksUptoSaid : Prop := feePicksUptoRow.holds Try.pinned (OpenSpec.upto feePicksSpec)

/-- 'bartizanlaw26.BookBytes', WHERE WHAT IT READS IS OF BULK AT MOST 1048576: true; the input reads as it did. -/
def bookBytesUptoRow : OpenClaim := { program := "ytdgdigliepncpaa", sum := "24ef9e30b4c99d356749a98c631513d6ea4f37cc5ba346a30954b5000d691f13", func := "bartizan/bartizanlaw26.BookBytes", spec := "bookBytes", unfollowed := true, recurses := true, plainKeys := false, apart := false, narrowed := true }
def BookBytesUptoSaid : Prop := bookBytesUptoRow.holds Try.pinned (OpenSpec.upto bookBytesSpec)

/-- 'bartizanlaw42.FeeSends', WHERE WHAT IT READS IS OF BULK AT MOST 1048576: true; the input reads as it did. -/
def feeSendsUptoRow : OpenClaim := { program := "ytdgdigliepncpaa", sum := "24ef9e30b4c99d356749a98c631513d6ea4f37cc5ba346a30954b5000d691f13", func := "bartizan/bartizanlaw42.FeeSends", spec := "feeSends", inPlace := ["internal/bytealg.Compare"], unfollowed := true, recurses := true, plainKeys := false, apart := false, narrowed := true }
def FeeSendsUptoSaid : Prop := feeSendsUptoRow.holds Try.pinned (OpenSpec.upto feeSendsSpec)

/-- 'bartizanlaw26.BookRecords', WHERE WHAT IT READS IS OF BULK AT MOST 1048576: true; the input reads as it did. -/
def bookRecordsUptoRow : OpenClaim := { program := "ytdgdigliepncpaa", sum := "24ef9e30b4c99d356749a98c631513d6ea4f37cc5ba346a30954b5000d691f13", func := "bartizan/bartizanlaw26.BookRecords", spec := "bookRecords", unfollowed := true, recurses := true, plainKeys := false, apart := false, narrowed := true }
def BookRecordsUptoSaid : Prop := bookRecordsUptoRow.holds Try.pinned (OpenSpec.upto bookRecordsSpec)

/-- 'bartizanlaw26.BookNobody', WHERE WHAT IT READS IS OF BULK AT MOST 1048576: true; the input reads as it did. -/
def bookNobodyUptoRow : OpenClaim := { program := "ytdgdigliepncpaa", sum := "24ef9e30b4c99d356749a98c631513d6ea4f37cc5ba346a30954b5000d691f13", func := "bartizan/bartizanlaw26.BookNobody", spec := "bookNobody", inPlace := ["maps.clone"], unfollowed := true, recurses := true, plainKeys := false, apart := false, narrowed := true }
def BookNobodyUptoSaid : Prop := bookNobodyUptoRow.holds Try.pinned (OpenSpec.upto bookNobodySpec)

end Rows
end Go.Proofs.Ytdgdigliepncpaa
