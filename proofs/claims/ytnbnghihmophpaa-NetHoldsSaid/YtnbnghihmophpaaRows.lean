/-
  No cell of these rows narrows 'for every input' (looked for: loops, veiled, ifaces, maps, wideKeys, modest, calm, conditions, laid).
  DERIVED. THE GIVEN ROWS OF THIS SEAT. 14 by the template 'for every input the law returns true; each argument reads behind the call as it read before'; 0 by the template 'total and deterministic' (their statements: YtnbnghihmophpaaTotals.lean).
  GIVEN WITH THE SEED: the statements are not yours to turn. If you find one false, say at which input.
  Laid BY PROGRAM, IN A SANDBOX (cutbox-rows.mjs): the forced cells as the released guide's own fill.sh prints them over the translation 707fec48eed06d35… (all of the seat's roots in one cut). By AI agents, Wed Nov 11 2026. No macro, syntax, notation, axiom, sorry.
-/
import Derived.Test.YtnbnghihmophpaaChecked
import GoSem.Claim
import GoSem.ClaimJoined
import GoSem.ClaimMapViews
import Derived.JoinedTies
import Derived.KernelRfl
namespace Go.Proofs.Ytnbnghihmophpaa
/- THE CELL 'sum', in the pinned program and in every row, IS THE sha256 OF THE DUMP (.gsa) THAT YtnbnghihmophpaaProg.lean LOADS. Nothing in Lean hashes anything: it is a label: what it is worth is what the hold of that sum in a sandbox is worth. -/
noncomputable def Try.pinned : Pinned := { name := "ytnbnghihmophpaa", sum := "707fec48eed06d353379a4adbb4462e05aa01b4796b78132e175bfe013ad2eb3", checked := Try.checked }
namespace Rows
def none {H : Type} : Left H := { results := [], args := [] }

/-- 'octroilaw02.CrcSums': WHATEVER THE INPUT: true; the input reads as it did. -/
def crcSumsSpec : ChangeSpec := { name := "crcSums", fn := fun _ => fun
  | [d1, d2] => { results := [.lit (.bool true)], args := [d1, d2] }
  | _ => none }
def crcSumsRow : OpenClaim := { program := "ytnbnghihmophpaa", sum := "707fec48eed06d353379a4adbb4462e05aa01b4796b78132e175bfe013ad2eb3", func := "octroi/octroilaw02.CrcSums", spec := "crcSums", apart := false }
def CrcSumsSaid : Prop := crcSumsRow.holds Try.pinned (OpenSpec.ofChange crcSumsSpec)

/-- ITS FALSE NEIGHBOUR: 'it returns false'. Refute it at one input. -/
def crcSumsWrong : ChangeSpec := { name := "crcSums", fn := fun _ => fun
  | [d1, d2] => { results := [.lit (.bool false)], args := [d1, d2] }
  | _ => none }
def CrcSumsWrongFalsely : Prop := crcSumsRow.holds Try.pinned (OpenSpec.ofChange crcSumsWrong)

/-- 'octroilaw02.CrcOpens': WHATEVER THE INPUT: true; the input reads as it did. -/
def crcOpensSpec : ChangeSpec := { name := "crcOpens", fn := fun _ => fun
  | [d1, d2] => { results := [.lit (.bool true)], args := [d1, d2] }
  | _ => none }
def crcOpensRow : OpenClaim := { program := "ytnbnghihmophpaa", sum := "707fec48eed06d353379a4adbb4462e05aa01b4796b78132e175bfe013ad2eb3", func := "octroi/octroilaw02.CrcOpens", spec := "crcOpens", apart := false }
def CrcOpensSaid : Prop := crcOpensRow.holds Try.pinned (OpenSpec.ofChange crcOpensSpec)

/-- ITS FALSE NEIGHBOUR: 'it returns false'. Refute it at one input. -/
def crcOpensWrong : ChangeSpec := { name := "crcOpens", fn := fun _ => fun
  | [d1, d2] => { results := [.lit (.bool false)], args := [d1, d2] }
  | _ => none }
def CrcOpensWrongFalsely : Prop := crcOpensRow.holds Try.pinned (OpenSpec.ofChange crcOpensWrong)

/-- 'octroilaw02.CrcFinds': WHATEVER THE INPUT: true; the input reads as it did. -/
def crcFindsSpec : ChangeSpec := { name := "crcFinds", fn := fun _ => fun
  | [d1, d2, d3, d4] => { results := [.lit (.bool true)], args := [d1, d2, d3, d4] }
  | _ => none }
def crcFindsRow : OpenClaim := { program := "ytnbnghihmophpaa", sum := "707fec48eed06d353379a4adbb4462e05aa01b4796b78132e175bfe013ad2eb3", func := "octroi/octroilaw02.CrcFinds", spec := "crcFinds", apart := false }
def CrcFindsSaid : Prop := crcFindsRow.holds Try.pinned (OpenSpec.ofChange crcFindsSpec)

/-- ITS FALSE NEIGHBOUR: 'it returns false'. Refute it at one input. -/
def crcFindsWrong : ChangeSpec := { name := "crcFinds", fn := fun _ => fun
  | [d1, d2, d3, d4] => { results := [.lit (.bool false)], args := [d1, d2, d3, d4] }
  | _ => none }
def CrcFindsWrongFalsely : Prop := crcFindsRow.holds Try.pinned (OpenSpec.ofChange crcFindsWrong)

/-- 'octroilaw02.CrcKnown': WHATEVER THE INPUT: true; the input reads as it did. -/
def crcKnownSpec : ChangeSpec := { name := "crcKnown", fn := fun _ => fun
  | [] => { results := [.lit (.bool true)], args := [] }
  | _ => none }
def crcKnownRow : OpenClaim := { program := "ytnbnghihmophpaa", sum := "707fec48eed06d353379a4adbb4462e05aa01b4796b78132e175bfe013ad2eb3", func := "octroi/octroilaw02.CrcKnown", spec := "crcKnown", unfollowed := true, recurses := true, apart := false }
def CrcKnownSaid : Prop := crcKnownRow.holds Try.pinned (OpenSpec.ofChange crcKnownSpec)

/-- ITS FALSE NEIGHBOUR: 'it returns false'. Refute it at one input. -/
def crcKnownWrong : ChangeSpec := { name := "crcKnown", fn := fun _ => fun
  | [] => { results := [.lit (.bool false)], args := [] }
  | _ => none }
def CrcKnownWrongFalsely : Prop := crcKnownRow.holds Try.pinned (OpenSpec.ofChange crcKnownWrong)

/-- 'octroilaw14.EntryTorn': WHATEVER THE INPUT: true; the input reads as it did. -/
def entryTornSpec : ChangeSpec := { name := "entryTorn", fn := fun _ => fun
  | [d1, d2, d3] => { results := [.lit (.bool true)], args := [d1, d2, d3] }
  | _ => none }
def entryTornRow : OpenClaim := { program := "ytnbnghihmophpaa", sum := "707fec48eed06d353379a4adbb4462e05aa01b4796b78132e175bfe013ad2eb3", func := "octroi/octroilaw14.EntryTorn", spec := "entryTorn", unfollowed := true, recurses := true, apart := false }
def EntryTornSaid : Prop := entryTornRow.holds Try.pinned (OpenSpec.ofChange entryTornSpec)

/-- ITS FALSE NEIGHBOUR: 'it returns false'. Refute it at one input. -/
def entryTornWrong : ChangeSpec := { name := "entryTorn", fn := fun _ => fun
  | [d1, d2, d3] => { results := [.lit (.bool false)], args := [d1, d2, d3] }
  | _ => none }
def EntryTornWrongFalsely : Prop := entryTornRow.holds Try.pinned (OpenSpec.ofChange entryTornWrong)

/-- 'octroilaw14.EntryNext': WHATEVER THE INPUT: true; the input reads as it did. -/
def entryNextSpec : ChangeSpec := { name := "entryNext", fn := fun _ => fun
  | [d1, d2, d3] => { results := [.lit (.bool true)], args := [d1, d2, d3] }
  | _ => none }
def entryNextRow : OpenClaim := { program := "ytnbnghihmophpaa", sum := "707fec48eed06d353379a4adbb4462e05aa01b4796b78132e175bfe013ad2eb3", func := "octroi/octroilaw14.EntryNext", spec := "entryNext", unfollowed := true, recurses := true, apart := false }
def EntryNextSaid : Prop := entryNextRow.holds Try.pinned (OpenSpec.ofChange entryNextSpec)

/-- ITS FALSE NEIGHBOUR: 'it returns false'. Refute it at one input. -/
def entryNextWrong : ChangeSpec := { name := "entryNext", fn := fun _ => fun
  | [d1, d2, d3] => { results := [.lit (.bool false)], args := [d1, d2, d3] }
  | _ => none }
def EntryNextWrongFalsely : Prop := entryNextRow.holds Try.pinned (OpenSpec.ofChange entryNextWrong)

/-- 'octroilaw14.EntryPuts': WHATEVER THE INPUT: true; the input reads as it did. -/
def entryPutsSpec : ChangeSpec := { name := "entryPuts", fn := fun _ => fun
  | [d1, d2] => { results := [.lit (.bool true)], args := [d1, d2] }
  | _ => none }
def entryPutsRow : OpenClaim := { program := "ytnbnghihmophpaa", sum := "707fec48eed06d353379a4adbb4462e05aa01b4796b78132e175bfe013ad2eb3", func := "octroi/octroilaw14.EntryPuts", spec := "entryPuts", unfollowed := true, recurses := true, apart := false }
def EntryPutsSaid : Prop := entryPutsRow.holds Try.pinned (OpenSpec.ofChange entryPutsSpec)

/-- ITS FALSE NEIGHBOUR: 'it returns false'. Refute it at one input. -/
def entryPutsWrong : ChangeSpec := { name := "entryPuts", fn := fun _ => fun
  | [d1, d2] => { results := [.lit (.bool false)], args := [d1, d2] }
  | _ => none }
def EntryPutsWrongFalsely : Prop := entryPutsRow.holds Try.pinned (OpenSpec.ofChange entryPutsWrong)

/-- 'octroilaw14.EntryScans': WHATEVER THE INPUT: true; the input reads as it did. -/
def entryScansSpec : ChangeSpec := { name := "entryScans", fn := fun _ => fun
  | [d1, d2, d3, d4, d5] => { results := [.lit (.bool true)], args := [d1, d2, d3, d4, d5] }
  | _ => none }
def entryScansRow : OpenClaim := { program := "ytnbnghihmophpaa", sum := "707fec48eed06d353379a4adbb4462e05aa01b4796b78132e175bfe013ad2eb3", func := "octroi/octroilaw14.EntryScans", spec := "entryScans", unfollowed := true, recurses := true, apart := false }
def EntryScansSaid : Prop := entryScansRow.holds Try.pinned (OpenSpec.ofChange entryScansSpec)

/-- ITS FALSE NEIGHBOUR: 'it returns false'. Refute it at one input. -/
def entryScansWrong : ChangeSpec := { name := "entryScans", fn := fun _ => fun
  | [d1, d2, d3, d4, d5] => { results := [.lit (.bool false)], args := [d1, d2, d3, d4, d5] }
  | _ => none }
def EntryScansWrongFalsely : Prop := entryScansRow.holds Try.pinned (OpenSpec.ofChange entryScansWrong)

/-- 'octroilaw14.EntryReads': WHATEVER THE INPUT: true; the input reads as it did. -/
def entryReadsSpec : ChangeSpec := { name := "entryReads", fn := fun _ => fun
  | [d1, d2] => { results := [.lit (.bool true)], args := [d1, d2] }
  | _ => none }
def entryReadsRow : OpenClaim := { program := "ytnbnghihmophpaa", sum := "707fec48eed06d353379a4adbb4462e05aa01b4796b78132e175bfe013ad2eb3", func := "octroi/octroilaw14.EntryReads", spec := "entryReads", unfollowed := true, recurses := true, apart := false }
def EntryReadsSaid : Prop := entryReadsRow.holds Try.pinned (OpenSpec.ofChange entryReadsSpec)

/-- ITS FALSE NEIGHBOUR: 'it returns false'. Refute it at one input. -/
def entryReadsWrong : ChangeSpec := { name := "entryReads", fn := fun _ => fun
  | [d1, d2] => { results := [.lit (.bool false)], args := [d1, d2] }
  | _ => none }
def EntryReadsWrongFalsely : Prop := entryReadsRow.holds Try.pinned (OpenSpec.ofChange entryReadsWrong)

/-- 'octroilaw14.EntryKnown': WHATEVER THE INPUT: true; the input reads as it did. -/
def entryKnownSpec : ChangeSpec := { name := "entryKnown", fn := fun _ => fun
  | [] => { results := [.lit (.bool true)], args := [] }
  | _ => none }
def entryKnownRow : OpenClaim := { program := "ytnbnghihmophpaa", sum := "707fec48eed06d353379a4adbb4462e05aa01b4796b78132e175bfe013ad2eb3", func := "octroi/octroilaw14.EntryKnown", spec := "entryKnown", unfollowed := true, recurses := true, apart := false }
def EntryKnownSaid : Prop := entryKnownRow.holds Try.pinned (OpenSpec.ofChange entryKnownSpec)

/-- ITS FALSE NEIGHBOUR: 'it returns false'. Refute it at one input. -/
def entryKnownWrong : ChangeSpec := { name := "entryKnown", fn := fun _ => fun
  | [] => { results := [.lit (.bool false)], args := [] }
  | _ => none }
def EntryKnownWrongFalsely : Prop := entryKnownRow.holds Try.pinned (OpenSpec.ofChange entryKnownWrong)

/-- 'octroilaw27.NetPlays': WHATEVER THE INPUT: true; the input reads as it did. -/
def netPlaysSpec : ChangeSpec := { name := "netPlays", fn := fun _ => fun
  | [d1, d2] => { results := [.lit (.bool true)], args := [d1, d2] }
  | _ => none }
def netPlaysRow : OpenClaim := { program := "ytnbnghihmophpaa", sum := "707fec48eed06d353379a4adbb4462e05aa01b4796b78132e175bfe013ad2eb3", func := "octroi/octroilaw27.NetPlays", spec := "netPlays", inPlace := ["slices.overlaps[octroi/net.datagram]", "sync/atomic.LoadUint64", "sync/atomic.StoreUint64"], unfollowed := true, recurses := true, apart := false }
def NetPlaysSaid : Prop := netPlaysRow.holds Try.pinned (OpenSpec.ofChange netPlaysSpec)

/-- ITS FALSE NEIGHBOUR: 'it returns false'. Refute it at one input. -/
def netPlaysWrong : ChangeSpec := { name := "netPlays", fn := fun _ => fun
  | [d1, d2] => { results := [.lit (.bool false)], args := [d1, d2] }
  | _ => none }
def NetPlaysWrongFalsely : Prop := netPlaysRow.holds Try.pinned (OpenSpec.ofChange netPlaysWrong)

/-- 'octroilaw27.NetHolds': WHATEVER THE INPUT: true; the input reads as it did. -/
def netHoldsSpec : ChangeSpec := { name := "netHolds", fn := fun _ => fun
  | [d1, d2] => { results := [.lit (.bool true)], args := [d1, d2] }
  | _ => none }
def netHoldsRow : OpenClaim := { program := "ytnbnghihmophpaa", sum := "707fec48eed06d353379a4adbb4462e05aa01b4796b78132e175bfe013ad2eb3", func := "octroi/octroilaw27.NetHolds", spec := "netHolds", inPlace := ["slices.overlaps[octroi/net.datagram]", "sync/atomic.LoadUint64", "sync/atomic.StoreUint64"], unfollowed := true, recurses := true, apart := false }
def NetHoldsSaid : Prop := netHoldsRow.holds Try.pinned (OpenSpec.ofChange netHoldsSpec)

/-- ITS FALSE NEIGHBOUR: 'it returns false'. Refute it at one input. -/
def netHoldsWrong : ChangeSpec := { name := "netHolds", fn := fun _ => fun
  | [d1, d2] => { results := [.lit (.bool false)], args := [d1, d2] }
  | _ => none }
def NetHoldsWrongFalsely : Prop := netHoldsRow.holds Try.pinned (OpenSpec.ofChange netHoldsWrong)

/-- 'octroilaw27.NetNone': WHATEVER THE INPUT: true; the input reads as it did. -/
def netNoneSpec : ChangeSpec := { name := "netNone", fn := fun _ => fun
  | [d] => { results := [.lit (.bool true)], args := [d] }
  | _ => none }
def netNoneRow : OpenClaim := { program := "ytnbnghihmophpaa", sum := "707fec48eed06d353379a4adbb4462e05aa01b4796b78132e175bfe013ad2eb3", func := "octroi/octroilaw27.NetNone", spec := "netNone", inPlace := ["slices.overlaps[octroi/net.datagram]", "sync/atomic.LoadUint64", "sync/atomic.StoreUint64"], unfollowed := true, recurses := true, apart := false }
def NetNoneSaid : Prop := netNoneRow.holds Try.pinned (OpenSpec.ofChange netNoneSpec)

/-- ITS FALSE NEIGHBOUR: 'it returns false'. Refute it at one input. -/
def netNoneWrong : ChangeSpec := { name := "netNone", fn := fun _ => fun
  | [d] => { results := [.lit (.bool false)], args := [d] }
  | _ => none }
def NetNoneWrongFalsely : Prop := netNoneRow.holds Try.pinned (OpenSpec.ofChange netNoneWrong)

/-- 'octroilaw27.NetKnown': WHATEVER THE INPUT: true; the input reads as it did. -/
def netKnownSpec : ChangeSpec := { name := "netKnown", fn := fun _ => fun
  | [] => { results := [.lit (.bool true)], args := [] }
  | _ => none }
def netKnownRow : OpenClaim := { program := "ytnbnghihmophpaa", sum := "707fec48eed06d353379a4adbb4462e05aa01b4796b78132e175bfe013ad2eb3", func := "octroi/octroilaw27.NetKnown", spec := "netKnown", inPlace := ["slices.overlaps[octroi/net.datagram]", "sync/atomic.LoadUint64", "sync/atomic.StoreUint64"], unfollowed := true, recurses := true, apart := false }
def NetKnownSaid : Prop := netKnownRow.holds Try.pinned (OpenSpec.ofChange netKnownSpec)

/-- ITS FALSE NEIGHBOUR: 'it returns false'. Refute it at one input. -/
def netKnownWrong : ChangeSpec := { name := "netKnown", fn := fun _ => fun
  | [] => { results := [.lit (.bool false)], args := [] }
  | _ => none }
def NetKnownWrongFalsely : Prop := netKnownRow.holds Try.pinned (OpenSpec.ofChange netKnownWrong)

/- THE SECOND FORM. 'bulk': how many values and letters a reading holds, each counted each time it is reached (what is shared counts as often as it is met; a slice's spare places count too). A statement '..UptoSaid' is the law's where the arguments, and the package variables that the reading takes, are together of bulk at most 1048576: NARROWER than '..Said'. Prove '..Said' where nothing that the law and all that it calls make is longer than what came in: it says more and counts as full. Else prove '..UptoSaid'. A law counts once. -/
mutual
def uptoBulk {H : Type} : DataW H → Nat
  | .lit (.string bytes) => bytes.length + 1
  | .lit _ => 1
  | .nil => 1
  | .ptr d => uptoBulk d + 1
  | .slice elems spare => uptoBulkAll elems + uptoBulkAll spare + 1
  | .agg parts => uptoBulkAll parts + 1
  | .iface _ d => uptoBulk d + 1
  | .map entries => uptoBulkEntries entries + 1
  | .held _ => 1
def uptoBulkAll {H : Type} : List (DataW H) → Nat
  | [] => 0
  | d :: r => uptoBulk d + uptoBulkAll r
def uptoBulkEntries {H : Type} : List (Lit × DataW H) → Nat
  | [] => 0
  | x :: r => uptoBulkEntry x + uptoBulkEntries r
def uptoBulkEntry {H : Type} : Lit × DataW H → Nat
  | (.string bytes, d) => bytes.length + uptoBulk d + 1
  | (_, d) => uptoBulk d + 1
 end
def uptoSmall : (H : Type) → List (DataW H) → Bool := fun _ ds => decide (uptoBulkAll ds ≤ 1048576)
def OpenSpec.upto (s : _root_.Go.ChangeSpec) : _root_.Go.OpenSpec := { _root_.Go.OpenSpec.ofChange s with cond := some uptoSmall }

/-- 'octroilaw02.CrcSums', WHERE WHAT IT READS IS OF BULK AT MOST 1048576: true; the input reads as it did. -/
def crcSumsUptoRow : OpenClaim := { program := "ytnbnghihmophpaa", sum := "707fec48eed06d353379a4adbb4462e05aa01b4796b78132e175bfe013ad2eb3", func := "octroi/octroilaw02.CrcSums", spec := "crcSums", apart := false, narrowed := true }
def CrcSumsUptoSaid : Prop := crcSumsUptoRow.holds Try.pinned (OpenSpec.upto crcSumsSpec)

/-- 'octroilaw02.CrcOpens', WHERE WHAT IT READS IS OF BULK AT MOST 1048576: true; the input reads as it did. -/
def crcOpensUptoRow : OpenClaim := { program := "ytnbnghihmophpaa", sum := "707fec48eed06d353379a4adbb4462e05aa01b4796b78132e175bfe013ad2eb3", func := "octroi/octroilaw02.CrcOpens", spec := "crcOpens", apart := false, narrowed := true }
def CrcOpensUptoSaid : Prop := crcOpensUptoRow.holds Try.pinned (OpenSpec.upto crcOpensSpec)

/-- 'octroilaw02.CrcFinds', WHERE WHAT IT READS IS OF BULK AT MOST 1048576: true; the input reads as it did. -/
def crcFindsUptoRow : OpenClaim := { program := "ytnbnghihmophpaa", sum := "707fec48eed06d353379a4adbb4462e05aa01b4796b78132e175bfe013ad2eb3", func := "octroi/octroilaw02.CrcFinds", spec := "crcFinds", apart := false, narrowed := true }
def CrcFindsUptoSaid : Prop := crcFindsUptoRow.holds Try.pinned (OpenSpec.upto crcFindsSpec)

/-- 'octroilaw02.CrcKnown', WHERE WHAT IT READS IS OF BULK AT MOST 1048576: true; the input reads as it did. -/
def crcKnownUptoRow : OpenClaim := { program := "ytnbnghihmophpaa", sum := "707fec48eed06d353379a4adbb4462e05aa01b4796b78132e175bfe013ad2eb3", func := "octroi/octroilaw02.CrcKnown", spec := "crcKnown", unfollowed := true, recurses := true, apart := false, narrowed := true }
def CrcKnownUptoSaid : Prop := crcKnownUptoRow.holds Try.pinned (OpenSpec.upto crcKnownSpec)

/-- 'octroilaw14.EntryTorn', WHERE WHAT IT READS IS OF BULK AT MOST 1048576: true; the input reads as it did. -/
def entryTornUptoRow : OpenClaim := { program := "ytnbnghihmophpaa", sum := "707fec48eed06d353379a4adbb4462e05aa01b4796b78132e175bfe013ad2eb3", func := "octroi/octroilaw14.EntryTorn", spec := "entryTorn", unfollowed := true, recurses := true, apart := false, narrowed := true }
def EntryTornUptoSaid : Prop := entryTornUptoRow.holds Try.pinned (OpenSpec.upto entryTornSpec)

/-- 'octroilaw14.EntryNext', WHERE WHAT IT READS IS OF BULK AT MOST 1048576: true; the input reads as it did. -/
def entryNextUptoRow : OpenClaim := { program := "ytnbnghihmophpaa", sum := "707fec48eed06d353379a4adbb4462e05aa01b4796b78132e175bfe013ad2eb3", func := "octroi/octroilaw14.EntryNext", spec := "entryNext", unfollowed := true, recurses := true, apart := false, narrowed := true }
def EntryNextUptoSaid : Prop := entryNextUptoRow.holds Try.pinned (OpenSpec.upto entryNextSpec)

/-- 'octroilaw14.EntryPuts', WHERE WHAT IT READS IS OF BULK AT MOST 1048576: true; the input reads as it did. -/
def entryPutsUptoRow : OpenClaim := { program := "ytnbnghihmophpaa", sum := "707fec48eed06d353379a4adbb4462e05aa01b4796b78132e175bfe013ad2eb3", func := "octroi/octroilaw14.EntryPuts", spec := "entryPuts", unfollowed := true, recurses := true, apart := false, narrowed := true }
def EntryPutsUptoSaid : Prop := entryPutsUptoRow.holds Try.pinned (OpenSpec.upto entryPutsSpec)

/-- 'octroilaw14.EntryScans', WHERE WHAT IT READS IS OF BULK AT MOST 1048576: true; the input reads as it did. -/
def entryScansUptoRow : OpenClaim := { program := "ytnbnghihmophpaa", sum := "707fec48eed06d353379a4adbb4462e05aa01b4796b78132e175bfe013ad2eb3", func := "octroi/octroilaw14.EntryScans", spec := "entryScans", unfollowed := true, recurses := true, apart := false, narrowed := true }
def EntryScansUptoSaid : Prop := entryScansUptoRow.holds Try.pinned (OpenSpec.upto entryScansSpec)

/-- 'octroilaw14.EntryReads', WHERE WHAT IT READS IS OF BULK AT MOST 1048576: true; the input reads as it did. -/
def entryReadsUptoRow : OpenClaim := { program := "ytnbnghihmophpaa", sum := "707fec48eed06d353379a4adbb4462e05aa01b4796b78132e175bfe013ad2eb3", func := "octroi/octroilaw14.EntryReads", spec := "entryReads", unfollowed := true, recurses := true, apart := false, narrowed := true }
def EntryReadsUptoSaid : Prop := entryReadsUptoRow.holds Try.pinned (OpenSpec.upto entryReadsSpec)

/-- 'octroilaw14.EntryKnown', WHERE WHAT IT READS IS OF BULK AT MOST 1048576: true; the input reads as it did. -/
def entryKnownUptoRow : OpenClaim := { program := "ytnbnghihmophpaa", sum := "707fec48eed06d353379a4adbb4462e05aa01b4796b78132e175bfe013ad2eb3", func := "octroi/octroilaw14.EntryKnown", spec := "entryKnown", unfollowed := true, recurses := true, apart := false, narrowed := true }
def EntryKnownUptoSaid : Prop := entryKnownUptoRow.holds Try.pinned (OpenSpec.upto entryKnownSpec)

/-- 'octroilaw27.NetPlays', WHERE WHAT IT READS IS OF BULK AT MOST 1048576: true; the input reads as it did. -/
def netPlaysUptoRow : OpenClaim := { program := "ytnbnghihmophpaa", sum := "707fec48eed06d353379a4adbb4462e05aa01b4796b78132e175bfe013ad2eb3", func := "octroi/octroilaw27.NetPlays", spec := "netPlays", inPlace := ["slices.overlaps[octroi/net.datagram]", "sync/atomic.LoadUint64", "sync/atomic.StoreUint64"], unfollowed := true, recurses := true, apart := false, narrowed := true }
def NetPlaysUptoSaid : Prop := netPlaysUptoRow.holds Try.pinned (OpenSpec.upto netPlaysSpec)

/-- 'octroilaw27.NetHolds', WHERE WHAT IT READS IS OF BULK AT MOST 1048576: true; the input reads as it did. -/
def netHoldsUptoRow : OpenClaim := { program := "ytnbnghihmophpaa", sum := "707fec48eed06d353379a4adbb4462e05aa01b4796b78132e175bfe013ad2eb3", func := "octroi/octroilaw27.NetHolds", spec := "netHolds", inPlace := ["slices.overlaps[octroi/net.datagram]", "sync/atomic.LoadUint64", "sync/atomic.StoreUint64"], unfollowed := true, recurses := true, apart := false, narrowed := true }
def NetHoldsUptoSaid : Prop := netHoldsUptoRow.holds Try.pinned (OpenSpec.upto netHoldsSpec)

/-- 'octroilaw27.NetNone', WHERE WHAT IT READS IS OF BULK AT MOST 1048576: true; the input reads as it did. -/
def netNoneUptoRow : OpenClaim := { program := "ytnbnghihmophpaa", sum := "707fec48eed06d353379a4adbb4462e05aa01b4796b78132e175bfe013ad2eb3", func := "octroi/octroilaw27.NetNone", spec := "netNone", inPlace := ["slices.overlaps[octroi/net.datagram]", "sync/atomic.LoadUint64", "sync/atomic.StoreUint64"], unfollowed := true, recurses := true, apart := false, narrowed := true }
def NetNoneUptoSaid : Prop := netNoneUptoRow.holds Try.pinned (OpenSpec.upto netNoneSpec)

/-- 'octroilaw27.NetKnown', WHERE WHAT IT READS IS OF BULK AT MOST 1048576: true; the input reads as it did. -/
def netKnownUptoRow : OpenClaim := { program := "ytnbnghihmophpaa", sum := "707fec48eed06d353379a4adbb4462e05aa01b4796b78132e175bfe013ad2eb3", func := "octroi/octroilaw27.NetKnown", spec := "netKnown", inPlace := ["slices.overlaps[octroi/net.datagram]", "sync/atomic.LoadUint64", "sync/atomic.StoreUint64"], unfollowed := true, recurses := true, apart := false, narrowed := true }
def NetKnownUptoSaid : Prop := netKnownUptoRow.holds Try.pinned (OpenSpec.upto netKnownSpec)

end Rows
end Go.Proofs.Ytnbnghihmophpaa
