/-
  No cell of these rows narrows 'for every input' (looked for: loops, veiled, ifaces, maps, wideKeys, modest, calm, conditions, laid).
  DERIVED. THE GIVEN ROWS OF THIS SEAT. 19 by the template 'for every input the law returns true; each argument reads behind the call as it read before'; 0 by the template 'total and deterministic' (their statements: YtaopjdjbpamhhaaTotals.lean).
  GIVEN WITH THE SEED: the statements are not yours to turn. If you find one false, say at which input.
  Laid BY PROGRAM, IN A SANDBOX (cutbox-rows.mjs): the forced cells as the released guide's own fill.sh prints them over the translation 488db6eb9d0ae757… (all of the seat's roots in one cut). By AI agents, Wed Nov 11 2026. No macro, syntax, notation, axiom, sorry.
-/
import Derived.Test.YtaopjdjbpamhhaaChecked
import GoSem.Claim
import GoSem.ClaimJoined
import GoSem.ClaimMapViews
import Derived.JoinedTies
import Derived.KernelRfl
namespace Go.Proofs.Ytaopjdjbpamhhaa
/- THE CELL 'sum', in the pinned program and in every row, IS THE sha256 OF THE DUMP (.gsa) THAT YtaopjdjbpamhhaaProg.lean LOADS. Nothing in Lean hashes anything: it is a label: what it is worth is what the hold of that sum in a sandbox is worth. -/
noncomputable def Try.pinned : Pinned := { name := "ytaopjdjbpamhhaa", sum := "488db6eb9d0ae757134ac748fb0a1bc8c586a45db59593ec13ddaa2231abde7e", checked := Try.checked }
namespace Rows
def none {H : Type} : Left H := { results := [], args := [] }

/-- 'amnestylaw01.SlotsBack': WHATEVER THE INPUT: true; the input reads as it did. -/
def slotsBackSpec : ChangeSpec := { name := "slotsBack", fn := fun _ => fun
  | [d1, d2, d3] => { results := [.lit (.bool true)], args := [d1, d2, d3] }
  | _ => none }
def slotsBackRow : OpenClaim := { program := "ytaopjdjbpamhhaa", sum := "488db6eb9d0ae757134ac748fb0a1bc8c586a45db59593ec13ddaa2231abde7e", func := "amnesty/amnestylaw01.SlotsBack", spec := "slotsBack", inPlace := ["internal/bytealg.Compare"], unfollowed := true, recurses := true, apart := false }
def SlotsBackSaid : Prop := slotsBackRow.holds Try.pinned (OpenSpec.ofChange slotsBackSpec)

/-- ITS FALSE NEIGHBOUR: 'it returns false'. Refute it at one input. -/
def slotsBackWrong : ChangeSpec := { name := "slotsBack", fn := fun _ => fun
  | [d1, d2, d3] => { results := [.lit (.bool false)], args := [d1, d2, d3] }
  | _ => none }
def SlotsBackWrongFalsely : Prop := slotsBackRow.holds Try.pinned (OpenSpec.ofChange slotsBackWrong)

/-- 'amnestylaw01.SlotsCalls': WHATEVER THE INPUT: true; the input reads as it did. -/
def slotsCallsSpec : ChangeSpec := { name := "slotsCalls", fn := fun _ => fun
  | [d1, d2] => { results := [.lit (.bool true)], args := [d1, d2] }
  | _ => none }
def slotsCallsRow : OpenClaim := { program := "ytaopjdjbpamhhaa", sum := "488db6eb9d0ae757134ac748fb0a1bc8c586a45db59593ec13ddaa2231abde7e", func := "amnesty/amnestylaw01.SlotsCalls", spec := "slotsCalls", inPlace := ["internal/bytealg.Compare"], unfollowed := true, recurses := true, apart := false }
def SlotsCallsSaid : Prop := slotsCallsRow.holds Try.pinned (OpenSpec.ofChange slotsCallsSpec)

/-- ITS FALSE NEIGHBOUR: 'it returns false'. Refute it at one input. -/
def slotsCallsWrong : ChangeSpec := { name := "slotsCalls", fn := fun _ => fun
  | [d1, d2] => { results := [.lit (.bool false)], args := [d1, d2] }
  | _ => none }
def SlotsCallsWrongFalsely : Prop := slotsCallsRow.holds Try.pinned (OpenSpec.ofChange slotsCallsWrong)

/-- 'amnestylaw01.SlotsCoin': WHATEVER THE INPUT: true; the input reads as it did. -/
def slotsCoinSpec : ChangeSpec := { name := "slotsCoin", fn := fun _ => fun
  | [d1, d2, d3] => { results := [.lit (.bool true)], args := [d1, d2, d3] }
  | _ => none }
def slotsCoinRow : OpenClaim := { program := "ytaopjdjbpamhhaa", sum := "488db6eb9d0ae757134ac748fb0a1bc8c586a45db59593ec13ddaa2231abde7e", func := "amnesty/amnestylaw01.SlotsCoin", spec := "slotsCoin", apart := false }
def SlotsCoinSaid : Prop := slotsCoinRow.holds Try.pinned (OpenSpec.ofChange slotsCoinSpec)

/-- ITS FALSE NEIGHBOUR: 'it returns false'. Refute it at one input. -/
def slotsCoinWrong : ChangeSpec := { name := "slotsCoin", fn := fun _ => fun
  | [d1, d2, d3] => { results := [.lit (.bool false)], args := [d1, d2, d3] }
  | _ => none }
def SlotsCoinWrongFalsely : Prop := slotsCoinRow.holds Try.pinned (OpenSpec.ofChange slotsCoinWrong)

/-- 'amnestylaw01.SlotsForgets': WHATEVER THE INPUT: true; the input reads as it did. -/
def slotsForgetsSpec : ChangeSpec := { name := "slotsForgets", fn := fun _ => fun
  | [d1, d2, d3] => { results := [.lit (.bool true)], args := [d1, d2, d3] }
  | _ => none }
def slotsForgetsRow : OpenClaim := { program := "ytaopjdjbpamhhaa", sum := "488db6eb9d0ae757134ac748fb0a1bc8c586a45db59593ec13ddaa2231abde7e", func := "amnesty/amnestylaw01.SlotsForgets", spec := "slotsForgets", inPlace := ["internal/bytealg.Compare"], unfollowed := true, recurses := true, apart := false }
def SlotsForgetsSaid : Prop := slotsForgetsRow.holds Try.pinned (OpenSpec.ofChange slotsForgetsSpec)

/-- ITS FALSE NEIGHBOUR: 'it returns false'. Refute it at one input. -/
def slotsForgetsWrong : ChangeSpec := { name := "slotsForgets", fn := fun _ => fun
  | [d1, d2, d3] => { results := [.lit (.bool false)], args := [d1, d2, d3] }
  | _ => none }
def SlotsForgetsWrongFalsely : Prop := slotsForgetsRow.holds Try.pinned (OpenSpec.ofChange slotsForgetsWrong)

/-- 'amnestylaw01.SlotsLays': WHATEVER THE INPUT: true; the input reads as it did. -/
def slotsLaysSpec : ChangeSpec := { name := "slotsLays", fn := fun _ => fun
  | [d1, d2, d3] => { results := [.lit (.bool true)], args := [d1, d2, d3] }
  | _ => none }
def slotsLaysRow : OpenClaim := { program := "ytaopjdjbpamhhaa", sum := "488db6eb9d0ae757134ac748fb0a1bc8c586a45db59593ec13ddaa2231abde7e", func := "amnesty/amnestylaw01.SlotsLays", spec := "slotsLays", inPlace := ["internal/bytealg.Compare"], unfollowed := true, recurses := true, apart := false }
def SlotsLaysSaid : Prop := slotsLaysRow.holds Try.pinned (OpenSpec.ofChange slotsLaysSpec)

/-- ITS FALSE NEIGHBOUR: 'it returns false'. Refute it at one input. -/
def slotsLaysWrong : ChangeSpec := { name := "slotsLays", fn := fun _ => fun
  | [d1, d2, d3] => { results := [.lit (.bool false)], args := [d1, d2, d3] }
  | _ => none }
def SlotsLaysWrongFalsely : Prop := slotsLaysRow.holds Try.pinned (OpenSpec.ofChange slotsLaysWrong)

/-- 'amnestylaw01.SlotsLoads': WHATEVER THE INPUT: true; the input reads as it did. -/
def slotsLoadsSpec : ChangeSpec := { name := "slotsLoads", fn := fun _ => fun
  | [d1, d2] => { results := [.lit (.bool true)], args := [d1, d2] }
  | _ => none }
def slotsLoadsRow : OpenClaim := { program := "ytaopjdjbpamhhaa", sum := "488db6eb9d0ae757134ac748fb0a1bc8c586a45db59593ec13ddaa2231abde7e", func := "amnesty/amnestylaw01.SlotsLoads", spec := "slotsLoads", inPlace := ["internal/bytealg.Compare"], unfollowed := true, recurses := true, apart := false }
def SlotsLoadsSaid : Prop := slotsLoadsRow.holds Try.pinned (OpenSpec.ofChange slotsLoadsSpec)

/-- ITS FALSE NEIGHBOUR: 'it returns false'. Refute it at one input. -/
def slotsLoadsWrong : ChangeSpec := { name := "slotsLoads", fn := fun _ => fun
  | [d1, d2] => { results := [.lit (.bool false)], args := [d1, d2] }
  | _ => none }
def SlotsLoadsWrongFalsely : Prop := slotsLoadsRow.holds Try.pinned (OpenSpec.ofChange slotsLoadsWrong)

/-- 'amnestylaw01.SlotsOneLayout': WHATEVER THE INPUT: true; the input reads as it did. -/
def slotsOneLayoutSpec : ChangeSpec := { name := "slotsOneLayout", fn := fun _ => fun
  | [d1, d2, d3] => { results := [.lit (.bool true)], args := [d1, d2, d3] }
  | _ => none }
def slotsOneLayoutRow : OpenClaim := { program := "ytaopjdjbpamhhaa", sum := "488db6eb9d0ae757134ac748fb0a1bc8c586a45db59593ec13ddaa2231abde7e", func := "amnesty/amnestylaw01.SlotsOneLayout", spec := "slotsOneLayout", inPlace := ["internal/bytealg.Compare"], unfollowed := true, recurses := true, apart := false }
def SlotsOneLayoutSaid : Prop := slotsOneLayoutRow.holds Try.pinned (OpenSpec.ofChange slotsOneLayoutSpec)

/-- ITS FALSE NEIGHBOUR: 'it returns false'. Refute it at one input. -/
def slotsOneLayoutWrong : ChangeSpec := { name := "slotsOneLayout", fn := fun _ => fun
  | [d1, d2, d3] => { results := [.lit (.bool false)], args := [d1, d2, d3] }
  | _ => none }
def SlotsOneLayoutWrongFalsely : Prop := slotsOneLayoutRow.holds Try.pinned (OpenSpec.ofChange slotsOneLayoutWrong)

/-- 'amnestylaw01.SlotsPlays': WHATEVER THE INPUT: true; the input reads as it did. -/
def slotsPlaysSpec : ChangeSpec := { name := "slotsPlays", fn := fun _ => fun
  | [d1, d2, d3] => { results := [.lit (.bool true)], args := [d1, d2, d3] }
  | _ => none }
def slotsPlaysRow : OpenClaim := { program := "ytaopjdjbpamhhaa", sum := "488db6eb9d0ae757134ac748fb0a1bc8c586a45db59593ec13ddaa2231abde7e", func := "amnesty/amnestylaw01.SlotsPlays", spec := "slotsPlays", inPlace := ["internal/bytealg.Compare"], unfollowed := true, recurses := true, apart := false }
def SlotsPlaysSaid : Prop := slotsPlaysRow.holds Try.pinned (OpenSpec.ofChange slotsPlaysSpec)

/-- ITS FALSE NEIGHBOUR: 'it returns false'. Refute it at one input. -/
def slotsPlaysWrong : ChangeSpec := { name := "slotsPlays", fn := fun _ => fun
  | [d1, d2, d3] => { results := [.lit (.bool false)], args := [d1, d2, d3] }
  | _ => none }
def SlotsPlaysWrongFalsely : Prop := slotsPlaysRow.holds Try.pinned (OpenSpec.ofChange slotsPlaysWrong)

/-- 'amnestylaw01.SlotsRuns': WHATEVER THE INPUT: true; the input reads as it did. -/
def slotsRunsSpec : ChangeSpec := { name := "slotsRuns", fn := fun _ => fun
  | [d1, d2] => { results := [.lit (.bool true)], args := [d1, d2] }
  | _ => none }
def slotsRunsRow : OpenClaim := { program := "ytaopjdjbpamhhaa", sum := "488db6eb9d0ae757134ac748fb0a1bc8c586a45db59593ec13ddaa2231abde7e", func := "amnesty/amnestylaw01.SlotsRuns", spec := "slotsRuns", inPlace := ["internal/bytealg.Compare"], unfollowed := true, recurses := true, apart := false }
def SlotsRunsSaid : Prop := slotsRunsRow.holds Try.pinned (OpenSpec.ofChange slotsRunsSpec)

/-- ITS FALSE NEIGHBOUR: 'it returns false'. Refute it at one input. -/
def slotsRunsWrong : ChangeSpec := { name := "slotsRuns", fn := fun _ => fun
  | [d1, d2] => { results := [.lit (.bool false)], args := [d1, d2] }
  | _ => none }
def SlotsRunsWrongFalsely : Prop := slotsRunsRow.holds Try.pinned (OpenSpec.ofChange slotsRunsWrong)

/-- 'amnestylaw01.SlotsSeeks': WHATEVER THE INPUT: true; the input reads as it did. -/
def slotsSeeksSpec : ChangeSpec := { name := "slotsSeeks", fn := fun _ => fun
  | [d1, d2, d3] => { results := [.lit (.bool true)], args := [d1, d2, d3] }
  | _ => none }
def slotsSeeksRow : OpenClaim := { program := "ytaopjdjbpamhhaa", sum := "488db6eb9d0ae757134ac748fb0a1bc8c586a45db59593ec13ddaa2231abde7e", func := "amnesty/amnestylaw01.SlotsSeeks", spec := "slotsSeeks", inPlace := ["internal/bytealg.Compare"], unfollowed := true, recurses := true, apart := false }
def SlotsSeeksSaid : Prop := slotsSeeksRow.holds Try.pinned (OpenSpec.ofChange slotsSeeksSpec)

/-- ITS FALSE NEIGHBOUR: 'it returns false'. Refute it at one input. -/
def slotsSeeksWrong : ChangeSpec := { name := "slotsSeeks", fn := fun _ => fun
  | [d1, d2, d3] => { results := [.lit (.bool false)], args := [d1, d2, d3] }
  | _ => none }
def SlotsSeeksWrongFalsely : Prop := slotsSeeksRow.holds Try.pinned (OpenSpec.ofChange slotsSeeksWrong)

/-- 'amnestylaw07.SwapChain': WHATEVER THE INPUT: true; the input reads as it did. -/
def swapChainSpec : ChangeSpec := { name := "swapChain", fn := fun _ => fun
  | [d1, d2, d3, d4] => { results := [.lit (.bool true)], args := [d1, d2, d3, d4] }
  | _ => none }
def swapChainRow : OpenClaim := { program := "ytaopjdjbpamhhaa", sum := "488db6eb9d0ae757134ac748fb0a1bc8c586a45db59593ec13ddaa2231abde7e", func := "amnesty/amnestylaw07.SwapChain", spec := "swapChain", inPlace := ["internal/bytealg.Compare", "internal/bytealg.MakeNoZero"], unfollowed := true, recurses := true, apart := false }
def SwapChainSaid : Prop := swapChainRow.holds Try.pinned (OpenSpec.ofChange swapChainSpec)

/-- ITS FALSE NEIGHBOUR: 'it returns false'. Refute it at one input. -/
def swapChainWrong : ChangeSpec := { name := "swapChain", fn := fun _ => fun
  | [d1, d2, d3, d4] => { results := [.lit (.bool false)], args := [d1, d2, d3, d4] }
  | _ => none }
def SwapChainWrongFalsely : Prop := swapChainRow.holds Try.pinned (OpenSpec.ofChange swapChainWrong)

/-- 'amnestylaw07.SwapEqual': WHATEVER THE INPUT: true; the input reads as it did. -/
def swapEqualSpec : ChangeSpec := { name := "swapEqual", fn := fun _ => fun
  | [d1, d2, d3] => { results := [.lit (.bool true)], args := [d1, d2, d3] }
  | _ => none }
def swapEqualRow : OpenClaim := { program := "ytaopjdjbpamhhaa", sum := "488db6eb9d0ae757134ac748fb0a1bc8c586a45db59593ec13ddaa2231abde7e", func := "amnesty/amnestylaw07.SwapEqual", spec := "swapEqual", inPlace := ["internal/bytealg.Compare", "internal/bytealg.MakeNoZero"], unfollowed := true, recurses := true, apart := false }
def SwapEqualSaid : Prop := swapEqualRow.holds Try.pinned (OpenSpec.ofChange swapEqualSpec)

/-- ITS FALSE NEIGHBOUR: 'it returns false'. Refute it at one input. -/
def swapEqualWrong : ChangeSpec := { name := "swapEqual", fn := fun _ => fun
  | [d1, d2, d3] => { results := [.lit (.bool false)], args := [d1, d2, d3] }
  | _ => none }
def SwapEqualWrongFalsely : Prop := swapEqualRow.holds Try.pinned (OpenSpec.ofChange swapEqualWrong)

/-- 'amnestylaw07.SwapFew': WHATEVER THE INPUT: true; the input reads as it did. -/
def swapFewSpec : ChangeSpec := { name := "swapFew", fn := fun _ => fun
  | [d1, d2, d3] => { results := [.lit (.bool true)], args := [d1, d2, d3] }
  | _ => none }
def swapFewRow : OpenClaim := { program := "ytaopjdjbpamhhaa", sum := "488db6eb9d0ae757134ac748fb0a1bc8c586a45db59593ec13ddaa2231abde7e", func := "amnesty/amnestylaw07.SwapFew", spec := "swapFew", inPlace := ["internal/bytealg.Compare"], unfollowed := true, recurses := true, apart := false }
def SwapFewSaid : Prop := swapFewRow.holds Try.pinned (OpenSpec.ofChange swapFewSpec)

/-- ITS FALSE NEIGHBOUR: 'it returns false'. Refute it at one input. -/
def swapFewWrong : ChangeSpec := { name := "swapFew", fn := fun _ => fun
  | [d1, d2, d3] => { results := [.lit (.bool false)], args := [d1, d2, d3] }
  | _ => none }
def SwapFewWrongFalsely : Prop := swapFewRow.holds Try.pinned (OpenSpec.ofChange swapFewWrong)

/-- 'amnestylaw07.SwapForgets': WHATEVER THE INPUT: true; the input reads as it did. -/
def swapForgetsSpec : ChangeSpec := { name := "swapForgets", fn := fun _ => fun
  | [d1, d2, d3, d4, d5, d6] => { results := [.lit (.bool true)], args := [d1, d2, d3, d4, d5, d6] }
  | _ => none }
def swapForgetsRow : OpenClaim := { program := "ytaopjdjbpamhhaa", sum := "488db6eb9d0ae757134ac748fb0a1bc8c586a45db59593ec13ddaa2231abde7e", func := "amnesty/amnestylaw07.SwapForgets", spec := "swapForgets", inPlace := ["internal/bytealg.Compare"], unfollowed := true, recurses := true, apart := false }
def SwapForgetsSaid : Prop := swapForgetsRow.holds Try.pinned (OpenSpec.ofChange swapForgetsSpec)

/-- ITS FALSE NEIGHBOUR: 'it returns false'. Refute it at one input. -/
def swapForgetsWrong : ChangeSpec := { name := "swapForgets", fn := fun _ => fun
  | [d1, d2, d3, d4, d5, d6] => { results := [.lit (.bool false)], args := [d1, d2, d3, d4, d5, d6] }
  | _ => none }
def SwapForgetsWrongFalsely : Prop := swapForgetsRow.holds Try.pinned (OpenSpec.ofChange swapForgetsWrong)

/-- 'amnestylaw07.SwapHistory': WHATEVER THE INPUT: true; the input reads as it did. -/
def swapHistorySpec : ChangeSpec := { name := "swapHistory", fn := fun _ => fun
  | [d1, d2, d3, d4] => { results := [.lit (.bool true)], args := [d1, d2, d3, d4] }
  | _ => none }
def swapHistoryRow : OpenClaim := { program := "ytaopjdjbpamhhaa", sum := "488db6eb9d0ae757134ac748fb0a1bc8c586a45db59593ec13ddaa2231abde7e", func := "amnesty/amnestylaw07.SwapHistory", spec := "swapHistory", inPlace := ["internal/bytealg.Compare", "internal/bytealg.MakeNoZero"], unfollowed := true, recurses := true, apart := false }
def SwapHistorySaid : Prop := swapHistoryRow.holds Try.pinned (OpenSpec.ofChange swapHistorySpec)

/-- ITS FALSE NEIGHBOUR: 'it returns false'. Refute it at one input. -/
def swapHistoryWrong : ChangeSpec := { name := "swapHistory", fn := fun _ => fun
  | [d1, d2, d3, d4] => { results := [.lit (.bool false)], args := [d1, d2, d3, d4] }
  | _ => none }
def SwapHistoryWrongFalsely : Prop := swapHistoryRow.holds Try.pinned (OpenSpec.ofChange swapHistoryWrong)

/-- 'amnestylaw07.SwapMirrors': WHATEVER THE INPUT: true; the input reads as it did. -/
def swapMirrorsSpec : ChangeSpec := { name := "swapMirrors", fn := fun _ => fun
  | [d1, d2, d3] => { results := [.lit (.bool true)], args := [d1, d2, d3] }
  | _ => none }
def swapMirrorsRow : OpenClaim := { program := "ytaopjdjbpamhhaa", sum := "488db6eb9d0ae757134ac748fb0a1bc8c586a45db59593ec13ddaa2231abde7e", func := "amnesty/amnestylaw07.SwapMirrors", spec := "swapMirrors", inPlace := ["internal/bytealg.Compare", "internal/bytealg.MakeNoZero"], unfollowed := true, recurses := true, apart := false }
def SwapMirrorsSaid : Prop := swapMirrorsRow.holds Try.pinned (OpenSpec.ofChange swapMirrorsSpec)

/-- ITS FALSE NEIGHBOUR: 'it returns false'. Refute it at one input. -/
def swapMirrorsWrong : ChangeSpec := { name := "swapMirrors", fn := fun _ => fun
  | [d1, d2, d3] => { results := [.lit (.bool false)], args := [d1, d2, d3] }
  | _ => none }
def SwapMirrorsWrongFalsely : Prop := swapMirrorsRow.holds Try.pinned (OpenSpec.ofChange swapMirrorsWrong)

/-- 'amnestylaw07.SwapPads': WHATEVER THE INPUT: true; the input reads as it did. -/
def swapPadsSpec : ChangeSpec := { name := "swapPads", fn := fun _ => fun
  | [d1, d2, d3, d4, d5] => { results := [.lit (.bool true)], args := [d1, d2, d3, d4, d5] }
  | _ => none }
def swapPadsRow : OpenClaim := { program := "ytaopjdjbpamhhaa", sum := "488db6eb9d0ae757134ac748fb0a1bc8c586a45db59593ec13ddaa2231abde7e", func := "amnesty/amnestylaw07.SwapPads", spec := "swapPads", apart := false }
def SwapPadsSaid : Prop := swapPadsRow.holds Try.pinned (OpenSpec.ofChange swapPadsSpec)

/-- ITS FALSE NEIGHBOUR: 'it returns false'. Refute it at one input. -/
def swapPadsWrong : ChangeSpec := { name := "swapPads", fn := fun _ => fun
  | [d1, d2, d3, d4, d5] => { results := [.lit (.bool false)], args := [d1, d2, d3, d4, d5] }
  | _ => none }
def SwapPadsWrongFalsely : Prop := swapPadsRow.holds Try.pinned (OpenSpec.ofChange swapPadsWrong)

/-- 'amnestylaw07.SwapRefuses': WHATEVER THE INPUT: true; the input reads as it did. -/
def swapRefusesSpec : ChangeSpec := { name := "swapRefuses", fn := fun _ => fun
  | [d1, d2, d3] => { results := [.lit (.bool true)], args := [d1, d2, d3] }
  | _ => none }
def swapRefusesRow : OpenClaim := { program := "ytaopjdjbpamhhaa", sum := "488db6eb9d0ae757134ac748fb0a1bc8c586a45db59593ec13ddaa2231abde7e", func := "amnesty/amnestylaw07.SwapRefuses", spec := "swapRefuses", inPlace := ["internal/bytealg.Compare", "internal/bytealg.MakeNoZero"], unfollowed := true, recurses := true, apart := false }
def SwapRefusesSaid : Prop := swapRefusesRow.holds Try.pinned (OpenSpec.ofChange swapRefusesSpec)

/-- ITS FALSE NEIGHBOUR: 'it returns false'. Refute it at one input. -/
def swapRefusesWrong : ChangeSpec := { name := "swapRefuses", fn := fun _ => fun
  | [d1, d2, d3] => { results := [.lit (.bool false)], args := [d1, d2, d3] }
  | _ => none }
def SwapRefusesWrongFalsely : Prop := swapRefusesRow.holds Try.pinned (OpenSpec.ofChange swapRefusesWrong)

/-- 'amnestylaw07.SwapVault': WHATEVER THE INPUT: true; the input reads as it did. -/
def swapVaultSpec : ChangeSpec := { name := "swapVault", fn := fun _ => fun
  | [d1, d2] => { results := [.lit (.bool true)], args := [d1, d2] }
  | _ => none }
def swapVaultRow : OpenClaim := { program := "ytaopjdjbpamhhaa", sum := "488db6eb9d0ae757134ac748fb0a1bc8c586a45db59593ec13ddaa2231abde7e", func := "amnesty/amnestylaw07.SwapVault", spec := "swapVault", inPlace := ["internal/bytealg.Compare"], unfollowed := true, recurses := true, apart := false }
def SwapVaultSaid : Prop := swapVaultRow.holds Try.pinned (OpenSpec.ofChange swapVaultSpec)

/-- ITS FALSE NEIGHBOUR: 'it returns false'. Refute it at one input. -/
def swapVaultWrong : ChangeSpec := { name := "swapVault", fn := fun _ => fun
  | [d1, d2] => { results := [.lit (.bool false)], args := [d1, d2] }
  | _ => none }
def SwapVaultWrongFalsely : Prop := swapVaultRow.holds Try.pinned (OpenSpec.ofChange swapVaultWrong)

/- THE SECOND FORM. 'bulk': how many values and letters a reading holds, each counted each time it is reached (what is shared counts as often as it is met; a slice's spare places count too). A statement '..UptoSaid' is the law's where the arguments, and the package variables that the reading takes, are together of bulk at most 1048576: NARROWER than '..Said'. Prove '..Said' where nothing that the law and all that it calls make is longer than what came in: it says more and counts as full. Else prove '..UptoSaid'. A law counts once. -/
mutual
def uptoBulk {H : Type} : DataW H → Nat
  | .lit (.string bytes) => bytes.length + 1
  | .lit _ => 1
  | .nil => 1
  | .ptr d => uptoBulk d + 1
  | .slice elems spare => uptoBulkAll elems + uptoBulkAll spare + 1
  | .agg parts => uptoBulkAll parts + 1
  | .iface _ d => uptoBulk d + 1
  | .map entries => uptoBulkEntries entries + 1
  | .held _ => 1
def uptoBulkAll {H : Type} : List (DataW H) → Nat
  | [] => 0
  | d :: r => uptoBulk d + uptoBulkAll r
def uptoBulkEntries {H : Type} : List (Lit × DataW H) → Nat
  | [] => 0
  | x :: r => uptoBulkEntry x + uptoBulkEntries r
def uptoBulkEntry {H : Type} : Lit × DataW H → Nat
  | (.string bytes, d) => bytes.length + uptoBulk d + 1
  | (_, d) => uptoBulk d + 1
 end
def uptoSmall : (H : Type) → List (DataW H) → Bool := fun _ ds => decide (uptoBulkAll ds ≤ 1048576)
def OpenSpec.upto (s : _root_.Go.ChangeSpec) : _root_.Go.OpenSpec := { _root_.Go.OpenSpec.ofChange s with cond := some uptoSmall }

/-- 'amnestylaw01.SlotsBack', WHERE WHAT IT READS IS OF BULK AT MOST 1048576: true; the input reads as it did. -/
def slotsBackUptoRow : OpenClaim := { program := "ytaopjdjbpamhhaa", sum := "488db6eb9d0ae757134ac748fb0a1bc8c586a45db59593ec13ddaa2231abde7e", func := "amnesty/amnestylaw01.SlotsBack", spec := "slotsBack", inPlace := ["internal/bytealg.Compare"], unfollowed := true, recurses := true, apart := false, narrowed := true }
def SlotsBackUptoSaid : Prop := slotsBackUptoRow.holds Try.pinned (OpenSpec.upto slotsBackSpec)

/-- 'amnestylaw01.SlotsCalls', WHERE WHAT IT READS IS OF BULK AT MOST 1048576: true; the input reads as it did. -/
def slotsCallsUptoRow : OpenClaim := { program := "ytaopjdjbpamhhaa", sum := "488db6eb9d0ae757134ac748fb0a1bc8c586a45db59593ec13ddaa2231abde7e", func := "amnesty/amnestylaw01.SlotsCalls", spec := "slotsCalls", inPlace := ["internal/bytealg.Compare"], unfollowed := true, recurses := true, apart := false, narrowed := true }
def SlotsCallsUptoSaid : Prop := slotsCallsUptoRow.holds Try.pinned (OpenSpec.upto slotsCallsSpec)

/-- 'amnestylaw01.SlotsCoin', WHERE WHAT IT READS IS OF BULK AT MOST 1048576: true; the input reads as it did. -/
def slotsCoinUptoRow : OpenClaim := { program := "ytaopjdjbpamhhaa", sum := "488db6eb9d0ae757134ac748fb0a1bc8c586a45db59593ec13ddaa2231abde7e", func := "amnesty/amnestylaw01.SlotsCoin", spec := "slotsCoin", apart := false, narrowed := true }
def SlotsCoinUptoSaid : Prop := slotsCoinUptoRow.holds Try.pinned (OpenSpec.upto slotsCoinSpec)

/-- 'amnestylaw01.SlotsForgets', WHERE WHAT IT READS IS OF BULK AT MOST 1048576: true; the input reads as it did. -/
def slotsForgetsUptoRow : OpenClaim := { program := "ytaopjdjbpamhhaa", sum := "488db6eb9d0ae757134ac748fb0a1bc8c586a45db59593ec13ddaa2231abde7e", func := "amnesty/amnestylaw01.SlotsForgets", spec := "slotsForgets", inPlace := ["internal/bytealg.Compare"], unfollowed := true, recurses := true, apart := false, narrowed := true }
def SlotsForgetsUptoSaid : Prop := slotsForgetsUptoRow.holds Try.pinned (OpenSpec.upto slotsForgetsSpec)

/-- 'amnestylaw01.SlotsLays', WHERE WHAT IT READS IS OF BULK AT MOST 1048576: true; the input reads as it did. -/
def slotsLaysUptoRow : OpenClaim := { program := "ytaopjdjbpamhhaa", sum := "488db6eb9d0ae757134ac748fb0a1bc8c586a45db59593ec13ddaa2231abde7e", func := "amnesty/amnestylaw01.SlotsLays", spec := "slotsLays", inPlace := ["internal/bytealg.Compare"], unfollowed := true, recurses := true, apart := false, narrowed := true }
def SlotsLaysUptoSaid : Prop := slotsLaysUptoRow.holds Try.pinned (OpenSpec.upto slotsLaysSpec)

/-- 'amnestylaw01.SlotsLoads', WHERE WHAT IT READS IS OF BULK AT MOST 1048576: true; the input reads as it did. -/
def slotsLoadsUptoRow : OpenClaim := { program := "ytaopjdjbpamhhaa", sum := "488db6eb9d0ae757134ac748fb0a1bc8c586a45db59593ec13ddaa2231abde7e", func := "amnesty/amnestylaw01.SlotsLoads", spec := "slotsLoads", inPlace := ["internal/bytealg.Compare"], unfollowed := true, recurses := true, apart := false, narrowed := true }
def SlotsLoadsUptoSaid : Prop := slotsLoadsUptoRow.holds Try.pinned (OpenSpec.upto slotsLoadsSpec)

/-- 'amnestylaw01.SlotsOneLayout', WHERE WHAT IT READS IS OF BULK AT MOST 1048576: true; the input reads as it did. -/
def slotsOneLayoutUptoRow : OpenClaim := { program := "ytaopjdjbpamhhaa", sum := "488db6eb9d0ae757134ac748fb0a1bc8c586a45db59593ec13ddaa2231abde7e", func := "amnesty/amnestylaw01.SlotsOneLayout", spec := "slotsOneLayout", inPlace := ["internal/bytealg.Compare"], unfollowed := true, recurses := true, apart := false, narrowed := true }
def SlotsOneLayoutUptoSaid : Prop := slotsOneLayoutUptoRow.holds Try.pinned (OpenSpec.upto slotsOneLayoutSpec)

/-- 'amnestylaw01.SlotsPlays', WHERE WHAT IT READS IS OF BULK AT MOST 1048576: true; the input reads as it did. -/
def slotsPlaysUptoRow : OpenClaim := { program := "ytaopjdjbpamhhaa", sum := "488db6eb9d0ae757134ac748fb0a1bc8c586a45db59593ec13ddaa2231abde7e", func := "amnesty/amnestylaw01.SlotsPlays", spec := "slotsPlays", inPlace := ["internal/bytealg.Compare"], unfollowed := true, recurses := true, apart := false, narrowed := true }
def SlotsPlaysUptoSaid : Prop := slotsPlaysUptoRow.holds Try.pinned (OpenSpec.upto slotsPlaysSpec)

/-- 'amnestylaw01.SlotsRuns', WHERE WHAT IT READS IS OF BULK AT MOST 1048576: true; the input reads as it did. -/
def slotsRunsUptoRow : OpenClaim := { program := "ytaopjdjbpamhhaa", sum := "488db6eb9d0ae757134ac748fb0a1bc8c586a45db59593ec13ddaa2231abde7e", func := "amnesty/amnestylaw01.SlotsRuns", spec := "slotsRuns", inPlace := ["internal/bytealg.Compare"], unfollowed := true, recurses := true, apart := false, narrowed := true }
def SlotsRunsUptoSaid : Prop := slotsRunsUptoRow.holds Try.pinned (OpenSpec.upto slotsRunsSpec)

/-- 'amnestylaw01.SlotsSeeks', WHERE WHAT IT READS IS OF BULK AT MOST 1048576: true; the input reads as it did. -/
def slotsSeeksUptoRow : OpenClaim := { program := "ytaopjdjbpamhhaa", sum := "488db6eb9d0ae757134ac748fb0a1bc8c586a45db59593ec13ddaa2231abde7e", func := "amnesty/amnestylaw01.SlotsSeeks", spec := "slotsSeeks", inPlace := ["internal/bytealg.Compare"], unfollowed := true, recurses := true, apart := false, narrowed := true }
def SlotsSeeksUptoSaid : Prop := slotsSeeksUptoRow.holds Try.pinned (OpenSpec.upto slotsSeeksSpec)

/-- 'amnestylaw07.SwapChain', WHERE WHAT IT READS IS OF BULK AT MOST 1048576: true; the input reads as it did. -/
def swapChainUptoRow : OpenClaim := { program := "ytaopjdjbpamhhaa", sum := "488db6eb9d0ae757134ac748fb0a1bc8c586a45db59593ec13ddaa2231abde7e", func := "amnesty/amnestylaw07.SwapChain", spec := "swapChain", inPlace := ["internal/bytealg.Compare", "internal/bytealg.MakeNoZero"], unfollowed := true, recurses := true, apart := false, narrowed := true }
def SwapChainUptoSaid : Prop := swapChainUptoRow.holds Try.pinned (OpenSpec.upto swapChainSpec)

/-- 'amnestylaw07.SwapEqual', WHERE WHAT IT READS IS OF BULK AT MOST 1048576: true; the input reads as it did. -/
def swapEqualUptoRow : OpenClaim := { program := "ytaopjdjbpamhhaa", sum := "488db6eb9d0ae757134ac748fb0a1bc8c586a45db59593ec13ddaa2231abde7e", func := "amnesty/amnestylaw07.SwapEqual", spec := "swapEqual", inPlace := ["internal/bytealg.Compare", "internal/bytealg.MakeNoZero"], unfollowed := true, recurses := true, apart := false, narrowed := true }
def SwapEqualUptoSaid : Prop := swapEqualUptoRow.holds Try.pinned (OpenSpec.upto swapEqualSpec)

/-- 'amnestylaw07.SwapFew', WHERE WHAT IT READS IS OF BULK AT MOST 1048576: true; the input reads as it did. -/
def swapFewUptoRow : OpenClaim := { program := "ytaopjdjbpamhhaa", sum := "488db6eb9d0ae757134ac748fb0a1bc8c586a45db59593ec13ddaa2231abde7e", func := "amnesty/amnestylaw07.SwapFew", spec := "swapFew", inPlace := ["internal/bytealg.Compare"], unfollowed := true, recurses := true, apart := false, narrowed := true }
def SwapFewUptoSaid : Prop := swapFewUptoRow.holds Try.pinned (OpenSpec.upto swapFewSpec)

/-- 'amnestylaw07.SwapForgets', WHERE WHAT IT READS IS OF BULK AT MOST 1048576: true; the input reads as it did. -/
def swapForgetsUptoRow : OpenClaim := { program := "ytaopjdjbpamhhaa", sum := "488db6eb9d0ae757134ac748fb0a1bc8c586a45db59593ec13ddaa2231abde7e", func := "amnesty/amnestylaw07.SwapForgets", spec := "swapForgets", inPlace := ["internal/bytealg.Compare"], unfollowed := true, recurses := true, apart := false, narrowed := true }
def SwapForgetsUptoSaid : Prop := swapForgetsUptoRow.holds Try.pinned (OpenSpec.upto swapForgetsSpec)

/-- 'amnestylaw07.SwapHistory', WHERE WHAT IT READS IS OF BULK AT MOST 1048576: true; the input reads as it did. -/
def swapHistoryUptoRow : OpenClaim := { program := "ytaopjdjbpamhhaa", sum := "488db6eb9d0ae757134ac748fb0a1bc8c586a45db59593ec13ddaa2231abde7e", func := "amnesty/amnestylaw07.SwapHistory", spec := "swapHistory", inPlace := ["internal/bytealg.Compare", "internal/bytealg.MakeNoZero"], unfollowed := true, recurses := true, apart := false, narrowed := true }
def SwapHistoryUptoSaid : Prop := swapHistoryUptoRow.holds Try.pinned (OpenSpec.upto swapHistorySpec)

/-- 'amnestylaw07.SwapMirrors', WHERE WHAT IT READS IS OF BULK AT MOST 1048576: true; the input reads as it did. -/
def swapMirrorsUptoRow : OpenClaim := { program := "ytaopjdjbpamhhaa", sum := "488db6eb9d0ae757134ac748fb0a1bc8c586a45db59593ec13ddaa2231abde7e", func := "amnesty/amnestylaw07.SwapMirrors", spec := "swapMirrors", inPlace := ["internal/bytealg.Compare", "internal/bytealg.MakeNoZero"], unfollowed := true, recurses := true, apart := false, narrowed := true }
def SwapMirrorsUptoSaid : Prop := swapMirrorsUptoRow.holds Try.pinned (OpenSpec.upto swapMirrorsSpec)

/-- 'amnestylaw07.SwapPads', WHERE WHAT IT READS IS OF BULK AT MOST 1048576: true; the input reads as it did. -/
def swapPadsUptoRow : OpenClaim := { program := "ytaopjdjbpamhhaa", sum := "488db6eb9d0ae757134ac748fb0a1bc8c586a45db59593ec13ddaa2231abde7e", func := "amnesty/amnestylaw07.SwapPads", spec := "swapPads", apart := false, narrowed := true }
def SwapPadsUptoSaid : Prop := swapPadsUptoRow.holds Try.pinned (OpenSpec.upto swapPadsSpec)

/-- 'amnestylaw07.SwapRefuses', WHERE WHAT IT READS IS OF BULK AT MOST 1048576: true; the input reads as it did. -/
def swapRefusesUptoRow : OpenClaim := { program := "ytaopjdjbpamhhaa", sum := "488db6eb9d0ae757134ac748fb0a1bc8c586a45db59593ec13ddaa2231abde7e", func := "amnesty/amnestylaw07.SwapRefuses", spec := "swapRefuses", inPlace := ["internal/bytealg.Compare", "internal/bytealg.MakeNoZero"], unfollowed := true, recurses := true, apart := false, narrowed := true }
def SwapRefusesUptoSaid : Prop := swapRefusesUptoRow.holds Try.pinned (OpenSpec.upto swapRefusesSpec)

/-- 'amnestylaw07.SwapVault', WHERE WHAT IT READS IS OF BULK AT MOST 1048576: true; the input reads as it did. -/
def swapVaultUptoRow : OpenClaim := { program := "ytaopjdjbpamhhaa", sum := "488db6eb9d0ae757134ac748fb0a1bc8c586a45db59593ec13ddaa2231abde7e", func := "amnesty/amnestylaw07.SwapVault", spec := "swapVault", inPlace := ["internal/bytealg.Compare"], unfollowed := true, recurses := true, apart := false, narrowed := true }
def SwapVaultUptoSaid : Prop := swapVaultUptoRow.holds Try.pinned (OpenSpec.upto swapVaultSpec)

end Rows
end Go.Proofs.Ytaopjdjbpamhhaa
