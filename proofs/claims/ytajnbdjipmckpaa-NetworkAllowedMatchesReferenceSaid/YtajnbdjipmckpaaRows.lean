/-
  No cell of these rows narrows 'for every input' (looked for: loops, veiled, ifaces, maps, wideKeys, modest, calm, conditions, laid).
  DERIVED. THE GIVEN ROWS OF THIS SEAT. 10 by the template 'for every input the law returns true; each argument reads behind the call as it read before'; 0 by the template 'total and deterministic' (their statements: YtajnbdjipmckpaaTotals.lean).
  GIVEN WITH THE SEED: the statements are not yours to turn. If you find one false, say at which input.
  Laid BY PROGRAM, IN A SANDBOX (cutbox-rows.mjs): the forced cells as the released guide's own fill.sh prints them over the translation 47af98dcaf1be036… (all of the seat's roots in one cut). By AI agents, Wed Nov 11 2026. No macro, syntax, notation, axiom, sorry.
-/
import Derived.Test.YtajnbdjipmckpaaChecked
import GoSem.Claim
import GoSem.ClaimJoined
import GoSem.ClaimMapViews
import Derived.JoinedTies
import Derived.KernelRfl
namespace Go.Proofs.Ytajnbdjipmckpaa
/- THE CELL 'sum', in the pinned program and in every row, IS THE sha256 OF THE DUMP (.gsa) THAT YtajnbdjipmckpaaProg.lean LOADS. Nothing in Lean hashes anything: it is a label: what it is worth is what the hold of that sum in a sandbox is worth. -/
noncomputable def Try.pinned : Pinned := { name := "ytajnbdjipmckpaa", sum := "47af98dcaf1be03654551c49a3fa402bae916bc7007256a370977f764869676d", checked := Try.checked }
namespace Rows
def none {H : Type} : Left H := { results := [], args := [] }

/-- 'planispherelaw16.NetworkMatchesReference': WHATEVER THE INPUT: true; the input reads as it did. -/
def networkMatchesReferenceSpec : ChangeSpec := { name := "networkMatchesReference", fn := fun _ => fun
  | [d] => { results := [.lit (.bool true)], args := [d] }
  | _ => none }
def networkMatchesReferenceRow : OpenClaim := { program := "ytajnbdjipmckpaa", sum := "47af98dcaf1be03654551c49a3fa402bae916bc7007256a370977f764869676d", func := "planisphere/planispherelaw16.NetworkMatchesReference", spec := "networkMatchesReference", inPlace := ["internal/bytealg.IndexByteString"], unfollowed := true, recurses := true, plainKeys := false, apart := false }
def NetworkMatchesReferenceSaid : Prop := networkMatchesReferenceRow.holds Try.pinned (OpenSpec.ofChange networkMatchesReferenceSpec)

/-- ITS FALSE NEIGHBOUR: 'it returns false'. Refute it at one input. -/
def networkMatchesReferenceWrong : ChangeSpec := { name := "networkMatchesReference", fn := fun _ => fun
  | [d] => { results := [.lit (.bool false)], args := [d] }
  | _ => none }
def NetworkMatchesReferenceWrongFalsely : Prop := networkMatchesReferenceRow.holds Try.pinned (OpenSpec.ofChange networkMatchesReferenceWrong)

/-- 'planispherelaw16.NetworkAllowedMatchesReference': WHATEVER THE INPUT: true; the input reads as it did. -/
def networkAllowedMatchesReferenceSpec : ChangeSpec := { name := "networkAllowedMatchesReference", fn := fun _ => fun
  | [d1, d2, d3, d4] => { results := [.lit (.bool true)], args := [d1, d2, d3, d4] }
  | _ => none }
def networkAllowedMatchesReferenceRow : OpenClaim := { program := "ytajnbdjipmckpaa", sum := "47af98dcaf1be03654551c49a3fa402bae916bc7007256a370977f764869676d", func := "planisphere/planispherelaw16.NetworkAllowedMatchesReference", spec := "networkAllowedMatchesReference", inPlace := ["internal/bytealg.IndexByteString"], unfollowed := true, recurses := true, plainKeys := false, apart := false }
def NetworkAllowedMatchesReferenceSaid : Prop := networkAllowedMatchesReferenceRow.holds Try.pinned (OpenSpec.ofChange networkAllowedMatchesReferenceSpec)

/-- ITS FALSE NEIGHBOUR: 'it returns false'. Refute it at one input. -/
def networkAllowedMatchesReferenceWrong : ChangeSpec := { name := "networkAllowedMatchesReference", fn := fun _ => fun
  | [d1, d2, d3, d4] => { results := [.lit (.bool false)], args := [d1, d2, d3, d4] }
  | _ => none }
def NetworkAllowedMatchesReferenceWrongFalsely : Prop := networkAllowedMatchesReferenceRow.holds Try.pinned (OpenSpec.ofChange networkAllowedMatchesReferenceWrong)

/-- 'planispherelaw16.NetworkRoutes': WHATEVER THE INPUT: true; the input reads as it did. -/
def networkRoutesSpec : ChangeSpec := { name := "networkRoutes", fn := fun _ => fun
  | [d] => { results := [.lit (.bool true)], args := [d] }
  | _ => none }
def networkRoutesRow : OpenClaim := { program := "ytajnbdjipmckpaa", sum := "47af98dcaf1be03654551c49a3fa402bae916bc7007256a370977f764869676d", func := "planisphere/planispherelaw16.NetworkRoutes", spec := "networkRoutes", inPlace := ["internal/bytealg.IndexByteString"], unfollowed := true, recurses := true, plainKeys := false, apart := false }
def NetworkRoutesSaid : Prop := networkRoutesRow.holds Try.pinned (OpenSpec.ofChange networkRoutesSpec)

/-- ITS FALSE NEIGHBOUR: 'it returns false'. Refute it at one input. -/
def networkRoutesWrong : ChangeSpec := { name := "networkRoutes", fn := fun _ => fun
  | [d] => { results := [.lit (.bool false)], args := [d] }
  | _ => none }
def NetworkRoutesWrongFalsely : Prop := networkRoutesRow.holds Try.pinned (OpenSpec.ofChange networkRoutesWrong)

/-- 'planispherelaw16.NetworkArcs': WHATEVER THE INPUT: true; the input reads as it did. -/
def networkArcsSpec : ChangeSpec := { name := "networkArcs", fn := fun _ => fun
  | [d] => { results := [.lit (.bool true)], args := [d] }
  | _ => none }
def networkArcsRow : OpenClaim := { program := "ytajnbdjipmckpaa", sum := "47af98dcaf1be03654551c49a3fa402bae916bc7007256a370977f764869676d", func := "planisphere/planispherelaw16.NetworkArcs", spec := "networkArcs", inPlace := ["internal/bytealg.IndexByteString"], unfollowed := true, recurses := true, plainKeys := false, apart := false }
def NetworkArcsSaid : Prop := networkArcsRow.holds Try.pinned (OpenSpec.ofChange networkArcsSpec)

/-- ITS FALSE NEIGHBOUR: 'it returns false'. Refute it at one input. -/
def networkArcsWrong : ChangeSpec := { name := "networkArcs", fn := fun _ => fun
  | [d] => { results := [.lit (.bool false)], args := [d] }
  | _ => none }
def NetworkArcsWrongFalsely : Prop := networkArcsRow.holds Try.pinned (OpenSpec.ofChange networkArcsWrong)

/-- 'planispherelaw16.NetworkParts': WHATEVER THE INPUT: true; the input reads as it did. -/
def networkPartsSpec : ChangeSpec := { name := "networkParts", fn := fun _ => fun
  | [d] => { results := [.lit (.bool true)], args := [d] }
  | _ => none }
def networkPartsRow : OpenClaim := { program := "ytajnbdjipmckpaa", sum := "47af98dcaf1be03654551c49a3fa402bae916bc7007256a370977f764869676d", func := "planisphere/planispherelaw16.NetworkParts", spec := "networkParts", inPlace := ["internal/bytealg.IndexByteString"], unfollowed := true, recurses := true, plainKeys := false, apart := false }
def NetworkPartsSaid : Prop := networkPartsRow.holds Try.pinned (OpenSpec.ofChange networkPartsSpec)

/-- ITS FALSE NEIGHBOUR: 'it returns false'. Refute it at one input. -/
def networkPartsWrong : ChangeSpec := { name := "networkParts", fn := fun _ => fun
  | [d] => { results := [.lit (.bool false)], args := [d] }
  | _ => none }
def NetworkPartsWrongFalsely : Prop := networkPartsRow.holds Try.pinned (OpenSpec.ofChange networkPartsWrong)

/-- 'planispherelaw16.NetworkOthers': WHATEVER THE INPUT: true; the input reads as it did. -/
def networkOthersSpec : ChangeSpec := { name := "networkOthers", fn := fun _ => fun
  | [d] => { results := [.lit (.bool true)], args := [d] }
  | _ => none }
def networkOthersRow : OpenClaim := { program := "ytajnbdjipmckpaa", sum := "47af98dcaf1be03654551c49a3fa402bae916bc7007256a370977f764869676d", func := "planisphere/planispherelaw16.NetworkOthers", spec := "networkOthers", inPlace := ["internal/bytealg.IndexByteString"], unfollowed := true, recurses := true, plainKeys := false, apart := false }
def NetworkOthersSaid : Prop := networkOthersRow.holds Try.pinned (OpenSpec.ofChange networkOthersSpec)

/-- ITS FALSE NEIGHBOUR: 'it returns false'. Refute it at one input. -/
def networkOthersWrong : ChangeSpec := { name := "networkOthers", fn := fun _ => fun
  | [d] => { results := [.lit (.bool false)], args := [d] }
  | _ => none }
def NetworkOthersWrongFalsely : Prop := networkOthersRow.holds Try.pinned (OpenSpec.ofChange networkOthersWrong)

/-- 'planispherelaw16.NetworkTurned': WHATEVER THE INPUT: true; the input reads as it did. -/
def networkTurnedSpec : ChangeSpec := { name := "networkTurned", fn := fun _ => fun
  | [d1, d2] => { results := [.lit (.bool true)], args := [d1, d2] }
  | _ => none }
def networkTurnedRow : OpenClaim := { program := "ytajnbdjipmckpaa", sum := "47af98dcaf1be03654551c49a3fa402bae916bc7007256a370977f764869676d", func := "planisphere/planispherelaw16.NetworkTurned", spec := "networkTurned", inPlace := ["internal/bytealg.IndexByteString"], unfollowed := true, recurses := true, plainKeys := false, apart := false }
def NetworkTurnedSaid : Prop := networkTurnedRow.holds Try.pinned (OpenSpec.ofChange networkTurnedSpec)

/-- ITS FALSE NEIGHBOUR: 'it returns false'. Refute it at one input. -/
def networkTurnedWrong : ChangeSpec := { name := "networkTurned", fn := fun _ => fun
  | [d1, d2] => { results := [.lit (.bool false)], args := [d1, d2] }
  | _ => none }
def NetworkTurnedWrongFalsely : Prop := networkTurnedRow.holds Try.pinned (OpenSpec.ofChange networkTurnedWrong)

/-- 'planispherelaw18.NameFolds': WHATEVER THE INPUT: true; the input reads as it did. -/
def nameFoldsSpec : ChangeSpec := { name := "nameFolds", fn := fun _ => fun
  | [d] => { results := [.lit (.bool true)], args := [d] }
  | _ => none }
def nameFoldsRow : OpenClaim := { program := "ytajnbdjipmckpaa", sum := "47af98dcaf1be03654551c49a3fa402bae916bc7007256a370977f764869676d", func := "planisphere/planispherelaw18.NameFolds", spec := "nameFolds", inPlace := ["internal/bytealg.IndexByteString", "internal/abi.NoEscape", "internal/bytealg.MakeNoZero"], unfollowed := true, recurses := true, plainKeys := false, apart := false }
def NameFoldsSaid : Prop := nameFoldsRow.holds Try.pinned (OpenSpec.ofChange nameFoldsSpec)

/-- ITS FALSE NEIGHBOUR: 'it returns false'. Refute it at one input. -/
def nameFoldsWrong : ChangeSpec := { name := "nameFolds", fn := fun _ => fun
  | [d] => { results := [.lit (.bool false)], args := [d] }
  | _ => none }
def NameFoldsWrongFalsely : Prop := nameFoldsRow.holds Try.pinned (OpenSpec.ofChange nameFoldsWrong)

/-- 'planispherelaw18.NameLanguages': WHATEVER THE INPUT: true; the input reads as it did. -/
def nameLanguagesSpec : ChangeSpec := { name := "nameLanguages", fn := fun _ => fun
  | [d1, d2] => { results := [.lit (.bool true)], args := [d1, d2] }
  | _ => none }
def nameLanguagesRow : OpenClaim := { program := "ytajnbdjipmckpaa", sum := "47af98dcaf1be03654551c49a3fa402bae916bc7007256a370977f764869676d", func := "planisphere/planispherelaw18.NameLanguages", spec := "nameLanguages", inPlace := ["internal/bytealg.IndexByteString", "internal/abi.NoEscape", "internal/bytealg.MakeNoZero"], unfollowed := true, recurses := true, plainKeys := false, apart := false }
def NameLanguagesSaid : Prop := nameLanguagesRow.holds Try.pinned (OpenSpec.ofChange nameLanguagesSpec)

/-- ITS FALSE NEIGHBOUR: 'it returns false'. Refute it at one input. -/
def nameLanguagesWrong : ChangeSpec := { name := "nameLanguages", fn := fun _ => fun
  | [d1, d2] => { results := [.lit (.bool false)], args := [d1, d2] }
  | _ => none }
def NameLanguagesWrongFalsely : Prop := nameLanguagesRow.holds Try.pinned (OpenSpec.ofChange nameLanguagesWrong)

/-- 'planispherelaw18.NameBest': WHATEVER THE INPUT: true; the input reads as it did. -/
def nameBestSpec : ChangeSpec := { name := "nameBest", fn := fun _ => fun
  | [d1, d2, d3] => { results := [.lit (.bool true)], args := [d1, d2, d3] }
  | _ => none }
def nameBestRow : OpenClaim := { program := "ytajnbdjipmckpaa", sum := "47af98dcaf1be03654551c49a3fa402bae916bc7007256a370977f764869676d", func := "planisphere/planispherelaw18.NameBest", spec := "nameBest", inPlace := ["internal/bytealg.IndexByteString", "internal/abi.NoEscape", "internal/bytealg.MakeNoZero"], unfollowed := true, recurses := true, plainKeys := false, apart := false }
def NameBestSaid : Prop := nameBestRow.holds Try.pinned (OpenSpec.ofChange nameBestSpec)

/-- ITS FALSE NEIGHBOUR: 'it returns false'. Refute it at one input. -/
def nameBestWrong : ChangeSpec := { name := "nameBest", fn := fun _ => fun
  | [d1, d2, d3] => { results := [.lit (.bool false)], args := [d1, d2, d3] }
  | _ => none }
def NameBestWrongFalsely : Prop := nameBestRow.holds Try.pinned (OpenSpec.ofChange nameBestWrong)

/- THE SECOND FORM. 'bulk': how many values and letters a reading holds, each counted each time it is reached (what is shared counts as often as it is met; a slice's spare places count too). A statement '..UptoSaid' is the law's where the arguments, and the package variables that the reading takes, are together of bulk at most 1048576: NARROWER than '..Said'. Prove '..Said' where nothing that the law and all that it calls make is longer than what came in: it says more and counts as full. Else prove '..UptoSaid'. A law counts once. -/
mutual
def uptoBulk {H : Type} : DataW H → Nat
  | .lit (.string bytes) => bytes.length + 1
  | .lit _ => 1
  | .nil => 1
  | .ptr d => uptoBulk d + 1
  | .slice elems spare => uptoBulkAll elems + uptoBulkAll spare + 1
  | .agg parts => uptoBulkAll parts + 1
  | .iface _ d => uptoBulk d + 1
  | .map entries => uptoBulkEntries entries + 1
  | .held _ => 1
def uptoBulkAll {H : Type} : List (DataW H) → Nat
  | [] => 0
  | d :: r => uptoBulk d + uptoBulkAll r
def uptoBulkEntries {H : Type} : List (Lit × DataW H) → Nat
  | [] => 0
  | x :: r => uptoBulkEntry x + uptoBulkEntries r
def uptoBulkEntry {H : Type} : Lit × DataW H → Nat
  | (.string bytes, d) => bytes.length + uptoBulk d + 1
  | (_, d) => uptoBulk d + 1
 end
def uptoSmall : (H : Type) → List (DataW H) → Bool := fun _ ds => decide (uptoBulkAll ds ≤ 1048576)
def OpenSpec.upto (s : _root_.Go.ChangeSpec) : _root_.Go.OpenSpec := { _root_.Go.OpenSpec.ofChange s with cond := some uptoSmall }

/-- 'planispherelaw16.NetworkMatchesReference', WHERE WHAT IT READS IS OF BULK AT MOST 1048576: true; the input reads as it did. -/
def networkMatchesReferenceUptoRow : OpenClaim := { program := "ytajnbdjipmckpaa", sum := "47af98dcaf1be03654551c49a3fa402bae916bc7007256a370977f764869676d", func := "planisphere/planispherelaw16.NetworkMatchesReference", spec := "networkMatchesReference", inPlace := ["internal/bytealg.IndexByteString"], unfollowed := true, recurses := true, plainKeys := false, apart := false, narrowed := true }
def NetworkMatchesReferenceUptoSaid : Prop := networkMatchesReferenceUptoRow.holds Try.pinned (OpenSpec.upto networkMatchesReferenceSpec)

/-- 'planispherelaw16.NetworkAllowedMatchesReference', WHERE WHAT IT READS IS OF BULK AT MOST 1048576: true; the input reads as it did. -/
def networkAllowedMatchesReferenceUptoRow : OpenClaim := { program := "ytajnbdjipmckpaa", sum := "47af98dcaf1be03654551c49a3fa402bae916bc7007256a370977f764869676d", func := "planisphere/planispherelaw16.NetworkAllowedMatchesReference", spec := "networkAllowedMatchesReference", inPlace := ["internal/bytealg.IndexByteString"], unfollowed := true, recurses := true, plainKeys := false, apart := false, narrowed := true }
def NetworkAllowedMatchesReferenceUptoSaid : Prop := networkAllowedMatchesReferenceUptoRow.holds Try.pinned (OpenSpec.upto networkAllowedMatchesReferenceSpec)

/-- 'planispherelaw16.NetworkRoutes', WHERE WHAT IT READS IS OF BULK AT MOST 1048576: true; the input reads as it did. -/
def networkRoutesUptoRow : OpenClaim := { program := "ytajnbdjipmckpaa", sum := "47af98dcaf1be03654551c49a3fa402bae916bc7007256a370977f764869676d", func := "planisphere/planispherelaw16.NetworkRoutes", spec := "networkRoutes", inPlace := ["internal/bytealg.IndexByteString"], unfollowed := true, recurses := true, plainKeys := false, apart := false, narrowed := true }
def NetworkRoutesUptoSaid : Prop := networkRoutesUptoRow.holds Try.pinned (OpenSpec.upto networkRoutesSpec)

/-- 'planispherelaw16.NetworkArcs', WHERE WHAT IT READS IS OF BULK AT MOST 1048576: true; the input reads as it did. -/
def networkArcsUptoRow : OpenClaim := { program := "ytajnbdjipmckpaa", sum := "47af98dcaf1be03654551c49a3fa402bae916bc7007256a370977f764869676d", func := "planisphere/planispherelaw16.NetworkArcs", spec := "networkArcs", inPlace := ["internal/bytealg.IndexByteString"], unfollowed := true, recurses := true, plainKeys := false, apart := false, narrowed := true }
def NetworkArcsUptoSaid : Prop := networkArcsUptoRow.holds Try.pinned (OpenSpec.upto networkArcsSpec)

/-- 'planispherelaw16.NetworkParts', WHERE WHAT IT READS IS OF BULK AT MOST 1048576: true; the input reads as it did. -/
def networkPartsUptoRow : OpenClaim := { program := "ytajnbdjipmckpaa", sum := "47af98dcaf1be03654551c49a3fa402bae916bc7007256a370977f764869676d", func := "planisphere/planispherelaw16.NetworkParts", spec := "networkParts", inPlace := ["internal/bytealg.IndexByteString"], unfollowed := true, recurses := true, plainKeys := false, apart := false, narrowed := true }
def NetworkPartsUptoSaid : Prop := networkPartsUptoRow.holds Try.pinned (OpenSpec.upto networkPartsSpec)

/-- 'planispherelaw16.NetworkOthers', WHERE WHAT IT READS IS OF BULK AT MOST 1048576: true; the input reads as it did. -/
def networkOthersUptoRow : OpenClaim := { program := "ytajnbdjipmckpaa", sum := "47af98dcaf1be03654551c49a3fa402bae916bc7007256a370977f764869676d", func := "planisphere/planispherelaw16.NetworkOthers", spec := "networkOthers", inPlace := ["internal/bytealg.IndexByteString"], unfollowed := true, recurses := true, plainKeys := false, apart := false, narrowed := true }
def NetworkOthersUptoSaid : Prop := networkOthersUptoRow.holds Try.pinned (OpenSpec.upto networkOthersSpec)

/-- 'planispherelaw16.NetworkTurned', WHERE WHAT IT READS IS OF BULK AT MOST 1048576: true; the input reads as it did. -/
def networkTurnedUptoRow : OpenClaim := { program := "ytajnbdjipmckpaa", sum := "47af98dcaf1be03654551c49a3fa402bae916bc7007256a370977f764869676d", func := "planisphere/planispherelaw16.NetworkTurned", spec := "networkTurned", inPlace := ["internal/bytealg.IndexByteString"], unfollowed := true, recurses := true, plainKeys := false, apart := false, narrowed := true }
def NetworkTurnedUptoSaid : Prop := networkTurnedUptoRow.holds Try.pinned (OpenSpec.upto networkTurnedSpec)

/-- 'planispherelaw18.NameFolds', WHERE WHAT IT READS IS OF BULK AT MOST 1048576: true; the input reads as it did. -/
def nameFoldsUptoRow : OpenClaim := { program := "ytajnbdjipmckpaa", sum := "47af98dcaf1be03654551c49a3fa402bae916bc7007256a370977f764869676d", func := "planisphere/planispherelaw18.NameFolds", spec := "nameFolds", inPlace := ["internal/bytealg.IndexByteString", "internal/abi.NoEscape", "internal/bytealg.MakeNoZero"], unfollowed := true, recurses := true, plainKeys := false, apart := false, narrowed := true }
def NameFoldsUptoSaid : Prop := nameFoldsUptoRow.holds Try.pinned (OpenSpec.upto nameFoldsSpec)

/-- 'planispherelaw18.NameLanguages', WHERE WHAT IT READS IS OF BULK AT MOST 1048576: true; the input reads as it did. -/
def nameLanguagesUptoRow : OpenClaim := { program := "ytajnbdjipmckpaa", sum := "47af98dcaf1be03654551c49a3fa402bae916bc7007256a370977f764869676d", func := "planisphere/planispherelaw18.NameLanguages", spec := "nameLanguages", inPlace := ["internal/bytealg.IndexByteString", "internal/abi.NoEscape", "internal/bytealg.MakeNoZero"], unfollowed := true, recurses := true, plainKeys := false, apart := false, narrowed := true }
def NameLanguagesUptoSaid : Prop := nameLanguagesUptoRow.holds Try.pinned (OpenSpec.upto nameLanguagesSpec)

/-- 'planispherelaw18.NameBest', WHERE WHAT IT READS IS OF BULK AT MOST 1048576: true; the input reads as it did. -/
def nameBestUptoRow : OpenClaim := { program := "ytajnbdjipmckpaa", sum := "47af98dcaf1be03654551c49a3fa402bae916bc7007256a370977f764869676d", func := "planisphere/planispherelaw18.NameBest", spec := "nameBest", inPlace := ["internal/bytealg.IndexByteString", "internal/abi.NoEscape", "internal/bytealg.MakeNoZero"], unfollowed := true, recurses := true, plainKeys := false, apart := false, narrowed := true }
def NameBestUptoSaid : Prop := nameBestUptoRow.holds Try.pinned (OpenSpec.upto nameBestSpec)

end Rows
end Go.Proofs.Ytajnbdjipmckpaa
