/-
  No cell of these rows narrows 'for every input' (looked for: loops, veiled, ifaces, maps, wideKeys, modest, calm, conditions, laid).
  DERIVED. THE GIVEN ROWS OF THIS SEAT. 12 by the template 'for every input the law returns true; each argument reads behind the call as it read before'; 0 by the template 'total and deterministic' (their statements: YtjnencdmejhmjaaTotals.lean).
  GIVEN WITH THE SEED: the statements are not yours to turn. If you find one false, say at which input.
  Laid BY PROGRAM, IN A SANDBOX (cutbox-rows.mjs): the forced cells as the released guide's own fill.sh prints them over the translation 6c7e32e73c85208d… (all of the seat's roots in one cut). By AI agents, Wed Nov 11 2026. No macro, syntax, notation, axiom, sorry.
-/
import Derived.Test.YtjnencdmejhmjaaChecked
import GoSem.Claim
import GoSem.ClaimJoined
import GoSem.ClaimMapViews
import Derived.JoinedTies
import Derived.KernelRfl
namespace Go.Proofs.Ytjnencdmejhmjaa
/- THE CELL 'sum', in the pinned program and in every row, IS THE sha256 OF THE DUMP (.gsa) THAT YtjnencdmejhmjaaProg.lean LOADS. Nothing in Lean hashes anything: it is a label: what it is worth is what the hold of that sum in a sandbox is worth. -/
noncomputable def Try.pinned : Pinned := { name := "ytjnencdmejhmjaa", sum := "6c7e32e73c85208d4f8ab925365f620b6404cc995413a56d41e4547e2f4c38a5", checked := Try.checked }
namespace Rows
def none {H : Type} : Left H := { results := [], args := [] }

/-- 'padlocklaw08.ControlSilence': WHATEVER THE INPUT: true; the input reads as it did. -/
def controlSilenceSpec : ChangeSpec := { name := "controlSilence", fn := fun _ => fun
  | [d1, d2, d3] => { results := [.lit (.bool true)], args := [d1, d2, d3] }
  | _ => none }
def controlSilenceRow : OpenClaim := { program := "ytjnencdmejhmjaa", sum := "6c7e32e73c85208d4f8ab925365f620b6404cc995413a56d41e4547e2f4c38a5", func := "padlock/padlocklaw08.ControlSilence", spec := "controlSilence", unfollowed := true, recurses := true, plainKeys := false, apart := false }
def ControlSilenceSaid : Prop := controlSilenceRow.holds Try.pinned (OpenSpec.ofChange controlSilenceSpec)

/-- ITS FALSE NEIGHBOUR: 'it returns false'. Refute it at one input. -/
def controlSilenceWrong : ChangeSpec := { name := "controlSilence", fn := fun _ => fun
  | [d1, d2, d3] => { results := [.lit (.bool false)], args := [d1, d2, d3] }
  | _ => none }
def ControlSilenceWrongFalsely : Prop := controlSilenceRow.holds Try.pinned (OpenSpec.ofChange controlSilenceWrong)

/-- 'padlocklaw08.ControlTime': WHATEVER THE INPUT: true; the input reads as it did. -/
def controlTimeSpec : ChangeSpec := { name := "controlTime", fn := fun _ => fun
  | [d1, d2, d3] => { results := [.lit (.bool true)], args := [d1, d2, d3] }
  | _ => none }
def controlTimeRow : OpenClaim := { program := "ytjnencdmejhmjaa", sum := "6c7e32e73c85208d4f8ab925365f620b6404cc995413a56d41e4547e2f4c38a5", func := "padlock/padlocklaw08.ControlTime", spec := "controlTime", unfollowed := true, recurses := true, plainKeys := false, apart := false }
def ControlTimeSaid : Prop := controlTimeRow.holds Try.pinned (OpenSpec.ofChange controlTimeSpec)

/-- ITS FALSE NEIGHBOUR: 'it returns false'. Refute it at one input. -/
def controlTimeWrong : ChangeSpec := { name := "controlTime", fn := fun _ => fun
  | [d1, d2, d3] => { results := [.lit (.bool false)], args := [d1, d2, d3] }
  | _ => none }
def ControlTimeWrongFalsely : Prop := controlTimeRow.holds Try.pinned (OpenSpec.ofChange controlTimeWrong)

/-- 'padlocklaw08.ControlOpens': WHATEVER THE INPUT: true; the input reads as it did. -/
def controlOpensSpec : ChangeSpec := { name := "controlOpens", fn := fun _ => fun
  | [d1, d2, d3] => { results := [.lit (.bool true)], args := [d1, d2, d3] }
  | _ => none }
def controlOpensRow : OpenClaim := { program := "ytjnencdmejhmjaa", sum := "6c7e32e73c85208d4f8ab925365f620b6404cc995413a56d41e4547e2f4c38a5", func := "padlock/padlocklaw08.ControlOpens", spec := "controlOpens", unfollowed := true, recurses := true, plainKeys := false, apart := false }
def ControlOpensSaid : Prop := controlOpensRow.holds Try.pinned (OpenSpec.ofChange controlOpensSpec)

/-- ITS FALSE NEIGHBOUR: 'it returns false'. Refute it at one input. -/
def controlOpensWrong : ChangeSpec := { name := "controlOpens", fn := fun _ => fun
  | [d1, d2, d3] => { results := [.lit (.bool false)], args := [d1, d2, d3] }
  | _ => none }
def ControlOpensWrongFalsely : Prop := controlOpensRow.holds Try.pinned (OpenSpec.ofChange controlOpensWrong)

/-- 'padlocklaw08.ControlWorks': WHATEVER THE INPUT: true; the input reads as it did. -/
def controlWorksSpec : ChangeSpec := { name := "controlWorks", fn := fun _ => fun
  | [d1, d2, d3] => { results := [.lit (.bool true)], args := [d1, d2, d3] }
  | _ => none }
def controlWorksRow : OpenClaim := { program := "ytjnencdmejhmjaa", sum := "6c7e32e73c85208d4f8ab925365f620b6404cc995413a56d41e4547e2f4c38a5", func := "padlock/padlocklaw08.ControlWorks", spec := "controlWorks", unfollowed := true, recurses := true, plainKeys := false, apart := false }
def ControlWorksSaid : Prop := controlWorksRow.holds Try.pinned (OpenSpec.ofChange controlWorksSpec)

/-- ITS FALSE NEIGHBOUR: 'it returns false'. Refute it at one input. -/
def controlWorksWrong : ChangeSpec := { name := "controlWorks", fn := fun _ => fun
  | [d1, d2, d3] => { results := [.lit (.bool false)], args := [d1, d2, d3] }
  | _ => none }
def ControlWorksWrongFalsely : Prop := controlWorksRow.holds Try.pinned (OpenSpec.ofChange controlWorksWrong)

/-- 'padlocklaw08.ControlStands': WHATEVER THE INPUT: true; the input reads as it did. -/
def controlStandsSpec : ChangeSpec := { name := "controlStands", fn := fun _ => fun
  | [d1, d2, d3] => { results := [.lit (.bool true)], args := [d1, d2, d3] }
  | _ => none }
def controlStandsRow : OpenClaim := { program := "ytjnencdmejhmjaa", sum := "6c7e32e73c85208d4f8ab925365f620b6404cc995413a56d41e4547e2f4c38a5", func := "padlock/padlocklaw08.ControlStands", spec := "controlStands", unfollowed := true, recurses := true, plainKeys := false, apart := false }
def ControlStandsSaid : Prop := controlStandsRow.holds Try.pinned (OpenSpec.ofChange controlStandsSpec)

/-- ITS FALSE NEIGHBOUR: 'it returns false'. Refute it at one input. -/
def controlStandsWrong : ChangeSpec := { name := "controlStands", fn := fun _ => fun
  | [d1, d2, d3] => { results := [.lit (.bool false)], args := [d1, d2, d3] }
  | _ => none }
def ControlStandsWrongFalsely : Prop := controlStandsRow.holds Try.pinned (OpenSpec.ofChange controlStandsWrong)

/-- 'padlocklaw08.ControlPlays': WHATEVER THE INPUT: true; the input reads as it did. -/
def controlPlaysSpec : ChangeSpec := { name := "controlPlays", fn := fun _ => fun
  | [d1, d2, d3] => { results := [.lit (.bool true)], args := [d1, d2, d3] }
  | _ => none }
def controlPlaysRow : OpenClaim := { program := "ytjnencdmejhmjaa", sum := "6c7e32e73c85208d4f8ab925365f620b6404cc995413a56d41e4547e2f4c38a5", func := "padlock/padlocklaw08.ControlPlays", spec := "controlPlays", unfollowed := true, recurses := true, plainKeys := false, apart := false }
def ControlPlaysSaid : Prop := controlPlaysRow.holds Try.pinned (OpenSpec.ofChange controlPlaysSpec)

/-- ITS FALSE NEIGHBOUR: 'it returns false'. Refute it at one input. -/
def controlPlaysWrong : ChangeSpec := { name := "controlPlays", fn := fun _ => fun
  | [d1, d2, d3] => { results := [.lit (.bool false)], args := [d1, d2, d3] }
  | _ => none }
def ControlPlaysWrongFalsely : Prop := controlPlaysRow.holds Try.pinned (OpenSpec.ofChange controlPlaysWrong)

/-- 'padlocklaw08.ControlKnows': WHATEVER THE INPUT: true; the input reads as it did. -/
def controlKnowsSpec : ChangeSpec := { name := "controlKnows", fn := fun _ => fun
  | [d1, d2, d3] => { results := [.lit (.bool true)], args := [d1, d2, d3] }
  | _ => none }
def controlKnowsRow : OpenClaim := { program := "ytjnencdmejhmjaa", sum := "6c7e32e73c85208d4f8ab925365f620b6404cc995413a56d41e4547e2f4c38a5", func := "padlock/padlocklaw08.ControlKnows", spec := "controlKnows", unfollowed := true, recurses := true, plainKeys := false, apart := false }
def ControlKnowsSaid : Prop := controlKnowsRow.holds Try.pinned (OpenSpec.ofChange controlKnowsSpec)

/-- ITS FALSE NEIGHBOUR: 'it returns false'. Refute it at one input. -/
def controlKnowsWrong : ChangeSpec := { name := "controlKnows", fn := fun _ => fun
  | [d1, d2, d3] => { results := [.lit (.bool false)], args := [d1, d2, d3] }
  | _ => none }
def ControlKnowsWrongFalsely : Prop := controlKnowsRow.holds Try.pinned (OpenSpec.ofChange controlKnowsWrong)

/-- 'padlocklaw08.ControlSafes': WHATEVER THE INPUT: true; the input reads as it did. -/
def controlSafesSpec : ChangeSpec := { name := "controlSafes", fn := fun _ => fun
  | [d1, d2, d3] => { results := [.lit (.bool true)], args := [d1, d2, d3] }
  | _ => none }
def controlSafesRow : OpenClaim := { program := "ytjnencdmejhmjaa", sum := "6c7e32e73c85208d4f8ab925365f620b6404cc995413a56d41e4547e2f4c38a5", func := "padlock/padlocklaw08.ControlSafes", spec := "controlSafes", unfollowed := true, recurses := true, plainKeys := false, apart := false }
def ControlSafesSaid : Prop := controlSafesRow.holds Try.pinned (OpenSpec.ofChange controlSafesSpec)

/-- ITS FALSE NEIGHBOUR: 'it returns false'. Refute it at one input. -/
def controlSafesWrong : ChangeSpec := { name := "controlSafes", fn := fun _ => fun
  | [d1, d2, d3] => { results := [.lit (.bool false)], args := [d1, d2, d3] }
  | _ => none }
def ControlSafesWrongFalsely : Prop := controlSafesRow.holds Try.pinned (OpenSpec.ofChange controlSafesWrong)

/-- 'padlocklaw08.ControlPower': WHATEVER THE INPUT: true; the input reads as it did. -/
def controlPowerSpec : ChangeSpec := { name := "controlPower", fn := fun _ => fun
  | [d1, d2, d3] => { results := [.lit (.bool true)], args := [d1, d2, d3] }
  | _ => none }
def controlPowerRow : OpenClaim := { program := "ytjnencdmejhmjaa", sum := "6c7e32e73c85208d4f8ab925365f620b6404cc995413a56d41e4547e2f4c38a5", func := "padlock/padlocklaw08.ControlPower", spec := "controlPower", unfollowed := true, recurses := true, plainKeys := false, apart := false }
def ControlPowerSaid : Prop := controlPowerRow.holds Try.pinned (OpenSpec.ofChange controlPowerSpec)

/-- ITS FALSE NEIGHBOUR: 'it returns false'. Refute it at one input. -/
def controlPowerWrong : ChangeSpec := { name := "controlPower", fn := fun _ => fun
  | [d1, d2, d3] => { results := [.lit (.bool false)], args := [d1, d2, d3] }
  | _ => none }
def ControlPowerWrongFalsely : Prop := controlPowerRow.holds Try.pinned (OpenSpec.ofChange controlPowerWrong)

/-- 'padlocklaw08.ControlShuts': WHATEVER THE INPUT: true; the input reads as it did. -/
def controlShutsSpec : ChangeSpec := { name := "controlShuts", fn := fun _ => fun
  | [d1, d2, d3] => { results := [.lit (.bool true)], args := [d1, d2, d3] }
  | _ => none }
def controlShutsRow : OpenClaim := { program := "ytjnencdmejhmjaa", sum := "6c7e32e73c85208d4f8ab925365f620b6404cc995413a56d41e4547e2f4c38a5", func := "padlock/padlocklaw08.ControlShuts", spec := "controlShuts", unfollowed := true, recurses := true, plainKeys := false, apart := false }
def ControlShutsSaid : Prop := controlShutsRow.holds Try.pinned (OpenSpec.ofChange controlShutsSpec)

/-- ITS FALSE NEIGHBOUR: 'it returns false'. Refute it at one input. -/
def controlShutsWrong : ChangeSpec := { name := "controlShuts", fn := fun _ => fun
  | [d1, d2, d3] => { results := [.lit (.bool false)], args := [d1, d2, d3] }
  | _ => none }
def ControlShutsWrongFalsely : Prop := controlShutsRow.holds Try.pinned (OpenSpec.ofChange controlShutsWrong)

/-- 'padlocklaw08.ControlCuts': WHATEVER THE INPUT: true; the input reads as it did. -/
def controlCutsSpec : ChangeSpec := { name := "controlCuts", fn := fun _ => fun
  | [d1, d2, d3] => { results := [.lit (.bool true)], args := [d1, d2, d3] }
  | _ => none }
def controlCutsRow : OpenClaim := { program := "ytjnencdmejhmjaa", sum := "6c7e32e73c85208d4f8ab925365f620b6404cc995413a56d41e4547e2f4c38a5", func := "padlock/padlocklaw08.ControlCuts", spec := "controlCuts", unfollowed := true, recurses := true, plainKeys := false, apart := false }
def ControlCutsSaid : Prop := controlCutsRow.holds Try.pinned (OpenSpec.ofChange controlCutsSpec)

/-- ITS FALSE NEIGHBOUR: 'it returns false'. Refute it at one input. -/
def controlCutsWrong : ChangeSpec := { name := "controlCuts", fn := fun _ => fun
  | [d1, d2, d3] => { results := [.lit (.bool false)], args := [d1, d2, d3] }
  | _ => none }
def ControlCutsWrongFalsely : Prop := controlCutsRow.holds Try.pinned (OpenSpec.ofChange controlCutsWrong)

/-- 'padlocklaw08.ControlLost': WHATEVER THE INPUT: true; the input reads as it did. -/
def controlLostSpec : ChangeSpec := { name := "controlLost", fn := fun _ => fun
  | [d1, d2, d3] => { results := [.lit (.bool true)], args := [d1, d2, d3] }
  | _ => none }
def controlLostRow : OpenClaim := { program := "ytjnencdmejhmjaa", sum := "6c7e32e73c85208d4f8ab925365f620b6404cc995413a56d41e4547e2f4c38a5", func := "padlock/padlocklaw08.ControlLost", spec := "controlLost", unfollowed := true, recurses := true, plainKeys := false, apart := false }
def ControlLostSaid : Prop := controlLostRow.holds Try.pinned (OpenSpec.ofChange controlLostSpec)

/-- ITS FALSE NEIGHBOUR: 'it returns false'. Refute it at one input. -/
def controlLostWrong : ChangeSpec := { name := "controlLost", fn := fun _ => fun
  | [d1, d2, d3] => { results := [.lit (.bool false)], args := [d1, d2, d3] }
  | _ => none }
def ControlLostWrongFalsely : Prop := controlLostRow.holds Try.pinned (OpenSpec.ofChange controlLostWrong)

/- THE SECOND FORM. 'bulk': how many values and letters a reading holds, each counted each time it is reached (what is shared counts as often as it is met; a slice's spare places count too). A statement '..UptoSaid' is the law's where the arguments, and the package variables that the reading takes, are together of bulk at most 1048576: NARROWER than '..Said'. Prove '..Said' where nothing that the law and all that it calls make is longer than what came in: it says more and counts as full. Else prove '..UptoSaid'. A law counts once. -/
mutual
def uptoBulk {H : Type} : DataW H → Nat
  | .lit (.string bytes) => bytes.length + 1
  | .lit _ => 1
  | .nil => 1
  | .ptr d => uptoBulk d + 1
  | .slice elems spare => uptoBulkAll elems + uptoBulkAll spare + 1
  | .agg parts => uptoBulkAll parts + 1
  | .iface _ d => uptoBulk d + 1
  | .map entries => uptoBulkEntries entries + 1
  | .held _ => 1
def uptoBulkAll {H : Type} : List (DataW H) → Nat
  | [] => 0
  | d :: r => uptoBulk d + uptoBulkAll r
def uptoBulkEntries {H : Type} : List (Lit × DataW H) → Nat
  | [] => 0
  | x :: r => uptoBulkEntry x + uptoBulkEntries r
def uptoBulkEntry {H : Type} : Lit × DataW H → Nat
  | (.string bytes, d) => bytes.length + uptoBulk d + 1
  | (_, d) => uptoBulk d + 1
 end
def uptoSmall : (H : Type) → List (DataW H) → Bool := fun _ ds => decide (uptoBulkAll ds ≤ 1048576)
def OpenSpec.upto (s : _root_.Go.ChangeSpec) : _root_.Go.OpenSpec := { _root_.Go.OpenSpec.ofChange s with cond := some uptoSmall }

/-- 'padlocklaw08.ControlSilence', WHERE WHAT IT READS IS OF BULK AT MOST 1048576: true; the input reads as it did. -/
def controlSilenceUptoRow : OpenClaim := { program := "ytjnencdmejhmjaa", sum := "6c7e32e73c85208d4f8ab925365f620b6404cc995413a56d41e4547e2f4c38a5", func := "padlock/padlocklaw08.ControlSilence", spec := "controlSilence", unfollowed := true, recurses := true, plainKeys := false, apart := false, narrowed := true }
def ControlSilenceUptoSaid : Prop := controlSilenceUptoRow.holds Try.pinned (OpenSpec.upto controlSilenceSpec)

/-- 'padlocklaw08.ControlTime', WHERE WHAT IT READS IS OF BULK AT MOST 1048576: true; the input reads as it did. -/
def controlTimeUptoRow : OpenClaim := { program := "ytjnencdmejhmjaa", sum := "6c7e32e73c85208d4f8ab925365f620b6404cc995413a56d41e4547e2f4c38a5", func := "padlock/padlocklaw08.ControlTime", spec := "controlTime", unfollowed := true, recurses := true, plainKeys := false, apart := false, narrowed := true }
def ControlTimeUptoSaid : Prop := controlTimeUptoRow.holds Try.pinned (OpenSpec.upto controlTimeSpec)

/-- 'padlocklaw08.ControlOpens', WHERE WHAT IT READS IS OF BULK AT MOST 1048576: true; the input reads as it did. -/
def controlOpensUptoRow : OpenClaim := { program := "ytjnencdmejhmjaa", sum := "6c7e32e73c85208d4f8ab925365f620b6404cc995413a56d41e4547e2f4c38a5", func := "padlock/padlocklaw08.ControlOpens", spec := "controlOpens", unfollowed := true, recurses := true, plainKeys := false, apart := false, narrowed := true }
def ControlOpensUptoSaid : Prop := controlOpensUptoRow.holds Try.pinned (OpenSpec.upto controlOpensSpec)

/-- 'padlocklaw08.ControlWorks', WHERE WHAT IT READS IS OF BULK AT MOST 1048576: true; the input reads as it did. -/
def controlWorksUptoRow : OpenClaim := { program := "ytjnencdmejhmjaa", sum := "6c7e32e73c85208d4f8ab925365f620b6404cc995413a56d41e4547e2f4c38a5", func := "padlock/padlocklaw08.ControlWorks", spec := "controlWorks", unfollowed := true, recurses := true, plainKeys := false, apart := false, narrowed := true }
def ControlWorksUptoSaid : Prop := controlWorksUptoRow.holds Try.pinned (OpenSpec.upto controlWorksSpec)

/-- 'padlocklaw08.ControlStands', WHERE WHAT IT READS IS OF BULK AT MOST 1048576: true; the input reads as it did. -/
def controlStandsUptoRow : OpenClaim := { program := "ytjnencdmejhmjaa", sum := "6c7e32e73c85208d4f8ab925365f620b6404cc995413a56d41e4547e2f4c38a5", func := "padlock/padlocklaw08.ControlStands", spec := "controlStands", unfollowed := true, recurses := true, plainKeys := false, apart := false, narrowed := true }
def ControlStandsUptoSaid : Prop := controlStandsUptoRow.holds Try.pinned (OpenSpec.upto controlStandsSpec)

/-- 'padlocklaw08.ControlPlays', WHERE WHAT IT READS IS OF BULK AT MOST 1048576: true; the input reads as it did. -/
def controlPlaysUptoRow : OpenClaim := { program := "ytjnencdmejhmjaa", sum := "6c7e32e73c85208d4f8ab925365f620b6404cc995413a56d41e4547e2f4c38a5", func := "padlock/padlocklaw08.ControlPlays", spec := "controlPlays", unfollowed := true, recurses := true, plainKeys := false, apart := false, narrowed := true }
def ControlPlaysUptoSaid : Prop := controlPlaysUptoRow.holds Try.pinned (OpenSpec.upto controlPlaysSpec)

/-- 'padlocklaw08.ControlKnows', WHERE WHAT IT READS IS OF BULK AT MOST 1048576: true; the input reads as it did. -/
def controlKnowsUptoRow : OpenClaim := { program := "ytjnencdmejhmjaa", sum := "6c7e32e73c85208d4f8ab925365f620b6404cc995413a56d41e4547e2f4c38a5", func := "padlock/padlocklaw08.ControlKnows", spec := "controlKnows", unfollowed := true, recurses := true, plainKeys := false, apart := false, narrowed := true }
def ControlKnowsUptoSaid : Prop := controlKnowsUptoRow.holds Try.pinned (OpenSpec.upto controlKnowsSpec)

/-- 'padlocklaw08.ControlSafes', WHERE WHAT IT READS IS OF BULK AT MOST 1048576: true; the input reads as it did. -/
def controlSafesUptoRow : OpenClaim := { program := "ytjnencdmejhmjaa", sum := "6c7e32e73c85208d4f8ab925365f620b6404cc995413a56d41e4547e2f4c38a5", func := "padlock/padlocklaw08.ControlSafes", spec := "controlSafes", unfollowed := true, recurses := true, plainKeys := false, apart := false, narrowed := true }
def ControlSafesUptoSaid : Prop := controlSafesUptoRow.holds Try.pinned (OpenSpec.upto controlSafesSpec)

/-- 'padlocklaw08.ControlPower', WHERE WHAT IT READS IS OF BULK AT MOST 1048576: true; the input reads as it did. -/
def controlPowerUptoRow : OpenClaim := { program := "ytjnencdmejhmjaa", sum := "6c7e32e73c85208d4f8ab925365f620b6404cc995413a56d41e4547e2f4c38a5", func := "padlock/padlocklaw08.ControlPower", spec := "controlPower", unfollowed := true, recurses := true, plainKeys := false, apart := false, narrowed := true }
def ControlPowerUptoSaid : Prop := controlPowerUptoRow.holds Try.pinned (OpenSpec.upto controlPowerSpec)

/-- 'padlocklaw08.ControlShuts', WHERE WHAT IT READS IS OF BULK AT MOST 1048576: true; the input reads as it did. -/
def controlShutsUptoRow : OpenClaim := { program := "ytjnencdmejhmjaa", sum := "6c7e32e73c85208d4f8ab925365f620b6404cc995413a56d41e4547e2f4c38a5", func := "padlock/padlocklaw08.ControlShuts", spec := "controlShuts", unfollowed := true, recurses := true, plainKeys := false, apart := false, narrowed := true }
def ControlShutsUptoSaid : Prop := controlShutsUptoRow.holds Try.pinned (OpenSpec.upto controlShutsSpec)

/-- 'padlocklaw08.ControlCuts', WHERE WHAT IT READS IS OF BULK AT MOST 1048576: true; the input reads as it did. -/
def controlCutsUptoRow : OpenClaim := { program := "ytjnencdmejhmjaa", sum := "6c7e32e73c85208d4f8ab925365f620b6404cc995413a56d41e4547e2f4c38a5", func := "padlock/padlocklaw08.ControlCuts", spec := "controlCuts", unfollowed := true, recurses := true, plainKeys := false, apart := false, narrowed := true }
def ControlCutsUptoSaid : Prop := controlCutsUptoRow.holds Try.pinned (OpenSpec.upto controlCutsSpec)

/-- 'padlocklaw08.ControlLost', WHERE WHAT IT READS IS OF BULK AT MOST 1048576: true; the input reads as it did. -/
def controlLostUptoRow : OpenClaim := { program := "ytjnencdmejhmjaa", sum := "6c7e32e73c85208d4f8ab925365f620b6404cc995413a56d41e4547e2f4c38a5", func := "padlock/padlocklaw08.ControlLost", spec := "controlLost", unfollowed := true, recurses := true, plainKeys := false, apart := false, narrowed := true }
def ControlLostUptoSaid : Prop := controlLostUptoRow.holds Try.pinned (OpenSpec.upto controlLostSpec)

end Rows
end Go.Proofs.Ytjnencdmejhmjaa
