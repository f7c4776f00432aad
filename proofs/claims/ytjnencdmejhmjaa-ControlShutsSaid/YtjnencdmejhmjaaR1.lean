/- CONTROL: the laws' arguments, opened. -/
import Derived.Test.YtjnencdmejhmjaaEB
import Derived.Test.YtjnencdmejhmjaaS0
import Derived.Test.YtjnencdmejhmjaaProg
namespace Go.Proofs.Ytjnencdmejhmjaa.Eng
open Go Go.RowKit
variable {H : Type} {enc : TypeId × Value → H} {W : World}
def I64 (n : Int) : Prop := -9223372036854775808 ≤ n ∧ n ≤ 9223372036854775807
theorem op_sense : Opens enc Try.prog W 44 3 (fun x : Sense => [.i x.sensor, .i x.value, .b x.neg]) (fun _ => True) :=
  (Opens.struct3 Try.underlying44 (by kernel_rfl) ⟨_, rfl, rfl, by kernel_rfl, Opens.int Try.underlying3⟩ ⟨_, rfl, rfl, by kernel_rfl, Opens.int Try.underlying3⟩ ⟨_, rfl, rfl, by kernel_rfl, Opens.bool Try.underlying4⟩).map (fun z => (⟨z.1, z.2.1, z.2.2⟩ : Sense)) (fun _ => rfl) (fun _ _ => trivial)
theorem op_gate : Opens enc Try.prog W 33 2 (fun x : Gate => [.i x.wait, .fz 3 (x.whens.map Sense.av)]) (fun g => g.whens.length ≤ 9223372036854775807) :=
  (Opens.struct2 Try.underlying33 (by kernel_rfl) ⟨_, rfl, rfl, by kernel_rfl, Opens.int Try.underlying3⟩ ⟨_, rfl, rfl, by kernel_rfl, Opens.slice Sense.av (fun _ => rfl) Try.underlying31 (by kernel_rfl) (by decide) op_sense⟩).map (fun z => (⟨z.1, z.2⟩ : Gate)) (fun _ => rfl) (fun _ h => h.2.2)
theorem op_panel : Opens enc Try.prog W 24 4 Panel.cells Panel.small :=
  (Opens.struct4 Try.underlying24 (by kernel_rfl) ⟨_, rfl, rfl, by kernel_rfl, Opens.int Try.underlying3⟩ ⟨_, rfl, rfl, by kernel_rfl, Opens.slice Gate.av (fun _ => rfl) Try.underlying22 (by kernel_rfl) (by decide) op_gate⟩ ⟨_, rfl, rfl, by kernel_rfl, Opens.int Try.underlying3⟩ ⟨_, rfl, rfl, by kernel_rfl, Opens.int Try.underlying3⟩).map (fun z => (⟨z.1, z.2.1, z.2.2.1, z.2.2.2⟩ : Panel)) (fun _ => rfl) (fun _ h => ⟨h.2.1.2, h.2.1.1⟩)
theorem op_sig : Opens enc Try.prog W 46 4 Sig.cells (fun _ => True) :=
  (Opens.struct4 Try.underlying46 (by kernel_rfl) ⟨_, rfl, rfl, by kernel_rfl, Opens.int Try.underlying3⟩ ⟨_, rfl, rfl, by kernel_rfl, Opens.int Try.underlying3⟩ ⟨_, rfl, rfl, by kernel_rfl, Opens.int Try.underlying3⟩ ⟨_, rfl, rfl, by kernel_rfl, Opens.int Try.underlying3⟩).map (fun z => (⟨z.1, z.2.1, z.2.2.1, z.2.2.2⟩ : Sig)) (fun _ => rfl) (fun _ _ => trivial)
theorem op_sigs : Opens enc Try.prog W 25 1 (fun l : List Sig => [.fz 4 (l.map Sig.av)]) (fun l => l.length ≤ 9223372036854775807) :=
  (Opens.slice Sig.av (fun _ => rfl) Try.underlying25 (by kernel_rfl) (by decide) op_sig).map id (fun _ => rfl) (fun _ h => h.2)
theorem op_where : Opens enc Try.prog W 27 2 (fun z : Int × Int => [.i z.1, .i z.2]) (fun z => I64 z.1 ∧ I64 z.2) :=
  Opens.struct2 Try.underlying27 (by kernel_rfl) ⟨_, rfl, rfl, by kernel_rfl, Opens.int Try.underlying3⟩ ⟨_, rfl, rfl, by kernel_rfl, Opens.int Try.underlying3⟩
end Go.Proofs.Ytjnencdmejhmjaa.Eng
