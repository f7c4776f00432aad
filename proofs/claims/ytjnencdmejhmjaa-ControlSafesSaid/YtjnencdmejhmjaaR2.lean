/- CONTROL: a law's argument of the type Film, opened. -/
import Derived.Test.YtjnencdmejhmjaaR1
namespace Go.Proofs.Ytjnencdmejhmjaa.Eng
open Go Go.RowKit
variable {H : Type} {enc : TypeId × Value → H} {W : World}
theorem op_ints : Opens enc Try.prog W 34 1 (fun l : List Int => [ints l]) (fun l => l.length ≤ 9223372036854775807) :=
  (Opens.slice (fun n : Int => AV.i n) (fun _ => rfl) Try.underlying34 (by kernel_rfl) (by decide) (Opens.int Try.underlying3)).map id (fun _ => rfl) (fun _ h => h.2)
theorem op_film : Opens enc Try.prog W 59 2 (fun z : Int × List Int => [.i z.1, ints z.2]) (fun z => I64 z.1 ∧ z.2.length ≤ 9223372036854775807) :=
  Opens.struct2 Try.underlying59 (by kernel_rfl) ⟨_, rfl, rfl, by kernel_rfl, Opens.int Try.underlying3⟩ ⟨_, rfl, rfl, by kernel_rfl, op_ints⟩
end Go.Proofs.Ytjnencdmejhmjaa.Eng
