/- CONTROL: the law ControlShuts, walked. -/
import Derived.Test.YtjnencdmejhmjaaV10
import Derived.Test.YtjnencdmejhmjaaV9
import Derived.Test.YtjnencdmejhmjaaW15
namespace Go.Proofs.Ytjnencdmejhmjaa.Eng
open Go Go.RowKit
attribute [local irreducible] insRun planRun AWP holdsAll CallOK Weak Ins.holds
set_option linter.unusedSimpArgs false
set_option linter.unusedVariables false
set_option maxHeartbeats 4000000
theorem shutsL_ok (p : Panel) (hsm : p.small) (l : List Sig) (hl : l.length ≤ 9223372036854775807) (ticks door : Int) : PCalls Try.prog 12 [p.av, .fz 4 (l.map Sig.av), .agg [.i ticks, .i door]] (.b true) := by
  refine PCalls.body fn12 _ (by simp) ?_
  unfold ir12
  have h1 : ((shutsV p ticks l door).1 != (shutsV p ticks l door).1) = false := by simp
  have h2 : ((shutsV p ticks l door).2.1 != (shutsV p ticks l door).2.1) = false := by simp
  have h3 : ((shutsV p ticks l door).2.2 != (shutsV p ticks l door).2.2) = false := by simp
  have h4 : (freesV p != freesV p) = false := by simp
  have h5 : (checkI p != checkI p) = false := by simp
  have h6 : ((tolV p door).1 == (tolV p door).1) = true := by simp
  have h7 : ((tolV p door).2 == (tolV p door).2) = true := by simp
  (refine goA ?_; repeat (refine goN fun _ => ?_; refine goA ?_))
  refine s_call rfl ?_
  refine CallOK.pure (long_ok ticks) ?_
  cases hlo : longB ticks
  case true =>
    (refine goA ?_; repeat (refine goN fun _ => ?_; refine goA ?_))
    refine s_call rfl ?_
    refine call_works ?_
    (refine goA ?_; repeat (refine goN fun _ => ?_; refine goA ?_))
    exact post_ret rfl ⟨0, rfl⟩
  (refine goA ?_; repeat (refine goN fun _ => ?_; refine goA ?_))
  refine s_call rfl ?_
  refine CallOK.pure (shuts_ok p hsm ticks l hl door) ?_
  (refine goA ?_; repeat (refine goN fun _ => ?_; refine goA ?_))
  refine s_call rfl ?_
  refine CallOK.pure (rshuts_ok p hsm ticks l hl door) ?_
  (refine goA ?_; repeat (refine goN fun _ => ?_; refine goA ?_))
  refine s_call rfl ?_
  refine CallOK.pure (Frees_ok p hsm) ?_
  (refine goA ?_; repeat (refine goN fun _ => ?_; refine goA ?_))
  refine s_call rfl ?_
  refine CallOK.pure (rfrees_ok p hsm) ?_
  (refine goA ?_; repeat (refine goN fun _ => ?_; refine goA ?_))
  refine s_call rfl ?_
  refine CallOK.pure (tol_ok p hsm door).1 ?_
  (refine goA ?_; repeat (refine goN fun _ => ?_; refine goA ?_))
  refine s_call rfl ?_
  refine CallOK.pure (tol_ok p hsm door).2 ?_
  (refine goA ?_; repeat (refine goN fun _ => ?_; refine goA ?_))
  refine s_call rfl ?_
  refine call_works ?_
  (refine goA ?_; repeat (refine goN fun _ => ?_; refine goA ?_))
  exact post_ret rfl ⟨0, rfl⟩
end Go.Proofs.Ytjnencdmejhmjaa.Eng
