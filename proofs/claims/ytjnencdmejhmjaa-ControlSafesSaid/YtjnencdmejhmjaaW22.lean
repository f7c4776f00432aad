/- CONTROL: the law ControlSafes, walked. -/
import Derived.Test.YtjnencdmejhmjaaV9
import Derived.Test.YtjnencdmejhmjaaW15
namespace Go.Proofs.Ytjnencdmejhmjaa.Eng
open Go Go.RowKit
attribute [local irreducible] insRun planRun AWP holdsAll CallOK Weak Ins.holds
set_option linter.unusedSimpArgs false
set_option linter.unusedVariables false
set_option maxHeartbeats 4000000
theorem safes_ok (p : Panel) (hsm : p.small) (l : List Sig) (hl : l.length ≤ 9223372036854775807) (ticks : Int) (rows : List Int) (hro : rows.length ≤ 9223372036854775807) : PCalls Try.prog 10 [p.av, .fz 4 (l.map Sig.av), .agg [.i ticks, ints rows]] (.b true) := by
  refine PCalls.body fn10 _ (by simp) ?_
  unfold ir10
  have h1 : ((safeV p ticks l rows).1 == (safeV p ticks l rows).1) = true := by simp
  have h2 : ((safeV p ticks l rows).2.1 == (safeV p ticks l rows).2.1) = true := by simp
  have h3 : ((safeV p ticks l rows).2.2 == (safeV p ticks l rows).2.2) = true := by simp
  (refine goA ?_; repeat (refine goN fun _ => ?_; refine goA ?_))
  refine s_call rfl ?_
  refine CallOK.pure (long_ok ticks) ?_
  cases hlo : longB ticks
  case true =>
    (refine goA ?_; repeat (refine goN fun _ => ?_; refine goA ?_))
    refine s_call rfl ?_
    refine call_works ?_
    (refine goA ?_; repeat (refine goN fun _ => ?_; refine goA ?_))
    exact post_ret rfl ⟨0, rfl⟩
  (refine goA ?_; repeat (refine goN fun _ => ?_; refine goA ?_))
  refine s_call rfl ?_
  refine CallOK.pure (safe_ok p hsm ticks l hl rows hro) ?_
  (refine goA ?_; repeat (refine goN fun _ => ?_; refine goA ?_))
  refine s_call rfl ?_
  refine CallOK.pure (rsafe_ok p hsm ticks l hl rows hro) ?_
  (refine goA ?_; repeat (refine goN fun _ => ?_; refine goA ?_))
  refine s_call rfl ?_
  refine call_works ?_
  (refine goA ?_; repeat (refine goN fun _ => ?_; refine goA ?_))
  exact post_ret rfl ⟨0, rfl⟩
end Go.Proofs.Ytjnencdmejhmjaa.Eng
