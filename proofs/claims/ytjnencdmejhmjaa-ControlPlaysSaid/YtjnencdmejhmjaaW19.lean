/- CONTROL: the law ControlPlays, walked. -/
import Derived.Test.YtjnencdmejhmjaaV7
import Derived.Test.YtjnencdmejhmjaaW15
namespace Go.Proofs.Ytjnencdmejhmjaa.Eng
open Go Go.RowKit
attribute [local irreducible] insRun planRun AWP holdsAll CallOK Weak Ins.holds
set_option linter.unusedSimpArgs false
set_option linter.unusedVariables false
set_option maxHeartbeats 4000000
theorem nats_ints (R : List Nat) : nats R = (R.map fun n : Nat => (n : Int)).map .i := by simp [nats]
theorem sameNats (R : List Nat) (hR : R.length ≤ 1000000) : PCalls Try.prog 29 [.fz 1 (nats R), .fz 1 (nats R)] (.b true) := by
  have h := sameInts_ok (R.map fun n : Nat => (n : Int)) (R.map fun n : Nat => (n : Int)) (by simp; omega)
  rw [← nats_ints] at h
  simpa using h
theorem playR_len (p : Panel) (ticks : Int) (l : List Sig) : (playR p ticks l).length ≤ 1000 := by
  by_cases h : beginE p ticks l = 0
  · obtain ⟨T, rfl⟩ : ∃ T : Nat, ticks = T := ⟨ticks.toNat, by have := (begin_good h).2.1; omega⟩
    rw [(play_rows h).1]
    have := (begin_good h).2.1; omega
  · rw [playR, if_neg h]; simp
theorem kV_len (p : Panel) (ticks : Int) (l : List Sig) : (kV p ticks l).length ≤ 1000 ∧ (kA p ticks l).length ≤ 1000 ∧ (∀ x ∈ kV p ticks l, x.length ≤ 1000000) ∧ (∀ x ∈ kA p ticks l, x.length ≤ 1000000) := by
  by_cases h : beginE p ticks l = 0
  · have h1 := begin_good h
    have hs := (pgood h1.1).sen
    rw [kV, kA, if_pos h, if_pos h, knowV_len, knowA_len]
    refine ⟨by omega, by omega, fun x hx => ?_, fun x hx => ?_⟩
    · simp only [knowV, List.mem_map] at hx
      obtain ⟨t, _, rfl⟩ := hx
      rw [(memOf_len p l (t + 1)).2.1]; omega
    · simp only [knowA, List.mem_map] at hx
      obtain ⟨t, _, rfl⟩ := hx
      rw [(memOf_len p l (t + 1)).2.2]; omega
  · rw [kV, kA, if_neg h, if_neg h]; simp
theorem plays_ok (p : Panel) (hsm : p.small) (ticks : Int) (l : List Sig) (hl : l.length ≤ 9223372036854775807) : PCalls Try.prog 8 [p.av, .i ticks, .fz 4 (l.map Sig.av)] (.b true) := by
  refine PCalls.body fn8 _ (by simp) ?_
  unfold ir8
  (refine goA ?_; repeat (refine goN fun _ => ?_; refine goA ?_))
  rename_i a3
  refine s_call rfl ?_
  refine CallOK.pure (long_ok ticks) ?_
  cases hlo : longB ticks
  case true =>
    (refine goA ?_; repeat (refine goN fun _ => ?_; refine goA ?_))
    refine s_call rfl ?_
    refine call_works ?_
    (refine goA ?_; repeat (refine goN fun _ => ?_; refine goA ?_))
    exact post_ret rfl ⟨0, rfl⟩
  have h1 : (checkI p != checkI p) = false := by simp
  have h2 : (playE p ticks l != beginE p ticks l) = false := by simp [playE]
  have h3 : (beginE p ticks l == beginE p ticks l) = true := by simp
  obtain ⟨q1, q2, q3, q4⟩ := kV_len p ticks l
  (refine goA ?_; repeat (refine goN fun _ => ?_; refine goA ?_))
  refine s_call rfl ?_
  refine CallOK.pure (check_ok p hsm) ?_
  (refine goA ?_; repeat (refine goN fun _ => ?_; refine goA ?_))
  refine s_call rfl ?_
  refine CallOK.pure (rcheck_ok p hsm) ?_
  (refine goA ?_; repeat (refine goN fun _ => ?_; refine goA ?_))
  refine s_call rfl ?_
  refine CallOK.pure (play_ok p hsm ticks l hl) ?_
  (refine goA ?_; repeat (refine goN fun _ => ?_; refine goA ?_))
  refine s_call rfl ?_
  refine CallOK.pure (rplay_ok p hsm ticks l hl) ?_
  rw [rplay_eq]
  (refine goA ?_; repeat (refine goN fun _ => ?_; refine goA ?_))
  refine s_call rfl ?_
  refine CallOK.pure (sameNats (playR p ticks l) (by have := playR_len p ticks l; omega)) ?_
  (refine goA ?_; repeat (refine goN fun _ => ?_; refine goA ?_))
  refine s_call rfl ?_
  refine CallOK.pure (knows_ok p hsm ticks l hl) ?_
  (refine goA ?_; repeat (refine goN fun _ => ?_; refine goA ?_))
  refine s_call rfl ?_
  refine CallOK.pure (rknows_ok p hsm ticks l hl) ?_
  (refine goA ?_; repeat (refine goN fun _ => ?_; refine goA ?_))
  refine s_call rfl ?_
  refine CallOK.pure (sameLists_refl (kV p ticks l) (by omega) q3) ?_
  (refine goA ?_; repeat (refine goN fun _ => ?_; refine goA ?_))
  refine s_call rfl ?_
  refine CallOK.pure (sameLists_refl (kA p ticks l) (by omega) q4) ?_
  (refine goA ?_; repeat (refine goN fun _ => ?_; refine goA ?_))
  refine s_call rfl ?_
  refine call_works ?_
  (refine goA ?_; repeat (refine goN fun _ => ?_; refine goA ?_))
  exact post_ret rfl ⟨0, rfl⟩
end Go.Proofs.Ytjnencdmejhmjaa.Eng
