/- CONTROL: the law ControlPower, walked. -/
import Derived.Test.YtjnencdmejhmjaaV8
import Derived.Test.YtjnencdmejhmjaaV1
import Derived.Test.YtjnencdmejhmjaaW15
namespace Go.Proofs.Ytjnencdmejhmjaa.Eng
open Go Go.RowKit
attribute [local irreducible] insRun planRun AWP holdsAll CallOK Weak Ins.holds
set_option linter.unusedSimpArgs false
set_option linter.unusedVariables false
set_option maxHeartbeats 4000000
theorem nats_ints2 (R : List Nat) : nats R = (R.map fun n : Nat => (n : Int)).map .i := by simp [nats]
theorem row_pow {p : Panel} {l : List Sig} {t r : Nat} (h1 : r < 2 ^ p.doors.length) (h2 : ∀ k, k < p.doors.length → r.testBit k = shutN p l t k) (h3 : powTo l (t + 1) = false) : r = 0 := by
  apply Nat.eq_of_testBit_eq
  intro k
  rw [Nat.zero_testBit]
  by_cases hk : k < p.doors.length
  · rw [h2 k hk]
    simp [shutN, doorN, nextD, h3]
  · exact Nat.testBit_lt_two_pow (Nat.lt_of_lt_of_le h1 (Nat.pow_le_pow_right (by omega) (by omega)))
theorem power_ok (p : Panel) (hsm : p.small) (ticks : Int) (l : List Sig) (hl : l.length ≤ 9223372036854775807) : PCalls Try.prog 11 [p.av, .i ticks, .fz 4 (l.map Sig.av)] (.b true) := by
  refine PCalls.body fn11 _ (by simp) ?_
  unfold ir11
  (refine goA ?_; repeat (refine goN fun _ => ?_; refine goA ?_))
  rename_i a3
  refine s_call rfl ?_
  refine CallOK.pure (long_ok ticks) ?_
  cases hlo : longB ticks
  case true =>
    (refine goA ?_; repeat (refine goN fun _ => ?_; refine goA ?_))
    refine s_call rfl ?_
    refine call_works ?_
    (refine goA ?_; repeat (refine goN fun _ => ?_; refine goA ?_))
    exact post_ret rfl ⟨0, rfl⟩
  (refine goA ?_; repeat (refine goN fun _ => ?_; refine goA ?_))
  refine s_call rfl ?_
  refine CallOK.pure (play_ok p hsm ticks l hl) ?_
  by_cases hE : beginE p ticks l = 0
  case neg =>
    have hne : (playE p ticks l != 0) = true := by simp [playE, hE]
    (refine goA ?_; repeat (refine goN fun _ => ?_; refine goA ?_))
    refine s_call rfl ?_
    refine call_works ?_
    (refine goA ?_; repeat (refine goN fun _ => ?_; refine goA ?_))
    exact post_ret rfl ⟨0, rfl⟩
  obtain ⟨T, rfl⟩ : ∃ T : Nat, ticks = T := ⟨ticks.toNat, by have := (begin_good hE).2.1; omega⟩
  have hT : T ≤ 1000 := by have := (begin_good hE).2.1; omega
  have hps := play_safe hE
  rw [show playE p T l = 0 from hE]
  obtain ⟨hRl, hRb⟩ := play_rows hE
  generalize playR p T l = R at hRl hRb hps ⊢
  have hg := pgood (begin_good hE).1
  have hdl := hg.len
  have hsh : IntKind.i64.wrap (1 * 2 ^ min (IntKind.u64.wrap (((p.doors.map Gate.av).length : Nat) : Int)).toNat IntKind.i64.bits) = ((2 ^ p.doors.length : Nat) : Int) := by
    rw [List.length_map]; exact (shls ⟨p.doors.length, by omega⟩).2
  have hl5 : (((nats R).length : Int) != (T : Int)) = false := by simp [nats, hRl]
  (refine goA ?_; repeat (refine goN fun _ => ?_; refine goA ?_))
  refine AWP.loopS (σ := Nat) (fun t => [(9, .i (t : Nat)), (7, .fz 1 (nats R)), (1, .i (T : Nat)), (2, .fz 4 (l.map Sig.av)), (3, .ptr 3 a3 4 0 0)]) (fun _ => [(3, a3, .arr 4 [p.av])]) (fun t => t ≤ T) (fun t => T - t) 0 (by first | (refine Weak.of ?_; (repeat (first | exact trivial | refine ⟨rfl, ?_⟩ | refine ⟨by simp [Env.get], ?_⟩)); done) | (refine Weak.pick (by repeat (first | exact trivial | refine ⟨rfl, ?_⟩ | refine ⟨by simp [Env.get], ?_⟩)) (by first | rfl | (simp [pickH, Heap.get, Heap.del, Heap.set, ofV_i, ofV_b]; done)))) (by first | omega | (dsimp only; omega)) ?_
  intro t ht K2 hK2
  try dsimp only at ht hK2 ⊢
  by_cases hlt : t < T
  · obtain ⟨r, r1, r2, r3⟩ := hRb t hlt
    have hr2 : (nats R)[t]? = some (.i (r : Nat)) := get_map (fun n : Nat => AV.i (n : Nat)) r1
    have hrz := row_pow r2 r3
    have hge : decide ((r : Int) ≥ IntKind.i64.wrap (1 * 2 ^ min (IntKind.u64.wrap (((p.doors.map Gate.av).length : Nat) : Int)).toNat IntKind.i64.bits)) = false := by
      rw [hsh]
      have := Int.ofNat_lt.2 r2
      simp only [decide_eq_false_iff_not]; omega
    by_cases hr0 : r = 0
    · subst hr0
      (refine goA ?_; repeat (refine goN fun _ => ?_; refine goA ?_))
      refine hK2 (t + 1) _ _ (by omega) (by omega) ?_
      exact (by first | (refine Weak.of ?_; (repeat (first | exact trivial | refine ⟨rfl, ?_⟩ | refine ⟨by simp [Env.get], ?_⟩)); done) | (refine Weak.pick (by repeat (first | exact trivial | refine ⟨rfl, ?_⟩ | refine ⟨by simp [Env.get], ?_⟩)) (by first | rfl | (simp [pickH, Heap.get, Heap.del, Heap.set, ofV_i, ofV_b]; done))))
    · cases hp : powTo l (t + 1)
      · exact absurd (hrz hp) hr0
      · (refine goA ?_; repeat (refine goN fun _ => ?_; refine goA ?_))
        refine s_call rfl ?_
        refine CallOK.pure (powered_ok l hl t (by omega)) ?_
        rw [hp]
        (refine goA ?_; repeat (refine goN fun _ => ?_; refine goA ?_))
        refine hK2 (t + 1) _ _ (by omega) (by omega) ?_
        exact (by first | (refine Weak.of ?_; (repeat (first | exact trivial | refine ⟨rfl, ?_⟩ | refine ⟨by simp [Env.get], ?_⟩)); done) | (refine Weak.pick (by repeat (first | exact trivial | refine ⟨rfl, ?_⟩ | refine ⟨by simp [Env.get], ?_⟩)) (by first | rfl | (simp [pickH, Heap.get, Heap.del, Heap.set, ofV_i, ofV_b]; done))))
  · (refine goA ?_; repeat (refine goN fun _ => ?_; refine goA ?_))
    refine s_call rfl ?_
    rw [nats_ints2]
    refine CallOK.pure (safe_ok p hsm T l hl (R.map fun n : Nat => (n : Int)) (by simp; omega)) ?_
    rw [hps]
    (refine goA ?_; repeat (refine goN fun _ => ?_; refine goA ?_))
    refine s_call rfl ?_
    refine call_works ?_
    (refine goA ?_; repeat (refine goN fun _ => ?_; refine goA ?_))
    exact post_ret rfl ⟨0, rfl⟩
end Go.Proofs.Ytjnencdmejhmjaa.Eng
