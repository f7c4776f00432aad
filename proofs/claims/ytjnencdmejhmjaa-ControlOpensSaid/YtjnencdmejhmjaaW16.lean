/- CONTROL: the law ControlOpens, walked. -/
import Derived.Test.YtjnencdmejhmjaaV6
import Derived.Test.YtjnencdmejhmjaaW15
import Derived.Test.YtjnencdmejhmjaaP7
namespace Go.Proofs.Ytjnencdmejhmjaa.Eng
open Go Go.RowKit
attribute [local irreducible] insRun planRun AWP holdsAll CallOK Weak Ins.holds
set_option linter.unusedSimpArgs false
set_option linter.unusedVariables false
set_option maxHeartbeats 4000000
theorem opens_ok (p : Panel) (hsm : p.small) (ticks : Int) (l : List Sig) (hl : l.length ≤ 9223372036854775807) : PCalls Try.prog 5 [p.av, .i ticks, .fz 4 (l.map Sig.av)] (.b true) := by
  refine PCalls.body fn5 _ (by simp) ?_
  unfold ir5
  (refine goA ?_; repeat (refine goN fun _ => ?_; refine goA ?_))
  rename_i a3
  refine s_call rfl ?_
  refine CallOK.pure (long_ok ticks) ?_
  cases hlo : longB ticks
  case true =>
    (refine goA ?_; repeat (refine goN fun _ => ?_; refine goA ?_))
    refine s_call rfl ?_
    refine call_works ?_
    (refine goA ?_; repeat (refine goN fun _ => ?_; refine goA ?_))
    exact post_ret rfl ⟨0, rfl⟩
  (refine goA ?_; repeat (refine goN fun _ => ?_; refine goA ?_))
  refine s_call rfl ?_
  refine CallOK.pure (valid_ok p hsm ticks l hl) ?_
  by_cases hE : beginE p ticks l = 0
  case neg =>
    rw [show decide (beginE p ticks l = 0) = false by simp [hE]]
    (refine goA ?_; repeat (refine goN fun _ => ?_; refine goA ?_))
    refine s_call rfl ?_
    refine call_works ?_
    (refine goA ?_; repeat (refine goN fun _ => ?_; refine goA ?_))
    exact post_ret rfl ⟨0, rfl⟩
  rw [show decide (beginE p ticks l = 0) = true by simp [hE]]
  (refine goA ?_; repeat (refine goN fun _ => ?_; refine goA ?_))
  refine s_call rfl ?_
  refine CallOK.pure (play_ok p hsm ticks l hl) ?_
  obtain ⟨T, rfl⟩ : ∃ T : Nat, ticks = T := ⟨ticks.toNat, by have := (begin_good hE).2.1; omega⟩
  have hT : T ≤ 1000 := by have := (begin_good hE).2.1; omega
  rw [show playE p T l = 0 from hE]
  obtain ⟨hRl, hRb⟩ := play_rows hE
  generalize playR p T l = R at hRl hRb ⊢
  have hg := pgood (begin_good hE).1
  have hnn := right_nums (begin_good hE).2.2.2
  have hsen := hg.sen
  have hst := hg.stale
  have hdl := hg.len
  have hl5 : (((nats R).length : Int) != (T : Int)) = false := by simp [nats, hRl]
  (refine goA ?_; repeat (refine goN fun _ => ?_; refine goA ?_))
  refine AWP.loopS (σ := Nat) (fun k => [(9, .i (k : Nat)), (7, .fz 1 (nats R)), (1, .i (T : Nat)), (2, .fz 4 (l.map Sig.av)), (3, .ptr 3 a3 4 0 0)]) (fun _ => [(3, a3, .arr 4 [p.av])]) (fun k => k ≤ p.doors.length) (fun k => p.doors.length - k) 0 (by first | (refine Weak.of ?_; (repeat (first | exact trivial | refine ⟨rfl, ?_⟩ | refine ⟨by simp [Env.get], ?_⟩)); done) | (refine Weak.pick (by repeat (first | exact trivial | refine ⟨rfl, ?_⟩ | refine ⟨by simp [Env.get], ?_⟩)) (by first | rfl | (simp [pickH, Heap.get, Heap.del, Heap.set, ofV_i, ofV_b]; done)))) (by first | omega | (dsimp only; omega)) ?_
  intro k hk K2 hK2
  try dsimp only at hk hK2 ⊢
  by_cases hlt : k < p.doors.length
  · have hd : p.doors[k]? = some p.doors[k] := by simp
    generalize p.doors[k] = d at hd
    have hdm := List.mem_of_getElem? hd
    have hdw := hg.wait d hdm
    have hwl := hg.lits d hdm
    have hlit := hg.lit d hdm
    (refine goA ?_; repeat (refine goN fun _ => ?_; refine goA ?_))
    refine AWP.loopS (σ := Nat) (fun t => [(11, .i (t : Nat)), (10, .i (heldTo p.sensors.toNat l d.whens t : Nat)), (9, .i (k : Nat)), (7, .fz 1 (nats R)), (1, .i (T : Nat)), (2, .fz 4 (l.map Sig.av)), (3, .ptr 3 a3 4 0 0)]) (fun _ => [(3, a3, .arr 4 [p.av])]) (fun t => t ≤ T) (fun t => T - t) 0 (by first | (refine Weak.of ?_; (repeat (first | exact trivial | refine ⟨rfl, ?_⟩ | refine ⟨by simp [Env.get], ?_⟩)); done) | (refine Weak.pick (by repeat (first | exact trivial | refine ⟨rfl, ?_⟩ | refine ⟨by simp [Env.get], ?_⟩)) (by first | rfl | (simp [pickH, Heap.get, Heap.del, Heap.set, ofV_i, ofV_b]; done)))) (by first | omega | (dsimp only; omega)) ?_
    intro t ht K3 hK3
    try dsimp only at ht hK3 ⊢
    by_cases hlt2 : t < T
    · obtain ⟨r, r1, r2, r3⟩ := hRb t hlt2
      have hr2 : (nats R)[t]? = some (.i (r : Nat)) := get_map (fun n : Nat => AV.i (n : Nat)) r1
      have hr8 : r < 256 := Nat.lt_of_lt_of_le r2 (Nat.pow_le_pow_right (by omega) hdl : 2 ^ p.doors.length ≤ 2 ^ 8)
      have hle := heldTo_le p.sensors.toNat l d.whens t
      have hle2 := heldTo_le p.sensors.toNat l d.whens (t + 1)
      refine AWP.seq' ?_
      refine AWP.seq' ?_
      (refine goI ?_; repeat (refine goN fun _ => ?_; refine goI ?_))
      refine AWP.seq' ?_
      (refine goI ?_; repeat (refine goN fun _ => ?_; refine goI ?_))
      refine AWP.seqCutQ (σ := Unit) (fun _ => [(10, .i (heldTo p.sensors.toNat l d.whens (t + 1) : Nat)), (11, .i (t : Nat)), (9, .i (k : Nat)), (7, .fz 1 (nats R)), (1, .i (T : Nat)), (2, .fz 4 (l.map Sig.av)), (3, .ptr 3 a3 4 0 0)]) (fun _ => [(3, a3, .arr 4 [p.av])]) ?_ ?_
      · intro K Q hK
        have hh : heldTo p.sensors.toNat l d.whens (t + 1) = if trueB d.whens (senTo p.sensors.toNat l (t + 1)) = true then heldTo p.sensors.toNat l d.whens t + 1 else 0 := rfl
        rw [hh] at hK
        (refine goA ?_; repeat (refine goN fun _ => ?_; refine goA ?_))
        refine s_call rfl ?_
        refine CallOK.pure (senses_ok p hsen l hl (begin_sens hE) t (by omega)) ?_
        (refine goA ?_; repeat (refine goN fun _ => ?_; refine goA ?_))
        refine s_call rfl ?_
        refine CallOK.pure (true_ok d.whens (by omega) (senTo p.sensors.toNat l (t + 1)) (fun s hs => by rw [senTo_len]; have := (hlit s hs).1; omega)) ?_
        cases htr : trueB d.whens (senTo p.sensors.toNat l (t + 1))
        · rw [htr] at hK
          rw [if_neg (by simp)] at hK
          (refine goA ?_; repeat (refine goN fun _ => ?_; refine goA ?_))
          exact hK () _ _ (by first | (refine Weak.of ?_; (repeat (first | exact trivial | refine ⟨rfl, ?_⟩ | refine ⟨by simp [Env.get], ?_⟩)); done) | (refine Weak.pick (by repeat (first | exact trivial | refine ⟨rfl, ?_⟩ | refine ⟨by simp [Env.get], ?_⟩)) (by first | rfl | (simp [pickH, Heap.get, Heap.del, Heap.set, ofV_i, ofV_b]; done))))
        · rw [htr] at hK
          rw [if_pos rfl] at hK
          (refine goA ?_; repeat (refine goN fun _ => ?_; refine goA ?_))
          exact hK () _ _ (by first | (refine Weak.of ?_; (repeat (first | exact trivial | refine ⟨rfl, ?_⟩ | refine ⟨by simp [Env.get], ?_⟩)); done) | (refine Weak.pick (by repeat (first | exact trivial | refine ⟨rfl, ?_⟩ | refine ⟨by simp [Env.get], ?_⟩)) (by first | rfl | (simp [pickH, Heap.get, Heap.del, Heap.set, ofV_i, ofV_b]; done))))
      rintro ⟨⟩
      try dsimp only
      by_cases hge : ((heldTo p.sensors.toNat l d.whens (t + 1) : Nat) : Int) ≥ p.stale + d.wait - 1
      · have hop := opens_law hg l hnn k d hd t (p.stale + d.wait - 1).toNat (by omega) (by omega)
        (refine goA ?_; repeat (refine goN fun _ => ?_; refine goA ?_))
        refine s_call rfl ?_
        refine CallOK.pure (bit_ok r k hr8 (by omega)) ?_
        rw [r3 k hlt, hop]
        (refine goA ?_; repeat (refine goN fun _ => ?_; refine goA ?_))
        refine hK3 (t + 1) _ _ (by omega) (by omega) ?_
        exact (by first | (refine Weak.of ?_; (repeat (first | exact trivial | refine ⟨rfl, ?_⟩ | refine ⟨by simp [Env.get], ?_⟩)); done) | (refine Weak.pick (by repeat (first | exact trivial | refine ⟨rfl, ?_⟩ | refine ⟨by simp [Env.get], ?_⟩)) (by first | rfl | (simp [pickH, Heap.get, Heap.del, Heap.set, ofV_i, ofV_b]; done))))
      · (refine goA ?_; repeat (refine goN fun _ => ?_; refine goA ?_))
        refine hK3 (t + 1) _ _ (by omega) (by omega) ?_
        exact (by first | (refine Weak.of ?_; (repeat (first | exact trivial | refine ⟨rfl, ?_⟩ | refine ⟨by simp [Env.get], ?_⟩)); done) | (refine Weak.pick (by repeat (first | exact trivial | refine ⟨rfl, ?_⟩ | refine ⟨by simp [Env.get], ?_⟩)) (by first | rfl | (simp [pickH, Heap.get, Heap.del, Heap.set, ofV_i, ofV_b]; done))))
    · have ht' : t = T := by omega
      subst ht'
      (refine goA ?_; repeat (refine goN fun _ => ?_; refine goA ?_))
      refine hK2 (k + 1) _ _ (by omega) (by omega) ?_
      exact (by first | (refine Weak.of ?_; (repeat (first | exact trivial | refine ⟨rfl, ?_⟩ | refine ⟨by simp [Env.get], ?_⟩)); done) | (refine Weak.pick (by repeat (first | exact trivial | refine ⟨rfl, ?_⟩ | refine ⟨by simp [Env.get], ?_⟩)) (by first | rfl | (simp [pickH, Heap.get, Heap.del, Heap.set, ofV_i, ofV_b]; done))))
  · (refine goA ?_; repeat (refine goN fun _ => ?_; refine goA ?_))
    refine s_call rfl ?_
    refine call_works ?_
    (refine goA ?_; repeat (refine goN fun _ => ?_; refine goA ?_))
    exact post_ret rfl ⟨0, rfl⟩
end Go.Proofs.Ytjnencdmejhmjaa.Eng
