/- CONTROL: the law ControlKnows, walked. -/
import Derived.Test.YtjnencdmejhmjaaV7
import Derived.Test.YtjnencdmejhmjaaW15
namespace Go.Proofs.Ytjnencdmejhmjaa.Eng
open Go Go.RowKit
attribute [local irreducible] insRun planRun AWP holdsAll CallOK Weak Ins.holds
set_option linter.unusedSimpArgs false
set_option linter.unusedVariables false
set_option maxHeartbeats 4000000
theorem age_zero (p : Panel) (l : List Sig) (hn : numsOk l) (i : Nat) (hi : i < p.sensors.toNat) (n a : Nat) (ha : rd (memOf p l (n + 1)).ages i = a) : (powTo l (n + 1) = true ∧ hasB l n 2 i = false → a = 0) ∧ (¬ (powTo l (n + 1) = true ∧ hasB l n 2 i = false) → a ≠ 0) := by
  obtain ⟨q1, q2⟩ := mem_tell p l n hn i hi
  obtain ⟨b, b1, _⟩ := knows_law p l hn i hi n
  rw [ha, b1] at q2
  constructor
  · intro h; rw [if_pos h] at q2; omega
  · intro h; rw [if_neg h] at q2; omega
theorem knowsL_ok (p : Panel) (hsm : p.small) (ticks : Int) (l : List Sig) (hl : l.length ≤ 9223372036854775807) : PCalls Try.prog 9 [p.av, .i ticks, .fz 4 (l.map Sig.av)] (.b true) := by
  refine PCalls.body fn9 _ (by simp) ?_
  unfold ir9
  (refine goA ?_; repeat (refine goN fun _ => ?_; refine goA ?_))
  rename_i a3
  refine s_call rfl ?_
  refine CallOK.pure (long_ok ticks) ?_
  cases hlo : longB ticks
  case true =>
    (refine goA ?_; repeat (refine goN fun _ => ?_; refine goA ?_))
    refine s_call rfl ?_
    refine call_works ?_
    (refine goA ?_; repeat (refine goN fun _ => ?_; refine goA ?_))
    exact post_ret rfl ⟨0, rfl⟩
  (refine goA ?_; repeat (refine goN fun _ => ?_; refine goA ?_))
  refine s_call rfl ?_
  refine CallOK.pure (valid_ok p hsm ticks l hl) ?_
  by_cases hE : beginE p ticks l = 0
  case neg =>
    rw [show decide (beginE p ticks l = 0) = false by simp [hE]]
    (refine goA ?_; repeat (refine goN fun _ => ?_; refine goA ?_))
    refine s_call rfl ?_
    refine call_works ?_
    (refine goA ?_; repeat (refine goN fun _ => ?_; refine goA ?_))
    exact post_ret rfl ⟨0, rfl⟩
  rw [show decide (beginE p ticks l = 0) = true by simp [hE]]
  (refine goA ?_; repeat (refine goN fun _ => ?_; refine goA ?_))
  refine s_call rfl ?_
  refine CallOK.pure (knows_ok p hsm ticks l hl) ?_
  obtain ⟨T, rfl⟩ : ∃ T : Nat, ticks = T := ⟨ticks.toNat, by have := (begin_good hE).2.1; omega⟩
  have hT : T ≤ 1000 := by have := (begin_good hE).2.1; omega
  rw [kV, kA, if_pos hE, if_pos hE, Int.toNat_natCast, hE]
  have hg := pgood (begin_good hE).1
  have hnn := right_nums (begin_good hE).2.2.2
  have hsen := hg.sen
  have hvl := knowV_len p l T
  have hal := knowA_len p l T
  have hvg : ∀ t, t < T → (knowV p l T)[t]? = some (memOf p l (t + 1)).values := fun t ht => by simp [knowV, ht]
  have hag : ∀ t, t < T → (knowA p l T)[t]? = some (memOf p l (t + 1)).ages := fun t ht => by simp [knowA, ht]
  generalize knowV p l T = V at hvl hvg ⊢
  generalize knowA p l T = A at hal hag ⊢
  have hl5 : ((((V.map ints).length : Nat) : Int) != (T : Int)) = false := by simp [hvl]
  have hl6 : ((((A.map ints).length : Nat) : Int) != (T : Int)) = false := by simp [hal]
  (refine goA ?_; repeat (refine goN fun _ => ?_; refine goA ?_))
  refine AWP.loopS (σ := Nat) (fun t => [(10, .i (t : Nat)), (7, .fz 1 (V.map ints)), (8, .fz 1 (A.map ints)), (1, .i (T : Nat)), (2, .fz 4 (l.map Sig.av)), (3, .ptr 3 a3 4 0 0)]) (fun _ => [(3, a3, .arr 4 [p.av])]) (fun t => t ≤ T) (fun t => T - t) 0 (by first | (refine Weak.of ?_; (repeat (first | exact trivial | refine ⟨rfl, ?_⟩ | refine ⟨by simp [Env.get], ?_⟩)); done) | (refine Weak.pick (by repeat (first | exact trivial | refine ⟨rfl, ?_⟩ | refine ⟨by simp [Env.get], ?_⟩)) (by first | rfl | (simp [pickH, Heap.get, Heap.del, Heap.set, ofV_i, ofV_b]; done)))) (by first | omega | (dsimp only; omega)) ?_
  intro t ht K2 hK2
  try dsimp only at ht hK2 ⊢
  by_cases hlt : t < T
  case neg =>
    (refine goA ?_; repeat (refine goN fun _ => ?_; refine goA ?_))
    refine s_call rfl ?_
    refine call_works ?_
    (refine goA ?_; repeat (refine goN fun _ => ?_; refine goA ?_))
    exact post_ret rfl ⟨0, rfl⟩
  have hV := hvg t hlt
  have hA := hag t hlt
  obtain ⟨_, hml, hmg⟩ := memOf_len p l (t + 1)
  have hl7 : (((((memOf p l (t + 1)).values.map AV.i).length : Nat) : Int) != p.sensors) = false := by simp [hml]; omega
  have hl8 : (((((memOf p l (t + 1)).ages.map AV.i).length : Nat) : Int) != p.sensors) = false := by simp [hmg]; omega
  (refine goA ?_; repeat (refine goN fun _ => ?_; refine goA ?_))
  refine AWP.loopS (σ := Nat) (fun s => [(11, .i (s : Nat)), (10, .i (t : Nat)), (7, .fz 1 (V.map ints)), (8, .fz 1 (A.map ints)), (1, .i (T : Nat)), (2, .fz 4 (l.map Sig.av)), (3, .ptr 3 a3 4 0 0)]) (fun _ => [(3, a3, .arr 4 [p.av])]) (fun s => s ≤ p.sensors.toNat) (fun s => p.sensors.toNat - s) 0 (by first | (refine Weak.of ?_; (repeat (first | exact trivial | refine ⟨rfl, ?_⟩ | refine ⟨by simp [Env.get], ?_⟩)); done) | (refine Weak.pick (by repeat (first | exact trivial | refine ⟨rfl, ?_⟩ | refine ⟨by simp [Env.get], ?_⟩)) (by first | rfl | (simp [pickH, Heap.get, Heap.del, Heap.set, ofV_i, ofV_b]; done)))) (by first | omega | (dsimp only; omega)) ?_
  intro s hs K3 hK3
  try dsimp only at hs hK3 ⊢
  by_cases hlt2 : s < p.sensors.toNat
  case neg =>
    (refine goA ?_; repeat (refine goN fun _ => ?_; refine goA ?_))
    refine hK2 (t + 1) _ _ (by omega) (by omega) ?_
    exact (by first | (refine Weak.of ?_; (repeat (first | exact trivial | refine ⟨rfl, ?_⟩ | refine ⟨by simp [Env.get], ?_⟩)); done) | (refine Weak.pick (by repeat (first | exact trivial | refine ⟨rfl, ?_⟩ | refine ⟨by simp [Env.get], ?_⟩)) (by first | rfl | (simp [pickH, Heap.get, Heap.del, Heap.set, ofV_i, ofV_b]; done))))
  have hlt3 : ((s : Nat) : Int) < p.sensors := by omega
  obtain ⟨a, a1, a2, a3'⟩ := knows_law p l hnn s hlt2 (t + 1)
  have haz := age_zero p l hnn s hlt2 t a a1
  have hag2 : (memOf p l (t + 1)).ages[s]? = some (a : Int) := by rw [← a1]; exact rd_get (by omega)
  have hvg2 : (memOf p l (t + 1)).values[s]? = some (rd (memOf p l (t + 1)).values s) := rd_get (by omega)
  generalize rd (memOf p l (t + 1)).values s = want at a3' hvg2
  have hww : (want != want) = false := by simp
  refine AWP.seq' ?_
  refine AWP.seq' ?_
  (refine goI ?_; repeat (refine goN fun _ => ?_; refine goI ?_))
  refine AWP.seq' ?_
  (refine goI ?_; repeat (refine goN fun _ => ?_; refine goI ?_))
  refine AWP.seq' ?_
  (refine goI ?_; repeat (refine goN fun _ => ?_; refine goI ?_))
  refine AWP.seq' ?_
  refine AWP.seq' ?_
  (refine goI ?_; repeat (refine goN fun _ => ?_; refine goI ?_))
  refine AWP.seq' ?_
  (refine goI ?_; repeat (refine goN fun _ => ?_; refine goI ?_))
  refine AWP.seqCutQ (σ := Unit) (fun _ => [(13, .i want), (11, .i (s : Nat)), (10, .i (t : Nat)), (7, .fz 1 (V.map ints)), (8, .fz 1 (A.map ints)), (1, .i (T : Nat)), (2, .fz 4 (l.map Sig.av)), (3, .ptr 3 a3 4 0 0)]) (fun _ => [(3, a3, .arr 4 [p.av])]) ?_ ?_
  · intro K Q hK
    by_cases hat : a ≤ t
    · rw [if_pos (by omega)] at a3'
      have hsl := senTo_len p.sensors.toNat l (t - a + 1)
      have hsg : (senTo p.sensors.toNat l (t - a + 1))[s]? = some want := by
        rw [a3', show t + 1 - a = t - a + 1 by omega]; exact rd_get (by omega)
      (refine goA ?_; repeat (refine goN fun _ => ?_; refine goA ?_))
      refine s_call rfl ?_
      rw [show (t : Int) - (a : Int) = ((t - a : Nat) : Int) by omega]
      refine CallOK.pure (senses_ok p hsen l hl (begin_sens hE) (t - a) (by omega)) ?_
      (refine goA ?_; repeat (refine goN fun _ => ?_; refine goA ?_))
      exact hK () _ _ (by first | (refine Weak.of ?_; (repeat (first | exact trivial | refine ⟨rfl, ?_⟩ | refine ⟨by simp [Env.get], ?_⟩)); done) | (refine Weak.pick (by repeat (first | exact trivial | refine ⟨rfl, ?_⟩ | refine ⟨by simp [Env.get], ?_⟩)) (by first | rfl | (simp [pickH, Heap.get, Heap.del, Heap.set, ofV_i, ofV_b]; done))))
    · rw [if_neg (by omega)] at a3'
      subst a3'
      (refine goA ?_; repeat (refine goN fun _ => ?_; refine goA ?_))
      exact hK () _ _ (by first | (refine Weak.of ?_; (repeat (first | exact trivial | refine ⟨rfl, ?_⟩ | refine ⟨by simp [Env.get], ?_⟩)); done) | (refine Weak.pick (by repeat (first | exact trivial | refine ⟨rfl, ?_⟩ | refine ⟨by simp [Env.get], ?_⟩)) (by first | rfl | (simp [pickH, Heap.get, Heap.del, Heap.set, ofV_i, ofV_b]; done))))
  rintro ⟨⟩
  try dsimp only
  (refine goA ?_; repeat (refine goN fun _ => ?_; refine goA ?_))
  refine AWP.loopS (σ := Nat) (fun i => [(15, .i (i : Nat)), (14, .b (hasB (l.take i) t 2 s)), (13, .i want), (11, .i (s : Nat)), (10, .i (t : Nat)), (7, .fz 1 (V.map ints)), (8, .fz 1 (A.map ints)), (1, .i (T : Nat)), (2, .fz 4 (l.map Sig.av)), (3, .ptr 3 a3 4 0 0)]) (fun _ => [(3, a3, .arr 4 [p.av])]) (fun i => i ≤ l.length) (fun i => l.length - i) 0 (by first | (refine Weak.of ?_; (repeat (first | exact trivial | refine ⟨rfl, ?_⟩ | refine ⟨by simp [Env.get], ?_⟩)); done) | (refine Weak.pick (by repeat (first | exact trivial | refine ⟨rfl, ?_⟩ | refine ⟨by simp [Env.get], ?_⟩)) (by first | rfl | (simp [pickH, Heap.get, Heap.del, Heap.set, ofV_i, ofV_b]; done)))) (by first | omega | (dsimp only; omega)) ?_
  intro i hi K4 hK4
  try dsimp only at hi hK4 ⊢
  by_cases hlt4 : i < l.length
  · have hx : l[i]? = some l[i] := by simp [hlt4]
    generalize l[i] = x at hx
    have hb := hasB_succ hx t 2 s
    have step : ∀ v E' H', (hasB (l.take i) t 2 s || (decide (x.time = t) && decide (x.kind = 2) && decide (x.number = s))) = v → Weak 162 E' H' [(15, .i ((i + 1 : Nat) : Int)), (14, .b v), (13, .i want), (11, .i (s : Nat)), (10, .i (t : Nat)), (7, .fz 1 (V.map ints)), (8, .fz 1 (A.map ints)), (1, .i (T : Nat)), (2, .fz 4 (l.map Sig.av)), (3, .ptr 3 a3 4 0 0)] [(3, a3, .arr 4 [p.av])] → K4 E' H' := by
      rintro v E' H' rfl hw
      refine hK4 (i + 1) E' H' (by omega) (by omega) ?_
      rw [hb]; exact hw
    cases hm : hasB (l.take i) t 2 s
    · rw [hm] at step
      by_cases hk : x.kind = 2
      · by_cases hti : x.time = t
        · by_cases hnu : x.number = s
          · (refine goA ?_; repeat (refine goN fun _ => ?_; refine goA ?_))
            refine step (x.number == s) _ _ ?_ (by first | (refine Weak.of ?_; (repeat (first | exact trivial | refine ⟨rfl, ?_⟩ | refine ⟨by simp [Env.get], ?_⟩)); done) | (refine Weak.pick (by repeat (first | exact trivial | refine ⟨rfl, ?_⟩ | refine ⟨by simp [Env.get], ?_⟩)) (by first | rfl | (simp [pickH, Heap.get, Heap.del, Heap.set, ofV_i, ofV_b]; done))))
            simp [hk, hti, hnu]
          · (refine goA ?_; repeat (refine goN fun _ => ?_; refine goA ?_))
            refine step (x.number == s) _ _ ?_ (by first | (refine Weak.of ?_; (repeat (first | exact trivial | refine ⟨rfl, ?_⟩ | refine ⟨by simp [Env.get], ?_⟩)); done) | (refine Weak.pick (by repeat (first | exact trivial | refine ⟨rfl, ?_⟩ | refine ⟨by simp [Env.get], ?_⟩)) (by first | rfl | (simp [pickH, Heap.get, Heap.del, Heap.set, ofV_i, ofV_b]; done))))
            simp [hk, hti, hnu]
        · (refine goA ?_; repeat (refine goN fun _ => ?_; refine goA ?_))
          refine step false _ _ ?_ (by first | (refine Weak.of ?_; (repeat (first | exact trivial | refine ⟨rfl, ?_⟩ | refine ⟨by simp [Env.get], ?_⟩)); done) | (refine Weak.pick (by repeat (first | exact trivial | refine ⟨rfl, ?_⟩ | refine ⟨by simp [Env.get], ?_⟩)) (by first | rfl | (simp [pickH, Heap.get, Heap.del, Heap.set, ofV_i, ofV_b]; done))))
          simp [hti]
      · (refine goA ?_; repeat (refine goN fun _ => ?_; refine goA ?_))
        refine step false _ _ ?_ (by first | (refine Weak.of ?_; (repeat (first | exact trivial | refine ⟨rfl, ?_⟩ | refine ⟨by simp [Env.get], ?_⟩)); done) | (refine Weak.pick (by repeat (first | exact trivial | refine ⟨rfl, ?_⟩ | refine ⟨by simp [Env.get], ?_⟩)) (by first | rfl | (simp [pickH, Heap.get, Heap.del, Heap.set, ofV_i, ofV_b]; done))))
        simp [hk]
    · rw [hm] at step
      (refine goA ?_; repeat (refine goN fun _ => ?_; refine goA ?_))
      refine step true _ _ ?_ (by first | (refine Weak.of ?_; (repeat (first | exact trivial | refine ⟨rfl, ?_⟩ | refine ⟨by simp [Env.get], ?_⟩)); done) | (refine Weak.pick (by repeat (first | exact trivial | refine ⟨rfl, ?_⟩ | refine ⟨by simp [Env.get], ?_⟩)) (by first | rfl | (simp [pickH, Heap.get, Heap.del, Heap.set, ofV_i, ofV_b]; done))))
      simp
  have hi' : i = l.length := by omega
  subst hi'
  rw [List.take_length]
  cases hp : powTo l (t + 1)
  · rw [hp] at haz
    have ha0 : a ≠ 0 := haz.2 (by simp)
    (refine goA ?_; repeat (refine goN fun _ => ?_; refine goA ?_))
    refine s_call rfl ?_
    refine CallOK.pure (powered_ok l hl t (by omega)) ?_
    rw [hp]
    (refine goA ?_; repeat (refine goN fun _ => ?_; refine goA ?_))
    refine hK3 (s + 1) _ _ (by omega) (by omega) ?_
    exact (by first | (refine Weak.of ?_; (repeat (first | exact trivial | refine ⟨rfl, ?_⟩ | refine ⟨by simp [Env.get], ?_⟩)); done) | (refine Weak.pick (by repeat (first | exact trivial | refine ⟨rfl, ?_⟩ | refine ⟨by simp [Env.get], ?_⟩)) (by first | rfl | (simp [pickH, Heap.get, Heap.del, Heap.set, ofV_i, ofV_b]; done))))
  · cases hm : hasB l t 2 s
    · rw [hp, hm] at haz
      have ha0 : a = 0 := haz.1 (by simp)
      subst ha0
      (refine goA ?_; repeat (refine goN fun _ => ?_; refine goA ?_))
      refine s_call rfl ?_
      refine CallOK.pure (powered_ok l hl t (by omega)) ?_
      rw [hp]
      (refine goA ?_; repeat (refine goN fun _ => ?_; refine goA ?_))
      refine hK3 (s + 1) _ _ (by omega) (by omega) ?_
      exact (by first | (refine Weak.of ?_; (repeat (first | exact trivial | refine ⟨rfl, ?_⟩ | refine ⟨by simp [Env.get], ?_⟩)); done) | (refine Weak.pick (by repeat (first | exact trivial | refine ⟨rfl, ?_⟩ | refine ⟨by simp [Env.get], ?_⟩)) (by first | rfl | (simp [pickH, Heap.get, Heap.del, Heap.set, ofV_i, ofV_b]; done))))
    · rw [hp, hm] at haz
      have ha0 : a ≠ 0 := haz.2 (by simp)
      (refine goA ?_; repeat (refine goN fun _ => ?_; refine goA ?_))
      refine s_call rfl ?_
      refine CallOK.pure (powered_ok l hl t (by omega)) ?_
      rw [hp]
      (refine goA ?_; repeat (refine goN fun _ => ?_; refine goA ?_))
      refine hK3 (s + 1) _ _ (by omega) (by omega) ?_
      exact (by first | (refine Weak.of ?_; (repeat (first | exact trivial | refine ⟨rfl, ?_⟩ | refine ⟨by simp [Env.get], ?_⟩)); done) | (refine Weak.pick (by repeat (first | exact trivial | refine ⟨rfl, ?_⟩ | refine ⟨by simp [Env.get], ?_⟩)) (by first | rfl | (simp [pickH, Heap.get, Heap.del, Heap.set, ofV_i, ofV_b]; done))))
end Go.Proofs.Ytjnencdmejhmjaa.Eng
