/- CONTROL: the law ControlTime, walked. -/
import Derived.Test.YtjnencdmejhmjaaW13
import Derived.Test.YtjnencdmejhmjaaP4
namespace Go.Proofs.Ytjnencdmejhmjaa.Eng
open Go Go.RowKit
attribute [local irreducible] insRun planRun AWP holdsAll CallOK Weak Ins.holds
set_option linter.unusedSimpArgs false
set_option linter.unusedVariables false
set_option maxHeartbeats 4000000
def longB (n : Int) : Bool := decide (n > 60) && decide (n ≤ 1000)
theorem long_ok (n : Int) : PCalls Try.prog 20 [.i n] (.b (longB n)) := by
  refine PCalls.body fn20 _ (by simp) ?_
  unfold ir20
  (refine goA ?_; repeat (refine goN fun _ => ?_; refine goA ?_))
  refine s_if rfl (fun hc => ?_) (fun hc => ?_)
  · rw [hc]
    (refine goA ?_; repeat (refine goN fun _ => ?_; refine goA ?_))
    refine post_ret rfl ⟨0, ?_⟩
    simp [closeAV, mkRes, longB, hc]
  · rw [hc]
    (refine goA ?_; repeat (refine goN fun _ => ?_; refine goA ?_))
    refine post_ret rfl ⟨0, ?_⟩
    simp [closeAV, mkRes, longB, hc, AV.ofV]
theorem call_works {K : AV → Heap → Prop} {H : Heap} (h : K (.b true) H) : CallOK Try.prog 16 [] H K := CallOK.pure works_ok h
theorem freesI_bnd {p : Panel} (hb : badPanel p = false) : 0 ≤ freesI p ∧ freesI p ≤ 1049 := by
  have hw := goodW_of hb
  have := waitTo_bnd hw p.doors.length
  have := hw.2
  unfold freesI
  split <;> omega
theorem nats_len (R : List Nat) : (nats R).length = R.length := by simp [nats]
theorem time_ok (p : Panel) (hsm : p.small) (ticks : Int) (l : List Sig) (hl : l.length ≤ 9223372036854775807) : PCalls Try.prog 4 [p.av, .i ticks, .fz 4 (l.map Sig.av)] (.b true) := by
  refine PCalls.body fn4 _ (by simp) ?_
  unfold ir4
  (refine goA ?_; repeat (refine goN fun _ => ?_; refine goA ?_))
  rename_i a3
  refine s_call rfl ?_
  refine CallOK.pure (long_ok ticks) ?_
  (refine goA ?_; repeat (refine goN fun _ => ?_; refine goA ?_))
  refine AWP.cond rfl (fun h1 => ?_) (fun h1 => ?_)
  · (refine goA ?_; repeat (refine goN fun _ => ?_; refine goA ?_))
    refine s_call rfl ?_
    refine call_works ?_
    (refine goA ?_; repeat (refine goN fun _ => ?_; refine goA ?_))
    refine post_ret rfl ⟨0, rfl⟩
  (refine goA ?_; repeat (refine goN fun _ => ?_; refine goA ?_))
  refine s_call rfl ?_
  refine CallOK.pure (Frees_ok p hsm) ?_
  (refine goA ?_; repeat (refine goN fun _ => ?_; refine goA ?_))
  refine AWP.cond rfl (fun h2 => ?_) (fun h2 => ?_)
  · (refine goA ?_; repeat (refine goN fun _ => ?_; refine goA ?_))
    refine s_call rfl ?_
    refine call_works ?_
    (refine goA ?_; repeat (refine goN fun _ => ?_; refine goA ?_))
    refine post_ret rfl ⟨0, rfl⟩
  have hb : badPanel p = false := by
    cases hb : badPanel p
    · rfl
    · simp [checkI, hb] at h2
  have hw := goodW_of hb
  have hg := pgood hb
  have hfb := freesI_bnd hb
  rw [show freesV p = freesI p by simp [freesV, hb]]
  (refine goA ?_; repeat (refine goN fun _ => ?_; refine goA ?_))
  refine s_call rfl ?_
  refine CallOK.pure (play_ok p hsm ticks l hl) ?_
  (refine goI ?_; repeat (refine goN fun _ => ?_; refine goI ?_))
  refine AWP.seqCutQ (σ := Unit) (fun _ => [(7, .i (freesI p)), (3, .ptr 3 a3 4 0 0)]) (fun _ => [(3, a3, .arr 4 [p.av])]) ?_ ?_
  · intro K Q hK
    (refine goA ?_; repeat (refine goN fun _ => ?_; refine goA ?_))
    refine AWP.loopS (σ := Nat) (fun t => [(10, .i (t : Nat)), (8, .i (playE p ticks l)), (9, .fz 1 (nats (playR p ticks l))), (7, .i (freesI p)), (3, .ptr 3 a3 4 0 0)]) (fun _ => [(3, a3, .arr 4 [p.av])]) (fun t => t ≤ (playR p ticks l).length) (fun t => (playR p ticks l).length - t) 0 (by first | (refine Weak.of ?_; (repeat (first | exact trivial | refine ⟨rfl, ?_⟩ | refine ⟨by simp [Env.get], ?_⟩)); done) | (refine Weak.pick (by repeat (first | exact trivial | refine ⟨rfl, ?_⟩ | refine ⟨by simp [Env.get], ?_⟩)) (by first | rfl | (simp [pickH, Heap.get, Heap.del, Heap.set, ofV_i, ofV_b]; done)))) (by first | omega | (dsimp only; omega)) ?_
    intro t ht K2 hK2
    try dsimp only at ht hK2 ⊢
    have hnl := nats_len (playR p ticks l)
    by_cases he : playE p ticks l = 0
    · obtain ⟨T, rfl⟩ : ∃ T : Nat, ticks = T := ⟨ticks.toNat, by have := (begin_good he).2.1; omega⟩
      have hp := (play_bits he).1
      have hT := (begin_good he).2.1
      by_cases hlt : t < (playR p T l).length
      · have hlt2 : ((t : Nat) : Int) < (nats (playR p T l)).length := by omega
        (refine goA ?_; repeat (refine goN fun _ => ?_; refine goA ?_))
        refine s_if rfl (fun hc => ?_) (fun hc => ?_)
        · rw [hc]
          have hr := time_row he t (by omega) (by simpa using hc)
          have hr2 : (nats (playR p T l))[t]? = some (.i ((0 : Nat) : Int)) := get_map (fun n : Nat => AV.i (n : Nat)) hr
          (refine goA ?_; repeat (refine goN fun _ => ?_; refine goA ?_))
          refine hK2 (t + 1) _ _ (by omega) (by omega) ?_
          exact (by first | (refine Weak.of ?_; (repeat (first | exact trivial | refine ⟨rfl, ?_⟩ | refine ⟨by simp [Env.get], ?_⟩)); done) | (refine Weak.pick (by repeat (first | exact trivial | refine ⟨rfl, ?_⟩ | refine ⟨by simp [Env.get], ?_⟩)) (by first | rfl | (simp [pickH, Heap.get, Heap.del, Heap.set, ofV_i, ofV_b]; done))))
        · rw [hc]
          (refine goA ?_; repeat (refine goN fun _ => ?_; refine goA ?_))
          refine hK2 (t + 1) _ _ (by omega) (by omega) ?_
          exact (by first | (refine Weak.of ?_; (repeat (first | exact trivial | refine ⟨rfl, ?_⟩ | refine ⟨by simp [Env.get], ?_⟩)); done) | (refine Weak.pick (by repeat (first | exact trivial | refine ⟨rfl, ?_⟩ | refine ⟨by simp [Env.get], ?_⟩)) (by first | rfl | (simp [pickH, Heap.get, Heap.del, Heap.set, ofV_i, ofV_b]; done))))
      · have hge2 : ¬ ((t : Nat) : Int) < (nats (playR p T l)).length := by omega
        (refine goA ?_; repeat (refine goN fun _ => ?_; refine goA ?_))
        exact hK () _ _ (by first | (refine Weak.of ?_; (repeat (first | exact trivial | refine ⟨rfl, ?_⟩ | refine ⟨by simp [Env.get], ?_⟩)); done) | (refine Weak.pick (by repeat (first | exact trivial | refine ⟨rfl, ?_⟩ | refine ⟨by simp [Env.get], ?_⟩)) (by first | rfl | (simp [pickH, Heap.get, Heap.del, Heap.set, ofV_i, ofV_b]; done))))
    · (refine goA ?_; repeat (refine goN fun _ => ?_; refine goA ?_))
      exact hK () _ _ (by first | (refine Weak.of ?_; (repeat (first | exact trivial | refine ⟨rfl, ?_⟩ | refine ⟨by simp [Env.get], ?_⟩)); done) | (refine Weak.pick (by repeat (first | exact trivial | refine ⟨rfl, ?_⟩ | refine ⟨by simp [Env.get], ?_⟩)) (by first | rfl | (simp [pickH, Heap.get, Heap.del, Heap.set, ofV_i, ofV_b]; done))))
  rintro ⟨⟩
  try dsimp only
  obtain ⟨F, hF⟩ : ∃ F : Nat, freesI p = F := ⟨(freesI p).toNat, by omega⟩
  rw [hF]
  have hF2 : F ≤ 1049 := by omega
  by_cases hf0 : F = 0
  · (refine goA ?_; repeat (refine goN fun _ => ?_; refine goA ?_))
    refine s_call rfl ?_
    refine call_works ?_
    (refine goA ?_; repeat (refine goN fun _ => ?_; refine goA ?_))
    refine post_ret rfl ⟨0, rfl⟩
  by_cases hf60 : 60 < F
  · (refine goA ?_; repeat (refine goN fun _ => ?_; refine goA ?_))
    refine s_call rfl ?_
    refine call_works ?_
    (refine goA ?_; repeat (refine goN fun _ => ?_; refine goA ?_))
    refine post_ret rfl ⟨0, rfl⟩
  (refine goA ?_; repeat (refine goN fun _ => ?_; refine goA ?_))
  refine AWP.loopS (σ := Nat) (fun k => [(12, .i (k : Nat)), (11, .i (doorTo p k)), (7, .i (F : Nat)), (3, .ptr 3 a3 4 0 0)]) (fun _ => [(3, a3, .arr 4 [p.av])]) (fun k => k ≤ p.doors.length) (fun k => p.doors.length - k) 0 (by first | (refine Weak.of ?_; (repeat (first | exact trivial | refine ⟨rfl, ?_⟩ | refine ⟨by simp [Env.get], ?_⟩)); done) | (refine Weak.pick (by repeat (first | exact trivial | refine ⟨rfl, ?_⟩ | refine ⟨by simp [Env.get], ?_⟩)) (by first | rfl | (simp [pickH, Heap.get, Heap.del, Heap.set, ofV_i, ofV_b]; done)))) (by first | omega | (dsimp only; omega)) ?_
  intro k hk K2 hK2
  try dsimp only at hk hK2 ⊢
  have hdl := hg.len
  by_cases hlt : k < p.doors.length
  · have hx : p.doors[k]? = some p.doors[k] := by simp
    generalize p.doors[k] = g at hx
    have fin : ∀ v E' H', doorTo p (k + 1) = v → Weak 165 E' H' [(12, .i ((k + 1 : Nat) : Int)), (11, .i v), (7, .i (F : Nat)), (3, .ptr 3 a3 4 0 0)] [(3, a3, .arr 4 [p.av])] → K2 E' H' := by
      rintro v E' H' rfl hw
      exact hK2 (k + 1) E' H' (by omega) (by omega) hw
    by_cases hp : (g.whens.length : Int) > 0
    · rcases doorTo_is hw k (by omega) with ⟨h1, _⟩ | ⟨j, d, h1, h2, h3, h4, h5⟩
      · rw [h1]
        (refine goA ?_; repeat (refine goN fun _ => ?_; refine goA ?_))
        refine fin (k : Nat) _ _ ?_ (by first | (refine Weak.of ?_; (repeat (first | exact trivial | refine ⟨rfl, ?_⟩ | refine ⟨by simp [Env.get], ?_⟩)); done) | (refine Weak.pick (by repeat (first | exact trivial | refine ⟨rfl, ?_⟩ | refine ⟨by simp [Env.get], ?_⟩)) (by first | rfl | (simp [pickH, Heap.get, Heap.del, Heap.set, ofV_i, ofV_b]; done))))
        simp only [doorTo, hx]; rw [if_pos ⟨hp, .inl (by omega)⟩]
      · rw [h1]
        have hwo : waitOf p (doorTo p k).toNat = d.wait := by rw [h1]; simp [waitOf, h3]
        by_cases hc : g.wait > d.wait
        · (refine goA ?_; repeat (refine goN fun _ => ?_; refine goA ?_))
          refine fin (k : Nat) _ _ ?_ (by first | (refine Weak.of ?_; (repeat (first | exact trivial | refine ⟨rfl, ?_⟩ | refine ⟨by simp [Env.get], ?_⟩)); done) | (refine Weak.pick (by repeat (first | exact trivial | refine ⟨rfl, ?_⟩ | refine ⟨by simp [Env.get], ?_⟩)) (by first | rfl | (simp [pickH, Heap.get, Heap.del, Heap.set, ofV_i, ofV_b]; done))))
          simp only [doorTo, hx]; rw [if_pos ⟨hp, .inr (by omega)⟩]
        · (refine goA ?_; repeat (refine goN fun _ => ?_; refine goA ?_))
          refine fin (j : Nat) _ _ ?_ (by first | (refine Weak.of ?_; (repeat (first | exact trivial | refine ⟨rfl, ?_⟩ | refine ⟨by simp [Env.get], ?_⟩)); done) | (refine Weak.pick (by repeat (first | exact trivial | refine ⟨rfl, ?_⟩ | refine ⟨by simp [Env.get], ?_⟩)) (by first | rfl | (simp [pickH, Heap.get, Heap.del, Heap.set, ofV_i, ofV_b]; done))))
          simp only [doorTo, hx]; rw [if_neg (by omega)]; exact h1
    · have hpf : decide (((g.whens.map Sense.av).length : Int) > 0) = false := by simp at hp; simp [hp]
      (refine goA ?_; repeat (refine goN fun _ => ?_; refine goA ?_))
      refine fin (doorTo p k) _ _ ?_ (by first | (refine Weak.of ?_; (repeat (first | exact trivial | refine ⟨rfl, ?_⟩ | refine ⟨by simp [Env.get], ?_⟩)); done) | (refine Weak.pick (by repeat (first | exact trivial | refine ⟨rfl, ?_⟩ | refine ⟨by simp [Env.get], ?_⟩)) (by first | rfl | (simp [pickH, Heap.get, Heap.del, Heap.set, ofV_i, ofV_b]; done))))
      simp only [doorTo, hx]; rw [if_neg (by omega)]
  have hk' : k = p.doors.length := by omega
  subst hk'
  clear hK2
  have hwt : waitTo p p.doors.length ≠ 0 := fun h => by rw [freesI, if_pos h] at hF; omega
  obtain ⟨j, d, h1, h2, h3, h4, h5⟩ := (doorTo_is hw p.doors.length (Nat.le_refl _)).resolve_left (fun h => hwt h.2)
  rw [freesI, if_neg hwt, ← h5] at hF
  rw [h1]
  have hs0 : d.whens[0]? = some (d.whens[0]'(List.length_pos_iff.2 h4)) := by simp
  generalize d.whens[0]'(List.length_pos_iff.2 h4) = s at hs0
  have hdm := List.mem_of_getElem? h3
  have hdw := hg.wait d hdm
  obtain ⟨⟨s1, s2⟩, s3, s4⟩ := hg.lit d hdm s (List.mem_of_getElem? hs0)
  have hlim := hg.lim
  have hsen := hg.sen
  obtain ⟨N, hN⟩ : ∃ N : Nat, d.wait - 1 = N := ⟨(d.wait - 1).toNat, by omega⟩
  refine AWP.seq' ?_
  refine AWP.seq' ?_
  (refine goI ?_; repeat (refine goN fun _ => ?_; refine goI ?_))
  refine AWP.seq' ?_
  refine AWP.seq' ?_
  (refine goI ?_; repeat (refine goN fun _ => ?_; refine goI ?_))
  refine AWP.seq' ?_
  (refine goI ?_; repeat (refine goN fun _ => ?_; refine goI ?_))
  refine AWP.seq' ?_
  (refine goI ?_; repeat (refine goN fun _ => ?_; refine goI ?_))
  rename_i a13
  refine AWP.seqCutQ (σ := Unit) (fun _ => [(14, .i (litV s)), (13, .ptr 13 a13 3 0 0), (11, .i (j : Nat)), (7, .i (F : Nat)), (3, .ptr 3 a3 4 0 0)]) (fun _ => [(13, a13, .arr 3 [s.av]), (3, a3, .arr 4 [p.av])]) ?_ ?_
  · intro K Q hK
    (refine goA ?_; repeat (refine goN fun _ => ?_; refine goA ?_))
    refine AWP.cond rfl (fun hc => ?_) (fun hc => ?_)
    · have hv : litV s = (s.value + 1) % 10 := by simp at hc; simp [litV, hc]
      (refine goA ?_; repeat (refine goN fun _ => ?_; refine goA ?_))
      rw [hv] at hK
      exact hK () _ _ (by first | (refine Weak.of ?_; (repeat (first | exact trivial | refine ⟨rfl, ?_⟩ | refine ⟨by simp [Env.get], ?_⟩)); done) | (refine Weak.pick (by repeat (first | exact trivial | refine ⟨rfl, ?_⟩ | refine ⟨by simp [Env.get], ?_⟩)) (by first | rfl | (simp [pickH, Heap.get, Heap.del, Heap.set, ofV_i, ofV_b]; done))))
    · have hv : litV s = s.value := by simp at hc; simp [litV, hc]
      (refine goA ?_; repeat (refine goN fun _ => ?_; refine goA ?_))
      rw [hv] at hK
      exact hK () _ _ (by first | (refine Weak.of ?_; (repeat (first | exact trivial | refine ⟨rfl, ?_⟩ | refine ⟨by simp [Env.get], ?_⟩)); done) | (refine Weak.pick (by repeat (first | exact trivial | refine ⟨rfl, ?_⟩ | refine ⟨by simp [Env.get], ?_⟩)) (by first | rfl | (simp [pickH, Heap.get, Heap.del, Heap.set, ofV_i, ofV_b]; done))))
  rintro ⟨⟩
  try dsimp only
  (refine goA ?_; repeat (refine goN fun _ => ?_; refine goA ?_))
  rename_i a124
  refine AWP.weak (Weak.relab 137 15 rfl rfl) ?_
  refine AWP.loopS (σ := Nat × Loc) (fun q => [(16, .i (p.limit + (q.1 : Nat))), (15, .ref 137 q.2 4 0 (q.1 + 1)), (11, .i (j : Nat)), (7, .i (F : Nat)), (3, .ptr 3 a3 4 0 0)]) (fun q => [(137, q.2, .arr 4 ((ownL p j s q.1).map Sig.av)), (3, a3, .arr 4 [p.av])]) (fun q => q.1 ≤ N) (fun q => N - q.1) (0, a124) ?_ (by first | omega | (dsimp only; omega)) ?_
  · refine Weak.pick ⟨by simp [Env.get, Env.set, AV.i], rfl, rfl, rfl, rfl, trivial⟩ ?_
    rfl
  rintro ⟨n, aa⟩ hn K3 hK3
  dsimp only at hn hK3 ⊢
  by_cases hlt : n < N
  · (refine goA ?_; repeat (refine goN fun _ => ?_; refine goA ?_))
    refine s_app_ref rfl rfl rfl rfl (by simp [ownL, lateL]) rfl (by omega) fun a2 => ?_
    (refine goA ?_; repeat (refine goN fun _ => ?_; refine goA ?_))
    refine hK3 (n + 1, a2) _ _ (by first | omega | (dsimp only; omega)) (by first | omega | (dsimp only; omega)) ?_
    dsimp only
    have e : (ownL p j s (n + 1)).map Sig.av = (ownL p j s n).map Sig.av ++ [Sig.av ⟨p.limit + (n : Nat), 3, j, 0⟩] := by simp [ownL, lateL_succ]
    rw [e, show p.limit + ((n + 1 : Nat) : Int) = p.limit + (n : Nat) + 1 by omega]
    exact (by first | (refine Weak.of ?_; (repeat (first | exact trivial | refine ⟨rfl, ?_⟩ | refine ⟨by simp [Env.get], ?_⟩)); done) | (refine Weak.pick (by repeat (first | exact trivial | refine ⟨rfl, ?_⟩ | refine ⟨by simp [Env.get], ?_⟩)) (by first | rfl | (simp [pickH, Heap.get, Heap.del, Heap.set, ofV_i, ofV_b]; done))))
  have hn' : n = N := by omega
  subst hn'
  obtain ⟨o1, o2⟩ := own_play hb h3 hs0 n (by omega) (by omega)
  rw [hF] at o1 o2
  rw [Int.toNat_natCast] at o2
  (refine goA ?_; repeat (refine goN fun _ => ?_; refine goA ?_))
  refine s_call rfl ?_
  refine CallOK.give 2 137 rfl (xs' := [p.av, .i (F : Nat), .fz 4 ((ownL p j s n).map Sig.av)]) ?_ (play_ok p hsm F (ownL p j s n) (by simp [ownL, lateL]; omega)) ?_
  · have q := close_ints (sz := 4) (n := n + 1) (g := Sig.av) (fun H k => by funext x; cases k <;> rfl) (H := [(137, aa, .arr 4 ((ownL p j s n).map Sig.av))]) (h := 137) (a := aa) rfl (by simp [ownL, lateL]) 1
    simp only [List.map]; rw [q]; rfl
  rw [show playE p F (ownL p j s n) = 0 from o1]
  obtain ⟨b1, b2⟩ := play_bits o1
  obtain ⟨r, r1, r2, r3⟩ := b2 (F - 1) (by omega)
  have hj : j < p.doors.length := h2
  have r4 := r3 j hj
  rw [show F - 1 + 1 = F by omega, o2] at r4
  have hr8 : r < 256 := Nat.lt_of_lt_of_le r2 (Nat.pow_le_pow_right (by omega) hdl : 2 ^ p.doors.length ≤ 2 ^ 8)
  generalize playR p F (ownL p j s n) = R at b1 r1
  have hl5 : (((nats R).length : Int) == (F : Int)) = true := by simp [nats, b1]
  (refine goA ?_; repeat (refine goN fun _ => ?_; refine goA ?_))
  refine s_iaddr_fz rfl rfl (by omega) (e := .i (r : Nat)) ?_ ?_
  · have : ((F : Int) - 1).toNat = F - 1 := by omega
    rw [this]
    exact get_map (fun n : Nat => AV.i (n : Nat)) r1
  (refine goA ?_; repeat (refine goN fun _ => ?_; refine goA ?_))
  refine s_call rfl ?_
  refine CallOK.pure (bit_ok r j hr8 (by omega)) ?_
  rw [r4]
  (refine goA ?_; repeat (refine goN fun _ => ?_; refine goA ?_))
  refine s_call rfl ?_
  refine call_works ?_
  (refine goA ?_; repeat (refine goN fun _ => ?_; refine goA ?_))
  refine post_ret rfl ⟨0, rfl⟩
end Go.Proofs.Ytjnencdmejhmjaa.Eng
