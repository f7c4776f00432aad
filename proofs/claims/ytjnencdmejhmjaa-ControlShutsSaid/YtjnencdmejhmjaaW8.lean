/- CONTROL: the loop of begin over the doors. -/
import Derived.Test.YtjnencdmejhmjaaS3
import Derived.Test.YtjnencdmejhmjaaW5
namespace Go.Proofs.Ytjnencdmejhmjaa.Eng
open Go Go.RowKit
attribute [local irreducible] insRun planRun AWP holdsAll CallOK Weak Ins.holds
set_option linter.unusedSimpArgs false
set_option linter.unusedVariables false
set_option maxHeartbeats 4000000
theorem close_tick {H : Heap} {a b c : Loc} {n : Nat} {pw : Bool} {vs gs sd hd : List Int} {st : List Bool} (h1 : H.get 58 = some (a, .arr 1 (sd.map .i))) (h2 : H.get 62 = some (b, .arr 1 (hd.map .i))) (h3 : H.get 66 = some (c, .arr 1 (st.map .b))) (e1 : n = sd.length) (e2 : n = hd.length) (e3 : n = st.length) :
    closeAV H 2 (.agg [.b pw, ints vs, ints gs, .ref 58 a 1 0 n, .ref 62 b 1 0 n, .ref 66 c 1 0 n]) = Tick.av ⟨pw, vs, gs, sd, hd, st⟩ := by
  have q1 := close_ints (sz := 1) elem_i' h1 e1 0
  have q2 := close_ints (sz := 1) elem_i' h2 e2 0
  have q3 := close_ints (sz := 1) elem_b' h3 e3 0
  show AV.agg [AV.b pw, ints vs, ints gs, closeAV H 1 _, closeAV H 1 _, closeAV H 1 _] = _
  rw [q1, q2, q3]; rfl
theorem door_loop {p : Panel} {l : List Sig} {T : Nat} {t : Nat} (hg : GoodDoors p) {L : Locs} {s : Sg} {vs gs sd hd : List Int} {ts : List Tick} (hlen : SgLen p s) (hv : vs.length = p.sensors.toNat) (ha : gs.length = p.sensors.toNat) (hsd : sd.length = p.doors.length) (hhd : hd.length = p.doors.length)
    {Q : Exit → Env → Heap → Prop} (hQ : ∀ sd' hd' E' H', doorsTo p t s.missed ⟨s.power, vs, gs, sd, hd, s.stood⟩ p.doors.length = ⟨s.power, vs, gs, sd', hd', s.stood⟩ → Weak 193 E' H' (roundE p l T L t s.power) (roundH p T L s vs gs sd' hd' ts (.b s.power) (ints vs) (ints gs)) → Q (.exit 7) E' H') :
    AWP Try.prog 193 ir45_l3 ((157, .i (0 : Nat)) :: (156, .i (p.doors.length : Nat)) :: (155, .fz 2 (p.doors.map Gate.av)) :: roundE p l T L t s.power) (roundH p T L s vs gs sd hd ts (.b s.power) (ints vs) (ints gs)) Q := by
  unfold ir45_l3
  refine AWP.loopS (σ := Nat × (List Int × List Int)) (fun r => (157, .i (r.1 : Nat)) :: (156, .i (p.doors.length : Nat)) :: (155, .fz 2 (p.doors.map Gate.av)) :: roundE p l T L t s.power) (fun r => roundH p T L s vs gs r.2.1 r.2.2 ts (.b s.power) (ints vs) (ints gs)) (fun r => r.1 ≤ p.doors.length ∧ doorsTo p t s.missed ⟨s.power, vs, gs, sd, hd, s.stood⟩ r.1 = ⟨s.power, vs, gs, r.2.1, r.2.2, s.stood⟩) (fun r => p.doors.length - r.1) (0, sd, hd) (Weak.refl ..) ⟨by dsimp only; omega, rfl⟩ ?_
  rintro ⟨k, xs, ys⟩ ⟨hk, hI⟩ K2 hK2
  dsimp only at hk hI hK2 ⊢
  obtain ⟨e1, e2, e3, e4⟩ := hlen
  obtain ⟨hg1, hg2⟩ := hg
  have hxl : xs.length = p.doors.length := by have := (doorsTo_len p t s.missed ⟨s.power, vs, gs, sd, hd, s.stood⟩ k).1; rw [hI] at this; exact this.trans hsd
  have hyl : ys.length = p.doors.length := by have := (doorsTo_len p t s.missed ⟨s.power, vs, gs, sd, hd, s.stood⟩ k).2.1; rw [hI] at this; exact this.trans hhd
  by_cases hlt : k < p.doors.length
  · have h1 : p.doors[k]? = some p.doors[k] := by simp [hlt]
    generalize p.doors[k] = d at h1
    have h2 : s.missed[k]? = some (rdB s.missed k) := rdB_get (by omega)
    obtain ⟨hw1, hw2⟩ := hg2 d (List.mem_of_getElem? h1)
    have fin : ∀ sd' hd' E' H', doorsTo p t s.missed ⟨s.power, vs, gs, sd, hd, s.stood⟩ (k + 1) = ⟨s.power, vs, gs, sd', hd', s.stood⟩ → Weak 193 E' H' ((157, .i ((k + 1 : Nat) : Int)) :: (156, .i (p.doors.length : Nat)) :: (155, .fz 2 (p.doors.map Gate.av)) :: roundE p l T L t s.power) (roundH p T L s vs gs sd' hd' ts (.b s.power) (ints vs) (ints gs)) → K2 E' H' := by
      intro sd' hd' E' H' hd2 hw
      exact hK2 (k + 1, sd', hd') E' H' (by dsimp only; omega) ⟨by dsimp only; omega, hd2⟩ hw
    (refine goA ?_; repeat (refine goN fun _ => ?_; refine goA ?_))
    refine AWP.cond rfl (fun h4 => ?_) (fun h4 => ?_)
    · (refine goA ?_; repeat (refine goN fun _ => ?_; refine goA ?_))
      refine s_call rfl ?_
      refine CallOK.borrow' 2 (xs' := [Tick.av ⟨s.power, vs, gs, xs, ys, s.stood⟩, p.av, .i t, d.av]) ?_ (decide_ok p ⟨s.power, vs, gs, xs, ys, s.stood⟩ t d hw1 fun y hy => ?_) rfl ?_
      · simp only [List.map]
        rw [close_tick rfl rfl rfl hxl.symm hyl.symm e4.symm]; rfl
      · have := hw2 y hy; dsimp only; omega
      (refine goA ?_; repeat (refine goN fun _ => ?_; refine goA ?_))
      refine AWP.cond rfl (fun h5 => ?_) (fun h5 => ?_)
      · have h6 : (xs.set k (decideI p ⟨s.power, vs, gs, xs, ys, s.stood⟩ t d))[k]? = some (rd (xs.set k (decideI p ⟨s.power, vs, gs, xs, ys, s.stood⟩ t d)) k) := rd_get (by simp; omega)
        (refine goA ?_; repeat (refine goN fun _ => ?_; refine goA ?_))
        refine fin _ _ _ _ ?_ (by first | (refine Weak.of ?_; (repeat (first | exact trivial | refine ⟨rfl, ?_⟩ | refine ⟨by simp [Env.get], ?_⟩)); done) | (refine Weak.pick (by repeat (first | exact trivial | refine ⟨rfl, ?_⟩ | refine ⟨by simp [Env.get], ?_⟩)) (by first | rfl | (simp [pickH, Heap.get, Heap.del, Heap.set, ofV_i, ofV_b]; done))))
        simp only [Bool.not_eq_true'] at h5
        simp only [doorsTo, hI, h1, h5, if_true, Bool.false_eq_true, if_false]; rw [if_pos h4]
      · (refine goA ?_; repeat (refine goN fun _ => ?_; refine goA ?_))
        refine fin _ _ _ _ ?_ (by first | (refine Weak.of ?_; (repeat (first | exact trivial | refine ⟨rfl, ?_⟩ | refine ⟨by simp [Env.get], ?_⟩)); done) | (refine Weak.pick (by repeat (first | exact trivial | refine ⟨rfl, ?_⟩ | refine ⟨by simp [Env.get], ?_⟩)) (by first | rfl | (simp [pickH, Heap.get, Heap.del, Heap.set, ofV_i, ofV_b]; done))))
        simp only [Bool.not_eq_false'] at h5
        simp only [doorsTo, hI, h1, h5, if_true]; rw [if_pos h4]
    · (refine goA ?_; repeat (refine goN fun _ => ?_; refine goA ?_))
      refine AWP.cond rfl (fun h5 => ?_) (fun h5 => ?_)
      · have h6 : xs[k]? = some (rd xs k) := rd_get (by omega)
        (refine goA ?_; repeat (refine goN fun _ => ?_; refine goA ?_))
        refine fin _ _ _ _ ?_ (by first | (refine Weak.of ?_; (repeat (first | exact trivial | refine ⟨rfl, ?_⟩ | refine ⟨by simp [Env.get], ?_⟩)); done) | (refine Weak.pick (by repeat (first | exact trivial | refine ⟨rfl, ?_⟩ | refine ⟨by simp [Env.get], ?_⟩)) (by first | rfl | (simp [pickH, Heap.get, Heap.del, Heap.set, ofV_i, ofV_b]; done))))
        simp only [Bool.not_eq_true'] at h5
        simp only [doorsTo, hI, h1, h5, Bool.false_eq_true, if_false]; rw [if_neg (by simp [h4])]
      · (refine goA ?_; repeat (refine goN fun _ => ?_; refine goA ?_))
        refine fin _ _ _ _ ?_ (by first | (refine Weak.of ?_; (repeat (first | exact trivial | refine ⟨rfl, ?_⟩ | refine ⟨by simp [Env.get], ?_⟩)); done) | (refine Weak.pick (by repeat (first | exact trivial | refine ⟨rfl, ?_⟩ | refine ⟨by simp [Env.get], ?_⟩)) (by first | rfl | (simp [pickH, Heap.get, Heap.del, Heap.set, ofV_i, ofV_b]; done))))
        simp only [Bool.not_eq_false'] at h5
        simp only [doorsTo, hI, h1, h5, Bool.false_eq_true, if_false, if_true]; rw [if_neg (by simp [h4])]
  · have hk' : k = p.doors.length := by omega
    subst hk'
    (refine goA ?_; repeat (refine goN fun _ => ?_; refine goA ?_))
    exact hQ _ _ _ _ hI (by first | (refine Weak.of ?_; (repeat (first | exact trivial | refine ⟨rfl, ?_⟩ | refine ⟨by simp [Env.get], ?_⟩)); done) | (refine Weak.pick (by repeat (first | exact trivial | refine ⟨rfl, ?_⟩ | refine ⟨by simp [Env.get], ?_⟩)) (by first | rfl | (simp [pickH, Heap.get, Heap.del, Heap.set, ofV_i, ofV_b]; done))))
end Go.Proofs.Ytjnencdmejhmjaa.Eng
