/- CONTROL: the loop of begin over the sensors. -/
import Derived.Test.YtjnencdmejhmjaaT0
import Derived.Test.YtjnencdmejhmjaaS2
namespace Go.Proofs.Ytjnencdmejhmjaa.Eng
open Go Go.RowKit
attribute [local irreducible] insRun planRun AWP holdsAll CallOK Weak Ins.holds
set_option linter.unusedSimpArgs false
set_option linter.unusedVariables false
set_option maxHeartbeats 4000000
theorem tell_loop {p : Panel} {l : List Sig} {T : Nat} {t : Nat} (ht : t ≤ 1000) (hs : 0 ≤ p.sensors ∧ p.sensors ≤ 12) {L : Locs} {s : Sg} {va : List Int × List Int} {said heard : List Int} {ts : List Tick} {c0 c1 c2 : AV} (hlen : SgLen p s) (hv : va.1.length = p.sensors.toNat) (ha : va.2.length = p.sensors.toNat) (hb : Bnd va.2 t)
    {Q : Exit → Env → Heap → Prop} (hQ : ∀ E' H', Weak 193 E' H' (roundE p l T L t s.power) (roundH p T L s (tellTo s va p.sensors.toNat).1 (tellTo s va p.sensors.toNat).2 said heard ts c0 c1 c2) → Q (.exit 5) E' H') :
    AWP Try.prog 193 ir45_l2 ((118, .i (0 : Nat)) :: (117, .i (p.sensors.toNat : Nat)) :: roundE p l T L t s.power) (roundH p T L s va.1 va.2 said heard ts c0 c1 c2) Q := by
  unfold ir45_l2
  refine AWP.loopS (σ := Nat × (List Int × List Int)) (fun r => (118, .i (r.1 : Nat)) :: (117, .i (p.sensors.toNat : Nat)) :: roundE p l T L t s.power) (fun r => roundH p T L s r.2.1 r.2.2 said heard ts c0 c1 c2) (fun r => r.1 ≤ p.sensors.toNat ∧ r.2 = tellTo s va r.1) (fun r => p.sensors.toNat - r.1) (0, va) (Weak.refl ..) ⟨by dsimp only; omega, rfl⟩ ?_
  have hsn : p.sensors.toNat ≤ 12 := by omega
  rintro ⟨j, vs, gs⟩ ⟨hj, hr⟩ K2 hK2
  dsimp only at hj hr hK2 ⊢
  obtain ⟨e1, e2, e3, e4⟩ := hlen
  have hvl : vs.length = p.sensors.toNat := by have := (tellTo_len s va j).1; rw [← hr] at this; exact this.trans hv
  have hal : gs.length = p.sensors.toNat := by have := (tellTo_len s va j).2; rw [← hr] at this; exact this.trans ha
  by_cases hlt : j < p.sensors.toNat
  · have h1 : gs[j]? = some (rd gs j) := rd_get (by omega)
    have h2 : s.muted[j]? = some (rdB s.muted j) := rdB_get (by omega)
    have h3 : s.senses[j]? = some (rd s.senses j) := rd_get (by omega)
    have hbj : 0 ≤ rd gs j ∧ rd gs j ≤ t := by
      have h5 := (tell_ages s va t hb j j (by omega)).2 (Nat.le_refl _)
      rw [← hr] at h5
      rw [h5]; exact hb j (by omega)
    have fin : ∀ (r : List Int × List Int) E' H', tellTo s va (j + 1) = r → Weak 193 E' H' ((118, .i ((j + 1 : Nat) : Int)) :: (117, .i (p.sensors.toNat : Nat)) :: roundE p l T L t s.power) (roundH p T L s r.1 r.2 said heard ts c0 c1 c2) → K2 E' H' := by
      rintro r E' H' rfl hw
      exact hK2 (j + 1, _) E' H' (by dsimp only; omega) ⟨by dsimp only; omega, rfl⟩ hw
    (refine goA ?_; repeat (refine goN fun _ => ?_; refine goA ?_))
    refine s_if rfl (fun h4 => ?_) (fun h4 => ?_)
    · (refine goA ?_; repeat (refine goN fun _ => ?_; refine goA ?_))
      refine AWP.cond rfl (fun h5 => ?_) (fun h5 => ?_)
      · (refine goA ?_; repeat (refine goN fun _ => ?_; refine goA ?_))
        refine fin (vs.set j (rd s.senses j), (gs.set j (rd gs j + 1)).set j 0) _ _ ?_ (by first | (refine Weak.of ?_; (repeat (first | exact trivial | refine ⟨rfl, ?_⟩ | refine ⟨by simp [Env.get], ?_⟩)); done) | (refine Weak.pick (by repeat (first | exact trivial | refine ⟨rfl, ?_⟩ | refine ⟨by simp [Env.get], ?_⟩)) (by first | rfl | (simp [pickH, Heap.get, Heap.del, Heap.set, ofV_i, ofV_b]; done))))
        simp only [Bool.not_eq_true'] at h5
        simp [tellTo, ← hr, h4, h5]
      · (refine goA ?_; repeat (refine goN fun _ => ?_; refine goA ?_))
        refine fin (vs, gs.set j (rd gs j + 1)) _ _ ?_ (by first | (refine Weak.of ?_; (repeat (first | exact trivial | refine ⟨rfl, ?_⟩ | refine ⟨by simp [Env.get], ?_⟩)); done) | (refine Weak.pick (by repeat (first | exact trivial | refine ⟨rfl, ?_⟩ | refine ⟨by simp [Env.get], ?_⟩)) (by first | rfl | (simp [pickH, Heap.get, Heap.del, Heap.set, ofV_i, ofV_b]; done))))
        simp only [Bool.not_eq_false'] at h5
        simp [tellTo, ← hr, h4, h5]
    · have h4' : s.power = false := h4
      (refine goA ?_; repeat (refine goN fun _ => ?_; refine goA ?_))
      refine fin (vs, gs.set j (rd gs j + 1)) _ _ ?_ (by first | (refine Weak.of ?_; (repeat (first | exact trivial | refine ⟨rfl, ?_⟩ | refine ⟨by simp [Env.get], ?_⟩)); done) | (refine Weak.pick (by repeat (first | exact trivial | refine ⟨rfl, ?_⟩ | refine ⟨by simp [Env.get], ?_⟩)) (by first | rfl | (simp [pickH, Heap.get, Heap.del, Heap.set, ofV_i, ofV_b]; done))))
      simp [tellTo, ← hr, h4']
  · have hj' : j = p.sensors.toNat := by omega
    subst hj'
    rw [← hr] at hQ
    (refine goA ?_; repeat (refine goN fun _ => ?_; refine goA ?_))
    exact hQ _ _ (by first | (refine Weak.of ?_; (repeat (first | exact trivial | refine ⟨rfl, ?_⟩ | refine ⟨by simp [Env.get], ?_⟩)); done) | (refine Weak.pick (by repeat (first | exact trivial | refine ⟨rfl, ?_⟩ | refine ⟨by simp [Env.get], ?_⟩)) (by first | rfl | (simp [pickH, Heap.get, Heap.del, Heap.set, ofV_i, ofV_b]; done))))
end Go.Proofs.Ytjnencdmejhmjaa.Eng
