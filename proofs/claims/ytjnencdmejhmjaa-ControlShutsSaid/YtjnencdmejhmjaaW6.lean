/- CONTROL: the loop of begin over the signals. -/
import Derived.Test.YtjnencdmejhmjaaT0
import Derived.Test.YtjnencdmejhmjaaS2
namespace Go.Proofs.Ytjnencdmejhmjaa.Eng
open Go Go.RowKit
attribute [local irreducible] insRun planRun AWP holdsAll CallOK Weak Ins.holds
set_option linter.unusedSimpArgs false
set_option linter.unusedVariables false
set_option maxHeartbeats 4000000
theorem sig_loop {p : Panel} {l : List Sig} {T : Nat} {t : Nat} (hl : l.length ≤ 200) (hs : 0 ≤ p.sensors ∧ p.sensors ≤ 12) (hr : ∀ x ∈ l, rightB p T x = true) {L : Locs} {s0 : Sg} {values ages said heard : List Int} {ts : List Tick} {c0 c1 c2 : AV} (hlen : SgLen p s0)
    {Q : Exit → Env → Heap → Prop} (hQ : ∀ E' H', Weak 193 E' H' (roundE p l T L t (sigTo t l s0 l.length).power) (roundH p T L (sigTo t l s0 l.length) values ages said heard ts c0 c1 c2) → Q (.exit 2) E' H') :
    AWP Try.prog 193 ir45_l1 ((74, .i (0 : Nat)) :: (73, .i (l.length : Nat)) :: (72, .fz 4 (l.map Sig.av)) :: roundE p l T L t s0.power) (roundH p T L s0 values ages said heard ts c0 c1 c2) Q := by
  unfold ir45_l1
  refine AWP.loopS (σ := Nat × Sg) (fun s => (74, .i (s.1 : Nat)) :: (73, .i (l.length : Nat)) :: (72, .fz 4 (l.map Sig.av)) :: roundE p l T L t s.2.power) (fun s => roundH p T L s.2 values ages said heard ts c0 c1 c2) (fun s => s.1 ≤ l.length ∧ s.2 = sigTo t l s0 s.1 ∧ SgLen p s.2) (fun s => l.length - s.1) (0, s0) (Weak.refl ..) ⟨by dsimp only; omega, rfl, hlen⟩ ?_
  rintro ⟨j, s⟩ ⟨hj, hsj, hsl⟩ K2 hK2
  dsimp only at hj hsj hsl hK2 ⊢
  by_cases hlt : j < l.length
  · have h1 : l[j]? = some l[j] := by simp [hlt]
    generalize l[j] = x at h1
    obtain ⟨hn1, hn2⟩ := right_num (hr x (List.mem_of_getElem? h1))
    have hs1 : sigTo t l s0 (j + 1) = sigStep t s x := by rw [sigTo_succ _ _ _ _ _ h1, hsj]
    have hstep := hsl.step t x
    obtain ⟨e1, e2, e3, e4⟩ := hsl
    have fin : ∀ (s' : Sg) E' H', sigStep t s x = s' → Weak 193 E' H' ((74, .i ((j + 1 : Nat) : Int)) :: (73, .i (l.length : Nat)) :: (72, .fz 4 (l.map Sig.av)) :: roundE p l T L t s'.power) (roundH p T L s' values ages said heard ts c0 c1 c2) → K2 E' H' := by
      rintro s' E' H' rfl hw
      exact hK2 (j + 1, sigStep t s x) E' H' (by dsimp only; omega) ⟨by dsimp only; omega, hs1.symm, hstep⟩ hw
    (refine goA ?_; repeat (refine goN fun _ => ?_; refine goA ?_))
    refine AWP.cond rfl (fun hc => ?_) (fun hc => ?_)
    · (refine goA ?_; repeat (refine goN fun _ => ?_; refine goA ?_))
      refine fin s _ _ ?_ (by first | (refine Weak.of ?_; (repeat (first | exact trivial | refine ⟨rfl, ?_⟩ | refine ⟨by simp [Env.get], ?_⟩)); done) | (refine Weak.pick (by repeat (first | exact trivial | refine ⟨rfl, ?_⟩ | refine ⟨by simp [Env.get], ?_⟩)) (by first | rfl | (simp [pickH, Heap.get, Heap.del, Heap.set, ofV_i, ofV_b]; done))))
      have : ¬ x.time = t := by simpa using hc
      simp [sigStep, this]
    have ht : x.time = t := by simpa using hc
    clear hc
    (refine goA ?_; repeat (refine goN fun _ => ?_; refine goA ?_))
    refine AWP.cond rfl (fun hc => ?_) (fun hc => ?_)
    · have hk : x.kind = 1 := of_decide_eq_true hc
      have hb : 0 ≤ x.number ∧ x.number < (p.sensors.toNat : Int) := by have := hn1 (.inl hk); omega
      (refine goA ?_; repeat (refine goN fun _ => ?_; refine goA ?_))
      refine fin { s with senses := s.senses.set x.number.toNat x.value } _ _ ?_ (by first | (refine Weak.of ?_; (repeat (first | exact trivial | refine ⟨rfl, ?_⟩ | refine ⟨by simp [Env.get], ?_⟩)); done) | (refine Weak.pick (by repeat (first | exact trivial | refine ⟨rfl, ?_⟩ | refine ⟨by simp [Env.get], ?_⟩)) (by first | rfl | (simp [pickH, Heap.get, Heap.del, Heap.set, ofV_i, ofV_b]; done))))
      simp [sigStep, ht, hk]
    have hk1 : ¬ x.kind = 1 := of_decide_eq_false hc
    clear hc
    (refine goA ?_; repeat (refine goN fun _ => ?_; refine goA ?_))
    refine AWP.cond rfl (fun hc => ?_) (fun hc => ?_)
    · have hk : x.kind = 2 := of_decide_eq_true hc
      have hb : 0 ≤ x.number ∧ x.number < (p.sensors.toNat : Int) := by have := hn1 (.inr hk); omega
      (refine goA ?_; repeat (refine goN fun _ => ?_; refine goA ?_))
      refine fin { s with muted := s.muted.set x.number.toNat true } _ _ ?_ (by first | (refine Weak.of ?_; (repeat (first | exact trivial | refine ⟨rfl, ?_⟩ | refine ⟨by simp [Env.get], ?_⟩)); done) | (refine Weak.pick (by repeat (first | exact trivial | refine ⟨rfl, ?_⟩ | refine ⟨by simp [Env.get], ?_⟩)) (by first | rfl | (simp [pickH, Heap.get, Heap.del, Heap.set, ofV_i, ofV_b]; done))))
      simp [sigStep, ht, hk]
    have hk2 : ¬ x.kind = 2 := of_decide_eq_false hc
    clear hc
    (refine goA ?_; repeat (refine goN fun _ => ?_; refine goA ?_))
    refine AWP.cond rfl (fun hc => ?_) (fun hc => ?_)
    · have hk : x.kind = 3 := of_decide_eq_true hc
      have hb : 0 ≤ x.number ∧ x.number < (p.doors.length : Int) := hn2 (.inl hk)
      (refine goA ?_; repeat (refine goN fun _ => ?_; refine goA ?_))
      refine fin { s with missed := s.missed.set x.number.toNat true } _ _ ?_ (by first | (refine Weak.of ?_; (repeat (first | exact trivial | refine ⟨rfl, ?_⟩ | refine ⟨by simp [Env.get], ?_⟩)); done) | (refine Weak.pick (by repeat (first | exact trivial | refine ⟨rfl, ?_⟩ | refine ⟨by simp [Env.get], ?_⟩)) (by first | rfl | (simp [pickH, Heap.get, Heap.del, Heap.set, ofV_i, ofV_b]; done))))
      simp [sigStep, ht, hk]
    have hk3 : ¬ x.kind = 3 := of_decide_eq_false hc
    clear hc
    (refine goA ?_; repeat (refine goN fun _ => ?_; refine goA ?_))
    refine AWP.cond rfl (fun hc => ?_) (fun hc => ?_)
    · have hk : x.kind = 4 := of_decide_eq_true hc
      (refine goA ?_; repeat (refine goN fun _ => ?_; refine goA ?_))
      refine fin { s with power := false } _ _ ?_ (by first | (refine Weak.of ?_; (repeat (first | exact trivial | refine ⟨rfl, ?_⟩ | refine ⟨by simp [Env.get], ?_⟩)); done) | (refine Weak.pick (by repeat (first | exact trivial | refine ⟨rfl, ?_⟩ | refine ⟨by simp [Env.get], ?_⟩)) (by first | rfl | (simp [pickH, Heap.get, Heap.del, Heap.set, ofV_i, ofV_b]; done))))
      simp [sigStep, ht, hk]
    have hk4 : ¬ x.kind = 4 := of_decide_eq_false hc
    clear hc
    (refine goA ?_; repeat (refine goN fun _ => ?_; refine goA ?_))
    refine AWP.cond rfl (fun hc => ?_) (fun hc => ?_)
    · have hk : x.kind = 5 := of_decide_eq_true hc
      (refine goA ?_; repeat (refine goN fun _ => ?_; refine goA ?_))
      refine fin { s with power := true } _ _ ?_ (by first | (refine Weak.of ?_; (repeat (first | exact trivial | refine ⟨rfl, ?_⟩ | refine ⟨by simp [Env.get], ?_⟩)); done) | (refine Weak.pick (by repeat (first | exact trivial | refine ⟨rfl, ?_⟩ | refine ⟨by simp [Env.get], ?_⟩)) (by first | rfl | (simp [pickH, Heap.get, Heap.del, Heap.set, ofV_i, ofV_b]; done))))
      simp [sigStep, ht, hk]
    have hk5 : ¬ x.kind = 5 := of_decide_eq_false hc
    clear hc
    (refine goA ?_; repeat (refine goN fun _ => ?_; refine goA ?_))
    refine AWP.cond rfl (fun hc => ?_) (fun hc => ?_)
    · have hk : x.kind = 6 := of_decide_eq_true hc
      have hb : 0 ≤ x.number ∧ x.number < (p.doors.length : Int) := hn2 (.inr hk)
      (refine goA ?_; repeat (refine goN fun _ => ?_; refine goA ?_))
      refine fin { s with stood := s.stood.set x.number.toNat true } _ _ ?_ (by first | (refine Weak.of ?_; (repeat (first | exact trivial | refine ⟨rfl, ?_⟩ | refine ⟨by simp [Env.get], ?_⟩)); done) | (refine Weak.pick (by repeat (first | exact trivial | refine ⟨rfl, ?_⟩ | refine ⟨by simp [Env.get], ?_⟩)) (by first | rfl | (simp [pickH, Heap.get, Heap.del, Heap.set, ofV_i, ofV_b]; done))))
      simp [sigStep, ht, hk]
    have hk6 : ¬ x.kind = 6 := of_decide_eq_false hc
    clear hc
    (refine goA ?_; repeat (refine goN fun _ => ?_; refine goA ?_))
    refine fin s _ _ ?_ (by first | (refine Weak.of ?_; (repeat (first | exact trivial | refine ⟨rfl, ?_⟩ | refine ⟨by simp [Env.get], ?_⟩)); done) | (refine Weak.pick (by repeat (first | exact trivial | refine ⟨rfl, ?_⟩ | refine ⟨by simp [Env.get], ?_⟩)) (by first | rfl | (simp [pickH, Heap.get, Heap.del, Heap.set, ofV_i, ofV_b]; done))))
    simp [sigStep, ht, hk1, hk2, hk3, hk4, hk5, hk6]
  · have hj' : j = l.length := by omega
    subst hj'
    rw [← hsj] at hQ
    (refine goA ?_; repeat (refine goN fun _ => ?_; refine goA ?_))
    exact hQ _ _ (by first | (refine Weak.of ?_; (repeat (first | exact trivial | refine ⟨rfl, ?_⟩ | refine ⟨by simp [Env.get], ?_⟩)); done) | (refine Weak.pick (by repeat (first | exact trivial | refine ⟨rfl, ?_⟩ | refine ⟨by simp [Env.get], ?_⟩)) (by first | rfl | (simp [pickH, Heap.get, Heap.del, Heap.set, ofV_i, ofV_b]; done))))
end Go.Proofs.Ytjnencdmejhmjaa.Eng
