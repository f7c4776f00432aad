/- CONTROL: what a signal must be; what the master says to a door; the next state of a door. -/
import Derived.Test.YtjnencdmejhmjaaW2
import Derived.Test.YtjnencdmejhmjaaS2
namespace Go.Proofs.Ytjnencdmejhmjaa.Eng
open Go Go.RowKit
attribute [local irreducible] insRun planRun AWP holdsAll CallOK Weak Ins.holds
set_option linter.unusedSimpArgs false
set_option linter.unusedVariables false
set_option maxHeartbeats 4000000
theorem beq_dec (a b : Int) : (a == b) = decide (a = b) := rfl
theorem right_ok (p : Panel) (ticks : Int) (x : Sig) (hs : 0 ≤ p.sensors ∧ p.sensors ≤ 12) (ht : 0 ≤ ticks ∧ ticks ≤ 1000) (hd : p.doors.length ≤ 8) : PCalls Try.prog 64 [p.av, .i ticks, x.av] (.b (rightB p ticks x)) := by
  have hd2 : (p.doors.map Gate.av).length = p.doors.length := by simp
  refine PCalls.body fn64 _ (by simp) ?_
  unfold ir64
  (refine goA ?_; repeat (refine goN fun _ => ?_; refine goA ?_))
  refine s_call rfl ?_
  refine CallOK.pure (within_ok ..) ?_
  (refine goA ?_; repeat (refine goN fun _ => ?_; refine goA ?_))
  refine AWP.cond rfl (fun hc => ?_) (fun hc => ?_)
  · (refine goA ?_; repeat (refine goN fun _ => ?_; refine goA ?_))
    refine post_ret rfl ⟨0, ?_⟩
    simp at hc
    simp [closeAV, mkRes, AV.ofV, rightB, beq_dec, hc]
  rename_i hc0
  replace hc0 := hc
  simp at hc0
  clear hc
  (refine goA ?_; repeat (refine goN fun _ => ?_; refine goA ?_))
  refine AWP.cond rfl (fun hc => ?_) (fun hc => ?_)
  · (refine goA ?_; repeat (refine goN fun _ => ?_; refine goA ?_))
    refine s_call rfl ?_
    refine CallOK.pure (within_ok ..) ?_
    (refine goA ?_; repeat (refine goN fun _ => ?_; refine goA ?_))
    simp at hc
    refine s_if rfl (fun h2 => ?_) (fun h2 => ?_)
    · rw [h2]
      (refine goA ?_; repeat (refine goN fun _ => ?_; refine goA ?_))
      refine s_call rfl ?_
      refine CallOK.pure (within_ok ..) ?_
      (refine goA ?_; repeat (refine goN fun _ => ?_; refine goA ?_))
      refine post_ret rfl ⟨0, ?_⟩
      simp [closeAV, mkRes, rightB, beq_dec, hc, hc0, h2]
    · simp at h2
      rw [h2]
      (refine goA ?_; repeat (refine goN fun _ => ?_; refine goA ?_))
      refine post_ret rfl ⟨0, ?_⟩
      simp [closeAV, mkRes, AV.ofV, rightB, beq_dec, hc, hc0, h2]
  replace hc := of_decide_eq_false hc
  rename_i hk1
  have hk1 := hc
  clear hc
  (refine goA ?_; repeat (refine goN fun _ => ?_; refine goA ?_))
  refine AWP.cond rfl (fun hc => ?_) (fun hc => ?_)
  · (refine goA ?_; repeat (refine goN fun _ => ?_; refine goA ?_))
    refine s_call rfl ?_
    refine CallOK.pure (within_ok ..) ?_
    (refine goA ?_; repeat (refine goN fun _ => ?_; refine goA ?_))
    simp at hc
    refine s_if rfl (fun h2 => ?_) (fun h2 => ?_)
    · rw [h2]
      (refine goA ?_; repeat (refine goN fun _ => ?_; refine goA ?_))
      refine post_ret rfl ⟨0, ?_⟩
      simp [closeAV, mkRes, rightB, beq_dec, hc, hc0, h2]
    · simp at h2
      rw [h2]
      (refine goA ?_; repeat (refine goN fun _ => ?_; refine goA ?_))
      refine post_ret rfl ⟨0, ?_⟩
      simp [closeAV, mkRes, AV.ofV, rightB, beq_dec, hc, hc0, h2]
  have hk2 : ¬ x.kind = 2 := of_decide_eq_false hc
  clear hc
  (refine goA ?_; repeat (refine goN fun _ => ?_; refine goA ?_))
  refine AWP.cond rfl (fun h3 => ?_) (fun h3 => ?_)
  · rw [h3]
    replace h3 : x.kind = 3 := of_decide_eq_true h3
    (refine goA ?_; repeat (refine goN fun _ => ?_; refine goA ?_))
    refine s_call rfl ?_
    refine CallOK.pure (within_ok ..) ?_
    (refine goA ?_; repeat (refine goN fun _ => ?_; refine goA ?_))
    refine s_if rfl (fun h2 => ?_) (fun h2 => ?_)
    · rw [h2]
      (refine goA ?_; repeat (refine goN fun _ => ?_; refine goA ?_))
      refine post_ret rfl ⟨0, ?_⟩
      rw [hd2] at h2
      simp [closeAV, mkRes, rightB, beq_dec, h3, hc0, h2]
    · rw [h2]
      (refine goA ?_; repeat (refine goN fun _ => ?_; refine goA ?_))
      refine post_ret rfl ⟨0, ?_⟩
      rw [hd2] at h2
      simp at h2
      simp [closeAV, mkRes, AV.ofV, rightB, beq_dec, h3, hc0, h2]
  rw [h3]
  have hk3 : ¬ x.kind = 3 := of_decide_eq_false h3
  (refine goA ?_; repeat (refine goN fun _ => ?_; refine goA ?_))
  refine AWP.cond rfl (fun hc => ?_) (fun hc => ?_)
  · have h6 : x.kind = 6 := of_decide_eq_true hc
    (refine goA ?_; repeat (refine goN fun _ => ?_; refine goA ?_))
    refine s_call rfl ?_
    refine CallOK.pure (within_ok ..) ?_
    (refine goA ?_; repeat (refine goN fun _ => ?_; refine goA ?_))
    refine s_if rfl (fun h2 => ?_) (fun h2 => ?_)
    · rw [h2]
      (refine goA ?_; repeat (refine goN fun _ => ?_; refine goA ?_))
      refine post_ret rfl ⟨0, ?_⟩
      rw [hd2] at h2
      simp [closeAV, mkRes, rightB, beq_dec, h6, hc0, h2]
    · rw [h2]
      (refine goA ?_; repeat (refine goN fun _ => ?_; refine goA ?_))
      refine post_ret rfl ⟨0, ?_⟩
      rw [hd2] at h2
      simp at h2
      simp [closeAV, mkRes, AV.ofV, rightB, beq_dec, h6, hc0, h2]
  have hk6 : ¬ x.kind = 6 := of_decide_eq_false hc
  clear hc
  (refine goA ?_; repeat (refine goN fun _ => ?_; refine goA ?_))
  refine AWP.cond rfl (fun h4 => ?_) (fun h4 => ?_)
  · have hk4 : x.kind = 4 := of_decide_eq_true h4
    rw [h4]
    (refine goA ?_; repeat (refine goN fun _ => ?_; refine goA ?_))
    refine s_if rfl (fun h2 => ?_) (fun h2 => ?_)
    · rw [h2]
      (refine goA ?_; repeat (refine goN fun _ => ?_; refine goA ?_))
      refine post_ret rfl ⟨0, ?_⟩
      simp at h2
      simp [closeAV, mkRes, rightB, beq_dec, hk4, hc0, h2]
    · rw [h2]
      (refine goA ?_; repeat (refine goN fun _ => ?_; refine goA ?_))
      refine post_ret rfl ⟨0, ?_⟩
      simp at h2
      simp [closeAV, mkRes, AV.ofV, rightB, beq_dec, hk4, hc0, h2]
  rw [h4]
  have hk4 : ¬ x.kind = 4 := of_decide_eq_false h4
  (refine goA ?_; repeat (refine goN fun _ => ?_; refine goA ?_))
  refine AWP.cond rfl (fun hc => ?_) (fun hc => ?_)
  · have hk5 : x.kind = 5 := of_decide_eq_true hc
    (refine goA ?_; repeat (refine goN fun _ => ?_; refine goA ?_))
    refine s_if rfl (fun h2 => ?_) (fun h2 => ?_)
    · rw [h2]
      (refine goA ?_; repeat (refine goN fun _ => ?_; refine goA ?_))
      refine post_ret rfl ⟨0, ?_⟩
      simp at h2
      simp [closeAV, mkRes, rightB, beq_dec, hk5, hc0, h2]
    · rw [h2]
      (refine goA ?_; repeat (refine goN fun _ => ?_; refine goA ?_))
      refine post_ret rfl ⟨0, ?_⟩
      simp at h2
      simp [closeAV, mkRes, AV.ofV, rightB, beq_dec, hk5, hc0, h2]
  · have hk5 : ¬ x.kind = 5 := of_decide_eq_false hc
    (refine goA ?_; repeat (refine goN fun _ => ?_; refine goA ?_))
    refine post_ret rfl ⟨0, ?_⟩
    simp [closeAV, mkRes, AV.ofV, rightB, hc0, hk1, hk2, hk3, hk4, hk5, hk6]
theorem idx75_ok (xs : List Sig) (hx : xs.length ≤ 9223372036854775807) (f : Nat) (caps : List AV) (p : Sig → Bool) (hp : ∀ x, x ∈ xs → PCalls Try.prog f (Sig.av x :: caps) (.b (p x))) : PCalls Try.prog 75 [.fz 4 (xs.map Sig.av), .fn f caps] (.i (idxI p xs)) := by
  refine PCalls.body fn75 _ (by simp) ?_
  unfold ir75
  (refine goA ?_; repeat (refine goN fun _ => ?_; refine goA ?_))
  refine AWP.loopS (σ := Nat) (fun k => [(8, .i (k : Nat)), (7, .i (xs.length : Nat)), (0, .fz 4 (xs.map Sig.av)), (1, .fn f caps)]) (fun _ => []) (fun k => k ≤ xs.length ∧ ∀ i x, i < k → xs[i]? = some x → p x = false) (fun k => xs.length - k) 0 (by first | (refine Weak.of ?_; (repeat (first | exact trivial | refine ⟨rfl, ?_⟩ | refine ⟨by simp [Env.get], ?_⟩)); done) | (refine Weak.pick (by repeat (first | exact trivial | refine ⟨rfl, ?_⟩ | refine ⟨by simp [Env.get], ?_⟩)) (by first | rfl | (simp [pickH, Heap.get, Heap.del, Heap.set, ofV_i, ofV_b]; done)))) ⟨by omega, by omega⟩ ?_
  rintro k ⟨hk, hI⟩ K2 hK2
  by_cases hlt : k < xs.length
  · have h1 : xs[k]? = some xs[k] := by simp [hlt]
    (refine goA ?_; repeat (refine goN fun _ => ?_; refine goA ?_))
    refine s_callv rfl rfl ?_
    refine CallOK.pure (hp xs[k] (by simp)) ?_
    (refine goA ?_; repeat (refine goN fun _ => ?_; refine goA ?_))
    refine AWP.cond rfl (fun hc => ?_) (fun hc => ?_)
    · (refine goA ?_; repeat (refine goN fun _ => ?_; refine goA ?_))
      refine post_ret rfl ⟨0, ?_⟩
      simp [closeAV, mkRes, idxI_at hlt hI hc]
    · (refine goA ?_; repeat (refine goN fun _ => ?_; refine goA ?_))
      refine hK2 (k + 1) _ _ (by omega) ⟨by omega, ?_⟩ (by first | (refine Weak.of ?_; (repeat (first | exact trivial | refine ⟨rfl, ?_⟩ | refine ⟨by simp [Env.get], ?_⟩)); done) | (refine Weak.pick (by repeat (first | exact trivial | refine ⟨rfl, ?_⟩ | refine ⟨by simp [Env.get], ?_⟩)) (by first | rfl | (simp [pickH, Heap.get, Heap.del, Heap.set, ofV_i, ofV_b]; done))))
      intro i x hi hxi
      rcases Nat.lt_succ_iff_lt_or_eq.1 hi with h | rfl
      · exact hI i x h hxi
      · rw [h1] at hxi; injection hxi with e; subst e; exact hc
  · (refine goA ?_; repeat (refine goN fun _ => ?_; refine goA ?_))
    refine post_ret rfl ⟨0, ?_⟩
    simp [closeAV, mkRes, AV.ofV, idxI_none (show k = xs.length by omega) hI]
theorem any62_ok (xs : List Sig) (hx : xs.length ≤ 9223372036854775807) (f : Nat) (caps : List AV) (p : Sig → Bool) (hp : ∀ x, x ∈ xs → PCalls Try.prog f (Sig.av x :: caps) (.b (p x))) : PCalls Try.prog 62 [.fz 4 (xs.map Sig.av), .fn f caps] (.b (xs.any p)) := by
  refine PCalls.body fn62 _ (by simp) ?_
  unfold ir62
  (refine goA ?_; repeat (refine goN fun _ => ?_; refine goA ?_))
  refine s_call rfl ?_
  refine CallOK.pure (idx75_ok xs hx f caps p hp) ?_
  (refine goA ?_; repeat (refine goN fun _ => ?_; refine goA ?_))
  refine post_ret rfl ⟨0, ?_⟩
  simp [closeAV, mkRes, idxI_ge]

theorem notright_ok (p : Panel) (ticks : Int) (x : Sig) (hs : 0 ≤ p.sensors ∧ p.sensors ≤ 12) (ht : 0 ≤ ticks ∧ ticks ≤ 1000) (hd : p.doors.length ≤ 8) : PCalls Try.prog 63 [x.av, .fptr p.cells, .fptr [.i ticks]] (.b (!rightB p ticks x)) := by
  refine PCalls.body fn63 _ (by simp) ?_
  unfold ir63
  (refine goA ?_; repeat (refine goN fun _ => ?_; refine goA ?_))
  refine s_call rfl ?_
  refine CallOK.pure (right_ok p ticks x hs ht hd) ?_
  (refine goA ?_; repeat (refine goN fun _ => ?_; refine goA ?_))
  refine post_ret rfl ⟨0, ?_⟩
  simp [closeAV, mkRes]
end Go.Proofs.Ytjnencdmejhmjaa.Eng
