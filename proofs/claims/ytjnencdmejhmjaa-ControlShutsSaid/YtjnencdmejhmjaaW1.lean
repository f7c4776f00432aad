/- CONTROL: Check of both, and what it calls. -/
import Derived.Test.YtjnencdmejhmjaaT0
import Derived.Test.YtjnencdmejhmjaaS0
namespace Go.Proofs.Ytjnencdmejhmjaa.Eng
open Go Go.RowKit
attribute [local irreducible] insRun planRun AWP holdsAll CallOK Weak Ins.holds
set_option linter.unusedSimpArgs false
set_option linter.unusedVariables false
set_option maxHeartbeats 4000000
theorem within_ok (n lo hi : Int) : PCalls Try.prog 48 [.i n, .i lo, .i hi] (.b (inR n lo hi)) := by
  refine PCalls.body fn48 _ (by simp) ?_
  unfold ir48
  (refine goA ?_; repeat (refine goN fun _ => ?_; refine goA ?_))
  refine s_if rfl (fun hc => ?_) (fun hc => ?_)
  · rw [hc]
    (refine goA ?_; repeat (refine goN fun _ => ?_; refine goA ?_))
    refine post_ret rfl ⟨0, ?_⟩
    simp [closeAV, mkRes, inR, hc]
  · rw [hc]
    (refine goA ?_; repeat (refine goN fun _ => ?_; refine goA ?_))
    refine post_ret rfl ⟨0, ?_⟩
    simp [closeAV, mkRes, inR, hc, AV.ofV]
theorem rwithin_ok (n lo hi : Int) : PCalls Try.prog 43 [.i n, .i lo, .i hi] (.b (inR n lo hi)) := by
  refine PCalls.body fn43 _ (by simp) ?_
  unfold ir43
  (refine goA ?_; repeat (refine goN fun _ => ?_; refine goA ?_))
  refine s_if rfl (fun hc => ?_) (fun hc => ?_)
  · rw [hc]
    (refine goA ?_; repeat (refine goN fun _ => ?_; refine goA ?_))
    refine post_ret rfl ⟨0, ?_⟩
    simp [closeAV, mkRes, inR, hc]
  · rw [hc]
    (refine goA ?_; repeat (refine goN fun _ => ?_; refine goA ?_))
    refine post_ret rfl ⟨0, ?_⟩
    simp [closeAV, mkRes, inR, hc, AV.ofV]
theorem idx68_ok (xs : List Sense) (hx : xs.length ≤ 9223372036854775807) (f : Nat) (caps : List AV) (p : Sense → Bool) (hp : ∀ x, x ∈ xs → PCalls Try.prog f (Sense.av x :: caps) (.b (p x))) : PCalls Try.prog 68 [.fz 3 (xs.map Sense.av), .fn f caps] (.i (idxI p xs)) := by
  refine PCalls.body fn68 _ (by simp) ?_
  unfold ir68
  (refine goA ?_; repeat (refine goN fun _ => ?_; refine goA ?_))
  refine AWP.loopS (σ := Nat) (fun k => [(8, .i (k : Nat)), (7, .i (xs.length : Nat)), (0, .fz 3 (xs.map Sense.av)), (1, .fn f caps)]) (fun _ => []) (fun k => k ≤ xs.length ∧ ∀ i x, i < k → xs[i]? = some x → p x = false) (fun k => xs.length - k) 0 (by first | (refine Weak.of ?_; (repeat (first | exact trivial | refine ⟨rfl, ?_⟩ | refine ⟨by simp [Env.get], ?_⟩)); done) | (refine Weak.pick (by repeat (first | exact trivial | refine ⟨rfl, ?_⟩ | refine ⟨by simp [Env.get], ?_⟩)) (by first | rfl | (simp [pickH, Heap.get, Heap.del, Heap.set, ofV_i, ofV_b]; done)))) ⟨by omega, by omega⟩ ?_
  rintro k ⟨hk, hI⟩ K2 hK2
  by_cases hlt : k < xs.length
  · have h1 : xs[k]? = some xs[k] := by simp [hlt]
    (refine goA ?_; repeat (refine goN fun _ => ?_; refine goA ?_))
    refine s_callv rfl rfl ?_
    refine CallOK.pure (hp xs[k] (by simp)) ?_
    (refine goA ?_; repeat (refine goN fun _ => ?_; refine goA ?_))
    refine AWP.cond rfl (fun hc => ?_) (fun hc => ?_)
    · (refine goA ?_; repeat (refine goN fun _ => ?_; refine goA ?_))
      refine post_ret rfl ⟨0, ?_⟩
      simp [closeAV, mkRes, idxI_at hlt hI hc]
    · (refine goA ?_; repeat (refine goN fun _ => ?_; refine goA ?_))
      refine hK2 (k + 1) _ _ (by omega) ⟨by omega, ?_⟩ (by first | (refine Weak.of ?_; (repeat (first | exact trivial | refine ⟨rfl, ?_⟩ | refine ⟨by simp [Env.get], ?_⟩)); done) | (refine Weak.pick (by repeat (first | exact trivial | refine ⟨rfl, ?_⟩ | refine ⟨by simp [Env.get], ?_⟩)) (by first | rfl | (simp [pickH, Heap.get, Heap.del, Heap.set, ofV_i, ofV_b]; done))))
      intro i x hi hxi
      rcases Nat.lt_succ_iff_lt_or_eq.1 hi with h | rfl
      · exact hI i x h hxi
      · rw [h1] at hxi; injection hxi with e; subst e; exact hc
  · (refine goA ?_; repeat (refine goN fun _ => ?_; refine goA ?_))
    refine post_ret rfl ⟨0, ?_⟩
    simp [closeAV, mkRes, AV.ofV, idxI_none (show k = xs.length by omega) hI]
theorem any50_ok (xs : List Sense) (hx : xs.length ≤ 9223372036854775807) (f : Nat) (caps : List AV) (p : Sense → Bool) (hp : ∀ x, x ∈ xs → PCalls Try.prog f (Sense.av x :: caps) (.b (p x))) : PCalls Try.prog 50 [.fz 3 (xs.map Sense.av), .fn f caps] (.b (xs.any p)) := by
  refine PCalls.body fn50 _ (by simp) ?_
  unfold ir50
  (refine goA ?_; repeat (refine goN fun _ => ?_; refine goA ?_))
  refine s_call rfl ?_
  refine CallOK.pure (idx68_ok xs hx f caps p hp) ?_
  (refine goA ?_; repeat (refine goN fun _ => ?_; refine goA ?_))
  refine post_ret rfl ⟨0, ?_⟩
  simp [closeAV, mkRes, idxI_ge]

theorem bad_ok (p : Panel) (x : Sense) (hs : 0 ≤ p.sensors ∧ p.sensors ≤ 12) : PCalls Try.prog 49 [x.av, .fptr p.cells] (.b (badSense p.sensors x)) := by
  refine PCalls.body fn49 _ (by simp) ?_
  unfold ir49
  (refine goA ?_; repeat (refine goN fun _ => ?_; refine goA ?_))
  refine s_call rfl ?_
  refine CallOK.pure (within_ok ..) ?_
  (refine goA ?_; repeat (refine goN fun _ => ?_; refine goA ?_))
  refine s_if rfl (fun hc => ?_) (fun hc => ?_)
  · rw [hc]
    (refine goA ?_; repeat (refine goN fun _ => ?_; refine goA ?_))
    refine s_call rfl ?_
    refine CallOK.pure (within_ok ..) ?_
    (refine goA ?_; repeat (refine goN fun _ => ?_; refine goA ?_))
    refine post_ret rfl ⟨0, ?_⟩
    simp at hc
    simp [closeAV, mkRes, badSense, hc]
  · rw [hc]
    (refine goA ?_; repeat (refine goN fun _ => ?_; refine goA ?_))
    refine post_ret rfl ⟨0, ?_⟩
    simp at hc
    simp [closeAV, mkRes, badSense, hc, AV.ofV]
end Go.Proofs.Ytjnencdmejhmjaa.Eng
