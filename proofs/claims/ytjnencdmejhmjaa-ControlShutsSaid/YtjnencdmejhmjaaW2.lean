/- CONTROL: Check, walked. -/
import Derived.Test.YtjnencdmejhmjaaW1
namespace Go.Proofs.Ytjnencdmejhmjaa.Eng
open Go Go.RowKit
attribute [local irreducible] insRun planRun AWP holdsAll CallOK Weak Ins.holds
set_option linter.unusedSimpArgs false
set_option linter.unusedVariables false
set_option maxHeartbeats 4000000
theorem bad_of {p : Panel} (h : badPanel p = true) : AV.ofV (.int .i64 80) = .i (checkI p) := by simp [checkI, h, AV.ofV]
theorem bad_not {p : Panel} (h : badPanel p = false) : AV.ofV (.int .i64 0) = .i (checkI p) := by simp [checkI, h, AV.ofV]
theorem check_ok (p : Panel) (hsm : p.small) : PCalls Try.prog 27 [p.av] (.i (checkI p)) := by
  refine PCalls.body fn27 _ (by simp) ?_
  unfold ir27
  (refine goA ?_; repeat (refine goN fun _ => ?_; refine goA ?_))
  refine s_call rfl ?_
  refine CallOK.pure (within_ok ..) ?_
  (refine goA ?_; repeat (refine goN fun _ => ?_; refine goA ?_))
  refine s_if rfl (fun hc1 => ?_) (fun hc1 => ?_)
  case refine_2 =>
    rw [hc1]
    (refine goA ?_; repeat (refine goN fun _ => ?_; refine goA ?_))
    refine post_ret rfl ⟨0, bad_of ?_⟩
    simp at hc1
    simp [badPanel, hc1]
  rw [hc1]
  have hs : 0 ≤ p.sensors ∧ p.sensors ≤ 12 := by simpa [inR_iff] using hc1
  (refine goA ?_; repeat (refine goN fun _ => ?_; refine goA ?_))
  refine s_if rfl (fun hc2 => ?_) (fun hc2 => ?_)
  case refine_2 =>
    rw [hc2]
    (refine goA ?_; repeat (refine goN fun _ => ?_; refine goA ?_))
    refine post_ret rfl ⟨0, bad_of ?_⟩
    simp at hc2
    simp [badPanel]; omega
  rw [hc2]
  (refine goA ?_; repeat (refine goN fun _ => ?_; refine goA ?_))
  refine s_call rfl ?_
  refine CallOK.pure (within_ok ..) ?_
  (refine goA ?_; repeat (refine goN fun _ => ?_; refine goA ?_))
  refine s_if rfl (fun hc3 => ?_) (fun hc3 => ?_)
  case refine_2 =>
    rw [hc3]
    (refine goA ?_; repeat (refine goN fun _ => ?_; refine goA ?_))
    refine post_ret rfl ⟨0, bad_of ?_⟩
    simp at hc3
    simp [badPanel, hc3]
  rw [hc3]
  (refine goA ?_; repeat (refine goN fun _ => ?_; refine goA ?_))
  refine s_call rfl ?_
  refine CallOK.pure (within_ok ..) ?_
  (refine goA ?_; repeat (refine goN fun _ => ?_; refine goA ?_))
  refine AWP.cond rfl (fun hc4 => ?_) (fun hc4 => ?_)
  · (refine goA ?_; repeat (refine goN fun _ => ?_; refine goA ?_))
    refine post_ret rfl ⟨0, bad_of ?_⟩
    simp at hc4
    simp [badPanel, hc4]
  (refine goA ?_; repeat (refine goN fun _ => ?_; refine goA ?_))
  refine AWP.loopS (σ := Nat × Loc) (fun s => [(31, .i (s.1 : Nat)), (30, .i (p.doors.length : Nat)), (29, .fz 2 (p.doors.map Gate.av)), (1, .ptr 1 s.2 4 0 0)]) (fun s => [(1, s.2, .arr 4 [p.av])]) (fun s => s.1 ≤ p.doors.length ∧ ∀ i x, i < s.1 → p.doors[i]? = some x → badGate p.sensors x = false) (fun s => p.doors.length - s.1) (0, _) (by first | (refine Weak.of ?_; (repeat (first | exact trivial | refine ⟨rfl, ?_⟩ | refine ⟨by simp [Env.get], ?_⟩)); done) | (refine Weak.pick (by repeat (first | exact trivial | refine ⟨rfl, ?_⟩ | refine ⟨by simp [Env.get], ?_⟩)) (by first | rfl | (simp [pickH, Heap.get, Heap.del, Heap.set, ofV_i, ofV_b]; done)))) ⟨by omega, by omega⟩ ?_
  rintro ⟨k, aa⟩ ⟨hk, hI⟩ K2 hK2
  dsimp only at hk hI hK2 ⊢
  by_cases hlt : k < p.doors.length
  · have h1 : p.doors[k]? = some p.doors[k] := by simp [hlt]
    have hany : ∀ {g : Gate}, p.doors[k]? = some g → badGate p.sensors g = true → badPanel p = true := by
      intro g hg hb
      have : p.doors.any (badGate p.sensors) = true := List.any_eq_true.2 ⟨g, List.mem_of_getElem? hg, hb⟩
      simp [badPanel, this]
    generalize p.doors[k] = g at h1
    have hl1 : p.doors.length ≤ 9223372036854775807 := hsm.1
    have hg := hsm.2 g (List.mem_of_getElem? h1)
    (refine goA ?_; repeat (refine goN fun _ => ?_; refine goA ?_))
    refine s_call rfl ?_
    refine CallOK.pure (within_ok ..) ?_
    (refine goA ?_; repeat (refine goN fun _ => ?_; refine goA ?_))
    refine s_if rfl (fun hd1 => ?_) (fun hd1 => ?_)
    case refine_2 =>
      rw [hd1]
      (refine goA ?_; repeat (refine goN fun _ => ?_; refine goA ?_))
      refine post_ret rfl ⟨0, bad_of (hany h1 ?_)⟩
      simp at hd1
      simp [badGate, hd1]
    rw [hd1]
    (refine goA ?_; repeat (refine goN fun _ => ?_; refine goA ?_))
    refine s_if rfl (fun hd2 => ?_) (fun hd2 => ?_)
    case refine_2 =>
      rw [hd2]
      (refine goA ?_; repeat (refine goN fun _ => ?_; refine goA ?_))
      refine post_ret rfl ⟨0, bad_of (hany h1 ?_)⟩
      simp at hd2
      simp [badGate]; omega
    rw [hd2]
    (refine goA ?_; repeat (refine goN fun _ => ?_; refine goA ?_))
    refine s_call rfl ?_
    refine CallOK.borrow' 2 (by simp [closeAV, closeAV_zero, Heap.get, Heap.set, AV.cells_agg, cells_i, cells_b, elemMap, Panel.av, Gate.av, Sig.av, Tick.av]) (any50_ok g.whens hg 49 [.fptr p.cells] (badSense p.sensors) fun x _ => bad_ok p x hs) rfl ?_
    (refine goA ?_; repeat (refine goN fun _ => ?_; refine goA ?_))
    refine AWP.cond rfl (fun hd3 => ?_) (fun hd3 => ?_)
    · (refine goA ?_; repeat (refine goN fun _ => ?_; refine goA ?_))
      refine post_ret rfl ⟨0, bad_of (hany h1 ?_)⟩
      simp only [badGate, hd3, Bool.or_true]
    · (refine goA ?_; repeat (refine goN fun _ => ?_; refine goA ?_))
      refine hK2 (k + 1, aa) _ _ (by dsimp only; omega) ⟨by dsimp only; omega, ?_⟩ (by first | (refine Weak.of ?_; (repeat (first | exact trivial | refine ⟨rfl, ?_⟩ | refine ⟨by simp [Env.get], ?_⟩)); done) | (refine Weak.pick (by repeat (first | exact trivial | refine ⟨rfl, ?_⟩ | refine ⟨by simp [Env.get], ?_⟩)) (by first | rfl | (simp [pickH, Heap.get, Heap.del, Heap.set, ofV_i, ofV_b]; done))))
      intro i x hi hxi
      rcases Nat.lt_succ_iff_lt_or_eq.1 hi with h | rfl
      · exact hI i x h hxi
      · rw [h1] at hxi; injection hxi with e; subst e
        simp at hd1 hd2
        simp [badGate, hd1, hd3]; omega
  · have hb : badPanel p = false := by
      have : p.doors.any (badGate p.sensors) = false := by
        rw [List.any_eq_false]
        intro x hx
        obtain ⟨i, hi, rfl⟩ := List.getElem_of_mem hx
        have := hI i p.doors[i] (by omega) (by simp)
        simp [this]
      simp at hc1 hc2 hc3 hc4
      simp [badPanel, this, hc1, hc3, hc4]; omega
    (refine goA ?_; repeat (refine goN fun _ => ?_; refine goA ?_))
    refine post_ret rfl ⟨0, bad_not hb⟩
end Go.Proofs.Ytjnencdmejhmjaa.Eng
