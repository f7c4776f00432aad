/- CONTROL: what the master says to a door; the next state of a door; Clone. -/
import Derived.Test.YtjnencdmejhmjaaW1
import Derived.Test.YtjnencdmejhmjaaS3
import Derived.Test.YtjnencdmejhmjaaS1
namespace Go.Proofs.Ytjnencdmejhmjaa.Eng
open Go Go.RowKit
attribute [local irreducible] insRun planRun AWP holdsAll CallOK Weak Ins.holds
set_option linter.unusedSimpArgs false
set_option linter.unusedVariables false
set_option maxHeartbeats 4000000
theorem stale_ok (p : Panel) (x : Tick) (s : Sense) (h0 : 0 ≤ s.sensor) (h1 : s.sensor < x.ages.length) : PCalls Try.prog 76 [s.av, .fptr x.cells, .fptr p.cells] (.b (decide (nth x.ages s.sensor ≥ p.stale))) := by
  have hg := nth_get h0 h1
  refine PCalls.body fn76 _ (by simp) ?_
  unfold ir76
  (refine goA ?_; repeat (refine goN fun _ => ?_; refine goA ?_))
  refine s_iaddr_fz rfl rfl h0 (get_map _ hg) ?_
  (refine goA ?_; repeat (refine goN fun _ => ?_; refine goA ?_))
  refine post_ret rfl ⟨0, ?_⟩
  simp [closeAV, mkRes]
theorem fails_ok (x : Tick) (s : Sense) (h0 : 0 ≤ s.sensor) (h1 : s.sensor < x.values.length) : PCalls Try.prog 77 [s.av, .fptr x.cells] (.b ((nth x.values s.sensor == s.value) == s.neg)) := by
  have hg := nth_get h0 h1
  refine PCalls.body fn77 _ (by simp) ?_
  unfold ir77
  (refine goA ?_; repeat (refine goN fun _ => ?_; refine goA ?_))
  refine s_iaddr_fz rfl rfl h0 (get_map _ hg) ?_
  (refine goA ?_; repeat (refine goN fun _ => ?_; refine goA ?_))
  refine post_ret rfl ⟨0, ?_⟩
  simp [closeAV, mkRes]
theorem decide_ok (p : Panel) (x : Tick) (t : Int) (d : Gate) (hn : d.whens.length ≤ 8) (hw : ∀ s ∈ d.whens, 0 ≤ s.sensor ∧ s.sensor < x.ages.length ∧ s.sensor < x.values.length) : PCalls Try.prog 66 [x.av, p.av, .i t, d.av] (.i (decideI p x t d)) := by
  refine PCalls.body fn66 _ (by simp) ?_
  unfold ir66
  (refine goA ?_; repeat (refine goN fun _ => ?_; refine goA ?_))
  refine s_if rfl (fun h1 => ?_) (fun h1 => ?_)
  case refine_2 =>
    rw [h1]
    (refine goA ?_; repeat (refine goN fun _ => ?_; refine goA ?_))
    refine post_ret rfl ⟨0, ?_⟩
    simp at h1
    simp [closeAV, mkRes, AV.ofV, decideI, h1]
  rw [h1]
  (refine goA ?_; repeat (refine goN fun _ => ?_; refine goA ?_))
  refine s_call rfl ?_
  refine CallOK.borrow' 2 (by simp [closeAV, closeAV_zero, Heap.get, Heap.set, AV.cells_agg, cells_i, cells_b, elemMap, Panel.av, Gate.av, Sig.av, Tick.av]) (any50_ok d.whens (by omega) 76 [.fptr x.cells, .fptr p.cells] (staleB p x) fun s h => stale_ok p x s (hw s h).1 (hw s h).2.1) rfl ?_
  (refine goA ?_; repeat (refine goN fun _ => ?_; refine goA ?_))
  refine s_if rfl (fun h2 => ?_) (fun h2 => ?_)
  case refine_2 =>
    rw [h2]
    (refine goA ?_; repeat (refine goN fun _ => ?_; refine goA ?_))
    refine post_ret rfl ⟨0, ?_⟩
    simp only [Bool.not_false] at h2
    simp [closeAV, mkRes, AV.ofV, decideI, h2]
  rw [h2]
  (refine goA ?_; repeat (refine goN fun _ => ?_; refine goA ?_))
  refine s_call rfl ?_
  refine CallOK.borrow' 2 (by simp [closeAV, closeAV_zero, Heap.get, Heap.set, AV.cells_agg, cells_i, cells_b, elemMap, Panel.av, Gate.av, Sig.av, Tick.av]) (any50_ok d.whens (by omega) 77 [.fptr x.cells] (failsB x) fun s h => fails_ok x s (hw s h).1 (hw s h).2.2) rfl ?_
  (refine goA ?_; repeat (refine goN fun _ => ?_; refine goA ?_))
  refine AWP.cond rfl (fun h3 => ?_) (fun h3 => ?_)
  · (refine goA ?_; repeat (refine goN fun _ => ?_; refine goA ?_))
    refine post_ret rfl ⟨0, ?_⟩
    simp only [Bool.not_eq_true'] at h3
    simp [closeAV, mkRes, AV.ofV, decideI, h3]
  · (refine goA ?_; repeat (refine goN fun _ => ?_; refine goA ?_))
    refine post_ret rfl ⟨0, ?_⟩
    simp only [Bool.not_eq_false'] at h3
    simp at h1
    simp [closeAV, mkRes, AV.ofV, decideI, h2, h3]; omega
theorem next_ok (d : Door) (wait : Int) (power stood : Bool) (word : Int) (hl : 0 ≤ d.left ∧ d.left ≤ 1000) : PCalls Try.prog 67 [d.av, .i wait, .b power, .b stood, .i word] (nextD d wait power stood word).av := by
  have hmax : ∀ a : Int, (if a > 0 then a else 0) = max 0 a := by intro a; split <;> omega
  refine PCalls.body fn67 _ (by simp) ?_
  unfold ir67
  (refine goA ?_; repeat (refine goN fun _ => ?_; refine goA ?_))
  refine AWP.cond rfl (fun h1 => ?_) (fun h1 => ?_)
  · simp at h1
    subst h1
    (refine goA ?_; repeat (refine goN fun _ => ?_; refine goA ?_))
    refine post_ret (rv_cell rfl rfl rfl rfl rfl) ⟨0, ?_⟩
    first | (rw [show nextD d wait false stood word = ⟨0, false⟩ by simp [nextD]]; rfl) | (rw [show nextD d wait true stood 2 = ⟨0, false⟩ by simp [nextD]]; rfl)
  · simp at h1
    subst h1
    (refine goA ?_; repeat (refine goN fun _ => ?_; refine goA ?_))
    refine AWP.cond rfl (fun h2 => ?_) (fun h2 => ?_)
    · have hw : word = 2 := of_decide_eq_true h2
      subst hw
      (refine goA ?_; repeat (refine goN fun _ => ?_; refine goA ?_))
      refine post_ret (rv_cell rfl rfl rfl rfl rfl) ⟨0, ?_⟩
      first | (rw [show nextD d wait false stood word = ⟨0, false⟩ by simp [nextD]]; rfl) | (rw [show nextD d wait true stood 2 = ⟨0, false⟩ by simp [nextD]]; rfl)
    · have hw : ¬ word = 2 := of_decide_eq_false h2
      (refine goA ?_; repeat (refine goN fun _ => ?_; refine goA ?_))
      have last : ∀ n : Int, (if word = 1 then wait else max 0 (d.left - 1)) = n → nextD d wait true stood word = ⟨n, decide (n > 0) && (!stood || d.shut)⟩ := by
        intro n hn
        simp [nextD, hw, hn]
      refine AWP.cond rfl (fun h3 => ?_) (fun h3 => ?_)
      · have hw3 : word = 1 := of_decide_eq_true h3
        have last := last wait (by simp [hw3])
        (refine goA ?_; repeat (refine goN fun _ => ?_; refine goA ?_))
        refine s_if rfl (fun h4 => ?_) (fun h4 => ?_)
        · rw [h4]
          (refine goA ?_; repeat (refine goN fun _ => ?_; refine goA ?_))
          refine s_if rfl (fun h5 => ?_) (fun h5 => ?_)
          · rw [h5]
            (refine goA ?_; repeat (refine goN fun _ => ?_; refine goA ?_))
            refine post_ret (rv_cell rfl rfl rfl rfl rfl) ⟨0, ?_⟩
            simp at h5
            rw [last, h4, h5]
            first | rfl | (simp only [Bool.not_true, Bool.not_false, Bool.true_and, Bool.false_or, Bool.true_or]; rfl)
          · rw [h5]
            (refine goA ?_; repeat (refine goN fun _ => ?_; refine goA ?_))
            refine post_ret (rv_cell rfl rfl rfl rfl rfl) ⟨0, ?_⟩
            simp at h5
            rw [last, h4, h5]
            first | rfl | (simp only [Bool.not_true, Bool.not_false, Bool.true_and, Bool.false_or, Bool.true_or]; rfl)
        · rw [h4]
          (refine goA ?_; repeat (refine goN fun _ => ?_; refine goA ?_))
          refine post_ret (rv_cell rfl rfl rfl rfl rfl) ⟨0, ?_⟩
          rw [last, h4]
          rfl
      · have hw3 : ¬ word = 1 := of_decide_eq_false h3
        have last := last (max 0 (d.left - 1)) (by simp [hw3])
        rw [hmax]
        generalize max 0 (d.left - 1) = m at last ⊢
        (refine goA ?_; repeat (refine goN fun _ => ?_; refine goA ?_))
        refine s_if rfl (fun h4 => ?_) (fun h4 => ?_)
        · rw [h4]
          (refine goA ?_; repeat (refine goN fun _ => ?_; refine goA ?_))
          refine s_if rfl (fun h5 => ?_) (fun h5 => ?_)
          · rw [h5]
            (refine goA ?_; repeat (refine goN fun _ => ?_; refine goA ?_))
            refine post_ret (rv_cell rfl rfl rfl rfl rfl) ⟨0, ?_⟩
            simp at h5
            rw [last, h4, h5]
            first | rfl | (simp only [Bool.not_true, Bool.not_false, Bool.true_and, Bool.false_or, Bool.true_or]; rfl)
          · rw [h5]
            (refine goA ?_; repeat (refine goN fun _ => ?_; refine goA ?_))
            refine post_ret (rv_cell rfl rfl rfl rfl rfl) ⟨0, ?_⟩
            simp at h5
            rw [last, h4, h5]
            first | rfl | (simp only [Bool.not_true, Bool.not_false, Bool.true_and, Bool.false_or, Bool.true_or]; rfl)
        · rw [h4]
          (refine goA ?_; repeat (refine goN fun _ => ?_; refine goA ?_))
          refine post_ret (rv_cell rfl rfl rfl rfl rfl) ⟨0, ?_⟩
          rw [last, h4]
          rfl
theorem freeH_ints (h : Nat) (a : Loc) (xs : List Int) : FreeH [(h, a, .arr 1 (xs.map .i))] := by
  intro q hq
  simp only [List.mem_singleton] at hq
  subst hq
  intro e he y hy
  obtain ⟨n, _, rfl⟩ := List.mem_map.1 he
  have : y = .i n := by simpa [AV.i, AV.cells] using hy
  subst this
  exact Free.v _
theorem clone_ok (xs : List Int) (hx : xs.length ≤ 1000000000) : CallOK Try.prog 65 [ints xs] [] fun r H' => (Free r ∧ FreeH H') ∧ closeAV H' 2 r = ints xs := by
  refine CallOK.body fn65 _ (by simp) ?_
  unfold ir65
  (refine goA ?_; repeat (refine goN fun _ => ?_; refine goA ?_))
  refine s_eqnil_fz rfl fun t ht => ?_
  (refine goA ?_; repeat (refine goN fun _ => ?_; refine goA ?_))
  refine AWP.cond rfl (fun h1 => ?_) (fun h1 => ?_)
  · have hn : xs = [] := by simpa using ht (by simpa using h1)
    subst hn
    refine AWP.seq' ?_
    (refine goI ?_; repeat (refine goN fun _ => ?_; refine goI ?_))
    refine AWP.weak (Weak.virt 7 2 1 rfl) ?_
    (refine goA ?_; repeat (refine goN fun _ => ?_; refine goA ?_))
    refine post_ret rfl ⟨⟨Free.ref _ _ _ _ _, freeH_ints _ _ []⟩, ?_⟩
    exact close_ints (xs := ([] : List Int)) elem_i' rfl rfl 1
  · (refine goA ?_; repeat (refine goN fun _ => ?_; refine goA ?_))
    refine s_app_fz rfl rfl rfl rfl (by simp; omega) fun _ => ?_
    (refine goA ?_; repeat (refine goN fun _ => ?_; refine goA ?_))
    refine post_ret rfl ⟨⟨Free.ref _ _ _ _ _, freeH_ints _ _ xs⟩, ?_⟩
    exact close_ints elem_i' rfl (by simp) 1
end Go.Proofs.Ytjnencdmejhmjaa.Eng
