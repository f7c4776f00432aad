/- CONTROL: the example; works. -/
import Derived.Test.YtjnencdmejhmjaaEB
import Derived.Test.YtjnencdmejhmjaaW12
namespace Go.Proofs.Ytjnencdmejhmjaa.Eng
open Go Go.RowKit
attribute [local irreducible] insRun planRun AWP holdsAll CallOK Weak Ins.holds
set_option linter.unusedSimpArgs false
set_option linter.unusedVariables false
set_option maxHeartbeats 4000000
def exP : Panel := ⟨2, [⟨3, [⟨0, 1, false⟩]⟩, ⟨1, []⟩], 2, 8⟩
theorem example_ok : PCalls Try.prog 44 [] exP.av := by
  refine PCalls.body fn44 _ (by simp) ?_
  unfold ir44
  (refine goI ?_; repeat (refine goN fun _ => ?_; refine goI ?_))
  refine AWP.seq' ?_
  (refine goI ?_; repeat (refine goN fun _ => ?_; refine goI ?_))
  refine AWP.seq' ?_
  (refine goI ?_; repeat (refine goN fun _ => ?_; refine goI ?_))
  rename_i a0 a2 a5
  refine AWP.weak (Weak.cells 5 (els' := [.agg [.i 3, .ref 2 a2 3 0 1], .agg [.i 1, .fz 3 []]]) rfl ⟨⟨Le.refl _, rfl, Le.refl _, rfl, trivial⟩, ⟨Le.refl _, rfl, Le.nil 3, rfl, trivial⟩, trivial⟩) ?_
  refine AWP.weak (E' := [(0, .ptr 0 a0 4 0 0)]) (H' := [(0, a0, .arr 4 [.agg [.i 2, .ref 5 a5 2 0 2, .i 2, .i 8]]), (5, a5, .arr 2 [.agg [.i 3, .ref 2 a2 3 0 1], .agg [.i 1, .fz 3 []]]), (2, a2, .arr 3 [.agg [.i 0, .i 1, .b false]])]) (by refine Weak.pick ?_ rfl; repeat (first | exact trivial | refine ⟨rfl, ?_⟩)) ?_
  (refine goA ?_; repeat (refine goN fun _ => ?_; refine goA ?_))
  refine post_ret (rv_cell rfl rfl rfl rfl rfl) ⟨4, ?_⟩
  simp [closeAV, Heap.get, elemMap, mkRes, AV.cells_agg, Panel.av, Panel.cells, exP, Gate.av, Sense.av, AV.i, AV.b]
theorem ex_rows : playR exP 4 [⟨2, 1, 0, 1⟩] = [1, 1, 0, 0] := by decide +kernel
theorem ex_err : playE exP 4 [⟨2, 1, 0, 1⟩] = 0 := by decide +kernel
theorem ex_frees : freesV exP = 10 ∧ checkI exP = 0 := by decide +kernel
theorem ex_small : exP.small := by
  refine ⟨by decide, fun g hg => ?_⟩
  simp [exP] at hg
  rcases hg with rfl | rfl <;> decide
theorem sameInts_ok (xs ys : List Int) (hx : xs.length ≤ 9223372036854775807) : PCalls Try.prog 29 [.fz 1 (xs.map .i), .fz 1 (ys.map .i)] (.b (decide (xs = ys))) := by
  refine PCalls.body fn29 _ (by simp) ?_
  unfold ir29
  (refine goA ?_; repeat (refine goN fun _ => ?_; refine goA ?_))
  refine AWP.cond rfl (fun hc => ?_) (fun hc => ?_)
  · have hne : xs ≠ ys := by rintro rfl; simp at hc
    (refine goA ?_; repeat (refine goN fun _ => ?_; refine goA ?_))
    refine post_ret rfl ⟨0, ?_⟩
    simp [hne, closeAV, mkRes, AV.ofV]
  · have hl : xs.length = ys.length := by simp at hc; omega
    (refine goA ?_; repeat (refine goN fun _ => ?_; refine goA ?_))
    refine AWP.loopS (σ := Nat) (fun k => [(5, .i (k : Nat)), (0, .fz 1 (xs.map .i)), (1, .fz 1 (ys.map .i))]) (fun _ => []) (fun k => k ≤ xs.length ∧ ∀ i, i < k → xs[i]? = ys[i]?) (fun k => xs.length - k) 0 (by first | (refine Weak.of ?_; (repeat (first | exact trivial | refine ⟨rfl, ?_⟩ | refine ⟨by simp [Env.get], ?_⟩)); done) | (refine Weak.pick (by repeat (first | exact trivial | refine ⟨rfl, ?_⟩ | refine ⟨by simp [Env.get], ?_⟩)) (by first | rfl | (simp [pickH, Heap.get, Heap.del, Heap.set, ofV_i, ofV_b]; done)))) ⟨by omega, by omega⟩ ?_
    rintro k ⟨hk, hI⟩ K2 hK2
    by_cases hlt : k < xs.length
    · have h1 : xs[k]? = some xs[k] := by simp [hlt]
      have h2 : ys[k]? = some (ys[k]'(by omega)) := by simp
      (refine goA ?_; repeat (refine goN fun _ => ?_; refine goA ?_))
      refine AWP.cond rfl (fun hc => ?_) (fun hc => ?_)
      · have hne : xs ≠ ys := by rintro rfl; simp at hc
        (refine goA ?_; repeat (refine goN fun _ => ?_; refine goA ?_))
        refine post_ret rfl ⟨0, ?_⟩
        simp [hne, closeAV, mkRes, AV.ofV]
      · (refine goA ?_; repeat (refine goN fun _ => ?_; refine goA ?_))
        refine hK2 (k + 1) _ _ (by omega) ⟨by omega, ?_⟩ (by first | (refine Weak.of ?_; (repeat (first | exact trivial | refine ⟨rfl, ?_⟩ | refine ⟨by simp [Env.get], ?_⟩)); done) | (refine Weak.pick (by repeat (first | exact trivial | refine ⟨rfl, ?_⟩ | refine ⟨by simp [Env.get], ?_⟩)) (by first | rfl | (simp [pickH, Heap.get, Heap.del, Heap.set, ofV_i, ofV_b]; done))))
        intro i hi
        rcases Nat.lt_succ_iff_lt_or_eq.1 hi with h | rfl
        · exact hI i h
        · simp at hc; simp [h1, h2, hc]
    · (refine goA ?_; repeat (refine goN fun _ => ?_; refine goA ?_))
      refine post_ret rfl ⟨0, ?_⟩
      have : xs = ys := by
        apply List.ext_getElem?
        intro i
        rcases Nat.lt_or_ge i k with h | h
        · exact hI i h
        · rw [List.getElem?_eq_none (by omega), List.getElem?_eq_none (by omega)]
      simp [this, closeAV, mkRes, AV.ofV]
theorem works_ok : PCalls Try.prog 16 [] (.b true) := by
  refine PCalls.body fn16 _ (by simp) ?_
  unfold ir16
  (refine goA ?_; repeat (refine goN fun _ => ?_; refine goA ?_))
  refine s_call rfl ?_
  refine CallOK.pure example_ok ?_
  (refine goA ?_; repeat (refine goN fun _ => ?_; refine goA ?_))
  refine s_call rfl ?_
  refine CallOK.give 2 8 rfl (xs' := [exP.av, .i 4, .fz 4 ([(⟨2, 1, 0, 1⟩ : Sig)].map Sig.av)]) ?_ (play_ok exP ex_small 4 [⟨2, 1, 0, 1⟩] (by decide)) ?_
  · simp [closeAV, Heap.get, elemMap, exP, Panel.av, Panel.cells, Gate.av, Sense.av, Sig.av, Sig.cells, AV.i, AV.b, AV.ofV, AV.cells]
  rw [ex_rows, ex_err]
  (refine goA ?_; repeat (refine goN fun _ => ?_; refine goA ?_))
  refine s_call rfl ?_
  refine CallOK.pure example_ok ?_
  (refine goA ?_; repeat (refine goN fun _ => ?_; refine goA ?_))
  refine s_call rfl ?_
  refine CallOK.pure (Frees_ok exP ex_small) ?_
  rw [ex_frees.1, ex_frees.2]
  (refine goA ?_; repeat (refine goN fun _ => ?_; refine goA ?_))
  refine s_call rfl ?_
  refine CallOK.borrow' 2 (xs' := [.fz 1 (([1, 1, 0, 0] : List Int).map .i), .fz 1 (([1, 1, 0, 0] : List Int).map .i)]) ?_ (sameInts_ok [1, 1, 0, 0] [1, 1, 0, 0] (by decide)) rfl ?_
  · simp [closeAV, Heap.get, elemMap, nats, AV.i, AV.ofV, AV.cells]
  (refine goA ?_; repeat (refine goN fun _ => ?_; refine goA ?_))
  refine post_ret rfl ⟨0, ?_⟩
  rfl
end Go.Proofs.Ytjnencdmejhmjaa.Eng
