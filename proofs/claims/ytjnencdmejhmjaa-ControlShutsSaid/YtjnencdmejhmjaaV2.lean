/- CONTROL: the specification's check of signals, what it tells a door, whether a door wants to hold: walked. -/
import Derived.Test.YtjnencdmejhmjaaV1
import Derived.Test.YtjnencdmejhmjaaP5
namespace Go.Proofs.Ytjnencdmejhmjaa.Eng
open Go Go.RowKit
attribute [local irreducible] insRun planRun AWP holdsAll CallOK Weak Ins.holds
set_option linter.unusedSimpArgs false
set_option linter.unusedVariables false
set_option maxHeartbeats 4000000
def rightK (p : Panel) (x : Sig) : Bool := if x.kind = 1 then inR x.number 0 (p.sensors - 1) && inR x.value 0 9 else if x.kind = 2 then inR x.number 0 (p.sensors - 1) && decide (x.value = 0) else if x.kind = 3 ∨ x.kind = 6 then inR x.number 0 ((p.doors.length : Int) - 1) && decide (x.value = 0) else if x.kind = 4 ∨ x.kind = 5 then decide (x.number = 0) && decide (x.value = 0) else false
theorem rightB_K (p : Panel) (ticks : Int) (x : Sig) : rightB p ticks x = (inR x.time 0 (ticks - 1) && rightK p x) := rfl
theorem beq_dec2 (a b : Int) : (a == b) = decide (a = b) := rfl
theorem checkSignals_ok (p : Panel) (hsm : p.small) (ticks : Int) (l : List Sig) (hl : l.length ≤ 9223372036854775807) : PCalls Try.prog 51 [p.av, .i ticks, .fz 4 (l.map Sig.av)] (.i (beginE p ticks l)) := by
  refine PCalls.body fn51 _ (by simp) ?_
  unfold ir51
  (refine goA ?_; repeat (refine goN fun _ => ?_; refine goA ?_))
  rename_i a3
  refine s_call rfl ?_
  refine CallOK.pure (checkTicks_ok p hsm ticks) ?_
  (refine goA ?_; repeat (refine goN fun _ => ?_; refine goA ?_))
  refine AWP.cond rfl (fun h1 => ?_) (fun h1 => ?_)
  · (refine goA ?_; repeat (refine goN fun _ => ?_; refine goA ?_))
    refine post_ret rfl ⟨0, ?_⟩
    simp only [bne_iff_ne, ne_eq, cticksI] at h1
    simp only [closeAV, mkRes, cticksI, beginE]
    cases hb : badPanel p
    · cases hr : inR ticks 0 1000
      · simp
      · simp [hb, hr] at h1
    · simp
  have hb : badPanel p = false := by
    cases hb : badPanel p
    · rfl
    · simp [cticksI, hb] at h1
  have hr : inR ticks 0 1000 = true := by
    cases hr : inR ticks 0 1000
    · simp [cticksI, hb, hr] at h1
    · rfl
  have hg := pgood hb
  have ht := inR_iff.1 hr
  have hsen := hg.sen
  have hdn := hg.len
  clear h1
  (refine goA ?_; repeat (refine goN fun _ => ?_; refine goA ?_))
  refine AWP.cond rfl (fun h2 => ?_) (fun h2 => ?_)
  · (refine goA ?_; repeat (refine goN fun _ => ?_; refine goA ?_))
    refine post_ret rfl ⟨0, ?_⟩
    have h3 : decide ((l.length : Int) > 200) = true := by simpa using h2
    simp only [closeAV, mkRes, beginE, hb, hr, h3, Bool.true_or, if_true, Bool.false_eq_true, if_false]; rfl
  have h3 : decide ((l.length : Int) > 200) = false := by simpa using h2
  have hl2 : l.length ≤ 200 := by simp at h3; omega
  have hE : beginE p ticks l = if l.any (fun x => !rightB p ticks x) then 81 else 0 := by simp only [beginE, hb, hr, h3, Bool.false_or, if_true, Bool.false_eq_true, if_false]
  rw [hE]
  (refine goA ?_; repeat (refine goN fun _ => ?_; refine goA ?_))
  refine AWP.loopS (σ := Nat) (fun i => [(8, .i (i : Nat)), (1, .i ticks), (2, .fz 4 (l.map Sig.av)), (3, .ptr 3 a3 4 0 0)]) (fun _ => [(3, a3, .arr 4 [p.av])]) (fun i => i ≤ l.length ∧ ∀ j x, j < i → l[j]? = some x → rightB p ticks x = true) (fun i => l.length - i) 0 (by first | (refine Weak.of ?_; (repeat (first | exact trivial | refine ⟨rfl, ?_⟩ | refine ⟨by simp [Env.get], ?_⟩)); done) | (refine Weak.pick (by repeat (first | exact trivial | refine ⟨rfl, ?_⟩ | refine ⟨by simp [Env.get], ?_⟩)) (by first | rfl | (simp [pickH, Heap.get, Heap.del, Heap.set, ofV_i, ofV_b]; done)))) ⟨by omega, by omega⟩ ?_
  rintro i ⟨hi, hI⟩ K2 hK2
  try dsimp only at hK2 ⊢
  by_cases hlt : i < l.length
  · have hx : l[i]? = some l[i] := by simp [hlt]
    generalize l[i] = x at hx
    have hlm : ((p.doors.map Gate.av).length : Int) = p.doors.length := by simp
    refine AWP.seq' ?_
    refine AWP.seq' ?_
    (refine goI ?_; repeat (refine goN fun _ => ?_; refine goI ?_))
    refine AWP.seq' ?_
    (refine goI ?_; repeat (refine goN fun _ => ?_; refine goI ?_))
    refine AWP.seq' ?_
    (refine goI ?_; repeat (refine goN fun _ => ?_; refine goI ?_))
    refine AWP.seq' ?_
    (refine goI ?_; repeat (refine goN fun _ => ?_; refine goI ?_))
    rename_i a9
    refine AWP.seqCutQ (σ := Unit) (fun _ => [(10, .b (rightK p x)), (9, .ptr 9 a9 4 0 0), (8, .i (i : Nat)), (1, .i ticks), (2, .fz 4 (l.map Sig.av)), (3, .ptr 3 a3 4 0 0)]) (fun _ => [(9, a9, .arr 4 [x.av]), (3, a3, .arr 4 [p.av])]) ?_ ?_
    · intro K Q hK
      by_cases k1 : x.kind = 1
      · (refine goA ?_; repeat (refine goN fun _ => ?_; refine goA ?_))
        refine s_call rfl ?_
        refine CallOK.pure (rwithin_ok ..) ?_
        (refine goA ?_; repeat (refine goN fun _ => ?_; refine goA ?_))
        refine s_if rfl (fun hc => ?_) (fun hc => ?_)
        · rw [hc]
          (refine goA ?_; repeat (refine goN fun _ => ?_; refine goA ?_))
          refine s_call rfl ?_
          refine CallOK.pure (rwithin_ok ..) ?_
          (refine goA ?_; repeat (refine goN fun _ => ?_; refine goA ?_))
          rw [show rightK p x = inR x.value 0 9 by simp [rightK, k1, hc]] at hK
          exact hK () _ _ (by first | (refine Weak.of ?_; (repeat (first | exact trivial | refine ⟨rfl, ?_⟩ | refine ⟨by simp [Env.get], ?_⟩)); done) | (refine Weak.pick (by repeat (first | exact trivial | refine ⟨rfl, ?_⟩ | refine ⟨by simp [Env.get], ?_⟩)) (by first | rfl | (simp [pickH, Heap.get, Heap.del, Heap.set, ofV_i, ofV_b]; done))))
        · rw [hc]
          (refine goA ?_; repeat (refine goN fun _ => ?_; refine goA ?_))
          rw [show rightK p x = false by simp at hc; simp [rightK, k1, hc]] at hK
          exact hK () _ _ (by first | (refine Weak.of ?_; (repeat (first | exact trivial | refine ⟨rfl, ?_⟩ | refine ⟨by simp [Env.get], ?_⟩)); done) | (refine Weak.pick (by repeat (first | exact trivial | refine ⟨rfl, ?_⟩ | refine ⟨by simp [Env.get], ?_⟩)) (by first | rfl | (simp [pickH, Heap.get, Heap.del, Heap.set, ofV_i, ofV_b]; done))))
      by_cases k2 : x.kind = 2
      · (refine goA ?_; repeat (refine goN fun _ => ?_; refine goA ?_))
        refine s_call rfl ?_
        refine CallOK.pure (rwithin_ok ..) ?_
        (refine goA ?_; repeat (refine goN fun _ => ?_; refine goA ?_))
        refine s_if rfl (fun hc => ?_) (fun hc => ?_)
        · rw [hc]
          (refine goA ?_; repeat (refine goN fun _ => ?_; refine goA ?_))
          rw [show rightK p x = (x.value == 0) by simp [rightK, k2, hc, beq_dec2]] at hK
          exact hK () _ _ (by first | (refine Weak.of ?_; (repeat (first | exact trivial | refine ⟨rfl, ?_⟩ | refine ⟨by simp [Env.get], ?_⟩)); done) | (refine Weak.pick (by repeat (first | exact trivial | refine ⟨rfl, ?_⟩ | refine ⟨by simp [Env.get], ?_⟩)) (by first | rfl | (simp [pickH, Heap.get, Heap.del, Heap.set, ofV_i, ofV_b]; done))))
        · rw [hc]
          (refine goA ?_; repeat (refine goN fun _ => ?_; refine goA ?_))
          rw [show rightK p x = false by simp at hc; simp [rightK, k2, hc]] at hK
          exact hK () _ _ (by first | (refine Weak.of ?_; (repeat (first | exact trivial | refine ⟨rfl, ?_⟩ | refine ⟨by simp [Env.get], ?_⟩)); done) | (refine Weak.pick (by repeat (first | exact trivial | refine ⟨rfl, ?_⟩ | refine ⟨by simp [Env.get], ?_⟩)) (by first | rfl | (simp [pickH, Heap.get, Heap.del, Heap.set, ofV_i, ofV_b]; done))))
      by_cases k3 : x.kind = 3
      · (refine goA ?_; repeat (refine goN fun _ => ?_; refine goA ?_))
        rw [hlm]
        (refine goA ?_; repeat (refine goN fun _ => ?_; refine goA ?_))
        refine s_call rfl ?_
        refine CallOK.pure (rwithin_ok ..) ?_
        (refine goA ?_; repeat (refine goN fun _ => ?_; refine goA ?_))
        refine s_if rfl (fun hc => ?_) (fun hc => ?_)
        · rw [hc]
          (refine goA ?_; repeat (refine goN fun _ => ?_; refine goA ?_))
          rw [show rightK p x = (x.value == 0) by simp [rightK, k3, hc, beq_dec2]] at hK
          exact hK () _ _ (by first | (refine Weak.of ?_; (repeat (first | exact trivial | refine ⟨rfl, ?_⟩ | refine ⟨by simp [Env.get], ?_⟩)); done) | (refine Weak.pick (by repeat (first | exact trivial | refine ⟨rfl, ?_⟩ | refine ⟨by simp [Env.get], ?_⟩)) (by first | rfl | (simp [pickH, Heap.get, Heap.del, Heap.set, ofV_i, ofV_b]; done))))
        · rw [hc]
          (refine goA ?_; repeat (refine goN fun _ => ?_; refine goA ?_))
          rw [show rightK p x = false by simp at hc; simp [rightK, k3, hc]] at hK
          exact hK () _ _ (by first | (refine Weak.of ?_; (repeat (first | exact trivial | refine ⟨rfl, ?_⟩ | refine ⟨by simp [Env.get], ?_⟩)); done) | (refine Weak.pick (by repeat (first | exact trivial | refine ⟨rfl, ?_⟩ | refine ⟨by simp [Env.get], ?_⟩)) (by first | rfl | (simp [pickH, Heap.get, Heap.del, Heap.set, ofV_i, ofV_b]; done))))
      by_cases k6 : x.kind = 6
      · (refine goA ?_; repeat (refine goN fun _ => ?_; refine goA ?_))
        rw [hlm]
        (refine goA ?_; repeat (refine goN fun _ => ?_; refine goA ?_))
        refine s_call rfl ?_
        refine CallOK.pure (rwithin_ok ..) ?_
        (refine goA ?_; repeat (refine goN fun _ => ?_; refine goA ?_))
        refine s_if rfl (fun hc => ?_) (fun hc => ?_)
        · rw [hc]
          (refine goA ?_; repeat (refine goN fun _ => ?_; refine goA ?_))
          rw [show rightK p x = (x.value == 0) by simp [rightK, k6, hc, beq_dec2]] at hK
          exact hK () _ _ (by first | (refine Weak.of ?_; (repeat (first | exact trivial | refine ⟨rfl, ?_⟩ | refine ⟨by simp [Env.get], ?_⟩)); done) | (refine Weak.pick (by repeat (first | exact trivial | refine ⟨rfl, ?_⟩ | refine ⟨by simp [Env.get], ?_⟩)) (by first | rfl | (simp [pickH, Heap.get, Heap.del, Heap.set, ofV_i, ofV_b]; done))))
        · rw [hc]
          (refine goA ?_; repeat (refine goN fun _ => ?_; refine goA ?_))
          rw [show rightK p x = false by simp at hc; simp [rightK, k6, hc]] at hK
          exact hK () _ _ (by first | (refine Weak.of ?_; (repeat (first | exact trivial | refine ⟨rfl, ?_⟩ | refine ⟨by simp [Env.get], ?_⟩)); done) | (refine Weak.pick (by repeat (first | exact trivial | refine ⟨rfl, ?_⟩ | refine ⟨by simp [Env.get], ?_⟩)) (by first | rfl | (simp [pickH, Heap.get, Heap.del, Heap.set, ofV_i, ofV_b]; done))))
      by_cases k4 : x.kind = 4
      · by_cases n0 : x.number = 0
        · (refine goA ?_; repeat (refine goN fun _ => ?_; refine goA ?_))
          rw [show rightK p x = (x.value == 0) by simp [rightK, k4, n0, beq_dec2]] at hK
          exact hK () _ _ (by first | (refine Weak.of ?_; (repeat (first | exact trivial | refine ⟨rfl, ?_⟩ | refine ⟨by simp [Env.get], ?_⟩)); done) | (refine Weak.pick (by repeat (first | exact trivial | refine ⟨rfl, ?_⟩ | refine ⟨by simp [Env.get], ?_⟩)) (by first | rfl | (simp [pickH, Heap.get, Heap.del, Heap.set, ofV_i, ofV_b]; done))))
        · (refine goA ?_; repeat (refine goN fun _ => ?_; refine goA ?_))
          rw [show rightK p x = false by simp [rightK, k4, n0]] at hK
          exact hK () _ _ (by first | (refine Weak.of ?_; (repeat (first | exact trivial | refine ⟨rfl, ?_⟩ | refine ⟨by simp [Env.get], ?_⟩)); done) | (refine Weak.pick (by repeat (first | exact trivial | refine ⟨rfl, ?_⟩ | refine ⟨by simp [Env.get], ?_⟩)) (by first | rfl | (simp [pickH, Heap.get, Heap.del, Heap.set, ofV_i, ofV_b]; done))))
      by_cases k5 : x.kind = 5
      · by_cases n0 : x.number = 0
        · (refine goA ?_; repeat (refine goN fun _ => ?_; refine goA ?_))
          rw [show rightK p x = (x.value == 0) by simp [rightK, k5, n0, beq_dec2]] at hK
          exact hK () _ _ (by first | (refine Weak.of ?_; (repeat (first | exact trivial | refine ⟨rfl, ?_⟩ | refine ⟨by simp [Env.get], ?_⟩)); done) | (refine Weak.pick (by repeat (first | exact trivial | refine ⟨rfl, ?_⟩ | refine ⟨by simp [Env.get], ?_⟩)) (by first | rfl | (simp [pickH, Heap.get, Heap.del, Heap.set, ofV_i, ofV_b]; done))))
        · (refine goA ?_; repeat (refine goN fun _ => ?_; refine goA ?_))
          rw [show rightK p x = false by simp [rightK, k5, n0]] at hK
          exact hK () _ _ (by first | (refine Weak.of ?_; (repeat (first | exact trivial | refine ⟨rfl, ?_⟩ | refine ⟨by simp [Env.get], ?_⟩)); done) | (refine Weak.pick (by repeat (first | exact trivial | refine ⟨rfl, ?_⟩ | refine ⟨by simp [Env.get], ?_⟩)) (by first | rfl | (simp [pickH, Heap.get, Heap.del, Heap.set, ofV_i, ofV_b]; done))))
      (refine goA ?_; repeat (refine goN fun _ => ?_; refine goA ?_))
      rw [show rightK p x = false by simp [rightK, k1, k2, k3, k4, k5, k6]] at hK
      exact hK () _ _ (by first | (refine Weak.of ?_; (repeat (first | exact trivial | refine ⟨rfl, ?_⟩ | refine ⟨by simp [Env.get], ?_⟩)); done) | (refine Weak.pick (by repeat (first | exact trivial | refine ⟨rfl, ?_⟩ | refine ⟨by simp [Env.get], ?_⟩)) (by first | rfl | (simp [pickH, Heap.get, Heap.del, Heap.set, ofV_i, ofV_b]; done))))
    rintro ⟨⟩
    try dsimp only
    have bad : rightB p ticks x = false → (if l.any (fun x => !rightB p ticks x) then (81 : Int) else 0) = 81 := fun h => by
      rw [if_pos]
      exact List.any_eq_true.2 ⟨x, List.mem_of_getElem? hx, by rw [h]; rfl⟩
    have good : rightB p ticks x = true → ∀ j y, j < i + 1 → l[j]? = some y → rightB p ticks y = true := by
      intro h j y hj hy
      by_cases e : j < i
      · exact hI j y e hy
      · have : j = i := by omega
        subst this
        rw [hx] at hy; injection hy with hy; subst hy
        exact h
    cases hk : rightK p x
    · (refine goA ?_; repeat (refine goN fun _ => ?_; refine goA ?_))
      refine post_ret rfl ⟨0, ?_⟩
      rw [bad (by rw [rightB_K, hk, Bool.and_false])]; rfl
    · (refine goA ?_; repeat (refine goN fun _ => ?_; refine goA ?_))
      refine s_call rfl ?_
      refine CallOK.pure (rwithin_ok ..) ?_
      (refine goA ?_; repeat (refine goN fun _ => ?_; refine goA ?_))
      cases hc : inR x.time 0 (ticks - 1)
      · (refine goA ?_; repeat (refine goN fun _ => ?_; refine goA ?_))
        refine post_ret rfl ⟨0, ?_⟩
        rw [bad (by rw [rightB_K, hc, Bool.false_and])]; rfl
      · (refine goA ?_; repeat (refine goN fun _ => ?_; refine goA ?_))
        refine hK2 (i + 1) _ _ (by omega) ⟨by omega, good (by rw [rightB_K, hk, hc]; rfl)⟩ (by first | (refine Weak.of ?_; (repeat (first | exact trivial | refine ⟨rfl, ?_⟩ | refine ⟨by simp [Env.get], ?_⟩)); done) | (refine Weak.pick (by repeat (first | exact trivial | refine ⟨rfl, ?_⟩ | refine ⟨by simp [Env.get], ?_⟩)) (by first | rfl | (simp [pickH, Heap.get, Heap.del, Heap.set, ofV_i, ofV_b]; done))))
  · have hi' : i = l.length := by omega
    subst hi'
    (refine goA ?_; repeat (refine goN fun _ => ?_; refine goA ?_))
    refine post_ret rfl ⟨0, ?_⟩
    rw [if_neg]
    · rfl
    · simp only [List.any_eq_true, not_exists, not_and, Bool.not_eq_true', Bool.not_eq_false]
      intro x hx
      obtain ⟨j, hj, rfl⟩ := List.getElem_of_mem hx
      exact hI j _ hj (by simp)
def Frame.cells (f : Frame) : List AV := [.b f.power, ints f.values, ints f.ages, ints f.told, bools f.shut]
def Frame.av (f : Frame) : AV := .agg f.cells
theorem rdecide_ok (p : Panel) (hg : PGood p) (t : Int) (k : Nat) (d : Gate) (hd : p.doors[k]? = some d) (f : Frame) (hv : f.values.length = p.sensors.toNat) (ha : f.ages.length = p.sensors.toNat) : PCalls Try.prog 71 [p.av, .i t, .i (k : Nat), f.av] (.i (decideI p ⟨true, f.values, f.ages, [], [], []⟩ t d)) := by
  have hdm := List.mem_of_getElem? hd
  have hwl := hg.lits d hdm
  have hlit := hg.lit d hdm
  have hsen := hg.sen
  refine PCalls.body fn71 _ (by simp) ?_
  unfold ir71
  (refine goA ?_; repeat (refine goN fun _ => ?_; refine goA ?_))
  refine AWP.cond rfl (fun h1 => ?_) (fun h1 => ?_)
  · have h2 : t ≥ p.limit := by simpa using h1
    (refine goA ?_; repeat (refine goN fun _ => ?_; refine goA ?_))
    refine post_ret rfl ⟨0, ?_⟩
    rw [decideI, if_pos (.inl h2)]; rfl
  have h2 : ¬ t ≥ p.limit := by simpa using h1
  (refine goA ?_; repeat (refine goN fun _ => ?_; refine goA ?_))
  rename_i a4 a7
  refine AWP.loopS (σ := Nat) (fun i => [(10, .i (i : Nat)), (9, .fz 3 (d.whens.map Sense.av)), (4, .ptr 4 a4 4 0 0), (7, .ptr 7 a7 5 0 0)]) (fun _ => [(4, a4, .arr 4 [p.av]), (7, a7, .arr 5 [f.av])]) (fun i => i ≤ d.whens.length ∧ ∀ j x, j < i → d.whens[j]? = some x → staleB p ⟨true, f.values, f.ages, [], [], []⟩ x = false) (fun i => d.whens.length - i) 0 (by first | (refine Weak.of ?_; (repeat (first | exact trivial | refine ⟨rfl, ?_⟩ | refine ⟨by simp [Env.get], ?_⟩)); done) | (refine Weak.pick (by repeat (first | exact trivial | refine ⟨rfl, ?_⟩ | refine ⟨by simp [Env.get], ?_⟩)) (by first | rfl | (simp [pickH, Heap.get, Heap.del, Heap.set, ofV_i, ofV_b]; done)))) ⟨by omega, by omega⟩ ?_
  rintro i ⟨hi, hI⟩ K2 hK2
  try dsimp only at hK2 ⊢
  by_cases hlt : i < d.whens.length
  · have hx : d.whens[i]? = some d.whens[i] := by simp [hlt]
    have hx2 := (hlit d.whens[i] (by simp)).1
    generalize d.whens[i] = x at hx hx2
    have hgx := nth_get (l := f.ages) hx2.1 (by omega)
    (refine goA ?_; repeat (refine goN fun _ => ?_; refine goA ?_))
    refine s_iaddr_fz rfl rfl hx2.1 (get_map _ hgx) ?_
    (refine goA ?_; repeat (refine goN fun _ => ?_; refine goA ?_))
    refine AWP.cond rfl (fun hc => ?_) (fun hc => ?_)
    · (refine goA ?_; repeat (refine goN fun _ => ?_; refine goA ?_))
      refine post_ret rfl ⟨0, ?_⟩
      rw [decideI, if_pos (.inr (.inl (List.any_eq_true.2 ⟨x, List.mem_of_getElem? hx, hc⟩)))]; rfl
    · (refine goA ?_; repeat (refine goN fun _ => ?_; refine goA ?_))
      refine hK2 (i + 1) _ _ (by omega) ⟨by omega, ?_⟩ (by first | (refine Weak.of ?_; (repeat (first | exact trivial | refine ⟨rfl, ?_⟩ | refine ⟨by simp [Env.get], ?_⟩)); done) | (refine Weak.pick (by repeat (first | exact trivial | refine ⟨rfl, ?_⟩ | refine ⟨by simp [Env.get], ?_⟩)) (by first | rfl | (simp [pickH, Heap.get, Heap.del, Heap.set, ofV_i, ofV_b]; done))))
      intro j y hj hy
      by_cases e : j < i
      · exact hI j y e hy
      · have : j = i := by omega
        subst this
        rw [hx] at hy; injection hy with hy; subst hy
        exact hc
  · have hst : d.whens.any (staleB p ⟨true, f.values, f.ages, [], [], []⟩) = false := by
      simp only [List.any_eq_false, Bool.not_eq_true]
      intro x hx
      obtain ⟨j, hj, rfl⟩ := List.getElem_of_mem hx
      exact hI j _ (by omega) (by simp)
    (refine goA ?_; repeat (refine goN fun _ => ?_; refine goA ?_))
    refine s_call rfl ?_
    refine CallOK.pure (true_ok d.whens (by omega) f.values (fun s hs => by have := (hlit s hs).1; omega)) ?_
    cases ht : trueB d.whens f.values
    · (refine goA ?_; repeat (refine goN fun _ => ?_; refine goA ?_))
      refine post_ret rfl ⟨0, ?_⟩
      rw [decideI, if_neg]
      · rfl
      · simp only [trueB, Bool.not_eq_false'] at ht
        rintro (h | h | h)
        · exact h2 h
        · rw [hst] at h; cases h
        · have : d.whens.any (failsB ⟨true, f.values, f.ages, [], [], []⟩) = true := ht
          rw [this] at h; cases h
    · (refine goA ?_; repeat (refine goN fun _ => ?_; refine goA ?_))
      refine post_ret rfl ⟨0, ?_⟩
      rw [decideI, if_pos]
      · rfl
      · simp only [trueB, Bool.not_eq_true'] at ht
        exact .inr (.inr ht)
theorem wants_ok (p : Panel) (l : List Sig) (hl : l.length ≤ 9223372036854775807) (k : Nat) (d : Gate) (hd : p.doors[k]? = some d) (hdw : 1 ≤ d.wait ∧ d.wait ≤ 50) (hk8 : k < 8) (fs : List Frame) (hfl : fs.length ≤ 1000000) (hft : ∀ f ∈ fs, k < f.told.length) : PCalls Try.prog 72 [p.av, .fz 4 (l.map Sig.av), .i (k : Nat), .fz 5 (fs.map Frame.av)] (.b (wantsB l k fs ((fs.length : Int) - 1 - d.wait) fs.length)) := by
  have hlm : ((fs.map Frame.av).length : Int) = fs.length := by simp
  generalize hR : wantsB l k fs ((fs.length : Int) - 1 - d.wait) fs.length = R
  refine PCalls.body fn72 _ (by simp) ?_
  unfold ir72
  (refine goA ?_; repeat (refine goN fun _ => ?_; refine goA ?_))
  rename_i a4
  refine AWP.loopS (σ := Nat) (fun n => [(10, .i ((n : Int) - 1)), (9, .i ((fs.length : Int) - 1)), (1, .fz 4 (l.map Sig.av)), (2, .i (k : Nat)), (3, .fz 5 (fs.map Frame.av)), (4, .ptr 4 a4 4 0 0)]) (fun _ => [(4, a4, .arr 4 [p.av])]) (fun n => n ≤ fs.length ∧ wantsB l k fs ((fs.length : Int) - 1 - d.wait) n = R) (fun n => n) fs.length ?_ ⟨by omega, hR⟩ ?_
  · rw [hlm]; exact (by first | (refine Weak.of ?_; (repeat (first | exact trivial | refine ⟨rfl, ?_⟩ | refine ⟨by simp [Env.get], ?_⟩)); done) | (refine Weak.pick (by repeat (first | exact trivial | refine ⟨rfl, ?_⟩ | refine ⟨by simp [Env.get], ?_⟩)) (by first | rfl | (simp [pickH, Heap.get, Heap.del, Heap.set, ofV_i, ofV_b]; done))))
  rintro n ⟨hn, hI⟩ K2 hK2
  try dsimp only at hK2 ⊢
  cases n with
  | zero =>
    (refine goA ?_; repeat (refine goN fun _ => ?_; refine goA ?_))
    refine post_ret rfl ⟨0, ?_⟩
    rw [← hI]; simp [closeAV, mkRes, AV.ofV, wantsB]
  | succ n =>
    have e : ((n + 1 : Nat) : Int) - 1 = (n : Nat) := by omega
    rw [e]
    rw [wantsB] at hI
    by_cases hlow : (n : Int) > (fs.length : Int) - 1 - d.wait
    · rw [if_pos hlow] at hI
      have hf : fs[n]? = some fs[n] := by simp
      have hf2 := hft fs[n] (by simp)
      generalize fs[n] = f at hf hf2
      have hrd := rd_get hf2
      rw [hf] at hI
      dsimp only at hI
      have next : ∀ E' H', Weak 55 E' H' [(10, .i (((n : Nat) : Int) - 1)), (9, .i ((fs.length : Int) - 1)), (1, .fz 4 (l.map Sig.av)), (2, .i (k : Nat)), (3, .fz 5 (fs.map Frame.av)), (4, .ptr 4 a4 4 0 0)] [(4, a4, .arr 4 [p.av])] → wantsB l k fs ((fs.length : Int) - 1 - d.wait) n = R → K2 E' H' := fun E' H' hw he => hK2 n E' H' (by omega) ⟨by omega, he⟩ hw
      (refine goA ?_; repeat (refine goN fun _ => ?_; refine goA ?_))
      refine AWP.cond rfl (fun hc => ?_) (fun hc => ?_)
      · have hp : f.power = false := by simpa using hc
        rw [if_pos hp] at hI
        (refine goA ?_; repeat (refine goN fun _ => ?_; refine goA ?_))
        refine post_ret rfl ⟨0, ?_⟩
        rw [← hI]; simp [closeAV, mkRes, AV.ofV]
      have hp : f.power = true := by simpa using hc
      rw [if_neg (show ¬ f.power = false by simp [hp])] at hI
      (refine goA ?_; repeat (refine goN fun _ => ?_; refine goA ?_))
      refine s_call rfl ?_
      refine CallOK.pure (has_ok l hl n 3 k) ?_
      cases hm : hasB l n 3 k
      · rw [hm] at hI
        rw [if_neg (by simp)] at hI
        by_cases e2 : rd f.told k = 2
        · rw [if_pos e2] at hI
          (refine goA ?_; repeat (refine goN fun _ => ?_; refine goA ?_))
          refine post_ret rfl ⟨0, ?_⟩
          rw [← hI]; simp [closeAV, mkRes, AV.ofV]
        rw [if_neg e2] at hI
        by_cases e1 : rd f.told k = 1
        · rw [if_pos e1] at hI
          (refine goA ?_; repeat (refine goN fun _ => ?_; refine goA ?_))
          refine post_ret rfl ⟨0, ?_⟩
          rw [← hI]; simp [closeAV, mkRes, AV.ofV]
        rw [if_neg e1] at hI
        (refine goA ?_; repeat (refine goN fun _ => ?_; refine goA ?_))
        exact next _ _ (by first | (refine Weak.of ?_; (repeat (first | exact trivial | refine ⟨rfl, ?_⟩ | refine ⟨by simp [Env.get], ?_⟩)); done) | (refine Weak.pick (by repeat (first | exact trivial | refine ⟨rfl, ?_⟩ | refine ⟨by simp [Env.get], ?_⟩)) (by first | rfl | (simp [pickH, Heap.get, Heap.del, Heap.set, ofV_i, ofV_b]; done)))) hI
      · rw [hm] at hI
        rw [if_pos rfl] at hI
        (refine goA ?_; repeat (refine goN fun _ => ?_; refine goA ?_))
        exact next _ _ (by first | (refine Weak.of ?_; (repeat (first | exact trivial | refine ⟨rfl, ?_⟩ | refine ⟨by simp [Env.get], ?_⟩)); done) | (refine Weak.pick (by repeat (first | exact trivial | refine ⟨rfl, ?_⟩ | refine ⟨by simp [Env.get], ?_⟩)) (by first | rfl | (simp [pickH, Heap.get, Heap.del, Heap.set, ofV_i, ofV_b]; done)))) hI
    · rw [if_neg hlow] at hI
      (refine goA ?_; repeat (refine goN fun _ => ?_; refine goA ?_))
      refine post_ret rfl ⟨0, ?_⟩
      rw [← hI]; simp [closeAV, mkRes, AV.ofV]
end Go.Proofs.Ytjnencdmejhmjaa.Eng
