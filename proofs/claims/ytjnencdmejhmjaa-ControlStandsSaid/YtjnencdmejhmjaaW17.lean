/- CONTROL: only, stands; the law ControlWorks, walked. -/
import Derived.Test.YtjnencdmejhmjaaV6
import Derived.Test.YtjnencdmejhmjaaW15
import Derived.Test.YtjnencdmejhmjaaP8
namespace Go.Proofs.Ytjnencdmejhmjaa.Eng
open Go Go.RowKit
attribute [local irreducible] insRun planRun AWP holdsAll CallOK Weak Ins.holds
set_option linter.unusedSimpArgs false
set_option linter.unusedVariables false
set_option maxHeartbeats 4000000
theorem stands_ok (l : List Sig) (hl : l.length ≤ 9223372036854775807) (t n : Int) : PCalls Try.prog 26 [.fz 4 (l.map Sig.av), .i t, .i n] (.b (hasB l t 6 n)) := by
  refine PCalls.body fn26 _ (by simp) ?_
  unfold ir26
  (refine goA ?_; repeat (refine goN fun _ => ?_; refine goA ?_))
  refine AWP.loopS (σ := Nat) (fun i => [(7, .i (i : Nat)), (0, .fz 4 (l.map Sig.av)), (1, .i t), (2, .i n)]) (fun _ => []) (fun i => i ≤ l.length ∧ hasB (l.take i) t 6 n = false) (fun i => l.length - i) 0 (by first | (refine Weak.of ?_; (repeat (first | exact trivial | refine ⟨rfl, ?_⟩ | refine ⟨by simp [Env.get], ?_⟩)); done) | (refine Weak.pick (by repeat (first | exact trivial | refine ⟨rfl, ?_⟩ | refine ⟨by simp [Env.get], ?_⟩)) (by first | rfl | (simp [pickH, Heap.get, Heap.del, Heap.set, ofV_i, ofV_b]; done)))) ⟨by omega, by simp [hasB]⟩ ?_
  rintro i ⟨hi, hI⟩ K2 hK2
  try dsimp only at hK2 ⊢
  by_cases hlt : i < l.length
  · have hx : l[i]? = some l[i] := by simp [hlt]
    generalize l[i] = x at hx
    have hs := hasB_succ hx t 6 n
    have step : ∀ E' H', (decide (x.time = t) && decide (x.kind = 6) && decide (x.number = n)) = false → Weak 38 E' H' [(7, .i ((i + 1 : Nat) : Int)), (0, .fz 4 (l.map Sig.av)), (1, .i t), (2, .i n)] [] → K2 E' H' := fun E' H' hf hw => hK2 (i + 1) E' H' (by omega) ⟨by omega, by rw [hs, hI, hf]; rfl⟩ hw
    by_cases hk : x.kind = 6
    · by_cases ht : x.time = t
      · by_cases hn : x.number = n
        · (refine goA ?_; repeat (refine goN fun _ => ?_; refine goA ?_))
          refine post_ret rfl ⟨0, ?_⟩
          have h1 : hasB l t 6 n = true := hasB_iff.2 ⟨x, List.mem_of_getElem? hx, ht, hk, hn⟩
          simp [closeAV, mkRes, h1, AV.ofV]
        · (refine goA ?_; repeat (refine goN fun _ => ?_; refine goA ?_))
          exact step _ _ (by simp [hn]) (by first | (refine Weak.of ?_; (repeat (first | exact trivial | refine ⟨rfl, ?_⟩ | refine ⟨by simp [Env.get], ?_⟩)); done) | (refine Weak.pick (by repeat (first | exact trivial | refine ⟨rfl, ?_⟩ | refine ⟨by simp [Env.get], ?_⟩)) (by first | rfl | (simp [pickH, Heap.get, Heap.del, Heap.set, ofV_i, ofV_b]; done))))
      · (refine goA ?_; repeat (refine goN fun _ => ?_; refine goA ?_))
        exact step _ _ (by simp [ht]) (by first | (refine Weak.of ?_; (repeat (first | exact trivial | refine ⟨rfl, ?_⟩ | refine ⟨by simp [Env.get], ?_⟩)); done) | (refine Weak.pick (by repeat (first | exact trivial | refine ⟨rfl, ?_⟩ | refine ⟨by simp [Env.get], ?_⟩)) (by first | rfl | (simp [pickH, Heap.get, Heap.del, Heap.set, ofV_i, ofV_b]; done))))
    · (refine goA ?_; repeat (refine goN fun _ => ?_; refine goA ?_))
      exact step _ _ (by simp [hk]) (by first | (refine Weak.of ?_; (repeat (first | exact trivial | refine ⟨rfl, ?_⟩ | refine ⟨by simp [Env.get], ?_⟩)); done) | (refine Weak.pick (by repeat (first | exact trivial | refine ⟨rfl, ?_⟩ | refine ⟨by simp [Env.get], ?_⟩)) (by first | rfl | (simp [pickH, Heap.get, Heap.del, Heap.set, ofV_i, ofV_b]; done))))
  · have hi' : i = l.length := by omega
    subst hi'
    (refine goA ?_; repeat (refine goN fun _ => ?_; refine goA ?_))
    refine post_ret rfl ⟨0, ?_⟩
    rw [List.take_length] at hI
    simp [closeAV, mkRes, AV.ofV, hI]
def calmL (l : List Sig) : List Sig := l.filter fun x => decide (x.kind = 1 ∨ x.kind = 6)
theorem calm_succ {l : List Sig} {i : Nat} {x : Sig} (hx : l[i]? = some x) : calmL (l.take (i + 1)) = calmL (l.take i) ++ (if x.kind = 1 ∨ x.kind = 6 then [x] else []) := by
  obtain ⟨hi, rfl⟩ := List.getElem?_eq_some_iff.1 hx
  rw [List.take_succ_eq_append_getElem hi]
  simp only [calmL, List.filter_append, List.filter_cons, List.filter_nil, decide_eq_true_eq]
theorem close_sigs {H : Heap} {h n : Nat} {a : Loc} {R : List Sig} (hH : H.get h = some (a, .arr 4 (R.map Sig.av))) (hn : n = R.length) (k : Nat) : closeAV H (k + 1) (.ref h a 4 0 n) = .fz 4 (R.map Sig.av) :=
  close_ints (g := Sig.av) (fun H k => by funext x; cases k <;> rfl) hH hn k
theorem only_ok (l : List Sig) (hl : l.length ≤ 200) : PCalls Try.prog 25 [.fz 4 (l.map Sig.av), .fz 1 (([1, 6] : List Int).map .i)] (.fz 4 ((calmL l).map Sig.av)) := by
  refine PCalls.body fn25 _ (by simp) ?_
  unfold ir25
  (refine goA ?_; repeat (refine goN fun _ => ?_; refine goA ?_))
  refine AWP.weak (Weak.virt 36 5 4 rfl) ?_
  refine AWP.loopS (σ := Nat × Loc × List Sig) (fun s => [(6, .i (s.1 : Nat)), (5, .ref 36 s.2.1 4 0 s.2.2.length), (0, .fz 4 (l.map Sig.av)), (1, .fz 1 (([1, 6] : List Int).map .i))]) (fun s => [(36, s.2.1, .arr 4 (s.2.2.map Sig.av))]) (fun s => s.1 ≤ l.length ∧ s.2.2 = calmL (l.take s.1)) (fun s => l.length - s.1) (0, ⟨0, 0, true⟩, []) (by first | (refine Weak.of ?_; (repeat (first | exact trivial | refine ⟨rfl, ?_⟩ | refine ⟨by simp [Env.get], ?_⟩)); done) | (refine Weak.pick (by repeat (first | exact trivial | refine ⟨rfl, ?_⟩ | refine ⟨by simp [Env.get], ?_⟩)) (by first | rfl | (simp [pickH, Heap.get, Heap.del, Heap.set, ofV_i, ofV_b]; done)))) ⟨by dsimp only; omega, by simp [calmL]⟩ ?_
  rintro ⟨i, aa, cc⟩ ⟨hi, hI⟩ K2 hK2
  dsimp only at hi hI hK2 ⊢
  by_cases hlt : i < l.length
  · have hx : l[i]? = some l[i] := by simp [hlt]
    generalize l[i] = x at hx
    have hs := calm_succ hx
    rw [← hI] at hs
    have hcl : cc.length ≤ l.length := by
      have h1 := List.length_filter_le (fun x : Sig => decide (x.kind = 1 ∨ x.kind = 6)) (l.take i)
      have h2 : (l.take i).length ≤ l.length := by simp; omega
      rw [hI]; simp only [calmL]; omega
    (refine goA ?_; repeat (refine goN fun _ => ?_; refine goA ?_))
    refine AWP.loopS (σ := Nat × Loc × List Sig) (fun s => [(7, .i (s.1 : Nat)), (6, .i (i : Nat)), (5, .ref 36 s.2.1 4 0 s.2.2.length), (0, .fz 4 (l.map Sig.av)), (1, .fz 1 (([1, 6] : List Int).map .i))]) (fun s => [(36, s.2.1, .arr 4 (s.2.2.map Sig.av))]) (fun s => s.1 ≤ 2 ∧ s.2.2 = cc ++ (if (0 < s.1 ∧ x.kind = 1) ∨ (1 < s.1 ∧ x.kind = 6) then [x] else [])) (fun s => 2 - s.1) (0, aa, cc) (by first | (refine Weak.of ?_; (repeat (first | exact trivial | refine ⟨rfl, ?_⟩ | refine ⟨by simp [Env.get], ?_⟩)); done) | (refine Weak.pick (by repeat (first | exact trivial | refine ⟨rfl, ?_⟩ | refine ⟨by simp [Env.get], ?_⟩)) (by first | rfl | (simp [pickH, Heap.get, Heap.del, Heap.set, ofV_i, ofV_b]; done)))) ⟨by dsimp only; omega, by simp⟩ ?_
    rintro ⟨j, ab, cd⟩ ⟨hj, hJ⟩ K3 hK3
    dsimp only at hj hJ hK3 ⊢
    have hdl : cd.length ≤ 300 := by rw [hJ]; split <;> simp <;> omega
    have fin : ∀ a2 cf E' H', cf = cc ++ (if (0 < j + 1 ∧ x.kind = 1) ∨ (1 < j + 1 ∧ x.kind = 6) then [x] else []) → j < 2 → Weak 38 E' H' [(7, .i ((j + 1 : Nat) : Int)), (6, .i (i : Nat)), (5, .ref 36 a2 4 0 cf.length), (0, .fz 4 (l.map Sig.av)), (1, .fz 1 (([1, 6] : List Int).map .i))] [(36, a2, .arr 4 (cf.map Sig.av))] → K3 E' H' := by
      intro a2 cf E' H' hcf hj2 hw
      exact hK3 (j + 1, a2, cf) E' H' (by dsimp only; omega) ⟨by dsimp only; omega, hcf⟩ hw
    by_cases hj2 : j < 2
    · obtain ⟨q, hq, hq2⟩ : ∃ q : Int, ([1, 6] : List Int)[j]? = some q ∧ ((j = 0 ∧ q = 1) ∨ (j = 1 ∧ q = 6)) := by
        rcases (by omega : j = 0 ∨ j = 1) with rfl | rfl
        · exact ⟨1, rfl, .inl ⟨rfl, rfl⟩⟩
        · exact ⟨6, rfl, .inr ⟨rfl, rfl⟩⟩
      have hjl : ((j : Nat) : Int) < ((([1, 6] : List Int).map AV.i).length : Int) := by simp; omega
      by_cases hk : x.kind = q
      · (refine goA ?_; repeat (refine goN fun _ => ?_; refine goA ?_))
        refine s_app_ref rfl rfl rfl rfl (by simp) rfl (by omega) fun a2 => ?_
        (refine goA ?_; repeat (refine goN fun _ => ?_; refine goA ?_))
        refine fin a2 (cd ++ [x]) _ _ ?_ hj2 ?_
        · rw [hJ]
          rcases hq2 with ⟨rfl, rfl⟩ | ⟨rfl, rfl⟩
          · simp [hk]
          · simp [hk]
        · have e : (cd ++ [x]).map Sig.av = cd.map Sig.av ++ [Sig.av x] := by simp
          rw [e, List.length_append]
          exact (by first | (refine Weak.of ?_; (repeat (first | exact trivial | refine ⟨rfl, ?_⟩ | refine ⟨by simp [Env.get], ?_⟩)); done) | (refine Weak.pick (by repeat (first | exact trivial | refine ⟨rfl, ?_⟩ | refine ⟨by simp [Env.get], ?_⟩)) (by first | rfl | (simp [pickH, Heap.get, Heap.del, Heap.set, ofV_i, ofV_b]; done))))
      · (refine goA ?_; repeat (refine goN fun _ => ?_; refine goA ?_))
        refine fin ab cd _ _ ?_ hj2 (by first | (refine Weak.of ?_; (repeat (first | exact trivial | refine ⟨rfl, ?_⟩ | refine ⟨by simp [Env.get], ?_⟩)); done) | (refine Weak.pick (by repeat (first | exact trivial | refine ⟨rfl, ?_⟩ | refine ⟨by simp [Env.get], ?_⟩)) (by first | rfl | (simp [pickH, Heap.get, Heap.del, Heap.set, ofV_i, ofV_b]; done))))
        rw [hJ]
        rcases hq2 with ⟨rfl, rfl⟩ | ⟨rfl, rfl⟩
        · simp [hk]
        · simp [hk]
    · have hj' : j = 2 := by omega
      subst hj'
      (refine goA ?_; repeat (refine goN fun _ => ?_; refine goA ?_))
      refine hK2 (i + 1, ab, cd) _ _ (by dsimp only; omega) ⟨by dsimp only; omega, ?_⟩ (by first | (refine Weak.of ?_; (repeat (first | exact trivial | refine ⟨rfl, ?_⟩ | refine ⟨by simp [Env.get], ?_⟩)); done) | (refine Weak.pick (by repeat (first | exact trivial | refine ⟨rfl, ?_⟩ | refine ⟨by simp [Env.get], ?_⟩)) (by first | rfl | (simp [pickH, Heap.get, Heap.del, Heap.set, ofV_i, ofV_b]; done))))
      dsimp only
      rw [hs, hJ]; simp
  · have hi' : i = l.length := by omega
    subst hi'
    (refine goA ?_; repeat (refine goN fun _ => ?_; refine goA ?_))
    refine post_ret rfl ⟨1, ?_⟩
    rw [List.take_length] at hI
    rw [← hI]
    exact close_sigs rfl rfl 0
theorem worksL_ok (p : Panel) (hsm : p.small) (ticks : Int) (l : List Sig) (hl : l.length ≤ 9223372036854775807) : PCalls Try.prog 6 [p.av, .i ticks, .fz 4 (l.map Sig.av)] (.b true) := by
  refine PCalls.body fn6 _ (by simp) ?_
  unfold ir6
  (refine goA ?_; repeat (refine goN fun _ => ?_; refine goA ?_))
  rename_i a3
  refine s_call rfl ?_
  refine CallOK.pure (long_ok ticks) ?_
  cases hlo : longB ticks
  case true =>
    (refine goA ?_; repeat (refine goN fun _ => ?_; refine goA ?_))
    refine s_call rfl ?_
    refine call_works ?_
    (refine goA ?_; repeat (refine goN fun _ => ?_; refine goA ?_))
    exact post_ret rfl ⟨0, rfl⟩
  by_cases hl2 : 200 < l.length
  · have hlm : (((l.map Sig.av).length : Int)) > 200 := by simp; omega
    (refine goA ?_; repeat (refine goN fun _ => ?_; refine goA ?_))
    refine s_call rfl ?_
    refine call_works ?_
    (refine goA ?_; repeat (refine goN fun _ => ?_; refine goA ?_))
    exact post_ret rfl ⟨0, rfl⟩
  have hlm : ¬ (((l.map Sig.av).length : Int)) > 200 := by simp; omega
  (refine goA ?_; repeat (refine goN fun _ => ?_; refine goA ?_))
  rename_i a23
  refine s_call rfl ?_
  refine CallOK.give 2 23 rfl (xs' := [.fz 4 (l.map Sig.av), .fz 1 (([1, 6] : List Int).map .i)]) ?_ (only_ok l (by omega)) ?_
  · simp [closeAV, Heap.get, elemMap, AV.i, AV.ofV, AV.cells]
  have hcm : ∀ x ∈ calmL l, x.kind = 1 ∨ x.kind = 6 := fun x hx => by simpa [calmL] using (List.mem_filter.1 hx).2
  have hcl : (calmL l).length ≤ 9223372036854775807 := by
    have := List.length_filter_le (fun x : Sig => decide (x.kind = 1 ∨ x.kind = 6)) l
    simp only [calmL]; omega
  generalize calmL l = c at hcm hcl ⊢
  (refine goA ?_; repeat (refine goN fun _ => ?_; refine goA ?_))
  refine s_call rfl ?_
  refine CallOK.pure (valid_ok p hsm ticks c hcl) ?_
  by_cases hE : beginE p ticks c = 0
  case neg =>
    rw [show decide (beginE p ticks c = 0) = false by simp [hE]]
    (refine goA ?_; repeat (refine goN fun _ => ?_; refine goA ?_))
    refine s_call rfl ?_
    refine call_works ?_
    (refine goA ?_; repeat (refine goN fun _ => ?_; refine goA ?_))
    exact post_ret rfl ⟨0, rfl⟩
  rw [show decide (beginE p ticks c = 0) = true by simp [hE]]
  (refine goA ?_; repeat (refine goN fun _ => ?_; refine goA ?_))
  refine s_call rfl ?_
  refine CallOK.pure (play_ok p hsm ticks c hcl) ?_
  obtain ⟨T, rfl⟩ : ∃ T : Nat, ticks = T := ⟨ticks.toNat, by have := (begin_good hE).2.1; omega⟩
  have hT : T ≤ 1000 := by have := (begin_good hE).2.1; omega
  rw [show playE p T c = 0 from hE]
  obtain ⟨hRl, hRb⟩ := play_rows hE
  generalize playR p T c = R at hRl hRb ⊢
  have hg := pgood (begin_good hE).1
  have hnn := right_nums (begin_good hE).2.2.2
  have hsen := hg.sen
  have hlim := hg.lim
  have hdl := hg.len
  have hl5 : (((nats R).length : Int) != (T : Int)) = false := by simp [nats, hRl]
  (refine goA ?_; repeat (refine goN fun _ => ?_; refine goA ?_))
  refine AWP.loopS (σ := Nat) (fun t => [(10, .i (t : Nat)), (7, .fz 4 (c.map Sig.av)), (8, .fz 1 (nats R)), (1, .i (T : Nat)), (3, .ptr 3 a3 4 0 0)]) (fun _ => [(3, a3, .arr 4 [p.av])]) (fun t => t ≤ T) (fun t => T - t) 0 (by first | (refine Weak.of ?_; (repeat (first | exact trivial | refine ⟨rfl, ?_⟩ | refine ⟨by simp [Env.get], ?_⟩)); done) | (refine Weak.pick (by repeat (first | exact trivial | refine ⟨rfl, ?_⟩ | refine ⟨by simp [Env.get], ?_⟩)) (by first | rfl | (simp [pickH, Heap.get, Heap.del, Heap.set, ofV_i, ofV_b]; done)))) (by first | omega | (dsimp only; omega)) ?_
  intro t ht K2 hK2
  try dsimp only at ht hK2 ⊢
  by_cases hlt : t < T
  case neg =>
    (refine goA ?_; repeat (refine goN fun _ => ?_; refine goA ?_))
    refine s_call rfl ?_
    refine call_works ?_
    (refine goA ?_; repeat (refine goN fun _ => ?_; refine goA ?_))
    exact post_ret rfl ⟨0, rfl⟩
  by_cases htl : (t : Int) < p.limit
  case neg =>
    (refine goA ?_; repeat (refine goN fun _ => ?_; refine goA ?_))
    refine s_call rfl ?_
    refine call_works ?_
    (refine goA ?_; repeat (refine goN fun _ => ?_; refine goA ?_))
    exact post_ret rfl ⟨0, rfl⟩
  (refine goA ?_; repeat (refine goN fun _ => ?_; refine goA ?_))
  refine s_call rfl ?_
  refine CallOK.pure (senses_ok p hsen c hcl (begin_sens hE) t (by omega)) ?_
  (refine goA ?_; repeat (refine goN fun _ => ?_; refine goA ?_))
  obtain ⟨r, r1, r2, r3⟩ := hRb t hlt
  have hr2 : (nats R)[t]? = some (.i (r : Nat)) := get_map (fun n : Nat => AV.i (n : Nat)) r1
  have hr8 : r < 256 := Nat.lt_of_lt_of_le r2 (Nat.pow_le_pow_right (by omega) hdl : 2 ^ p.doors.length ≤ 2 ^ 8)
  refine AWP.loopS (σ := Nat) (fun k => [(12, .i (k : Nat)), (11, ints (senTo p.sensors.toNat c (t + 1))), (10, .i (t : Nat)), (7, .fz 4 (c.map Sig.av)), (8, .fz 1 (nats R)), (1, .i (T : Nat)), (3, .ptr 3 a3 4 0 0)]) (fun _ => [(3, a3, .arr 4 [p.av])]) (fun k => k ≤ p.doors.length) (fun k => p.doors.length - k) 0 (by first | (refine Weak.of ?_; (repeat (first | exact trivial | refine ⟨rfl, ?_⟩ | refine ⟨by simp [Env.get], ?_⟩)); done) | (refine Weak.pick (by repeat (first | exact trivial | refine ⟨rfl, ?_⟩ | refine ⟨by simp [Env.get], ?_⟩)) (by first | rfl | (simp [pickH, Heap.get, Heap.del, Heap.set, ofV_i, ofV_b]; done)))) (by first | omega | (dsimp only; omega)) ?_
  intro k hk K3 hK3
  try dsimp only at hk hK3 ⊢
  by_cases hlt2 : k < p.doors.length
  · have hd : p.doors[k]? = some p.doors[k] := by simp
    generalize p.doors[k] = d at hd
    have hdm := List.mem_of_getElem? hd
    have hwl := hg.lits d hdm
    have hlit := hg.lit d hdm
    obtain ⟨law1, law2⟩ := works_law hg c hnn hcm k d hd t htl
    (refine goA ?_; repeat (refine goN fun _ => ?_; refine goA ?_))
    refine s_call rfl ?_
    refine CallOK.pure (true_ok d.whens (by omega) (senTo p.sensors.toNat c (t + 1)) (fun s hs => by rw [senTo_len]; have := (hlit s hs).1; omega)) ?_
    cases htr : trueB d.whens (senTo p.sensors.toNat c (t + 1))
    · (refine goA ?_; repeat (refine goN fun _ => ?_; refine goA ?_))
      refine s_call rfl ?_
      refine CallOK.pure (stands_ok c hcl t k) ?_
      cases hst : hasB c t 6 k
      · (refine goA ?_; repeat (refine goN fun _ => ?_; refine goA ?_))
        refine s_call rfl ?_
        refine CallOK.pure (bit_ok r k hr8 (by omega)) ?_
        rw [r3 k hlt2, law2 htr hst]
        (refine goA ?_; repeat (refine goN fun _ => ?_; refine goA ?_))
        refine hK3 (k + 1) _ _ (by omega) (by omega) ?_
        exact (by first | (refine Weak.of ?_; (repeat (first | exact trivial | refine ⟨rfl, ?_⟩ | refine ⟨by simp [Env.get], ?_⟩)); done) | (refine Weak.pick (by repeat (first | exact trivial | refine ⟨rfl, ?_⟩ | refine ⟨by simp [Env.get], ?_⟩)) (by first | rfl | (simp [pickH, Heap.get, Heap.del, Heap.set, ofV_i, ofV_b]; done))))
      · (refine goA ?_; repeat (refine goN fun _ => ?_; refine goA ?_))
        refine hK3 (k + 1) _ _ (by omega) (by omega) ?_
        exact (by first | (refine Weak.of ?_; (repeat (first | exact trivial | refine ⟨rfl, ?_⟩ | refine ⟨by simp [Env.get], ?_⟩)); done) | (refine Weak.pick (by repeat (first | exact trivial | refine ⟨rfl, ?_⟩ | refine ⟨by simp [Env.get], ?_⟩)) (by first | rfl | (simp [pickH, Heap.get, Heap.del, Heap.set, ofV_i, ofV_b]; done))))
    · (refine goA ?_; repeat (refine goN fun _ => ?_; refine goA ?_))
      refine s_call rfl ?_
      refine CallOK.pure (bit_ok r k hr8 (by omega)) ?_
      rw [r3 k hlt2, law1 htr]
      (refine goA ?_; repeat (refine goN fun _ => ?_; refine goA ?_))
      refine hK3 (k + 1) _ _ (by omega) (by omega) ?_
      exact (by first | (refine Weak.of ?_; (repeat (first | exact trivial | refine ⟨rfl, ?_⟩ | refine ⟨by simp [Env.get], ?_⟩)); done) | (refine Weak.pick (by repeat (first | exact trivial | refine ⟨rfl, ?_⟩ | refine ⟨by simp [Env.get], ?_⟩)) (by first | rfl | (simp [pickH, Heap.get, Heap.del, Heap.set, ofV_i, ofV_b]; done))))
  · (refine goA ?_; repeat (refine goN fun _ => ?_; refine goA ?_))
    refine hK2 (t + 1) _ _ (by omega) (by omega) ?_
    exact (by first | (refine Weak.of ?_; (repeat (first | exact trivial | refine ⟨rfl, ?_⟩ | refine ⟨by simp [Env.get], ?_⟩)); done) | (refine Weak.pick (by repeat (first | exact trivial | refine ⟨rfl, ?_⟩ | refine ⟨by simp [Env.get], ?_⟩)) (by first | rfl | (simp [pickH, Heap.get, Heap.del, Heap.set, ofV_i, ofV_b]; done))))
end Go.Proofs.Ytjnencdmejhmjaa.Eng
