/- CONTROL: the law ControlStands, walked. -/
import Derived.Test.YtjnencdmejhmjaaW17
namespace Go.Proofs.Ytjnencdmejhmjaa.Eng
open Go Go.RowKit
attribute [local irreducible] insRun planRun AWP holdsAll CallOK Weak Ins.holds
set_option linter.unusedSimpArgs false
set_option linter.unusedVariables false
set_option maxHeartbeats 4000000
theorem free_succ {l : List Sig} {i : Nat} {x : Sig} (hx : l[i]? = some x) : freeL (l.take (i + 1)) = freeL (l.take i) ++ (if x.kind ≠ 6 then [x] else []) := by
  obtain ⟨hi, rfl⟩ := List.getElem?_eq_some_iff.1 hx
  rw [List.take_succ_eq_append_getElem hi]
  simp only [freeL, List.filter_append, List.filter_cons, List.filter_nil, decide_eq_true_eq]
theorem freeL_len (l : List Sig) : (freeL l).length ≤ l.length := List.length_filter_le _ l
theorem standsL_ok (p : Panel) (hsm : p.small) (ticks : Int) (l : List Sig) (hl : l.length ≤ 9223372036854775807) : PCalls Try.prog 7 [p.av, .i ticks, .fz 4 (l.map Sig.av)] (.b true) := by
  refine PCalls.body fn7 _ (by simp) ?_
  unfold ir7
  (refine goA ?_; repeat (refine goN fun _ => ?_; refine goA ?_))
  rename_i a3
  refine s_call rfl ?_
  refine CallOK.pure (long_ok ticks) ?_
  cases hlo : longB ticks
  case true =>
    (refine goA ?_; repeat (refine goN fun _ => ?_; refine goA ?_))
    refine s_call rfl ?_
    refine call_works ?_
    (refine goA ?_; repeat (refine goN fun _ => ?_; refine goA ?_))
    exact post_ret rfl ⟨0, rfl⟩
  (refine goA ?_; repeat (refine goN fun _ => ?_; refine goA ?_))
  refine s_call rfl ?_
  refine CallOK.pure (valid_ok p hsm ticks l hl) ?_
  by_cases hE : beginE p ticks l = 0
  case neg =>
    rw [show decide (beginE p ticks l = 0) = false by simp [hE]]
    (refine goA ?_; repeat (refine goN fun _ => ?_; refine goA ?_))
    refine s_call rfl ?_
    refine call_works ?_
    (refine goA ?_; repeat (refine goN fun _ => ?_; refine goA ?_))
    exact post_ret rfl ⟨0, rfl⟩
  rw [show decide (beginE p ticks l = 0) = true by simp [hE]]
  (refine goA ?_; repeat (refine goN fun _ => ?_; refine goA ?_))
  refine s_call rfl ?_
  refine CallOK.pure (play_ok p hsm ticks l hl) ?_
  obtain ⟨T, rfl⟩ : ∃ T : Nat, ticks = T := ⟨ticks.toNat, by have := (begin_good hE).2.1; omega⟩
  have hT : T ≤ 1000 := by have := (begin_good hE).2.1; omega
  have hl2 := (begin_good hE).2.2.1
  have hE2 := free_begin hE
  rw [show playE p T l = 0 from hE]
  obtain ⟨hRl, hRb⟩ := play_rows hE
  generalize playR p T l = R at hRl hRb ⊢
  have hg := pgood (begin_good hE).1
  have hnn := right_nums (begin_good hE).2.2.2
  have hdl := hg.len
  have hl5 : (((nats R).length : Int) != (T : Int)) = false := by simp [nats, hRl]
  (refine goA ?_; repeat (refine goN fun _ => ?_; refine goA ?_))
  refine AWP.weak (Weak.virt 54 9 4 rfl) ?_
  refine AWP.loopS (σ := Nat × Loc × List Sig) (fun s => [(10, .i (s.1 : Nat)), (9, .ref 54 s.2.1 4 0 s.2.2.length), (7, .fz 1 (nats R)), (1, .i (T : Nat)), (2, .fz 4 (l.map Sig.av)), (3, .ptr 3 a3 4 0 0)]) (fun s => [(54, s.2.1, .arr 4 (s.2.2.map Sig.av)), (3, a3, .arr 4 [p.av])]) (fun s => s.1 ≤ l.length ∧ s.2.2 = freeL (l.take s.1)) (fun s => l.length - s.1) (0, ⟨0, 0, true⟩, []) (by first | (refine Weak.of ?_; (repeat (first | exact trivial | refine ⟨rfl, ?_⟩ | refine ⟨by simp [Env.get], ?_⟩)); done) | (refine Weak.pick (by repeat (first | exact trivial | refine ⟨rfl, ?_⟩ | refine ⟨by simp [Env.get], ?_⟩)) (by first | rfl | (simp [pickH, Heap.get, Heap.del, Heap.set, ofV_i, ofV_b]; done)))) ⟨by dsimp only; omega, by simp [freeL]⟩ ?_
  rintro ⟨i, aa, cc⟩ ⟨hi, hI⟩ K2 hK2
  dsimp only at hi hI hK2 ⊢
  by_cases hlt : i < l.length
  case pos =>
    have hx : l[i]? = some l[i] := by simp [hlt]
    generalize l[i] = x at hx
    have hs := free_succ hx
    rw [← hI] at hs
    have hcl : cc.length ≤ 200 := by
      have h1 := freeL_len (l.take i)
      have h2 : (l.take i).length ≤ l.length := by simp; omega
      rw [hI]; omega
    by_cases hk : x.kind = 6
    · (refine goA ?_; repeat (refine goN fun _ => ?_; refine goA ?_))
      refine hK2 (i + 1, aa, cc) _ _ (by dsimp only; omega) ⟨by dsimp only; omega, ?_⟩ (by first | (refine Weak.of ?_; (repeat (first | exact trivial | refine ⟨rfl, ?_⟩ | refine ⟨by simp [Env.get], ?_⟩)); done) | (refine Weak.pick (by repeat (first | exact trivial | refine ⟨rfl, ?_⟩ | refine ⟨by simp [Env.get], ?_⟩)) (by first | rfl | (simp [pickH, Heap.get, Heap.del, Heap.set, ofV_i, ofV_b]; done))))
      dsimp only
      rw [hs]; simp [hk]
    · (refine goA ?_; repeat (refine goN fun _ => ?_; refine goA ?_))
      refine s_app_ref rfl rfl rfl rfl (by simp) rfl (by omega) fun a2 => ?_
      (refine goA ?_; repeat (refine goN fun _ => ?_; refine goA ?_))
      refine hK2 (i + 1, a2, cc ++ [x]) _ _ (by dsimp only; omega) ⟨by dsimp only; omega, ?_⟩ ?_
      · dsimp only
        rw [hs, if_pos hk]
      · dsimp only
        have e : (cc ++ [x]).map Sig.av = cc.map Sig.av ++ [Sig.av x] := by simp
        rw [e, List.length_append]
        exact (by first | (refine Weak.of ?_; (repeat (first | exact trivial | refine ⟨rfl, ?_⟩ | refine ⟨by simp [Env.get], ?_⟩)); done) | (refine Weak.pick (by repeat (first | exact trivial | refine ⟨rfl, ?_⟩ | refine ⟨by simp [Env.get], ?_⟩)) (by first | rfl | (simp [pickH, Heap.get, Heap.del, Heap.set, ofV_i, ofV_b]; done))))
  have hi' : i = l.length := by omega
  subst hi'
  rw [List.take_length] at hI
  have hfl := freeL_len l
  rw [← hI] at hE2 hfl
  (refine goA ?_; repeat (refine goN fun _ => ?_; refine goA ?_))
  refine s_call rfl ?_
  refine CallOK.give 2 54 rfl (xs' := [p.av, .i (T : Nat), .fz 4 (cc.map Sig.av)]) ?_ (play_ok p hsm T cc (by omega)) ?_
  · simp only [List.map]
    rw [close_sigs rfl rfl 1]; rfl
  rw [show playE p T cc = 0 from hE2]
  obtain ⟨hOl, hOb⟩ := play_rows hE2
  generalize playR p T cc = O at hOl hOb ⊢
  have hl6 : (((nats O).length : Int) != (T : Int)) = false := by simp [nats, hOl]
  clear hK2
  rw [hI] at hOb
  (refine goA ?_; repeat (refine goN fun _ => ?_; refine goA ?_))
  refine AWP.loopS (σ := Nat) (fun t => [(13, .i (t : Nat)), (11, .fz 1 (nats O)), (7, .fz 1 (nats R)), (1, .i (T : Nat)), (2, .fz 4 (l.map Sig.av)), (3, .ptr 3 a3 4 0 0)]) (fun _ => [(3, a3, .arr 4 [p.av])]) (fun t => t ≤ T) (fun t => T - t) 0 (by first | (refine Weak.of ?_; (repeat (first | exact trivial | refine ⟨rfl, ?_⟩ | refine ⟨by simp [Env.get], ?_⟩)); done) | (refine Weak.pick (by repeat (first | exact trivial | refine ⟨rfl, ?_⟩ | refine ⟨by simp [Env.get], ?_⟩)) (by first | rfl | (simp [pickH, Heap.get, Heap.del, Heap.set, ofV_i, ofV_b]; done)))) (by first | omega | (dsimp only; omega)) ?_
  intro t ht K3 hK3
  try dsimp only at ht hK3 ⊢
  by_cases hlt2 : t < T
  case neg =>
    (refine goA ?_; repeat (refine goN fun _ => ?_; refine goA ?_))
    refine s_call rfl ?_
    refine call_works ?_
    (refine goA ?_; repeat (refine goN fun _ => ?_; refine goA ?_))
    exact post_ret rfl ⟨0, rfl⟩
  obtain ⟨r, r1, r2, r3⟩ := hRb t hlt2
  obtain ⟨o, o1, o2, o3⟩ := hOb t hlt2
  have hr2 : (nats R)[t]? = some (.i (r : Nat)) := get_map (fun n : Nat => AV.i (n : Nat)) r1
  have ho2 : (nats O)[t]? = some (.i (o : Nat)) := get_map (fun n : Nat => AV.i (n : Nat)) o1
  have hr8 : r < 256 := Nat.lt_of_lt_of_le r2 (Nat.pow_le_pow_right (by omega) hdl : 2 ^ p.doors.length ≤ 2 ^ 8)
  have ho8 : o < 256 := Nat.lt_of_lt_of_le o2 (Nat.pow_le_pow_right (by omega) hdl : 2 ^ p.doors.length ≤ 2 ^ 8)
  (refine goA ?_; repeat (refine goN fun _ => ?_; refine goA ?_))
  refine AWP.loopS (σ := Nat) (fun k => [(14, .i (k : Nat)), (13, .i (t : Nat)), (11, .fz 1 (nats O)), (7, .fz 1 (nats R)), (1, .i (T : Nat)), (2, .fz 4 (l.map Sig.av)), (3, .ptr 3 a3 4 0 0)]) (fun _ => [(3, a3, .arr 4 [p.av])]) (fun k => k ≤ p.doors.length) (fun k => p.doors.length - k) 0 (by first | (refine Weak.of ?_; (repeat (first | exact trivial | refine ⟨rfl, ?_⟩ | refine ⟨by simp [Env.get], ?_⟩)); done) | (refine Weak.pick (by repeat (first | exact trivial | refine ⟨rfl, ?_⟩ | refine ⟨by simp [Env.get], ?_⟩)) (by first | rfl | (simp [pickH, Heap.get, Heap.del, Heap.set, ofV_i, ofV_b]; done)))) (by first | omega | (dsimp only; omega)) ?_
  intro k hk K4 hK4
  try dsimp only at hk hK4 ⊢
  by_cases hlt3 : k < p.doors.length
  case neg =>
    (refine goA ?_; repeat (refine goN fun _ => ?_; refine goA ?_))
    refine hK3 (t + 1) _ _ (by omega) (by omega) ?_
    exact (by first | (refine Weak.of ?_; (repeat (first | exact trivial | refine ⟨rfl, ?_⟩ | refine ⟨by simp [Env.get], ?_⟩)); done) | (refine Weak.pick (by repeat (first | exact trivial | refine ⟨rfl, ?_⟩ | refine ⟨by simp [Env.get], ?_⟩)) (by first | rfl | (simp [pickH, Heap.get, Heap.del, Heap.set, ofV_i, ofV_b]; done))))
  have law := stands_law p l hnn t k
  have hra := r3 k hlt3
  have hrb := o3 k hlt3
  obtain ⟨was, hwas⟩ : ∃ w, (decide (0 < t) && shutN p l (t - 1) k) = w := ⟨_, rfl⟩
  rw [hwas, ← hra, ← hrb] at law
  refine AWP.seq' ?_
  refine AWP.seq' ?_
  (refine goI ?_; repeat (refine goN fun _ => ?_; refine goI ?_))
  refine AWP.seq' ?_
  (refine goI ?_; repeat (refine goN fun _ => ?_; refine goI ?_))
  refine AWP.seqCutQ (σ := Unit) (fun _ => [(15, .b was), (14, .i (k : Nat)), (13, .i (t : Nat)), (11, .fz 1 (nats O)), (7, .fz 1 (nats R)), (1, .i (T : Nat)), (2, .fz 4 (l.map Sig.av)), (3, .ptr 3 a3 4 0 0)]) (fun _ => [(3, a3, .arr 4 [p.av])]) ?_ ?_
  · intro K Q hK
    by_cases ht0 : t = 0
    · have hw0 : was = false := by rw [← hwas]; simp [ht0]
      subst hw0
      (refine goA ?_; repeat (refine goN fun _ => ?_; refine goA ?_))
      exact hK () _ _ (by first | (refine Weak.of ?_; (repeat (first | exact trivial | refine ⟨rfl, ?_⟩ | refine ⟨by simp [Env.get], ?_⟩)); done) | (refine Weak.pick (by repeat (first | exact trivial | refine ⟨rfl, ?_⟩ | refine ⟨by simp [Env.get], ?_⟩)) (by first | rfl | (simp [pickH, Heap.get, Heap.del, Heap.set, ofV_i, ofV_b]; done))))
    · obtain ⟨q, q1, q2, q3⟩ := hRb (t - 1) (by omega)
      have hq8 : q < 256 := Nat.lt_of_lt_of_le q2 (Nat.pow_le_pow_right (by omega) hdl : 2 ^ p.doors.length ≤ 2 ^ 8)
      have hw1 : q.testBit k = was := by rw [q3 k hlt3, ← hwas]; simp; omega
      (refine goA ?_; repeat (refine goN fun _ => ?_; refine goA ?_))
      refine s_iaddr_fz rfl rfl (by omega) (e := .i (q : Nat)) ?_ ?_
      · rw [show ((t : Int) - 1).toNat = t - 1 by omega]
        exact get_map (fun n : Nat => AV.i (n : Nat)) q1
      (refine goA ?_; repeat (refine goN fun _ => ?_; refine goA ?_))
      refine s_call rfl ?_
      refine CallOK.pure (bit_ok q k hq8 (by omega)) ?_
      rw [hw1]
      (refine goA ?_; repeat (refine goN fun _ => ?_; refine goA ?_))
      exact hK () _ _ (by first | (refine Weak.of ?_; (repeat (first | exact trivial | refine ⟨rfl, ?_⟩ | refine ⟨by simp [Env.get], ?_⟩)); done) | (refine Weak.pick (by repeat (first | exact trivial | refine ⟨rfl, ?_⟩ | refine ⟨by simp [Env.get], ?_⟩)) (by first | rfl | (simp [pickH, Heap.get, Heap.del, Heap.set, ofV_i, ofV_b]; done))))
  rintro ⟨⟩
  try dsimp only
  have fin : ∀ E' H', Weak 156 E' H' [(14, .i ((k + 1 : Nat) : Int)), (13, .i (t : Nat)), (11, .fz 1 (nats O)), (7, .fz 1 (nats R)), (1, .i (T : Nat)), (2, .fz 4 (l.map Sig.av)), (3, .ptr 3 a3 4 0 0)] [(3, a3, .arr 4 [p.av])] → K4 E' H' := fun E' H' hw => hK4 (k + 1) E' H' (by omega) (by omega) hw
  clear hra hrb hwas
  have cr : ∀ {K : AV → Heap → Prop} {H : Heap}, K (.b (r.testBit k)) H → CallOK Try.prog 19 [.i (r : Nat), .i (k : Nat)] H K := fun h => CallOK.pure (bit_ok r k hr8 (by omega)) h
  have co : ∀ {K : AV → Heap → Prop} {H : Heap}, K (.b (o.testBit k)) H → CallOK Try.prog 19 [.i (o : Nat), .i (k : Nat)] H K := fun h => CallOK.pure (bit_ok o k ho8 (by omega)) h
  have cs : ∀ {K : AV → Heap → Prop} {H : Heap}, K (.b (hasB l t 6 k)) H → CallOK Try.prog 26 [.fz 4 (l.map Sig.av), .i (t : Nat), .i (k : Nat)] H K := fun h => CallOK.pure (stands_ok l hl t k) h
  generalize r.testBit k = ra at law cr
  generalize o.testBit k = rb at law co
  generalize hasB l t 6 k = st at law cs
  cases st <;> cases was <;> cases rb <;> (simp at law; subst law)
  all_goals
    repeat ((refine goA ?_; repeat (refine goN fun _ => ?_; refine goA ?_)); refine s_call rfl ?_; first | refine cr ?_ | refine co ?_ | refine cs ?_)
    (refine goA ?_; repeat (refine goN fun _ => ?_; refine goA ?_))
    exact fin _ _ (by first | (refine Weak.of ?_; (repeat (first | exact trivial | refine ⟨rfl, ?_⟩ | refine ⟨by simp [Env.get], ?_⟩)); done) | (refine Weak.pick (by repeat (first | exact trivial | refine ⟨rfl, ?_⟩ | refine ⟨by simp [Env.get], ?_⟩)) (by first | rfl | (simp [pickH, Heap.get, Heap.del, Heap.set, ofV_i, ofV_b]; done))))
end Go.Proofs.Ytjnencdmejhmjaa.Eng
