/- CONTROL: the specification's Play; valid: walked. -/
import Derived.Test.YtjnencdmejhmjaaV5
import Derived.Test.YtjnencdmejhmjaaP6
namespace Go.Proofs.Ytjnencdmejhmjaa.Eng
open Go Go.RowKit
attribute [local irreducible] insRun planRun AWP holdsAll CallOK Weak Ins.holds
set_option linter.unusedSimpArgs false
set_option linter.unusedVariables false
set_option maxHeartbeats 4000000
theorem ors2 : ∀ (r : Fin 256) (i : Fin 8), r.val < 2 ^ i.val → (IntKind.i64.wrap (BitVec.ofInt 64 (r.val : Int) ||| BitVec.ofInt 64 (IntKind.i64.wrap (1 * 2 ^ min (IntKind.u64.wrap (i.val : Int)).toNat 64))).toNat) = ((r.val + 2 ^ i.val : Nat) : Int) := by decide +kernel
theorem or_row2 {r i : Nat} (hi : i < 8) (hr : r < 2 ^ i) : IntKind.i64.wrap (BitVec.ofInt 64 (r : Int) ||| BitVec.ofInt 64 (IntKind.i64.wrap (1 * 2 ^ min (IntKind.u64.wrap (i : Int)).toNat 64))).toNat = ((r + 2 ^ i : Nat) : Int) := by
  have h1 : (2 : Nat) ^ i ≤ 2 ^ 7 := Nat.pow_le_pow_right (by omega) (by omega)
  exact ors2 ⟨r, by omega⟩ ⟨i, hi⟩ hr
theorem row_ok (f : Frame) (hf : f.shut.length ≤ 8) : PCalls Try.prog 53 [f.av] (.i (rowF f : Nat)) := by
  refine PCalls.body fn53 _ (by simp) ?_
  unfold ir53
  (refine goA ?_; repeat (refine goN fun _ => ?_; refine goA ?_))
  rename_i a1
  refine AWP.loopS (σ := Nat) (fun k => [(4, .i (k : Nat)), (3, .i (rowTo f.shut k : Nat)), (1, .ptr 1 a1 5 0 0)]) (fun _ => [(1, a1, .arr 5 [f.av])]) (fun k => k ≤ f.shut.length) (fun k => f.shut.length - k) 0 (by first | (refine Weak.of ?_; (repeat (first | exact trivial | refine ⟨rfl, ?_⟩ | refine ⟨by simp [Env.get], ?_⟩)); done) | (refine Weak.pick (by repeat (first | exact trivial | refine ⟨rfl, ?_⟩ | refine ⟨by simp [Env.get], ?_⟩)) (by first | rfl | (simp [pickH, Heap.get, Heap.del, Heap.set, ofV_i, ofV_b]; done)))) (by first | omega | (dsimp only; omega)) ?_
  intro k hk K2 hK2
  try dsimp only at hk hK2 ⊢
  by_cases hlt : k < f.shut.length
  · have h1 : f.shut[k]? = some (rdB f.shut k) := rdB_get hlt
    have hr := (rowTo_bit f.shut k k).1
    have ho := or_row2 (i := k) (by omega) hr
    have fin : ∀ v E' H', rowTo f.shut (k + 1) = v → Weak 23 E' H' [(4, .i ((k + 1 : Nat) : Int)), (3, .i (v : Nat)), (1, .ptr 1 a1 5 0 0)] [(1, a1, .arr 5 [f.av])] → K2 E' H' := by
      rintro v E' H' rfl hw
      exact hK2 (k + 1) E' H' (by omega) (by omega) hw
    (refine goA ?_; repeat (refine goN fun _ => ?_; refine goA ?_))
    refine AWP.cond rfl (fun hc => ?_) (fun hc => ?_)
    · (refine goA ?_; repeat (refine goN fun _ => ?_; refine goA ?_))
      refine fin (rowTo f.shut k + 2 ^ k) _ _ (by simp only [rowTo]; rw [if_pos hc]) ?_
      rw [← ho]
      exact (by first | (refine Weak.of ?_; (repeat (first | exact trivial | refine ⟨rfl, ?_⟩ | refine ⟨by simp [Env.get], ?_⟩)); done) | (refine Weak.pick (by repeat (first | exact trivial | refine ⟨rfl, ?_⟩ | refine ⟨by simp [Env.get], ?_⟩)) (by first | rfl | (simp [pickH, Heap.get, Heap.del, Heap.set, ofV_i, ofV_b]; done))))
    · (refine goA ?_; repeat (refine goN fun _ => ?_; refine goA ?_))
      refine fin (rowTo f.shut k) _ _ (by simp only [rowTo]; rw [if_neg (by simp [hc])]) ?_
      exact (by first | (refine Weak.of ?_; (repeat (first | exact trivial | refine ⟨rfl, ?_⟩ | refine ⟨by simp [Env.get], ?_⟩)); done) | (refine Weak.pick (by repeat (first | exact trivial | refine ⟨rfl, ?_⟩ | refine ⟨by simp [Env.get], ?_⟩)) (by first | rfl | (simp [pickH, Heap.get, Heap.del, Heap.set, ofV_i, ofV_b]; done))))
  · have hk' : k = f.shut.length := by omega
    subst hk'
    (refine goA ?_; repeat (refine goN fun _ => ?_; refine goA ?_))
    refine post_ret rfl ⟨0, ?_⟩
    rfl
theorem close_nats {H : Heap} {h n sz : Nat} {a : Loc} {R : List Nat} (hH : H.get h = some (a, .arr sz (nats R))) (hn : n = R.length) (k : Nat) : closeAV H (k + 1) (.ref h a sz 0 n) = .fz sz (nats R) :=
  close_ints (g := fun n : Nat => AV.i (n : Nat)) (xs := R) (fun H k => by funext n; cases k <;> rfl) hH hn k
theorem begin_sens {p : Panel} {ticks : Int} {l : List Sig} (h : beginE p ticks l = 0) : ∀ x ∈ l, x.kind = 1 → 0 ≤ x.number ∧ x.number < p.sensors := fun x hx e => (right_num ((begin_good h).2.2.2 x hx)).1 (.inl e)
theorem rplay_ok (p : Panel) (hsm : p.small) (ticks : Int) (l : List Sig) (hl : l.length ≤ 9223372036854775807) : PCalls Try.prog 28 [p.av, .i ticks, .fz 4 (l.map Sig.av)] (.tup [.fz 1 (nats (rplayR p ticks l)), .i (beginE p ticks l)]) := by
  refine PCalls.body fn28 _ (by simp) ?_
  unfold ir28
  (refine goA ?_; repeat (refine goN fun _ => ?_; refine goA ?_))
  refine s_call rfl ?_
  refine CallOK.pure (checkSignals_ok p hsm ticks l hl) ?_
  (refine goA ?_; repeat (refine goN fun _ => ?_; refine goA ?_))
  refine AWP.cond rfl (fun h1 => ?_) (fun h1 => ?_)
  · have hE : ¬ beginE p ticks l = 0 := by simpa using h1
    refine AWP.seq' ?_
    (refine goI ?_; repeat (refine goN fun _ => ?_; refine goI ?_))
    refine AWP.weak (Weak.nilfz 6 1 rfl) ?_
    (refine goA ?_; repeat (refine goN fun _ => ?_; refine goA ?_))
    refine post_ret rfl ⟨0, ?_⟩
    rw [rplayR, if_neg hE]; rfl
  have hE : beginE p ticks l = 0 := by simpa using h1
  obtain ⟨T, rfl⟩ : ∃ T : Nat, ticks = T := ⟨ticks.toNat, by have := (begin_good hE).2.1; omega⟩
  have hT : T ≤ 1000 := by have := (begin_good hE).2.1; omega
  have hg := pgood (begin_good hE).1
  have hdn := hg.len
  rw [hE]
  (refine goA ?_; repeat (refine goN fun _ => ?_; refine goA ?_))
  refine s_call rfl ?_
  refine CallOK.pure (frames_ok hg l hl (right_nums (begin_good hE).2.2.2) (begin_sens hE) T hT) ?_
  (refine goA ?_; repeat (refine goN fun _ => ?_; refine goA ?_))
  refine AWP.weak (Weak.virt 35 10 1 rfl) ?_
  refine AWP.loopS (σ := Nat × Loc) (fun s => [(11, .i (s.1 : Nat)), (10, .ref 35 s.2 1 0 s.1), (9, .fz 5 ((framesTo p l T).map Frame.av)), (1, .i (T : Nat))]) (fun s => [(35, s.2, .arr 1 (nats ((framesTo p l s.1).map rowF)))]) (fun s => s.1 ≤ T) (fun s => T - s.1) (0, ⟨0, 0, true⟩) (by first | (refine Weak.of ?_; (repeat (first | exact trivial | refine ⟨rfl, ?_⟩ | refine ⟨by simp [Env.get], ?_⟩)); done) | (refine Weak.pick (by repeat (first | exact trivial | refine ⟨rfl, ?_⟩ | refine ⟨by simp [Env.get], ?_⟩)) (by first | rfl | (simp [pickH, Heap.get, Heap.del, Heap.set, ofV_i, ofV_b]; done)))) (by dsimp only; omega) ?_
  rintro ⟨t, aa⟩ ht K2 hK2
  dsimp only at ht hK2 ⊢
  by_cases hlt : t < T
  · have hf := framesTo_get p l hlt
    (refine goA ?_; repeat (refine goN fun _ => ?_; refine goA ?_))
    refine s_call rfl ?_
    refine CallOK.pure (row_ok (frameAt p l t) (by simp [frameAt]; omega)) ?_
    (refine goA ?_; repeat (refine goN fun _ => ?_; refine goA ?_))
    refine s_app_ref rfl rfl rfl rfl (by simp [nats, framesTo_len]) rfl (by omega) fun a2 => ?_
    (refine goA ?_; repeat (refine goN fun _ => ?_; refine goA ?_))
    refine hK2 (t + 1, a2) _ _ (by dsimp only; omega) (by dsimp only; omega) ?_
    have e : nats ((framesTo p l (t + 1)).map rowF) = nats ((framesTo p l t).map rowF) ++ [.i (rowF (frameAt p l t) : Nat)] := by simp [framesTo_succ, nats]
    rw [e]
    exact (by first | (refine Weak.of ?_; (repeat (first | exact trivial | refine ⟨rfl, ?_⟩ | refine ⟨by simp [Env.get], ?_⟩)); done) | (refine Weak.pick (by repeat (first | exact trivial | refine ⟨rfl, ?_⟩ | refine ⟨by simp [Env.get], ?_⟩)) (by first | rfl | (simp [pickH, Heap.get, Heap.del, Heap.set, ofV_i, ofV_b]; done))))
  · have ht' : t = T := by omega
    subst ht'
    (refine goA ?_; repeat (refine goN fun _ => ?_; refine goA ?_))
    refine post_ret rfl ⟨2, ?_⟩
    show AV.tup [closeAV _ 1 _, closeAV _ 1 _] = _
    rw [close_nats rfl (by simp [framesTo_len]) 0, rplayR, if_pos hE]; rfl
theorem valid_ok (p : Panel) (hsm : p.small) (ticks : Int) (l : List Sig) (hl : l.length ≤ 9223372036854775807) : PCalls Try.prog 22 [p.av, .i ticks, .fz 4 (l.map Sig.av)] (.b (decide (beginE p ticks l = 0))) := by
  refine PCalls.body fn22 _ (by simp) ?_
  unfold ir22
  (refine goA ?_; repeat (refine goN fun _ => ?_; refine goA ?_))
  refine s_call rfl ?_
  refine CallOK.pure (rplay_ok p hsm ticks l hl) ?_
  (refine goA ?_; repeat (refine goN fun _ => ?_; refine goA ?_))
  refine post_ret rfl ⟨0, ?_⟩
  rfl
end Go.Proofs.Ytjnencdmejhmjaa.Eng
