/- CONTROL: Frees, bit, With, Example. -/
import Derived.Test.YtjnencdmejhmjaaW2
import Derived.Test.YtjnencdmejhmjaaS3
import Derived.Test.YtjnencdmejhmjaaEB
namespace Go.Proofs.Ytjnencdmejhmjaa.Eng
open Go Go.RowKit
attribute [local irreducible] insRun planRun AWP holdsAll CallOK Weak Ins.holds
set_option linter.unusedSimpArgs false
set_option linter.unusedVariables false
set_option maxHeartbeats 4000000
theorem frees_ok (p : Panel) (h : GoodW p) : PCalls Try.prog 47 [p.av] (.i (freesI p)) := by
  obtain ⟨h1, h2, h3, h4⟩ := id h
  have hb := waitTo_bnd h p.doors.length
  refine PCalls.body fn47 _ (by simp) ?_
  unfold ir47
  (refine goA ?_; repeat (refine goN fun _ => ?_; refine goA ?_))
  refine AWP.loopS (σ := Nat × Loc) (fun s => [(9, .i (s.1 : Nat)), (8, .i (p.doors.length : Nat)), (7, .fz 2 (p.doors.map Gate.av)), (3, .i (waitTo p s.1)), (1, .ptr 1 s.2 4 0 0)]) (fun s => [(1, s.2, .arr 4 [p.av])]) (fun s => s.1 ≤ p.doors.length) (fun s => p.doors.length - s.1) (0, _) (by first | (refine Weak.of ?_; (repeat (first | exact trivial | refine ⟨rfl, ?_⟩ | refine ⟨by simp [Env.get], ?_⟩)); done) | (refine Weak.pick (by repeat (first | exact trivial | refine ⟨rfl, ?_⟩ | refine ⟨by simp [Env.get], ?_⟩)) (by first | rfl | (simp [pickH, Heap.get, Heap.del, Heap.set, ofV_i, ofV_b]; done)))) (by dsimp only; omega) ?_
  rintro ⟨k, aa⟩ hk K2 hK2
  dsimp only at hk hK2 ⊢
  by_cases hlt : k < p.doors.length
  · have hg : p.doors[k]? = some p.doors[k] := by simp [hlt]
    generalize p.doors[k] = g at hg
    have hw : ∀ w E' H', waitTo p (k + 1) = w → Weak 29 E' H' [(9, .i ((k + 1 : Nat) : Int)), (8, .i (p.doors.length : Nat)), (7, .fz 2 (p.doors.map Gate.av)), (3, .i w), (1, .ptr 1 aa 4 0 0)] [(1, aa, .arr 4 [p.av])] → K2 E' H' := by
      rintro w E' H' rfl hw
      exact hK2 (k + 1, aa) E' H' (by dsimp only; omega) (by dsimp only; omega) hw
    (refine goA ?_; repeat (refine goN fun _ => ?_; refine goA ?_))
    refine AWP.cond rfl (fun hc => ?_) (fun hc => ?_)
    · have hp : (g.whens.length : Int) > 0 := by simpa using hc
      (refine goA ?_; repeat (refine goN fun _ => ?_; refine goA ?_))
      refine hw (if g.wait > waitTo p k then g.wait else waitTo p k) _ _ ?_ (by first | (refine Weak.of ?_; (repeat (first | exact trivial | refine ⟨rfl, ?_⟩ | refine ⟨by simp [Env.get], ?_⟩)); done) | (refine Weak.pick (by repeat (first | exact trivial | refine ⟨rfl, ?_⟩ | refine ⟨by simp [Env.get], ?_⟩)) (by first | rfl | (simp [pickH, Heap.get, Heap.del, Heap.set, ofV_i, ofV_b]; done))))
      simp only [waitTo, hg]; rw [if_pos hp]
    · have hp : ¬ (g.whens.length : Int) > 0 := by simpa using hc
      (refine goA ?_; repeat (refine goN fun _ => ?_; refine goA ?_))
      refine hw (waitTo p k) _ _ ?_ (by first | (refine Weak.of ?_; (repeat (first | exact trivial | refine ⟨rfl, ?_⟩ | refine ⟨by simp [Env.get], ?_⟩)); done) | (refine Weak.pick (by repeat (first | exact trivial | refine ⟨rfl, ?_⟩ | refine ⟨by simp [Env.get], ?_⟩)) (by first | rfl | (simp [pickH, Heap.get, Heap.del, Heap.set, ofV_i, ofV_b]; done))))
      simp only [waitTo, hg]; rw [if_neg hp]
  · have hk' : k = p.doors.length := by omega
    subst hk'
    (refine goA ?_; repeat (refine goN fun _ => ?_; refine goA ?_))
    refine AWP.cond rfl (fun hc => ?_) (fun hc => ?_)
    · have hz : waitTo p p.doors.length = 0 := by simpa using hc
      (refine goA ?_; repeat (refine goN fun _ => ?_; refine goA ?_))
      refine post_ret rfl ⟨0, ?_⟩
      rw [freesI, if_pos hz]; rfl
    · have hz : ¬ waitTo p p.doors.length = 0 := by simpa using hc
      (refine goA ?_; repeat (refine goN fun _ => ?_; refine goA ?_))
      refine post_ret rfl ⟨0, ?_⟩
      rw [freesI, if_neg hz]; rfl
theorem Frees_ok (p : Panel) (hsm : p.small) : PCalls Try.prog 21 [p.av] (.tup [.i (freesV p), .i (checkI p)]) := by
  refine PCalls.body fn21 _ (by simp) ?_
  unfold ir21
  (refine goA ?_; repeat (refine goN fun _ => ?_; refine goA ?_))
  refine s_call rfl ?_
  refine CallOK.pure (check_ok p hsm) ?_
  (refine goA ?_; repeat (refine goN fun _ => ?_; refine goA ?_))
  refine AWP.cond rfl (fun h1 => ?_) (fun h1 => ?_)
  · have hb : badPanel p = true := by
      cases hb : badPanel p
      · simp [checkI, hb] at h1
      · rfl
    (refine goA ?_; repeat (refine goN fun _ => ?_; refine goA ?_))
    refine post_ret rfl ⟨0, ?_⟩
    rw [freesV, hb]; rfl
  · have hb : badPanel p = false := by
      cases hb : badPanel p
      · rfl
      · simp [checkI, hb] at h1
    (refine goA ?_; repeat (refine goN fun _ => ?_; refine goA ?_))
    refine s_call rfl ?_
    refine CallOK.pure (frees_ok p (goodW_of hb)) ?_
    (refine goA ?_; repeat (refine goN fun _ => ?_; refine goA ?_))
    refine post_ret rfl ⟨0, ?_⟩
    rw [freesV, checkI, hb]; rfl
theorem bits : ∀ (r : Fin 256) (k : Fin 8), (IntKind.i64.wrap (BitVec.ofInt 64 ((r.val : Int).fdiv (2 ^ min (IntKind.u64.wrap (k.val : Int)).toNat 64)) &&& BitVec.ofInt 64 1).toNat == 1) = r.val.testBit k.val ∧ ¬ IntKind.u64.wrap (k.val : Int) < 0 := by decide +kernel
theorem bit_ok (r k : Nat) (hr : r < 256) (hk : k < 8) : PCalls Try.prog 19 [.i (r : Nat), .i (k : Nat)] (.b (r.testBit k)) := by
  obtain ⟨h1, h2⟩ := bits ⟨r, hr⟩ ⟨k, hk⟩
  dsimp only at h1 h2
  refine PCalls.body fn19 _ (by simp) ?_
  unfold ir19
  (refine goA ?_; repeat (refine goN fun _ => ?_; refine goA ?_))
  refine post_ret rfl ⟨0, ?_⟩
  rw [← h1]; rfl
theorem with_ok (l : List Sig) (door : Int) (ts : List Int) (hl : l.length ≤ 1000000) (ht : ts.length ≤ 1000000) : PCalls Try.prog 18 [.fz 4 (l.map Sig.av), .i door, .fz 1 (ts.map .i)] (.fz 4 ((withL l door ts).map Sig.av)) := by
  refine PCalls.body fn18 _ (by simp) ?_
  unfold ir18
  (refine goA ?_; repeat (refine goN fun _ => ?_; refine goA ?_))
  refine s_app_nfz rfl rfl (by simp; omega) fun a0 => ?_
  (refine goA ?_; repeat (refine goN fun _ => ?_; refine goA ?_))
  refine AWP.weak (Weak.relab 25 7 rfl rfl) ?_
  refine AWP.loopS (σ := Nat × Loc) (fun s => [(8, .i (s.1 : Nat)), (1, .i door), (2, .fz 1 (ts.map .i)), (7, .ref 25 s.2 4 0 (l.length + s.1))]) (fun s => [(25, s.2, .arr 4 ((withL l door (ts.take s.1)).map Sig.av))]) (fun s => s.1 ≤ ts.length) (fun s => ts.length - s.1) (0, a0) ?_ (by dsimp only; omega) ?_
  · refine Weak.pick ⟨rfl, rfl, rfl, by simp [Env.get, Env.set], trivial⟩ ?_
    simp [pickH, Heap.get, withL]
  rintro ⟨k, aa⟩ hk K2 hK2
  dsimp only at hk hK2 ⊢
  by_cases hlt : k < ts.length
  · have hg : ts[k]? = some ts[k] := by simp [hlt]
    have htk : ts.take (k + 1) = ts.take k ++ [ts[k]] := List.take_succ_eq_append_getElem hlt
    generalize ts[k] = v at hg htk
    (refine goA ?_; repeat (refine goN fun _ => ?_; refine goA ?_))
    refine s_app_ref rfl rfl rfl rfl (by simp [withL]; omega) rfl (by omega) fun a2 => ?_
    (refine goA ?_; repeat (refine goN fun _ => ?_; refine goA ?_))
    refine hK2 (k + 1, a2) _ _ (by dsimp only; omega) (by dsimp only; omega) ?_
    dsimp only
    have e : (withL l door (ts.take (k + 1))).map Sig.av = (withL l door (ts.take k)).map Sig.av ++ [Sig.av ⟨v, 3, door, 0⟩] := by simp [withL, htk]
    rw [e]
    exact (by first | (refine Weak.of ?_; (repeat (first | exact trivial | refine ⟨rfl, ?_⟩ | refine ⟨by simp [Env.get], ?_⟩)); done) | (refine Weak.pick (by repeat (first | exact trivial | refine ⟨rfl, ?_⟩ | refine ⟨by simp [Env.get], ?_⟩)) (by first | rfl | (simp [pickH, Heap.get, Heap.del, Heap.set, ofV_i, ofV_b]; done))))
  · have hk' : k = ts.length := by omega
    subst hk'
    (refine goA ?_; repeat (refine goN fun _ => ?_; refine goA ?_))
    refine post_ret rfl ⟨1, ?_⟩
    rw [List.take_length]
    refine close_ints (g := Sig.av) (xs := withL l door ts) (fun H k => ?_) rfl (by simp [withL]) 0
    funext x; cases k <;> rfl
end Go.Proofs.Ytjnencdmejhmjaa.Eng
