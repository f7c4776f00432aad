/- CONTROL: the law ControlSilence, walked. -/
import Derived.Test.YtjnencdmejhmjaaW3
import Derived.Test.YtjnencdmejhmjaaW13
import Derived.Test.YtjnencdmejhmjaaP1
namespace Go.Proofs.Ytjnencdmejhmjaa.Eng
open Go Go.RowKit
attribute [local irreducible] insRun planRun AWP holdsAll CallOK Weak
set_option linter.unusedSimpArgs false
set_option linter.unusedVariables false
set_option maxHeartbeats 4000000
theorem s_remT {P : Program} {d : Nat} {x y : Opd} {l : List Ins} {E : Env} {H : Heap} {K : Env → Heap → Prop} {m n : Int} (hx : E.opd x = some (.i m)) (hy : E.opd y = some (.i n)) (hn : n ≠ 0) (k : insRun P l ((d, .i (m.tmod n)) :: E) H K) : insRun P (⟨some d, .bin .rem x y, none⟩ :: l) E H K :=
  s_bin hx hy (by simp only [binVal, intBin, if_true, if_neg hn]) k
def lossL (f : Nat) (j : Nat) : List Int := (List.range j).map fun i => ((f + i : Nat) : Int)
theorem lossL_succ (f j : Nat) : lossL f (j + 1) = lossL f j ++ [((f + j : Nat) : Int)] := by simp [lossL, List.range_succ]
theorem tmod_nat (a : Int) (n : Nat) (hn : 0 < n) : -(n : Int) < a.tmod n ∧ a.tmod n < n ∧ ∃ k : Nat, k < n ∧ (a.tmod n + n) % n = k := by
  have h1 : a.tmod n < n := Int.tmod_lt_of_pos _ (by omega)
  have h2 : -(n : Int) < a.tmod n := by
    have h := Int.tmod_lt_of_pos (-a) (show (0 : Int) < n by omega)
    rw [Int.neg_tmod] at h; omega
  refine ⟨h2, h1, ((a.tmod n + n) % n).toNat, ?_, ?_⟩
  · have h3 : 0 ≤ (a.tmod n + n) % n := Int.emod_nonneg _ (by omega)
    have h4 : (a.tmod n + n) % n < n := Int.emod_lt_of_pos _ (by omega)
    omega
  · have h3 : 0 ≤ (a.tmod n + n) % n := Int.emod_nonneg _ (by omega)
    omega
theorem silence_ok (p : Panel) (hsm : p.small) (l : List Sig) (hl : l.length ≤ 9223372036854775807) (wt wd : Int) : PCalls Try.prog 3 [p.av, .fz 4 (l.map Sig.av), .agg [.i wt, .i wd]] (.b true) := by
  refine PCalls.body fn3 _ (by simp) ?_
  unfold ir3
  (refine goA ?_; repeat (refine goN fun _ => ?_; refine goA ?_))
  refine s_call rfl ?_
  refine CallOK.pure (rcheck_ok p hsm) ?_
  (refine goA ?_; repeat (refine goN fun _ => ?_; refine goA ?_))
  refine s_if rfl (fun h1 => ?_) (fun h1 => ?_)
  case refine_2 =>
    rw [h1]
    (refine goA ?_; repeat (refine goN fun _ => ?_; refine goA ?_))
    refine s_call rfl ?_
    refine CallOK.pure works_ok ?_
    (refine goA ?_; repeat (refine goN fun _ => ?_; refine goA ?_))
    refine post_ret rfl ⟨0, rfl⟩
  rw [h1]
  have hb : badPanel p = false := by
    cases hb : badPanel p
    · rfl
    · simp [checkI, hb] at h1
  have hw := goodW_of hb
  (refine goA ?_; repeat (refine goN fun _ => ?_; refine goA ?_))
  refine s_if rfl (fun h2 => ?_) (fun h2 => ?_)
  case refine_2 =>
    rw [h2]
    (refine goA ?_; repeat (refine goN fun _ => ?_; refine goA ?_))
    refine s_call rfl ?_
    refine CallOK.pure works_ok ?_
    (refine goA ?_; repeat (refine goN fun _ => ?_; refine goA ?_))
    refine post_ret rfl ⟨0, rfl⟩
  rw [h2]
  have hdn : 0 < p.doors.length ∧ p.doors.length ≤ 8 := by
    have h3 := hw.2.2.2
    simp at h2
    have : p.doors.length ≠ 0 := fun h => h2 (List.eq_nil_of_length_eq_zero h)
    omega
  (refine goA ?_; repeat (refine goN fun _ => ?_; refine goA ?_))
  refine AWP.cond rfl (fun h3 => ?_) (fun h3 => ?_)
  · (refine goA ?_; repeat (refine goN fun _ => ?_; refine goA ?_))
    refine s_call rfl ?_
    refine CallOK.pure works_ok ?_
    (refine goA ?_; repeat (refine goN fun _ => ?_; refine goA ?_))
    refine post_ret rfl ⟨0, rfl⟩
  have hl2 : l.length ≤ 150 := by simp at h3; omega
  obtain ⟨u1, u2, k, hk, hku⟩ := tmod_nat wd p.doors.length hdn.1
  have hten : -(10 : Int) < wt.tmod 10 ∧ wt.tmod 10 < 10 ∧ ∃ k : Nat, k < 10 ∧ (wt.tmod 10 + 10) % 10 = k := tmod_nat wt 10 (by omega)
  obtain ⟨f1, f2, f, hf, hfu⟩ := hten
  have hx : p.doors[k]? = some p.doors[k] := by simp
  have hgw := hw.1 p.doors[k] (by simp)
  have hwo : waitOf p k = p.doors[k].wait := by simp [waitOf, hx]
  generalize p.doors[k] = g at hx hgw hwo
  obtain ⟨w, hgw2⟩ : ∃ w : Nat, g.wait = w := ⟨g.wait.toNat, by omega⟩
  have hlm : ((p.doors.map Gate.av).length : Int) = p.doors.length := by simp
  (refine goA ?_; repeat (refine goN fun _ => ?_; refine goA ?_))
  refine s_remT rfl rfl (by omega) ?_
  rw [hlm]
  (refine goA ?_; repeat (refine goN fun _ => ?_; refine goA ?_))
  rw [hlm, hku, hfu]
  (refine goA ?_; repeat (refine goN fun _ => ?_; refine goA ?_))
  rename_i a3 a5
  have fin : ∀ K : AV → Heap → Prop, ∀ H, K (.b true) H → CallOK Try.prog 16 [] H K := fun K H h => CallOK.pure works_ok h
  refine AWP.weak (Weak.virt 66 10 1 rfl) ?_
  refine AWP.loopS (σ := Nat × Loc) (fun s => [(11, .i ((f + s.1 : Nat) : Int)), (10, .ref 66 s.2 1 0 s.1), (8, .i (f : Nat)), (9, .i (w : Nat)), (7, .i (k : Nat)), (3, .ptr 3 a3 4 0 0), (1, .fz 4 (l.map Sig.av))]) (fun s => [(3, a3, .arr 4 [p.av]), (66, s.2, .arr 1 ((lossL f s.1).map .i))]) (fun s => s.1 ≤ w) (fun s => w - s.1) (0, ⟨0, 0, true⟩) ?_ (by dsimp only; omega) ?_
  · rw [hgw2]; exact (by refine Weak.pick ?_ rfl; repeat (first | exact trivial | refine ⟨rfl, ?_⟩))
  rintro ⟨j, a66⟩ hj K2 hK2
  dsimp only at hj hK2 ⊢
  by_cases hlt : j < w
  · (refine goA ?_; repeat (refine goN fun _ => ?_; refine goA ?_))
    refine s_app_ref rfl rfl rfl rfl (by simp [lossL]) rfl (by omega) fun a2 => ?_
    (refine goA ?_; repeat (refine goN fun _ => ?_; refine goA ?_))
    refine hK2 (j + 1, a2) _ _ (by dsimp only; omega) (by dsimp only; omega) ?_
    dsimp only
    simp only [lossL_succ, List.map_append, List.map_cons, List.map_nil]
    exact (by first | (refine Weak.of ?_; (repeat (first | exact trivial | refine ⟨rfl, ?_⟩ | refine ⟨by simp [Env.get], ?_⟩)); done) | (refine Weak.pick (by repeat (first | exact trivial | refine ⟨rfl, ?_⟩ | refine ⟨by simp [Env.get], ?_⟩)) (by first | rfl | (simp [pickH, Heap.get, Heap.del, Heap.set, ofV_i, ofV_b]; done))))
  · have hj' : j = w := by omega
    subst hj'
    (refine goA ?_; repeat (refine goN fun _ => ?_; refine goA ?_))
    refine s_call rfl ?_
    refine CallOK.give 2 66 rfl (xs' := [.fz 4 (l.map Sig.av), .i (k : Nat), .fz 1 ((lossL f j).map .i)]) ?_ (with_ok l k (lossL f j) (by omega) (by simp [lossL]; omega)) ?_
    · have q := close_ints (sz := 1) (n := j) elem_i' (H := [(66, a66, .arr 1 ((lossL f j).map .i))]) (h := 66) (a := a66) rfl (by simp [lossL]) 1
      simp only [List.map]; rw [q]; rfl
    (refine goA ?_; repeat (refine goN fun _ => ?_; refine goA ?_))
    refine s_call rfl ?_
    have hwl : (withL l k (lossL f j)).length ≤ 9223372036854775807 := by simp [withL, lossL]; omega
    refine CallOK.pure (play_ok p hsm ((f : Int) + (j : Int)) (withL l k (lossL f j)) hwl) ?_
    (refine goA ?_; repeat (refine goN fun _ => ?_; refine goA ?_))
    refine AWP.cond rfl (fun h4 => ?_) (fun h4 => ?_)
    · (refine goA ?_; repeat (refine goN fun _ => ?_; refine goA ?_))
      refine s_call rfl ?_
      refine fin _ _ ?_
      (refine goA ?_; repeat (refine goN fun _ => ?_; refine goA ?_))
      refine post_ret rfl ⟨0, rfl⟩
    have hE : beginE p ((f : Int) + (j : Int)) (withL l k (lossL f j)) = 0 := by simpa [playE] using h4
    have hT : ((f : Int) + (j : Int)).toNat = f + j := by omega
    have hR : playR p ((f : Int) + (j : Int)) (withL l k (lossL f j)) = (outTo p (ticksTo p (withL l k (lossL f j)) (f + j)) (f + j)).2 := by
      rw [playR, if_pos hE, hT, inAll, ticksTo_len]
    have hlen : (ticksTo p (withL l k (lossL f j)) (f + j)).length = f + j := ticksTo_len _ _ _
    obtain ⟨b1, b2⟩ := out_bit p (ticksTo p (withL l k (lossL f j)) (f + j)) k hk (f + j) (by omega)
    obtain ⟨r, r1, r2, r3⟩ := b2 (f + j - 1) (by omega)
    have hsil : (doorIn p (ticksTo p (withL l k (lossL f j)) (f + j)) (f + j) k).shut = false := by
      refine silence p hw _ k hk f j (by omega) (by omega) (by omega) fun t x ht1 ht2 hx2 => ?_
      rw [ticksTo_get p _ _ t (by omega)] at hx2
      injection hx2 with hx2
      subst hx2
      refine tick_heard p _ t _ k hk ⟨⟨t, 3, k, 0⟩, ?_, rfl, rfl, rfl⟩
      simp only [withL, List.mem_append, List.mem_map]
      refine .inr ⟨(t : Int), ?_, rfl⟩
      simp only [lossL, List.mem_map, List.mem_range]
      exact ⟨t - f, by omega, by omega⟩
    rw [show f + j - 1 + 1 = f + j by omega, hsil] at r2
    have hr8 : r < 256 := Nat.lt_of_lt_of_le r3 (Nat.pow_le_pow_right (by omega) hdn.2 : 2 ^ p.doors.length ≤ 2 ^ 8)
    rw [hR]
    generalize (outTo p (ticksTo p (withL l k (lossL f j)) (f + j)) (f + j)).2 = R at b1 r1
    have hl5 : (((nats R).length : Int) == (f : Int) + (j : Int)) = true := by simp [nats, b1]
    (refine goA ?_; repeat (refine goN fun _ => ?_; refine goA ?_))
    refine s_iaddr_fz rfl rfl (by omega) (e := .i (r : Nat)) ?_ ?_
    · have : ((f : Int) + (j : Int) - 1).toNat = f + j - 1 := by omega
      rw [this]
      exact get_map (fun n : Nat => AV.i (n : Nat)) r1
    (refine goA ?_; repeat (refine goN fun _ => ?_; refine goA ?_))
    refine s_call rfl ?_
    refine CallOK.pure (bit_ok r k hr8 (by omega)) ?_
    rw [r2]
    (refine goA ?_; repeat (refine goN fun _ => ?_; refine goA ?_))
    refine s_call rfl ?_
    refine fin _ _ ?_
    (refine goA ?_; repeat (refine goN fun _ => ?_; refine goA ?_))
    refine post_ret rfl ⟨0, rfl⟩
end Go.Proofs.Ytjnencdmejhmjaa.Eng
