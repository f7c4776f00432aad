/- CONTROL: begin, walked. -/
import Derived.Test.YtjnencdmejhmjaaS3
import Derived.Test.YtjnencdmejhmjaaD0
import Derived.Test.YtjnencdmejhmjaaD1
import Derived.Test.YtjnencdmejhmjaaW9
import Derived.Test.YtjnencdmejhmjaaEB
namespace Go.Proofs.Ytjnencdmejhmjaa.Eng
open Go Go.RowKit
attribute [local irreducible] insRun planRun AWP holdsAll CallOK Weak Ins.holds
set_option linter.unusedSimpArgs false
set_option linter.unusedVariables false
set_option maxHeartbeats 4000000
theorem begin_none {p : Panel} {ticks : Int} {l : List Sig} {e : Int} (h : beginE p ticks l = e) (he : e ≠ 0) : AV.tup [.fz 6 [], .i e] = .tup [.fz 6 ((beginT p ticks l).map Tick.av), .i (beginE p ticks l)] := by
  subst h
  simp [beginT, he]
def dl : Loc := ⟨0, 0, true⟩
theorem rep_i (n : Nat) (z : Int) : List.replicate n (AV.i z) = (List.replicate n z).map AV.i := by simp
theorem rep_b (n : Nat) (z : Bool) : List.replicate n (AV.b z) = (List.replicate n z).map AV.b := by simp
theorem begin_ok (p : Panel) (hsm : p.small) (ticks : Int) (l : List Sig) (hl : l.length ≤ 9223372036854775807) : PCalls Try.prog 45 [p.av, .i ticks, .fz 4 (l.map Sig.av)] (.tup [.fz 6 ((beginT p ticks l).map Tick.av), .i (beginE p ticks l)]) := by
  refine PCalls.body fn45 _ (by simp) ?_
  unfold ir45
  (refine goA ?_; repeat (refine goN fun _ => ?_; refine goA ?_))
  refine s_call rfl ?_
  refine CallOK.pure (check_ok p hsm) ?_
  (refine goA ?_; repeat (refine goN fun _ => ?_; refine goA ?_))
  refine AWP.cond rfl (fun h1 => ?_) (fun h1 => ?_)
  · have hb : badPanel p = true := by
      cases hb : badPanel p
      · simp [checkI, hb] at h1
      · rfl
    have hE : beginE p ticks l = 80 := by simp [beginE, hb]
    rw [show checkI p = 80 by simp [checkI, hb]]
    refine AWP.seq' ?_
    (refine goI ?_; repeat (refine goN fun _ => ?_; refine goI ?_))
    refine AWP.weak (Weak.nilfz 6 6 rfl) ?_
    (refine goA ?_; repeat (refine goN fun _ => ?_; refine goA ?_))
    refine post_ret rfl ⟨0, begin_none hE (by decide)⟩
  have hb : badPanel p = false := by
    cases hb : badPanel p
    · rfl
    · simp [checkI, hb] at h1
  obtain ⟨hg, hs⟩ := good_of hb
  clear h1
  (refine goA ?_; repeat (refine goN fun _ => ?_; refine goA ?_))
  refine s_call rfl ?_
  refine CallOK.pure (within_ok ..) ?_
  (refine goA ?_; repeat (refine goN fun _ => ?_; refine goA ?_))
  refine AWP.cond rfl (fun h1 => ?_) (fun h1 => ?_)
  · have hr : inR ticks 0 1000 = false := by simpa using h1
    have hE : beginE p ticks l = 1 := by simp [beginE, hb, hr]
    refine AWP.seq' ?_
    (refine goI ?_; repeat (refine goN fun _ => ?_; refine goI ?_))
    refine AWP.weak (Weak.nilfz 6 6 rfl) ?_
    (refine goA ?_; repeat (refine goN fun _ => ?_; refine goA ?_))
    refine post_ret rfl ⟨0, begin_none hE (by decide)⟩
  have hr : inR ticks 0 1000 = true := by simpa using h1
  have ht : 0 ≤ ticks ∧ ticks ≤ 1000 := inR_iff.1 hr
  clear h1
  (refine goA ?_; repeat (refine goN fun _ => ?_; refine goA ?_))
  refine s_if rfl (fun h2 => ?_) (fun h2 => ?_)
  case refine_2 =>
    rw [h2]
    (refine goI ?_; repeat (refine goN fun _ => ?_; refine goI ?_))
    have hE : beginE p ticks l = 81 := by
      have : decide ((l.length : Int) > 200) = true := by simpa using h2
      simp only [beginE, hb, hr, this, Bool.true_or, if_true, Bool.false_eq_true, if_false]
    refine AWP.seq' ?_
    (refine goI ?_; repeat (refine goN fun _ => ?_; refine goI ?_))
    refine AWP.weak (Weak.nilfz 6 6 rfl) ?_
    (refine goA ?_; repeat (refine goN fun _ => ?_; refine goA ?_))
    refine post_ret rfl ⟨0, begin_none hE (by decide)⟩
  rw [h2]
  have hl2 : l.length ≤ 200 := by simp at h2; omega
  (refine goA ?_; repeat (refine goN fun _ => ?_; refine goA ?_))
  refine s_call rfl ?_
  refine CallOK.borrow' 2 (by simp [closeAV, closeAV_zero, Heap.get, Heap.set, AV.cells_agg, cells_i, cells_b, elemMap, Panel.av, Gate.av, Sig.av, Tick.av]) (any62_ok l hl 63 [.fptr p.cells, .fptr [.i ticks]] (fun x => !rightB p ticks x) fun x _ => notright_ok p ticks x hs ht hg.1) rfl ?_
  (refine goA ?_; repeat (refine goN fun _ => ?_; refine goA ?_))
  refine AWP.cond rfl (fun h3 => ?_) (fun h3 => ?_)
  · have hE : beginE p ticks l = 81 := by
      simp only [beginE, hb, hr, h3, Bool.or_true, if_true, Bool.false_eq_true, if_false]
    refine AWP.seq' ?_
    (refine goI ?_; repeat (refine goN fun _ => ?_; refine goI ?_))
    refine AWP.weak (Weak.nilfz 6 6 rfl) ?_
    (refine goA ?_; repeat (refine goN fun _ => ?_; refine goA ?_))
    refine post_ret rfl ⟨0, begin_none hE (by decide)⟩
  have hR : ∀ x ∈ l, rightB p ticks x = true := by
    intro x hx
    have := List.any_eq_false.1 h3 x hx
    simpa using this
  obtain ⟨T, rfl⟩ : ∃ T : Nat, ticks = T := ⟨ticks.toNat, by omega⟩
  have hE : beginE p T l = 0 := by
    have h4 : decide ((l.length : Int) > 200) = false := by simpa using h2
    simp only [beginE, hb, hr, h3, h4, Bool.or_self, if_true, Bool.false_eq_true, if_false]
  have hT : beginT p T l = ticksTo p l T := by simp [beginT, hE]
  rw [hE, hT]
  clear h2 h3 hr
  rename_i a3 a4
  (refine goI ?_; repeat (refine goN fun _ => ?_; refine goI ?_))
  refine AWP.seq' ?_
  (refine goI ?_; repeat (refine goN fun _ => ?_; refine goI ?_))
  refine AWP.seq' ?_
  (refine goI ?_; repeat (refine goN fun _ => ?_; refine goI ?_))
  refine AWP.weak (E' := [(2, .fz 4 (l.map Sig.av)), (3, .ptr 3 a3 4 0 0), (4, .ptr 4 a4 1 0 0), (9, nilS), (10, .b true)]) (H' := [(3, a3, .arr 4 [p.av]), (4, a4, .arr 1 [.i (T : Nat)])]) (by first | (refine Weak.of ?_; (repeat (first | exact trivial | refine ⟨rfl, ?_⟩ | refine ⟨by simp [Env.get], ?_⟩)); done) | (refine Weak.pick (by repeat (first | exact trivial | refine ⟨rfl, ?_⟩ | refine ⟨by simp [Env.get], ?_⟩)) (by first | rfl | (simp [pickH, Heap.get, Heap.del, Heap.set, ofV_i, ofV_b]; done)))) ?_
  refine AWP.seqCutQ (σ := Loc × Loc × Loc) (fun s => [(2, .fz 4 (l.map Sig.av)), (3, .ptr 3 a3 4 0 0), (4, .ptr 4 a4 1 0 0), (9, nilS), (10, .b true), (11, .ref 41 s.1 1 0 p.sensors.toNat), (12, .ref 44 s.2.1 1 0 p.sensors.toNat), (13, .ref 47 s.2.2 1 0 p.sensors.toNat)]) (fun s => [(3, a3, .arr 4 [p.av]), (4, a4, .arr 1 [.i (T : Nat)]), (41, s.1, .arr 1 (List.replicate p.sensors.toNat (AV.ofV (.int .i64 0)))), (44, s.2.1, .arr 1 (List.replicate p.sensors.toNat (AV.ofV (.int .i64 0)))), (47, s.2.2, .arr 1 (List.replicate p.sensors.toNat (AV.ofV (.int .i64 0))))]) ?_ ?_
  · exact begin_d0 hs
  rintro ⟨a41, a44, a47⟩
  dsimp only
  simp only [ofV_i, rep_i]
  refine AWP.seq' ?_
  refine AWP.seq' ?_
  (refine goI ?_; repeat (refine goN fun _ => ?_; refine goI ?_))
  refine AWP.weak (Weak.virt 190 9 6 rfl) ?_
  refine AWP.loopS (σ := Nat × Locs) (fun s => (10, .b (memOf p l s.1).power) :: baseE p l T s.2 s.1) (fun s => baseH p T s.2 (memOf p l s.1).senses (memOf p l s.1).values (memOf p l s.1).ages (ticksTo p l s.1)) (fun s => s.1 ≤ T) (fun s => T - s.1) (0, ⟨a3, a4, a41, a44, a47, ⟨0, 0, true⟩, dl, dl, dl, dl, dl, dl⟩) (by first | (refine Weak.of ?_; (repeat (first | exact trivial | refine ⟨rfl, ?_⟩ | refine ⟨by simp [Env.get], ?_⟩)); done) | (refine Weak.pick (by repeat (first | exact trivial | refine ⟨rfl, ?_⟩ | refine ⟨by simp [Env.get], ?_⟩)) (by first | rfl | (simp [pickH, Heap.get, Heap.del, Heap.set, ofV_i, ofV_b]; done)))) (by dsimp only; omega) ?_
  rintro ⟨n, L⟩ hn K2 hK2
  dsimp only at hn hK2 ⊢
  by_cases hlt : n < T
  · have hn1000 : n ≤ 1000 := by omega
    obtain ⟨hm1, hm2, hm3⟩ := memOf_len p l n
    have hdn : p.doors.length ≤ 8 := hg.1
    obtain ⟨lp, lt, ls, lv, lg, lo, d1, d2, d3, d4, d5, d6⟩ := L
    refine AWP.seq' ?_
    (refine goI ?_; repeat (refine goN fun _ => ?_; refine goI ?_))
    refine AWP.seq' ?_
    (refine goI ?_; repeat (refine goN fun _ => ?_; refine goI ?_))
    refine AWP.seq' ?_
    (refine goI ?_; repeat (refine goN fun _ => ?_; refine goI ?_))
    refine AWP.seq' ?_
    (refine goI ?_; repeat (refine goN fun _ => ?_; refine goI ?_))
    refine AWP.seq' ?_
    (refine goI ?_; repeat (refine goN fun _ => ?_; refine goI ?_))
    rename_i a54
    refine AWP.weak (E' := (14, .i (n : Nat)) :: (15, .ref 54 a54 1 0 p.sensors.toNat) :: (10, .b (memOf p l n).power) :: baseE p l T ⟨lp, lt, ls, lv, lg, lo, d1, d2, d3, d4, d5, d6⟩ n) (H' := (54, a54, .arr 1 (List.replicate p.sensors.toNat (AV.ofV (.bool false)))) :: baseH p T ⟨lp, lt, ls, lv, lg, lo, d1, d2, d3, d4, d5, d6⟩ (memOf p l n).senses (memOf p l n).values (memOf p l n).ages (ticksTo p l n)) (by first | (refine Weak.of ?_; (repeat (first | exact trivial | refine ⟨rfl, ?_⟩ | refine ⟨by simp [Env.get], ?_⟩)); done) | (refine Weak.pick (by repeat (first | exact trivial | refine ⟨rfl, ?_⟩ | refine ⟨by simp [Env.get], ?_⟩)) (by first | rfl | (simp [pickH, Heap.get, Heap.del, Heap.set, ofV_i, ofV_b]; done)))) ?_
    refine AWP.seqCutQ (σ := Loc × Loc × Loc × Loc) (fun s => (14, .i (n : Nat)) :: (15, .ref 54 a54 1 0 p.sensors.toNat) :: (16, .ptr 16 s.2.2.2 6 0 0) :: (10, .b (memOf p l n).power) :: baseE p l T ⟨lp, lt, ls, lv, lg, lo, d1, d2, d3, d4, d5, d6⟩ n) (fun s => (54, a54, .arr 1 (List.replicate p.sensors.toNat (AV.ofV (.bool false)))) :: (66, s.2.2.1, .arr 1 (List.replicate (p.doors.map Gate.av).length (AV.ofV (.bool false)))) :: (58, s.1, .arr 1 (List.replicate (p.doors.map Gate.av).length (AV.ofV (.int .i64 0)))) :: (62, s.2.1, .arr 1 (List.replicate (p.doors.map Gate.av).length (AV.ofV (.int .i64 0)))) :: (16, s.2.2.2, .arr 6 [.agg [.b false, nilS, nilS, .ref 58 s.1 1 0 (p.doors.map Gate.av).length, .ref 62 s.2.1 1 0 (p.doors.map Gate.av).length, .ref 66 s.2.2.1 1 0 (p.doors.map Gate.av).length]]) :: baseH p T ⟨lp, lt, ls, lv, lg, lo, d1, d2, d3, d4, d5, d6⟩ (memOf p l n).senses (memOf p l n).values (memOf p l n).ages (ticksTo p l n)) ?_ ?_
    · exact begin_d1 hdn
    rintro ⟨a58, a62, a66, a16⟩
    dsimp only
    simp only [ofV_i, ofV_b, rep_i, rep_b, List.length_map]
    refine AWP.seq' ?_
    (refine goI ?_; repeat (refine goN fun _ => ?_; refine goI ?_))
    rename_i a71
    simp only [ofV_b, rep_b, List.length_map]
    refine AWP.seq' ?_
    refine AWP.seq' ?_
    (refine goI ?_; repeat (refine goN fun _ => ?_; refine goI ?_))
    simp only [List.length_map]
    refine AWP.weak (by first | (refine Weak.of ?_; (repeat (first | exact trivial | refine ⟨rfl, ?_⟩ | refine ⟨by simp [Env.get], ?_⟩)); done) | (refine Weak.pick (by repeat (first | exact trivial | refine ⟨rfl, ?_⟩ | refine ⟨by simp [Env.get], ?_⟩)) (by first | rfl | (simp [pickH, Heap.get, Heap.del, Heap.set, ofV_i, ofV_b]; done)))) (sig_loop (L := ⟨lp, lt, ls, lv, lg, lo, a54, a16, a58, a62, a66, a71⟩) (s0 := { power := (memOf p l n).power, senses := (memOf p l n).senses, muted := List.replicate p.sensors.toNat false, missed := List.replicate p.doors.length false, stood := List.replicate p.doors.length false }) (values := (memOf p l n).values) (ages := (memOf p l n).ages) (said := List.replicate p.doors.length 0) (heard := List.replicate p.doors.length 0) (ts := ticksTo p l n) (c0 := .b false) (c1 := nilS) (c2 := nilS) hl2 hs hR ⟨hm1, by simp, by simp, by simp⟩ ?_)
    rintro E' H' (hw : Weak 193 E' H' (roundE p l T ⟨lp, lt, ls, lv, lg, lo, a54, a16, a58, a62, a66, a71⟩ n (tickSg p l n (memOf p l n)).power) (roundH p T ⟨lp, lt, ls, lv, lg, lo, a54, a16, a58, a62, a66, a71⟩ (tickSg p l n (memOf p l n)) _ _ _ _ _ _ _ _))
    have hto : tickOf p l n (memOf p l n) = doorsTo p n (tickSg p l n (memOf p l n)).missed ⟨(tickSg p l n (memOf p l n)).power, (tellTo (tickSg p l n (memOf p l n)) ((memOf p l n).values, (memOf p l n).ages) p.sensors.toNat).1, (tellTo (tickSg p l n (memOf p l n)) ((memOf p l n).values, (memOf p l n).ages) p.sensors.toNat).2, List.replicate p.doors.length 0, List.replicate p.doors.length 0, (tickSg p l n (memOf p l n)).stood⟩ p.doors.length := rfl
    have hme : memOf p l (n + 1) = ⟨(tickSg p l n (memOf p l n)).power, (tickSg p l n (memOf p l n)).senses, (tellTo (tickSg p l n (memOf p l n)) ((memOf p l n).values, (memOf p l n).ages) p.sensors.toNat).1, (tellTo (tickSg p l n (memOf p l n)) ((memOf p l n).values, (memOf p l n).ages) p.sensors.toNat).2⟩ := rfl
    have hsl : SgLen p (tickSg p l n (memOf p l n)) := by
      obtain ⟨q1, q2, q3, q4⟩ := tickSg_len p l n (memOf p l n)
      exact ⟨q1.trans hm1, q2, q3, q4⟩
    generalize tickSg p l n (memOf p l n) = sg at hw hto hme hsl
    refine exit_in ?_
    refine then_norm ?_
    refine AWP.weak hw ?_
    clear hw
    refine AWP.seq' ?_
    refine AWP.seq' ?_
    (refine goI ?_; repeat (refine goN fun _ => ?_; refine goI ?_))
    refine AWP.weak (by first | (refine Weak.of ?_; (repeat (first | exact trivial | refine ⟨rfl, ?_⟩ | refine ⟨by simp [Env.get], ?_⟩)); done) | (refine Weak.pick (by repeat (first | exact trivial | refine ⟨rfl, ?_⟩ | refine ⟨by simp [Env.get], ?_⟩)) (by first | rfl | (simp [pickH, Heap.get, Heap.del, Heap.set, ofV_i, ofV_b]; done)))) (tell_loop (L := ⟨lp, lt, ls, lv, lg, lo, a54, a16, a58, a62, a66, a71⟩) (s := sg) (va := ((memOf p l n).values, (memOf p l n).ages)) (said := List.replicate p.doors.length 0) (heard := List.replicate p.doors.length 0) (ts := ticksTo p l n) (c0 := .b false) (c1 := nilS) (c2 := nilS) hn1000 hs hsl hm2 hm3 (memOf_ages p l n) ?_)
    intro E' H' hw
    obtain ⟨hv1, hv2⟩ := tellTo_len sg ((memOf p l n).values, (memOf p l n).ages) p.sensors.toNat
    generalize tellTo sg ((memOf p l n).values, (memOf p l n).ages) p.sensors.toNat = va at hw hto hme hv1 hv2
    replace hv1 := hv1.trans hm2
    replace hv2 := hv2.trans hm3
    refine exit_in ?_
    refine then_norm ?_
    refine AWP.weak hw ?_
    clear hw
    refine AWP.seq' ?_
    (refine goI ?_; repeat (refine goN fun _ => ?_; refine goI ?_))
    refine s_call rfl ?_
    refine CallOK.borrowF 2 2 (xs' := [ints va.1]) ?_ (clone_ok va.1 (by omega)) (fun _ _ h => h.1) ?_
    · simp only [List.map]
      rw [close_ints (xs := va.1) elem_i' rfl hv1.symm 1]; rfl
    rintro r H' ⟨_, e⟩
    rw [e]
    clear e
    (refine goI ?_; repeat (refine goN fun _ => ?_; refine goI ?_))
    refine s_call rfl ?_
    refine CallOK.borrowF 2 2 (xs' := [ints va.2]) ?_ (clone_ok va.2 (by omega)) (fun _ _ h => h.1) ?_
    · simp only [List.map]
      rw [close_ints (xs := va.2) elem_i' rfl hv2.symm 1]; rfl
    rintro r H' ⟨_, e⟩
    rw [e]
    clear e
    (refine goI ?_; repeat (refine goN fun _ => ?_; refine goI ?_))
    refine AWP.seq' ?_
    refine AWP.seq' ?_
    (refine goI ?_; repeat (refine goN fun _ => ?_; refine goI ?_))
    refine AWP.weak (by first | (refine Weak.of ?_; (repeat (first | exact trivial | refine ⟨rfl, ?_⟩ | refine ⟨by simp [Env.get], ?_⟩)); done) | (refine Weak.pick (by repeat (first | exact trivial | refine ⟨rfl, ?_⟩ | refine ⟨by simp [Env.get], ?_⟩)) (by first | rfl | (simp [pickH, Heap.get, Heap.del, Heap.set, ofV_i, ofV_b]; done)))) (door_loop (L := ⟨lp, lt, ls, lv, lg, lo, a54, a16, a58, a62, a66, a71⟩) (s := sg) (vs := va.1) (gs := va.2) (sd := List.replicate p.doors.length 0) (hd := List.replicate p.doors.length 0) (ts := ticksTo p l n) hg hsl hv1 hv2 (by simp) (by simp) ?_)
    intro sd hd E' H' hd2 hw
    have hl3 := doorsTo_len p n sg.missed ⟨sg.power, va.1, va.2, List.replicate p.doors.length 0, List.replicate p.doors.length 0, sg.stood⟩ p.doors.length
    rw [hd2] at hl3 hto
    refine exit_in ?_
    refine then_norm ?_
    refine AWP.weak hw ?_
    refine AWP.weak (frz_round (by simpa using hl3.1) (by simpa using hl3.2.1) hsl.2.2.2) ?_
    clear hw
    (refine goI ?_; repeat (refine goN fun _ => ?_; refine goI ?_))
    refine s_app_ref rfl rfl rfl rfl (by simp [ticksTo_len]) rfl (by omega) fun o => ?_
    (refine goI ?_; repeat (refine goN fun _ => ?_; refine goI ?_))
    refine hK2 (n + 1, ⟨lp, lt, ls, lv, lg, o, d1, d2, d3, d4, d5, d6⟩) _ _ (by dsimp only; omega) (by dsimp only; omega) ?_
    have e : (ticksTo p l (n + 1)).map Tick.av = (ticksTo p l n).map Tick.av ++ [Tick.av ⟨sg.power, va.1, va.2, sd, hd, sg.stood⟩] := by simp [ticksTo, hto]
    simp only [baseH, hme, e]
    exact (by first | (refine Weak.of ?_; (repeat (first | exact trivial | refine ⟨rfl, ?_⟩ | refine ⟨by simp [Env.get], ?_⟩)); done) | (refine Weak.pick (by repeat (first | exact trivial | refine ⟨rfl, ?_⟩ | refine ⟨by simp [Env.get], ?_⟩)) (by first | rfl | (simp [pickH, Heap.get, Heap.del, Heap.set, ofV_i, ofV_b]; done))))
  · have hnT : n = T := by omega
    subst hnT
    (refine goA ?_; repeat (refine goN fun _ => ?_; refine goA ?_))
    refine post_ret rfl ⟨2, ?_⟩
    show AV.tup [closeAV _ 1 _, closeAV _ 1 _] = _
    rw [close_ints (g := Tick.av) (xs := ticksTo p l n) elem_tick rfl (ticksTo_len p l n).symm 0]; rfl
end Go.Proofs.Ytjnencdmejhmjaa.Eng
