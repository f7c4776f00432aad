/- CONTROL: the specification's play of a panel, walked. -/
import Derived.Test.YtjnencdmejhmjaaV4
import Derived.Test.YtjnencdmejhmjaaD2
import Derived.Test.YtjnencdmejhmjaaW9
namespace Go.Proofs.Ytjnencdmejhmjaa.Eng
open Go Go.RowKit
attribute [local irreducible] insRun planRun AWP holdsAll CallOK Weak Ins.holds
set_option linter.unusedSimpArgs false
set_option linter.unusedVariables false
set_option maxHeartbeats 4000000
theorem fH_mapb {p : Panel} {L : FL} {vs gs : List Int} {fs : List AV} {f : AV → AV} (h1 : elemMap f ∘ AV.i = AV.i) (h2 : elemMap f p.av = p.av) : Heap.mapb f (fH p L vs gs fs) = fH p L vs gs (fs.map (elemMap f)) := by
  simp only [fH, Heap.mapb, closeB, List.map_map, h1, List.map_cons, List.map_nil, h2]
theorem frz_va {p : Panel} {l : List Sig} {T t c n : Nat} {L : FL} {vs gs : List Int} {fr : List Frame} {pw : Bool} {told : List Int} {shut : List Bool} {a b : Loc} (hv : vs.length = p.sensors.toNat) (hgl : gs.length = p.sensors.toNat) :
    Weak 153 ((11, .ptr 11 L.f 5 0 0) :: fE p l T L t c) ((78, a, .arr 1 (vs.map .i)) :: (83, b, .arr 1 (gs.map .i)) :: (11, L.f, .arr 5 [fC L pw (.ref 78 a 1 0 p.sensors.toNat) (.ref 83 b 1 0 p.sensors.toNat) n]) :: (34, L.s, .arr 1 (told.map .i)) :: (38, L.h, .arr 1 (shut.map .b)) :: fH p L vs gs (fr.map Frame.av))
      ((11, .ptr 11 L.f 5 0 0) :: fE p l T L t c) ((11, L.f, .arr 5 [fC L pw (ints vs) (ints gs) n]) :: (34, L.s, .arr 1 (told.map .i)) :: (38, L.h, .arr 1 (shut.map .b)) :: fH p L vs gs (fr.map Frame.av)) := by
  have q1 := close_ints (sz := 1) (n := p.sensors.toNat) elem_i' (H := [(78, a, .arr 1 (vs.map .i))]) (h := 78) (a := a) rfl hv.symm 0
  have q2 := close_ints (sz := 1) (n := p.sensors.toNat) elem_i' (H := [(83, b, .arr 1 (gs.map .i))]) (h := 83) (a := b) rfl hgl.symm 0
  have w2 := Weak.frz (N := 153) 1 78 (E := (11, .ptr 11 L.f 5 0 0) :: fE p l T L t c) (H := (78, a, .arr 1 (vs.map .i)) :: (83, b, .arr 1 (gs.map .i)) :: (11, L.f, .arr 5 [fC L pw (.ref 78 a 1 0 p.sensors.toNat) (.ref 83 b 1 0 p.sensors.toNat) n]) :: (34, L.s, .arr 1 (told.map .i)) :: (38, L.h, .arr 1 (shut.map .b)) :: fH p L vs gs (fr.map Frame.av)) rfl
  have e2 : Heap.mapb (closeAV [(78, a, .arr 1 (vs.map .i))] 1) (Heap.del 78 ((78, a, .arr 1 (vs.map .i)) :: (83, b, .arr 1 (gs.map .i)) :: (11, L.f, .arr 5 [fC L pw (.ref 78 a 1 0 p.sensors.toNat) (.ref 83 b 1 0 p.sensors.toNat) n]) :: (34, L.s, .arr 1 (told.map .i)) :: (38, L.h, .arr 1 (shut.map .b)) :: fH p L vs gs (fr.map Frame.av))) = (83, b, .arr 1 (gs.map .i)) :: (11, L.f, .arr 5 [fC L pw (ints vs) (.ref 83 b 1 0 p.sensors.toNat) n]) :: (34, L.s, .arr 1 (told.map .i)) :: (38, L.h, .arr 1 (shut.map .b)) :: fH p L vs gs (fr.map Frame.av) := by
    simp only [Heap.del, if_true, Heap.mapb, closeB, fC, List.map_map, elem_i', elem_b', fH_mapb (elem_i' _ _) (elem_panel _ _ _), elem_frame, List.map_cons, List.map_nil, elemMap]
    rw [q1]; rfl
  rw [e2] at w2
  have w3 := Weak.frz (N := 153) 1 83 (E := (11, .ptr 11 L.f 5 0 0) :: fE p l T L t c) (H := (83, b, .arr 1 (gs.map .i)) :: (11, L.f, .arr 5 [fC L pw (ints vs) (.ref 83 b 1 0 p.sensors.toNat) n]) :: (34, L.s, .arr 1 (told.map .i)) :: (38, L.h, .arr 1 (shut.map .b)) :: fH p L vs gs (fr.map Frame.av)) rfl
  have e3 : Heap.mapb (closeAV [(83, b, .arr 1 (gs.map .i))] 1) (Heap.del 83 ((83, b, .arr 1 (gs.map .i)) :: (11, L.f, .arr 5 [fC L pw (ints vs) (.ref 83 b 1 0 p.sensors.toNat) n]) :: (34, L.s, .arr 1 (told.map .i)) :: (38, L.h, .arr 1 (shut.map .b)) :: fH p L vs gs (fr.map Frame.av))) = (11, L.f, .arr 5 [fC L pw (ints vs) (ints gs) n]) :: (34, L.s, .arr 1 (told.map .i)) :: (38, L.h, .arr 1 (shut.map .b)) :: fH p L vs gs (fr.map Frame.av) := by
    simp only [Heap.del, if_true, Heap.mapb, closeB, fC, List.map_map, elem_i', elem_b', fH_mapb (elem_i' _ _) (elem_panel _ _ _), elem_frame, List.map_cons, List.map_nil, elemMap]
    rw [q2]; rfl
  rw [e3] at w3
  exact w2.trans w3
theorem frz_told {p : Panel} {l : List Sig} {T t c : Nat} {L : FL} {vs gs : List Int} {fr : List Frame} {shut : List Bool} :
    Weak 153 ((11, .ptr 11 L.f 5 0 0) :: fE p l T L t c) ((34, L.s, .arr 1 ((tickOf p l t (memOf p l t)).said.map .i)) :: (11, L.f, .arr 5 [fC L (powTo l (t + 1)) (ints (memOf p l (t + 1)).values) (ints (memOf p l (t + 1)).ages) p.doors.length]) :: (38, L.h, .arr 1 (shut.map .b)) :: fH p L vs gs (fr.map Frame.av ++ [fC L (powTo l (t + 1)) (ints (memOf p l (t + 1)).values) (ints (memOf p l (t + 1)).ages) p.doors.length]))
      ((11, .ptr 11 L.f 5 0 0) :: fE p l T L t c) ((11, L.f, .arr 5 [fD p l t L]) :: (38, L.h, .arr 1 (shut.map .b)) :: fH p L vs gs (fr.map Frame.av ++ [fD p l t L])) := by
  have hsd := said_len p l t
  generalize hD : fD p l t L = D
  have hD2 : D = .agg [.b (powTo l (t + 1)), ints (memOf p l (t + 1)).values, ints (memOf p l (t + 1)).ages, ints (tickOf p l t (memOf p l t)).said, .ref 38 L.h 1 0 p.doors.length] := hD.symm
  generalize (tickOf p l t (memOf p l t)).said = sd at hsd hD2
  have q1 := close_ints (sz := 1) (n := p.doors.length) elem_i' (H := [(34, L.s, .arr 1 (sd.map .i))]) (h := 34) (a := L.s) rfl hsd.symm 0
  have w2 := Weak.frz (N := 153) 1 34 (E := (11, .ptr 11 L.f 5 0 0) :: fE p l T L t c) (H := (34, L.s, .arr 1 (sd.map .i)) :: (11, L.f, .arr 5 [fC L (powTo l (t + 1)) (ints (memOf p l (t + 1)).values) (ints (memOf p l (t + 1)).ages) p.doors.length]) :: (38, L.h, .arr 1 (shut.map .b)) :: fH p L vs gs (fr.map Frame.av ++ [fC L (powTo l (t + 1)) (ints (memOf p l (t + 1)).values) (ints (memOf p l (t + 1)).ages) p.doors.length])) rfl
  have ec : elemMap (closeAV [(34, L.s, .arr 1 (sd.map .i))] 1) (fC L (powTo l (t + 1)) (ints (memOf p l (t + 1)).values) (ints (memOf p l (t + 1)).ages) p.doors.length) = D := by
    rw [hD2]
    simp only [fC, elemMap, List.map_cons, List.map_nil]
    rw [q1]; rfl
  have e2 : Heap.mapb (closeAV [(34, L.s, .arr 1 (sd.map .i))] 1) (Heap.del 34 ((34, L.s, .arr 1 (sd.map .i)) :: (11, L.f, .arr 5 [fC L (powTo l (t + 1)) (ints (memOf p l (t + 1)).values) (ints (memOf p l (t + 1)).ages) p.doors.length]) :: (38, L.h, .arr 1 (shut.map .b)) :: fH p L vs gs (fr.map Frame.av ++ [fC L (powTo l (t + 1)) (ints (memOf p l (t + 1)).values) (ints (memOf p l (t + 1)).ages) p.doors.length]))) = (11, L.f, .arr 5 [D]) :: (38, L.h, .arr 1 (shut.map .b)) :: fH p L vs gs (fr.map Frame.av ++ [D]) := by
    simp only [Heap.del, if_true, Heap.mapb, closeB, List.map_map, elem_b', fH_mapb (elem_i' _ _) (elem_panel _ _ _), elem_frame, List.map_append, List.map_cons, List.map_nil, ec]
  rw [e2] at w2
  exact w2
theorem frz_shut {p : Panel} {l : List Sig} {T t c : Nat} {L : FL} {vs gs : List Int} :
    Weak 153 ((11, .ptr 11 L.f 5 0 0) :: fE p l T L t c) ((11, L.f, .arr 5 [fD p l t L]) :: (38, L.h, .arr 1 ((shutTo p l t p.doors.length).map .b)) :: fH p L vs gs ((framesTo p l t).map Frame.av ++ [fD p l t L]))
      (fE p l T L t c) (fH p L vs gs ((framesTo p l (t + 1)).map Frame.av)) := by
  have hsl := shutTo_len p l t p.doors.length
  have ha := shutTo_all p l t
  generalize shutTo p l t p.doors.length = sh at hsl ha
  have q1 := close_ints (sz := 1) (n := p.doors.length) elem_b' (H := [(38, L.h, .arr 1 (sh.map .b))]) (h := 38) (a := L.h) rfl hsl.symm 0
  have w1 : Weak 153 ((11, .ptr 11 L.f 5 0 0) :: fE p l T L t c) ((11, L.f, .arr 5 [fD p l t L]) :: (38, L.h, .arr 1 (sh.map .b)) :: fH p L vs gs ((framesTo p l t).map Frame.av ++ [fD p l t L])) (fE p l T L t c) ((38, L.h, .arr 1 (sh.map .b)) :: fH p L vs gs ((framesTo p l t).map Frame.av ++ [fD p l t L])) := (by first | (refine Weak.of ?_; (repeat (first | exact trivial | refine ⟨rfl, ?_⟩ | refine ⟨by simp [Env.get], ?_⟩)); done) | (refine Weak.pick (by repeat (first | exact trivial | refine ⟨rfl, ?_⟩ | refine ⟨by simp [Env.get], ?_⟩)) (by first | rfl | (simp [pickH, Heap.get, Heap.del, Heap.set, ofV_i, ofV_b]; done))))
  have w2 := Weak.frz (N := 153) 1 38 (E := fE p l T L t c) (H := (38, L.h, .arr 1 (sh.map .b)) :: fH p L vs gs ((framesTo p l t).map Frame.av ++ [fD p l t L])) rfl
  have ec : elemMap (closeAV [(38, L.h, .arr 1 (sh.map .b))] 1) (fD p l t L) = (frameAt p l t).av := by
    show AV.agg [AV.b _, ints _, ints _, ints _, closeAV [(38, L.h, .arr 1 (sh.map .b))] 1 (.ref 38 L.h 1 0 p.doors.length)] = _
    rw [q1, ha]; rfl
  have e2 : Heap.mapb (closeAV [(38, L.h, .arr 1 (sh.map .b))] 1) (Heap.del 38 ((38, L.h, .arr 1 (sh.map .b)) :: fH p L vs gs ((framesTo p l t).map Frame.av ++ [fD p l t L]))) = fH p L vs gs ((framesTo p l (t + 1)).map Frame.av) := by
    simp only [Heap.del, if_true, fH_mapb (elem_i' _ _) (elem_panel _ _ _), List.map_append, List.map_map, elem_frame, List.map_cons, List.map_nil, ec, framesTo_succ]
  rw [e2] at w2
  exact w1.trans w2
theorem frames_ok {p : Panel} (hg : PGood p) (l : List Sig) (hl : l.length ≤ 9223372036854775807) (hn : numsOk l) (hr : ∀ x ∈ l, x.kind = 1 → 0 ≤ x.number ∧ x.number < p.sensors) (T : Nat) (hT : T ≤ 1000) : PCalls Try.prog 52 [p.av, .i (T : Nat), .fz 4 (l.map Sig.av)] (.fz 5 ((framesTo p l T).map Frame.av)) := by
  have hsen := hg.sen
  have hdn := hg.len
  refine PCalls.body fn52 _ (by simp) ?_
  unfold ir52
  refine AWP.seq' ?_
  (refine goI ?_; repeat (refine goN fun _ => ?_; refine goI ?_))
  refine AWP.seq' ?_
  (refine goI ?_; repeat (refine goN fun _ => ?_; refine goI ?_))
  rename_i a3
  refine AWP.weak (E' := [(7, nilS), (1, .i (T : Nat)), (2, .fz 4 (l.map Sig.av)), (3, .ptr 3 a3 4 0 0)]) (H' := [(3, a3, .arr 4 [p.av])]) (by first | (refine Weak.of ?_; (repeat (first | exact trivial | refine ⟨rfl, ?_⟩ | refine ⟨by simp [Env.get], ?_⟩)); done) | (refine Weak.pick (by repeat (first | exact trivial | refine ⟨rfl, ?_⟩ | refine ⟨by simp [Env.get], ?_⟩)) (by first | rfl | (simp [pickH, Heap.get, Heap.del, Heap.set, ofV_i, ofV_b]; done)))) ?_
  refine AWP.seqCutQ (σ := Loc × Loc) (fun s => [(7, nilS), (8, .ref 19 s.1 1 0 p.sensors.toNat), (9, .ref 22 s.2 1 0 p.sensors.toNat), (1, .i (T : Nat)), (2, .fz 4 (l.map Sig.av)), (3, .ptr 3 a3 4 0 0)]) (fun s => [(3, a3, .arr 4 [p.av]), (19, s.1, .arr 1 (List.replicate p.sensors.toNat (AV.ofV (.int .i64 0)))), (22, s.2, .arr 1 (List.replicate p.sensors.toNat (AV.ofV (.int .i64 0))))]) (frames_d0 hsen) ?_
  rintro ⟨a19, a22⟩
  try dsimp only
  have er : List.replicate p.sensors.toNat (AV.ofV (.int .i64 0)) = (List.replicate p.sensors.toNat 0).map .i := by simp [ofV_i]
  rw [er]
  refine AWP.seq' ?_
  refine AWP.seq' ?_
  (refine goI ?_; repeat (refine goN fun _ => ?_; refine goI ?_))
  refine AWP.weak (Weak.virt 108 7 5 rfl) ?_
  refine AWP.loopS (σ := Nat × FL) (fun s => fE p l T s.2 s.1 s.1) (fun s => fH p s.2 (memOf p l s.1).values (memOf p l s.1).ages ((framesTo p l s.1).map Frame.av)) (fun s => s.1 ≤ T) (fun s => T - s.1) (0, ⟨a3, a19, a22, ⟨0, 0, true⟩, a3, a3, a3⟩) (by first | (refine Weak.of ?_; (repeat (first | exact trivial | refine ⟨rfl, ?_⟩ | refine ⟨by simp [Env.get], ?_⟩)); done) | (refine Weak.pick (by repeat (first | exact trivial | refine ⟨rfl, ?_⟩ | refine ⟨by simp [Env.get], ?_⟩)) (by first | rfl | (simp [pickH, Heap.get, Heap.del, Heap.set, ofV_i, ofV_b]; done)))) (by dsimp only; omega) ?_
  rintro ⟨t, L⟩ ht K2 hK2
  dsimp only at ht hK2 ⊢
  by_cases hlt : t < T
  · obtain ⟨lp, lv, lg, lo, d1, d2, d3⟩ := L
    obtain ⟨_, hmv, hma⟩ := memOf_len p l (t + 1)
    refine AWP.seq' ?_
    refine AWP.seq' ?_
    (refine goI ?_; repeat (refine goN fun _ => ?_; refine goI ?_))
    refine AWP.seq' ?_
    (refine goI ?_; repeat (refine goN fun _ => ?_; refine goI ?_))
    refine AWP.weak (E' := fE p l T ⟨lp, lv, lg, lo, d1, d2, d3⟩ t t) (H' := fH p ⟨lp, lv, lg, lo, d1, d2, d3⟩ (memOf p l t).values (memOf p l t).ages ((framesTo p l t).map Frame.av)) (by first | (refine Weak.of ?_; (repeat (first | exact trivial | refine ⟨rfl, ?_⟩ | refine ⟨by simp [Env.get], ?_⟩)); done) | (refine Weak.pick (by repeat (first | exact trivial | refine ⟨rfl, ?_⟩ | refine ⟨by simp [Env.get], ?_⟩)) (by first | rfl | (simp [pickH, Heap.get, Heap.del, Heap.set, ofV_i, ofV_b]; done)))) ?_
    refine AWP.seqCutQ (σ := Loc × Loc × Loc) (fun s => (11, .ptr 11 s.1 5 0 0) :: fE p l T ⟨lp, lv, lg, lo, d1, d2, d3⟩ t t) (fun s => (11, s.1, .arr 5 [.agg [.b (powTo l (t + 1)), nilS, nilS, .ref 34 s.2.1 1 0 (p.doors.map Gate.av).length, .ref 38 s.2.2 1 0 (p.doors.map Gate.av).length]]) :: (34, s.2.1, .arr 1 (List.replicate (p.doors.map Gate.av).length (AV.ofV (.int .i64 0)))) :: (38, s.2.2, .arr 1 (List.replicate (p.doors.map Gate.av).length (AV.ofV (.bool false)))) :: fH p ⟨lp, lv, lg, lo, d1, d2, d3⟩ (memOf p l t).values (memOf p l t).ages ((framesTo p l t).map Frame.av)) (frames_d1 hl (by omega) hdn) ?_
    rintro ⟨a11, a34, a38⟩
    try dsimp only
    have e1 : List.replicate (p.doors.map Gate.av).length (AV.ofV (.int .i64 0)) = (List.replicate p.doors.length 0).map .i := by simp [ofV_i]
    have e2 : List.replicate (p.doors.map Gate.av).length (AV.ofV (.bool false)) = (shutTo p l t 0).map .b := by rw [shutTo_zero]; simp [ofV_b]
    rw [e1, e2, List.length_map]
    refine AWP.seq' ?_
    (refine goI ?_; repeat (refine goN fun _ => ?_; refine goI ?_))
    refine s_call rfl ?_
    refine CallOK.pure (senses_ok p hsen l hl hr t (by omega)) ?_
    (refine goI ?_; repeat (refine goN fun _ => ?_; refine goI ?_))
    refine AWP.seq' ?_
    refine AWP.seq' ?_
    (refine goI ?_; repeat (refine goN fun _ => ?_; refine goI ?_))
    refine AWP.weak (by first | (refine Weak.of ?_; (repeat (first | exact trivial | refine ⟨rfl, ?_⟩ | refine ⟨by simp [Env.get], ?_⟩)); done) | (refine Weak.pick (by repeat (first | exact trivial | refine ⟨rfl, ?_⟩ | refine ⟨by simp [Env.get], ?_⟩)) (by first | rfl | (simp [pickH, Heap.get, Heap.del, Heap.set, ofV_i, ofV_b]; done)))) (sens_loop (L := ⟨lp, lv, lg, lo, a11, a34, a38⟩) (told := List.replicate p.doors.length 0) (shut := shutTo p l t 0) (x1 := nilS) (x2 := nilS) (n := p.doors.length) (c := t) (fs := (framesTo p l t).map Frame.av) hl (by omega) hsen hn ?_)
    intro E' H' hw
    refine exit_in ?_
    refine then_norm ?_
    refine AWP.weak hw ?_
    clear hw
    refine AWP.seq' ?_
    (refine goI ?_; repeat (refine goN fun _ => ?_; refine goI ?_))
    refine s_app_nref rfl rfl rfl (by simp [hmv]) (by omega) fun a78 => ?_
    (refine goI ?_; repeat (refine goN fun _ => ?_; refine goI ?_))
    refine AWP.seq' ?_
    (refine goI ?_; repeat (refine goN fun _ => ?_; refine goI ?_))
    refine s_app_nref rfl rfl rfl (by simp [hma]) (by omega) fun a83 => ?_
    (refine goI ?_; repeat (refine goN fun _ => ?_; refine goI ?_))
    refine AWP.weak (Weak.trans (E2 := (11, .ptr 11 a11 5 0 0) :: fE p l T ⟨lp, lv, lg, lo, a11, a34, a38⟩ t t) (H2 := (78, a78, .arr 1 ((memOf p l (t + 1)).values.map .i)) :: (83, a83, .arr 1 ((memOf p l (t + 1)).ages.map .i)) :: (11, a11, .arr 5 [fC ⟨lp, lv, lg, lo, a11, a34, a38⟩ (powTo l (t + 1)) (.ref 78 a78 1 0 p.sensors.toNat) (.ref 83 a83 1 0 p.sensors.toNat) p.doors.length]) :: (34, a34, .arr 1 ((List.replicate p.doors.length 0).map .i)) :: (38, a38, .arr 1 ((shutTo p l t 0).map .b)) :: fH p ⟨lp, lv, lg, lo, a11, a34, a38⟩ (memOf p l (t + 1)).values (memOf p l (t + 1)).ages ((framesTo p l t).map Frame.av)) (by first | (refine Weak.of ?_; (repeat (first | exact trivial | refine ⟨rfl, ?_⟩ | refine ⟨by simp [Env.get], ?_⟩)); done) | (refine Weak.pick (by repeat (first | exact trivial | refine ⟨rfl, ?_⟩ | refine ⟨by simp [Env.get], ?_⟩)) (by first | rfl | (simp [pickH, Heap.get, Heap.del, Heap.set, ofV_i, ofV_b]; done)))) (frz_va (L := ⟨lp, lv, lg, lo, a11, a34, a38⟩) hmv hma)) ?_
    refine AWP.seq' ?_
    refine AWP.seq' ?_
    (refine goI ?_; repeat (refine goN fun _ => ?_; refine goI ?_))
    refine AWP.weak (by first | (refine Weak.of ?_; (repeat (first | exact trivial | refine ⟨rfl, ?_⟩ | refine ⟨by simp [Env.get], ?_⟩)); done) | (refine Weak.pick (by repeat (first | exact trivial | refine ⟨rfl, ?_⟩ | refine ⟨by simp [Env.get], ?_⟩)) (by first | rfl | (simp [pickH, Heap.get, Heap.del, Heap.set, ofV_i, ofV_b]; done)))) (told_loop (L := ⟨lp, lv, lg, lo, a11, a34, a38⟩) (shut := shutTo p l t 0) (vs := (memOf p l (t + 1)).values) (gs := (memOf p l (t + 1)).ages) (c := t) (fs := (framesTo p l t).map Frame.av) hg (shutTo_len _ _ _ _) ?_)
    intro E' H' hw
    refine exit_in ?_
    refine then_norm ?_
    refine AWP.weak hw ?_
    clear hw
    refine AWP.seq' ?_
    (refine goI ?_; repeat (refine goN fun _ => ?_; refine goI ?_))
    refine s_app_ref rfl rfl rfl rfl (by simp [framesTo_len]) rfl (by omega) fun a108 => ?_
    (refine goI ?_; repeat (refine goN fun _ => ?_; refine goI ?_))
    refine AWP.weak (Weak.trans (E2 := (11, .ptr 11 a11 5 0 0) :: fE p l T ⟨lp, lv, lg, a108, a11, a34, a38⟩ t (t + 1)) (H2 := (34, a34, .arr 1 ((tickOf p l t (memOf p l t)).said.map .i)) :: (11, a11, .arr 5 [fC ⟨lp, lv, lg, a108, a11, a34, a38⟩ (powTo l (t + 1)) (ints (memOf p l (t + 1)).values) (ints (memOf p l (t + 1)).ages) p.doors.length]) :: (38, a38, .arr 1 ((shutTo p l t 0).map .b)) :: fH p ⟨lp, lv, lg, a108, a11, a34, a38⟩ (memOf p l (t + 1)).values (memOf p l (t + 1)).ages ((framesTo p l t).map Frame.av ++ [fC ⟨lp, lv, lg, a108, a11, a34, a38⟩ (powTo l (t + 1)) (ints (memOf p l (t + 1)).values) (ints (memOf p l (t + 1)).ages) p.doors.length])) (by first | (refine Weak.of ?_; (repeat (first | exact trivial | refine ⟨rfl, ?_⟩ | refine ⟨by simp [Env.get], ?_⟩)); done) | (refine Weak.pick (by repeat (first | exact trivial | refine ⟨rfl, ?_⟩ | refine ⟨by simp [Env.get], ?_⟩)) (by first | rfl | (simp [pickH, Heap.get, Heap.del, Heap.set, ofV_i, ofV_b]; done)))) (frz_told (L := ⟨lp, lv, lg, a108, a11, a34, a38⟩))) ?_
    refine AWP.seq' ?_
    (refine goI ?_; repeat (refine goN fun _ => ?_; refine goI ?_))
    refine AWP.weak (by first | (refine Weak.of ?_; (repeat (first | exact trivial | refine ⟨rfl, ?_⟩ | refine ⟨by simp [Env.get], ?_⟩)); done) | (refine Weak.pick (by repeat (first | exact trivial | refine ⟨rfl, ?_⟩ | refine ⟨by simp [Env.get], ?_⟩)) (by first | rfl | (simp [pickH, Heap.get, Heap.del, Heap.set, ofV_i, ofV_b]; done)))) (shut_loop (L := ⟨lp, lv, lg, a108, a11, a34, a38⟩) (vs := (memOf p l (t + 1)).values) (gs := (memOf p l (t + 1)).ages) hg hl (by omega) hn ?_)
    intro E' H' hw
    refine exit_in ?_
    refine block_norm ?_
    refine then_norm ?_
    refine AWP.weak (hw.trans frz_shut) ?_
    clear hw
    (refine goI ?_; repeat (refine goN fun _ => ?_; refine goI ?_))
    refine hK2 (t + 1, ⟨lp, lv, lg, a108, a11, a34, a38⟩) _ _ (by dsimp only; omega) (by dsimp only; omega) ?_
    exact (by first | (refine Weak.of ?_; (repeat (first | exact trivial | refine ⟨rfl, ?_⟩ | refine ⟨by simp [Env.get], ?_⟩)); done) | (refine Weak.pick (by repeat (first | exact trivial | refine ⟨rfl, ?_⟩ | refine ⟨by simp [Env.get], ?_⟩)) (by first | rfl | (simp [pickH, Heap.get, Heap.del, Heap.set, ofV_i, ofV_b]; done))))
  · have hnT : t = T := by omega
    subst hnT
    (refine goA ?_; repeat (refine goN fun _ => ?_; refine goA ?_))
    refine post_ret rfl ⟨1, ?_⟩
    exact close_ints (g := Frame.av) (xs := framesTo p l t) elem_frame rfl (framesTo_len p l t).symm 0
end Go.Proofs.Ytjnencdmejhmjaa.Eng
