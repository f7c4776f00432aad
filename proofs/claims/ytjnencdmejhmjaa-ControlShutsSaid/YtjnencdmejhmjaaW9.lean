/- CONTROL: begin, walked. -/
import Derived.Test.YtjnencdmejhmjaaW2
import Derived.Test.YtjnencdmejhmjaaW4
import Derived.Test.YtjnencdmejhmjaaW6
import Derived.Test.YtjnencdmejhmjaaW7
import Derived.Test.YtjnencdmejhmjaaW8
namespace Go.Proofs.Ytjnencdmejhmjaa.Eng
open Go Go.RowKit
attribute [local irreducible] insRun planRun AWP holdsAll CallOK Weak Ins.holds
set_option linter.unusedSimpArgs false
set_option linter.unusedVariables false
set_option maxHeartbeats 4000000
theorem elem_tick (H : Heap) (k : Nat) : elemMap (closeAV H k) ∘ Tick.av = Tick.av := by funext x; cases k <;> rfl
theorem elem_panel (H : Heap) (k : Nat) (p : Panel) : elemMap (closeAV H k) p.av = p.av := by cases k <;> rfl
theorem frz_round {p : Panel} {l : List Sig} {T n : Nat} {L : Locs} {s : Sg} {pw : Bool} {vs gs sd hd : List Int} {ts : List Tick} (hsd : sd.length = p.doors.length) (hhd : hd.length = p.doors.length) (hst : s.stood.length = p.doors.length) :
    Weak 193 (roundE p l T L n pw) (roundH p T L s vs gs sd hd ts (.b pw) (ints vs) (ints gs)) ((16, .ptr 16 L.x 6 0 0) :: (10, .b pw) :: baseE p l T L n) ((16, L.x, .arr 6 [Tick.av ⟨pw, vs, gs, sd, hd, s.stood⟩]) :: baseH p T L s.senses vs gs ts) := by
  have q1 := close_ints (sz := 1) (n := p.doors.length) elem_i' (H := [(58, L.sa, .arr 1 (sd.map .i))]) (h := 58) (a := L.sa) rfl hsd.symm 0
  have q2 := close_ints (sz := 1) (n := p.doors.length) elem_i' (H := [(62, L.he, .arr 1 (hd.map .i))]) (h := 62) (a := L.he) rfl hhd.symm 0
  have q3 := close_ints (sz := 1) (n := p.doors.length) elem_b' (H := [(66, L.st, .arr 1 (s.stood.map .b))]) (h := 66) (a := L.st) rfl hst.symm 0
  have w1 : Weak 193 (roundE p l T L n pw) (roundH p T L s vs gs sd hd ts (.b pw) (ints vs) (ints gs)) ((16, .ptr 16 L.x 6 0 0) :: (10, .b pw) :: baseE p l T L n) ((58, L.sa, .arr 1 (sd.map .i)) :: (62, L.he, .arr 1 (hd.map .i)) :: (66, L.st, .arr 1 (s.stood.map .b)) :: (16, L.x, .arr 6 [.agg [.b pw, ints vs, ints gs, .ref 58 L.sa 1 0 p.doors.length, .ref 62 L.he 1 0 p.doors.length, .ref 66 L.st 1 0 p.doors.length]]) :: baseH p T L s.senses vs gs ts) := (by first | (refine Weak.of ?_; (repeat (first | exact trivial | refine ⟨rfl, ?_⟩ | refine ⟨by simp [Env.get], ?_⟩)); done) | (refine Weak.pick (by repeat (first | exact trivial | refine ⟨rfl, ?_⟩ | refine ⟨by simp [Env.get], ?_⟩)) (by first | rfl | (simp [pickH, Heap.get, Heap.del, Heap.set, ofV_i, ofV_b]; done))))
  have hb : ∀ f : AV → AV, (elemMap f ∘ AV.i = AV.i) → (elemMap f ∘ Tick.av = Tick.av) → elemMap f p.av = p.av → Heap.mapb f (baseH p T L s.senses vs gs ts) = baseH p T L s.senses vs gs ts := by
    intro f h1 h2 h3
    have h4 : elemMap f (AV.i (T : Int)) = AV.i (T : Int) := congrFun h1 _
    simp only [baseH, Heap.mapb, closeB, List.map_map, h1, h2, List.map_cons, List.map_nil, h3, h4]
  have w2 := Weak.frz (N := 193) 1 58 (E := (16, .ptr 16 L.x 6 0 0) :: (10, .b pw) :: baseE p l T L n) (H := (58, L.sa, .arr 1 (sd.map .i)) :: (62, L.he, .arr 1 (hd.map .i)) :: (66, L.st, .arr 1 (s.stood.map .b)) :: (16, L.x, .arr 6 [.agg [.b pw, ints vs, ints gs, .ref 58 L.sa 1 0 p.doors.length, .ref 62 L.he 1 0 p.doors.length, .ref 66 L.st 1 0 p.doors.length]]) :: baseH p T L s.senses vs gs ts) rfl
  have e2 : Heap.mapb (closeAV [(58, L.sa, .arr 1 (sd.map .i))] 1) (Heap.del 58 ((58, L.sa, .arr 1 (sd.map .i)) :: (62, L.he, .arr 1 (hd.map .i)) :: (66, L.st, .arr 1 (s.stood.map .b)) :: (16, L.x, .arr 6 [.agg [.b pw, ints vs, ints gs, .ref 58 L.sa 1 0 p.doors.length, .ref 62 L.he 1 0 p.doors.length, .ref 66 L.st 1 0 p.doors.length]]) :: baseH p T L s.senses vs gs ts)) = (62, L.he, .arr 1 (hd.map .i)) :: (66, L.st, .arr 1 (s.stood.map .b)) :: (16, L.x, .arr 6 [.agg [.b pw, ints vs, ints gs, ints sd, .ref 62 L.he 1 0 p.doors.length, .ref 66 L.st 1 0 p.doors.length]]) :: baseH p T L s.senses vs gs ts := by
    simp only [Heap.del, if_true, Heap.mapb, closeB, List.map_map, elem_i', elem_b', hb _ (elem_i' _ _) (elem_tick _ _) (elem_panel _ _ _), List.map_cons, List.map_nil, elemMap]
    rw [q1]; rfl
  rw [e2] at w2
  have w3 := Weak.frz (N := 193) 1 62 (E := (16, .ptr 16 L.x 6 0 0) :: (10, .b pw) :: baseE p l T L n) (H := (62, L.he, .arr 1 (hd.map .i)) :: (66, L.st, .arr 1 (s.stood.map .b)) :: (16, L.x, .arr 6 [.agg [.b pw, ints vs, ints gs, ints sd, .ref 62 L.he 1 0 p.doors.length, .ref 66 L.st 1 0 p.doors.length]]) :: baseH p T L s.senses vs gs ts) rfl
  have e3 : Heap.mapb (closeAV [(62, L.he, .arr 1 (hd.map .i))] 1) (Heap.del 62 ((62, L.he, .arr 1 (hd.map .i)) :: (66, L.st, .arr 1 (s.stood.map .b)) :: (16, L.x, .arr 6 [.agg [.b pw, ints vs, ints gs, ints sd, .ref 62 L.he 1 0 p.doors.length, .ref 66 L.st 1 0 p.doors.length]]) :: baseH p T L s.senses vs gs ts)) = (66, L.st, .arr 1 (s.stood.map .b)) :: (16, L.x, .arr 6 [.agg [.b pw, ints vs, ints gs, ints sd, ints hd, .ref 66 L.st 1 0 p.doors.length]]) :: baseH p T L s.senses vs gs ts := by
    simp only [Heap.del, if_true, Heap.mapb, closeB, List.map_map, elem_i', elem_b', hb _ (elem_i' _ _) (elem_tick _ _) (elem_panel _ _ _), List.map_cons, List.map_nil, elemMap]
    rw [q2]; rfl
  rw [e3] at w3
  have w4 := Weak.frz (N := 193) 1 66 (E := (16, .ptr 16 L.x 6 0 0) :: (10, .b pw) :: baseE p l T L n) (H := (66, L.st, .arr 1 (s.stood.map .b)) :: (16, L.x, .arr 6 [.agg [.b pw, ints vs, ints gs, ints sd, ints hd, .ref 66 L.st 1 0 p.doors.length]]) :: baseH p T L s.senses vs gs ts) rfl
  have e4 : Heap.mapb (closeAV [(66, L.st, .arr 1 (s.stood.map .b))] 1) (Heap.del 66 ((66, L.st, .arr 1 (s.stood.map .b)) :: (16, L.x, .arr 6 [.agg [.b pw, ints vs, ints gs, ints sd, ints hd, .ref 66 L.st 1 0 p.doors.length]]) :: baseH p T L s.senses vs gs ts)) = (16, L.x, .arr 6 [Tick.av ⟨pw, vs, gs, sd, hd, s.stood⟩]) :: baseH p T L s.senses vs gs ts := by
    simp only [Heap.del, if_true, Heap.mapb, closeB, List.map_map, elem_i', elem_b', hb _ (elem_i' _ _) (elem_tick _ _) (elem_panel _ _ _), List.map_cons, List.map_nil, elemMap]
    rw [q3]; rfl
  rw [e4] at w4
  exact ((w1.trans w2).trans w3).trans w4
theorem good_of {p : Panel} (h : badPanel p = false) : GoodDoors p ∧ 0 ≤ p.sensors ∧ p.sensors ≤ 12 := by
  simp only [badPanel, Bool.or_eq_false_iff, Bool.not_eq_false', inR_iff, decide_eq_false_iff_not, List.any_eq_false] at h
  obtain ⟨⟨⟨⟨h1, h2⟩, _⟩, _⟩, h5⟩ := h
  refine ⟨⟨by omega, fun g hg => ?_⟩, h1⟩
  have := h5 g hg
  simp only [badGate, Bool.not_eq_true, Bool.or_eq_false_iff, Bool.not_eq_false', inR_iff, decide_eq_false_iff_not, List.any_eq_false] at this
  obtain ⟨⟨_, h7⟩, h8⟩ := this
  refine ⟨by omega, fun s hs => ?_⟩
  have := h8 s hs
  simp only [badSense, Bool.not_eq_true, Bool.or_eq_false_iff, Bool.not_eq_false', inR_iff] at this
  omega
end Go.Proofs.Ytjnencdmejhmjaa.Eng
