/- CONTROL: the loop over the doors in the specification's play, walked. -/
import Derived.Test.YtjnencdmejhmjaaV3
namespace Go.Proofs.Ytjnencdmejhmjaa.Eng
open Go Go.RowKit
attribute [local irreducible] insRun planRun AWP holdsAll CallOK Weak Ins.holds
set_option linter.unusedSimpArgs false
set_option linter.unusedVariables false
set_option maxHeartbeats 4000000
def shutTo (p : Panel) (l : List Sig) (t d : Nat) : List Bool := (List.range p.doors.length).map fun i => decide (i < d) && shutN p l t i
theorem shutTo_len (p : Panel) (l : List Sig) (t d : Nat) : (shutTo p l t d).length = p.doors.length := by simp [shutTo]
theorem shutTo_zero (p : Panel) (l : List Sig) (t : Nat) : shutTo p l t 0 = List.replicate p.doors.length false := by
  apply List.ext_getElem? ; intro i
  simp [shutTo, List.getElem?_replicate, List.getElem?_range]
  split <;> simp_all
theorem shutTo_set (p : Panel) (l : List Sig) (t d : Nat) (hd : d < p.doors.length) : shutTo p l t (d + 1) = (shutTo p l t d).set d (shutN p l t d) := by
  apply List.ext_getElem? ; intro i
  rw [List.getElem?_set, shutTo_len]
  simp only [shutTo, List.getElem?_map]
  by_cases hi : i < p.doors.length
  · rw [List.getElem?_range hi]
    by_cases e : d = i
    · subst e; simp [hd]
    · rw [if_neg e]
      simp only [Option.map_some, Option.some.injEq]
      have : (i < d + 1) ↔ (i < d) := by omega
      simp [this]
  · rw [List.getElem?_eq_none (by simp; omega), if_neg (by omega)]; rfl
theorem shutTo_all (p : Panel) (l : List Sig) (t : Nat) : shutTo p l t p.doors.length = (frameAt p l t).shut := by
  simp only [shutTo, frameAt]
  apply List.map_congr_left
  intro i hi
  simp at hi
  simp [hi]
theorem close_row {H : Heap} {h n sz : Nat} {a : Loc} {els : List AV} (hH : H.get h = some (a, .arr sz els)) (hn : n = els.length) (k : Nat) : closeAV H (k + 1) (.ref h a sz 0 n) = .fz sz (els.map (elemMap (closeAV H k))) := by
  subst hn
  simp only [closeAV, hH]
  simp [List.take_of_length_le]
theorem elem_frame (H : Heap) (k : Nat) : elemMap (closeAV H k) ∘ Frame.av = Frame.av := by funext x; cases k <;> rfl
/-- the frame under way, behind what is told -/
def fD (p : Panel) (l : List Sig) (t : Nat) (L : FL) : AV := .agg [.b (powTo l (t + 1)), ints (memOf p l (t + 1)).values, ints (memOf p l (t + 1)).ages, ints (tickOf p l t (memOf p l t)).said, .ref 38 L.h 1 0 p.doors.length]
def frameCur (p : Panel) (l : List Sig) (t d : Nat) : Frame := ⟨powTo l (t + 1), (memOf p l (t + 1)).values, (memOf p l (t + 1)).ages, (tickOf p l t (memOf p l t)).said, shutTo p l t d⟩
theorem cur_close {p : Panel} {l : List Sig} {t k : Nat} {L : FL} {H : Heap} (h : H.get 38 = some (L.h, .arr 1 ((shutTo p l t k).map .b))) : elemMap (closeAV H 2) (fD p l t L) = (frameCur p l t k).av := by
  have q := close_ints (sz := 1) (n := p.doors.length) elem_b' h (shutTo_len p l t k).symm 1
  show AV.agg [AV.b _, ints _, ints _, ints _, closeAV H 2 (.ref 38 L.h 1 0 p.doors.length)] = _
  rw [q]; rfl
theorem said_len (p : Panel) (l : List Sig) (t : Nat) : (tickOf p l t (memOf p l t)).said.length = p.doors.length := by
  rw [told_said]; split <;> simp [toldTo_len]
theorem shut_loop {p : Panel} {l : List Sig} {T t : Nat} (hg : PGood p) (hl : l.length ≤ 9223372036854775807) (ht : t ≤ 1000) (hn : numsOk l) {L : FL} {vs gs : List Int}
    {Q : Exit → Env → Heap → Prop} (hQ : ∀ E' H', Weak 153 E' H' ((11, .ptr 11 L.f 5 0 0) :: fE p l T L t (t + 1)) ((11, L.f, .arr 5 [fD p l t L]) :: (38, L.h, .arr 1 ((shutTo p l t p.doors.length).map .b)) :: fH p L vs gs ((framesTo p l t).map Frame.av ++ [fD p l t L])) → Q (.exit 6) E' H') :
    AWP Try.prog 153 ir52_l3 ((15, .i (0 : Nat)) :: (11, .ptr 11 L.f 5 0 0) :: fE p l T L t (t + 1)) ((11, L.f, .arr 5 [fD p l t L]) :: (38, L.h, .arr 1 ((shutTo p l t 0).map .b)) :: fH p L vs gs ((framesTo p l t).map Frame.av ++ [fD p l t L])) Q := by
  unfold ir52_l3
  have hdn := hg.len
  refine AWP.loopS (σ := Nat) (fun k => (15, .i (k : Nat)) :: (11, .ptr 11 L.f 5 0 0) :: fE p l T L t (t + 1)) (fun k => (11, L.f, .arr 5 [fD p l t L]) :: (38, L.h, .arr 1 ((shutTo p l t k).map .b)) :: fH p L vs gs ((framesTo p l t).map Frame.av ++ [fD p l t L])) (fun k => k ≤ p.doors.length) (fun k => p.doors.length - k) 0 (Weak.refl ..) (by first | omega | (dsimp only; omega)) ?_
  intro k hk K2 hK2
  try dsimp only at hk hK2 ⊢
  by_cases hlt : k < p.doors.length
  · have hd : p.doors[k]? = some p.doors[k] := by simp
    generalize p.doors[k] = d at hd
    have hdw := hg.wait d (List.mem_of_getElem? hd)
    have hsl := shutTo_len p l t k
    have hsd := said_len p l t
    have fin : ∀ v E' H', shutN p l t k = v → Weak 153 E' H' ((15, .i ((k + 1 : Nat) : Int)) :: (11, .ptr 11 L.f 5 0 0) :: fE p l T L t (t + 1)) ((11, L.f, .arr 5 [fD p l t L]) :: (38, L.h, .arr 1 (((shutTo p l t k).set k v).map .b)) :: fH p L vs gs ((framesTo p l t).map Frame.av ++ [fD p l t L])) → K2 E' H' := by
      rintro v E' H' rfl hw
      refine hK2 (k + 1) E' H' (by omega) (by omega) ?_
      rw [shutTo_set p l t k hlt]; exact hw
    have hfs : ∀ n, n ≤ t → ∃ f, (framesTo p l t ++ [frameCur p l t k])[n]? = some f ∧ f.power = powTo l (n + 1) ∧ rd f.told k = saidI p l n d := by
      intro n hnt
      by_cases e : n < t
      · refine ⟨frameAt p l n, ?_, rfl, (tick_at p l n hn k d hd).1⟩
        rw [List.getElem?_append_left (by rw [framesTo_len]; exact e)]
        exact framesTo_get p l e
      · have : n = t := by omega
        subst this
        refine ⟨frameCur p l n k, ?_, rfl, (tick_at p l n hn k d hd).1⟩
        rw [List.getElem?_append_right (by rw [framesTo_len]; exact Nat.le_refl _), framesTo_len]; simp
    have hrule := shut_rule p hg.wait l hn k d hd (framesTo p l t ++ [frameCur p l t k]) t hfs
    have hfl : (framesTo p l t ++ [frameCur p l t k]).length = t + 1 := by simp [framesTo_len]
    obtain ⟨was, hwas⟩ : ∃ w, (decide (0 < t) && shutN p l (t - 1) k) = w := ⟨_, rfl⟩
    rw [hwas] at hrule
    refine AWP.seq' ?_
    refine AWP.seq' ?_
    (refine goI ?_; repeat (refine goN fun _ => ?_; refine goI ?_))
    refine AWP.seq' ?_
    (refine goI ?_; repeat (refine goN fun _ => ?_; refine goI ?_))
    refine AWP.seqCutQ (σ := Unit) (fun _ => (16, .b was) :: (15, .i (k : Nat)) :: (11, .ptr 11 L.f 5 0 0) :: fE p l T L t (t + 1)) (fun _ => (11, L.f, .arr 5 [fD p l t L]) :: (38, L.h, .arr 1 ((shutTo p l t k).map .b)) :: fH p L vs gs ((framesTo p l t).map Frame.av ++ [fD p l t L])) ?_ ?_
    · intro K Q hK
      by_cases ht0 : t = 0
      · have hw0 : was = false := by rw [← hwas]; simp [ht0]
        subst hw0
        (refine goA ?_; repeat (refine goN fun _ => ?_; refine goA ?_))
        exact hK () _ _ (by first | (refine Weak.of ?_; (repeat (first | exact trivial | refine ⟨rfl, ?_⟩ | refine ⟨by simp [Env.get], ?_⟩)); done) | (refine Weak.pick (by repeat (first | exact trivial | refine ⟨rfl, ?_⟩ | refine ⟨by simp [Env.get], ?_⟩)) (by first | rfl | (simp [pickH, Heap.get, Heap.del, Heap.set, ofV_i, ofV_b]; done))))
      · have hw1 : shutN p l (t - 1) k = was := by rw [← hwas]; simp; omega
        have hsh := frame_shut p l (t - 1) k hlt
        rw [hw1] at hsh
        have hel : ((framesTo p l t).map Frame.av ++ [fD p l t L])[t - 1]? = some (frameAt p l (t - 1)).av := by
          rw [List.getElem?_append_left (by rw [List.length_map, framesTo_len]; omega)]
          exact get_map _ (framesTo_get p l (by omega))
        (refine goA ?_; repeat (refine goN fun _ => ?_; refine goA ?_))
        refine s_iaddr_ref rfl rfl (by omega) (by omega) ?_
        rw [show 0 + ((t : Int) - 1).toNat = t - 1 by omega]
        (refine goA ?_; repeat (refine goN fun _ => ?_; refine goA ?_))
        exact hK () _ _ (by first | (refine Weak.of ?_; (repeat (first | exact trivial | refine ⟨rfl, ?_⟩ | refine ⟨by simp [Env.get], ?_⟩)); done) | (refine Weak.pick (by repeat (first | exact trivial | refine ⟨rfl, ?_⟩ | refine ⟨by simp [Env.get], ?_⟩)) (by first | rfl | (simp [pickH, Heap.get, Heap.del, Heap.set, ofV_i, ofV_b]; done))))
    rintro ⟨⟩
    try dsimp only
    by_cases hp : powTo l (t + 1) = true
    · (refine goA ?_; repeat (refine goN fun _ => ?_; refine goA ?_))
      refine s_call rfl ?_
      refine CallOK.borrow' 3 (xs' := [p.av, .fz 4 (l.map Sig.av), .i (k : Nat), .fz 5 ((framesTo p l t ++ [frameCur p l t k]).map Frame.av)]) ?_ (wants_ok p l hl k d hd hdw (by omega) (framesTo p l t ++ [frameCur p l t k]) (by omega) (fun f hf => ?_)) rfl ?_
      · simp only [List.map]
        rw [close_row (els := (framesTo p l t).map Frame.av ++ [fD p l t L]) rfl (by simp [framesTo_len]) 2]
        rw [List.map_append, List.map_append, List.map_map, elem_frame]
        simp only [List.map_cons, List.map_nil]
        rw [cur_close rfl]; rfl
      · rcases List.mem_append.1 hf with hf | hf
        · simp only [framesTo, List.mem_map, List.mem_range] at hf
          obtain ⟨n, _, rfl⟩ := hf
          show k < (tickOf p l n (memOf p l n)).said.length
          rw [said_len]; exact hlt
        · rw [List.mem_singleton] at hf; subst hf
          show k < (tickOf p l t (memOf p l t)).said.length
          rw [said_len]; exact hlt
      rw [hfl, show ((t + 1 : Nat) : Int) - 1 - d.wait = (t : Int) - d.wait by omega]
      rw [hp, Bool.true_and] at hrule
      generalize wantsB l k (framesTo p l t ++ [frameCur p l t k]) ((t : Int) - d.wait) (t + 1) = w at hrule
      cases w
      · (refine goA ?_; repeat (refine goN fun _ => ?_; refine goA ?_))
        exact fin false _ _ (by rw [hrule]; rfl) (by first | (refine Weak.of ?_; (repeat (first | exact trivial | refine ⟨rfl, ?_⟩ | refine ⟨by simp [Env.get], ?_⟩)); done) | (refine Weak.pick (by repeat (first | exact trivial | refine ⟨rfl, ?_⟩ | refine ⟨by simp [Env.get], ?_⟩)) (by first | rfl | (simp [pickH, Heap.get, Heap.del, Heap.set, ofV_i, ofV_b]; done))))
      · (refine goA ?_; repeat (refine goN fun _ => ?_; refine goA ?_))
        refine s_call rfl ?_
        refine CallOK.pure (has_ok l hl t 6 k) ?_
        cases hh : hasB l t 6 k
        · rw [hh] at hrule
          (refine goA ?_; repeat (refine goN fun _ => ?_; refine goA ?_))
          exact fin true _ _ (by rw [hrule]; rfl) (by first | (refine Weak.of ?_; (repeat (first | exact trivial | refine ⟨rfl, ?_⟩ | refine ⟨by simp [Env.get], ?_⟩)); done) | (refine Weak.pick (by repeat (first | exact trivial | refine ⟨rfl, ?_⟩ | refine ⟨by simp [Env.get], ?_⟩)) (by first | rfl | (simp [pickH, Heap.get, Heap.del, Heap.set, ofV_i, ofV_b]; done))))
        · rw [hh] at hrule
          (refine goA ?_; repeat (refine goN fun _ => ?_; refine goA ?_))
          exact fin was _ _ (by rw [hrule]; simp) (by first | (refine Weak.of ?_; (repeat (first | exact trivial | refine ⟨rfl, ?_⟩ | refine ⟨by simp [Env.get], ?_⟩)); done) | (refine Weak.pick (by repeat (first | exact trivial | refine ⟨rfl, ?_⟩ | refine ⟨by simp [Env.get], ?_⟩)) (by first | rfl | (simp [pickH, Heap.get, Heap.del, Heap.set, ofV_i, ofV_b]; done))))
    · have hp' : powTo l (t + 1) = false := by simpa using hp
      rw [hp', Bool.false_and, Bool.false_and] at hrule
      (refine goA ?_; repeat (refine goN fun _ => ?_; refine goA ?_))
      exact fin false _ _ hrule (by first | (refine Weak.of ?_; (repeat (first | exact trivial | refine ⟨rfl, ?_⟩ | refine ⟨by simp [Env.get], ?_⟩)); done) | (refine Weak.pick (by repeat (first | exact trivial | refine ⟨rfl, ?_⟩ | refine ⟨by simp [Env.get], ?_⟩)) (by first | rfl | (simp [pickH, Heap.get, Heap.del, Heap.set, ofV_i, ofV_b]; done))))
  · have hk' : k = p.doors.length := by omega
    subst hk'
    (refine goA ?_; repeat (refine goN fun _ => ?_; refine goA ?_))
    exact hQ _ _ (by first | (refine Weak.of ?_; (repeat (first | exact trivial | refine ⟨rfl, ?_⟩ | refine ⟨by simp [Env.get], ?_⟩)); done) | (refine Weak.pick (by repeat (first | exact trivial | refine ⟨rfl, ?_⟩ | refine ⟨by simp [Env.get], ?_⟩)) (by first | rfl | (simp [pickH, Heap.get, Heap.del, Heap.set, ofV_i, ofV_b]; done))))
end Go.Proofs.Ytjnencdmejhmjaa.Eng
