/- CONTROL: the loops of the specification's play, walked. -/
import Derived.Test.YtjnencdmejhmjaaV2
import Derived.Test.YtjnencdmejhmjaaEB
namespace Go.Proofs.Ytjnencdmejhmjaa.Eng
open Go Go.RowKit
attribute [local irreducible] insRun planRun AWP holdsAll CallOK Weak Ins.holds
set_option linter.unusedSimpArgs false
set_option linter.unusedVariables false
set_option maxHeartbeats 4000000
structure FL where
  p : Loc
  v : Loc
  g : Loc
  o : Loc
  f : Loc
  s : Loc
  h : Loc
def fE (p : Panel) (l : List Sig) (T : Nat) (L : FL) (t c : Nat) : Env := [(10, .i (t : Nat)), (7, .ref 108 L.o 5 0 c), (8, .ref 19 L.v 1 0 p.sensors.toNat), (9, .ref 22 L.g 1 0 p.sensors.toNat), (1, .i (T : Nat)), (2, .fz 4 (l.map Sig.av)), (3, .ptr 3 L.p 4 0 0)]
def fH (p : Panel) (L : FL) (vs gs : List Int) (fs : List AV) : Heap := [(3, L.p, .arr 4 [p.av]), (19, L.v, .arr 1 (vs.map .i)), (22, L.g, .arr 1 (gs.map .i)), (108, L.o, .arr 5 fs)]
/-- the frame under way -/
def fC (L : FL) (pw : Bool) (x1 x2 : AV) (n : Nat) : AV := .agg [.b pw, x1, x2, .ref 34 L.s 1 0 n, .ref 38 L.h 1 0 n]
theorem sens_loop {p : Panel} {l : List Sig} {T t : Nat} (hl : l.length ≤ 9223372036854775807) (ht : t ≤ 1000) (hs : 0 ≤ p.sensors ∧ p.sensors ≤ 12) (hn : numsOk l) {L : FL} {fs : List AV} {told : List Int} {shut : List Bool} {x1 x2 : AV} {n c : Nat}
    {Q : Exit → Env → Heap → Prop} (hQ : ∀ E' H', Weak 153 E' H' ((11, .ptr 11 L.f 5 0 0) :: fE p l T L t c) ((11, L.f, .arr 5 [fC L (powTo l (t + 1)) x1 x2 n]) :: (34, L.s, .arr 1 (told.map .i)) :: (38, L.h, .arr 1 (shut.map .b)) :: fH p L (memOf p l (t + 1)).values (memOf p l (t + 1)).ages fs) → Q (.exit 2) E' H') :
    AWP Try.prog 153 ir52_l1 ((13, .i (0 : Nat)) :: (12, ints (senTo p.sensors.toNat l (t + 1))) :: (11, .ptr 11 L.f 5 0 0) :: fE p l T L t c) ((11, L.f, .arr 5 [fC L (powTo l (t + 1)) x1 x2 n]) :: (34, L.s, .arr 1 (told.map .i)) :: (38, L.h, .arr 1 (shut.map .b)) :: fH p L (memOf p l t).values (memOf p l t).ages fs) Q := by
  unfold ir52_l1
  have hsn : p.sensors.toNat ≤ 12 := by omega
  obtain ⟨_, hmv, hma⟩ := memOf_len p l t
  have hpw := tickSg_power p l t
  have hse := tickSg_senses p l t
  have hmu := fun j hj => tick_mut p l t (memOf p l t) hn j hj
  have hme : ((memOf p l (t + 1)).values, (memOf p l (t + 1)).ages) = tellTo (tickSg p l t (memOf p l t)) ((memOf p l t).values, (memOf p l t).ages) p.sensors.toNat := rfl
  have hbd := memOf_ages p l t
  generalize tickSg p l t (memOf p l t) = sg at hpw hse hmu hme
  generalize hva : ((memOf p l t).values, (memOf p l t).ages) = va at hme
  have e1 : (memOf p l t).values = va.1 := by rw [← hva]
  have e2 : (memOf p l t).ages = va.2 := by rw [← hva]
  have e3 : (memOf p l (t + 1)).values = (tellTo sg va p.sensors.toNat).1 := by rw [← hme]
  have e4 : (memOf p l (t + 1)).ages = (tellTo sg va p.sensors.toNat).2 := by rw [← hme]
  rw [e1] at hmv
  rw [e2] at hma hbd
  rw [e3, e4] at hQ
  rw [e1, e2]
  refine AWP.loopS (σ := Nat × (List Int × List Int)) (fun r => (13, .i (r.1 : Nat)) :: (12, ints (senTo p.sensors.toNat l (t + 1))) :: (11, .ptr 11 L.f 5 0 0) :: fE p l T L t c) (fun r => (11, L.f, .arr 5 [fC L (powTo l (t + 1)) x1 x2 n]) :: (34, L.s, .arr 1 (told.map .i)) :: (38, L.h, .arr 1 (shut.map .b)) :: fH p L r.2.1 r.2.2 fs) (fun r => r.1 ≤ p.sensors.toNat ∧ r.2 = tellTo sg va r.1) (fun r => p.sensors.toNat - r.1) (0, va) (Weak.refl ..) ⟨by dsimp only; omega, rfl⟩ ?_
  rintro ⟨j, vs, gs⟩ ⟨hj, hr⟩ K2 hK2
  dsimp only at hj hr hK2 ⊢
  have hvl : vs.length = p.sensors.toNat := by have := (tellTo_len sg va j).1; rw [← hr] at this; exact this.trans hmv
  have hal : gs.length = p.sensors.toNat := by have := (tellTo_len sg va j).2; rw [← hr] at this; exact this.trans hma
  by_cases hlt : j < p.sensors.toNat
  · have h1 : gs[j]? = some (rd gs j) := rd_get (by omega)
    have hlen := senTo_len p.sensors.toNat l (t + 1)
    have h3 : (senTo p.sensors.toNat l (t + 1))[j]? = some (rd (senTo p.sensors.toNat l (t + 1)) j) := rd_get (by omega)
    have hmj := hmu j hlt
    rw [← hse] at h3
    have hbj : 0 ≤ rd gs j ∧ rd gs j ≤ t := by
      have h5 := (tell_ages sg va t hbd j j (by omega)).2 (Nat.le_refl _)
      rw [← hr] at h5
      rw [h5]; exact hbd j (by omega)
    rw [← hse] at hK2 ⊢
    have fin : ∀ (r : List Int × List Int) E' H', tellTo sg va (j + 1) = r → Weak 153 E' H' ((13, .i ((j + 1 : Nat) : Int)) :: (12, ints sg.senses) :: (11, .ptr 11 L.f 5 0 0) :: fE p l T L t c) ((11, L.f, .arr 5 [fC L (powTo l (t + 1)) x1 x2 n]) :: (34, L.s, .arr 1 (told.map .i)) :: (38, L.h, .arr 1 (shut.map .b)) :: fH p L r.1 r.2 fs) → K2 E' H' := by
      rintro r E' H' rfl hw
      exact hK2 (j + 1, _) E' H' (by dsimp only; omega) ⟨by dsimp only; omega, rfl⟩ hw
    (refine goA ?_; repeat (refine goN fun _ => ?_; refine goA ?_))
    refine s_if rfl (fun h4 => ?_) (fun h4 => ?_)
    · (refine goA ?_; repeat (refine goN fun _ => ?_; refine goA ?_))
      refine s_call rfl ?_
      refine CallOK.pure (has_ok l hl t 2 j) ?_
      rw [← hmj]
      (refine goA ?_; repeat (refine goN fun _ => ?_; refine goA ?_))
      refine AWP.cond rfl (fun h5 => ?_) (fun h5 => ?_)
      · (refine goA ?_; repeat (refine goN fun _ => ?_; refine goA ?_))
        refine fin (vs.set j (rd sg.senses j), (gs.set j (rd gs j + 1)).set j 0) _ _ ?_ (by first | (refine Weak.of ?_; (repeat (first | exact trivial | refine ⟨rfl, ?_⟩ | refine ⟨by simp [Env.get], ?_⟩)); done) | (refine Weak.pick (by repeat (first | exact trivial | refine ⟨rfl, ?_⟩ | refine ⟨by simp [Env.get], ?_⟩)) (by first | rfl | (simp [pickH, Heap.get, Heap.del, Heap.set, ofV_i, ofV_b]; done))))
        simp at h5
        simp [tellTo, ← hr, hpw, h4, h5]
      · (refine goA ?_; repeat (refine goN fun _ => ?_; refine goA ?_))
        refine fin (vs, gs.set j (rd gs j + 1)) _ _ ?_ (by first | (refine Weak.of ?_; (repeat (first | exact trivial | refine ⟨rfl, ?_⟩ | refine ⟨by simp [Env.get], ?_⟩)); done) | (refine Weak.pick (by repeat (first | exact trivial | refine ⟨rfl, ?_⟩ | refine ⟨by simp [Env.get], ?_⟩)) (by first | rfl | (simp [pickH, Heap.get, Heap.del, Heap.set, ofV_i, ofV_b]; done))))
        simp at h5
        simp [tellTo, ← hr, hpw, h4, h5]
    · have h4' : powTo l (t + 1) = false := h4
      (refine goA ?_; repeat (refine goN fun _ => ?_; refine goA ?_))
      refine fin (vs, gs.set j (rd gs j + 1)) _ _ ?_ (by first | (refine Weak.of ?_; (repeat (first | exact trivial | refine ⟨rfl, ?_⟩ | refine ⟨by simp [Env.get], ?_⟩)); done) | (refine Weak.pick (by repeat (first | exact trivial | refine ⟨rfl, ?_⟩ | refine ⟨by simp [Env.get], ?_⟩)) (by first | rfl | (simp [pickH, Heap.get, Heap.del, Heap.set, ofV_i, ofV_b]; done))))
      simp [tellTo, ← hr, hpw, h4']
  · have hj' : j = p.sensors.toNat := by omega
    subst hj'
    rw [← hr] at hQ
    (refine goA ?_; repeat (refine goN fun _ => ?_; refine goA ?_))
    exact hQ _ _ (by first | (refine Weak.of ?_; (repeat (first | exact trivial | refine ⟨rfl, ?_⟩ | refine ⟨by simp [Env.get], ?_⟩)); done) | (refine Weak.pick (by repeat (first | exact trivial | refine ⟨rfl, ?_⟩ | refine ⟨by simp [Env.get], ?_⟩)) (by first | rfl | (simp [pickH, Heap.get, Heap.del, Heap.set, ofV_i, ofV_b]; done))))
/-- what is told to the first doors -/
def toldTo (p : Panel) (l : List Sig) (t : Nat) : Nat → List Int
  | 0 => List.replicate p.doors.length 0
  | n + 1 => match p.doors[n]? with
    | some d => (toldTo p l t n).set n (decideI p ⟨true, (memOf p l (t + 1)).values, (memOf p l (t + 1)).ages, [], [], []⟩ t d)
    | none => toldTo p l t n
theorem toldTo_len (p : Panel) (l : List Sig) (t n : Nat) : (toldTo p l t n).length = p.doors.length := by
  induction n with
  | zero => simp [toldTo]
  | succ n ih => unfold toldTo; split <;> simp [ih]
theorem told_said (p : Panel) (l : List Sig) (t : Nat) : (tickOf p l t (memOf p l t)).said = if powTo l (t + 1) = true then toldTo p l t p.doors.length else List.replicate p.doors.length 0 := by
  have e : tickOf p l t (memOf p l t) = doorsTo p t (tickSg p l t (memOf p l t)).missed ⟨(tickSg p l t (memOf p l t)).power, (memOf p l (t + 1)).values, (memOf p l (t + 1)).ages, List.replicate p.doors.length 0, List.replicate p.doors.length 0, (tickSg p l t (memOf p l t)).stood⟩ p.doors.length := rfl
  rw [e, tickSg_power]
  have key : ∀ n, (doorsTo p t (tickSg p l t (memOf p l t)).missed ⟨powTo l (t + 1), (memOf p l (t + 1)).values, (memOf p l (t + 1)).ages, List.replicate p.doors.length 0, List.replicate p.doors.length 0, (tickSg p l t (memOf p l t)).stood⟩ n).said = if powTo l (t + 1) = true then toldTo p l t n else List.replicate p.doors.length 0 := by
    intro n
    induction n with
    | zero => simp [doorsTo, toldTo]
    | succ n ih =>
      obtain ⟨_, _, lv, la, _, _⟩ := doorsTo_len p t (tickSg p l t (memOf p l t)).missed ⟨powTo l (t + 1), (memOf p l (t + 1)).values, (memOf p l (t + 1)).ages, List.replicate p.doors.length 0, List.replicate p.doors.length 0, (tickSg p l t (memOf p l t)).stood⟩ n
      unfold doorsTo
      dsimp only
      rw [ih]
      cases hp : powTo l (t + 1)
      · simp
      · rw [hp] at lv la
        simp only [if_true]
        cases hd : p.doors[n]? with
        | none => simp only [toldTo, hd]
        | some d => simp only [toldTo, hd]; rw [decide_same p _ ⟨true, (memOf p l (t + 1)).values, (memOf p l (t + 1)).ages, [], [], []⟩ t d lv la]
  exact key _
theorem close_frame {H : Heap} {a b : Loc} {n : Nat} {pw : Bool} {vs gs td : List Int} {sh : List Bool} (h1 : H.get 34 = some (a, .arr 1 (td.map .i))) (h2 : H.get 38 = some (b, .arr 1 (sh.map .b))) (e1 : n = td.length) (e2 : n = sh.length) :
    closeAV H 2 (.agg [.b pw, ints vs, ints gs, .ref 34 a 1 0 n, .ref 38 b 1 0 n]) = Frame.av ⟨pw, vs, gs, td, sh⟩ := by
  have q1 := close_ints (sz := 1) elem_i' h1 e1 0
  have q2 := close_ints (sz := 1) elem_b' h2 e2 0
  show AV.agg [AV.b pw, ints vs, ints gs, closeAV H 1 _, closeAV H 1 _] = _
  rw [q1, q2]; rfl
theorem told_loop {p : Panel} {l : List Sig} {T t : Nat} (hg : PGood p) {L : FL} {fs : List AV} {vs gs : List Int} {shut : List Bool} (hsh : shut.length = p.doors.length) {c : Nat}
    {Q : Exit → Env → Heap → Prop} (hQ : ∀ E' H', Weak 153 E' H' ((11, .ptr 11 L.f 5 0 0) :: fE p l T L t c) ((11, L.f, .arr 5 [fC L (powTo l (t + 1)) (ints (memOf p l (t + 1)).values) (ints (memOf p l (t + 1)).ages) p.doors.length]) :: (34, L.s, .arr 1 ((tickOf p l t (memOf p l t)).said.map .i)) :: (38, L.h, .arr 1 (shut.map .b)) :: fH p L vs gs fs) → Q (.exit 4) E' H') :
    AWP Try.prog 153 ir52_l2 ((14, .i (0 : Nat)) :: (11, .ptr 11 L.f 5 0 0) :: fE p l T L t c) ((11, L.f, .arr 5 [fC L (powTo l (t + 1)) (ints (memOf p l (t + 1)).values) (ints (memOf p l (t + 1)).ages) p.doors.length]) :: (34, L.s, .arr 1 ((List.replicate p.doors.length 0).map .i)) :: (38, L.h, .arr 1 (shut.map .b)) :: fH p L vs gs fs) Q := by
  unfold ir52_l2
  have hdn := hg.len
  obtain ⟨_, hmv, hma⟩ := memOf_len p l (t + 1)
  refine AWP.loopS (σ := Nat) (fun d => (14, .i (d : Nat)) :: (11, .ptr 11 L.f 5 0 0) :: fE p l T L t c) (fun d => (11, L.f, .arr 5 [fC L (powTo l (t + 1)) (ints (memOf p l (t + 1)).values) (ints (memOf p l (t + 1)).ages) p.doors.length]) :: (34, L.s, .arr 1 ((toldTo p l t d).map .i)) :: (38, L.h, .arr 1 (shut.map .b)) :: fH p L vs gs fs) (fun d => d ≤ p.doors.length ∧ (powTo l (t + 1) = false → d = 0)) (fun d => p.doors.length - d) 0 (Weak.refl ..) ⟨by omega, fun _ => rfl⟩ ?_
  rintro k ⟨hk, h0⟩ K2 hK2
  try dsimp only at hK2 ⊢
  by_cases hlt : k < p.doors.length
  · have hd : p.doors[k]? = some p.doors[k] := by simp
    generalize p.doors[k] = d at hd
    (refine goA ?_; repeat (refine goN fun _ => ?_; refine goA ?_))
    refine AWP.cond rfl (fun hc => ?_) (fun hc => ?_)
    · have hp : powTo l (t + 1) = true := hc
      have htl := toldTo_len p l t k
      (refine goA ?_; repeat (refine goN fun _ => ?_; refine goA ?_))
      refine s_call rfl ?_
      refine CallOK.borrow' 2 (xs' := [p.av, .i (t : Nat), .i (k : Nat), Frame.av ⟨powTo l (t + 1), (memOf p l (t + 1)).values, (memOf p l (t + 1)).ages, toldTo p l t k, shut⟩]) ?_ (rdecide_ok p hg t k d hd ⟨powTo l (t + 1), (memOf p l (t + 1)).values, (memOf p l (t + 1)).ages, toldTo p l t k, shut⟩ hmv hma) rfl ?_
      · simp only [List.map]
        rw [close_frame rfl rfl htl.symm hsh.symm]; rfl
      (refine goA ?_; repeat (refine goN fun _ => ?_; refine goA ?_))
      refine hK2 (k + 1) _ _ (by omega) ⟨by omega, fun h => by rw [hp] at h; cases h⟩ ?_
      have e : toldTo p l t (k + 1) = (toldTo p l t k).set k (decideI p ⟨true, (memOf p l (t + 1)).values, (memOf p l (t + 1)).ages, [], [], []⟩ t d) := by simp only [toldTo, hd]
      rw [e]
      exact (by first | (refine Weak.of ?_; (repeat (first | exact trivial | refine ⟨rfl, ?_⟩ | refine ⟨by simp [Env.get], ?_⟩)); done) | (refine Weak.pick (by repeat (first | exact trivial | refine ⟨rfl, ?_⟩ | refine ⟨by simp [Env.get], ?_⟩)) (by first | rfl | (simp [pickH, Heap.get, Heap.del, Heap.set, ofV_i, ofV_b]; done))))
    · have hp : powTo l (t + 1) = false := hc
      have hk0 := h0 hp
      subst hk0
      have e : (tickOf p l t (memOf p l t)).said = toldTo p l t 0 := by rw [told_said, hp]; rfl
      rw [e] at hQ
      (refine goA ?_; repeat (refine goN fun _ => ?_; refine goA ?_))
      exact hQ _ _ (by first | (refine Weak.of ?_; (repeat (first | exact trivial | refine ⟨rfl, ?_⟩ | refine ⟨by simp [Env.get], ?_⟩)); done) | (refine Weak.pick (by repeat (first | exact trivial | refine ⟨rfl, ?_⟩ | refine ⟨by simp [Env.get], ?_⟩)) (by first | rfl | (simp [pickH, Heap.get, Heap.del, Heap.set, ofV_i, ofV_b]; done))))
  · have hk' : k = p.doors.length := by omega
    subst hk'
    have e : (tickOf p l t (memOf p l t)).said = toldTo p l t p.doors.length := by
      rw [told_said]
      cases hp : powTo l (t + 1)
      · have := h0 hp
        rw [this]; simp [toldTo]; exact List.eq_nil_of_length_eq_zero this
      · rfl
    rw [e] at hQ
    (refine goA ?_; repeat (refine goN fun _ => ?_; refine goA ?_))
    exact hQ _ _ (by first | (refine Weak.of ?_; (repeat (first | exact trivial | refine ⟨rfl, ?_⟩ | refine ⟨by simp [Env.get], ?_⟩)); done) | (refine Weak.pick (by repeat (first | exact trivial | refine ⟨rfl, ?_⟩ | refine ⟨by simp [Env.get], ?_⟩)) (by first | rfl | (simp [pickH, Heap.get, Heap.del, Heap.set, ofV_i, ofV_b]; done))))
end Go.Proofs.Ytjnencdmejhmjaa.Eng
