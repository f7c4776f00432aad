/- CONTROL: which doors are shut in each tick; Play. -/
import Derived.Test.YtjnencdmejhmjaaS3
import Derived.Test.YtjnencdmejhmjaaW5
import Derived.Test.YtjnencdmejhmjaaW10
import Derived.Test.YtjnencdmejhmjaaW11
namespace Go.Proofs.Ytjnencdmejhmjaa.Eng
open Go Go.RowKit
attribute [local irreducible] insRun planRun AWP holdsAll CallOK Weak Ins.holds
set_option linter.unusedSimpArgs false
set_option linter.unusedVariables false
set_option maxHeartbeats 4000000
theorem elem_door (H : Heap) (k : Nat) : elemMap (closeAV H k) ∘ Door.av = Door.av := by funext x; cases k <;> rfl
theorem row_loop {p : Panel} (hw : GoodW p) {ts : List Tick} {x : Tick} {ds0 : List Door} {n T : Nat} {outs : List Nat} (hh : x.heard.length = p.doors.length) (hst : x.stood.length = p.doors.length) (hds : DoorsOk ds0) (hdl : ds0.length = p.doors.length) {a2 a7 a13 a64 : Loc}
    {Q : Exit → Env → Heap → Prop} (hQ : ∀ E' H', Weak 67 E' H' [(8, .i ((inTo p x ds0 p.doors.length).2 : Nat)), (5, .ref 13 a13 2 0 p.doors.length), (4, .ref 64 a64 1 0 n), (2, .ptr 2 a2 4 0 0), (16, .i (n : Nat)), (15, .i (T : Nat)), (14, .fz 6 (ts.map Tick.av))] [(2, a2, .arr 4 [p.av]), (13, a13, .arr 2 ((inTo p x ds0 p.doors.length).1.map Door.av)), (64, a64, .arr 1 (nats outs))] → Q (.exit 2) E' H') :
    AWP Try.prog 67 ir46_l1 [(22, .i (0 : Nat)), (21, .i (p.doors.length : Nat)), (8, .i (0 : Nat)), (5, .ref 13 a13 2 0 p.doors.length), (4, .ref 64 a64 1 0 n), (2, .ptr 2 a2 4 0 0), (7, .ptr 7 a7 6 0 0), (16, .i (n : Nat)), (15, .i (T : Nat)), (14, .fz 6 (ts.map Tick.av))] [(2, a2, .arr 4 [p.av]), (7, a7, .arr 6 [x.av]), (13, a13, .arr 2 (ds0.map Door.av)), (64, a64, .arr 1 (nats outs))] Q := by
  unfold ir46_l1
  refine AWP.loopS (σ := Nat × (List Door × Nat)) (fun s => [(22, .i (s.1 : Nat)), (21, .i (p.doors.length : Nat)), (8, .i (s.2.2 : Nat)), (5, .ref 13 a13 2 0 p.doors.length), (4, .ref 64 a64 1 0 n), (2, .ptr 2 a2 4 0 0), (7, .ptr 7 a7 6 0 0), (16, .i (n : Nat)), (15, .i (T : Nat)), (14, .fz 6 (ts.map Tick.av))]) (fun s => [(2, a2, .arr 4 [p.av]), (7, a7, .arr 6 [x.av]), (13, a13, .arr 2 (s.2.1.map Door.av)), (64, a64, .arr 1 (nats outs))]) (fun s => s.1 ≤ p.doors.length ∧ inTo p x ds0 s.1 = s.2) (fun s => p.doors.length - s.1) (0, ds0, 0) (Weak.refl ..) ⟨by dsimp only; omega, rfl⟩ ?_
  rintro ⟨i, ds, r⟩ ⟨hi, hI⟩ K2 hK2
  dsimp only at hi hI hK2 ⊢
  obtain ⟨b1, b2, b3⟩ := inTo_ok hw (x := x) hds i
  rw [hI] at b1 b2 b3
  dsimp only at b1 b2 b3
  have hdn := hw.2.2.2
  by_cases hlt : i < p.doors.length
  · have h1 : p.doors[i]? = some p.doors[i] := by simp [hlt]
    generalize p.doors[i] = g at h1
    have h2 : ds[i]? = some (doorAt ds i) := doorAt_get (by omega)
    have h3 : x.stood[i]? = some (rdB x.stood i) := rdB_get (by omega)
    have h4 : x.heard[i]? = some (rd x.heard i) := rd_get (by omega)
    have hwt : g.wait = waitOf p i := by simp [waitOf, h1]
    have hd0 := doorAt_ok b1 i
    have h5 : (ds.set i (newDoor p x ds i))[i]? = some (newDoor p x ds i) := by rw [List.getElem?_set_self (by omega)]
    have fin : ∀ r' E' H', (if (newDoor p x ds i).shut = true then r + 2 ^ i else r) = r' → Weak 67 E' H' [(22, .i ((i + 1 : Nat) : Int)), (21, .i (p.doors.length : Nat)), (8, .i (r' : Nat)), (5, .ref 13 a13 2 0 p.doors.length), (4, .ref 64 a64 1 0 n), (2, .ptr 2 a2 4 0 0), (7, .ptr 7 a7 6 0 0), (16, .i (n : Nat)), (15, .i (T : Nat)), (14, .fz 6 (ts.map Tick.av))] [(2, a2, .arr 4 [p.av]), (7, a7, .arr 6 [x.av]), (13, a13, .arr 2 ((ds.set i (newDoor p x ds i)).map Door.av)), (64, a64, .arr 1 (nats outs))] → K2 E' H' := by
      rintro r' E' H' hr hx
      exact hK2 (i + 1, ds.set i (newDoor p x ds i), r') E' H' (by dsimp only; omega) ⟨by dsimp only; omega, by simp only [inTo, hI]; rw [hr]⟩ hx
    (refine goA ?_; repeat (refine goN fun _ => ?_; refine goA ?_))
    refine s_call rfl ?_
    refine CallOK.pure (next_ok (doorAt ds i) g.wait x.power (rdB x.stood i) (rd x.heard i) (by omega)) ?_
    rw [hwt]
    (refine goA ?_; repeat (refine goN fun _ => ?_; refine goA ?_))
    refine s_setA (g := Door.av) (fun _ => ⟨rfl, rfl, rfl⟩) rfl rfl rfl (by omega) ?_
    (refine goA ?_; repeat (refine goN fun _ => ?_; refine goA ?_))
    refine AWP.cond rfl (fun hc => ?_) (fun hc => ?_)
    · replace hc : (newDoor p x ds i).shut = true := hc
      have ho := or_row (i := i) (r := r) (by omega) b3
      (refine goA ?_; repeat (refine goN fun _ => ?_; refine goA ?_))
      refine fin (r + 2 ^ i) _ _ (by rw [if_pos hc]) ?_
      rw [← ho]
      exact (by first | (refine Weak.of ?_; (repeat (first | exact trivial | refine ⟨rfl, ?_⟩ | refine ⟨by simp [Env.get], ?_⟩)); done) | (refine Weak.pick (by repeat (first | exact trivial | refine ⟨rfl, ?_⟩ | refine ⟨by simp [Env.get], ?_⟩)) (by first | rfl | (simp [pickH, Heap.get, Heap.del, Heap.set, ofV_i, ofV_b]; done))))
    · replace hc : (newDoor p x ds i).shut = false := hc
      (refine goA ?_; repeat (refine goN fun _ => ?_; refine goA ?_))
      refine fin r _ _ (by rw [if_neg (by simp [hc])]) ?_
      exact (by first | (refine Weak.of ?_; (repeat (first | exact trivial | refine ⟨rfl, ?_⟩ | refine ⟨by simp [Env.get], ?_⟩)); done) | (refine Weak.pick (by repeat (first | exact trivial | refine ⟨rfl, ?_⟩ | refine ⟨by simp [Env.get], ?_⟩)) (by first | rfl | (simp [pickH, Heap.get, Heap.del, Heap.set, ofV_i, ofV_b]; done))))
  · have hi' : i = p.doors.length := by omega
    subst hi'
    rw [hI] at hQ
    (refine goA ?_; repeat (refine goN fun _ => ?_; refine goA ?_))
    exact hQ _ _ (by first | (refine Weak.of ?_; (repeat (first | exact trivial | refine ⟨rfl, ?_⟩ | refine ⟨by simp [Env.get], ?_⟩)); done) | (refine Weak.pick (by repeat (first | exact trivial | refine ⟨rfl, ?_⟩ | refine ⟨by simp [Env.get], ?_⟩)) (by first | rfl | (simp [pickH, Heap.get, Heap.del, Heap.set, ofV_i, ofV_b]; done))))
theorem rows_ok (p : Panel) (hw : GoodW p) (ts : List Tick) (hl : ts.length ≤ 1000000) (ht : ∀ x ∈ ts, x.heard.length = p.doors.length ∧ x.stood.length = p.doors.length) : PCalls Try.prog 46 [p.av, .fz 6 (ts.map Tick.av)] (.fz 1 (nats (inAll p ts))) := by
  have hdn := hw.2.2.2
  refine PCalls.body fn46 _ (by simp) ?_
  unfold ir46
  (refine goA ?_; repeat (refine goN fun _ => ?_; refine goA ?_))
  rename_i a2 a13
  simp only [List.length_map]
  refine AWP.weak (Weak.virt 64 4 1 rfl) ?_
  refine AWP.loopS (σ := Nat × Loc) (fun s => [(5, .ref 13 a13 2 0 p.doors.length), (4, .ref 64 s.2 1 0 s.1), (2, .ptr 2 a2 4 0 0), (16, .i (s.1 : Nat)), (15, .i (ts.length : Nat)), (14, .fz 6 (ts.map Tick.av))]) (fun s => [(2, a2, .arr 4 [p.av]), (13, a13, .arr 2 ((outTo p ts s.1).1.map Door.av)), (64, s.2, .arr 1 (nats (outTo p ts s.1).2))]) (fun s => s.1 ≤ ts.length) (fun s => ts.length - s.1) (0, ⟨0, 0, true⟩) ?_ (by dsimp only; omega) ?_
  · refine Weak.pick ⟨rfl, rfl, rfl, rfl, rfl, rfl, trivial⟩ ?_
    simp [pickH, Heap.get, Heap.del, outTo, nats]
    exact ⟨rfl, .inr rfl⟩
  rintro ⟨n, a64⟩ hn K2 hK2
  dsimp only at hn hK2 ⊢
  obtain ⟨q1, q2, q3⟩ := outTo_ok hw ts n
  by_cases hlt : n < ts.length
  · have hx : ts[n]? = some ts[n] := by simp [hlt]
    obtain ⟨hh, hst⟩ := ht ts[n] (by simp)
    generalize ts[n] = x at hx hh hst
    have e1 : outTo p ts (n + 1) = ((inTo p x (outTo p ts n).1 p.doors.length).1, (outTo p ts n).2 ++ [(inTo p x (outTo p ts n).1 p.doors.length).2]) := by simp only [outTo, hx]
    (refine goA ?_; repeat (refine goN fun _ => ?_; refine goA ?_))
    refine AWP.weak (by first | (refine Weak.of ?_; (repeat (first | exact trivial | refine ⟨rfl, ?_⟩ | refine ⟨by simp [Env.get], ?_⟩)); done) | (refine Weak.pick (by repeat (first | exact trivial | refine ⟨rfl, ?_⟩ | refine ⟨by simp [Env.get], ?_⟩)) (by first | rfl | (simp [pickH, Heap.get, Heap.del, Heap.set, ofV_i, ofV_b]; done)))) (row_loop (ts := ts) (x := x) (ds0 := (outTo p ts n).1) (n := n) (T := ts.length) (outs := (outTo p ts n).2) hw hh hst q1 q2 ?_)
    intro E' H' hw2
    refine exit_in ?_
    refine then_norm ?_
    refine AWP.weak hw2 ?_
    (refine goA ?_; repeat (refine goN fun _ => ?_; refine goA ?_))
    refine s_app_ref rfl rfl rfl rfl (by simp [nats, q3 hn]) rfl (by omega) fun a2 => ?_
    (refine goA ?_; repeat (refine goN fun _ => ?_; refine goA ?_))
    refine hK2 (n + 1, a2) _ _ (by dsimp only; omega) (by dsimp only; omega) ?_
    dsimp only
    simp only [e1, nats, List.map_append, List.map_cons, List.map_nil]
    exact (by first | (refine Weak.of ?_; (repeat (first | exact trivial | refine ⟨rfl, ?_⟩ | refine ⟨by simp [Env.get], ?_⟩)); done) | (refine Weak.pick (by repeat (first | exact trivial | refine ⟨rfl, ?_⟩ | refine ⟨by simp [Env.get], ?_⟩)) (by first | rfl | (simp [pickH, Heap.get, Heap.del, Heap.set, ofV_i, ofV_b]; done))))
  · have hn' : n = ts.length := by omega
    subst hn'
    (refine goA ?_; repeat (refine goN fun _ => ?_; refine goA ?_))
    refine post_ret rfl ⟨1, ?_⟩
    refine close_ints (g := fun n : Nat => AV.i (n : Nat)) (xs := inAll p ts) (fun H k => ?_) rfl (q3 (Nat.le_refl _)).symm 0
    funext n; cases k <;> rfl
theorem play_ok (p : Panel) (hsm : p.small) (ticks : Int) (l : List Sig) (hl : l.length ≤ 9223372036854775807) : PCalls Try.prog 17 [p.av, .i ticks, .fz 4 (l.map Sig.av)] (.tup [.fz 1 (nats (playR p ticks l)), .i (playE p ticks l)]) := by
  refine PCalls.body fn17 _ (by simp) ?_
  unfold ir17
  (refine goA ?_; repeat (refine goN fun _ => ?_; refine goA ?_))
  refine s_call rfl ?_
  refine CallOK.pure (begin_ok p hsm ticks l hl) ?_
  (refine goA ?_; repeat (refine goN fun _ => ?_; refine goA ?_))
  refine AWP.cond rfl (fun h1 => ?_) (fun h1 => ?_)
  · have hE : ¬ beginE p ticks l = 0 := by simpa using h1
    refine AWP.seq' ?_
    (refine goI ?_; repeat (refine goN fun _ => ?_; refine goI ?_))
    refine AWP.weak (Weak.nilfz 6 1 rfl) ?_
    (refine goA ?_; repeat (refine goN fun _ => ?_; refine goA ?_))
    refine post_ret rfl ⟨0, ?_⟩
    rw [playR, if_neg hE]; rfl
  · have hE : beginE p ticks l = 0 := by simpa using h1
    have hb : badPanel p = false := by
      cases hb : badPanel p
      · rfl
      · simp [beginE, hb] at hE
    have ht : 0 ≤ ticks ∧ ticks ≤ 1000 := by
      cases hr : inR ticks 0 1000
      · simp [beginE, hb, hr] at hE
      · exact inR_iff.1 hr
    have hT : beginT p ticks l = ticksTo p l ticks.toNat := by rw [beginT, if_pos hE]
    rw [hT]
    (refine goA ?_; repeat (refine goN fun _ => ?_; refine goA ?_))
    refine s_call rfl ?_
    refine CallOK.pure (rows_ok p (goodW_of hb) (ticksTo p l ticks.toNat) (by rw [ticksTo_len]; omega) (ticksTo_rows p l _)) ?_
    (refine goA ?_; repeat (refine goN fun _ => ?_; refine goA ?_))
    refine post_ret rfl ⟨0, ?_⟩
    rw [playR, if_pos hE, playE, hE]; rfl
end Go.Proofs.Ytjnencdmejhmjaa.Eng
