/- CONTROL: Shuts and Tolerates of both, walked. -/
import Derived.Test.YtjnencdmejhmjaaV8
import Derived.Test.YtjnencdmejhmjaaV6
namespace Go.Proofs.Ytjnencdmejhmjaa.Eng
open Go Go.RowKit
attribute [local irreducible] insRun planRun AWP holdsAll CallOK Weak Ins.holds
set_option linter.unusedSimpArgs false
set_option linter.unusedVariables false
set_option maxHeartbeats 4000000
/-- the first tick in which something is, how long it is at the most, and how long it has been -/
def shTo (f : Nat → Bool) : Nat → Int × Int × Int
  | 0 => (-1, 0, 0)
  | n + 1 => if f n = true then (if (shTo f n).1 < 0 then (n : Int) else (shTo f n).1, if (shTo f n).2.2 + 1 > (shTo f n).2.1 then (shTo f n).2.2 + 1 else (shTo f n).2.1, (shTo f n).2.2 + 1) else ((shTo f n).1, (shTo f n).2.1, 0)
theorem shTo_bnd (f : Nat → Bool) (n : Nat) : (-1 ≤ (shTo f n).1 ∧ (shTo f n).1 ≤ n) ∧ (0 ≤ (shTo f n).2.1 ∧ (shTo f n).2.1 ≤ n) ∧ 0 ≤ (shTo f n).2.2 ∧ (shTo f n).2.2 ≤ n := by
  induction n with
  | zero => simp [shTo]
  | succ n ih =>
    unfold shTo
    split
    · dsimp only
      refine ⟨?_, ?_, ?_⟩
      · split <;> omega
      · split <;> omega
      · omega
    · dsimp only; omega
def shutsV (p : Panel) (ticks : Int) (l : List Sig) (door : Int) : Int × Int × Int := if beginE p ticks l = 0 then (if inR door 0 ((p.doors.length : Int) - 1) = true then ((shTo (fun t => shutN p l t door.toNat) ticks.toNat).1, (shTo (fun t => shutN p l t door.toNat) ticks.toNat).2.1, 0) else (0, 0, 1)) else (0, 0, beginE p ticks l)
theorem bits3 : ∀ (r : Fin 256) (k : Fin 8), (IntKind.i64.wrap (BitVec.ofInt 64 ((r.val : Int).fdiv (2 ^ min ((k.val : Int)).toNat 64)) &&& BitVec.ofInt 64 1).toNat == 0) = !r.val.testBit k.val := by decide +kernel
theorem shuts_ok (p : Panel) (hsm : p.small) (ticks : Int) (l : List Sig) (hl : l.length ≤ 9223372036854775807) (door : Int) : PCalls Try.prog 36 [p.av, .i ticks, .fz 4 (l.map Sig.av), .i door] (.tup [.i (shutsV p ticks l door).1, .i (shutsV p ticks l door).2.1, .i (shutsV p ticks l door).2.2]) := by
  refine PCalls.body fn36 _ (by simp) ?_
  unfold ir36
  (refine goA ?_; repeat (refine goN fun _ => ?_; refine goA ?_))
  rename_i a4
  refine s_call rfl ?_
  refine CallOK.pure (begin_ok p hsm ticks l hl) ?_
  (refine goA ?_; repeat (refine goN fun _ => ?_; refine goA ?_))
  refine AWP.cond rfl (fun h1 => ?_) (fun h1 => ?_)
  · have hE : ¬ beginE p ticks l = 0 := by simpa using h1
    (refine goA ?_; repeat (refine goN fun _ => ?_; refine goA ?_))
    refine post_ret rfl ⟨0, ?_⟩
    rw [shutsV, if_neg hE]; rfl
  have hE : beginE p ticks l = 0 := by simpa using h1
  obtain ⟨T, rfl⟩ : ∃ T : Nat, ticks = T := ⟨ticks.toNat, by have := (begin_good hE).2.1; omega⟩
  have hT : T ≤ 1000 := by have := (begin_good hE).2.1; omega
  have hts : beginT p T l = ticksTo p l T := by rw [beginT, if_pos hE]; rfl
  have hb := (begin_good hE).1
  have hg := pgood hb
  have hdl := hg.len
  have hlm : (((p.doors.map Gate.av).length : Nat) : Int) = (p.doors.length : Nat) := by simp
  rw [hts]
  (refine goA ?_; repeat (refine goN fun _ => ?_; refine goA ?_))
  refine s_call rfl ?_
  refine CallOK.pure (within_ok ..) ?_
  rw [hlm]
  cases hc : inR door 0 ((p.doors.length : Int) - 1)
  · (refine goA ?_; repeat (refine goN fun _ => ?_; refine goA ?_))
    refine post_ret rfl ⟨0, ?_⟩
    rw [shutsV, if_pos hE, if_neg (by simp [hc])]; rfl
  have hc2 := inR_iff.1 hc
  obtain ⟨k, rfl⟩ : ∃ k : Nat, door = k := ⟨door.toNat, by omega⟩
  have hk : k < p.doors.length := by omega
  have hsv : shutsV p T l k = ((shTo (fun t => shutN p l t k) T).1, (shTo (fun t => shutN p l t k) T).2.1, 0) := by
    rw [shutsV, if_pos hE, if_pos hc]; rfl
  obtain ⟨hRl, hRb⟩ := play_rows hE
  have hR : playR p T l = inAll p (ticksTo p l T) := by rw [playR, if_pos hE]; rfl
  rw [hR] at hRl hRb
  (refine goA ?_; repeat (refine goN fun _ => ?_; refine goA ?_))
  refine s_call rfl ?_
  refine CallOK.pure (rows_ok p (goodW_of hb) (ticksTo p l T) (by rw [ticksTo_len]; omega) (ticksTo_rows p l _)) ?_
  generalize inAll p (ticksTo p l T) = R at hRl hRb ⊢
  have hln : (((nats R).length : Nat) : Int) = (T : Nat) := by simp [nats, hRl]
  (refine goA ?_; repeat (refine goN fun _ => ?_; refine goA ?_))
  rw [hln]
  refine AWP.loopS (σ := Nat) (fun t => [(36, .i (t : Nat)), (35, .i (T : Nat)), (34, .fz 1 (nats R)), (12, .i (shTo (fun t => shutN p l t k) t).2.2), (9, .i (shTo (fun t => shutN p l t k) t).2.1), (8, .i (shTo (fun t => shutN p l t k) t).1), (3, .i (k : Nat))]) (fun _ => []) (fun t => t ≤ T) (fun t => T - t) 0 (by first | (refine Weak.of ?_; (repeat (first | exact trivial | refine ⟨rfl, ?_⟩ | refine ⟨by simp [Env.get], ?_⟩)); done) | (refine Weak.pick (by repeat (first | exact trivial | refine ⟨rfl, ?_⟩ | refine ⟨by simp [Env.get], ?_⟩)) (by first | rfl | (simp [pickH, Heap.get, Heap.del, Heap.set, ofV_i, ofV_b]; done)))) (by first | omega | (dsimp only; omega)) ?_
  intro t ht K2 hK2
  try dsimp only at ht hK2 ⊢
  by_cases hlt : t < T
  · obtain ⟨r, r1, r2, r3⟩ := hRb t hlt
    have hr2 : (nats R)[t]? = some (.i (r : Nat)) := get_map (fun n : Nat => AV.i (n : Nat)) r1
    have hr8 : r < 256 := Nat.lt_of_lt_of_le r2 (Nat.pow_le_pow_right (by omega) hdl : 2 ^ p.doors.length ≤ 2 ^ 8)
    have hbit := bits3 ⟨r, hr8⟩ ⟨k, by omega⟩
    dsimp only at hbit
    rw [r3 k hk] at hbit
    have hbn := shTo_bnd (fun t => shutN p l t k) t
    have hs1 : shTo (fun t => shutN p l t k) (t + 1) = if shutN p l t k = true then (if (shTo (fun t => shutN p l t k) t).1 < 0 then (t : Int) else (shTo (fun t => shutN p l t k) t).1, if (shTo (fun t => shutN p l t k) t).2.2 + 1 > (shTo (fun t => shutN p l t k) t).2.1 then (shTo (fun t => shutN p l t k) t).2.2 + 1 else (shTo (fun t => shutN p l t k) t).2.1, (shTo (fun t => shutN p l t k) t).2.2 + 1) else ((shTo (fun t => shutN p l t k) t).1, (shTo (fun t => shutN p l t k) t).2.1, 0) := rfl
    have fin : ∀ v E' H', shTo (fun t => shutN p l t k) (t + 1) = v → Weak 57 E' H' [(36, .i ((t + 1 : Nat) : Int)), (35, .i (T : Nat)), (34, .fz 1 (nats R)), (12, .i v.2.2), (9, .i v.2.1), (8, .i v.1), (3, .i (k : Nat))] [] → K2 E' H' := by
      rintro v E' H' rfl hw
      exact hK2 (t + 1) E' H' (by omega) (by omega) hw
    clear hK2
    generalize shTo (fun t => shutN p l t k) t = q at hbn hs1 ⊢
    obtain ⟨q1, q2, q3⟩ := q
    dsimp only at hbn hs1 ⊢
    cases hsh : shutN p l t k
    · rw [hsh] at hbit hs1
      rw [if_neg (by simp)] at hs1
      (refine goA ?_; repeat (refine goN fun _ => ?_; refine goA ?_))
      exact fin _ _ _ hs1 (by first | (refine Weak.of ?_; (repeat (first | exact trivial | refine ⟨rfl, ?_⟩ | refine ⟨by simp [Env.get], ?_⟩)); done) | (refine Weak.pick (by repeat (first | exact trivial | refine ⟨rfl, ?_⟩ | refine ⟨by simp [Env.get], ?_⟩)) (by first | rfl | (simp [pickH, Heap.get, Heap.del, Heap.set, ofV_i, ofV_b]; done))))
    · rw [hsh] at hbit hs1
      rw [if_pos rfl] at hs1
      by_cases hq : q1 < 0
      · rw [if_pos hq] at hs1
        (refine goA ?_; repeat (refine goN fun _ => ?_; refine goA ?_))
        exact fin _ _ _ hs1 (by first | (refine Weak.of ?_; (repeat (first | exact trivial | refine ⟨rfl, ?_⟩ | refine ⟨by simp [Env.get], ?_⟩)); done) | (refine Weak.pick (by repeat (first | exact trivial | refine ⟨rfl, ?_⟩ | refine ⟨by simp [Env.get], ?_⟩)) (by first | rfl | (simp [pickH, Heap.get, Heap.del, Heap.set, ofV_i, ofV_b]; done))))
      · rw [if_neg hq] at hs1
        (refine goA ?_; repeat (refine goN fun _ => ?_; refine goA ?_))
        exact fin _ _ _ hs1 (by first | (refine Weak.of ?_; (repeat (first | exact trivial | refine ⟨rfl, ?_⟩ | refine ⟨by simp [Env.get], ?_⟩)); done) | (refine Weak.pick (by repeat (first | exact trivial | refine ⟨rfl, ?_⟩ | refine ⟨by simp [Env.get], ?_⟩)) (by first | rfl | (simp [pickH, Heap.get, Heap.del, Heap.set, ofV_i, ofV_b]; done))))
  · have ht' : t = T := by omega
    subst ht'
    (refine goA ?_; repeat (refine goN fun _ => ?_; refine goA ?_))
    refine post_ret rfl ⟨0, ?_⟩
    rw [hsv]; rfl
def checkDoorI (p : Panel) (ticks : Int) (l : List Sig) (door : Int) : Int := if beginE p ticks l = 0 then (if inR door 0 ((p.doors.length : Int) - 1) = true then 0 else 1) else beginE p ticks l
theorem checkDoor_ok (p : Panel) (hsm : p.small) (ticks : Int) (l : List Sig) (hl : l.length ≤ 9223372036854775807) (door : Int) : PCalls Try.prog 58 [p.av, .i ticks, .fz 4 (l.map Sig.av), .i door] (.i (checkDoorI p ticks l door)) := by
  refine PCalls.body fn58 _ (by simp) ?_
  unfold ir58
  (refine goA ?_; repeat (refine goN fun _ => ?_; refine goA ?_))
  refine s_call rfl ?_
  refine CallOK.pure (checkSignals_ok p hsm ticks l hl) ?_
  (refine goA ?_; repeat (refine goN fun _ => ?_; refine goA ?_))
  refine AWP.cond rfl (fun h1 => ?_) (fun h1 => ?_)
  · have hE : ¬ beginE p ticks l = 0 := by simpa using h1
    (refine goA ?_; repeat (refine goN fun _ => ?_; refine goA ?_))
    refine post_ret rfl ⟨0, ?_⟩
    rw [checkDoorI, if_neg hE]; rfl
  have hE : beginE p ticks l = 0 := by simpa using h1
  have hdl := (pgood (begin_good hE).1).len
  have hlm : (((p.doors.map Gate.av).length : Nat) : Int) = (p.doors.length : Nat) := by simp
  (refine goA ?_; repeat (refine goN fun _ => ?_; refine goA ?_))
  refine s_call rfl ?_
  refine CallOK.pure (rwithin_ok ..) ?_
  rw [hlm]
  cases hc : inR door 0 ((p.doors.length : Int) - 1)
  · (refine goA ?_; repeat (refine goN fun _ => ?_; refine goA ?_))
    refine post_ret rfl ⟨0, ?_⟩
    rw [checkDoorI, if_pos hE, if_neg (by simp [hc])]; rfl
  · (refine goA ?_; repeat (refine goN fun _ => ?_; refine goA ?_))
    refine post_ret rfl ⟨0, ?_⟩
    rw [checkDoorI, if_pos hE, if_pos hc]; rfl
theorem rshuts_ok (p : Panel) (hsm : p.small) (ticks : Int) (l : List Sig) (hl : l.length ≤ 9223372036854775807) (door : Int) : PCalls Try.prog 37 [p.av, .i ticks, .fz 4 (l.map Sig.av), .i door] (.tup [.i (shutsV p ticks l door).1, .i (shutsV p ticks l door).2.1, .i (shutsV p ticks l door).2.2]) := by
  refine PCalls.body fn37 _ (by simp) ?_
  unfold ir37
  (refine goA ?_; repeat (refine goN fun _ => ?_; refine goA ?_))
  rename_i a4
  refine s_call rfl ?_
  refine CallOK.pure (checkDoor_ok p hsm ticks l hl door) ?_
  by_cases hE : beginE p ticks l = 0
  case neg =>
    rw [show checkDoorI p ticks l door = beginE p ticks l by rw [checkDoorI, if_neg hE]]
    have hne : (beginE p ticks l != 0) = true := by simp [hE]
    (refine goA ?_; repeat (refine goN fun _ => ?_; refine goA ?_))
    refine post_ret rfl ⟨0, ?_⟩
    rw [shutsV, if_neg hE]; rfl
  cases hc : inR door 0 ((p.doors.length : Int) - 1)
  · rw [show checkDoorI p ticks l door = 1 by rw [checkDoorI, if_pos hE, if_neg (by simp [hc])]]
    (refine goA ?_; repeat (refine goN fun _ => ?_; refine goA ?_))
    refine post_ret rfl ⟨0, ?_⟩
    rw [shutsV, if_pos hE, if_neg (by simp [hc])]; rfl
  rw [show checkDoorI p ticks l door = 0 by rw [checkDoorI, if_pos hE, if_pos hc]]
  have hc2 := inR_iff.1 hc
  obtain ⟨T, rfl⟩ : ∃ T : Nat, ticks = T := ⟨ticks.toNat, by have := (begin_good hE).2.1; omega⟩
  have hT : T ≤ 1000 := by have := (begin_good hE).2.1; omega
  obtain ⟨k, rfl⟩ : ∃ k : Nat, door = k := ⟨door.toNat, by omega⟩
  have hk : k < p.doors.length := by omega
  have hb := (begin_good hE).1
  have hg := pgood hb
  have hsv : shutsV p T l k = ((shTo (fun t => shutN p l t k) T).1, (shTo (fun t => shutN p l t k) T).2.1, 0) := by
    rw [shutsV, if_pos hE, if_pos hc]; rfl
  (refine goA ?_; repeat (refine goN fun _ => ?_; refine goA ?_))
  refine s_call rfl ?_
  refine CallOK.pure (frames_ok hg l hl (right_nums (begin_good hE).2.2.2) (begin_sens hE) T hT) ?_
  (refine goA ?_; repeat (refine goN fun _ => ?_; refine goA ?_))
  refine AWP.loopS (σ := Nat) (fun t => [(16, .i (t : Nat)), (1, .i (T : Nat)), (12, .fz 5 ((framesTo p l T).map Frame.av)), (15, .i (shTo (fun t => shutN p l t k) t).2.2), (14, .i (shTo (fun t => shutN p l t k) t).2.1), (13, .i (shTo (fun t => shutN p l t k) t).1), (3, .i (k : Nat))]) (fun _ => []) (fun t => t ≤ T) (fun t => T - t) 0 (by first | (refine Weak.of ?_; (repeat (first | exact trivial | refine ⟨rfl, ?_⟩ | refine ⟨by simp [Env.get], ?_⟩)); done) | (refine Weak.pick (by repeat (first | exact trivial | refine ⟨rfl, ?_⟩ | refine ⟨by simp [Env.get], ?_⟩)) (by first | rfl | (simp [pickH, Heap.get, Heap.del, Heap.set, ofV_i, ofV_b]; done)))) (by first | omega | (dsimp only; omega)) ?_
  intro t ht K2 hK2
  try dsimp only at ht hK2 ⊢
  by_cases hlt : t < T
  · have hft := framesTo_get p l hlt
    have hfs := frame_shut p l t k hk
    have hbn := shTo_bnd (fun t => shutN p l t k) t
    have hs1 : shTo (fun t => shutN p l t k) (t + 1) = if shutN p l t k = true then (if (shTo (fun t => shutN p l t k) t).1 < 0 then (t : Int) else (shTo (fun t => shutN p l t k) t).1, if (shTo (fun t => shutN p l t k) t).2.2 + 1 > (shTo (fun t => shutN p l t k) t).2.1 then (shTo (fun t => shutN p l t k) t).2.2 + 1 else (shTo (fun t => shutN p l t k) t).2.1, (shTo (fun t => shutN p l t k) t).2.2 + 1) else ((shTo (fun t => shutN p l t k) t).1, (shTo (fun t => shutN p l t k) t).2.1, 0) := rfl
    have fin : ∀ v E' H', shTo (fun t => shutN p l t k) (t + 1) = v → Weak 53 E' H' [(16, .i ((t + 1 : Nat) : Int)), (1, .i (T : Nat)), (12, .fz 5 ((framesTo p l T).map Frame.av)), (15, .i v.2.2), (14, .i v.2.1), (13, .i v.1), (3, .i (k : Nat))] [] → K2 E' H' := by
      rintro v E' H' rfl hw
      exact hK2 (t + 1) E' H' (by omega) (by omega) hw
    clear hK2
    generalize shTo (fun t => shutN p l t k) t = q at hbn hs1 ⊢
    obtain ⟨q1, q2, q3⟩ := q
    dsimp only at hbn hs1 ⊢
    cases hsh : shutN p l t k
    · rw [hsh] at hfs hs1
      rw [if_neg (by simp)] at hs1
      (refine goA ?_; repeat (refine goN fun _ => ?_; refine goA ?_))
      exact fin _ _ _ hs1 (by first | (refine Weak.of ?_; (repeat (first | exact trivial | refine ⟨rfl, ?_⟩ | refine ⟨by simp [Env.get], ?_⟩)); done) | (refine Weak.pick (by repeat (first | exact trivial | refine ⟨rfl, ?_⟩ | refine ⟨by simp [Env.get], ?_⟩)) (by first | rfl | (simp [pickH, Heap.get, Heap.del, Heap.set, ofV_i, ofV_b]; done))))
    · rw [hsh] at hfs hs1
      rw [if_pos rfl] at hs1
      by_cases hq : q1 < 0
      · rw [if_pos hq] at hs1
        (refine goA ?_; repeat (refine goN fun _ => ?_; refine goA ?_))
        exact fin _ _ _ hs1 (by first | (refine Weak.of ?_; (repeat (first | exact trivial | refine ⟨rfl, ?_⟩ | refine ⟨by simp [Env.get], ?_⟩)); done) | (refine Weak.pick (by repeat (first | exact trivial | refine ⟨rfl, ?_⟩ | refine ⟨by simp [Env.get], ?_⟩)) (by first | rfl | (simp [pickH, Heap.get, Heap.del, Heap.set, ofV_i, ofV_b]; done))))
      · rw [if_neg hq] at hs1
        (refine goA ?_; repeat (refine goN fun _ => ?_; refine goA ?_))
        exact fin _ _ _ hs1 (by first | (refine Weak.of ?_; (repeat (first | exact trivial | refine ⟨rfl, ?_⟩ | refine ⟨by simp [Env.get], ?_⟩)); done) | (refine Weak.pick (by repeat (first | exact trivial | refine ⟨rfl, ?_⟩ | refine ⟨by simp [Env.get], ?_⟩)) (by first | rfl | (simp [pickH, Heap.get, Heap.del, Heap.set, ofV_i, ofV_b]; done))))
  · have ht' : t = T := by omega
    subst ht'
    (refine goA ?_; repeat (refine goN fun _ => ?_; refine goA ?_))
    refine post_ret rfl ⟨0, ?_⟩
    rw [hsv]; rfl
def tolV (p : Panel) (door : Int) : Int × Int := if badPanel p = true then (0, 80) else if inR door 0 ((p.doors.length : Int) - 1) = true then (waitOf p door.toNat - 1, 0) else (0, 1)
theorem tol_ok (p : Panel) (hsm : p.small) (door : Int) : PCalls Try.prog 39 [p.av, .i door] (.tup [.i (tolV p door).1, .i (tolV p door).2]) ∧ PCalls Try.prog 40 [p.av, .i door] (.tup [.i (tolV p door).1, .i (tolV p door).2]) := by
  have hlm : (((p.doors.map Gate.av).length : Nat) : Int) = (p.doors.length : Nat) := by simp
  constructor
  · refine PCalls.body fn39 _ (by simp) ?_
    unfold ir39
    (refine goA ?_; repeat (refine goN fun _ => ?_; refine goA ?_))
    refine s_call rfl ?_
    refine CallOK.pure (check_ok p hsm) ?_
    cases hb : badPanel p
    case true =>
      rw [show checkI p = 80 by simp [checkI, hb]]
      (refine goA ?_; repeat (refine goN fun _ => ?_; refine goA ?_))
      refine post_ret rfl ⟨0, ?_⟩
      rw [tolV, if_pos hb]; rfl
    rw [show checkI p = 0 by simp [checkI, hb]]
    have hg := pgood hb
    have hdl := hg.len
    (refine goA ?_; repeat (refine goN fun _ => ?_; refine goA ?_))
    refine s_call rfl ?_
    refine CallOK.pure (within_ok ..) ?_
    rw [hlm]
    cases hc : inR door 0 ((p.doors.length : Int) - 1)
    · (refine goA ?_; repeat (refine goN fun _ => ?_; refine goA ?_))
      refine post_ret rfl ⟨0, ?_⟩
      rw [tolV, if_neg (by simp [hb]), if_neg (by simp [hc])]; rfl
    · have hc2 := inR_iff.1 hc
      obtain ⟨k, rfl⟩ : ∃ k : Nat, door = k := ⟨door.toNat, by omega⟩
      have hd : p.doors[k]? = some (p.doors[k]'(by omega)) := by simp
      generalize p.doors[k]'(by omega) = g at hd
      have hw := hg.wait g (List.mem_of_getElem? hd)
      have hwk : waitOf p k = g.wait := by simp [waitOf, hd]
      (refine goA ?_; repeat (refine goN fun _ => ?_; refine goA ?_))
      refine post_ret rfl ⟨0, ?_⟩
      rw [tolV, if_neg (by simp [hb]), if_pos hc, Int.toNat_natCast, hwk]; rfl
  · refine PCalls.body fn40 _ (by simp) ?_
    unfold ir40
    (refine goA ?_; repeat (refine goN fun _ => ?_; refine goA ?_))
    refine s_call rfl ?_
    refine CallOK.pure (rcheck_ok p hsm) ?_
    cases hb : badPanel p
    case true =>
      rw [show checkI p = 80 by simp [checkI, hb]]
      (refine goA ?_; repeat (refine goN fun _ => ?_; refine goA ?_))
      refine post_ret rfl ⟨0, ?_⟩
      rw [tolV, if_pos hb]; rfl
    rw [show checkI p = 0 by simp [checkI, hb]]
    have hg := pgood hb
    have hdl := hg.len
    (refine goA ?_; repeat (refine goN fun _ => ?_; refine goA ?_))
    refine s_call rfl ?_
    refine CallOK.pure (rwithin_ok ..) ?_
    rw [hlm]
    cases hc : inR door 0 ((p.doors.length : Int) - 1)
    · (refine goA ?_; repeat (refine goN fun _ => ?_; refine goA ?_))
      refine post_ret rfl ⟨0, ?_⟩
      rw [tolV, if_neg (by simp [hb]), if_neg (by simp [hc])]; rfl
    · have hc2 := inR_iff.1 hc
      obtain ⟨k, rfl⟩ : ∃ k : Nat, door = k := ⟨door.toNat, by omega⟩
      have hd : p.doors[k]? = some (p.doors[k]'(by omega)) := by simp
      generalize p.doors[k]'(by omega) = g at hd
      have hw := hg.wait g (List.mem_of_getElem? hd)
      have hwk : waitOf p k = g.wait := by simp [waitOf, hd]
      (refine goA ?_; repeat (refine goN fun _ => ?_; refine goA ?_))
      refine post_ret rfl ⟨0, ?_⟩
      rw [tolV, if_neg (by simp [hb]), if_pos hc, Int.toNat_natCast, hwk]; rfl
end Go.Proofs.Ytjnencdmejhmjaa.Eng
