/- CONTROL: the specification's Frees and Safe, walked. -/
import Derived.Test.YtjnencdmejhmjaaV8
import Derived.Test.YtjnencdmejhmjaaV6
namespace Go.Proofs.Ytjnencdmejhmjaa.Eng
open Go Go.RowKit
attribute [local irreducible] insRun planRun AWP holdsAll CallOK Weak Ins.holds
set_option linter.unusedSimpArgs false
set_option linter.unusedVariables false
set_option maxHeartbeats 4000000
def frTo (p : Panel) (k : Nat) : Int := if waitTo p k = 0 then 0 else p.limit + waitTo p k - 1
theorem rfrees_ok (p : Panel) (hsm : p.small) : PCalls Try.prog 38 [p.av] (.tup [.i (freesV p), .i (checkI p)]) := by
  refine PCalls.body fn38 _ (by simp) ?_
  unfold ir38
  (refine goA ?_; repeat (refine goN fun _ => ?_; refine goA ?_))
  rename_i a1
  refine s_call rfl ?_
  refine CallOK.pure (rcheck_ok p hsm) ?_
  (refine goA ?_; repeat (refine goN fun _ => ?_; refine goA ?_))
  refine AWP.cond rfl (fun h1 => ?_) (fun h1 => ?_)
  · have hb : badPanel p = true := by
      cases hb : badPanel p
      · simp [checkI, hb] at h1
      · rfl
    (refine goA ?_; repeat (refine goN fun _ => ?_; refine goA ?_))
    refine post_ret rfl ⟨0, ?_⟩
    rw [freesV, hb]; rfl
  have hb : badPanel p = false := by
    cases hb : badPanel p
    · rfl
    · simp [checkI, hb] at h1
  have hw := goodW_of hb
  have hg := pgood hb
  have hdl := hg.len
  have hlim := hg.lim
  (refine goA ?_; repeat (refine goN fun _ => ?_; refine goA ?_))
  refine AWP.loopS (σ := Nat) (fun k => [(6, .i (k : Nat)), (5, .i (frTo p k)), (1, .ptr 1 a1 4 0 0)]) (fun _ => [(1, a1, .arr 4 [p.av])]) (fun k => k ≤ p.doors.length) (fun k => p.doors.length - k) 0 (by first | (refine Weak.of ?_; (repeat (first | exact trivial | refine ⟨rfl, ?_⟩ | refine ⟨by simp [Env.get], ?_⟩)); done) | (refine Weak.pick (by repeat (first | exact trivial | refine ⟨rfl, ?_⟩ | refine ⟨by simp [Env.get], ?_⟩)) (by first | rfl | (simp [pickH, Heap.get, Heap.del, Heap.set, ofV_i, ofV_b]; done)))) (by first | omega | (dsimp only; omega)) ?_
  intro k hk K2 hK2
  try dsimp only at hk hK2 ⊢
  by_cases hlt : k < p.doors.length
  · have hd : p.doors[k]? = some p.doors[k] := by simp
    generalize p.doors[k] = g at hd
    have hgw := hg.wait g (List.mem_of_getElem? hd)
    have hwb := waitTo_bnd hw k
    have fin : ∀ v E' H', frTo p (k + 1) = v → Weak 40 E' H' [(6, .i ((k + 1 : Nat) : Int)), (5, .i v), (1, .ptr 1 a1 4 0 0)] [(1, a1, .arr 4 [p.av])] → K2 E' H' := by
      rintro v E' H' rfl hw
      exact hK2 (k + 1) E' H' (by omega) (by omega) hw
    by_cases hp : (g.whens.length : Int) > 0
    · (refine goA ?_; repeat (refine goN fun _ => ?_; refine goA ?_))
      refine fin (if p.limit + g.wait - 1 > frTo p k then p.limit + g.wait - 1 else frTo p k) _ _ ?_ (by first | (refine Weak.of ?_; (repeat (first | exact trivial | refine ⟨rfl, ?_⟩ | refine ⟨by simp [Env.get], ?_⟩)); done) | (refine Weak.pick (by repeat (first | exact trivial | refine ⟨rfl, ?_⟩ | refine ⟨by simp [Env.get], ?_⟩)) (by first | rfl | (simp [pickH, Heap.get, Heap.del, Heap.set, ofV_i, ofV_b]; done))))
      simp only [frTo, waitTo, hd]
      rw [if_pos hp]
      repeat' split
      all_goals omega
    · have hpf : decide (((g.whens.map Sense.av).length : Int) > 0) = false := by simp at hp; simp [hp]
      (refine goA ?_; repeat (refine goN fun _ => ?_; refine goA ?_))
      refine fin (frTo p k) _ _ ?_ (by first | (refine Weak.of ?_; (repeat (first | exact trivial | refine ⟨rfl, ?_⟩ | refine ⟨by simp [Env.get], ?_⟩)); done) | (refine Weak.pick (by repeat (first | exact trivial | refine ⟨rfl, ?_⟩ | refine ⟨by simp [Env.get], ?_⟩)) (by first | rfl | (simp [pickH, Heap.get, Heap.del, Heap.set, ofV_i, ofV_b]; done))))
      simp only [frTo, waitTo, hd]
      rw [if_neg hp]
  · have hk' : k = p.doors.length := by omega
    subst hk'
    (refine goA ?_; repeat (refine goN fun _ => ?_; refine goA ?_))
    refine post_ret rfl ⟨0, ?_⟩
    rw [freesV, hb, checkI, hb]; rfl
def toldQ (p : Panel) (l : List Sig) (t k q : Nat) : Bool := (List.range q).any fun s => decide ((t : Int) - waitOf p k + 1 ≤ s) && (saidK p l s k == 1)
theorem toldQ_succ (p : Panel) (l : List Sig) (t k q : Nat) : toldQ p l t k (q + 1) = (toldQ p l t k q || (decide ((t : Int) - waitOf p k + 1 ≤ q) && (saidK p l q k == 1))) := by simp [toldQ, List.range_succ]
theorem toldQ_low (p : Panel) (l : List Sig) (t k q : Nat) (h : (q : Int) ≤ (t : Int) - waitOf p k + 1) : toldQ p l t k q = false := by
  simp only [toldQ, List.any_eq_false, Bool.and_eq_true, decide_eq_true_eq, not_and]
  intro s hs h2
  have := List.mem_range.1 hs
  omega
theorem rsafe_ok (p : Panel) (hsm : p.small) (ticks : Int) (l : List Sig) (hl : l.length ≤ 9223372036854775807) (rows : List Int) (hro : rows.length ≤ 9223372036854775807) : PCalls Try.prog 35 [p.av, .i ticks, .fz 4 (l.map Sig.av), .fz 1 (rows.map .i)] (.tup [.i (safeV p ticks l rows).1, .i (safeV p ticks l rows).2.1, .i (safeV p ticks l rows).2.2]) := by
  refine PCalls.body fn35 _ (by simp) ?_
  unfold ir35
  (refine goA ?_; repeat (refine goN fun _ => ?_; refine goA ?_))
  rename_i a4
  refine s_call rfl ?_
  refine CallOK.pure (checkSignals_ok p hsm ticks l hl) ?_
  (refine goA ?_; repeat (refine goN fun _ => ?_; refine goA ?_))
  refine AWP.cond rfl (fun h1 => ?_) (fun h1 => ?_)
  · have hE : ¬ beginE p ticks l = 0 := by simpa using h1
    (refine goA ?_; repeat (refine goN fun _ => ?_; refine goA ?_))
    refine post_ret rfl ⟨0, ?_⟩
    rw [safeV, if_neg hE]; rfl
  have hE : beginE p ticks l = 0 := by simpa using h1
  obtain ⟨T, rfl⟩ : ∃ T : Nat, ticks = T := ⟨ticks.toNat, by have := (begin_good hE).2.1; omega⟩
  have hT : T ≤ 1000 := by have := (begin_good hE).2.1; omega
  have hb := (begin_good hE).1
  have hg := pgood hb
  have hnn := right_nums (begin_good hE).2.2.2
  have hdl := hg.len
  have hfb := freesI_bnd2 hb
  have hpl := pow_le hdl
  have hlm : (((rows.map AV.i).length : Nat) : Int) = (rows.length : Nat) := by simp
  by_cases hlen : rows.length = T
  case neg =>
    have hne : ((((rows.map AV.i).length : Nat) : Int) != (T : Int)) = true := by simp; omega
    (refine goA ?_; repeat (refine goN fun _ => ?_; refine goA ?_))
    refine post_ret rfl ⟨0, ?_⟩
    rw [safeV, if_pos hE, if_pos (by simp; left; omega)]; rfl
  have hne : ((((rows.map AV.i).length : Nat) : Int) != (T : Int)) = false := by simp; omega
  have hsh : IntKind.i64.wrap (1 * 2 ^ min (IntKind.u64.wrap (((p.doors.map Gate.av).length : Nat) : Int)).toNat IntKind.i64.bits) = ((2 ^ p.doors.length : Nat) : Int) := by
    rw [List.length_map]; exact (shls ⟨p.doors.length, by omega⟩).2
  (refine goA ?_; repeat (refine goN fun _ => ?_; refine goA ?_))
  refine AWP.loopS (σ := Nat) (fun i => [(12, .i (i : Nat)), (1, .i (T : Nat)), (2, .fz 4 (l.map Sig.av)), (3, .fz 1 (rows.map .i)), (4, .ptr 4 a4 4 0 0)]) (fun _ => [(4, a4, .arr 4 [p.av])]) (fun i => i ≤ T ∧ ∀ j n, j < i → rows[j]? = some n → rowOkB p n = true) (fun i => T - i) 0 (by first | (refine Weak.of ?_; (repeat (first | exact trivial | refine ⟨rfl, ?_⟩ | refine ⟨by simp [Env.get], ?_⟩)); done) | (refine Weak.pick (by repeat (first | exact trivial | refine ⟨rfl, ?_⟩ | refine ⟨by simp [Env.get], ?_⟩)) (by first | rfl | (simp [pickH, Heap.get, Heap.del, Heap.set, ofV_i, ofV_b]; done)))) ⟨by omega, by omega⟩ ?_
  rintro i ⟨hi, hR⟩ K0 hK0
  try dsimp only at hK0 ⊢
  by_cases hlt0 : i < T
  case pos =>
    have hx : rows[i]? = some (rows[i]'(by omega)) := by simp
    generalize rows[i]'(by omega) = n at hx
    (refine goA ?_; repeat (refine goN fun _ => ?_; refine goA ?_))
    refine s_call rfl ?_
    refine CallOK.pure (rwithin_ok ..) ?_
    rw [hsh]
    cases hc : inR n 0 (((2 ^ p.doors.length : Nat) : Int) - 1)
    · (refine goA ?_; repeat (refine goN fun _ => ?_; refine goA ?_))
      refine post_ret rfl ⟨0, ?_⟩
      rw [safeV, if_pos hE, if_pos]
      · rfl
      · rw [Bool.or_eq_true]
        right
        exact List.any_eq_true.2 ⟨n, List.mem_of_getElem? hx, by rw [rowOkB, hc]; rfl⟩
    · (refine goA ?_; repeat (refine goN fun _ => ?_; refine goA ?_))
      refine hK0 (i + 1) _ _ (by omega) ⟨by omega, fun j m hj hm => ?_⟩ (by first | (refine Weak.of ?_; (repeat (first | exact trivial | refine ⟨rfl, ?_⟩ | refine ⟨by simp [Env.get], ?_⟩)); done) | (refine Weak.pick (by repeat (first | exact trivial | refine ⟨rfl, ?_⟩ | refine ⟨by simp [Env.get], ?_⟩)) (by first | rfl | (simp [pickH, Heap.get, Heap.del, Heap.set, ofV_i, ofV_b]; done))))
      by_cases e : j < i
      · exact hR j m e hm
      · have : j = i := by omega
        subst this
        rw [hx] at hm; injection hm with hm; subst hm
        exact hc
  have hi' : i = T := by omega
  subst hi'
  clear hK0
  have hrow : ∀ n ∈ rows, 0 ≤ n ∧ n < ((2 ^ p.doors.length : Nat) : Int) := fun n hn => by
    obtain ⟨j, hj, rfl⟩ := List.getElem_of_mem hn
    have := hR j _ (by omega) (List.getElem?_eq_getElem hj)
    rw [rowOkB, inR_iff] at this
    omega
  have hbad : rows.any (fun n => !rowOkB p n) = false := by
    simp only [List.any_eq_false, Bool.not_eq_true', Bool.not_eq_false]
    intro n hn
    have := hrow n hn
    rw [rowOkB, inR_iff]; omega
  have hsv : safeV p i l rows = match firstT (badAt p l rows) rows.length p.doors.length with
    | some (t, d) => ((t : Int), (d : Int), 0)
    | none => (-1, -1, 0) := by rw [safeV, if_pos hE, if_neg (by rw [hbad]; simp; omega)]; rfl
  (refine goA ?_; repeat (refine goN fun _ => ?_; refine goA ?_))
  refine s_call rfl ?_
  refine CallOK.pure (frames_ok hg l hl hnn (begin_sens hE) i hT) ?_
  (refine goA ?_; repeat (refine goN fun _ => ?_; refine goA ?_))
  refine s_call rfl ?_
  refine CallOK.pure (rfrees_ok p hsm) ?_
  rw [show freesV p = freesI p by simp [freesV, hb]]
  (refine goA ?_; repeat (refine goN fun _ => ?_; refine goA ?_))
  refine AWP.loopS (σ := Nat) (fun t => [(16, .i (t : Nat)), (14, .i (freesI p)), (13, .fz 5 ((framesTo p l i).map Frame.av)), (1, .i (i : Nat)), (3, .fz 1 (rows.map .i)), (4, .ptr 4 a4 4 0 0)]) (fun _ => [(4, a4, .arr 4 [p.av])]) (fun t => t ≤ rows.length ∧ ∀ s, s < t → ∀ k, k < p.doors.length → badAt p l rows s k = false) (fun t => rows.length - t) 0 (by first | (refine Weak.of ?_; (repeat (first | exact trivial | refine ⟨rfl, ?_⟩ | refine ⟨by simp [Env.get], ?_⟩)); done) | (refine Weak.pick (by repeat (first | exact trivial | refine ⟨rfl, ?_⟩ | refine ⟨by simp [Env.get], ?_⟩)) (by first | rfl | (simp [pickH, Heap.get, Heap.del, Heap.set, ofV_i, ofV_b]; done)))) ⟨by omega, by omega⟩ ?_
  rintro t ⟨ht, hI⟩ K2 hK2
  try dsimp only at hK2 ⊢
  by_cases hlt : t < rows.length
  case neg =>
    have ht' : t = rows.length := by omega
    subst ht'
    (refine goA ?_; repeat (refine goN fun _ => ?_; refine goA ?_))
    refine post_ret rfl ⟨0, ?_⟩
    rw [hsv, firstT_none hI]; rfl
  obtain ⟨r, hr, hr2⟩ : ∃ r : Nat, rows[t]? = some (r : Int) ∧ r < 2 ^ p.doors.length := by
    have := hrow rows[t] (by simp)
    exact ⟨rows[t].toNat, by rw [List.getElem?_eq_getElem hlt]; congr 1; omega, by omega⟩
  have hrd : rd rows t = r := by simp [rd, hr]
  have hft := framesTo_get p l (n := i) (t := t) (by omega)
  (refine goA ?_; repeat (refine goN fun _ => ?_; refine goA ?_))
  refine AWP.loopS (σ := Nat) (fun k => [(17, .i (k : Nat)), (16, .i (t : Nat)), (14, .i (freesI p)), (13, .fz 5 ((framesTo p l i).map Frame.av)), (1, .i (i : Nat)), (3, .fz 1 (rows.map .i)), (4, .ptr 4 a4 4 0 0)]) (fun _ => [(4, a4, .arr 4 [p.av])]) (fun k => k ≤ p.doors.length ∧ ∀ j, j < k → badAt p l rows t j = false) (fun k => p.doors.length - k) 0 (by first | (refine Weak.of ?_; (repeat (first | exact trivial | refine ⟨rfl, ?_⟩ | refine ⟨by simp [Env.get], ?_⟩)); done) | (refine Weak.pick (by repeat (first | exact trivial | refine ⟨rfl, ?_⟩ | refine ⟨by simp [Env.get], ?_⟩)) (by first | rfl | (simp [pickH, Heap.get, Heap.del, Heap.set, ofV_i, ofV_b]; done)))) ⟨by omega, by omega⟩ ?_
  rintro k ⟨hk, hJ⟩ K3 hK3
  try dsimp only at hK3 ⊢
  by_cases hlt2 : k < p.doors.length
  case neg =>
    have hk' : k = p.doors.length := by omega
    subst hk'
    (refine goA ?_; repeat (refine goN fun _ => ?_; refine goA ?_))
    refine hK2 (t + 1) _ _ (by omega) ⟨by omega, fun s hs j hj => ?_⟩ (by first | (refine Weak.of ?_; (repeat (first | exact trivial | refine ⟨rfl, ?_⟩ | refine ⟨by simp [Env.get], ?_⟩)); done) | (refine Weak.pick (by repeat (first | exact trivial | refine ⟨rfl, ?_⟩ | refine ⟨by simp [Env.get], ?_⟩)) (by first | rfl | (simp [pickH, Heap.get, Heap.del, Heap.set, ofV_i, ofV_b]; done))))
    by_cases e : s < t
    · exact hI s e j hj
    · have : s = t := by omega
      subst this; exact hJ j hj
  have hd : p.doors[k]? = some p.doors[k] := by simp
  generalize p.doors[k] = g at hd
  have hw := hg.wait g (List.mem_of_getElem? hd)
  have hwk : waitOf p k = g.wait := by simp [waitOf, hd]
  have hbit := (bits ⟨r, by omega⟩ ⟨k, by omega⟩).1
  dsimp only at hbit
  have hbd : badAt p l rows t k = (r.testBit k && (!powTo l (t + 1) || decide (freesI p ≤ t) || !toldB p l t k)) := by rw [badAt, hrd, Int.toNat_natCast]
  have found : badAt p l rows t k = true → safeV p i l rows = ((t : Int), (k : Int), 0) := fun h => by rw [hsv, firstT_some hlt hlt2 hI hJ h]
  have next : ∀ E' H', badAt p l rows t k = false → Weak 124 E' H' [(17, .i ((k + 1 : Nat) : Int)), (16, .i (t : Nat)), (14, .i (freesI p)), (13, .fz 5 ((framesTo p l i).map Frame.av)), (1, .i (i : Nat)), (3, .fz 1 (rows.map .i)), (4, .ptr 4 a4 4 0 0)] [(4, a4, .arr 4 [p.av])] → K3 E' H' := by
    intro E' H' hf hw
    refine hK3 (k + 1) E' H' (by omega) ⟨by omega, fun j hj => ?_⟩ hw
    by_cases e : j < k
    · exact hJ j e
    · have : j = k := by omega
      subst this; exact hf
  clear hK2 hK3 hI hJ hsv
  have hmx : (if (t : Int) - g.wait + 1 > 0 then (t : Int) - g.wait + 1 else 0) = ((max 0 ((t : Int) - g.wait + 1)).toNat : Nat) := by split <;> omega
  (refine goA ?_; repeat (refine goN fun _ => ?_; refine goA ?_))
  rw [hmx]
  refine AWP.loopS (σ := Nat) (fun q => [(19, .i (q : Nat)), (18, .b (toldQ p l t k q)), (17, .i (k : Nat)), (16, .i (t : Nat)), (14, .i (freesI p)), (13, .fz 5 ((framesTo p l i).map Frame.av)), (1, .i (i : Nat)), (3, .fz 1 (rows.map .i)), (4, .ptr 4 a4 4 0 0)]) (fun _ => [(4, a4, .arr 4 [p.av])]) (fun q => q ≤ t + 1 ∧ (t : Int) - g.wait + 1 ≤ q) (fun q => t + 1 - q) (max 0 ((t : Int) - g.wait + 1)).toNat ?_ ⟨by omega, by omega⟩ ?_
  · by_cases h0 : (t : Int) - g.wait + 1 ≤ 0
    · rw [show (max 0 ((t : Int) - g.wait + 1)).toNat = 0 by omega]
      exact (by first | (refine Weak.of ?_; (repeat (first | exact trivial | refine ⟨rfl, ?_⟩ | refine ⟨by simp [Env.get], ?_⟩)); done) | (refine Weak.pick (by repeat (first | exact trivial | refine ⟨rfl, ?_⟩ | refine ⟨by simp [Env.get], ?_⟩)) (by first | rfl | (simp [pickH, Heap.get, Heap.del, Heap.set, ofV_i, ofV_b]; done))))
    · rw [toldQ_low p l t k _ (by rw [hwk]; omega)]
      exact (by first | (refine Weak.of ?_; (repeat (first | exact trivial | refine ⟨rfl, ?_⟩ | refine ⟨by simp [Env.get], ?_⟩)); done) | (refine Weak.pick (by repeat (first | exact trivial | refine ⟨rfl, ?_⟩ | refine ⟨by simp [Env.get], ?_⟩)) (by first | rfl | (simp [pickH, Heap.get, Heap.del, Heap.set, ofV_i, ofV_b]; done))))
  rintro q ⟨hq, hq2⟩ K4 hK4
  try dsimp only at hK4 ⊢
  by_cases hlt3 : q < t + 1
  · have hfq := framesTo_get p l (n := i) (t := q) (by omega)
    have hsl := said_len p l q
    have hsg : (frameAt p l q).told[k]? = some (saidK p l q k) := by
      have e : rd (tickOf p l q (memOf p l q)).said k = saidK p l q k := by rw [(tick_at p l q hnn k g hd).1, saidK, hd]
      rw [← e]; exact rd_get (show k < (tickOf p l q (memOf p l q)).said.length by omega)
    have hqs := toldQ_succ p l t k q
    rw [hwk, decide_eq_true (show (t : Int) - g.wait + 1 ≤ q by omega), Bool.true_and] at hqs
    cases htd : toldQ p l t k q
    · rw [htd, Bool.false_or] at hqs
      (refine goA ?_; repeat (refine goN fun _ => ?_; refine goA ?_))
      refine hK4 (q + 1) _ _ (by omega) ⟨by omega, by omega⟩ ?_
      rw [hqs]
      exact (by first | (refine Weak.of ?_; (repeat (first | exact trivial | refine ⟨rfl, ?_⟩ | refine ⟨by simp [Env.get], ?_⟩)); done) | (refine Weak.pick (by repeat (first | exact trivial | refine ⟨rfl, ?_⟩ | refine ⟨by simp [Env.get], ?_⟩)) (by first | rfl | (simp [pickH, Heap.get, Heap.del, Heap.set, ofV_i, ofV_b]; done))))
    · rw [htd, Bool.true_or] at hqs
      (refine goA ?_; repeat (refine goN fun _ => ?_; refine goA ?_))
      refine hK4 (q + 1) _ _ (by omega) ⟨by omega, by omega⟩ ?_
      rw [hqs]
      exact (by first | (refine Weak.of ?_; (repeat (first | exact trivial | refine ⟨rfl, ?_⟩ | refine ⟨by simp [Env.get], ?_⟩)); done) | (refine Weak.pick (by repeat (first | exact trivial | refine ⟨rfl, ?_⟩ | refine ⟨by simp [Env.get], ?_⟩)) (by first | rfl | (simp [pickH, Heap.get, Heap.del, Heap.set, ofV_i, ofV_b]; done))))
  have hq' : q = t + 1 := by omega
  subst hq'
  rw [show toldQ p l t k (t + 1) = toldB p l t k from rfl]
  generalize toldB p l t k = td at hbd
  clear hK4
  (refine goA ?_; repeat (refine goN fun _ => ?_; refine goA ?_))
  refine s_if rfl (fun hc => ?_) (fun hc => ?_)
  case refine_2 =>
    have hc2 : r.testBit k = false := by rw [← hbit]; exact hc
    (refine goA ?_; repeat (refine goN fun _ => ?_; refine goA ?_))
    exact next _ _ (by rw [hbd, hc2]; rfl) (by first | (refine Weak.of ?_; (repeat (first | exact trivial | refine ⟨rfl, ?_⟩ | refine ⟨by simp [Env.get], ?_⟩)); done) | (refine Weak.pick (by repeat (first | exact trivial | refine ⟨rfl, ?_⟩ | refine ⟨by simp [Env.get], ?_⟩)) (by first | rfl | (simp [pickH, Heap.get, Heap.del, Heap.set, ofV_i, ofV_b]; done))))
  have hc2 : r.testBit k = true := by rw [← hbit]; exact hc
  rw [hc2, Bool.true_and] at hbd
  (refine goA ?_; repeat (refine goN fun _ => ?_; refine goA ?_))
  by_cases hpw : powTo l (t + 1) = true
  case neg =>
    have hpn : (!powTo l (t + 1)) = true := by simp [hpw]
    (refine goA ?_; repeat (refine goN fun _ => ?_; refine goA ?_))
    refine post_ret rfl ⟨0, ?_⟩
    rw [found (by rw [hbd, hpn]; rfl)]; rfl
  have hpn : (!powTo l (t + 1)) = false := by simp [hpw]
  rw [hpn, Bool.false_or] at hbd
  by_cases hf : freesI p ≤ t
  · (refine goA ?_; repeat (refine goN fun _ => ?_; refine goA ?_))
    refine post_ret rfl ⟨0, ?_⟩
    rw [found (by rw [hbd]; simp [hf])]; rfl
  have hfd : decide (freesI p ≤ (t : Int)) = false := by simp [hf]
  rw [hfd, Bool.false_or] at hbd
  cases td
  · (refine goA ?_; repeat (refine goN fun _ => ?_; refine goA ?_))
    refine post_ret rfl ⟨0, ?_⟩
    rw [found hbd]; rfl
  · (refine goA ?_; repeat (refine goN fun _ => ?_; refine goA ?_))
    exact next _ _ hbd (by first | (refine Weak.of ?_; (repeat (first | exact trivial | refine ⟨rfl, ?_⟩ | refine ⟨by simp [Env.get], ?_⟩)); done) | (refine Weak.pick (by repeat (first | exact trivial | refine ⟨rfl, ?_⟩ | refine ⟨by simp [Env.get], ?_⟩)) (by first | rfl | (simp [pickH, Heap.get, Heap.del, Heap.set, ofV_i, ofV_b]; done))))
end Go.Proofs.Ytjnencdmejhmjaa.Eng
