/- CONTROL: Safe, walked. -/
import Derived.Test.YtjnencdmejhmjaaT1
import Derived.Test.YtjnencdmejhmjaaW13
import Derived.Test.YtjnencdmejhmjaaP9
namespace Go.Proofs.Ytjnencdmejhmjaa.Eng
open Go Go.RowKit
attribute [local irreducible] insRun planRun AWP holdsAll CallOK Weak Ins.holds
set_option linter.unusedSimpArgs false
set_option linter.unusedVariables false
set_option maxHeartbeats 4000000
theorem idx73_ok (xs : List Int) (hx : xs.length ≤ 9223372036854775807) (f : Nat) (caps : List AV) (p : Int → Bool) (hp : ∀ x, x ∈ xs → PCalls Try.prog f (AV.i x :: caps) (.b (p x))) : PCalls Try.prog 73 [.fz 1 (xs.map AV.i), .fn f caps] (.i (idxI p xs)) := by
  refine PCalls.body fn73 _ (by simp) ?_
  unfold ir73
  (refine goA ?_; repeat (refine goN fun _ => ?_; refine goA ?_))
  refine AWP.loopS (σ := Nat) (fun k => [(8, .i (k : Nat)), (7, .i (xs.length : Nat)), (0, .fz 1 (xs.map AV.i)), (1, .fn f caps)]) (fun _ => []) (fun k => k ≤ xs.length ∧ ∀ i x, i < k → xs[i]? = some x → p x = false) (fun k => xs.length - k) 0 (by first | (refine Weak.of ?_; (repeat (first | exact trivial | refine ⟨rfl, ?_⟩ | refine ⟨by simp [Env.get], ?_⟩)); done) | (refine Weak.pick (by repeat (first | exact trivial | refine ⟨rfl, ?_⟩ | refine ⟨by simp [Env.get], ?_⟩)) (by first | rfl | (simp [pickH, Heap.get, Heap.del, Heap.set, ofV_i, ofV_b]; done)))) ⟨by omega, by omega⟩ ?_
  rintro k ⟨hk, hI⟩ K2 hK2
  by_cases hlt : k < xs.length
  · have h1 : xs[k]? = some xs[k] := by simp [hlt]
    (refine goA ?_; repeat (refine goN fun _ => ?_; refine goA ?_))
    refine s_callv rfl rfl ?_
    refine CallOK.pure (hp xs[k] (by simp)) ?_
    (refine goA ?_; repeat (refine goN fun _ => ?_; refine goA ?_))
    refine AWP.cond rfl (fun hc => ?_) (fun hc => ?_)
    · (refine goA ?_; repeat (refine goN fun _ => ?_; refine goA ?_))
      refine post_ret rfl ⟨0, ?_⟩
      simp [closeAV, mkRes, idxI_at hlt hI hc]
    · (refine goA ?_; repeat (refine goN fun _ => ?_; refine goA ?_))
      refine hK2 (k + 1) _ _ (by omega) ⟨by omega, ?_⟩ (by first | (refine Weak.of ?_; (repeat (first | exact trivial | refine ⟨rfl, ?_⟩ | refine ⟨by simp [Env.get], ?_⟩)); done) | (refine Weak.pick (by repeat (first | exact trivial | refine ⟨rfl, ?_⟩ | refine ⟨by simp [Env.get], ?_⟩)) (by first | rfl | (simp [pickH, Heap.get, Heap.del, Heap.set, ofV_i, ofV_b]; done))))
      intro i x hi hxi
      rcases Nat.lt_succ_iff_lt_or_eq.1 hi with h | rfl
      · exact hI i x h hxi
      · rw [h1] at hxi; injection hxi with e; subst e; exact hc
  · (refine goA ?_; repeat (refine goN fun _ => ?_; refine goA ?_))
    refine post_ret rfl ⟨0, ?_⟩
    simp [closeAV, mkRes, AV.ofV, idxI_none (show k = xs.length by omega) hI]
theorem any54_ok (xs : List Int) (hx : xs.length ≤ 9223372036854775807) (f : Nat) (caps : List AV) (p : Int → Bool) (hp : ∀ x, x ∈ xs → PCalls Try.prog f (AV.i x :: caps) (.b (p x))) : PCalls Try.prog 54 [.fz 1 (xs.map AV.i), .fn f caps] (.b (xs.any p)) := by
  refine PCalls.body fn54 _ (by simp) ?_
  unfold ir54
  (refine goA ?_; repeat (refine goN fun _ => ?_; refine goA ?_))
  refine s_call rfl ?_
  refine CallOK.pure (idx73_ok xs hx f caps p hp) ?_
  (refine goA ?_; repeat (refine goN fun _ => ?_; refine goA ?_))
  refine post_ret rfl ⟨0, ?_⟩
  simp [closeAV, mkRes, idxI_ge]

theorem idx74_ok (xs : List Tick) (hx : xs.length ≤ 9223372036854775807) (f : Nat) (caps : List AV) (p : Tick → Bool) (hp : ∀ x, x ∈ xs → PCalls Try.prog f (Tick.av x :: caps) (.b (p x))) : PCalls Try.prog 74 [.fz 6 (xs.map Tick.av), .fn f caps] (.i (idxI p xs)) := by
  refine PCalls.body fn74 _ (by simp) ?_
  unfold ir74
  (refine goA ?_; repeat (refine goN fun _ => ?_; refine goA ?_))
  refine AWP.loopS (σ := Nat) (fun k => [(8, .i (k : Nat)), (7, .i (xs.length : Nat)), (0, .fz 6 (xs.map Tick.av)), (1, .fn f caps)]) (fun _ => []) (fun k => k ≤ xs.length ∧ ∀ i x, i < k → xs[i]? = some x → p x = false) (fun k => xs.length - k) 0 (by first | (refine Weak.of ?_; (repeat (first | exact trivial | refine ⟨rfl, ?_⟩ | refine ⟨by simp [Env.get], ?_⟩)); done) | (refine Weak.pick (by repeat (first | exact trivial | refine ⟨rfl, ?_⟩ | refine ⟨by simp [Env.get], ?_⟩)) (by first | rfl | (simp [pickH, Heap.get, Heap.del, Heap.set, ofV_i, ofV_b]; done)))) ⟨by omega, by omega⟩ ?_
  rintro k ⟨hk, hI⟩ K2 hK2
  by_cases hlt : k < xs.length
  · have h1 : xs[k]? = some xs[k] := by simp [hlt]
    (refine goA ?_; repeat (refine goN fun _ => ?_; refine goA ?_))
    refine s_callv rfl rfl ?_
    refine CallOK.pure (hp xs[k] (by simp)) ?_
    (refine goA ?_; repeat (refine goN fun _ => ?_; refine goA ?_))
    refine AWP.cond rfl (fun hc => ?_) (fun hc => ?_)
    · (refine goA ?_; repeat (refine goN fun _ => ?_; refine goA ?_))
      refine post_ret rfl ⟨0, ?_⟩
      simp [closeAV, mkRes, idxI_at hlt hI hc]
    · (refine goA ?_; repeat (refine goN fun _ => ?_; refine goA ?_))
      refine hK2 (k + 1) _ _ (by omega) ⟨by omega, ?_⟩ (by first | (refine Weak.of ?_; (repeat (first | exact trivial | refine ⟨rfl, ?_⟩ | refine ⟨by simp [Env.get], ?_⟩)); done) | (refine Weak.pick (by repeat (first | exact trivial | refine ⟨rfl, ?_⟩ | refine ⟨by simp [Env.get], ?_⟩)) (by first | rfl | (simp [pickH, Heap.get, Heap.del, Heap.set, ofV_i, ofV_b]; done))))
      intro i x hi hxi
      rcases Nat.lt_succ_iff_lt_or_eq.1 hi with h | rfl
      · exact hI i x h hxi
      · rw [h1] at hxi; injection hxi with e; subst e; exact hc
  · (refine goA ?_; repeat (refine goN fun _ => ?_; refine goA ?_))
    refine post_ret rfl ⟨0, ?_⟩
    simp [closeAV, mkRes, AV.ofV, idxI_none (show k = xs.length by omega) hI]
theorem any56_ok (xs : List Tick) (hx : xs.length ≤ 9223372036854775807) (f : Nat) (caps : List AV) (p : Tick → Bool) (hp : ∀ x, x ∈ xs → PCalls Try.prog f (Tick.av x :: caps) (.b (p x))) : PCalls Try.prog 56 [.fz 6 (xs.map Tick.av), .fn f caps] (.b (xs.any p)) := by
  refine PCalls.body fn56 _ (by simp) ?_
  unfold ir56
  (refine goA ?_; repeat (refine goN fun _ => ?_; refine goA ?_))
  refine s_call rfl ?_
  refine CallOK.pure (idx74_ok xs hx f caps p hp) ?_
  (refine goA ?_; repeat (refine goN fun _ => ?_; refine goA ?_))
  refine post_ret rfl ⟨0, ?_⟩
  simp [closeAV, mkRes, idxI_ge]

theorem shls : ∀ i : Fin 9, IntKind.i64.wrap (1 * 2 ^ min ((i.val : Int)).toNat 64) = ((2 ^ i.val : Nat) : Int) ∧ IntKind.i64.wrap (1 * 2 ^ min (IntKind.u64.wrap (i.val : Int)).toNat 64) = ((2 ^ i.val : Nat) : Int) := by decide +kernel
theorem bits2 : ∀ (r : Fin 256) (k : Fin 8), (IntKind.i64.wrap (BitVec.ofInt 64 ((r.val : Int).fdiv (2 ^ min ((k.val : Int)).toNat 64)) &&& BitVec.ofInt 64 1).toNat == 1) = r.val.testBit k.val := by decide +kernel
theorem pow_le {n : Nat} (h : n ≤ 8) : 1 ≤ 2 ^ n ∧ 2 ^ n ≤ 256 := ⟨Nat.pow_pos (by omega), (Nat.pow_le_pow_right (by omega) h : 2 ^ n ≤ 2 ^ 8)⟩
theorem rowOk_ok (p : Panel) (hd : p.doors.length ≤ 8) (n : Int) : PCalls Try.prog 55 [.i n, .fptr p.cells] (.b (!rowOkB p n)) := by
  have h1 : IntKind.i64.wrap (1 * 2 ^ min (((p.doors.map Gate.av).length : Nat) : Int).toNat IntKind.i64.bits) = ((2 ^ p.doors.length : Nat) : Int) := by
    rw [List.length_map]; exact (shls ⟨p.doors.length, by omega⟩).1
  have h2 := pow_le hd
  refine PCalls.body fn55 _ (by simp) ?_
  unfold ir55
  (refine goA ?_; repeat (refine goN fun _ => ?_; refine goA ?_))
  refine s_call rfl ?_
  refine CallOK.pure (within_ok ..) ?_
  (refine goA ?_; repeat (refine goN fun _ => ?_; refine goA ?_))
  refine post_ret rfl ⟨0, ?_⟩
  rw [h1]
  simp [closeAV, mkRes, rowOkB]
theorem hold_ok (x : Tick) (k : Nat) (hk : k < x.said.length) : PCalls Try.prog 57 [x.av, .fptr [.i (k : Nat)]] (.b (rd x.said k == 1)) := by
  have h1 : x.said[k]? = some (rd x.said k) := rd_get hk
  refine PCalls.body fn57 _ (by simp) ?_
  unfold ir57
  (refine goA ?_; repeat (refine goN fun _ => ?_; refine goA ?_))
  refine post_ret rfl ⟨0, ?_⟩
  rfl
theorem s_slc_fz {P : Program} {l : List Ins} {E : Env} {H : Heap} {K : Env → Heap → Prop} {α : Type} {g : α → AV} {d sz : Nat} {x a b : Opd} {xs : List α} {m n : Int} (hx : E.opd x = some (.fz sz (xs.map g))) (hl : E.opd a = some (.i m)) (hh : E.opd b = some (.i n)) (h0 : 0 ≤ m ∧ m ≤ n ∧ n ≤ xs.length) (k : insRun P l ((d, .fz sz (((xs.take n.toNat).drop m.toNat).map g)) :: E) H K) : insRun P (⟨some d, .slc sz x (some a) (some b), none⟩ :: l) E H K := by
  refine s_slc (vl := some (.i m)) (vh := some (.i n)) hx (by simp [optOpd, hl]) (by simp [optOpd, hh]) ?_ k
  simp only [sliceVal, AV.i, if_pos h0.1, if_pos (show 0 ≤ n by omega)]
  rw [if_pos ⟨by omega, by rw [List.length_map]; omega, trivial⟩, List.map_drop, List.map_take]
theorem told_eq {p : Panel} {l : List Sig} {T : Nat} (hn : numsOk l) (k t : Nat) (d : Gate) (hd : p.doors[k]? = some d) (hw : 1 ≤ d.wait) (ht : t < T) : (((ticksTo p l T).take ((t : Int) + 1).toNat).drop (max 0 ((t : Int) - d.wait + 1)).toNat).any (fun y => rd y.said k == 1) = toldB p l t k := by
  have hwk : waitOf p k = d.wait := by simp [waitOf, hd]
  have hlen := ticksTo_len p l T
  rw [Bool.eq_iff_iff, List.any_eq_true, toldB, List.any_eq_true]
  have hsd : ∀ s, rd (tickOf p l s (memOf p l s)).said k = saidK p l s k := fun s => by rw [(tick_at p l s hn k d hd).1, saidK, hd]
  constructor
  · rintro ⟨y, hy, h1⟩
    obtain ⟨i, hi, he⟩ := List.getElem_of_mem hy
    simp only [List.length_drop, List.length_take, hlen] at hi
    have he2 : ((((ticksTo p l T).take ((t : Int) + 1).toNat).drop (max 0 ((t : Int) - d.wait + 1)).toNat))[i]? = some y := by rw [List.getElem?_eq_getElem (by simp [hlen]; omega), he]
    rw [List.getElem?_drop, List.getElem?_take] at he2
    rw [if_pos (by omega), ticksTo_get p l T _ (by omega)] at he2
    injection he2 with he2
    refine ⟨(max 0 ((t : Int) - d.wait + 1)).toNat + i, List.mem_range.2 (by omega), ?_⟩
    rw [← he2, hsd] at h1
    rw [h1, hwk]
    simp; omega
  · rintro ⟨s, hs, h1⟩
    have hs2 := List.mem_range.1 hs
    rw [Bool.and_eq_true, decide_eq_true_eq, hwk] at h1
    refine ⟨tickOf p l s (memOf p l s), ?_, by rw [hsd]; exact h1.2⟩
    refine List.mem_of_getElem? (i := s - (max 0 ((t : Int) - d.wait + 1)).toNat) ?_
    rw [List.getElem?_drop, List.getElem?_take, if_pos (by omega), show (max 0 ((t : Int) - d.wait + 1)).toNat + (s - (max 0 ((t : Int) - d.wait + 1)).toNat) = s by omega]
    exact ticksTo_get p l T s (by omega)
theorem tick_facts (p : Panel) (l : List Sig) (T : Nat) : ∀ x ∈ ticksTo p l T, x.said.length = p.doors.length := by
  induction T with
  | zero => intro x hx; simp [ticksTo] at hx
  | succ T ih =>
    intro x hx
    rw [ticksTo, List.mem_append] at hx
    rcases hx with hx | hx
    · exact ih x hx
    · rw [List.mem_singleton] at hx
      subst hx
      obtain ⟨h2, _⟩ := doorsTo_len p T (tickSg p l T (memOf p l T)).missed ⟨(tickSg p l T (memOf p l T)).power, (tickVA p l T (memOf p l T)).1, (tickVA p l T (memOf p l T)).2, List.replicate p.doors.length 0, List.replicate p.doors.length 0, (tickSg p l T (memOf p l T)).stood⟩ p.doors.length
      exact h2.trans (by simp)
theorem tick_pow (p : Panel) (l : List Sig) (t : Nat) : (tickOf p l t (memOf p l t)).power = powTo l (t + 1) := by
  obtain ⟨_, _, _, _, h, _⟩ := doorsTo_len p t (tickSg p l t (memOf p l t)).missed ⟨(tickSg p l t (memOf p l t)).power, (tickVA p l t (memOf p l t)).1, (tickVA p l t (memOf p l t)).2, List.replicate p.doors.length 0, List.replicate p.doors.length 0, (tickSg p l t (memOf p l t)).stood⟩ p.doors.length
  exact h.trans (tickSg_power p l t)
theorem freesI_bnd2 {p : Panel} (hb : badPanel p = false) : 0 ≤ freesI p ∧ freesI p ≤ 1049 := by
  have hw := goodW_of hb
  have := waitTo_bnd hw p.doors.length
  have := hw.2
  unfold freesI
  split <;> omega
theorem safe_ok (p : Panel) (hsm : p.small) (ticks : Int) (l : List Sig) (hl : l.length ≤ 9223372036854775807) (rows : List Int) (hro : rows.length ≤ 9223372036854775807) : PCalls Try.prog 34 [p.av, .i ticks, .fz 4 (l.map Sig.av), .fz 1 (rows.map .i)] (.tup [.i (safeV p ticks l rows).1, .i (safeV p ticks l rows).2.1, .i (safeV p ticks l rows).2.2]) := by
  refine PCalls.body fn34 _ (by simp) ?_
  unfold ir34
  (refine goA ?_; repeat (refine goN fun _ => ?_; refine goA ?_))
  rename_i a4
  refine s_call rfl ?_
  refine CallOK.pure (begin_ok p hsm ticks l hl) ?_
  (refine goA ?_; repeat (refine goN fun _ => ?_; refine goA ?_))
  refine AWP.cond rfl (fun h1 => ?_) (fun h1 => ?_)
  · have hE : ¬ beginE p ticks l = 0 := by simpa using h1
    (refine goA ?_; repeat (refine goN fun _ => ?_; refine goA ?_))
    refine post_ret rfl ⟨0, ?_⟩
    rw [safeV, if_neg hE]; rfl
  have hE : beginE p ticks l = 0 := by simpa using h1
  obtain ⟨T, rfl⟩ : ∃ T : Nat, ticks = T := ⟨ticks.toNat, by have := (begin_good hE).2.1; omega⟩
  have hT : T ≤ 1000 := by have := (begin_good hE).2.1; omega
  have hts : beginT p T l = ticksTo p l T := by rw [beginT, if_pos hE]; rfl
  have hb := (begin_good hE).1
  have hg := pgood hb
  have hnn := right_nums (begin_good hE).2.2.2
  have hdl := hg.len
  have hfb := freesI_bnd2 hb
  have hpl := pow_le hdl
  rw [hts]
  have hlm : (((rows.map AV.i).length : Nat) : Int) = (rows.length : Nat) := by simp
  by_cases hlen : rows.length = T
  case neg =>
    have hne : ((((rows.map AV.i).length : Nat) : Int) != (T : Int)) = true := by simp; omega
    (refine goA ?_; repeat (refine goN fun _ => ?_; refine goA ?_))
    refine post_ret rfl ⟨0, ?_⟩
    rw [safeV, if_pos hE, if_pos (by simp; left; omega)]; rfl
  have hne : ((((rows.map AV.i).length : Nat) : Int) != (T : Int)) = false := by simp; omega
  (refine goA ?_; repeat (refine goN fun _ => ?_; refine goA ?_))
  refine s_call rfl ?_
  refine CallOK.borrow' 2 (xs' := [.fz 1 (rows.map .i), .fn 55 [.fptr p.cells]]) (by simp [closeAV, closeAV_zero, Heap.get, Heap.set, AV.cells_agg, cells_i, cells_b, elemMap, Panel.av, Gate.av, Sig.av, Tick.av]) (any54_ok rows hro 55 [.fptr p.cells] (fun n => !rowOkB p n) fun n _ => rowOk_ok p hdl n) rfl ?_
  cases hbad : rows.any (fun n => !rowOkB p n)
  case true =>
    (refine goA ?_; repeat (refine goN fun _ => ?_; refine goA ?_))
    refine post_ret rfl ⟨0, ?_⟩
    rw [safeV, if_pos hE, if_pos (by rw [hbad]; simp)]; rfl
  have hrow : ∀ n ∈ rows, 0 ≤ n ∧ n < ((2 ^ p.doors.length : Nat) : Int) := fun n hn => by
    have := List.any_eq_false.1 hbad n hn
    simp only [Bool.not_eq_true, Bool.not_eq_false', rowOkB, inR_iff] at this
    omega
  have hsv : safeV p T l rows = match firstT (badAt p l rows) rows.length p.doors.length with
    | some (t, d) => ((t : Int), (d : Int), 0)
    | none => (-1, -1, 0) := by rw [safeV, if_pos hE, if_neg (by rw [hbad]; simp; omega)]; rfl
  (refine goA ?_; repeat (refine goN fun _ => ?_; refine goA ?_))
  rw [hlm]
  refine AWP.loopS (σ := Nat) (fun t => [(38, .i (t : Nat)), (37, .i (rows.length : Nat)), (36, .fz 1 (rows.map .i)), (11, .fz 6 ((ticksTo p l T).map Tick.av)), (4, .ptr 4 a4 4 0 0)]) (fun _ => [(4, a4, .arr 4 [p.av])]) (fun t => t ≤ rows.length ∧ ∀ s, s < t → ∀ k, k < p.doors.length → badAt p l rows s k = false) (fun t => rows.length - t) 0 (by first | (refine Weak.of ?_; (repeat (first | exact trivial | refine ⟨rfl, ?_⟩ | refine ⟨by simp [Env.get], ?_⟩)); done) | (refine Weak.pick (by repeat (first | exact trivial | refine ⟨rfl, ?_⟩ | refine ⟨by simp [Env.get], ?_⟩)) (by first | rfl | (simp [pickH, Heap.get, Heap.del, Heap.set, ofV_i, ofV_b]; done)))) ⟨by omega, by omega⟩ ?_
  rintro t ⟨ht, hI⟩ K2 hK2
  try dsimp only at hK2 ⊢
  by_cases hlt : t < rows.length
  case neg =>
    have ht' : t = rows.length := by omega
    subst ht'
    (refine goA ?_; repeat (refine goN fun _ => ?_; refine goA ?_))
    refine post_ret rfl ⟨0, ?_⟩
    rw [hsv, firstT_none hI]; rfl
  obtain ⟨r, hr, hr2⟩ : ∃ r : Nat, rows[t]? = some (r : Int) ∧ r < 2 ^ p.doors.length := by
    have := hrow rows[t] (by simp)
    exact ⟨rows[t].toNat, by rw [List.getElem?_eq_getElem hlt]; congr 1; omega, by omega⟩
  have hrd : rd rows t = r := by simp [rd, hr]
  have hx : (ticksTo p l T)[t]? = some (tickOf p l t (memOf p l t)) := ticksTo_get p l T t (by omega)
  have hxp := tick_pow p l t
  have htf := tick_facts p l T
  have htl := ticksTo_len p l T
  have hdm : (((p.doors.map Gate.av).length : Nat) : Int) = (p.doors.length : Nat) := by simp
  (refine goA ?_; repeat (refine goN fun _ => ?_; refine goA ?_))
  rw [hdm]
  refine AWP.loopS (σ := Nat) (fun k => [(46, .i (k : Nat)), (45, .i (p.doors.length : Nat)), (44, .fz 2 (p.doors.map Gate.av)), (12, .i (t : Nat)), (13, .i (r : Nat)), (38, .i (t : Nat)), (37, .i (rows.length : Nat)), (36, .fz 1 (rows.map .i)), (11, .fz 6 ((ticksTo p l T).map Tick.av)), (4, .ptr 4 a4 4 0 0)]) (fun _ => [(4, a4, .arr 4 [p.av])]) (fun k => k ≤ p.doors.length ∧ ∀ j, j < k → badAt p l rows t j = false) (fun k => p.doors.length - k) 0 (by first | (refine Weak.of ?_; (repeat (first | exact trivial | refine ⟨rfl, ?_⟩ | refine ⟨by simp [Env.get], ?_⟩)); done) | (refine Weak.pick (by repeat (first | exact trivial | refine ⟨rfl, ?_⟩ | refine ⟨by simp [Env.get], ?_⟩)) (by first | rfl | (simp [pickH, Heap.get, Heap.del, Heap.set, ofV_i, ofV_b]; done)))) ⟨by omega, by omega⟩ ?_
  rintro k ⟨hk, hJ⟩ K3 hK3
  try dsimp only at hK3 ⊢
  by_cases hlt2 : k < p.doors.length
  case neg =>
    have hk' : k = p.doors.length := by omega
    subst hk'
    (refine goA ?_; repeat (refine goN fun _ => ?_; refine goA ?_))
    refine hK2 (t + 1) _ _ (by omega) ⟨by omega, fun s hs j hj => ?_⟩ (by first | (refine Weak.of ?_; (repeat (first | exact trivial | refine ⟨rfl, ?_⟩ | refine ⟨by simp [Env.get], ?_⟩)); done) | (refine Weak.pick (by repeat (first | exact trivial | refine ⟨rfl, ?_⟩ | refine ⟨by simp [Env.get], ?_⟩)) (by first | rfl | (simp [pickH, Heap.get, Heap.del, Heap.set, ofV_i, ofV_b]; done))))
    by_cases e : s < t
    · exact hI s e j hj
    · have : s = t := by omega
      subst this; exact hJ j hj
  have hd : p.doors[k]? = some p.doors[k] := by simp
  generalize p.doors[k] = g at hd
  have hw := hg.wait g (List.mem_of_getElem? hd)
  have hte := told_eq (T := T) hnn k t g hd hw.1 (by omega)
  have hbit := bits2 ⟨r, by omega⟩ ⟨k, by omega⟩
  dsimp only at hbit
  have hbd : badAt p l rows t k = (r.testBit k && (!powTo l (t + 1) || decide (freesI p ≤ t) || !toldB p l t k)) := by rw [badAt, hrd, Int.toNat_natCast]
  have found : badAt p l rows t k = true → safeV p T l rows = ((t : Int), (k : Int), 0) := fun h => by rw [hsv, firstT_some hlt hlt2 hI hJ h]
  have next : ∀ E' H', badAt p l rows t k = false → Weak 90 E' H' [(46, .i ((k + 1 : Nat) : Int)), (45, .i (p.doors.length : Nat)), (44, .fz 2 (p.doors.map Gate.av)), (12, .i (t : Nat)), (13, .i (r : Nat)), (38, .i (t : Nat)), (37, .i (rows.length : Nat)), (36, .fz 1 (rows.map .i)), (11, .fz 6 ((ticksTo p l T).map Tick.av)), (4, .ptr 4 a4 4 0 0)] [(4, a4, .arr 4 [p.av])] → K3 E' H' := by
    intro E' H' hf hw
    refine hK3 (k + 1) E' H' (by omega) ⟨by omega, fun j hj => ?_⟩ hw
    by_cases e : j < k
    · exact hJ j e
    · have : j = k := by omega
      subst this; exact hf
  clear hK2 hK3 hI hJ hsv
  refine AWP.seq' ?_
  (refine goI ?_; repeat (refine goN fun _ => ?_; refine goI ?_))
  refine AWP.seq' ?_
  (refine goI ?_; repeat (refine goN fun _ => ?_; refine goI ?_))
  refine AWP.seq' ?_
  (refine goI ?_; repeat (refine goN fun _ => ?_; refine goI ?_))
  refine AWP.seqCutQ (σ := Loc × Loc) (fun s => [(14, .ptr 14 s.1 1 0 0), (15, .ptr 15 s.2 2 0 0), (46, .i (k : Nat)), (45, .i (p.doors.length : Nat)), (44, .fz 2 (p.doors.map Gate.av)), (12, .i (t : Nat)), (13, .i (r : Nat)), (38, .i (t : Nat)), (37, .i (rows.length : Nat)), (36, .fz 1 (rows.map .i)), (11, .fz 6 ((ticksTo p l T).map Tick.av)), (4, .ptr 4 a4 4 0 0)]) (fun s => [(14, s.1, .arr 1 [.i (k : Nat)]), (15, s.2, .arr 2 [g.av]), (4, a4, .arr 4 [p.av])]) ?_ ?_
  · intro K Q hK
    (refine goA ?_; repeat (refine goN fun _ => ?_; refine goA ?_))
    exact hK ⟨_, _⟩ _ _ (by first | (refine Weak.of ?_; (repeat (first | exact trivial | refine ⟨rfl, ?_⟩ | refine ⟨by simp [Env.get], ?_⟩)); done) | (refine Weak.pick (by repeat (first | exact trivial | refine ⟨rfl, ?_⟩ | refine ⟨by simp [Env.get], ?_⟩)) (by first | rfl | (simp [pickH, Heap.get, Heap.del, Heap.set, ofV_i, ofV_b]; done))))
  rintro ⟨a14, a15⟩
  try dsimp only
  (refine goA ?_; repeat (refine goN fun _ => ?_; refine goA ?_))
  have hmx : (if (t : Int) - g.wait + 1 > 0 then (t : Int) - g.wait + 1 else 0) = max 0 ((t : Int) - g.wait + 1) := by split <;> omega
  refine s_slc_fz rfl rfl rfl (by rw [hmx]; omega) ?_
  rw [hmx]
  (refine goA ?_; repeat (refine goN fun _ => ?_; refine goA ?_))
  refine s_call rfl ?_
  refine CallOK.borrow' 2 (xs' := [.fz 6 ((((ticksTo p l T).take ((t : Int) + 1).toNat).drop (max 0 ((t : Int) - g.wait + 1)).toNat).map Tick.av), .fn 57 [.fptr [.i (k : Nat)]]]) ?_ (any56_ok (((ticksTo p l T).take ((t : Int) + 1).toNat).drop (max 0 ((t : Int) - g.wait + 1)).toNat) (by simp [htl]; omega) 57 [.fptr [.i (k : Nat)]] (fun y => rd y.said k == 1) fun y hy => ?_) rfl ?_
  · simp [closeAV, Heap.get, elemMap, AV.cells, AV.i]
  · exact hold_ok y k (by rw [htf y (List.mem_of_mem_take (List.mem_of_mem_drop hy))]; exact hlt2)
  rw [hte]
  generalize toldB p l t k = td at hbd
  (refine goA ?_; repeat (refine goN fun _ => ?_; refine goA ?_))
  refine s_if rfl (fun hc => ?_) (fun hc => ?_)
  case refine_2 =>
    have hc2 : r.testBit k = false := by rw [← hbit]; exact hc
    (refine goA ?_; repeat (refine goN fun _ => ?_; refine goA ?_))
    exact next _ _ (by rw [hbd, hc2]; rfl) (by first | (refine Weak.of ?_; (repeat (first | exact trivial | refine ⟨rfl, ?_⟩ | refine ⟨by simp [Env.get], ?_⟩)); done) | (refine Weak.pick (by repeat (first | exact trivial | refine ⟨rfl, ?_⟩ | refine ⟨by simp [Env.get], ?_⟩)) (by first | rfl | (simp [pickH, Heap.get, Heap.del, Heap.set, ofV_i, ofV_b]; done))))
  have hc2 : r.testBit k = true := by rw [← hbit]; exact hc
  rw [hc2, Bool.true_and, ← hxp] at hbd
  (refine goA ?_; repeat (refine goN fun _ => ?_; refine goA ?_))
  by_cases hpw : (tickOf p l t (memOf p l t)).power = true
  case neg =>
    have hpn : (!(tickOf p l t (memOf p l t)).power) = true := by simp [hpw]
    (refine goA ?_; repeat (refine goN fun _ => ?_; refine goA ?_))
    refine post_ret rfl ⟨0, ?_⟩
    rw [found (by rw [hbd, hpn]; rfl)]; rfl
  have hpn : (!(tickOf p l t (memOf p l t)).power) = false := by simp [hpw]
  rw [hpn, Bool.false_or] at hbd
  (refine goA ?_; repeat (refine goN fun _ => ?_; refine goA ?_))
  refine s_call rfl ?_
  refine CallOK.pure (frees_ok p (goodW_of hb)) ?_
  by_cases hf : freesI p ≤ t
  · (refine goA ?_; repeat (refine goN fun _ => ?_; refine goA ?_))
    refine post_ret rfl ⟨0, ?_⟩
    rw [found (by rw [hbd]; simp [hf])]; rfl
  have hfd : decide (freesI p ≤ (t : Int)) = false := by simp [hf]
  rw [hfd, Bool.false_or] at hbd
  cases td
  · (refine goA ?_; repeat (refine goN fun _ => ?_; refine goA ?_))
    refine post_ret rfl ⟨0, ?_⟩
    rw [found hbd]; rfl
  · (refine goA ?_; repeat (refine goN fun _ => ?_; refine goA ?_))
    exact next _ _ hbd (by first | (refine Weak.of ?_; (repeat (first | exact trivial | refine ⟨rfl, ?_⟩ | refine ⟨by simp [Env.get], ?_⟩)); done) | (refine Weak.pick (by repeat (first | exact trivial | refine ⟨rfl, ?_⟩ | refine ⟨by simp [Env.get], ?_⟩)) (by first | rfl | (simp [pickH, Heap.get, Heap.del, Heap.set, ofV_i, ofV_b]; done))))
end Go.Proofs.Ytjnencdmejhmjaa.Eng
