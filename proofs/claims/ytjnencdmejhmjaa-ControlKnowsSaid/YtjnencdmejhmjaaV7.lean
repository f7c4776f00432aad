/- CONTROL: Knows of both; sameLists: walked. -/
import Derived.Test.YtjnencdmejhmjaaV6
import Derived.Test.YtjnencdmejhmjaaW13
namespace Go.Proofs.Ytjnencdmejhmjaa.Eng
open Go Go.RowKit
attribute [local irreducible] insRun planRun AWP holdsAll CallOK Weak Ins.holds
set_option linter.unusedSimpArgs false
set_option linter.unusedVariables false
set_option maxHeartbeats 4000000
def knowV (p : Panel) (l : List Sig) (T : Nat) : List (List Int) := (List.range T).map fun t => (memOf p l (t + 1)).values
def knowA (p : Panel) (l : List Sig) (T : Nat) : List (List Int) := (List.range T).map fun t => (memOf p l (t + 1)).ages
theorem knowV_succ (p : Panel) (l : List Sig) (t : Nat) : (knowV p l (t + 1)).map ints = (knowV p l t).map ints ++ [ints (memOf p l (t + 1)).values] := by simp [knowV, List.range_succ]
theorem knowA_succ (p : Panel) (l : List Sig) (t : Nat) : (knowA p l (t + 1)).map ints = (knowA p l t).map ints ++ [ints (memOf p l (t + 1)).ages] := by simp [knowA, List.range_succ]
theorem knowV_len (p : Panel) (l : List Sig) (t : Nat) : (knowV p l t).length = t := by simp [knowV]
theorem knowA_len (p : Panel) (l : List Sig) (t : Nat) : (knowA p l t).length = t := by simp [knowA]
def kV (p : Panel) (ticks : Int) (l : List Sig) : List (List Int) := if beginE p ticks l = 0 then knowV p l ticks.toNat else []
def kA (p : Panel) (ticks : Int) (l : List Sig) : List (List Int) := if beginE p ticks l = 0 then knowA p l ticks.toNat else []
theorem close_lists {H : Heap} {h n : Nat} {a : Loc} {R : List (List Int)} (hH : H.get h = some (a, .arr 1 (R.map ints))) (hn : n = R.length) (k : Nat) : closeAV H (k + 1) (.ref h a 1 0 n) = .fz 1 (R.map ints) :=
  close_ints (g := ints) (fun H k => by funext x; cases k <;> rfl) hH hn k
theorem knows_d0 {p : Panel} {l : List Sig} {t : Nat} {x : Tick} {a11 a32 a37 : Loc} {ts : List Tick} {vs gs : List (List Int)} (ht : t ≤ 1000) (hv : vs.length = t) (hgl : gs.length = t) {Q : Exit → Env → Heap → Prop} (hK : ∀ (s : Loc × Loc) E' H', Weak 41 E' H' [(24, .i (t : Nat)), (23, .i (ts.length : Nat)), (22, .fz 6 (ts.map Tick.av)), (6, .ref 32 s.1 1 0 (t + 1)), (7, .ref 37 s.2 1 0 (t + 1))] [(32, s.1, .arr 1 (vs.map ints ++ [ints x.values])), (37, s.2, .arr 1 (gs.map ints ++ [ints x.ages]))] → Q .normal E' H') :
    AWP Try.prog 41 ir30_d0 [(11, .ptr 11 a11 6 0 0), (24, .i (t : Nat)), (23, .i (ts.length : Nat)), (22, .fz 6 (ts.map Tick.av)), (6, .ref 32 a32 1 0 t), (7, .ref 37 a37 1 0 t)] [(11, a11, .arr 6 [x.av]), (32, a32, .arr 1 (vs.map ints)), (37, a37, .arr 1 (gs.map ints))] Q := by
  unfold ir30_d0
  (repeat (first | refine And.intro (a := holdsAll _ _ _ _) ?_ ?_ | refine exit_in ?_ | refine exit_out rfl ?_ | refine then_norm ?_ | refine block_norm ?_ | refine then_exit ?_ | refine then_ret ?_ | refine block_ret ?_ | (show insRun _ _ _ _ _; first | refine s_und rfl rfl ?_ | refine s_yes rfl ?_ | refine s_no rfl rfl ?_ | refine s_mov rfl ?_ | refine s_asg rfl ?_ | refine s_pickT rfl rfl ?_ | refine s_pickF rfl rfl ?_ | refine s_add rfl rfl (by omega) ?_ | refine s_sub rfl rfl (by omega) ?_ | refine s_quo rfl rfl (by omega) (by omega) ?_ | refine s_rem rfl rfl (by omega) (by omega) ?_ | refine s_bin rfl rfl rfl ?_ | refine s_boolq rfl rfl rfl ?_ | refine s_un rfl rfl ?_ | refine s_conv rfl rfl ?_ | refine s_load_fagg rfl rfl ?_ | refine s_load rfl rfl ?_ | refine s_nilck rfl rfl ?_ | refine s_faddr rfl rfl ?_ | refine s_fld rfl rfl ?_ | refine s_iaddr_fzn rfl rfl (by assumption) ?_ | refine s_iaddr_fzn rfl rfl (get_map _ (by assumption)) ?_ | refine s_iaddr_ref0 rfl rfl (by omega) ?_ | refine s_iaddr_refi rfl rfl (by assumption) ?_ | refine s_seti rfl rfl rfl (by first | omega | (simp; omega)) ?_ | refine s_setb rfl rfl rfl (by first | omega | (simp; omega)) ?_ | refine s_ldi rfl rfl (by assumption) ?_ | refine s_ldb rfl rfl (by assumption) ?_ | refine s_load_p rfl rfl rfl rfl ?_ | refine s_load_pagg rfl rfl rfl rfl ?_ | refine s_load_p rfl rfl (by assumption) rfl ?_ | refine s_load_p rfl rfl (get_map _ (by assumption)) rfl ?_ | refine s_load_pagg rfl rfl (by assumption) rfl ?_ | refine s_load_pagg rfl rfl (get_map _ (by assumption)) rfl ?_ | refine s_slc rfl rfl rfl rfl ?_ | refine s_ext rfl rfl ?_ | refine s_len rfl rfl ?_ | refine s_minn rfl rfl rfl ?_ | refine s_maxx rfl rfl rfl ?_ | refine s_store rfl rfl rfl rfl rfl rfl (by first | exact Nat.le_refl _ | exact Nat.le_of_ble_eq_true rfl) rfl ?_ | refine s_mks rfl rfl (by first | omega | (simp; omega)) fun _ => ?_ | refine s_mksi rfl rfl (by omega) (by omega) fun _ => ?_ | refine s_build rfl rfl ?_ | refine s_bsl rfl rfl fun _ => ?_ | refine s_mkf rfl ?_ | refine s_alloc fun _ => ?_ | refine s_box rfl rfl rfl rfl fun _ => ?_ | refine s_done ?_ | refine s_ifT rfl (by first | assumption | (simp; done) | (simp; omega)) ?_ | refine s_no rfl (by first | assumption | (simp; done) | (simp; omega)) ?_ | refine s_pick' (b := true) rfl (by first | assumption | (simp; done) | (simp; omega)) rfl ?_ | refine s_pick' (b := false) rfl (by first | assumption | (simp; done) | (simp; omega)) rfl ?_) | (show AWP _ _ _ _ _ _; first | refine AWP.seq' ?_ | refine AWP.ins ?_ | refine AWP.drawn ?_ | refine AWP.skip ?_ | refine AWP.ret ?_ | refine AWP.exit ?_ | refine AWP.block ?_ | refine AWP.condT rfl ?_ | refine AWP.condF rfl ?_ | refine AWP.condDT rfl (by first | assumption | (simp; done) | (simp; omega)) ?_ | refine AWP.condDF rfl (by first | assumption | (simp; done) | (simp; omega)) ?_) | (show planRun _ _ _ _ _ _; first | refine p_done ?_ | exact p_none | refine p_still rfl ?_ | refine p_eff1 rfl ?_ | refine p_eff rfl ?_ ?_) | (show holdsAll _ _ _ _; first | exact h_nil | refine h_guard rfl ?_ ?_ | refine h_iafz rfl rfl rfl rfl (by assumption) ?_ | refine h_iafz rfl rfl rfl rfl (get_map _ (by assumption)) ?_ | refine h_ld rfl rfl rfl rfl rfl rfl ?_ | refine h_ldagg rfl rfl rfl rfl rfl rfl ?_ | refine h_cons rfl rfl rfl ?_) | (show Ins.holds _ _ _; first | exact g_und rfl rfl | exact g_no rfl (by first | assumption | (simp; done) | (simp; omega)) rfl | refine g_yes rfl (by first | assumption | (simp; done) | (simp; omega)) ?_ | exact g_iafz rfl rfl rfl (by assumption) | exact g_iafz rfl rfl rfl (get_map _ (by assumption)) | exact g_ld rfl rfl rfl rfl rfl | exact g_ldagg rfl rfl rfl rfl rfl | exact g_cons rfl rfl) | (first | exact hK ⟨_, _⟩ _ _ (by refine Weak.pick ?_ rfl; repeat (first | exact trivial | refine ⟨rfl, ?_⟩)) | refine s_app_ref rfl rfl rfl rfl (by simp [hv, hgl]) rfl (by omega) fun _ => ?_)))
theorem ticks_know (p : Panel) (l : List Sig) (T t : Nat) (ht : t < T) : ∃ x, (ticksTo p l T)[t]? = some x ∧ x.values = (memOf p l (t + 1)).values ∧ x.ages = (memOf p l (t + 1)).ages := by
  refine ⟨_, ticksTo_get p l T t ht, ?_⟩
  obtain ⟨_, _, lv, la, _, _⟩ := doorsTo_len p t (tickSg p l t (memOf p l t)).missed ⟨(tickSg p l t (memOf p l t)).power, (memOf p l (t + 1)).values, (memOf p l (t + 1)).ages, List.replicate p.doors.length 0, List.replicate p.doors.length 0, (tickSg p l t (memOf p l t)).stood⟩ p.doors.length
  exact ⟨lv, la⟩
theorem knows_ok (p : Panel) (hsm : p.small) (ticks : Int) (l : List Sig) (hl : l.length ≤ 9223372036854775807) : PCalls Try.prog 30 [p.av, .i ticks, .fz 4 (l.map Sig.av)] (.tup [.fz 1 ((kV p ticks l).map ints), .fz 1 ((kA p ticks l).map ints), .i (beginE p ticks l)]) := by
  refine PCalls.body fn30 _ (by simp) ?_
  unfold ir30
  (refine goA ?_; repeat (refine goN fun _ => ?_; refine goA ?_))
  refine s_call rfl ?_
  refine CallOK.pure (begin_ok p hsm ticks l hl) ?_
  (refine goA ?_; repeat (refine goN fun _ => ?_; refine goA ?_))
  refine AWP.cond rfl (fun h1 => ?_) (fun h1 => ?_)
  · have hE : ¬ beginE p ticks l = 0 := by simpa using h1
    refine AWP.seq' ?_
    (refine goI ?_; repeat (refine goN fun _ => ?_; refine goI ?_))
    refine AWP.weak (Weak.nilfz 6 1 rfl) ?_
    refine AWP.weak (Weak.nilfz 7 1 rfl) ?_
    (refine goA ?_; repeat (refine goN fun _ => ?_; refine goA ?_))
    refine post_ret rfl ⟨0, ?_⟩
    rw [kV, kA, if_neg hE, if_neg hE]; rfl
  have hE : beginE p ticks l = 0 := by simpa using h1
  obtain ⟨T, rfl⟩ : ∃ T : Nat, ticks = T := ⟨ticks.toNat, by have := (begin_good hE).2.1; omega⟩
  have hT : T ≤ 1000 := by have := (begin_good hE).2.1; omega
  have hts : beginT p T l = ticksTo p l T := by rw [beginT, if_pos hE]; rfl
  rw [hts]
  have htl := ticksTo_len p l T
  have hkn := fun t ht => ticks_know p l T t ht
  generalize ticksTo p l T = ts at htl hkn ⊢
  have hlm : ((ts.map Tick.av).length : Int) = (ts.length : Nat) := by simp
  (refine goA ?_; repeat (refine goN fun _ => ?_; refine goA ?_))
  rw [hlm]
  refine AWP.weak (Weak.virt 32 6 1 rfl) ?_
  refine AWP.weak (Weak.virt 37 7 1 rfl) ?_
  refine AWP.loopS (σ := Nat × Loc × Loc) (fun s => [(24, .i (s.1 : Nat)), (23, .i (ts.length : Nat)), (22, .fz 6 (ts.map Tick.av)), (6, .ref 32 s.2.1 1 0 s.1), (7, .ref 37 s.2.2 1 0 s.1)]) (fun s => [(32, s.2.1, .arr 1 ((knowV p l s.1).map ints)), (37, s.2.2, .arr 1 ((knowA p l s.1).map ints))]) (fun s => s.1 ≤ T) (fun s => T - s.1) (0, ⟨0, 0, true⟩, ⟨0, 0, true⟩) (by first | (refine Weak.of ?_; (repeat (first | exact trivial | refine ⟨rfl, ?_⟩ | refine ⟨by simp [Env.get], ?_⟩)); done) | (refine Weak.pick (by repeat (first | exact trivial | refine ⟨rfl, ?_⟩ | refine ⟨by simp [Env.get], ?_⟩)) (by first | rfl | (simp [pickH, Heap.get, Heap.del, Heap.set, ofV_i, ofV_b]; done)))) (by dsimp only; omega) ?_
  rintro ⟨t, a32, a37⟩ ht K2 hK2
  dsimp only at ht hK2 ⊢
  by_cases hlt : t < T
  · obtain ⟨x, hx, hxv, hxa⟩ := hkn t hlt
    refine AWP.seq' ?_
    (refine goI ?_; repeat (refine goN fun _ => ?_; refine goI ?_))
    refine AWP.seq' ?_
    (refine goI ?_; repeat (refine goN fun _ => ?_; refine goI ?_))
    refine AWP.seq' ?_
    (refine goI ?_; repeat (refine goN fun _ => ?_; refine goI ?_))
    refine AWP.seqCutQ (σ := Loc) (fun a11 => [(11, .ptr 11 a11 6 0 0), (24, .i (t : Nat)), (23, .i (ts.length : Nat)), (22, .fz 6 (ts.map Tick.av)), (6, .ref 32 a32 1 0 t), (7, .ref 37 a37 1 0 t)]) (fun a11 => [(11, a11, .arr 6 [x.av]), (32, a32, .arr 1 ((knowV p l t).map ints)), (37, a37, .arr 1 ((knowA p l t).map ints))]) ?_ ?_
    · intro K Q hK
      (refine goA ?_; repeat (refine goN fun _ => ?_; refine goA ?_))
      exact hK _ _ _ (by first | (refine Weak.of ?_; (repeat (first | exact trivial | refine ⟨rfl, ?_⟩ | refine ⟨by simp [Env.get], ?_⟩)); done) | (refine Weak.pick (by repeat (first | exact trivial | refine ⟨rfl, ?_⟩ | refine ⟨by simp [Env.get], ?_⟩)) (by first | rfl | (simp [pickH, Heap.get, Heap.del, Heap.set, ofV_i, ofV_b]; done))))
    intro a11
    refine knows_d0 (p := p) (l := l) (by omega) (knowV_len p l t) (knowA_len p l t) ?_
    rintro ⟨b1, b2⟩ E' H' hw
    refine block_norm ?_
    refine then_norm ?_
    refine AWP.weak hw ?_
    (refine goI ?_; repeat (refine goN fun _ => ?_; refine goI ?_))
    refine hK2 (t + 1, b1, b2) _ _ (by dsimp only; omega) (by dsimp only; omega) ?_
    dsimp only
    rw [knowV_succ, knowA_succ, ← hxv, ← hxa]
    exact (by first | (refine Weak.of ?_; (repeat (first | exact trivial | refine ⟨rfl, ?_⟩ | refine ⟨by simp [Env.get], ?_⟩)); done) | (refine Weak.pick (by repeat (first | exact trivial | refine ⟨rfl, ?_⟩ | refine ⟨by simp [Env.get], ?_⟩)) (by first | rfl | (simp [pickH, Heap.get, Heap.del, Heap.set, ofV_i, ofV_b]; done))))
  · have ht' : t = T := by omega
    subst ht'
    (refine goA ?_; repeat (refine goN fun _ => ?_; refine goA ?_))
    refine post_ret rfl ⟨2, ?_⟩
    show AV.tup [closeAV _ 1 _, closeAV _ 1 _, closeAV _ 1 _] = _
    rw [close_lists rfl (knowV_len _ _ _).symm 0, close_lists rfl (knowA_len _ _ _).symm 0, kV, kA, if_pos hE, if_pos hE, hE]; rfl
theorem rknows_ok (p : Panel) (hsm : p.small) (ticks : Int) (l : List Sig) (hl : l.length ≤ 9223372036854775807) : PCalls Try.prog 31 [p.av, .i ticks, .fz 4 (l.map Sig.av)] (.tup [.fz 1 ((kV p ticks l).map ints), .fz 1 ((kA p ticks l).map ints), .i (beginE p ticks l)]) := by
  refine PCalls.body fn31 _ (by simp) ?_
  unfold ir31
  (refine goA ?_; repeat (refine goN fun _ => ?_; refine goA ?_))
  refine s_call rfl ?_
  refine CallOK.pure (checkSignals_ok p hsm ticks l hl) ?_
  (refine goA ?_; repeat (refine goN fun _ => ?_; refine goA ?_))
  refine AWP.cond rfl (fun h1 => ?_) (fun h1 => ?_)
  · have hE : ¬ beginE p ticks l = 0 := by simpa using h1
    refine AWP.seq' ?_
    (refine goI ?_; repeat (refine goN fun _ => ?_; refine goI ?_))
    refine AWP.weak (Weak.nilfz 6 1 rfl) ?_
    refine AWP.weak (Weak.nilfz 7 1 rfl) ?_
    (refine goA ?_; repeat (refine goN fun _ => ?_; refine goA ?_))
    refine post_ret rfl ⟨0, ?_⟩
    rw [kV, kA, if_neg hE, if_neg hE]; rfl
  have hE : beginE p ticks l = 0 := by simpa using h1
  obtain ⟨T, rfl⟩ : ∃ T : Nat, ticks = T := ⟨ticks.toNat, by have := (begin_good hE).2.1; omega⟩
  have hT : T ≤ 1000 := by have := (begin_good hE).2.1; omega
  have hg := pgood (begin_good hE).1
  (refine goA ?_; repeat (refine goN fun _ => ?_; refine goA ?_))
  refine s_call rfl ?_
  refine CallOK.pure (frames_ok hg l hl (right_nums (begin_good hE).2.2.2) (begin_sens hE) T hT) ?_
  (refine goA ?_; repeat (refine goN fun _ => ?_; refine goA ?_))
  refine AWP.weak (Weak.virt 37 11 1 rfl) ?_
  refine AWP.weak (Weak.virt 45 12 1 rfl) ?_
  refine AWP.loopS (σ := Nat × Loc × Loc) (fun s => [(13, .i (s.1 : Nat)), (1, .i (T : Nat)), (10, .fz 5 ((framesTo p l T).map Frame.av)), (11, .ref 37 s.2.1 1 0 s.1), (12, .ref 45 s.2.2 1 0 s.1)]) (fun s => [(37, s.2.1, .arr 1 ((knowV p l s.1).map ints)), (45, s.2.2, .arr 1 ((knowA p l s.1).map ints))]) (fun s => s.1 ≤ T) (fun s => T - s.1) (0, ⟨0, 0, true⟩, ⟨0, 0, true⟩) (by first | (refine Weak.of ?_; (repeat (first | exact trivial | refine ⟨rfl, ?_⟩ | refine ⟨by simp [Env.get], ?_⟩)); done) | (refine Weak.pick (by repeat (first | exact trivial | refine ⟨rfl, ?_⟩ | refine ⟨by simp [Env.get], ?_⟩)) (by first | rfl | (simp [pickH, Heap.get, Heap.del, Heap.set, ofV_i, ofV_b]; done)))) (by dsimp only; omega) ?_
  rintro ⟨t, a32, a37⟩ ht K2 hK2
  dsimp only at ht hK2 ⊢
  by_cases hlt : t < T
  · have hf := framesTo_get p l hlt
    (refine goA ?_; repeat (refine goN fun _ => ?_; refine goA ?_))
    refine s_app_ref rfl rfl rfl rfl (by simp [knowV_len]) rfl (by omega) fun b1 => ?_
    (refine goA ?_; repeat (refine goN fun _ => ?_; refine goA ?_))
    refine s_app_ref rfl rfl rfl rfl (by simp [knowA_len]) rfl (by omega) fun b2 => ?_
    (refine goA ?_; repeat (refine goN fun _ => ?_; refine goA ?_))
    refine hK2 (t + 1, b1, b2) _ _ (by dsimp only; omega) (by dsimp only; omega) ?_
    dsimp only
    rw [knowV_succ, knowA_succ]
    exact (by first | (refine Weak.of ?_; (repeat (first | exact trivial | refine ⟨rfl, ?_⟩ | refine ⟨by simp [Env.get], ?_⟩)); done) | (refine Weak.pick (by repeat (first | exact trivial | refine ⟨rfl, ?_⟩ | refine ⟨by simp [Env.get], ?_⟩)) (by first | rfl | (simp [pickH, Heap.get, Heap.del, Heap.set, ofV_i, ofV_b]; done))))
  · have ht' : t = T := by omega
    subst ht'
    (refine goA ?_; repeat (refine goN fun _ => ?_; refine goA ?_))
    refine post_ret rfl ⟨2, ?_⟩
    show AV.tup [closeAV _ 1 _, closeAV _ 1 _, closeAV _ 1 _] = _
    rw [close_lists rfl (knowV_len _ _ _).symm 0, close_lists rfl (knowA_len _ _ _).symm 0, kV, kA, if_pos hE, if_pos hE, hE]; rfl
theorem sameLists_refl (xs : List (List Int)) (hx : xs.length ≤ 1000000) (hx2 : ∀ x ∈ xs, x.length ≤ 1000000) : PCalls Try.prog 32 [.fz 1 (xs.map ints), .fz 1 (xs.map ints)] (.b true) := by
  refine PCalls.body fn32 _ (by simp) ?_
  unfold ir32
  have hne : ((((xs.map ints).length : Nat) : Int) != (((xs.map ints).length : Nat) : Int)) = false := by simp
  (refine goA ?_; repeat (refine goN fun _ => ?_; refine goA ?_))
  refine AWP.loopS (σ := Nat) (fun k => [(5, .i (k : Nat)), (0, .fz 1 (xs.map ints)), (1, .fz 1 (xs.map ints))]) (fun _ => []) (fun k => k ≤ xs.length) (fun k => xs.length - k) 0 (by first | (refine Weak.of ?_; (repeat (first | exact trivial | refine ⟨rfl, ?_⟩ | refine ⟨by simp [Env.get], ?_⟩)); done) | (refine Weak.pick (by repeat (first | exact trivial | refine ⟨rfl, ?_⟩ | refine ⟨by simp [Env.get], ?_⟩)) (by first | rfl | (simp [pickH, Heap.get, Heap.del, Heap.set, ofV_i, ofV_b]; done)))) (by first | omega | (dsimp only; omega)) ?_
  intro k hk K2 hK2
  try dsimp only at hk hK2 ⊢
  by_cases hlt : k < xs.length
  · have h1 : xs[k]? = some xs[k] := by simp [hlt]
    have h2 := hx2 xs[k] (by simp)
    generalize xs[k] = x at h1 h2
    (refine goA ?_; repeat (refine goN fun _ => ?_; refine goA ?_))
    refine s_call rfl ?_
    refine CallOK.pure (sameInts_ok x x (by omega)) ?_
    rw [show decide (x = x) = true by simp]
    (refine goA ?_; repeat (refine goN fun _ => ?_; refine goA ?_))
    refine hK2 (k + 1) _ _ (by omega) (by omega) ?_
    exact (by first | (refine Weak.of ?_; (repeat (first | exact trivial | refine ⟨rfl, ?_⟩ | refine ⟨by simp [Env.get], ?_⟩)); done) | (refine Weak.pick (by repeat (first | exact trivial | refine ⟨rfl, ?_⟩ | refine ⟨by simp [Env.get], ?_⟩)) (by first | rfl | (simp [pickH, Heap.get, Heap.del, Heap.set, ofV_i, ofV_b]; done))))
  · (refine goA ?_; repeat (refine goN fun _ => ?_; refine goA ?_))
    refine post_ret rfl ⟨0, ?_⟩
    simp [closeAV, mkRes, AV.ofV]
end Go.Proofs.Ytjnencdmejhmjaa.Eng
