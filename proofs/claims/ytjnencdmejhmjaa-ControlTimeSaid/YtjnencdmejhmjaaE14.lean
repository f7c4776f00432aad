/- ENGINE, part 14: functions, calls, what is let go of. -/
import Derived.Test.YtjnencdmejhmjaaE13
namespace Go.Proofs.Ytjnencdmejhmjaa.Eng
open Go Go.RowKit
set_option linter.unusedSimpArgs false
set_option linter.unusedVariables false
variable {P : Program} {N : Nat}

/-! ### closing: what nobody writes any more is read as a plain value -/
def AV.plain : AV → Bool
  | .agg _ => false
  | _ => true
def elemMap (f : AV → AV) : AV → AV
  | .agg cs => .agg (cs.map f)
  | x => f x
def closeAV (H : Heap) : Nat → AV → AV
  | 0, x => x
  | k + 1, .ref h a sz off n =>
    match H.get h with
    | some (a', .arr sz' els) => if a = a' ∧ sz' = sz ∧ off + n ≤ els.length then .fz sz (((els.drop off).take n).map (elemMap (closeAV H k))) else .ref h a sz off n
    | _ => .ref h a sz off n
  | k + 1, .ptr h a sz i f =>
    match H.get h with
    | some (a', .arr sz' els) => if a = a' ∧ sz' = sz then (match els[i]? with | some e => .fptr ((e.cells.drop f).map (closeAV H k)) | none => .ptr h a sz i f) else .ptr h a sz i f
    | _ => .ptr h a sz i f
  | k + 1, .agg cs => .agg (cs.map (closeAV H k))
  | k + 1, .tup cs => .tup (cs.map (closeAV H k))
  | k + 1, .fn f cs => .fn f (cs.map (closeAV H k))
  | _ + 1, x => x
theorem closeAV_leaf (H : Heap) (k : Nat) (x : AV) (h : x.leaf = true) : (closeAV H k x).leaf = true := by
  cases k with
  | zero => exact h
  | succ k =>
    cases x with
    | agg => simp [AV.leaf] at h
    | tup => simp [AV.leaf] at h
    | ref hh a sz off n =>
      simp only [closeAV]
      split
      · split <;> rfl
      · rfl
    | ptr hh a sz i f =>
      simp only [closeAV]
      split
      · split
        · split <;> rfl
        · rfl
      · rfl
    | _ => first | rfl | simpa [closeAV] using h
theorem elemMap_cells (f : AV → AV) (hf : ∀ x, x.leaf = true → (f x).leaf = true) (x : AV) (hx : x.cells.all AV.leaf = true) : (elemMap f x).cells = x.cells.map f := by
  cases x with
  | agg cs => rfl
  | _ =>
    simp only [AV.cells, List.all_cons, List.all_nil, Bool.and_true] at hx
    simp only [elemMap, AV.cells, List.map_cons, List.map_nil]
    have h2 := hf _ hx
    first
      | (generalize hz : f _ = z at h2 ⊢; cases z <;> first | rfl | simp [AV.leaf] at h2)
theorem closeAV_sound {Keep F : Nat → Prop} {w : World} {H : Heap} (hH : HeapOK Keep F w H) : ∀ (k : Nat) (x : AV) (v : Value), VR F w x v → VR (fun c => F c ∨ c ∈ H.real) w (closeAV H k x) v := by
  have up : ∀ {x : AV} {v : Value}, VR F w x v → VR (fun c => F c ∨ c ∈ H.real) w x v := fun h => h.step (fun _ h => .inl h) hH.flt (Ext.refl _ _)
  intro k
  induction k with
  | zero => exact fun x v h => up h
  | succ k ih =>
    intro x v h
    cases x with
    | ref hh a sz off n =>
      simp only [closeAV]
      split
      · rename_i a' sz' els hg
        split
        · rename_i hc
          obtain ⟨rfl, rfl, hle⟩ := hc
          have hl : (((els.drop off).take n).map (elemMap (closeAV H k))).length = n := by simp; omega
          cases h with
          | refz =>
            have e1 : ((els.drop off).take 0).map (elemMap (closeAV H k)) = [] := by simp
            rw [e1]
            exact .fz _ [] _ 0 (fun _ _ => undef) (by simp) (by omega) (by simp) (by simp) (by simp)
          | refnil =>
            have e1 : ((els.drop off).take 0).map (elemMap (closeAV H k)) = [] := by simp
            rw [e1]; exact .fznil _
          | ref _ _ _ _ _ cap cs ty q0 q1 q2 q3 q4 =>
            have hb := hH.blk _ (Heap.get_mem hg)
            simp only [BlkOK, q0, Bool.false_eq_true, if_false] at hb
            obtain ⟨cs2, ty2, b1, b2⟩ := hb
            rw [q3] at b1
            injection b1 with b1; injection b1 with b1 b1'; subst b1; subst b1'
            have hin : a.blk ∈ H.real := Heap.real_mem (Heap.get_mem hg) q0
            have key : ∀ (i : Nat) (y : AV), (((els.drop off).take n).map (elemMap (closeAV H k)))[i]? = some y → ∃ e, els[off + i]? = some e ∧ i < n ∧ y = elemMap (closeAV H k) e ∧ y.cells = e.cells.map (closeAV H k) := by
              intro i y hy
              rw [List.getElem?_map] at hy
              obtain ⟨e, he, rfl⟩ := Option.map_eq_some_iff.1 hy
              rw [take_drop_get] at he
              split at he
              · rename_i hi
                exact ⟨e, he, hi, rfl, elemMap_cells _ (closeAV_leaf H k) e (b2 _ e he).1.2⟩
              · simp at he
            have := VR.fz (F := fun c => F c ∨ c ∈ H.real) (w := w) sz' (((els.drop off).take n).map (elemMap (closeAV H k))) ⟨a.blk, a.base + off * sz', none⟩ cap (fun i j => cs.getD (a.base + (off + i) * sz' + j) undef) (by rw [hl]; exact q1) q2
              (fun i y hy => by
                obtain ⟨e, he, hi, rfl, hcells⟩ := key i y hy
                obtain ⟨⟨e1, e2⟩, e3⟩ := b2 _ e he
                rw [hcells]
                refine ⟨by simp [e1], ?_⟩
                simp only [List.all_map, List.all_eq_true, Function.comp]
                intro z hz
                exact closeAV_leaf H k z (List.all_eq_true.1 e2 z hz))
              (fun i y j z hy hz => by
                obtain ⟨e, he, hi, rfl, hcells⟩ := key i y hy
                obtain ⟨⟨e1, e2⟩, e3⟩ := b2 _ e he
                rw [hcells, List.getElem?_map] at hz
                obtain ⟨z', hz', rfl⟩ := Option.map_eq_some_iff.1 hz
                obtain ⟨u, hu1, hu2⟩ := e3 j z' hz'
                refine ⟨.inr hin, ?_⟩
                rw [Addr.add_lit]
                simp only [World.cell?, q3]
                have e4 : a.base + off * sz' + (i * sz' + j) = a.base + (off + i) * sz' + j := by rw [Nat.add_mul]; omega
                simp [e4, Array.getD_eq_getD_getElem?, hu1])
              (fun i y j z hy hz => by
                obtain ⟨e, he, hi, rfl, hcells⟩ := key i y hy
                obtain ⟨⟨e1, e2⟩, e3⟩ := b2 _ e he
                rw [hcells, List.getElem?_map] at hz
                obtain ⟨z', hz', rfl⟩ := Option.map_eq_some_iff.1 hz
                obtain ⟨u, hu1, hu2⟩ := e3 j z' hz'
                simp only [Array.getD_eq_getD_getElem?, hu1, Option.getD_some]
                exact ih _ _ hu2)
            rw [hl] at this
            exact this
        · exact up h
      · exact up h
    | ptr hh a sz i f =>
      simp only [closeAV]
      split
      · rename_i a' sz' els hg
        split
        · rename_i hc
          obtain ⟨rfl, rfl⟩ := hc
          split
          · rename_i e he
            cases h
            have hb := hH.blk _ (Heap.get_mem hg)
            simp only [BlkOK] at hb
            split at hb
            · subst hb; simp at he
            · rename_i hvir
              obtain ⟨cs, ty, b1, b2⟩ := hb
              obtain ⟨⟨e1, e2⟩, e3⟩ := b2 _ e he
              have hin : a.blk ∈ H.real := Heap.real_mem (Heap.get_mem hg) (by simpa using hvir)
              refine .fptr _ _ (fun j => cs.getD (a.base + i * sz' + (f + j)) undef) (fun j y hy => ?_) (fun j y hy => ?_)
              · rw [List.getElem?_map, List.getElem?_drop] at hy
                obtain ⟨z, hz, rfl⟩ := Option.map_eq_some_iff.1 hy
                obtain ⟨u, hu1, hu2⟩ := e3 _ z hz
                refine ⟨.inr hin, ?_⟩
                rw [Addr.add_lit]
                simp only [World.cell?, b1]
                simp [Nat.add_assoc, Array.getD_eq_getD_getElem?] at hu1 ⊢
                simp [hu1]
              · rw [List.getElem?_map, List.getElem?_drop] at hy
                obtain ⟨z, hz, rfl⟩ := Option.map_eq_some_iff.1 hy
                obtain ⟨u, hu1, hu2⟩ := e3 _ z hz
                simp only [Array.getD_eq_getD_getElem?, hu1, Option.getD_some]
                exact ih _ _ hu2
          · exact up h
        · exact up h
      · exact up h
    | agg cs =>
      cases h with
      | agg _ vs h1 h2 => exact .agg _ _ (by simp [h1]) (fun i x y hx hy => by
          rw [List.getElem?_map] at hx
          obtain ⟨z, hz, rfl⟩ := Option.map_eq_some_iff.1 hx
          exact ih _ _ (h2 i z y hz hy))
    | tup cs =>
      cases h with
      | tup _ vs h1 h2 => exact .tup _ _ (by simp [h1]) (fun i x y hx hy => by
          rw [List.getElem?_map] at hx
          obtain ⟨z, hz, rfl⟩ := Option.map_eq_some_iff.1 hx
          exact ih _ _ (h2 i z y hz hy))
    | fn f cs =>
      cases h with
      | fn _ _ vs h1 h2 => exact .fn _ _ _ (by simp [h1]) (fun i x y hx hy => by
          rw [List.getElem?_map] at hx
          obtain ⟨z, hz, rfl⟩ := Option.map_eq_some_iff.1 hx
          exact ih _ _ (h2 i z y hz hy))
    | v x => exact up h
    | fz sz xs => exact up h
    | fptr cs => exact up h
    | mp hh a => exact up h

/-! ### functions -/
inductive RV where
  | t (n : Nat)
  | cell (n : Option Nat) (t : Nat)
def compRes (P : Program) : List ResultVar → Option (List RV)
  | [] => some []
  | .tmp t :: r => (compRes P r).bind fun l => some (.t t :: l)
  | .cell a t :: r => (shapeP P t).bind fun n => (compRes P r).bind fun l => some (.cell n a :: l)
def retVals (E : Env) (H : Heap) : List RV → Option (List AV)
  | [] => some []
  | .t n :: r => (E.get n).bind fun x => (retVals E H r).bind fun l => some (x :: l)
  | .cell n t :: r => (E.get t).bind fun p => (loadVal n H p).bind fun x => (retVals E H r).bind fun l => some (x :: l)
def mkRes : List AV → AV
  | [x] => x
  | xs => .tup xs
def argEnv (k : Nat) : List AV → Env
  | [] => []
  | x :: r => (k, x) :: argEnv (k + 1) r
theorem argEnv_get (xs : List AV) : ∀ (k t : Nat) (x : AV), (argEnv k xs).get t = some x → k ≤ t ∧ xs[t - k]? = some x := by
  induction xs with
  | nil => intro k t x h; simp [argEnv, Env.get] at h
  | cons y r ih =>
    intro k t x h
    simp only [argEnv, Env.get] at h
    split at h
    · rename_i e; subst e; injection h with h; subst h; simp
    · obtain ⟨h1, h2⟩ := ih _ _ _ h
      refine ⟨by omega, ?_⟩
      have : t - k = (t - (k + 1)) + 1 := by omega
      rw [this]; simpa using h2
structure FnIR (P : Program) (f : Nat) (n : Nat) (ir : IR) (rs : List RV) : Prop where
  ex : ∃ fn code, P.funcs[f]? = some fn ∧ (fn.name != "runtime.NumGoroutine") = true ∧ fn.body = some code ∧ comp P n code = some ir ∧ compRes P fn.results.toList = some rs ∧ fn.ntmps = n
theorem results_run {rs : List RV} {Keep F : Nat → Prop} {E : Env} {H : Heap} {a : Act} {w : World} (hS : St N Keep F E H a w) (g : ResultVar → Sem Value) (hg1 : ∀ t, g (.tmp t) = pure (a.tmps.getD t undef)) (hg2 : ∀ b t, g (.cell b t) = (do loadVar t (← asAddr (a.tmps.getD b undef)))) : ∀ {l : List ResultVar} {rs : List RV} {vs : List AV}, compRes P l = some rs → retVals E H rs = some vs →
    ∃ us : List Value, (l.mapM g).run P w = .ok us w ∧ VRs F w vs us
  | [], rs, vs, h, hv => by
    simp [compRes] at h; subst h; simp [retVals] at hv; subst hv
    exact ⟨[], by simp, rfl, by simp⟩
  | .tmp t :: l, rs, vs, h, hv => by
    simp only [compRes, Option.bind_eq_some_iff] at h
    obtain ⟨rs', h', e⟩ := h
    injection e with e; subst e
    simp only [retVals, Option.bind_eq_some_iff] at hv
    obtain ⟨x, hx, vs', hv', e⟩ := hv
    injection e with e; subst e
    obtain ⟨us, h1, h2, h3⟩ := results_run (rs := rs) hS g hg1 hg2 h' hv'
    refine ⟨a.tmps.getD t undef :: us, ?_, by simp [h2], fun i y v hy hv => ?_⟩
    · simp only [List.mapM_cons, hg1, Sem.run_bind, Sem.run_pure, Result.andThen_ok, h1]
    · match i with
      | 0 => simp at hy; subst hy; simp only [List.getElem?_cons_zero] at hv; injection hv with hv; subst hv; exact hS.env t _ hx
      | i + 1 => exact h3 i y v (by simpa using hy) (by simpa using hv)
  | .cell b t :: l, rs, vs, h, hv => by
    simp only [compRes, Option.bind_eq_some_iff] at h
    obtain ⟨n, hn, rs', h', e⟩ := h
    injection e with e; subst e
    simp only [retVals, Option.bind_eq_some_iff] at hv
    obtain ⟨p, hp, x, hx, vs', hv', e⟩ := hv
    injection e with e; subst e
    obtain ⟨us, h1, h2, h3⟩ := results_run (rs := rs) hS g hg1 hg2 h' hv'
    have hpv := hS.env b p hp
    obtain ⟨z, q1, q2⟩ := loadVal_sound (P := P) hS.heap hx hpv t hn
    have hz : (do loadVar t (← asAddr (a.tmps.getD b undef)) : Sem Value).run P w = .ok z w := by
      generalize a.tmps.getD b undef = u at hpv q1
      cases p with
      | ptr => cases hpv; simpa [Instr.loadAt, Instr.sureAddr, asAddr] using q1
      | fptr => cases hpv; simpa [Instr.loadAt, Instr.sureAddr, asAddr] using q1
      | _ => simp [loadVal] at hx
    refine ⟨z :: us, ?_, by simp [h2], fun i y v hy hv => ?_⟩
    · simp only [List.mapM_cons, hg2, Sem.run_bind] at hz ⊢
      rw [hz]
      simp only [Result.andThen_ok, h1, Sem.run_pure, Sem.run_bind]
    · match i with
      | 0 => simp at hy; subst hy; simp only [List.getElem?_cons_zero] at hv; injection hv with hv; subst hv; exact q2
      | i + 1 => exact h3 i y v (by simpa using hy) (by simpa using hv)
theorem results_eq (fn : Func) (tmps : Array Value) : ∃ g : ResultVar → Sem Value, (∀ t, g (.tmp t) = pure (tmps.getD t undef)) ∧ (∀ b t, g (.cell b t) = (do loadVar t (← asAddr (tmps.getD b undef)))) ∧ results fn tmps = (do let vs ← fn.results.mapM g; pure (if h : vs.size = 1 then vs[0] else .tuple vs)) := by
  refine ⟨_, ?_, ?_, rfl⟩
  · intro t; rfl
  · intro b t; rfl
def Post (rs : List RV) (K : AV → Heap → Prop) : Exit → Env → Heap → Prop :=
  fun e E' H' => (e = .normal ∨ e = .ret) ∧ ∃ vs, retVals E' H' rs = some vs ∧ K (mkRes vs) H'
theorem CallOK.body {f n : Nat} {ir : IR} {rs : List RV} (hF : FnIR P f n ir rs) (xs : List AV) (hlen : xs.length ≤ n) {H : Heap} {K : AV → Heap → Prop} (h : AWP P n ir (argEnv 0 xs) H (Post rs K)) : CallOK P f xs H K := by
  obtain ⟨fn, code, hf, hname, hb, hc, hr, hn⟩ := hF.ex
  refine ⟨by simp [okF, hf, hb]; simpa using hname, fun Keep F w vs hH hv => ?_⟩
  refine calls_of_wp hf hb ?_
  have hS : St n Keep F (argEnv 0 xs) H { tmps := vs.toArray ++ Array.replicate (fn.ntmps - vs.toArray.size) undef, defers := [] } w := by
    refine ⟨fun t x hx => ?_, ?_, rfl, hH⟩
    · obtain ⟨_, h1⟩ := argEnv_get xs 0 t x hx
      simp only [Nat.sub_zero] at h1
      have ht : t < vs.length := by rw [← hv.1]; exact (List.getElem?_eq_some_iff.1 h1).1
      have := hv.2 t x vs[t] h1 (by simp [ht])
      simpa [Array.getD_eq_getD_getElem?, Array.getElem?_append_left, ht] using this
    · have := hv.1; simp; omega
  refine wp_mono (h code hc Keep F _ w hS) ?_
  rintro e a' w' ⟨E', H', F', ⟨he, us, hus, hK⟩, hg, hS'⟩
  have hres : ∃ v, (results fn a'.tmps).run P w' = .ok v w' ∧ VR F' w' (mkRes us) v := by
    obtain ⟨g, hg1, hg2, hg3⟩ := results_eq fn a'.tmps
    obtain ⟨vals, hm, hvr⟩ := results_run (rs := rs) hS' g hg1 hg2 hr hus
    rw [hg3]
    simp only [Sem.run_bind, Array.mapM_eq_mapM_toList, Sem.run_map, hm]
    have hl := hvr.1
    simp only [Result.andThen_ok, Sem.run_pure]
    match us, vals, hl with
    | [u], [v], _ => exact ⟨v, by simp, hvr.2 0 u v rfl rfl⟩
    | [], [], _ => exact ⟨_, rfl, by simpa [mkRes] using VR.tup (F := F') (w := w') [] [] rfl (by simp)⟩
    | u :: u2 :: us, v :: v2 :: vs, hl => exact ⟨.tuple (v :: v2 :: vs).toArray, by simp, VR.tup _ _ hl hvr.2⟩
  obtain ⟨v, hv1, hv2⟩ := hres
  have hpost : a'.defers = [] ∧ ∃ v, (results fn a'.tmps).run P w' = .ok v w' ∧ ∃ v' r H' F', Ending.returned v = .returned v' ∧ K r H' ∧ Grow Keep F F' w w' ∧ HeapOK Keep F' w' H' ∧ VR F' w' r v' :=
    ⟨hS'.dfs, v, hv1, v, _, H', F', rfl, hK, hg, hS'.heap, hv2⟩
  rcases he with rfl | rfl
  · exact hpost
  · exact hpost
end Go.Proofs.Ytjnencdmejhmjaa.Eng
