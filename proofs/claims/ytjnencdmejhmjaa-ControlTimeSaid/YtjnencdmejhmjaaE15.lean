/- ENGINE, part 15: calls of functions that leave the caller's memory alone; what is let go of between two steps. -/
import Derived.Test.YtjnencdmejhmjaaE14
namespace Go.Proofs.Ytjnencdmejhmjaa.Eng
open Go Go.RowKit
set_option linter.unusedSimpArgs false
set_option linter.unusedVariables false
variable {P : Program} {N : Nat}

/-- A value that means the same whatever is frozen. -/
def Free (x : AV) : Prop := ∀ (F F' : Nat → Prop) (w : World) (v : Value), VR F w x v → VR F' w x v
theorem Free.v (x : Value) : Free (.v x) := fun _ _ _ _ h => by obtain rfl := h.inv_v; exact .v _
theorem Free.ref (h : Nat) (a : Loc) (sz off n : Nat) : Free (.ref h a sz off n) := fun _ _ _ _ q => by
  cases q with
  | ref _ _ _ _ _ cap cs t h0 h1 h2 h3 h4 => exact .ref _ _ _ _ _ cap cs t h0 h1 h2 h3 h4
  | refz => exact .refz _ _ _ _ _
  | refnil => exact .refnil _ _ _ _
theorem Free.ptr (h : Nat) (a : Loc) (sz i f : Nat) : Free (.ptr h a sz i f) := fun _ _ _ _ q => by cases q; exact .ptr _ _ _ _ _
theorem Free.agg (cs : List AV) (h : ∀ x ∈ cs, Free x) : Free (.agg cs) := fun F F' w v q => by
  cases q with
  | agg _ vs h1 h2 => exact .agg _ _ h1 fun i x y hx hy => h x (List.mem_of_getElem? hx) F F' w y (h2 i x y hx hy)
theorem Free.tup (cs : List AV) (h : ∀ x ∈ cs, Free x) : Free (.tup cs) := fun F F' w v q => by
  cases q with
  | tup _ vs h1 h2 => exact .tup _ _ h1 fun i x y hx hy => h x (List.mem_of_getElem? hx) F F' w y (h2 i x y hx hy)
def AV.isV : AV → Bool
  | .v _ => true
  | _ => false
/-- numbers and bools, structs of them, tuples of these -/
def AV.scal : AV → Bool
  | .v _ => true
  | .agg cs => cs.all AV.isV
  | .tup cs => cs.all fun x => match x with | .v _ => true | .agg ds => ds.all AV.isV | _ => false
  | _ => false
theorem free_isV {x : AV} (h : x.isV = true) : Free x := by cases x <;> first | exact Free.v _ | simp [AV.isV] at h
theorem Free.scal {x : AV} (h : x.scal = true) : Free x := by
  cases x with
  | v x => exact Free.v _
  | agg cs => exact Free.agg _ fun y hy => free_isV (List.all_eq_true.1 h y hy)
  | tup cs =>
    refine Free.tup _ fun y hy => ?_
    have := List.all_eq_true.1 h y hy
    cases y with
    | v y => exact Free.v _
    | agg ds => exact Free.agg _ fun z hz => free_isV (List.all_eq_true.1 this z hz)
    | _ => simp at this
  | _ => simp [AV.scal] at h
def FreeB : Blk → Prop
  | .arr _ els => ∀ e ∈ els, ∀ y ∈ e.cells, Free y
  | .mapb ents => ∀ e ∈ ents, Free e.1 ∧ Free e.2
def FreeH (H : Heap) : Prop := ∀ p ∈ H, FreeB p.2.2
theorem BlkOK.free {F F' : Nat → Prop} {w : World} {a : Loc} {b : Blk} (h : BlkOK F w a b) (hf : FreeB b) : BlkOK F' w a b := by
  cases b with
  | arr sz els =>
    simp only [BlkOK] at h ⊢
    split
    · rename_i hv; rw [if_pos hv] at h; exact h
    · rename_i hv
      rw [if_neg hv] at h
      obtain ⟨cs, t, h1, h2⟩ := h
      refine ⟨cs, t, h1, fun i e he => ?_⟩
      obtain ⟨h3, h4⟩ := h2 i e he
      refine ⟨h3, fun j y hy => ?_⟩
      obtain ⟨v, h5, h6⟩ := h4 j y hy
      exact ⟨v, h5, hf e (List.mem_of_getElem? he) y (List.mem_of_getElem? hy) F F' w v h6⟩
  | mapb ents =>
    obtain ⟨hv, es, cl, h1, h2, h3⟩ := h
    refine ⟨hv, es, cl, h1, h2, fun i p hp => ?_⟩
    obtain ⟨e, h4, h5, h6⟩ := h3 i p hp
    have := hf p (List.mem_of_getElem? hp)
    exact ⟨e, h4, this.1 F F' w _ h5, this.2 F F' w _ h6⟩

/-- A function that leaves the memory alone, of plain values: what it gives. -/
def PCalls (P : Program) (f : Nat) (xs : List AV) (r : AV) : Prop := CallOK P f xs [] fun r' H' => r' = r ∧ H' = []
theorem HeapOK.none {Keep F : Nat → Prop} {w : World} (h1 : ∀ c, F c → c < w.heap.size) (h2 : ∀ c, Keep c → c < w.heap.size) : HeapOK Keep F w [] :=
  ⟨by simp, by simp [Heap.real], by simp [Heap.real], h1, h2⟩
theorem PCalls.of_close {f : Nat} {xs : List AV} {r : AV} (h : CallOK P f xs [] fun r' H' => ∃ k, closeAV H' k r' = r) : PCalls P f xs r := by
  refine ⟨h.1, fun Keep F w vs hH hv => (h.2 Keep F w vs hH hv).mono ?_⟩
  rintro e w' ⟨v, r', H', F', rfl, ⟨k, rfl⟩, hg, hH', hr⟩
  refine ⟨v, _, [], fun c => F' c ∨ c ∈ H'.real, rfl, ⟨rfl, rfl⟩, ⟨fun c hc => .inl (hg.sub c hc), fun c hc => ?_, hg.ext⟩, HeapOK.none (fun c hc => hc.elim (hH'.flt c) (hH'.lt c)) hH'.klt, closeAV_sound hH' k r' v hr⟩
  rcases hc with hc | hc
  · exact hg.new c hc
  · exact .inr (hH'.own c hc).2
/-- The caller's memory behind a call that was handed none of it. -/
theorem HeapOK.behind {Keep F F' : Nat → Prop} {w w' : World} {H H1 : Heap} (hH : HeapOK Keep F w H) (hg : Grow (fun c => Keep c ∨ c ∈ H.real) F F' w w') (hH1 : HeapOK (fun c => Keep c ∨ c ∈ H.real) F' w' H1) : HeapOK Keep F' w' (H1 ++ H) ∧ Grow Keep F F' w w' := by
  have g : Grow Keep F F' w w' := ⟨hg.sub, fun c hc => (hg.new c hc).imp id fun h k => h (.inl k), hg.ext.mono fun c hc => hc.imp id .inl⟩
  have hold : HeapOK Keep F' w' H := hH.step g (fun c hc => hg.ext.keep c (.inr (.inr hc)) (hH.lt c hc)) (fun c hc hF => (hg.new c hF).elim (hH.own c hc).1 fun h => h (.inr hc)) hH1.flt
  refine ⟨⟨fun p hp => ?_, fun c hc => ?_, ?_, hH1.flt, hold.klt⟩, g⟩
  · rcases List.mem_append.1 hp with hp | hp
    · exact hH1.blk p hp
    · exact hold.blk p hp
  · rw [Heap.real_append] at hc
    rcases List.mem_append.1 hc with hc | hc
    · exact ⟨(hH1.own c hc).1, fun h => (hH1.own c hc).2 (.inl h)⟩
    · exact hold.own c hc
  · rw [Heap.real_append, List.nodup_append]
    exact ⟨hH1.nodup, hold.nodup, fun a ha b hb e => (hH1.own a ha).2 (.inr (e ▸ hb))⟩
theorem CallOK.frame {f : Nat} {xs : List AV} {H R : Heap} {K : AV → Heap → Prop} (h : CallOK P f xs H K) : CallOK P f xs (H ++ R) fun r H' => ∃ H1, H' = H1 ++ R ∧ K r H1 := by
  refine ⟨h.1, fun Keep F w vs hH hv => ?_⟩
  have hR : HeapOK Keep F w R := hH.sub (List.sublist_append_right _ _)
  have hn := hH.nodup
  rw [Heap.real_append, List.nodup_append] at hn
  have h1 : HeapOK (fun c => Keep c ∨ c ∈ R.real) F w H := by
    refine ⟨fun p hp => hH.blk p (List.mem_append_left _ hp), fun c hc => ?_, hn.1, hH.flt, fun c hc => hc.elim (hH.klt c) (hR.lt c)⟩
    have := hH.own c (by rw [Heap.real_append]; exact List.mem_append_left _ hc)
    exact ⟨this.1, fun hk => hk.elim this.2 fun hr => hn.2.2 c hc c hr rfl⟩
  refine (h.2 _ F w vs h1 hv).mono ?_
  rintro e w' ⟨v, r, H', F', rfl, hK, hg, hH', hr⟩
  obtain ⟨q1, q2⟩ := hR.behind hg hH'
  exact ⟨v, r, H' ++ R, F', rfl, ⟨H', rfl, hK⟩, q2, q1, hr⟩
theorem CallOK.pure {f : Nat} {xs : List AV} {r : AV} {H : Heap} {K : AV → Heap → Prop} (h : PCalls P f xs r) (hk : K r H) : CallOK P f xs H K := by
  have := CallOK.frame (R := H) h
  simp only [List.nil_append] at this
  refine this.mono ?_
  rintro r' H' ⟨H1, rfl, rfl, rfl⟩
  simpa using hk
/-- A call that reads the caller's own memory and makes memory of its own, which names nothing old. -/
theorem CallOK.borrowH (k : Nat) {f : Nat} {xs : List AV} {H : Heap} {K0 K : AV → Heap → Prop} (h : CallOK P f (xs.map (closeAV H k)) [] K0) (hfr : ∀ r H', K0 r H' → Free r ∧ FreeH H') (hk : ∀ r H', K0 r H' → K r (H' ++ H)) : CallOK P f xs H K := by
  refine ⟨h.1, fun Keep F w vs hH hv => ?_⟩
  have hv' : VRs (fun c => F c ∨ c ∈ H.real) w (xs.map (closeAV H k)) vs := ⟨by simp [hv.1], fun i x v hx hvv => by
    rw [List.getElem?_map] at hx
    obtain ⟨z, hz, rfl⟩ := Option.map_eq_some_iff.1 hx
    exact closeAV_sound hH k z v (hv.2 i z v hz hvv)⟩
  have h0 : HeapOK (fun c => Keep c ∨ c ∈ H.real) (fun c => F c ∨ c ∈ H.real) w [] := HeapOK.none (fun c hc => hc.elim (hH.flt c) (hH.lt c)) (fun c hc => hc.elim (hH.klt c) (hH.lt c))
  refine (h.2 _ _ w vs h0 hv').mono ?_
  rintro e w' ⟨v, r, H', F', rfl, hK, hg, hH', hr⟩
  obtain ⟨f1, f2⟩ := hfr r H' hK
  have g : Grow (fun c => Keep c ∨ c ∈ H.real) F F w w' := ⟨fun _ h => h, fun _ h => .inl h, hg.ext.mono fun c hc => hc.elim (fun h => .inl (.inl h)) .inr⟩
  have hH1 : HeapOK (fun c => Keep c ∨ c ∈ H.real) F w' H' := ⟨fun p hp => (hH'.blk p hp).free (f2 p hp), fun c hc => ⟨fun hF => (hH'.own c hc).1 (hg.sub c (.inl hF)), (hH'.own c hc).2⟩, hH'.nodup, fun c hc => hH'.flt c (hg.sub c (.inl hc)), hH'.klt⟩
  obtain ⟨q1, q2⟩ := hH.behind g hH1
  exact ⟨v, r, H' ++ H, F, rfl, hk r H' hK, q2, q1, f1 _ _ _ _ hr⟩
theorem CallOK.borrow (k : Nat) {f : Nat} {xs : List AV} {r : AV} {H : Heap} {K : AV → Heap → Prop} (h : PCalls P f (xs.map (closeAV H k)) r) (hs : r.scal = true) (hk : K r H) : CallOK P f xs H K :=
  CallOK.borrowH k h (by rintro r' H' ⟨rfl, rfl⟩; exact ⟨Free.scal hs, fun p hp => by simp at hp⟩) (by rintro r' H' ⟨rfl, rfl⟩; exact hk)
theorem PCalls.body {f n : Nat} {ir : IR} {rs : List RV} (hF : FnIR P f n ir rs) (xs : List AV) (hlen : xs.length ≤ n) {r : AV} (h : AWP P n ir (argEnv 0 xs) [] (Post rs fun r' H' => ∃ k, closeAV H' k r' = r)) : PCalls P f xs r :=
  PCalls.of_close (CallOK.body hF xs hlen h)

/-! ### weaker knowledge -/
theorem Weak.refl (N : Nat) (E : Env) (H : Heap) : Weak N E H E H := fun Keep F a w hS => ⟨F, Grow.refl _ _ _, hS⟩
theorem Weak.trans {E1 E2 E3 : Env} {H1 H2 H3 : Heap} (h : Weak N E1 H1 E2 H2) (k : Weak N E2 H2 E3 H3) : Weak N E1 H1 E3 H3 := fun Keep F a w hS => by
  obtain ⟨F1, g1, s1⟩ := h Keep F a w hS
  obtain ⟨F2, g2, s2⟩ := k Keep F1 a w s1
  exact ⟨F2, g1.trans g2, s2⟩
theorem Weak.env {E E' : Env} {H : Heap} (h : ∀ t x, E'.get t = some x → E.get t = some x) : Weak N E H E' H := fun Keep F a w hS =>
  ⟨F, Grow.refl _ _ _, ⟨fun t x hx => hS.env t x (h t x hx), hS.tsz, hS.dfs, hS.heap⟩⟩
theorem Weak.keep (ts : List Nat) {E : Env} {H : Heap} : Weak N E H (E.keep ts) H := Weak.env fun t x h => Env.get_keep ts E t x h
theorem Weak.sub {E : Env} {H H' : Heap} (h : List.Sublist H' H) : Weak N E H E H' := fun Keep F a w hS =>
  ⟨F, Grow.refl _ _ _, ⟨hS.env, hS.tsz, hS.dfs, hS.heap.sub h⟩⟩
theorem Weak.drop (l : Nat) {E : Env} {H : Heap} : Weak N E H E (H.del l) := Weak.sub (Heap.del_sub _ _)
/-- A slice that is nil, as one of the function's own that holds nothing yet. -/
theorem Weak.virt (l t sz : Nat) {E : Env} {H : Heap} (h : E.get t = some (.v (.slice none 0 0))) : Weak N E H (E.set t (.ref l ⟨0, 0, true⟩ sz 0 0)) ((l, ⟨0, 0, true⟩, .arr sz []) :: H) := fun Keep F a w hS => by
  refine ⟨F, Grow.refl _ _ _, ⟨fun s x hx => ?_, hS.tsz, hS.dfs, hS.heap.cons _ _ _ (by simp [BlkOK]) (by simp)⟩⟩
  rw [Env.get_set] at hx
  split at hx
  · rename_i e; subst e
    injection hx with hx; subst hx
    rw [(hS.env t _ h).inv_v]
    exact .refnil _ _ _ _
  · exact hS.env s x hx
def closeB (f : AV → AV) : Blk → Blk
  | .arr sz els => .arr sz (els.map (elemMap f))
  | b => b
def Env.mapv (f : AV → AV) : Env → Env
  | [] => []
  | (t, x) :: E => (t, f x) :: Env.mapv f E
def Heap.mapb (f : AV → AV) : Heap → Heap
  | [] => []
  | (h, a, b) :: H => (h, a, closeB f b) :: Heap.mapb f H
theorem Env.get_mapv (f : AV → AV) (E : Env) (t : Nat) : (E.mapv f).get t = (E.get t).map f := by
  induction E with
  | nil => rfl
  | cons p E ih =>
    obtain ⟨k, x⟩ := p
    simp only [Env.mapv, Env.get]
    split
    · rfl
    · exact ih
theorem Heap.real_mapb (f : AV → AV) (H : Heap) : (H.mapb f).real = H.real := by
  induction H with
  | nil => rfl
  | cons p H ih =>
    obtain ⟨k, a, b⟩ := p
    simp only [Heap.mapb, Heap.real, ih]
theorem Heap.mem_mapb {f : AV → AV} {H : Heap} {p : Nat × Loc × Blk} (hp : p ∈ H.mapb f) : ∃ b, (p.1, p.2.1, b) ∈ H ∧ p.2.2 = closeB f b := by
  induction H with
  | nil => simp [Heap.mapb] at hp
  | cons q H ih =>
    obtain ⟨k, a, b⟩ := q
    simp only [Heap.mapb] at hp
    rcases List.mem_cons.1 hp with rfl | hp
    · exact ⟨b, List.mem_cons_self, rfl⟩
    · obtain ⟨b', h1, h2⟩ := ih hp
      exact ⟨b', List.mem_cons_of_mem _ h1, h2⟩
/-- From now on nobody writes the memory of a label: what names it is read as a plain value. -/
theorem Weak.frz (k l : Nat) {E : Env} {H : Heap} {a0 : Loc} {b0 : Blk} (hg : H.get l = some (a0, b0)) :
    Weak N E H (E.mapv (closeAV [(l, a0, b0)] k)) ((H.del l).mapb (closeAV [(l, a0, b0)] k)) := fun Keep F a w hS => by
  have hsub : List.Sublist [(l, a0, b0)] H := by
    obtain ⟨A, B, e1, _, _⟩ := Heap.get_split hg
    rw [e1]; exact ((List.nil_sublist B).cons_cons (l, a0, b0)).trans (List.sublist_append_right A _)
  have hone : HeapOK Keep F w [(l, a0, b0)] := hS.heap.sub hsub
  let F' : Nat → Prop := fun c => F c ∨ c ∈ Heap.real [(l, a0, b0)]
  have hF' : ∀ c, F' c → c < w.heap.size := fun c hc => hc.elim (hS.heap.flt c) (hone.lt c)
  have hdel := hS.heap.sub (Heap.del_sub l H)
  have hnot : ∀ c ∈ (H.del l).real, ¬ F' c := by
    intro c hc hF
    rcases hF with hF | hF
    · exact (hdel.own c hc).1 hF
    · simp only [Heap.real] at hF
      split at hF
      · simp at hF
      · rename_i hv
        simp at hF; subst hF
        exact Heap.del_real hg (by simpa using hv) hS.heap.nodup hc
  refine ⟨F', ⟨fun c hc => .inl hc, fun c hc => ?_, Ext.refl _ _⟩, ⟨fun t x hx => ?_, hS.tsz, hS.dfs, ⟨fun p hp => ?_, fun c hc => ?_, ?_, hF', hS.heap.klt⟩⟩⟩
  · exact hc.imp id fun h => (hone.own c h).2
  · rw [Env.get_mapv] at hx
    obtain ⟨y, hy, rfl⟩ := Option.map_eq_some_iff.1 hx
    exact closeAV_sound hone k y _ (hS.env t y hy)
  · obtain ⟨b, hm, hb⟩ := Heap.mem_mapb hp
    have hbk := hdel.blk _ hm
    rw [hb]
    cases b with
    | arr sz els =>
      simp only [closeB, BlkOK] at hbk ⊢
      split
      · rename_i hv; rw [if_pos hv] at hbk; rw [hbk]; rfl
      · rename_i hv
        rw [if_neg hv] at hbk
        obtain ⟨cs, t, h1, h2⟩ := hbk
        refine ⟨cs, t, h1, fun i e he => ?_⟩
        rw [List.getElem?_map] at he
        obtain ⟨e0, he0, rfl⟩ := Option.map_eq_some_iff.1 he
        obtain ⟨⟨e1, e2⟩, e3⟩ := h2 i e0 he0
        have hcells := elemMap_cells _ (closeAV_leaf [(l, a0, b0)] k) e0 e2
        rw [hcells]
        refine ⟨⟨by simp [e1], ?_⟩, fun j y hy => ?_⟩
        · simp only [List.all_map, List.all_eq_true, Function.comp]
          intro z hz
          exact closeAV_leaf _ k z (List.all_eq_true.1 e2 z hz)
        · rw [List.getElem?_map] at hy
          obtain ⟨z, hz, rfl⟩ := Option.map_eq_some_iff.1 hy
          obtain ⟨v, h5, h6⟩ := e3 j z hz
          exact ⟨v, h5, closeAV_sound hone k z v h6⟩
    | mapb ents => exact hbk.step (fun c hc => .inl hc) hS.heap.flt (Ext.refl _ _) (fun _ => rfl)
  · rw [Heap.real_mapb] at hc; exact ⟨hnot c hc, (hdel.own c hc).2⟩
  · rw [Heap.real_mapb]; exact hdel.nodup
end Go.Proofs.Ytjnencdmejhmjaa.Eng
