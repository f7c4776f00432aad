/- ENGINE, part 18: a region that draws its order: the law. -/
import Derived.Test.YtjnencdmejhmjaaE17
namespace Go.Proofs.Ytjnencdmejhmjaa.Eng
open Go Go.RowKit
set_option linter.unusedSimpArgs false
set_option linter.unusedVariables false
variable {P : Program} {N : Nat}

structure DInv (l : List Ins) (b : List (List Nat)) (X dn PD : List Nat) (E : Env) (H : Heap) : Prop where
  lt : ∀ i ∈ dn, i < l.length
  nd : dn.Nodup
  split : ∀ i, i ∈ dn ↔ (i ∈ X ∨ i ∈ PD)
  disj : ∀ i ∈ PD, i ∉ X
  still : ∀ i ∈ PD, stillAt l i = true
  closed : ∀ i ∈ dn, ∀ j ∈ b.getD i [], j ∈ dn
  holds : ∀ i ∈ PD, ∀ x, l[i]? = some x → x.holds E H
theorem ssa_at {l : List Ins} {b : List (List Nat)} (h : ssa l b = true) {q i : Nat} {x y : Ins} (hq : l[q]? = some x) (hs : stillAt l q = true) (hi : l[i]? = some y) :
    ∃ t, x.d = some t ∧ (t ∈ y.reads → q ∈ b.getD i []) ∧ (i ≠ q → y.d ≠ some t) := by
  have hql : q < l.length := (List.getElem?_eq_some_iff.1 hq).1
  have hil : i < l.length := (List.getElem?_eq_some_iff.1 hi).1
  have h1 := List.all_eq_true.1 h q (List.mem_range.2 hql)
  rw [hs] at h1
  simp only [Bool.not_true, Bool.false_or] at h1
  have h2 := List.all_eq_true.1 h1 i (List.mem_range.2 hil)
  rw [hq, hi] at h2
  simp only at h2
  split at h2
  · rename_i t ht
    simp only [Bool.and_eq_true, Bool.or_eq_true, Bool.not_eq_true', bne_iff_ne, ne_eq, beq_iff_eq] at h2
    refine ⟨t, ht, fun hm => ?_, fun hne => ?_⟩
    · rcases h2.1 with h3 | h3
      · have : y.reads.contains t = true := by simpa using hm
        rw [this] at h3; simp at h3
      · simpa using h3
    · rcases h2.2 with h3 | h3
      · omega
      · exact h3
  · simp at h2
theorem still_spec {l : List Ins} {i : Nat} (h : stillAt l i = true) : ∃ x t, l[i]? = some x ∧ x.q.isVal = true ∧ x.d = some t := by
  unfold stillAt at h
  cases hx : l[i]? with
  | none => rw [hx] at h; simp at h
  | some x =>
    rw [hx] at h
    simp only [Option.any_some] at h
    unfold Ins.still at h
    split at h
    · simp at h
    · simp only [Bool.and_eq_true] at h
      obtain ⟨t, ht⟩ := Option.isSome_iff_exists.1 h.2
      exact ⟨x, t, rfl, h.1, ht⟩
theorem plan_alts {l : List Ins} {E : Env} {H : Heap} {K : Env → Heap → Prop} (f : Nat → List Nat) (g : Nat → Plan) : ∀ (rs : List Nat), planRun P l (rs.foldr (fun i alt => .eff i (f i) (g i) alt) .none) E H K → ∀ i ∈ rs, ∃ x, l[i]? = some x ∧ x.run P E H fun E' H' => holdsAll l E' H' (f i) ∧ planRun P l (g i) E' H' K
  | [], _, i, hi => by simp at hi
  | r :: rs, h, i, hi => by
    simp only [List.foldr_cons, planRun] at h
    rcases List.mem_cons.1 hi with rfl | hi
    · cases hx : l[i]? with
      | none => rw [hx] at h; exact h.1.elim
      | some x => rw [hx] at h; exact ⟨x, rfl, h.1⟩
    · exact plan_alts f g rs h.2 i hi
theorem put_get (d : Option Nat) (x : Option AV) (E : Env) (t : Nat) : (E.put d x).get t = if d = some t then x else E.get t := by
  cases d with
  | none => simp [Env.put]
  | some s =>
    cases x with
    | none => simp only [Env.put, Env.get_del, Option.some.injEq]
    | some a => simp only [Env.put, Env.get_set, Option.some.injEq]
/-- What only reads is looked at as soon as it can be. -/
theorem norm_plan {l : List Ins} {b : List (List Nat)} (hssa : ssa l b = true) {H : Heap} {K : Env → Heap → Prop} {X : List Nat} : ∀ (k : Nat) (dn PD : List Nat) (E : Env), DInv l b X dn PD E H → k + dn.length = l.length + 1 → planRun P l (mkPlan l b k dn) E H K →
    ∃ k' dn' PD' E', DInv l b X dn' PD' E' H ∧ k' + 1 + dn'.length = l.length + 1 ∧ planRun P l (mkPlan l b (k' + 1) dn') E' H K ∧ (∀ i, i < l.length → stillAt l i = true → readyAt b dn' i = true → False) ∧ (∀ t x, (dels l PD' E').get t = some x → (dels l PD E).get t = some x) := by
  intro k
  induction k with
  | zero =>
    intro dn PD E hI hk _
    have := nodup_len l.length dn hI.nd hI.lt
    omega
  | succ k ih =>
    intro dn PD E hI hk h
    cases hf : (List.range l.length).find? fun i => stillAt l i && readyAt b dn i with
    | none =>
      refine ⟨k, dn, PD, E, hI, hk, h, fun i hi hs hr => ?_, fun t x hx => hx⟩
      have := List.find?_eq_none.1 hf i (List.mem_range.2 hi)
      rw [hs, hr] at this; simp at this
    | some i =>
      have hfi := List.find?_some hf
      have hil := List.mem_range.1 (List.mem_of_find?_eq_some hf)
      simp only [Bool.and_eq_true] at hfi
      obtain ⟨hst, hrd⟩ := hfi
      obtain ⟨x, d, hx, hval, hd⟩ := still_spec hst
      simp only [mkPlan, hf, planRun, hx] at h
      simp only [readyAt, Bool.and_eq_true, Bool.not_eq_true'] at hrd
      have hni : i ∉ dn := fun hm => absurd hrd.1 (by simpa using hm)
      have hb : ∀ j ∈ b.getD i [], j ∈ dn := fun j hj => by simpa using List.all_eq_true.1 hrd.2 j hj
      obtain ⟨t0, ht0, hself, _⟩ := ssa_at hssa hx hst hx
      have hdt : t0 = d := by rw [hd] at ht0; injection ht0 with h; exact h.symm
      subst hdt
      have hnr : t0 ∉ x.reads := fun hm => hni (hb _ (hself hm))
      have hnq : ∀ t ∈ x.q.reads, t0 ≠ t := fun t ht e => hnr (by subst e; exact List.mem_append_right _ ht)
      -- one step of it
      have go : ∀ (v : Option AV), (x.holds (E.put x.d v) H) → planRun P l (mkPlan l b k (i :: dn)) (E.put x.d v) H K → ∃ k' dn' PD' E', DInv l b X dn' PD' E' H ∧ k' + 1 + dn'.length = l.length + 1 ∧ planRun P l (mkPlan l b (k' + 1) dn') E' H K ∧ (∀ i, i < l.length → stillAt l i = true → readyAt b dn' i = true → False) ∧ (∀ t x, (dels l PD' E').get t = some x → (dels l PD E).get t = some x) := by
        intro v hh hp
        have hI' : DInv l b X (i :: dn) (i :: PD) (E.put x.d v) H := by
          refine ⟨List.forall_mem_cons.2 ⟨hil, hI.lt⟩, List.nodup_cons.2 ⟨hni, hI.nd⟩, fun j => ?_, List.forall_mem_cons.2 ⟨fun hX => hni ((hI.split i).2 (.inl hX)), hI.disj⟩, List.forall_mem_cons.2 ⟨hst, hI.still⟩, List.forall_mem_cons.2 ⟨fun j hj => List.mem_cons_of_mem _ (hb j hj), fun q hq j hj => List.mem_cons_of_mem _ (hI.closed q hq j hj)⟩, ?_⟩
          · simp only [List.mem_cons, hI.split j]
            constructor
            · rintro (h | h | h)
              · exact .inr (.inl h)
              · exact .inl h
              · exact .inr (.inr h)
            · rintro (h | h | h)
              · exact .inr (.inl h)
              · exact .inl h
              · exact .inr (.inr h)
          · refine List.forall_mem_cons.2 ⟨fun y hy => ?_, fun q hq y hy => ?_⟩
            · rw [hx] at hy; injection hy with hy; subst hy; exact hh
            · have hold := hI.holds q hq y hy
              have hqd : q ∈ dn := (hI.split q).2 (.inr hq)
              obtain ⟨t1, ht1, hr1, hne1⟩ := ssa_at hssa hx hst hy
              have e1 : t1 = t0 := by rw [hd] at ht1; injection ht1 with h; exact h.symm
              subst e1
              have hqi : q ≠ i := fun e => hni (e ▸ hqd)
              have hyr : t1 ∉ y.reads := fun hm => hni (hI.closed q hqd i (hr1 hm))
              have hyd := hne1 hqi
              have hget : ∀ t, t ≠ t1 → (E.put x.d v).get t = E.get t := fun t ht => by
                rw [put_get, hd, if_neg (by simpa using fun e => ht e.symm)]
              unfold Ins.holds at hold ⊢
              cases hyd2 : y.d with
              | none => rw [hyd2] at hold; exact hold.elim
              | some dy =>
                rw [hyd2] at hold
                have hdy : dy ≠ t1 := fun e => hyd (by rw [hyd2, e])
                simp only at hold ⊢
                have hqv : y.q.val (E.put x.d v).opd H = y.q.val E.opd H := val_congr fun t ht => hget t fun e => hyr (by subst e; exact List.mem_append_right _ ht)
                cases hg : y.g with
                | none =>
                  rw [hg] at hold
                  simp only at hold ⊢
                  rw [hget dy hdy, hqv]; exact hold
                | some tb =>
                  obtain ⟨t, bb⟩ := tb
                  rw [hg] at hold
                  simp only at hold ⊢
                  rw [hget dy hdy, hqv, hget t fun e => hyr (by simp [Ins.reads, hg, e])]; exact hold
        obtain ⟨k', dn', PD', E', r1, r2, r3, r4, r5⟩ := ih (i :: dn) (i :: PD) (E.put x.d v) hI' (by simp; omega) hp
        refine ⟨k', dn', PD', E', r1, r2, r3, r4, fun t y hy => ?_⟩
        have h1 := r5 t y hy
        simp only [dels, hx, Option.bind_some, hd, Env.get_del] at h1
        split at h1
        · simp at h1
        · rename_i hne
          rcases dels_get l PD (E.put x.d v) t with ⟨_, h2⟩ | ⟨h3, h4⟩
          · rw [hd] at h2; rw [h2] at h1; simp at h1
          · rw [hd] at h4
            rw [h4, put_get, if_neg (by simpa using hne)] at h1
            rcases dels_get l PD E t with ⟨⟨q, q1, q2⟩, _⟩ | ⟨_, h6⟩
            · exact absurd q2 (h3 q q1)
            · rw [h6]; exact h1
      have hvv : ∀ v, x.q.val (E.put x.d v).opd H = x.q.val E.opd H := fun v => val_congr fun t ht => by rw [put_get, hd, if_neg (by simpa using hnq t ht)]
      unfold Ins.run at h
      cases hg : x.g with
      | none =>
        rw [hg] at h
        simp only at h
        rw [run_val hval] at h
        split at h
        · rename_i a ha
          refine go (some a) ?_ h
          unfold Ins.holds
          rw [hd, hg]
          simp only
          exact ⟨a, by rw [← hd, put_get, hd, if_pos rfl], by rw [← hd, hvv]; exact ha⟩
        · exact h.elim
      | some tb =>
        obtain ⟨t, bb⟩ := tb
        rw [hg] at h
        simp only at h
        have htr : t0 ≠ t := fun e => hnr (by simp [Ins.reads, hg, e])
        split at h
        · rename_i c hc
          obtain ⟨h1, h2⟩ := h
          by_cases e : c = .bool bb
          · have h1 := h1 e
            rw [run_val hval] at h1
            split at h1
            · rename_i a ha
              refine go (some a) ?_ h1
              unfold Ins.holds
              rw [hd, hg]
              simp only
              refine ⟨c, by rw [← hd, put_get, hd, if_neg (by simpa using htr)]; exact hc, fun _ => ⟨a, by rw [← hd, put_get, hd, if_pos rfl], by rw [← hd, hvv]; exact ha⟩, fun e2 => absurd e e2⟩
            · exact h1.elim
          · refine go (some (.v undef)) ?_ (h2 e)
            unfold Ins.holds
            rw [hd, hg]
            simp only
            exact ⟨c, by rw [← hd, put_get, hd, if_neg (by simpa using htr)]; exact hc, fun e2 => absurd e2 e, fun _ => by rw [← hd, put_get, hd, if_pos rfl]⟩
        · exact h.elim
theorem St.less {Keep F : Nat → Prop} {E E' : Env} {H : Heap} {a : Act} {w : World} (h : St N Keep F E H a w) (he : ∀ t x, E'.get t = some x → E.get t = some x) : St N Keep F E' H a w :=
  ⟨fun t x hx => h.env t x (he t x hx), h.tsz, h.dfs, h.heap⟩
theorem drawn_ops {ops : Array Oper} {l : List Ins} (hl : compInss P N ops ops.toList = some l) (hedge : edgesOK ops.toList = true) (hssa : ssa l (closureGo [] ops.toList) = true) {Keep F0 : Nat → Prop} {w0 : World} {Q : Exit → Env → Heap → Prop} :
    ∀ (ρ X : List Nat) (k : Nat) (dn PD : List Nat) (E : Env) (H : Heap) (F : Nat → Prop) (a : Act) (w : World), DInv l (closureGo [] ops.toList) X dn PD E H → k + dn.length = l.length + 1 → OrdOK ops X ρ → (∀ i, i < ops.size → i ∈ X ∨ i ∈ ρ) →
      (∀ i ∈ X, ∀ o, ops.toList[i]? = some o → ∀ j ∈ dpre o, j ∈ X) → St N Keep F (dels l PD E) H a w → Grow Keep F0 F w0 w → planRun P l (mkPlan l (closureGo [] ops.toList) k dn) E H (Q .normal) →
      wpOps P ops (Lift N Keep F0 w0 Q) ρ a w := by
  obtain ⟨hlen, hspec⟩ := compInss_spec hl
  have hlen' : l.length = ops.size := by simpa using hlen
  intro ρ
  induction ρ with
  | nil =>
    intro X k dn PD E H F a w hI hk hord hall hX hS hg h
    obtain ⟨k', dn', PD', E', r1, r2, r3, r4, r5⟩ := norm_plan hssa k dn PD E hI hk h
    have hdn : ∀ i, i < l.length → i ∈ dn' := fun i hi => (r1.split i).2 (.inl ((hall i (by omega)).resolve_right (by simp)))
    have hPD : PD' = [] := by
      rcases List.eq_nil_or_concat PD' with h | ⟨m, q, h⟩
      · exact h
      · have hq : q ∈ PD' := by rw [h]; simp
        have := r1.disj q hq
        exact absurd ((hall q (by have := r1.lt q ((r1.split q).2 (.inr hq)); omega)).resolve_right (by simp)) this
    subst hPD
    have hnr : ∀ i, i < l.length → readyAt (closureGo [] ops.toList) dn' i = false := fun i hi => by simp [readyAt, hdn i hi]
    have e1 : ((List.range l.length).find? fun i => stillAt l i && readyAt (closureGo [] ops.toList) dn' i) = none := List.find?_eq_none.2 fun i hi => by simp [hnr i (List.mem_range.1 hi)]
    have e2 : (List.range l.length).filter (readyAt (closureGo [] ops.toList) dn') = [] := List.filter_eq_nil_iff.2 fun i hi => by simp [hnr i (List.mem_range.1 hi)]
    simp only [mkPlan, e1, e2, planRun] at r3
    exact ⟨E', H, F, r3, hg, hS.less r5⟩
  | cons i ρ ih =>
    intro X k dn PD E H F a w hI hk hord hall hX hS hg h
    obtain ⟨k', dn', PD', E', r1, r2, r3, r4, r5⟩ := norm_plan hssa k dn PD E hI hk h
    have hS' := hS.less r5
    clear hS r5 h hI hk
    obtain ⟨hi, hiX, hpre, hord'⟩ := hord
    have hoi : ops.toList[i]? = some ops[i] := by simp [hi]
    obtain ⟨x, hx, hcx⟩ := hspec i ops[i] hoi
    have hbX : ∀ j ∈ (closureGo [] ops.toList).getD i [], j ∈ X := closure_sub hedge X hX i ops[i] hoi (hpre ops[i] (by simp [hi]))
    -- what it reads is no slot of a pending one
    have hreads : ∀ t ∈ x.reads, (dels l PD' E').get t = E'.get t := by
      intro t ht
      rcases dels_get l PD' E' t with ⟨⟨q, q1, q2⟩, _⟩ | ⟨_, h2⟩
      · exfalso
        obtain ⟨y, d, hy, hval, hd⟩ := still_spec (r1.still q q1)
        obtain ⟨t1, ht1, hr1, _⟩ := ssa_at hssa hy (r1.still q q1) hx
        rw [hy] at q2
        simp only [Option.bind_some] at q2
        rw [ht1] at q2; injection q2 with q2; subst q2
        exact r1.disj q q1 (hbX q (hr1 ht))
      · exact h2
    have hother : ∀ q ∈ PD', q ≠ i → ∀ t, x.d = some t → (l[q]?).bind (·.d) ≠ some t := by
      intro q q1 hqi t ht e
      obtain ⟨y, d, hy, hval, hd⟩ := still_spec (r1.still q q1)
      obtain ⟨t1, ht1, _, hn1⟩ := ssa_at hssa hy (r1.still q q1) hx
      rw [hy] at e
      simp only [Option.bind_some] at e
      rw [ht1] at e; injection e with e; subst e
      exact hn1 (fun e => hqi e.symm) ht
    have hall' : ∀ j, j < ops.size → j ∈ i :: X ∨ j ∈ ρ := fun j hj => by
      rcases hall j hj with h | h
      · exact .inl (List.mem_cons_of_mem _ h)
      · rcases List.mem_cons.1 h with rfl | h
        · exact .inl List.mem_cons_self
        · exact .inr h
    have hX' : ∀ j ∈ i :: X, ∀ o, ops.toList[j]? = some o → ∀ m ∈ dpre o, m ∈ i :: X := by
      refine List.forall_mem_cons.2 ⟨fun o ho m hm => ?_, fun j hj o ho m hm => List.mem_cons_of_mem _ (hX j hj o ho m hm)⟩
      exact List.mem_cons_of_mem _ (hpre o (by simpa using ho) m hm)
    simp only [wpOps, Array.getElem?_eq_getElem hi]
    have fin : ∀ (K' : Env → Heap → Prop), x.run P (dels l PD' E') H K' → (∀ E2 H2 F2 a2 w2, K' E2 H2 → Grow Keep F F2 w w2 → St N Keep F2 E2 H2 a2 w2 → wpOps P ops (Lift N Keep F0 w0 Q) ρ a2 w2) →
        if Region.wanted ops[i] (yielded ops a.tmps) = true then Oper.wp P ops[i] a w (wpOps P ops (Lift N Keep F0 w0 Q) ρ) (Lift N Keep F0 w0 Q) ∨ (ops[i].asks P a w ∧ LetsOut (Lift N Keep F0 w0 Q)) else wpOps P ops (Lift N Keep F0 w0 Q) ρ (a.put ops[i].dst undef) w := by
      intro K' hr hk
      have hs := ins_sound (P := P) (Q := Lift N Keep F0 w0 Q) (Kc := wpOps P ops (Lift N Keep F0 w0 Q) ρ) hS' hcx hr hk
      split at hs
      · rename_i hw; rw [if_pos hw]; exact .inl hs
      · rename_i hw; rw [if_neg hw]; exact hs
    by_cases hin : i ∈ dn'
    · -- it has been looked at already
      have hiP : i ∈ PD' := ((r1.split i).1 hin).resolve_left hiX
      have hh := r1.holds i hiP x hx
      obtain ⟨_, d, hx2, hval, hd⟩ := still_spec (r1.still i hiP)
      rw [hx] at hx2; injection hx2 with hx2; subst hx2
      have hq : x.q.val (dels l PD' E').opd H = x.q.val E'.opd H := val_congr fun t ht => hreads t (List.mem_append_right _ ht)
      refine fin (fun E2 H2 => H2 = H ∧ E2 = (dels l PD' E').put x.d (E'.get d)) ?_ ?_
      · unfold Ins.holds at hh
        rw [hd] at hh
        unfold Ins.run
        cases hg : x.g with
        | none =>
          rw [hg] at hh
          simp only at hh ⊢
          obtain ⟨v, h1, h2⟩ := hh
          rw [run_val hval, hq, h2]
          exact ⟨rfl, by rw [h1]⟩
        | some tb =>
          obtain ⟨t, bb⟩ := tb
          rw [hg] at hh
          simp only at hh ⊢
          obtain ⟨c, h1, h2, h3⟩ := hh
          rw [hreads t (by simp [Ins.reads, hg]), h1]
          refine ⟨fun e => ?_, fun e => ⟨trivial, by rw [h3 e]⟩⟩
          obtain ⟨v, h4, h5⟩ := h2 e
          rw [run_val hval, hq, h5]
          exact ⟨rfl, by rw [h4]⟩
      · rintro E2 H2 F2 a2 w2 ⟨rfl, rfl⟩ hg2 hS2
        refine ih (i :: X) (k' + 1) dn' (PD'.filter (· != i)) E' H2 F2 a2 w2 ?_ r2 hord' hall' hX' (hS2.less fun t y hy => ?_) (hg.trans hg2) r3
        · refine ⟨r1.lt, r1.nd, fun j => ?_, fun q hq => ?_, fun q hq => r1.still q (List.mem_filter.1 hq).1, r1.closed, fun q hq => r1.holds q (List.mem_filter.1 hq).1⟩
          · rw [r1.split j]
            simp only [List.mem_cons, List.mem_filter, bne_iff_ne, ne_eq]
            constructor
            · rintro (h | h)
              · exact .inl (.inr h)
              · by_cases e : j = i
                · exact .inl (.inl e)
                · exact .inr ⟨h, e⟩
            · rintro ((rfl | h) | h)
              · exact .inr hiP
              · exact .inl h
              · exact .inr h.1
          · have h1 := List.mem_filter.1 hq
            simp only [bne_iff_ne, ne_eq] at h1
            exact fun h => (List.mem_cons.1 h).elim h1.2 (r1.disj q h1.1)
        · rw [put_get, hd]
          rcases dels_get l (PD'.filter (· != i)) E' t with ⟨_, h2⟩ | ⟨h3, h4⟩
          · rw [h2] at hy; simp at hy
          · rw [h4] at hy
            by_cases e : d = t
            · subst e; simpa using hy
            · rw [if_neg (by simpa using e)]
              rcases dels_get l PD' E' t with ⟨⟨q, q1, q2⟩, _⟩ | ⟨_, h6⟩
              · exfalso
                by_cases e2 : q = i
                · subst e2; rw [hx] at q2; simp only [Option.bind_some, hd] at q2; injection q2 with q2; exact e q2
                · exact h3 q (List.mem_filter.2 ⟨q1, by simpa using e2⟩) q2
              · rw [h6]; exact hy
    · have hrd : readyAt (closureGo [] ops.toList) dn' i = true := by
        simp only [readyAt, Bool.and_eq_true, Bool.not_eq_true']
        refine ⟨by simpa using hin, List.all_eq_true.2 fun j hj => ?_⟩
        have : j ∈ dn' := (r1.split j).2 (.inl (hbX j hj))
        simpa using this
      have hns : stillAt l i ≠ true := fun hs => r4 i (by omega) hs hrd
      have e1 : ((List.range l.length).find? fun i => stillAt l i && readyAt (closureGo [] ops.toList) dn' i) = none := List.find?_eq_none.2 fun j hj => by
        intro h
        simp only [Bool.and_eq_true] at h
        exact r4 j (List.mem_range.1 hj) h.1 h.2
      have hmem : i ∈ (List.range l.length).filter (readyAt (closureGo [] ops.toList) dn') := List.mem_filter.2 ⟨List.mem_range.2 (by omega), hrd⟩
      simp only [mkPlan, e1] at r3
      split at r3
      · rename_i hnil; rw [hnil] at hmem; simp at hmem
      · rename_i rs hne
        obtain ⟨x2, hx2, hr⟩ := plan_alts (P := P) (fun i => dn'.filter fun j => stillAt l j && !((closureGo [] ops.toList).getD i []).contains j) (fun i => mkPlan l (closureGo [] ops.toList) k' (i :: dn')) _ r3 i hmem
        rw [hx] at hx2; injection hx2 with hx2; subst hx2
        refine fin _ (insrun_congr (fun t ht => (hreads t ht).symm) hr) ?_
        rintro E2 H2 F2 a2 w2 ⟨v, rfl, hold, hp⟩ hg2 hS2
        refine ih (i :: X) k' (i :: dn') PD' (E'.put x.d v) H2 F2 a2 w2 ?_ (by simp; omega) hord' hall' hX' (hS2.less fun t y hy => ?_) (hg.trans hg2) hp
        · refine ⟨List.forall_mem_cons.2 ⟨by omega, r1.lt⟩, List.nodup_cons.2 ⟨hin, r1.nd⟩, fun j => ?_, fun q hq h => ?_, r1.still, List.forall_mem_cons.2 ⟨fun j hj => List.mem_cons_of_mem _ ((r1.split j).2 (.inl (hbX j hj))), fun q hq j hj => List.mem_cons_of_mem _ (r1.closed q hq j hj)⟩, fun q hq y hy => ?_⟩
          · simp only [List.mem_cons, r1.split j, or_assoc]
          · rcases List.mem_cons.1 h with rfl | h
            · exact hin ((r1.split q).2 (.inr hq))
            · exact r1.disj q hq h
          · refine holdsAll_mem hold (List.mem_filter.2 ⟨(r1.split q).2 (.inr hq), ?_⟩) hy
            simp only [r1.still q hq, Bool.true_and, Bool.not_eq_true']
            have : q ∉ (closureGo [] ops.toList).getD i [] := fun h => r1.disj q hq (hbX q h)
            simpa using this
        · rw [put_get]
          rcases dels_get l PD' (E'.put x.d v) t with ⟨_, h2⟩ | ⟨h3, h4⟩
          · rw [h2] at hy; simp at hy
          · rw [h4, put_get] at hy
            split
            · rename_i e; rw [if_pos e] at hy; exact hy
            · rename_i e
              rw [if_neg e] at hy
              rcases dels_get l PD' E' t with ⟨⟨q, q1, q2⟩, _⟩ | ⟨_, h6⟩
              · exact absurd q2 (h3 q q1)
              · rw [h6]; exact hy
theorem AWP.drawn {l : List Ins} {p : Plan} {E : Env} {H : Heap} {Q : Exit → Env → Heap → Prop} (h : planRun P l p E H (Q .normal)) : AWP P N (.drawn l p) E H Q := by
  intro code hc Keep F a w hS
  cases code with
  | region id ops d =>
    cases d with
    | false => simp [comp, Option.bind_eq_some_iff] at hc
    | true =>
      simp only [comp, Option.bind_eq_some_iff] at hc
      obtain ⟨l', hl', hc⟩ := hc
      split at hc
      · rename_i hok
        simp only [Bool.and_eq_true] at hok
        injection hc with hc; injection hc with h1 h2; subst h1; subst h2
        refine wp_region_draw fun t => ?_
        obtain ⟨s1, s2⟩ := schedule_ok hok.1.1 (P.follows .mixedOrders) t
        have hd : St N Keep F E H a w.drew := ⟨fun t x hx => (hS.env t x hx).grow hS.heap (Grow.same (Ext.drew _ w)), hS.tsz, hS.dfs, hS.heap.drew⟩
        have hlen := (compInss_spec hl').1
        exact drawn_ops hl' hok.1.2 hok.2 (Region.schedule (P.follows .mixedOrders) ops t) [] (ops.size + 1) [] [] E H F a w.drew ⟨by simp, by simp, by simp, by simp, by simp, by simp, by simp⟩ (by simp at hlen; simp; omega) s1 (fun i hi => .inr (s2 i hi)) (by simp) hd (Grow.same (Ext.drew _ w)) h
      · simp at hc
  | _ => simp [comp, Option.bind_eq_some_iff] at hc
end Go.Proofs.Ytjnencdmejhmjaa.Eng
