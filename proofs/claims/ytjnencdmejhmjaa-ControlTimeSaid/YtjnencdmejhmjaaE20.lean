/- ENGINE, part 20: cuts; memory picked by labels; a call's own memory frozen at once. -/
import Derived.Test.YtjnencdmejhmjaaE19
namespace Go.Proofs.Ytjnencdmejhmjaa.Eng
open Go Go.RowKit
set_option linter.unusedSimpArgs false
set_option linter.unusedVariables false
variable {P : Program} {N : Nat}

theorem CallOK.borrowF (k kk : Nat) {f : Nat} {xs xs' : List AV} {H : Heap} {K0 K : AV → Heap → Prop} (hx : xs.map (closeAV H k) = xs') (h : CallOK P f xs' [] K0) (hfr : ∀ r H', K0 r H' → Free r ∧ FreeH H') (hk : ∀ r H', K0 r H' → K (closeAV H' kk r) H) : CallOK P f xs H K := by
  have hb : CallOK P f xs H fun r H2 => ∃ r0 H', K0 r0 H' ∧ r = r0 ∧ H2 = H' ++ H := CallOK.borrowH k (K0 := K0) (by rw [hx]; exact h) hfr (fun r H' h0 => ⟨r, H', h0, rfl, rfl⟩)
  refine ⟨hb.1, fun Keep F w vs hH hv => (hb.2 Keep F w vs hH hv).mono ?_⟩
  rintro e w' ⟨v, r, H2, F', rfl, ⟨r0, H', h0, rfl, rfl⟩, hg, hH', hr⟩
  have h1 : HeapOK Keep F' w' H' := hH'.sub (List.sublist_append_left _ _)
  have h2 : HeapOK Keep F' w' H := hH'.sub (List.sublist_append_right _ _)
  have hn := hH'.nodup
  rw [Heap.real_append, List.nodup_append] at hn
  have hF : ∀ c, (F' c ∨ c ∈ H'.real) → c < w'.heap.size := fun c hc => hc.elim (hH'.flt c) (h1.lt c)
  refine ⟨v, _, H, fun c => F' c ∨ c ∈ H'.real, rfl, hk r H' h0, ⟨fun c hc => .inl (hg.sub c hc), fun c hc => ?_, hg.ext⟩, ?_, closeAV_sound h1 kk r v hr⟩
  · rcases hc with hc | hc
    · exact hg.new c hc
    · exact .inr (h1.own c hc).2
  · refine ⟨fun p hp => (h2.blk p hp).step (fun c hc => .inl hc) (fun c hc => hH'.flt c hc) (Ext.refl _ _) (fun _ => rfl), fun c hc => ⟨fun hF => ?_, (h2.own c hc).2⟩, h2.nodup, hF, h2.klt⟩
    rcases hF with hF | hF
    · exact (h2.own c hc).1 hF
    · exact hn.2.2 c hF c hc rfl
/-! ### memory picked by labels -/
def pickH : List Nat → Heap → Option Heap
  | [], _ => some []
  | k :: ks, H => match H.get k with
    | some (a, b) => (pickH ks (H.del k)).bind fun r => some ((k, a, b) :: r)
    | none => none
theorem real_cons_perm {p : Nat × Loc × Blk} {A B : Heap} (h : (Heap.real A).Perm (Heap.real B)) : (Heap.real (p :: A)).Perm (Heap.real (p :: B)) := by
  obtain ⟨k, a, b⟩ := p
  simp only [Heap.real]
  split
  · exact h
  · exact h.cons _
theorem pickH_perm : ∀ (ks : List Nat) (H H' : Heap), pickH ks H = some H' → (∃ R, (Heap.real (H' ++ R)).Perm H.real) ∧ ∀ p ∈ H', p ∈ H
  | [], H, H', h => by simp [pickH] at h; subst h; exact ⟨⟨H, by simp⟩, by simp⟩
  | k :: ks, H, H', h => by
    simp only [pickH] at h
    split at h
    · rename_i a b hg
      simp only [Option.bind_eq_some_iff] at h
      obtain ⟨r, hr, h⟩ := h
      injection h with h; subst h
      obtain ⟨⟨R, hp⟩, hm⟩ := pickH_perm ks _ _ hr
      obtain ⟨A, B, e1, _, e2⟩ := Heap.get_split hg
      refine ⟨⟨R, ?_⟩, fun p hp => ?_⟩
      · rw [List.cons_append]
        refine (real_cons_perm hp).trans ?_
        rw [e2, e1]
        simp only [Heap.real_append, Heap.real]
        split
        · exact List.Perm.refl _
        · exact List.perm_middle.symm
      · rcases List.mem_cons.1 hp with rfl | hp
        · exact Heap.get_mem hg
        · exact (Heap.del_sub k H).subset (hm p hp)
    · simp at h
theorem HeapOK.pick {Keep F : Nat → Prop} {w : World} {H H' : Heap} (hH : HeapOK Keep F w H) {ks : List Nat} (h : pickH ks H = some H') : HeapOK Keep F w H' := by
  obtain ⟨⟨R, hp⟩, hm⟩ := pickH_perm ks H H' h
  have hn : (Heap.real (H' ++ R)).Nodup := hp.symm.nodup hH.nodup
  rw [Heap.real_append] at hn hp
  exact ⟨fun p hp => hH.blk p (hm p hp), fun c hc => hH.own c (hp.subset (List.mem_append_left _ hc)), (List.nodup_append.1 hn).1, hH.flt, hH.klt⟩
theorem Weak.pick {E E' : Env} {H H' : Heap} (h : EnvSub E' E) (hp : pickH (H'.map (·.1)) H = some H') : Weak N E H E' H' := fun Keep F a w hS =>
  ⟨F, Grow.refl _ _ _, ⟨fun t x hx => hS.env t x (h.get t x hx), hS.tsz, hS.dfs, hS.heap.pick hp⟩⟩
/-! ### cuts -/
theorem AWP.seqCut {σ : Type} {c d : IR} (Es : σ → Env) (Hs : σ → Heap) (Inv : σ → Prop) {E : Env} {H : Heap} {Q : Exit → Env → Heap → Prop}
    (h1 : ∀ K : Env → Heap → Prop, (∀ s E' H', Inv s → Weak N E' H' (Es s) (Hs s) → K E' H') → AWP P N c E H (then_ K Q)) (h2 : ∀ s, Inv s → AWP P N d (Es s) (Hs s) Q) : AWP P N (.seq c d) E H Q := by
  refine AWP.seq' ?_
  refine (h1 (fun E' H' => ∃ s, Inv s ∧ Weak N E' H' (Es s) (Hs s)) fun s E' H' hI hw => ⟨s, hI, hw⟩).mono ?_
  rintro e E' H' hq
  cases e with
  | normal => obtain ⟨s, hI, hw⟩ := hq; exact AWP.weak hw (h2 s hI)
  | _ => exact hq
end Go.Proofs.Ytjnencdmejhmjaa.Eng
