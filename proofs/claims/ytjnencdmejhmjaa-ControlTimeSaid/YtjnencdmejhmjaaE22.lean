/- ENGINE, part 22: cells of the function's own memory, known less exactly. -/
import Derived.Test.YtjnencdmejhmjaaE21
namespace Go.Proofs.Ytjnencdmejhmjaa.Eng
open Go Go.RowKit
set_option linter.unusedSimpArgs false
set_option linter.unusedVariables false
variable {P : Program} {N : Nat}
/-- what is known of a value, less exactly -/
def Le (x y : AV) : Prop := ∀ (F : Nat → Prop) (w : World) (v : Value), VR F w x v → VR F w y v
theorem Le.refl (x : AV) : Le x x := fun _ _ _ h => h
theorem Le.nil (sz : Nat) : Le (.v (.slice none 0 0)) (.fz sz []) := fun F w v h => by rw [h.inv_v]; exact .fznil sz
def LeAll : List AV → List AV → Prop
  | [], [] => True
  | x :: xs, y :: ys => Le x y ∧ y.leaf = true ∧ LeAll xs ys
  | _, _ => False
theorem LeAll.get {xs ys : List AV} (h : LeAll xs ys) : ys.length = xs.length ∧ ys.all AV.leaf = true ∧ ∀ (j : Nat) (y : AV), ys[j]? = some y → ∃ x, xs[j]? = some x ∧ Le x y := by
  induction xs generalizing ys with
  | nil => cases ys with
    | nil => exact ⟨rfl, rfl, by simp⟩
    | cons y ys => exact h.elim
  | cons x xs ih => cases ys with
    | nil => exact h.elim
    | cons y ys =>
      obtain ⟨h1, h2, h3⟩ := h
      obtain ⟨q1, q2, q3⟩ := ih h3
      refine ⟨by simp [q1], by simp [h2]; simpa using q2, fun j z hz => ?_⟩
      match j with
      | 0 => simp at hz; subst hz; exact ⟨x, rfl, h1⟩
      | j + 1 => simp at hz; simpa using q3 j z hz
def LeEls : List AV → List AV → Prop
  | [], [] => True
  | x :: xs, y :: ys => LeAll x.cells y.cells ∧ LeEls xs ys
  | _, _ => False
theorem LeEls.get {xs ys : List AV} (h : LeEls xs ys) : (xs = [] → ys = []) ∧ ∀ (j : Nat) (y : AV), ys[j]? = some y → ∃ x, xs[j]? = some x ∧ LeAll x.cells y.cells := by
  induction xs generalizing ys with
  | nil => cases ys with
    | nil => exact ⟨fun _ => rfl, by simp⟩
    | cons y ys => exact h.elim
  | cons x xs ih => cases ys with
    | nil => exact h.elim
    | cons y ys =>
      refine ⟨by simp, fun j z hz => ?_⟩
      match j with
      | 0 => simp at hz; subst hz; exact ⟨x, rfl, h.1⟩
      | j + 1 => simp at hz; simpa using (ih h.2).2 j z hz
theorem Weak.cells (l : Nat) {E : Env} {H : Heap} {a : Loc} {sz : Nat} {els els' : List AV} (hH : H.get l = some (a, .arr sz els)) (h : LeEls els els') : Weak N E H E ((l, a, .arr sz els') :: H.del l) := fun Keep F act w hS => by
  refine ⟨F, Grow.refl _ _ _, ⟨hS.env, hS.tsz, hS.dfs, ?_⟩⟩
  have hd := hS.heap.sub (Heap.del_sub l H)
  have hb := hS.heap.blk _ (Heap.get_mem hH)
  obtain ⟨q1, q2⟩ := h.get
  refine hd.cons l a (.arr sz els') ?_ fun hv => ?_
  · simp only [BlkOK] at hb ⊢
    split
    · rename_i hv; rw [if_pos hv] at hb; exact q1 hb
    · rename_i hv
      rw [if_neg hv] at hb
      obtain ⟨cs, t, h1, h2⟩ := hb
      refine ⟨cs, t, h1, fun i e he => ?_⟩
      obtain ⟨x, hx, hl⟩ := q2 i e he
      obtain ⟨⟨e1, e2⟩, e3⟩ := h2 i x hx
      obtain ⟨r1, r2, r3⟩ := hl.get
      refine ⟨⟨r1.trans e1, r2⟩, fun j y hy => ?_⟩
      obtain ⟨z, hz, hle⟩ := r3 j y hy
      obtain ⟨v, hv1, hv2⟩ := e3 j z hz
      exact ⟨v, hv1, hle _ _ _ hv2⟩
  · have ho := hS.heap.own a.blk (Heap.real_mem (Heap.get_mem hH) hv)
    exact ⟨ho.1, ho.2, Heap.del_real hH hv hS.heap.nodup⟩
/-- A call that is handed a block of the caller's own memory for good: it is frozen. -/
theorem CallOK.give (k l : Nat) {f : Nat} {xs xs' : List AV} {r : AV} {H : Heap} {a0 : Loc} {b0 : Blk} {K : AV → Heap → Prop} (hg : H.get l = some (a0, b0)) (hx : xs.map (closeAV [(l, a0, b0)] k) = xs') (h : PCalls P f xs' r) (hk : K r (H.del l)) : CallOK P f xs H K := by
  have h2 : CallOK P f xs' (H.del l) fun r' H' => r' = r ∧ H' = H.del l := CallOK.pure h ⟨rfl, rfl⟩
  refine ⟨h2.1, fun Keep F w vs hH hv => ?_⟩
  have hsub : List.Sublist [(l, a0, b0)] H := by
    obtain ⟨A, B, e1, _, _⟩ := Heap.get_split hg
    rw [e1]; exact ((List.nil_sublist B).cons_cons (l, a0, b0)).trans (List.sublist_append_right A _)
  have hone : HeapOK Keep F w [(l, a0, b0)] := hH.sub hsub
  have hF' : ∀ c, (F c ∨ c ∈ Heap.real [(l, a0, b0)]) → c < w.heap.size := fun c hc => hc.elim (hH.flt c) (hone.lt c)
  have hdel := hH.sub (Heap.del_sub l H)
  have hnot : ∀ c ∈ (H.del l).real, ¬ (F c ∨ c ∈ Heap.real [(l, a0, b0)]) := by
    intro c hc hF
    rcases hF with hF | hF
    · exact (hdel.own c hc).1 hF
    · simp only [Heap.real] at hF
      split at hF
      · simp at hF
      · rename_i hv
        simp at hF; subst hF
        exact Heap.del_real hg (by simpa using hv) hH.nodup hc
  have hD : HeapOK Keep (fun c => F c ∨ c ∈ Heap.real [(l, a0, b0)]) w (H.del l) := ⟨fun p hp => (hdel.blk p hp).step (fun c hc => .inl hc) (fun c hc => hH.flt c hc) (Ext.refl _ _) (fun _ => rfl), fun c hc => ⟨hnot c hc, (hdel.own c hc).2⟩, hdel.nodup, hF', hH.klt⟩
  have hv' : VRs (fun c => F c ∨ c ∈ Heap.real [(l, a0, b0)]) w xs' vs := by
    rw [← hx]
    refine ⟨by simp [hv.1], fun i x v hx hvv => ?_⟩
    rw [List.getElem?_map] at hx
    obtain ⟨z, hz, rfl⟩ := Option.map_eq_some_iff.1 hx
    exact closeAV_sound hone k z v (hv.2 i z v hz hvv)
  refine (h2.2 Keep _ w vs hD hv').mono ?_
  rintro e w' ⟨v, r', H', F', rfl, ⟨rfl, rfl⟩, hgr, hH', hr⟩
  refine ⟨v, _, _, F', rfl, hk, ⟨fun c hc => hgr.sub c (.inl hc), fun c hc => ?_, hgr.ext.mono fun c hc => hc.imp .inl id⟩, hH', hr⟩
  rcases hgr.new c hc with (h | h) | h
  · exact .inl h
  · exact .inr (hone.own c h).2
  · exact .inr h
end Go.Proofs.Ytjnencdmejhmjaa.Eng
