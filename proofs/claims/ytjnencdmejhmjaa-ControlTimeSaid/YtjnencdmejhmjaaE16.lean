/- ENGINE, part 16: a region that draws its order: what reads may come early; what does not is looked at in each order. -/
import Derived.Test.YtjnencdmejhmjaaE15
namespace Go.Proofs.Ytjnencdmejhmjaa.Eng
open Go Go.RowKit
set_option linter.unusedSimpArgs false
set_option linter.unusedVariables false
variable {P : Program} {N : Nat}

theorem opd_congr {E E' : Env} {x : Opd} (h : ∀ t ∈ IOp.reads.rd1 x, E.get t = E'.get t) : E.opd x = E'.opd x := by
  cases x with
  | t n => exact h n (by simp [IOp.reads.rd1])
  | _ => rfl
theorem optOpd_congr {E E' : Env} {x : Option Opd} (h : ∀ t ∈ IOp.reads.rdo x, E.get t = E'.get t) : optOpd E.opd x = optOpd E'.opd x := by
  cases x with
  | none => rfl
  | some x =>
    simp only [optOpd]
    rw [opd_congr (E := E) (E' := E') (x := x)]
    intro t ht
    cases x with
    | t n => exact h t (by simpa [IOp.reads.rd1, IOp.reads.rdo] using ht)
    | _ => simp [IOp.reads.rd1] at ht
theorem opds_congr {E E' : Env} : ∀ {xs : List Opd}, (∀ t ∈ IOp.reads.rds xs, E.get t = E'.get t) → opds E.opd xs = opds E'.opd xs
  | [], _ => rfl
  | x :: xs, h => by
    simp only [IOp.reads.rds, List.flatMap_cons, List.mem_append] at h
    simp only [opds]
    rw [opd_congr (E := E) (E' := E') (x := x) fun t ht => h t (.inl ht), opds_congr fun t ht => h t (.inr ht)]
theorem opdParts_congr {E E' : Env} : ∀ {xs : List (Nat × Nat × Opd)}, (∀ t ∈ xs.flatMap fun p => IOp.reads.rd1 p.2.2, E.get t = E'.get t) → opdParts E.opd xs = opdParts E'.opd xs
  | [], _ => rfl
  | (i, n, x) :: xs, h => by
    simp only [List.flatMap_cons, List.mem_append] at h
    simp only [opdParts]
    rw [opd_congr (E := E) (E' := E') (x := x) fun t ht => h t (.inl ht), opdParts_congr fun t ht => h t (.inr ht)]
theorem opdNats_congr {E E' : Env} : ∀ {xs : List (Nat × Opd)}, (∀ t ∈ xs.flatMap fun p => IOp.reads.rd1 p.2, E.get t = E'.get t) → opdNats E.opd xs = opdNats E'.opd xs
  | [], _ => rfl
  | (i, x) :: xs, h => by
    simp only [List.flatMap_cons, List.mem_append] at h
    simp only [opdNats]
    rw [opd_congr (E := E) (E' := E') (x := x) fun t ht => h t (.inl ht), opdNats_congr fun t ht => h t (.inr ht)]
theorem pick_congr {E E' : Env} {a b : Opd} (ha : E.opd a = E'.opd a) (hb : E.opd b = E'.opd b) : pickVal E.opd a b = pickVal E'.opd a b := by
  funext x; unfold pickVal; split
  · rw [ha, hb]
  · rfl
theorem val_congr {E E' : Env} {H : Heap} {q : IOp} (h : ∀ t ∈ q.reads, E.get t = E'.get t) : q.val E.opd H = q.val E'.opd H := by
  cases q <;> simp only [IOp.reads, List.mem_append] at h <;> simp only [IOp.val]
  case mov x => exact opd_congr h
  case asg x => exact opd_congr h
  case pick c a b => rw [opd_congr fun t ht => h t (.inl (.inl ht)), pick_congr (opd_congr fun t ht => h t (.inl (.inr ht))) (opd_congr fun t ht => h t (.inr ht))]
  case bin o x y => rw [opd_congr fun t ht => h t (.inl ht), opd_congr fun t ht => h t (.inr ht)]
  case boolq o x y => rw [opd_congr fun t ht => h t (.inl ht), opd_congr fun t ht => h t (.inr ht)]
  case eqs o k x y => rw [opd_congr fun t ht => h t (.inl ht), opd_congr fun t ht => h t (.inr ht)]
  case un o x => rw [opd_congr h]
  case conv o x => rw [opd_congr h]
  case load o x => rw [opd_congr h]
  case nilck x => rw [opd_congr h]
  case faddr o x => rw [opd_congr h]
  case fld n o x => rw [opd_congr h]
  case iaddr o x y => rw [opd_congr fun t ht => h t (.inl ht), opd_congr fun t ht => h t (.inr ht)]
  case slc n x lo hi => rw [opd_congr fun t ht => h t (.inl (.inl ht)), optOpd_congr fun t ht => h t (.inl (.inr ht)), optOpd_congr fun t ht => h t (.inr ht)]
  case ext o x => rw [opd_congr h]
  case len x => rw [opd_congr h]
  case minn x xs => rw [opd_congr fun t ht => h t (.inl ht), opds_congr fun t ht => h t (.inr ht)]
  case maxx x xs => rw [opd_congr fun t ht => h t (.inl ht), opds_congr fun t ht => h t (.inr ht)]
  case build z ps => rw [opdParts_congr h]
  case mkf f xs => rw [opds_congr h]
theorem run_congr {E E' : Env} {H : Heap} {L : Nat} {K : Option AV → Heap → Prop} {q : IOp} (h : ∀ t ∈ q.reads, E.get t = E'.get t) (hr : q.run P L E.opd H K) : q.run P L E'.opd H K := by
  by_cases hv : q.isVal = true
  · rw [run_val hv] at hr ⊢
    rw [← val_congr h]; exact hr
  · cases q <;> simp only [IOp.reads, List.mem_append] at h <;> simp only [IOp.run] at hr ⊢ <;> first
      | exact absurd rfl hv
      | skip
    case store n x y => rw [← opd_congr (E := E) fun t ht => h t (.inl ht), ← opd_congr (E := E) fun t ht => h t (.inr ht)]; exact hr
    case alloc z => exact hr
    case box x => rw [← opd_congr (E := E) h]; exact hr
    case bsl n z l ps => rw [← opdNats_congr (E := E) h]; exact hr
    case mks n z b x y => rw [← opd_congr (E := E) fun t ht => h t (.inl ht), ← opd_congr (E := E) fun t ht => h t (.inr ht)]; exact hr
    case app n b x y => rw [← opd_congr (E := E) fun t ht => h t (.inl ht), ← opd_congr (E := E) fun t ht => h t (.inr ht)]; exact hr
    case call f xs => rw [← opds_congr (E := E) h]; exact hr
    case eqnil n x => rw [← opd_congr (E := E) h]; exact hr
    case callv x xs => rw [← opd_congr (E := E) fun t ht => h t (.inl ht), ← opds_congr (E := E) fun t ht => h t (.inr ht)]; exact hr
/-- What an operation that only reads gave, it would give now. -/
def Ins.holds (i : Ins) (E : Env) (H : Heap) : Prop :=
  match i.d with
  | none => False
  | some d =>
    match i.g with
    | none => ∃ a, E.get d = some a ∧ i.q.val E.opd H = some a
    | some (t, b) => ∃ u, E.get t = some (.v u) ∧ (u = .bool b → ∃ a, E.get d = some a ∧ i.q.val E.opd H = some a) ∧ (u ≠ .bool b → E.get d = some (.v undef))
def holdsAll (l : List Ins) (E : Env) (H : Heap) : List Nat → Prop
  | [] => True
  | j :: js => (match l[j]? with | some i => i.holds E H | none => False) ∧ holdsAll l E H js
def planRun (P : Program) (l : List Ins) : Plan → Env → Heap → (Env → Heap → Prop) → Prop
  | .done, E, H, K => K E H
  | .none, _, _, _ => True
  | .still i p, E, H, K => match l[i]? with
    | some x => x.run P E H fun E' H' => planRun P l p E' H' K
    | none => False
  | .eff i js p alt, E, H, K => (match l[i]? with
    | some x => x.run P E H fun E' H' => holdsAll l E' H' js ∧ planRun P l p E' H' K
    | none => False) ∧ planRun P l alt E H K
theorem holdsAll_mem {l : List Ins} {E : Env} {H : Heap} {js : List Nat} (h : holdsAll l E H js) {j : Nat} (hj : j ∈ js) {i : Ins} (hi : l[j]? = some i) : i.holds E H := by
  induction js with
  | nil => simp at hj
  | cons k js ih =>
    obtain ⟨h1, h2⟩ := h
    rcases List.mem_cons.1 hj with rfl | hj
    · rw [hi] at h1; exact h1
    · exact ih h2 hj
/-- The slots of operations that only read, struck out. -/
def dels (l : List Ins) : List Nat → Env → Env
  | [], E => E
  | q :: qs, E => match (l[q]?).bind (·.d) with
    | some d => (dels l qs E).del d
    | none => dels l qs E
theorem dels_get (l : List Ins) (qs : List Nat) (E : Env) (t : Nat) : ((∃ q ∈ qs, (l[q]?).bind (·.d) = some t) ∧ (dels l qs E).get t = none) ∨ ((∀ q ∈ qs, (l[q]?).bind (·.d) ≠ some t) ∧ (dels l qs E).get t = E.get t) := by
  induction qs with
  | nil => exact .inr ⟨by simp, rfl⟩
  | cons q qs ih =>
    simp only [dels]
    cases hd : (l[q]?).bind (·.d) with
    | none =>
      rcases ih with ⟨⟨q', h1, h2⟩, h3⟩ | ⟨h1, h2⟩
      · exact .inl ⟨⟨q', List.mem_cons_of_mem _ h1, h2⟩, h3⟩
      · refine .inr ⟨fun q' hq' => ?_, h2⟩
        rcases List.mem_cons.1 hq' with rfl | hq'
        · rw [hd]; simp
        · exact h1 q' hq'
    | some d =>
      simp only [Env.get_del]
      by_cases e : d = t
      · subst e
        exact .inl ⟨⟨q, List.mem_cons_self, hd⟩, by simp⟩
      · rw [if_neg e]
        rcases ih with ⟨⟨q', h1, h2⟩, h3⟩ | ⟨h1, h2⟩
        · exact .inl ⟨⟨q', List.mem_cons_of_mem _ h1, h2⟩, h3⟩
        · refine .inr ⟨fun q' hq' => ?_, h2⟩
          rcases List.mem_cons.1 hq' with rfl | hq'
          · rw [hd]; simpa using e
          · exact h1 q' hq'
theorem St.congr {Keep F : Nat → Prop} {E E' : Env} {H : Heap} {a : Act} {w : World} (h : St N Keep F E H a w) (he : ∀ t, E'.get t = E.get t) : St N Keep F E' H a w :=
  ⟨fun t x hx => h.env t x (by rw [← he t]; exact hx), h.tsz, h.dfs, h.heap⟩
/-- An operation under less knowledge. -/
theorem insrun_congr {i : Ins} {E E' : Env} {H : Heap} {K : Env → Heap → Prop} (h : ∀ t ∈ i.reads, E.get t = E'.get t) (hr : i.run P E H K) : i.run P E' H fun E2 H2 => ∃ x, E2 = E'.put i.d x ∧ K (E.put i.d x) H2 := by
  unfold Ins.run at hr ⊢
  have hq : ∀ t ∈ i.q.reads, E.get t = E'.get t := fun t ht => h t (List.mem_append_right _ ht)
  have mono : ∀ {L : Nat} {K1 K2 : Option AV → Heap → Prop} {ρ : Opd → Option AV} {q : IOp}, (∀ x H', K1 x H' → K2 x H') → q.run P L ρ H K1 → q.run P L ρ H K2 := by
    intro L K1 K2 ρ q hk hr
    by_cases hv : q.isVal = true
    · rw [run_val hv] at hr ⊢
      split at hr
      · exact hk _ _ hr
      · exact hr.elim
    · cases q <;> simp only [IOp.run] at hr ⊢ <;> first
        | exact absurd rfl hv
        | skip
      case store n x y =>
        split at hr
        · unfold storeRun at hr ⊢
          split at hr
          · split at hr
            · split at hr
              · exact ⟨hr.1, hr.2.1, hr.2.2.1, hr.2.2.2.1, hr.2.2.2.2.1, hk _ _ hr.2.2.2.2.2⟩
              · exact hr.elim
            · exact hr.elim
          · exact hr.elim
        · exact hr.elim
      case alloc z => exact fun a => hk _ _ (hr a)
      case box x =>
        split at hr
        · exact ⟨hr.1, hr.2.1, fun a => hk _ _ (hr.2.2 a)⟩
        · exact hr.elim
      case bsl n z l ps =>
        split at hr
        · split at hr
          · exact fun a => hk _ _ (hr a)
          · exact hr.elim
        · exact hr.elim
      case eqnil neg x =>
        split at hr
        · unfold eqnilRun at hr ⊢
          split at hr
          · exact fun t ht => hk _ _ (hr t ht)
          · exact fun t ht => hk _ _ (hr t ht)
          · exact hk _ _ hr
          · exact hr.elim
        · exact hr.elim
      case mks n z b x y =>
        split at hr
        · unfold mksRun at hr ⊢
          split at hr
          · exact ⟨hr.1, hr.2.1, hr.2.2.1, fun a => hk _ _ (hr.2.2.2 a)⟩
          · exact hr.elim
        · exact hr.elim
      case app n b x y =>
        split at hr
        · split at hr
          · exact ⟨hr.1, fun a => hk _ _ (hr.2 a)⟩
          · exact hr.elim
        · exact hr.elim
      case call f xs =>
        split at hr
        · exact hr.mono fun r H' h => hk _ _ h
        · exact hr.elim
      case callv x xs =>
        split at hr
        · unfold callvRun at hr ⊢
          split at hr
          · exact hr.mono fun r H' h => hk _ _ h
          · exact hr.elim
        · exact hr.elim
  cases hg : i.g with
  | none =>
    rw [hg] at hr
    simp only at hr ⊢
    exact mono (fun x H' hK => ⟨x, rfl, hK⟩) (run_congr hq hr)
  | some tb =>
    obtain ⟨t, b⟩ := tb
    rw [hg] at hr
    simp only at hr ⊢
    rw [← h t (by simp [Ins.reads, hg])]
    split at hr
    · refine ⟨fun e => mono (fun x H' hK => ⟨x, rfl, hK⟩) (run_congr hq (hr.1 e)), fun e => ⟨some (.v undef), rfl, hr.2 e⟩⟩
    · exact hr.elim
end Go.Proofs.Ytjnencdmejhmjaa.Eng
