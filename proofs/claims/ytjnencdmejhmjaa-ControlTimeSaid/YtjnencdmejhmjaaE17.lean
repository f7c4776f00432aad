/- ENGINE, part 17: a region that draws its order, every order at once. -/
import Derived.Test.YtjnencdmejhmjaaE16
namespace Go.Proofs.Ytjnencdmejhmjaa.Eng
open Go Go.RowKit
set_option linter.unusedSimpArgs false
set_option linter.unusedVariables false
variable {P : Program} {N : Nat}

theorem compInss_spec {ops : Array Oper} : ∀ {os : List Oper} {l : List Ins}, compInss P N ops os = some l → l.length = os.length ∧ ∀ (i : Nat) (o : Oper), os[i]? = some o → ∃ x, l[i]? = some x ∧ compIns P N ops o = some x
  | [], l, h => by simp [compInss] at h; subst h; simp
  | o :: os, l, h => by
    simp only [compInss, Option.bind_eq_some_iff] at h
    obtain ⟨x, hx, l', hl', e⟩ := h
    injection e with e; subst e
    obtain ⟨h1, h2⟩ := compInss_spec hl'
    refine ⟨by simp [h1], fun i o' ho => ?_⟩
    match i with
    | 0 => simp at ho; subst ho; exact ⟨x, rfl, hx⟩
    | i + 1 => simpa using h2 i o' (by simpa using ho)
theorem closure_spec : ∀ (os : List Oper) (acc : List (List Nat)), (closureGo acc os).length = acc.length + os.length ∧ (∀ i, i < acc.length → (closureGo acc os)[i]? = acc[i]?) ∧
    ∀ (i : Nat) (o : Oper), os[i]? = some o → (closureGo acc os)[acc.length + i]? = some ((dpre o).flatMap fun j => j :: ((closureGo acc os).take (acc.length + i)).getD j []).eraseDups
  | [], acc => by simp [closureGo]
  | o :: os, acc => by
    obtain ⟨h1, h2, h3⟩ := closure_spec os (acc ++ [((dpre o).flatMap fun j => j :: acc.getD j []).eraseDups])
    simp only [closureGo]
    refine ⟨by rw [h1]; simp; omega, fun i hi => ?_, fun i o' ho => ?_⟩
    · rw [h2 i (by simp; omega), List.getElem?_append_left hi]
    · match i with
      | 0 =>
        simp at ho; subst ho
        have e1 : (closureGo (acc ++ [((dpre o).flatMap fun j => j :: acc.getD j []).eraseDups]) os).take acc.length = acc := by
          apply List.ext_getElem?
          intro i
          rw [List.getElem?_take]
          split
          · rename_i hi; rw [h2 i (by simp; omega), List.getElem?_append_left hi]
          · rename_i hi; rw [List.getElem?_eq_none (by omega)]
        rw [Nat.add_zero, e1, h2 acc.length (by simp)]
        simp
      | i + 1 =>
        have := h3 i o' (by simpa using ho)
        simp only [List.length_append, List.length_cons, List.length_nil, Nat.zero_add] at this
        rw [show acc.length + (i + 1) = acc.length + 1 + i by omega]
        exact this
theorem closure_at {os : List Oper} (he : edgesOK os = true) (k : Nat) (o : Oper) (ho : os[k]? = some o) (j : Nat) : j ∈ (closureGo [] os).getD k [] ↔ ∃ d ∈ dpre o, d < k ∧ (j = d ∨ j ∈ (closureGo [] os).getD d []) := by
  obtain ⟨_, _, h3⟩ := closure_spec os []
  have h := h3 k o ho
  simp only [List.length_nil, Nat.zero_add] at h
  have hd : ∀ d ∈ dpre o, d < k := by
    intro d hd
    have : (o, k) ∈ os.zipIdx := by
      rw [List.mem_zipIdx_iff_getElem?]; simpa using ho
    have := List.all_eq_true.1 he _ this
    exact by simpa using List.all_eq_true.1 this d hd
  rw [List.getD_eq_getElem?_getD, h, Option.getD_some, List.mem_eraseDups, List.mem_flatMap]
  constructor
  · rintro ⟨d, h1, h2⟩
    refine ⟨d, h1, hd d h1, ?_⟩
    rcases List.mem_cons.1 h2 with h2 | h2
    · exact .inl h2
    · right
      rw [List.getD_eq_getElem?_getD, List.getElem?_take, if_pos (hd d h1)] at h2
      rw [List.getD_eq_getElem?_getD]; exact h2
  · rintro ⟨d, h1, h2, h3⟩
    refine ⟨d, h1, ?_⟩
    rcases h3 with h3 | h3
    · exact List.mem_cons.2 (.inl h3)
    · refine List.mem_cons_of_mem _ ?_
      rw [List.getD_eq_getElem?_getD, List.getElem?_take, if_pos h2]
      rw [List.getD_eq_getElem?_getD] at h3; exact h3
theorem closure_sub {os : List Oper} (he : edgesOK os = true) (X : List Nat) (hX : ∀ i ∈ X, ∀ o, os[i]? = some o → ∀ j ∈ dpre o, j ∈ X) : ∀ (k : Nat) (o : Oper), os[k]? = some o → (∀ j ∈ dpre o, j ∈ X) → ∀ j ∈ (closureGo [] os).getD k [], j ∈ X := by
  intro k
  induction k using Nat.strongRecOn with
  | _ k ih =>
    intro o ho hp j hj
    obtain ⟨d, h1, h2, h3⟩ := (closure_at he k o ho j).1 hj
    rcases h3 with rfl | h3
    · exact hp _ h1
    · have hk : k < os.length := (List.getElem?_eq_some_iff.1 ho).1
      have hd : d < os.length := by omega
      exact ih d h2 os[d] (by simp [hd]) (hX d (hp d h1) os[d] (by simp [hd])) j h3
theorem nodup_len : ∀ (n : Nat) (l : List Nat), l.Nodup → (∀ i ∈ l, i < n) → l.length ≤ n
  | 0, l, _, h => by
    cases l with
    | nil => simp
    | cons a l => exact absurd (h a List.mem_cons_self) (by omega)
  | n + 1, l, hn, h => by
    have h1 := nodup_len n (l.erase n) (hn.erase n) (fun i hi => by
      have h2 := h i (List.mem_of_mem_erase hi)
      have h3 : i ≠ n := fun e => by subst e; exact (List.Nodup.not_mem_erase hn) hi
      omega)
    rw [List.length_erase] at h1
    split at h1 <;> omega

/-! ### the orders that may be drawn -/
def Good (m : Region.Mode) (ops : Array Oper) : List Nat → List Nat → Prop
  | _, [] => True
  | X, i :: ρ => i < ops.size ∧ i ∉ X ∧ (∀ o, ops[i]? = some o → ∀ e ∈ o.after, Region.binds m e = true → e.on ∈ X) ∧ Good m ops (i :: X) ρ
theorem Good.nodup {m : Region.Mode} {ops : Array Oper} : ∀ {ρ X : List Nat}, Good m ops X ρ → X.Nodup → (∀ i ∈ X, i < ops.size) → (ρ.reverse ++ X).Nodup ∧ ∀ i ∈ ρ.reverse ++ X, i < ops.size
  | [], X, _, h1, h2 => by simpa using ⟨h1, h2⟩
  | i :: ρ, X, h, h1, h2 => by
    obtain ⟨g1, g2, _, g4⟩ := h
    have := Good.nodup g4 (List.nodup_cons.2 ⟨g2, h1⟩) (List.forall_mem_cons.2 ⟨g1, fun j hj => h2 j hj⟩)
    simpa [List.append_assoc] using this
theorem go_good (m : Region.Mode) (ops : Array Oper) : ∀ (fuel t : Nat) (listed : Array Bool) (acc : List Nat), listed.size = ops.size → (∀ i, i < ops.size → (listed.getD i true = true ↔ i ∈ acc)) → (∀ i ∈ acc, i < ops.size) → acc.Nodup → fuel + acc.length = ops.size →
    ∃ ρ, Region.linearise.go m ops fuel t listed acc = acc.reverse ++ ρ ∧ Good m ops acc ρ ∧
      ((∃ σ, Good m ops [] σ ∧ ∀ i, i < ops.size → i ∈ σ) → ∀ i, i < ops.size → i ∈ acc ∨ i ∈ ρ) := by
  intro fuel
  induction fuel with
  | zero =>
    intro t listed acc hs hl hlt hn hf
    refine ⟨[], by simp [Region.linearise.go], trivial, fun _ i hi => .inl ?_⟩
    rcases Classical.em (i ∈ acc) with h | h
    · exact h
    · have := nodup_len ops.size (i :: acc) (List.nodup_cons.2 ⟨h, hn⟩) (List.forall_mem_cons.2 ⟨hi, fun j hj => hlt j hj⟩)
      simp at this; omega
  | succ fuel ih =>
    intro t listed acc hs hl hlt hn hf
    simp only [Region.linearise.go]
    have hfalse : ∀ j, listed.getD j false = true → j ∈ acc := by
      intro j hj
      have hjs : j < listed.size := by
        rcases Nat.lt_or_ge j listed.size with h | h
        · exact h
        · rw [Array.getD_eq_getD_getElem?, Array.getElem?_eq_none h] at hj; simp at hj
      refine (hl j (by omega)).1 ?_
      rw [Array.getD_eq_getD_getElem?] at hj ⊢
      rw [Array.getElem?_eq_getElem hjs] at hj ⊢
      exact hj
    generalize hrs : ((List.range ops.size).filter fun i => !listed.getD i true && ((ops[i]?).map fun o => o.after.all fun e => !Region.binds m e || listed.getD e.on false).getD false) = rs
    split
    · rename_i i hi
      have him : i ∈ rs := List.mem_of_getElem? hi
      rw [← hrs, List.mem_filter, List.mem_range] at him
      obtain ⟨hi1, hi2⟩ := him
      simp only [Bool.and_eq_true, Bool.not_eq_true'] at hi2
      obtain ⟨hi2, hi3⟩ := hi2
      have hni : i ∉ acc := fun h => by rw [(hl i hi1).2 h] at hi2; simp at hi2
      obtain ⟨ρ, r1, r2, r3⟩ := ih (t / rs.length) (listed.setIfInBounds i true) (i :: acc) (by simp [hs]) (fun j hj => by
        rw [Array.getD_eq_getD_getElem?, Array.getElem?_setIfInBounds]
        by_cases e : i = j
        · subst e; simp [hs, hj]
        · rw [if_neg e, ← Array.getD_eq_getD_getElem?, hl j hj]
          simp; exact fun h => absurd h.symm e) (List.forall_mem_cons.2 ⟨hi1, fun j hj => hlt j hj⟩) (List.nodup_cons.2 ⟨hni, hn⟩) (by simp; omega)
      refine ⟨i :: ρ, by rw [r1]; simp, ⟨hi1, hni, fun o ho e he hb => ?_, r2⟩, fun hσ j hj => ?_⟩
      · rw [ho] at hi3
        simp only [Option.map_some, Option.getD_some] at hi3
        have := Array.all_eq_true'.1 hi3 e he
        simp only [Bool.or_eq_true, Bool.not_eq_true'] at this
        rcases this with h | h
        · rw [hb] at h; simp at h
        · exact hfalse _ h
      · rcases r3 hσ j hj with h | h
        · rcases List.mem_cons.1 h with rfl | h
          · exact .inr List.mem_cons_self
          · exact .inl h
        · exact .inr (List.mem_cons_of_mem _ h)
    · rename_i hnone
      have hrs0 : rs = [] := by
        rcases List.eq_nil_or_concat rs with h | ⟨_, _, h⟩
        · exact h
        · have hlen : 0 < rs.length := by rw [h]; simp
          rw [List.getElem?_eq_none_iff] at hnone
          have := Nat.mod_lt t hlen
          omega
      refine ⟨[], by simp, trivial, fun hσ i hi => .inl ?_⟩
      obtain ⟨σ, s1, s2⟩ := hσ
      -- along σ everything is in acc
      have key : ∀ (τ X : List Nat), Good m ops X τ → (∀ j ∈ X, j ∈ acc) → ∀ j ∈ τ, j ∈ acc := by
        intro τ
        induction τ with
        | nil => intro X _ _ j hj; simp at hj
        | cons k τ ihτ =>
          intro X hg hX j hj
          obtain ⟨g1, g2, g3, g4⟩ := hg
          have hk : k ∈ acc := by
            rcases Classical.em (k ∈ acc) with h | h
            · exact h
            · exfalso
              have : k ∈ rs := by
                rw [← hrs, List.mem_filter, List.mem_range]
                refine ⟨g1, ?_⟩
                have h1 : listed.getD k true = false := by
                  cases hb : listed.getD k true with
                  | false => rfl
                  | true => exact absurd ((hl k g1).1 hb) h
                simp only [h1, Bool.not_false, Bool.true_and, Array.getElem?_eq_getElem g1, Option.map_some, Option.getD_some]
                refine Array.all_eq_true'.2 fun e he => ?_
                cases hb : Region.binds m e with
                | false => rfl
                | true =>
                  have hin := hX _ (g3 ops[k] (Array.getElem?_eq_getElem g1) e he hb)
                  have hlt' := hlt _ hin
                  have := (hl _ hlt').2 hin
                  rw [Array.getD_eq_getD_getElem?, Array.getElem?_eq_getElem (by omega)] at this ⊢
                  simpa using this
              rw [hrs0] at this; simp at this
          rcases List.mem_cons.1 hj with rfl | hj
          · exact hk
          · exact ihτ (k :: X) g4 (List.forall_mem_cons.2 ⟨hk, fun q hq => hX q hq⟩) j hj
      exact key σ [] s1 (by simp) i (s2 i hi)
theorem lin_good (m : Region.Mode) (ops : Array Oper) (hc : (Region.linearise m ops 0).length = ops.size) (t : Nat) : Good m ops [] (Region.linearise m ops t) ∧ ∀ i, i < ops.size → i ∈ Region.linearise m ops t := by
  have base : ∀ t, ∃ ρ, Region.linearise m ops t = ρ ∧ Good m ops [] ρ ∧ ((∃ σ, Good m ops [] σ ∧ ∀ i, i < ops.size → i ∈ σ) → ∀ i, i < ops.size → i ∈ ([] : List Nat) ∨ i ∈ ρ) := by
    intro t
    obtain ⟨ρ, h1, h2, h3⟩ := go_good m ops ops.size t (Array.replicate ops.size false) [] (by simp) (fun i hi => by simp [Array.getD_eq_getD_getElem?, hi]) (by simp) (by simp) (by simp)
    exact ⟨ρ, by simpa [Region.linearise] using h1, h2, h3⟩
  obtain ⟨σ, s1, s2, _⟩ := base 0
  have hall : ∀ i, i < ops.size → i ∈ σ := by
    intro i hi
    obtain ⟨n1, n2⟩ := s2.nodup (by simp) (by simp)
    rw [s1] at hc
    rcases Classical.em (i ∈ σ) with h | h
    · exact h
    · have := nodup_len ops.size (i :: (σ.reverse ++ [])) (List.nodup_cons.2 ⟨by simpa using h, n1⟩) (List.forall_mem_cons.2 ⟨hi, fun j hj => n2 j hj⟩)
      simp at this; omega
  obtain ⟨ρ, r1, r2, r3⟩ := base t
  rw [r1]
  exact ⟨r2, fun i hi => (r3 ⟨σ, s2, hall⟩ i hi).resolve_left (by simp)⟩
theorem binds_any {m : Region.Mode} {e : Edge} (h : Region.binds .any e = true) : Region.binds m e = true := by
  unfold Region.binds at h ⊢
  split at h
  · simp at h
  · simp at h
  · rfl
/-- an order that may be drawn: what it asks of each operation -/
def OrdOK (ops : Array Oper) : List Nat → List Nat → Prop
  | _, [] => True
  | X, i :: ρ => i < ops.size ∧ i ∉ X ∧ (∀ o, ops[i]? = some o → ∀ j ∈ dpre o, j ∈ X) ∧ OrdOK ops (i :: X) ρ
theorem Good.ord {m : Region.Mode} {ops : Array Oper} : ∀ {ρ X : List Nat}, Good m ops X ρ → OrdOK ops X ρ
  | [], _, _ => trivial
  | i :: ρ, X, ⟨h1, h2, h3, h4⟩ => ⟨h1, h2, fun o ho j hj => by
      simp only [dpre, List.mem_map, List.mem_filter] at hj
      obtain ⟨e, ⟨he, hb⟩, rfl⟩ := hj
      exact h3 o ho e (by simpa using he) (binds_any hb), h4.ord⟩
theorem schedule_ok {ops : Array Oper} (h : linOK ops = true) (mixed : Bool) (t : Nat) : OrdOK ops [] (Region.schedule mixed ops t) ∧ ∀ i, i < ops.size → i ∈ Region.schedule mixed ops t := by
  simp only [linOK, Bool.and_eq_true, beq_iff_eq] at h
  obtain ⟨⟨h1, h2⟩, h3⟩ := h
  unfold Region.schedule
  split
  · exact ⟨(lin_good .any ops h1 t).1.ord, (lin_good .any ops h1 t).2⟩
  · split
    · exact ⟨(lin_good .text ops h2 _).1.ord, (lin_good .text ops h2 _).2⟩
    · exact ⟨(lin_good .gc ops h3 _).1.ord, (lin_good .gc ops h3 _).2⟩
end Go.Proofs.Ytjnencdmejhmjaa.Eng
