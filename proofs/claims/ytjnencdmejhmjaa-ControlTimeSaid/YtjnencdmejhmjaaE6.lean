/- ENGINE, part 6: what part 3 says an operation gives, it gives. -/
import Derived.Test.YtjnencdmejhmjaaE5
namespace Go.Proofs.Ytjnencdmejhmjaa.Eng
open Go Go.RowKit
set_option linter.unusedSimpArgs false
set_option linter.unusedVariables false
variable {P : Program} {F : Nat → Prop} {w : World}

theorem eqsVal_sound (d : Nat) (xs ys : List Value) : ∀ (fs : List Field) (n : Nat) (as bs : List AV) (t : Bool), plainFields P fs n = true → eqsVal (kindsP P fs) as bs = some t →
    (∀ (i : Nat) (a : AV), as[i]? = some a → ∃ v, xs[n + i]? = some v ∧ VR F w a v) → (∀ (i : Nat) (a : AV), bs[i]? = some a → ∃ v, ys[n + i]? = some v ∧ VR F w a v) →
    (Op.eqFields (d + 1) xs.toArray ys.toArray fs).run P w = .ok t w
  | [], n, as, bs, t, _, h, _, _ => by
    simp only [kindsP, List.map_nil] at h
    unfold eqsVal at h
    split at h
    · simp at h; subst h; simp [Op.eqFields]
    · simp at *
    · simp at *
    · simp at h
  | f :: fs, n, as, bs, t, hp, h, hx, hy => by
    simp only [plainFields, Bool.and_eq_true, beq_iff_eq, bne_iff_ne, ne_eq] at hp
    obtain ⟨⟨⟨ho, hname⟩, hsc⟩, hrest⟩ := hp
    have hne : f.name ≠ "_" := hname
    have hagg : (isAgg f.type).run P w = .ok false w := by
      rcases scalarP_eq hsc with ⟨k, e⟩ | e <;> simp [isAgg, run_underlying e]
    have rec_ : ∀ a as b bs t, (∀ (i : Nat) (c : AV), (a :: as)[i]? = some c → ∃ v, xs[n + i]? = some v ∧ VR F w c v) → (∀ (i : Nat) (c : AV), (b :: bs)[i]? = some c → ∃ v, ys[n + i]? = some v ∧ VR F w c v) → eqsVal (kindsP P fs) as bs = some t → (Op.eqFields (d + 1) xs.toArray ys.toArray fs).run P w = .ok t w := fun a as b bs t hx hy ht =>
      eqsVal_sound d xs ys fs (n + 1) as bs t hrest ht
        (fun i a ha => by obtain ⟨v, q1, q2⟩ := hx (i + 1) a (by simpa using ha); exact ⟨v, by rwa [show n + 1 + i = n + (i + 1) by omega], q2⟩)
        (fun i a ha => by obtain ⟨v, q1, q2⟩ := hy (i + 1) a (by simpa using ha); exact ⟨v, by rwa [show n + 1 + i = n + (i + 1) by omega], q2⟩)
    simp only [kindsP, List.map_cons] at h
    unfold eqsVal at h
    split at h
    · simp at *
    · rename_i ks k x r k' y s e0
      simp only [List.cons.injEq] at e0
      obtain ⟨e0, rfl⟩ := e0
      obtain ⟨v, hv1, hv2⟩ := hx 0 _ rfl
      obtain ⟨u, hu1, hu2⟩ := hy 0 _ rfl
      obtain rfl := hv2.inv_v
      obtain rfl := hu2.inv_v
      have hpx : (part f.type xs.toArray f.offset).run P w = .ok (.int k x) w := by
        have : xs[f.offset]? = some (.int k x) := by rw [ho]; simpa using hv1
        simp [part, hagg, this]
      have hpy : (part f.type ys.toArray f.offset).run P w = .ok (.int k' y) w := by
        have : ys[f.offset]? = some (.int k' y) := by rw [ho]; simpa using hu1
        simp [part, hagg, this]
      split at h
      · rename_i hk
        subst hk
        rcases scalarP_eq hsc with ⟨k2, e⟩ | e
        · have heq := run_equalIn_int (P := P) w d f.type k k2 x y e
          split at h
          · rename_i hxy
            subst hxy
            simp [Op.eqFields, hne, hpx, hpy, heq, rec_ _ _ _ _ t hx hy h]
          · rename_i hxy
            injection h with h; subst h
            have : (x == y) = false := by simpa using hxy
            simp [Op.eqFields, hne, hpx, hpy, heq, this]
        · rw [e] at e0; simp at e0
      · simp at h
    · rename_i ks x r y s e0
      simp only [List.cons.injEq] at e0
      obtain ⟨e0, rfl⟩ := e0
      obtain ⟨v, hv1, hv2⟩ := hx 0 _ rfl
      obtain ⟨u, hu1, hu2⟩ := hy 0 _ rfl
      obtain rfl := hv2.inv_v
      obtain rfl := hu2.inv_v
      have hpx : (part f.type xs.toArray f.offset).run P w = .ok (.bool x) w := by
        have : xs[f.offset]? = some (.bool x) := by rw [ho]; simpa using hv1
        simp [part, hagg, this]
      have hpy : (part f.type ys.toArray f.offset).run P w = .ok (.bool y) w := by
        have : ys[f.offset]? = some (.bool y) := by rw [ho]; simpa using hu1
        simp [part, hagg, this]
      rcases scalarP_eq hsc with ⟨k2, e⟩ | e
      · rw [e] at e0; simp at e0
      · have heq := run_equalIn_bool' (P := P) w d f.type x y e
        split at h
        · rename_i hxy
          subst hxy
          simp [Op.eqFields, hne, hpx, hpy, heq, rec_ _ _ _ _ t hx hy h]
        · rename_i hxy
          injection h with h; subst h
          have : (x == y) = false := by simpa using hxy
          simp [Op.eqFields, hne, hpx, hpy, heq, this]
    · simp at h
theorem mapM_run {α β : Type} (g : α → Sem β) (h : α → β) (w : World) : ∀ l : List α, (∀ a ∈ l, (g a).run P w = .ok (h a) w) → (l.mapM g).run P w = .ok (l.map h) w
  | [], _ => by simp
  | a :: l, hl => by
    have ih := mapM_run g h w l (fun b hb => hl b (List.mem_cons_of_mem _ hb))
    simp only [List.mapM_cons, Sem.run_bind, hl a List.mem_cons_self, Result.andThen_ok, ih, Sem.run_pure, List.map_cons]
theorem places_run (fs : Array Field) (h : (fs.toList.all fun f => (sizeP P f.type).isSome) = true) (w : World) :
    (fs.mapM (m := Sem) fun f => do pure (f.offset, ← sizeOf f.type)).run P w = .ok (fs.map fun f => (f.offset, (sizeP P f.type).getD 0)) w := by
  rw [Array.mapM_eq_mapM_toList, Sem.run_map, mapM_run (P := P) _ (fun f => (f.offset, (sizeP P f.type).getD 0)) w]
  · simp only [Result.andThen_ok, List.map_toArray, ← Array.toList_map, Array.toArray_toList]
  · intro f hf
    obtain ⟨n, hn⟩ := Option.isSome_iff_exists.1 (List.all_eq_true.1 h f hf)
    simp [sizeP_run hn w, hn]
theorem compParts_rel {ρc : Operand → Value} {ρa : Opd → Option AV} (hρ : ∀ x y a, compOpd x = some y → ρa y = some a → VR F w a (ρc x)) (fs : Array Field) : ∀ {ps : List (Nat × Operand)} {l : List (Nat × Nat × Opd)} {as : List (Nat × Nat × AV)}, compParts P fs ps = some l → opdParts ρa l = some as →
    as.length = ps.length ∧ ∀ (i : Nat) (p : Nat × Nat × AV) (q : Nat × Value), as[i]? = some p → (ps.map fun (i, x) => (i, ρc x))[i]? = some q → (fs.map fun f => (f.offset, (sizeP P f.type).getD 0))[q.1]? = some (p.1, p.2.1) ∧ VR F w p.2.2 q.2
  | [], l, as, h, ha => by
    simp [compParts] at h; subst h; simp [opdParts] at ha; subst ha; simp
  | (i, x) :: ps, l, as, h, ha => by
    simp only [compParts, Option.bind_eq_some_iff] at h
    obtain ⟨f, hf, n, hn, y, hy, l', hl', e⟩ := h
    injection e with e; subst e
    simp only [opdParts, Option.bind_eq_some_iff] at ha
    obtain ⟨a, ha, as', has, e⟩ := ha
    injection e with e; subst e
    obtain ⟨h1, h2⟩ := compParts_rel hρ fs hl' has
    refine ⟨by simp [h1], fun j p q hp hq => ?_⟩
    match j with
    | 0 =>
      simp at hp hq; subst hp; subst hq
      exact ⟨by simp [hf, hn], hρ _ _ _ hy ha⟩
    | j + 1 => simp at hp hq; exact h2 j p q hp (by simpa using hq)
theorem build_sound {ρc : Operand → Value} {ρa : Opd → Option AV} (hρ : ∀ x y a, compOpd x = some y → ρa y = some a → VR F w a (ρc x)) {t : TypeId} {fs : Array Field} (ht : P.underlying t = some (.struct fs)) {i : TypeInfo} (hi : P.info? t = some i) {z : Array Value} (hz : i.zero = some (.agg z))
    (hall : (fs.toList.all fun f => (sizeP P f.type).isSome) = true) {parts : Array (Nat × Operand)} {l : List (Nat × Nat × Opd)} (hl : compParts P fs parts.toList = some l) {as : List (Nat × Nat × AV)} (ha : opdParts ρa l = some as) {cs : List AV} (hc : fillVal (z.toList.map .v) as = some cs) :
    ∃ v, (Instr.build t (parts.map fun (i, x) => (i, ρc x))).run P w = .ok v w ∧ VR F w (.agg cs) v := by
  obtain ⟨h1, h2⟩ := compParts_rel hρ fs hl ha
  have hz0 : CR F w (z.toList.map .v) z := ⟨by simp, fun i a v ha hv => by
    rw [List.getElem?_map] at ha
    have e : z.toList[i]? = some v := by simpa using hv
    rw [e] at ha; simp at ha; subst ha; exact .v _⟩
  obtain ⟨arr, e1, e2⟩ := fillVal_sound (F := F) (w := w) (fun q => (fs.map fun f => (f.offset, (sizeP P f.type).getD 0))[q]?) as (parts.toList.map fun (i, x) => (i, ρc x)) _ _ z hc hz0 (by simp [h1]) h2
  refine ⟨.agg arr, ?_, ?_⟩
  · have e3 : (parts.map fun (i, x) => (i, ρc x)).toList = parts.toList.map fun (i, x) => (i, ρc x) := by simp
    simp only [Instr.build, Sem.run_bind, zeroValue, typeInfo, run_program, Result.andThen_ok, hi, Sem.run_pure, hz, run_underlying ht, places_run fs hall w, Value.cells, e3, e1]
  · obtain ⟨vs, rfl⟩ : ∃ vs : List Value, arr = vs.toArray := ⟨arr.toList, by simp⟩
    exact .agg _ _ (by simpa using e2.1) (fun i x y hx hy => e2.2 i x y hx (by simpa using hy))
end Go.Proofs.Ytjnencdmejhmjaa.Eng
