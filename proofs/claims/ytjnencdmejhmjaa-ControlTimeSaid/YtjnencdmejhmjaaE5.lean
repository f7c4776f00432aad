/- ENGINE, part 5: slices of slices, least and greatest, structs laid together, equality of structs; the sum of parts 3 and 4. -/
import Derived.Test.YtjnencdmejhmjaaE4
namespace Go.Proofs.Ytjnencdmejhmjaa.Eng
open Go Go.RowKit
set_option linter.unusedSimpArgs false
set_option linter.unusedVariables false
variable {P : Program} {F : Nat → Prop} {w : World}

theorem optOpd_rel {ρc : Operand → Value} {ρa : Opd → Option AV} (hρ : ∀ x y a, compOpd x = some y → ρa y = some a → VR F w a (ρc x)) {x : Option Operand} {y : Option Opd} {a : Option AV} (h : compOpt x = some y) (ha : optOpd ρa y = some a) :
    (a = none ∧ x.map ρc = none) ∨ ∃ b v, a = some b ∧ x.map ρc = some v ∧ VR F w b v := by
  cases x with
  | none => simp [compOpt] at h; subst h; simp [optOpd] at ha; exact .inl ⟨ha.symm, rfl⟩
  | some x =>
    simp only [compOpt, Option.bind_eq_some_iff] at h
    obtain ⟨z, hz, e⟩ := h
    injection e with e; subst e
    simp only [optOpd, Option.bind_eq_some_iff] at ha
    obtain ⟨b, hb, e⟩ := ha
    injection e with e; subst e
    exact .inr ⟨b, ρc x, rfl, rfl, hρ _ _ _ hz hb⟩
def bnd (d : Nat) : Option AV → Option Nat
  | none => some d
  | some (.v (.int _ l)) => if 0 ≤ l then some l.toNat else none
  | _ => none
theorem sliceVal_fz (sz : Nat) (lo hi : Option AV) (sz' : Nat) (xs : List AV) : sliceVal sz lo hi (.fz sz' xs) = (bnd 0 lo).bind fun l => (bnd xs.length hi).bind fun h => if l ≤ h ∧ h ≤ xs.length ∧ sz' = sz then some (.fz sz ((xs.take h).drop l)) else none := by
  simp only [sliceVal]
  split
  · rename_i l h h1 h2
    rw [show bnd 0 lo = some l from h1, show bnd xs.length hi = some h from h2]; rfl
  · rename_i hn
    cases e1 : bnd 0 lo with
    | none => rfl
    | some l =>
      cases e2 : bnd xs.length hi with
      | none => rfl
      | some h => exact absurd e2 (hn l h e1)
theorem sliceVal_ref (sz : Nat) (lo hi : Option AV) (hh : Nat) (a : Loc) (sz' off n : Nat) : sliceVal sz lo hi (.ref hh a sz' off n) = (bnd 0 lo).bind fun l => (bnd n hi).bind fun h => if l ≤ h ∧ h ≤ n ∧ sz' = sz then some (.ref hh a sz (off + l) (h - l)) else none := by
  simp only [sliceVal]
  split
  · rename_i l h h1 h2
    rw [show bnd 0 lo = some l from h1, show bnd n hi = some h from h2]; rfl
  · rename_i hn
    cases e1 : bnd 0 lo with
    | none => rfl
    | some l =>
      cases e2 : bnd n hi with
      | none => rfl
      | some h => exact absurd e2 (hn l h e1)
theorem bnd_run {d : Nat} {a : Option AV} {x : Option Value} (h : (a = none ∧ x = none) ∨ ∃ b v, a = some b ∧ x = some v ∧ VR F w b v) {l : Nat} (hb : bnd d a = some l) :
    (x = none ∧ l = d) ∨ ∃ k, x = some (.int k (l : Int)) := by
  rcases h with ⟨rfl, rfl⟩ | ⟨b, v, rfl, rfl, hv⟩
  · simp [bnd] at hb; exact .inl ⟨rfl, hb.symm⟩
  · unfold bnd at hb
    split at hb
    · simp at *
    · rename_i e; injection e with e; subst e
      obtain rfl := hv.inv_v
      split at hb
      · injection hb with hb; subst hb
        rename_i k _ hp
        exact .inr ⟨k, by rw [Int.toNat_of_nonneg hp]⟩
      · simp at hb
    · simp at hb
theorem bounds_run {len cap l h : Nat} {x y : Option Value} (hx : (x = none ∧ l = 0) ∨ ∃ k, x = some (.int k (l : Int))) (hy : (y = none ∧ h = len) ∨ ∃ k, y = some (.int k (h : Int))) (h1 : l ≤ h) (h2 : h ≤ len) (h3 : len ≤ cap) (w : World) :
    (Instr.sliceBounds true len cap x y none).run P w = .ok (l, h, cap) w := by
  rcases hx with ⟨rfl, rfl⟩ | ⟨k, rfl⟩ <;> rcases hy with ⟨rfl, rfl⟩ | ⟨k', rfl⟩
  · simp [Instr.sliceBounds]
  · simp [Instr.sliceBounds, Instr.sliceBound, asIntOf, show h ≤ cap by omega]
  · simp [Instr.sliceBounds, Instr.sliceBound, asIntOf, h1]
  · simp [Instr.sliceBounds, Instr.sliceBound, asIntOf, h1, show h ≤ cap by omega]
theorem sliceVal_sound {sz : Nat} {lo hi : Option AV} {x r : AV} {u : Value} {vl vh : Option Value} (h : sliceVal sz lo hi x = some r) (hx : VR F w x u)
    (hl : (lo = none ∧ vl = none) ∨ ∃ b v, lo = some b ∧ vl = some v ∧ VR F w b v) (hh : (hi = none ∧ vh = none) ∨ ∃ b v, hi = some b ∧ vh = some v ∧ VR F w b v)
    (t : TypeId) {e : TypeId} (ht : P.underlying t = some (.slice e)) (hs : sizeP P e = some sz) (h0 : sz ≠ 0) :
    ∃ z, (Instr.sliceAt t u vl vh none).run P w = .ok z w ∧ VR F w r z := by
  have hz := sizeP_run hs w
  have hS : Instr.sliceAt t u vl vh none = Instr.sliceAt t u vl vh none := rfl
  have hrun : ∀ A n cap l hh', (Instr.sliceBounds true n cap vl vh none).run P w = .ok (l, hh', cap) w → (Instr.sliceAt t (.slice A n cap) vl vh none).run P w = .ok (.slice (if cap = l then A else A.map (·.add (l * sz))) (hh' - l) (cap - l)) w := by
    intro A n cap l hh' hb
    simp [Instr.sliceAt, Instr.slice, run_underlying ht, hb, hz]
  cases x with
  | fz sz' xs =>
    rw [sliceVal_fz] at h
    simp only [Option.bind_eq_some_iff] at h
    obtain ⟨l, hl1, hh', hh1, h⟩ := h
    split at h
    · rename_i hc
      obtain ⟨c1, c2, rfl⟩ := hc
      injection h with h; subst h
      cases hx with
      | fz _ _ A cap g h1 h2 h3 h4 h5 =>
        have hb := bounds_run (P := P) (bnd_run hl hl1) (bnd_run hh hh1) c1 c2 h1 w
        refine ⟨_, hrun _ _ _ _ _ hb, ?_⟩
        have hlen : ((xs.take hh').drop l).length = hh' - l := by simp; omega
        by_cases hcap : cap = l
        · rw [if_pos hcap]
          have : (xs.take hh').drop l = [] := by apply List.eq_nil_of_length_eq_zero; omega
          rw [this]
          have e1 : hh' - l = ([] : List AV).length := by simp; omega
          rw [e1]
          exact .fz _ _ _ _ (fun _ _ => undef) (by simp) (by omega) (by simp) (by simp) (by simp)
        · rw [if_neg hcap, ← hlen]
          have idx : ∀ i x, ((xs.take hh').drop l)[i]? = some x → xs[l + i]? = some x := by
            intro i x hx
            rw [List.getElem?_drop, List.getElem?_take] at hx
            split at hx
            · exact hx
            · simp at hx
          have hblk : (A.add (l * sz')).block = A.block := by unfold Addr.add; split <;> rfl
          refine .fz _ _ _ _ (fun i j => g (l + i) j) (by rw [hlen]; omega) (by omega) (fun i x hx => h3 _ _ (idx i x hx)) (fun i x j y hx hy => ?_) (fun i x j y hx hy => h5 _ _ _ _ (idx i x hx) hy)
          obtain ⟨q1, q2⟩ := h4 _ _ _ _ (idx i x hx) hy
          refine ⟨by rw [hblk]; exact q1, ?_⟩
          rw [add_assoc', ← q2]
          congr 2
          rw [Nat.add_mul, Nat.add_assoc]
      | fznil =>
        have c2' : hh' = 0 := by simpa using c2
        subst c2'
        have c1' : l = 0 := by omega
        subst c1'
        have hb := bounds_run (P := P) (len := 0) (cap := 0) (bnd_run hl hl1) (bnd_run hh hh1) (Nat.le_refl _) (Nat.le_refl _) (Nat.le_refl _) w
        exact ⟨_, hrun _ _ _ _ _ hb, by simpa using VR.fznil sz'⟩
    · simp at h
  | ref hq a sz' off n =>
    rw [sliceVal_ref] at h
    simp only [Option.bind_eq_some_iff] at h
    obtain ⟨l, hl1, hh', hh1, h⟩ := h
    split at h
    · rename_i hc
      obtain ⟨c1, c2, rfl⟩ := hc
      injection h with h; subst h
      cases hx with
      | ref _ _ _ _ _ cap cs ty q0 q1 q2 q3 q4 =>
        have hb := bounds_run (P := P) (bnd_run hl hl1) (bnd_run hh hh1) c1 c2 q1 w
        refine ⟨_, hrun _ _ _ _ _ hb, ?_⟩
        by_cases hcap : cap = l
        · rw [if_pos hcap]
          have e1 : hh' - l = 0 := by omega
          have e2 : cap - l = 0 := by omega
          rw [e1, e2]
          exact .refz _ _ _ _ _
        · rw [if_neg hcap]
          have e1 : (⟨a.blk, a.base + off * sz', none⟩ : Addr).add (l * sz') = ⟨a.blk, a.base + (off + l) * sz', none⟩ := by
            rw [Addr.add_lit, Nat.add_mul]; simp [Nat.add_assoc]
          simp only [Option.map_some, e1]
          refine .ref _ _ _ _ _ _ cs ty q0 (by omega) (by omega) q3 ?_
          have e3 : off + l + (cap - l) = off + cap := by omega
          rw [e3]; exact q4
      | refz _ _ _ _ A =>
        have e1 : hh' = 0 := by omega
        have e2 : l = 0 := by omega
        subst e1; subst e2
        have hb := bounds_run (P := P) (len := 0) (cap := 0) (bnd_run hl hl1) (bnd_run hh hh1) (Nat.le_refl _) (Nat.le_refl _) (Nat.le_refl _) w
        exact ⟨_, hrun _ _ _ _ _ hb, by simpa using VR.refz hq a sz' off A⟩
      | refnil =>
        have e1 : hh' = 0 := by omega
        have e2 : l = 0 := by omega
        subst e1; subst e2
        have hb := bounds_run (P := P) (len := 0) (cap := 0) (bnd_run hl hl1) (bnd_run hh hh1) (Nat.le_refl _) (Nat.le_refl _) (Nat.le_refl _) w
        exact ⟨_, hrun _ _ _ _ _ hb, by simpa using VR.refnil hq a sz' off⟩
    · simp at h
  | _ => simp [sliceVal] at h

theorem opds_rel {ρc : Operand → Value} {ρa : Opd → Option AV} (hρ : ∀ x y a, compOpd x = some y → ρa y = some a → VR F w a (ρc x)) : ∀ {xs : List Operand} {ys : List Opd} {as : List AV}, compOpds xs = some ys → opds ρa ys = some as →
    as.length = xs.length ∧ ∀ (i : Nat) (a : AV) (v : Value), as[i]? = some a → (xs.map ρc)[i]? = some v → VR F w a v
  | [], ys, as, h, ha => by
    simp [compOpds] at h; subst h; simp [opds] at ha; subst ha; simp
  | x :: xs, ys, as, h, ha => by
    simp only [compOpds, Option.bind_eq_some_iff] at h
    obtain ⟨y, hy, ys', hys, e⟩ := h
    injection e with e; subst e
    simp only [opds, Option.bind_eq_some_iff] at ha
    obtain ⟨a, ha, as', has, e⟩ := ha
    injection e with e; subst e
    obtain ⟨h1, h2⟩ := opds_rel hρ hys has
    refine ⟨by simp [h1], fun i b v hb hv => ?_⟩
    match i with
    | 0 => simp at hb hv; subst hb; subst hv; exact hρ _ _ _ hy ha
    | i + 1 => simp at hb hv; exact h2 i b v hb (by simpa using hv)
theorem minVal_sound : ∀ (l : List AV) (vs : List Value) (k : IntKind) (x : Int) (r : AV), minVal (.v (.int k x)) l = some r → l.length = vs.length → (∀ (i : Nat) (a : AV) (v : Value), l[i]? = some a → vs[i]? = some v → VR F w a v) → ∃ z, (vs.foldlM Builtin.min2 (.int k x)).run P w = .ok z w ∧ VR F w r z
  | [], [], k, x, r, h, _, _ => by simp [minVal] at h; subst h; exact ⟨_, by simp, .v _⟩
  | a :: l, v :: vs, k, x, r, h, hl, hr => by
    have h0 := hr 0 a v rfl rfl
    unfold minVal at h
    split at h
    · simp at *
    · rename_i k2 x2 k3 y rest e1 e2
      injection e1 with e1; injection e1 with e1 e1'; subst e1; subst e1'
      simp only [List.cons.injEq] at e2
      obtain ⟨rfl, rfl⟩ := e2
      obtain rfl := h0.inv_v
      obtain ⟨z, hz1, hz2⟩ := minVal_sound l vs k _ r h (by simpa using hl) (fun i a v ha hv => hr (i + 1) a v (by simpa using ha) (by simpa using hv))
      exact ⟨z, by simpa [List.foldlM_cons, Builtin.min2] using hz1, hz2⟩
    · simp at h
theorem maxVal_sound : ∀ (l : List AV) (vs : List Value) (k : IntKind) (x : Int) (r : AV), maxVal (.v (.int k x)) l = some r → l.length = vs.length → (∀ (i : Nat) (a : AV) (v : Value), l[i]? = some a → vs[i]? = some v → VR F w a v) → ∃ z, (vs.foldlM Builtin.max2 (.int k x)).run P w = .ok z w ∧ VR F w r z
  | [], [], k, x, r, h, _, _ => by simp [maxVal] at h; subst h; exact ⟨_, by simp, .v _⟩
  | a :: l, v :: vs, k, x, r, h, hl, hr => by
    have h0 := hr 0 a v rfl rfl
    unfold maxVal at h
    split at h
    · simp at *
    · rename_i k2 x2 k3 y rest e1 e2
      injection e1 with e1; injection e1 with e1 e1'; subst e1; subst e1'
      simp only [List.cons.injEq] at e2
      obtain ⟨rfl, rfl⟩ := e2
      obtain rfl := h0.inv_v
      obtain ⟨z, hz1, hz2⟩ := maxVal_sound l vs k _ r h (by simpa using hl) (fun i a v ha hv => hr (i + 1) a v (by simpa using ha) (by simpa using hv))
      exact ⟨z, by simpa [List.foldlM_cons, Builtin.max2] using hz1, hz2⟩
    · simp at h
/-- cells one by one -/
def CR (F : Nat → Prop) (w : World) (cs : List AV) (vs : Array Value) : Prop := cs.length = vs.size ∧ ∀ (i : Nat) (a : AV) (v : Value), cs[i]? = some a → vs[i]? = some v → VR F w a v
theorem foldSet (off : Nat) : ∀ (vs : List Value) (k : Nat) (arr : Array Value), off + k + vs.length ≤ arr.size →
    ((vs.zipIdx k).foldl (fun (cs : Array Value) (p : Value × Nat) => cs.setIfInBounds (off + p.2) p.1) arr).size = arr.size ∧
    ∀ i : Nat, ((vs.zipIdx k).foldl (fun (cs : Array Value) (p : Value × Nat) => cs.setIfInBounds (off + p.2) p.1) arr)[i]? = if off + k ≤ i ∧ i < off + k + vs.length then vs[i - (off + k)]? else arr[i]?
  | [], k, arr, _ => by
    refine ⟨rfl, fun i => ?_⟩
    simp only [List.zipIdx_nil, List.foldl_nil, List.length_nil, Nat.add_zero]
    rw [if_neg (by omega)]
  | v :: vs, k, arr, h => by
    simp only [List.length_cons] at h
    obtain ⟨h1, h2⟩ := foldSet off vs (k + 1) (arr.setIfInBounds (off + k) v) (by simp; omega)
    refine ⟨by simpa using h1, fun i => ?_⟩
    simp only [List.zipIdx_cons, List.foldl_cons]
    rw [h2 i]
    simp only [List.length_cons]
    by_cases e : i = off + k
    · subst e
      rw [if_neg (by omega), if_pos ⟨Nat.le_refl _, by omega⟩]
      simp only [Nat.sub_self, List.getElem?_cons_zero]
      rw [Array.getElem?_setIfInBounds, if_pos rfl, if_pos (by omega)]
    · by_cases c : off + (k + 1) ≤ i ∧ i < off + (k + 1) + vs.length
      · rw [if_pos c, if_pos ⟨by omega, by omega⟩]
        have : i - (off + k) = (i - (off + (k + 1))) + 1 := by omega
        rw [this, List.getElem?_cons_succ]
      · rw [if_neg c, if_neg (by omega), Array.getElem?_setIfInBounds, if_neg (fun h => e h.symm)]
theorem splice_rel {cs xs : List AV} {arr : Array Value} {vs : List Value} {off : Nat} (h : CR F w cs arr) (hl : xs.length = vs.length) (hx : ∀ (i : Nat) (a : AV) (v : Value), xs[i]? = some a → vs[i]? = some v → VR F w a v) (hle : off + vs.length ≤ cs.length) :
    CR F w (cs.take off ++ xs ++ cs.drop (off + vs.length)) ((vs.zipIdx 0).foldl (fun (cs : Array Value) (p : Value × Nat) => cs.setIfInBounds (off + p.2) p.1) arr) := by
  obtain ⟨h1, h2⟩ := h
  obtain ⟨f1, f2⟩ := foldSet off vs 0 arr (by omega)
  refine ⟨by rw [f1]; simp; omega, fun i a v ha hv => ?_⟩
  rw [f2] at hv
  simp only [Nat.add_zero] at hv
  by_cases c : i < off
  · rw [if_neg (by omega)] at hv
    rw [List.append_assoc, List.getElem?_append_left (by simp; omega), List.getElem?_take, if_pos c] at ha
    exact h2 i a v ha hv
  · by_cases c2 : i < off + vs.length
    · rw [if_pos ⟨by omega, c2⟩] at hv
      rw [List.append_assoc, List.getElem?_append_right (by simp; omega), List.getElem?_append_left (by simp; omega)] at ha
      have e : (cs.take off).length = off := by simp; omega
      rw [e] at ha
      exact hx _ a v ha hv
    · rw [if_neg (by omega)] at hv
      rw [List.getElem?_append_right (by simp; omega), List.getElem?_drop] at ha
      have e : off + vs.length + (i - (cs.take off ++ xs).length) = i := by simp; omega
      rw [e] at ha
      exact h2 i a v ha hv
theorem fillVal_sound (place : Nat → Option (Nat × Nat)) : ∀ (l : List (Nat × Nat × AV)) (ps : List (Nat × Value)) (cs r : List AV) (arr : Array Value), fillVal cs l = some r → CR F w cs arr → l.length = ps.length →
    (∀ (i : Nat) (p : Nat × Nat × AV) (q : Nat × Value), l[i]? = some p → ps[i]? = some q → place q.1 = some (p.1, p.2.1) ∧ VR F w p.2.2 q.2) → ∃ arr', Instr.fill place arr ps = some arr' ∧ CR F w r arr'
  | [], [], cs, r, arr, h, hc, _, _ => by simp [fillVal] at h; subst h; exact ⟨arr, rfl, hc⟩
  | p :: l, q :: ps, cs, r, arr, h, hc, hl, hr => by
    obtain ⟨off, size, x⟩ := p
    obtain ⟨i, v⟩ := q
    obtain ⟨hp, hv⟩ := hr 0 (off, size, x) (i, v) rfl rfl
    simp only [fillVal] at h
    split at h
    · rename_i hle
      obtain ⟨hok, e1, e2⟩ := hle
      have hcell := hv.cellsOf (by
        cases x <;> first | exact .inr ⟨_, rfl⟩ | exact .inl hok)
      have hsz : v.cells.size = size := by rw [← hcell.1]; exact e1
      have hsp := splice_rel (xs := x.cells) (vs := v.cells.toList) (off := off) hc (by simpa using hcell.1) (fun i a u ha hu => by
        obtain ⟨u', h1, h2⟩ := hcell.2 i a ha
        have : u' = u := by
          have h3 : v.cells[i]? = some u := by simpa using hu
          rw [h1] at h3; injection h3
        subst this; exact h2) (by simpa [hsz] using e2)
      have e3 : v.cells.toList.length = size := by simpa using hsz
      rw [e3] at hsp
      obtain ⟨arr', h1, h2⟩ := fillVal_sound place l ps _ r _ h hsp (by simpa using hl) (fun i p q hp hq => hr (i + 1) p q (by simpa using hp) (by simpa using hq))
      refine ⟨arr', ?_, h2⟩
      have hcond : (decide (v.cells.size ≠ size) || decide (off + v.cells.size > arr.size)) = false := by
        have := hc.1; simp; omega
      simp only [Instr.fill, hp]
      rw [hcond]
      simp only [Bool.false_eq_true, if_false]
      rw [← h1]
      congr 1
      rw [← Array.foldl_toList, Array.toList_zipIdx]
    · simp at h
end Go.Proofs.Ytjnencdmejhmjaa.Eng
