/- ENGINE, part 4: the operations that only read give what part 3 says. -/
import Derived.Test.YtjnencdmejhmjaaE3
import Derived.Laws.StructEq
namespace Go.Proofs.Ytjnencdmejhmjaa.Eng
open Go Go.RowKit
set_option linter.unusedSimpArgs false
set_option linter.unusedVariables false
variable {P : Program} {F : Nat → Prop} {w : World}

theorem VR.inv_v {x y : Value} (h : VR F w (.v x) y) : y = x := by cases h; rfl
theorem VR.inv_agg {cs : List AV} {y : Value} (h : VR F w (.agg cs) y) : ∃ vs : List Value, y = .agg vs.toArray ∧ cs.length = vs.length ∧ ∀ (i : Nat) (a : AV) (b : Value), cs[i]? = some a → vs[i]? = some b → VR F w a b := by
  cases h with
  | agg _ vs h1 h2 => exact ⟨vs, rfl, h1, h2⟩
theorem VR.inv_tup {cs : List AV} {y : Value} (h : VR F w (.tup cs) y) : ∃ vs : List Value, y = .tuple vs.toArray ∧ cs.length = vs.length ∧ ∀ (i : Nat) (a : AV) (b : Value), cs[i]? = some a → vs[i]? = some b → VR F w a b := by
  cases h with
  | tup _ vs h1 h2 => exact ⟨vs, rfl, h1, h2⟩
theorem sizeP_run {t : TypeId} {n : Nat} (h : sizeP P t = some n) (w : World) : (sizeOf t).run P w = .ok n w := by
  unfold sizeP at h
  obtain ⟨i, hi, e⟩ := Option.map_eq_some_iff.1 h
  simp [sizeOf, typeInfo, hi, e]
theorem shapeP_agg {t : TypeId} {n : Option Nat} (h : shapeP P t = some n) (w : World) : (isAgg t).run P w = .ok n.isSome w ∧ ∀ m, n = some m → (sizeOf t).run P w = .ok m w := by
  unfold shapeP at h
  cases hu : P.underlying t with
  | none => rw [hu] at h; simp at h
  | some d =>
    rw [hu] at h
    cases d with
    | struct fs =>
      simp only [Option.bind_eq_some_iff] at h
      obtain ⟨m, hm, e⟩ := h
      injection e with e; subst e
      exact ⟨by simp [isAgg, run_underlying hu], fun m' e => by injection e with e; subst e; exact sizeP_run hm w⟩
    | array k e =>
      simp only [Option.bind_eq_some_iff] at h
      obtain ⟨m, hm, e⟩ := h
      injection e with e; subst e
      exact ⟨by simp [isAgg, run_underlying hu], fun m' e => by injection e with e; subst e; exact sizeP_run hm w⟩
    | _ => injection h with h; subst h; exact ⟨by simp [isAgg, run_underlying hu], fun m' e => by simp at e⟩
theorem scalarP_eq {t : TypeId} (h : scalarP P t = true) : (∃ k, P.underlying t = some (.int k)) ∨ P.underlying t = some .bool := by
  unfold scalarP at h
  split at h
  · exact .inl ⟨_, by assumption⟩
  · exact .inr (by assumption)
  · simp at h
theorem add_assoc' (A : Addr) (m n : Nat) : (A.add m).add n = A.add (m + n) := by
  unfold Addr.add
  by_cases h1 : m = 0
  · subst h1; simp
  · by_cases h2 : n = 0
    · subst h2; simp [h1]
    · simp [h1, h2]; omega
/-- Reading a piece of the cells at an address. -/
theorem load_sound {t : TypeId} {n : Option Nat} (hs : shapeP P t = some n) {A : Addr} {cs : List AV} {off : Nat} {r : AV} (hc : cutCells cs off n = some r)
    (h : ∀ (j : Nat) (y : AV), cs[off + j]? = some y → ∃ v, w.cell? (A.add j) = some v ∧ VR F w y v) :
    ∃ v, (loadVar t A).run P w = .ok v w ∧ VR F w r v := by
  obtain ⟨ha, hz⟩ := shapeP_agg hs w
  cases n with
  | none =>
    obtain ⟨v, h1, h2⟩ := h 0 r (by simpa [cutCells] using hc)
    refine ⟨v, ?_, h2⟩
    have h1' : w.cell? A = some v := by simpa [Addr.add] using h1
    simp [loadVar, ha, h1']
  | some m =>
    have hz := hz m rfl
    simp only [cutCells] at hc
    split at hc
    · rename_i hle
      injection hc with hc; subst hc
      have hex : ∀ j, j < m → ∃ v, w.cell? (A.add j) = some v ∧ ∀ y, cs[off + j]? = some y → VR F w y v := by
        intro j hj
        have hlt : off + j < cs.length := by omega
        obtain ⟨v, h1, h2⟩ := h j cs[off + j] (by simp [hlt])
        exact ⟨v, h1, fun y hy => by simp [hlt] at hy; subst hy; exact h2⟩
      let g : Nat → Value := fun j => if hj : j < m then (hex j hj).choose else undef
      have hg : ∀ j, j < m → w.cell? (A.add j) = some (g j) ∧ ∀ y, cs[off + j]? = some y → VR F w y (g j) := by
        intro j hj
        simp only [g, hj, dif_pos]
        exact (hex j hj).choose_spec
      refine ⟨.agg ((List.range m).map g).toArray, ?_, ?_⟩
      · have := run_loadCells (P := P) w A m g (fun j hj => (hg j hj).1)
        simp [loadVar, ha, hz, this]
      · refine .agg _ _ (by simp; omega) (fun i x y hx hy => ?_)
        have hi : i < m := by
          rcases Nat.lt_or_ge i m with h | h
          · exact h
          · rw [List.getElem?_eq_none (by simp; omega)] at hy; simp at hy
        rw [List.getElem?_take, if_pos hi, List.getElem?_drop] at hx
        simp [hi] at hy
        subst hy
        exact (hg i hi).2 x hx
    · simp at hc
theorem part_sound {t : TypeId} {n : Option Nat} (hs : shapeP P t = some n) {cs : List AV} {vs : List Value} {off : Nat} {r : AV} (hl : cs.length = vs.length) (hc : cutCells cs off n = some r)
    (h : ∀ (i : Nat) (a : AV) (b : Value), cs[i]? = some a → vs[i]? = some b → VR F w a b) :
    ∃ v, (part t vs.toArray off).run P w = .ok v w ∧ VR F w r v := by
  obtain ⟨ha, hz⟩ := shapeP_agg hs w
  cases n with
  | none =>
    simp only [cutCells] at hc
    have hlt : off < vs.length := by rw [← hl]; exact (List.getElem?_eq_some_iff.1 hc).1
    refine ⟨vs[off], ?_, h off r _ hc (by simp [hlt])⟩
    simp [part, ha, hlt]
  | some m =>
    have hz := hz m rfl
    simp only [cutCells] at hc
    split at hc
    · rename_i hle
      injection hc with hc; subst hc
      have e : vs.toArray.extract off (off + m) = ((vs.drop off).take m).toArray := by
        apply Array.ext'
        simp
      refine ⟨.agg ((vs.drop off).take m).toArray, ?_, ?_⟩
      · simp only [part, Sem.run_bind, ha, Result.andThen_ok, Option.isSome_some, if_true, hz, Sem.run_pure, e]
      · refine .agg _ _ (by simp; omega) (fun i x y hx hy => ?_)
        rw [List.getElem?_take] at hx hy
        split at hx
        · rename_i hi
          rw [if_pos hi] at hy
          rw [List.getElem?_drop] at hx hy
          exact h _ _ _ hx hy
        · simp at hx
    · simp at hc
theorem intBin_sound {o : BinOp} {k : IntKind} {a b : Int} {r : AV} (h : intBin o k a b = some r) (t : TypeId) (w : World) : ∃ v, (binOp o t (.int k a) (.int k b)).run P w = .ok v w ∧ VR F w r v := by
  cases o <;> simp only [intBin] at h <;> first
    | (simp at h; done)
    | (injection h with h; subst h; refine ⟨_, ?_, .v _⟩; simp [binOp, Op.intArith, Op.intBits, Op.intCmp, Op.intDiv]; done)
    | (split at h
       · simp at h
       · rename_i hb; injection h with h; subst h; refine ⟨_, ?_, .v _⟩; simp [binOp, Op.intDiv, hb])
theorem binVal_sound {o : BinOp} {x y r : AV} {u v : Value} (h : binVal o x y = some r) (hx : VR F w x u) (hy : VR F w y v) (t : TypeId) (X Y : Operand) :
    ∃ z, (do eqGuard o t X Y u v; binOp o t u v : Sem Value).run P w = .ok z w ∧ VR F w r z := by
  unfold binVal at h
  split at h
  · rename_i k a k' b
    obtain rfl := hx.inv_v
    obtain rfl := hy.inv_v
    simp only [eqGuard_at_int, pure_bind]
    split at h
    · split at h
      · simp at h
      · rename_i hb; injection h with h; subst h; refine ⟨_, ?_, .v _⟩; simp [binOp, Op.shift, hb]
    · split at h
      · simp at h
      · rename_i hb; injection h with h; subst h; refine ⟨_, ?_, .v _⟩; simp [binOp, Op.shift, hb]
    · split at h
      · rename_i e; subst e; exact intBin_sound h t w
      · simp at h
  · simp at h
theorem boolVal_sound {neg : Bool} {x y r : AV} {u v : Value} (h : boolVal neg x y = some r) (hx : VR F w x u) (hy : VR F w y v) (t : TypeId) (ht : P.underlying t = some .bool) (X Y : Operand) :
    ∃ z, (do eqGuard (if neg then .neq else .eql) t X Y u v; binOp (if neg then .neq else .eql) t u v : Sem Value).run P w = .ok z w ∧ VR F w r z := by
  unfold boolVal at h
  split at h
  · rename_i a b
    obtain rfl := hx.inv_v
    obtain rfl := hy.inv_v
    injection h with h; subst h
    simp only [eqGuard_at_bool, pure_bind]
    cases neg
    · refine ⟨_, ?_, .v _⟩; simp [binOp, Op.equal, Op.maxDepth, run_equalIn_bool' w _ t a b ht]
    · refine ⟨_, ?_, .v _⟩; simp [binOp, Op.equal, Op.maxDepth, run_equalIn_bool' w _ t a b ht]
  · simp at h
theorem unVal_sound {o : UnOp} {x r : AV} {u : Value} (h : unVal o x = some r) (hx : VR F w x u) : ∃ z, (Op.unary o u).run P w = .ok z w ∧ VR F w r z := by
  unfold unVal at h
  split at h
  · obtain rfl := hx.inv_v
    injection h with h; subst h; refine ⟨_, ?_, .v _⟩; simp [Op.unary, Op.intArith]
  · obtain rfl := hx.inv_v
    injection h with h; subst h; refine ⟨_, ?_, .v _⟩; simp [Op.unary]
  · simp at h
theorem lenVal_sound {x r : AV} {u : Value} (h : lenVal x = some r) (hx : VR F w x u) (t ty : TypeId) {e : TypeId} (ht : P.underlying t = some (.slice e)) : ∃ z, (Builtin.len_ #[t] ty #[u]).run P w = .ok z w ∧ VR F w r z := by
  unfold lenVal at h
  split at h
  · injection h with h; subst h
    cases hx with
    | fz sz xs A cap g h1 h2 h3 h4 h5 => exact ⟨_, by simp [Builtin.len_, run_underlying ht, goInt], .v _⟩
    | fznil sz => exact ⟨_, by simp [Builtin.len_, run_underlying ht, goInt], .v _⟩
  · injection h with h; subst h
    cases hx <;> exact ⟨_, by simp [Builtin.len_, run_underlying ht, goInt], .v _⟩
  · obtain rfl := hx.inv_v
    injection h with h; subst h
    exact ⟨_, by simp [Builtin.len_, run_underlying ht, goInt], .v _⟩
  · simp at h
theorem iaddrVal_sound {sz : Nat} {x i r : AV} {u j : Value} (h : iaddrVal sz x i = some r) (hx : VR F w x u) (hi : VR F w i j) (t : TypeId) {e : TypeId} (ht : P.underlying t = some (.slice e)) (hs : sizeP P e = some sz) :
    ∃ z, (Instr.indexAt t u j).run P w = .ok z w ∧ VR F w r z := by
  have hz := sizeP_run hs w
  unfold iaddrVal at h
  split at h
  · rename_i sz' xs k j'
    obtain rfl := hi.inv_v
    split at h
    · rename_i hc
      obtain ⟨hj, rfl⟩ := hc
      split at h
      · rename_i x' hx'
        injection h with h; subst h
        have hlt : j'.toNat < xs.length := (List.getElem?_eq_some_iff.1 hx').1
        cases hx with
        | fz _ _ A cap g h1 h2 h3 h4 h5 =>
          refine ⟨.pointer (some (A.add (j'.toNat * sz'))), ?_, ?_⟩
          · have hb : 0 ≤ j' ∧ j' < (xs.length : Int) := ⟨hj, by omega⟩
            simp [Instr.indexAt, asIntOf, run_underlying ht, hb, hz]
          · refine .fptr _ _ (fun m => g j'.toNat m) (fun m y hy => ?_) (fun m y hy => h5 _ _ _ _ hx' hy)
            obtain ⟨hf, hcell⟩ := h4 _ _ _ _ hx' hy
            refine ⟨?_, by rw [add_assoc']; exact hcell⟩
            have : (A.add (j'.toNat * sz')).block = A.block := by unfold Addr.add; split <;> rfl
            rw [this]; exact hf
        | fznil => simp at hlt
      · simp at h
    · simp at h
  · rename_i hh a sz' off n k j'
    obtain rfl := hi.inv_v
    split at h
    · rename_i hc
      obtain ⟨hj, hjn, rfl⟩ := hc
      injection h with h; subst h
      cases hx with
      | ref _ _ _ _ _ cap cs ty h0 h1 h2 h3 h4 =>
        refine ⟨_, ?_, .ptr _ _ _ _ _⟩
        have hb : 0 ≤ j' ∧ j' < (n : Int) := ⟨hj, hjn⟩
        have e : (⟨a.blk, a.base + off * sz', none⟩ : Addr).add (j'.toNat * sz') = ⟨a.blk, a.base + (off + j'.toNat) * sz' + 0, none⟩ := by
          rw [Addr.add_lit, Nat.add_mul]; simp [Nat.add_assoc]
        simp [Instr.indexAt, asIntOf, run_underlying ht, hb, hz, e]
      | refz => simp at hjn; omega
      | refnil => simp at hjn; omega
    · simp at h
  · simp at h
theorem faddrVal_sound {off : Nat} {x r : AV} {u : Value} (h : faddrVal off x = some r) (hx : VR F w x u) (s : TypeId) (f : Nat) {fs : Array Field} (hs : P.underlying s = some (.struct fs)) {g : Field} (hf : fs[f]? = some g) {n : Nat} (hn : sizeP P g.type = some n) (h0 : n ≠ 0) (ho : g.offset = off) :
    ∃ z, (Instr.fieldAt s u f).run P w = .ok z w ∧ VR F w r z := by
  have hz := sizeP_run hn w
  subst ho
  unfold faddrVal at h
  split at h
  · injection h with h; subst h
    cases hx
    refine ⟨_, ?_, .ptr _ _ _ _ _⟩
    simp [Instr.fieldAt, run_underlying hs, hf, Instr.sureAddr, fieldPlace, hz, h0, Addr.add_lit, Nat.add_assoc]
  · injection h with h; subst h
    cases hx with
    | fptr cs A g' h1 h2 =>
      refine ⟨.pointer (some (A.add g.offset)), ?_, ?_⟩
      · simp [Instr.fieldAt, run_underlying hs, hf, Instr.sureAddr, fieldPlace, hz, h0]
      · refine .fptr _ _ (fun j => g' (g.offset + j)) (fun j y hy => ?_) (fun j y hy => h2 _ _ (by simpa [List.getElem?_drop] using hy))
        rw [List.getElem?_drop] at hy
        obtain ⟨hF, hc⟩ := h1 _ _ hy
        refine ⟨?_, by rw [add_assoc']; exact hc⟩
        have : (A.add g.offset).block = A.block := by unfold Addr.add; split <;> rfl
        rw [this]; exact hF
  · simp at h
theorem loadVal_sound {n : Option Nat} {H : Heap} {x r : AV} {u : Value} {Keep : Nat → Prop} (hH : HeapOK Keep F w H) (h : loadVal n H x = some r) (hx : VR F w x u) (t : TypeId) (hs : shapeP P t = some n) :
    ∃ z, (Instr.loadAt t u).run P w = .ok z w ∧ VR F w r z := by
  unfold loadVal at h
  split at h
  · cases hx with
    | fptr cs A g h1 h2 =>
      obtain ⟨v, e1, e2⟩ := load_sound (P := P) (F := F) (w := w) hs (A := A) h (fun j y hy => by
        rw [Nat.zero_add] at hy
        exact ⟨g j, (h1 j y hy).2, h2 j y hy⟩)
      exact ⟨v, by simpa [Instr.loadAt, Instr.sureAddr] using e1, e2⟩
  · rename_i hh a sz i f
    split at h
    · rename_i a' sz' els hg
      split at h
      · rename_i hc
        obtain ⟨rfl, rfl⟩ := hc
        split at h
        · rename_i e he
          cases hx
          have hb := hH.blk _ (Heap.get_mem hg)
          simp only [BlkOK] at hb
          split at hb
          · subst hb; simp at he
          · obtain ⟨cs, ty, h1, h2⟩ := hb
            obtain ⟨h3, h4⟩ := h2 i e he
            obtain ⟨v, e1, e2⟩ := load_sound (P := P) (F := F) (w := w) hs (A := ⟨a.blk, a.base + i * sz + f, none⟩) h (fun j y hy => by
              obtain ⟨v, h5, h6⟩ := h4 _ _ hy
              refine ⟨v, ?_, h6⟩
              rw [Addr.add_lit]
              simp only [World.cell?, h1]
              simpa [Nat.add_assoc] using h5)
            exact ⟨v, by simpa [Instr.loadAt, Instr.sureAddr] using e1, e2⟩
        · simp at h
      · simp at h
    · simp at h
  · simp at h
end Go.Proofs.Ytjnencdmejhmjaa.Eng
