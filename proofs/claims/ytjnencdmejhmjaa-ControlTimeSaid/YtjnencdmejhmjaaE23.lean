/- ENGINE, part 23: the row: what a law's argument reads, as an abstract value. -/
import Derived.Test.YtjnencdmejhmjaaE22
import Derived.ChangeArms
import Derived.ChangeOld
import Derived.DataReads
import Derived.DataElems
import Derived.Below
namespace Go.Proofs.Ytjnencdmejhmjaa.Eng
open Go Go.RowKit
set_option linter.unusedSimpArgs false
set_option linter.unusedVariables false
variable {H : Type} {enc : TypeId × Value → H} {P : Program} {W : World}
/-- the blocks that stand when the law is called -/
def Old (W : World) : Nat → Prop := fun c => c < W.heap.size
/-- cells of a value, one by one -/
def RC (W : World) (as : List AV) (cs : List Value) : Prop := as.length = cs.length ∧ as.all AV.leaf = true ∧ ∀ (j : Nat) (y : AV) (v : Value), as[j]? = some y → cs[j]? = some v → VR (Old W) W y v
/-- what reads as data of the type is an abstract value of this kind -/
def Opens (enc : TypeId × Value → H) (P : Program) (W : World) (t : TypeId) (sz : Nat) {α : Type} (g : α → List AV) (ok : α → Prop) : Prop :=
  ∀ (fuel : Nat) (cs : List Value) (x : DataW H × List MemPlace), DataW.trod enc P W 0 (fun _ => true) true fuel t cs = some x → ∃ z : α, ok z ∧ RC W (g z) cs ∧ (g z).length = sz
theorem RC.one {y : AV} {v : Value} (h : VR (Old W) W y v) (hl : y.leaf = true) : RC W [y] [v] := by
  refine ⟨rfl, by simp [hl], fun j y' v' hy hv => ?_⟩
  match j with
  | 0 => simp at hy hv; subst hy; subst hv; exact h
  | j + 1 => simp at hy
theorem Opens.int {t : TypeId} (ht : P.underlying t = some (.int .i64)) : Opens enc P W t 1 (fun n : Int => [.i n]) (fun n => -9223372036854775808 ≤ n ∧ n ≤ 9223372036854775807) := by
  intro fuel cs x h
  obtain ⟨n, rfl, _, hw⟩ := DataW.trod_int ht h
  refine ⟨n, ?_, RC.one (.v _) rfl, rfl⟩
  simp only [Lit.wf, Bool.and_eq_true, decide_eq_true_eq] at hw
  simp [IntKind.min, IntKind.max, IntKind.signed, IntKind.bits] at hw
  omega
theorem Opens.bool {t : TypeId} (ht : P.underlying t = some .bool) : Opens enc P W t 1 (fun b : Bool => [.b b]) (fun _ => True) := by
  intro fuel cs x h
  obtain ⟨b, rfl, _⟩ := DataW.trod_bool ht h
  exact ⟨b, trivial, RC.one (.v _) rfl, rfl⟩
theorem Opens.slice {t e : TypeId} {sz : Nat} {α : Type} {g : α → List AV} {ok : α → Prop} (ae : α → AV) (hae : ∀ z, (ae z).cells = g z) (ht : P.underlying t = some (.slice e)) (hsz : P.cellsOf e = sz) (hpos : 0 < sz) (h : Opens enc P W e sz g ok) :
    Opens enc P W t 1 (fun zs : List α => [.fz sz (zs.map ae)]) (fun zs => (∀ z ∈ zs, ok z) ∧ zs.length ≤ 9223372036854775807) := by
  intro fuel cs x hx
  rcases DataW.trod_slice ht hx with ⟨rfl, _⟩ | ⟨a, len, cap, elems, rest, n, _, rfl, _, _, hl, hm, hlen, hel, _, _⟩
  · exact ⟨[], ⟨by simp, by simp⟩, RC.one (.fznil sz) rfl, rfl⟩
  · rw [hsz] at hel
    have each : ∀ i, i < len → ∃ z : α, ∃ vs : List Value, ok z ∧ RC W (g z) vs ∧ (g z).length = sz ∧ W.cells? 0 (a.add (i * sz)) sz = some vs := by
      intro i hi
      have h1 := hel i hi
      have h2 : elems[i]? = some elems[i] := by simp
      rw [h2] at h1
      obtain ⟨vs, h3, h4⟩ := Option.bind_eq_some_iff.1 h1
      obtain ⟨z, q1, q2, q3⟩ := h n vs _ h4
      exact ⟨z, vs, q1, q2, q3, h3⟩
    have build : ∀ k, k ≤ len → ∃ (zs : List α) (vss : List (List Value)), zs.length = k ∧ vss.length = k ∧ ∀ i, i < k → ∃ z vs, zs[i]? = some z ∧ vss[i]? = some vs ∧ ok z ∧ RC W (g z) vs ∧ (g z).length = sz ∧ W.cells? 0 (a.add (i * sz)) sz = some vs := by
      intro k
      induction k with
      | zero => intro _; exact ⟨[], [], rfl, rfl, fun i hi => by omega⟩
      | succ k ih =>
        intro hk
        obtain ⟨zs, vss, l1, l2, hz⟩ := ih (by omega)
        obtain ⟨z, vs, q⟩ := each k (by omega)
        refine ⟨zs ++ [z], vss ++ [vs], by simp [l1], by simp [l2], fun i hi => ?_⟩
        by_cases e : i < k
        · obtain ⟨z', vs', r1, r2, r3⟩ := hz i e
          exact ⟨z', vs', by rw [List.getElem?_append_left (by omega)]; exact r1, by rw [List.getElem?_append_left (by omega)]; exact r2, r3⟩
        · have : i = k := by omega
          subst this
          exact ⟨z, vs, by rw [List.getElem?_append_right (by omega), l1]; simp, by rw [List.getElem?_append_right (by omega), l2]; simp, q⟩
    obtain ⟨zs, vss, l1, l2, hz⟩ := build len (Nat.le_refl _)
    subst l1
    have cell : ∀ (i : Nat) (x : AV) (j : Nat) (y : AV), (zs.map ae)[i]? = some x → x.cells[j]? = some y → (x.cells.length = sz ∧ x.cells.all AV.leaf = true) ∧ ∃ v, a.block < W.heap.size ∧ W.cell? (a.add (i * sz + j)) = some v ∧ VR (Old W) W y v := by
      intro i x j y hx hy
      have hi : i < zs.length := by have := (List.getElem?_eq_some_iff.1 hx).1; simpa using this
      obtain ⟨z, vs, r1, r2, r3, r4, r5, r6⟩ := hz i hi
      rw [List.getElem?_map, r1] at hx
      simp only [Option.map_some, Option.some.injEq] at hx
      subst hx
      rw [hae] at hy ⊢
      obtain ⟨s1, s2, s3⟩ := r4
      refine ⟨⟨r5, s2⟩, ?_⟩
      have hj : j < sz := by rw [← r5]; exact (List.getElem?_eq_some_iff.1 hy).1
      obtain ⟨t1, t2, t3⟩ := World.cells?_some r6
      have hv : vs[j]? = some vs[j] := by simp
      have hb : (a.add (i * sz)).block = a.block := by unfold Addr.add; split <;> rfl
      have hblk := World.cells?_block r6 hpos
      rw [hb] at hblk
      refine ⟨vs[j], hblk, ?_, s3 j y _ hy hv⟩
      have h9 := t3 j hj
      rw [hv] at h9
      rw [Addr.add_add] at h9
      exact h9
    have hfz := VR.fz (F := Old W) (w := W) sz (zs.map ae) a cap (fun i j => (W.cell? (a.add (i * sz + j))).getD undef) (by simpa using hl) hm (fun i x hx => ?_) (fun i x j y hx hy => ?_) (fun i x j y hx hy => ?_)
    · refine ⟨zs, ⟨fun z hz' => ?_, Nat.le_trans hl (Nat.le_trans hm (Nat.le_of_eq rfl))⟩, RC.one (by simpa using hfz) rfl, rfl⟩
      obtain ⟨i, hi, rfl⟩ := List.getElem_of_mem hz'
      obtain ⟨z, vs, r1, _, r3, _⟩ := hz i hi
      have : zs[i] = z := by simpa [hi] using r1
      rw [this]; exact r3
    · have hi : i < zs.length := by have := (List.getElem?_eq_some_iff.1 hx).1; simpa using this
      obtain ⟨z, vs, r1, r2, r3, r4, r5, r6⟩ := hz i hi
      rw [List.getElem?_map, r1] at hx
      simp only [Option.map_some, Option.some.injEq] at hx
      subst hx
      rw [hae]
      exact ⟨r5, r4.2.1⟩
    · obtain ⟨_, v, h1, h2, _⟩ := cell i x j y hx hy
      exact ⟨h1, by rw [h2]; rfl⟩
    · obtain ⟨_, v, h1, h2, h3⟩ := cell i x j y hx hy
      rw [h2]; exact h3
/-! ### structs of one-cell fields -/
theorem RC.cells {ys : List AV} {cs : List Value} (hl : cs.length = ys.length) (h : ∀ (i : Nat) (y : AV), ys[i]? = some y → RC W [y] ((cs.drop i).take 1)) : RC W ys cs := by
  refine ⟨hl.symm, ?_, fun j y v hy hv => ?_⟩
  · rw [List.all_eq_true]
    intro y hy
    obtain ⟨i, hi, rfl⟩ := List.getElem_of_mem hy
    have := (h i ys[i] (by simp)).2.1
    simpa using this
  · have h1 := (h j y hy).2.2 0 y v rfl
    refine h1 ?_
    rw [List.getElem?_take]
    simp [hv]
def F1 (enc : TypeId × Value → H) (P : Program) (W : World) (fs : Array Field) (i : Nat) {α : Type} (y : α → AV) (ok : α → Prop) : Prop := ∃ f, fs[i]? = some f ∧ f.offset = i ∧ P.cellsOf f.type = 1 ∧ Opens enc P W f.type 1 (fun z => [y z]) ok
theorem F1.get {fs : Array Field} {i : Nat} {α : Type} {y : α → AV} {ok : α → Prop} (h : F1 enc P W fs i y ok) {cs : List Value} {n : Nat} {xs : List (DataW H × List MemPlace)} (hx : xs.length = fs.size) (hf : ∀ (i : Nat) (f : Field), fs[i]? = some f → DataW.trod enc P W 0 (fun _ => true) true n f.type ((cs.drop f.offset).take (P.cellsOf f.type)) = xs[i]?) : ∃ z, ok z ∧ RC W [y z] ((cs.drop i).take 1) := by
  obtain ⟨f, h1, h2, h3, h4⟩ := h
  have h5 := hf i f h1
  have hi : i < xs.length := by rw [hx]; exact (Array.getElem?_eq_some_iff.1 h1).1
  rw [h2, h3, List.getElem?_eq_getElem hi] at h5
  obtain ⟨z, q1, q2, _⟩ := h4 n _ _ h5
  exact ⟨z, q1, q2⟩
theorem Opens.struct2 {t : TypeId} {fs : Array Field} {α β : Type} {y0 : α → AV} {y1 : β → AV} {o0 : α → Prop} {o1 : β → Prop} (ht : P.underlying t = some (.struct fs)) (hc : P.cellsOf t = 2) (h0 : F1 enc P W fs 0 y0 o0) (h1 : F1 enc P W fs 1 y1 o1) :
    Opens enc P W t 2 (fun z : α × β => [y0 z.1, y1 z.2]) (fun z => o0 z.1 ∧ o1 z.2) := by
  intro fuel cs x hx
  obtain ⟨xs, n, _, _, hl, hlen, hf⟩ := DataW.trod_struct ht hx
  obtain ⟨z0, a0, b0⟩ := h0.get hlen hf
  obtain ⟨z1, a1, b1⟩ := h1.get hlen hf
  refine ⟨(z0, z1), ⟨a0, a1⟩, RC.cells (by rw [hl, hc]; rfl) fun i y hy => ?_, rfl⟩
  match i with
  | 0 => simp at hy; subst hy; exact b0
  | 1 => simp at hy; subst hy; exact b1
  | i + 2 => simp at hy
theorem Opens.struct3 {t : TypeId} {fs : Array Field} {α β γ : Type} {y0 : α → AV} {y1 : β → AV} {y2 : γ → AV} {o0 : α → Prop} {o1 : β → Prop} {o2 : γ → Prop} (ht : P.underlying t = some (.struct fs)) (hc : P.cellsOf t = 3) (h0 : F1 enc P W fs 0 y0 o0) (h1 : F1 enc P W fs 1 y1 o1) (h2 : F1 enc P W fs 2 y2 o2) :
    Opens enc P W t 3 (fun z : α × β × γ => [y0 z.1, y1 z.2.1, y2 z.2.2]) (fun z => o0 z.1 ∧ o1 z.2.1 ∧ o2 z.2.2) := by
  intro fuel cs x hx
  obtain ⟨xs, n, _, _, hl, hlen, hf⟩ := DataW.trod_struct ht hx
  obtain ⟨z0, a0, b0⟩ := h0.get hlen hf
  obtain ⟨z1, a1, b1⟩ := h1.get hlen hf
  obtain ⟨z2, a2, b2⟩ := h2.get hlen hf
  refine ⟨(z0, z1, z2), ⟨a0, a1, a2⟩, RC.cells (by rw [hl, hc]; rfl) fun i y hy => ?_, rfl⟩
  match i with
  | 0 => simp at hy; subst hy; exact b0
  | 1 => simp at hy; subst hy; exact b1
  | 2 => simp at hy; subst hy; exact b2
  | i + 3 => simp at hy
theorem Opens.struct4 {t : TypeId} {fs : Array Field} {α β γ δ : Type} {y0 : α → AV} {y1 : β → AV} {y2 : γ → AV} {y3 : δ → AV} {o0 : α → Prop} {o1 : β → Prop} {o2 : γ → Prop} {o3 : δ → Prop} (ht : P.underlying t = some (.struct fs)) (hc : P.cellsOf t = 4) (h0 : F1 enc P W fs 0 y0 o0) (h1 : F1 enc P W fs 1 y1 o1) (h2 : F1 enc P W fs 2 y2 o2) (h3 : F1 enc P W fs 3 y3 o3) :
    Opens enc P W t 4 (fun z : α × β × γ × δ => [y0 z.1, y1 z.2.1, y2 z.2.2.1, y3 z.2.2.2]) (fun z => o0 z.1 ∧ o1 z.2.1 ∧ o2 z.2.2.1 ∧ o3 z.2.2.2) := by
  intro fuel cs x hx
  obtain ⟨xs, n, _, _, hl, hlen, hf⟩ := DataW.trod_struct ht hx
  obtain ⟨z0, a0, b0⟩ := h0.get hlen hf
  obtain ⟨z1, a1, b1⟩ := h1.get hlen hf
  obtain ⟨z2, a2, b2⟩ := h2.get hlen hf
  obtain ⟨z3, a3, b3⟩ := h3.get hlen hf
  refine ⟨(z0, z1, z2, z3), ⟨a0, a1, a2, a3⟩, RC.cells (by rw [hl, hc]; rfl) fun i y hy => ?_, rfl⟩
  match i with
  | 0 => simp at hy; subst hy; exact b0
  | 1 => simp at hy; subst hy; exact b1
  | 2 => simp at hy; subst hy; exact b2
  | 3 => simp at hy; subst hy; exact b3
  | i + 4 => simp at hy
end Go.Proofs.Ytjnencdmejhmjaa.Eng
