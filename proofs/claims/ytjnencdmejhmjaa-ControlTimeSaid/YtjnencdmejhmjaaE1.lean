/- ENGINE, part 1: abstract values, how they stand in a world, steps of the world. Written for this claim's session; no kit's file. -/
import Derived.Calls
import Derived.Below
import Derived.Laws.CopyRow
import Derived.Laws.Cells
import Derived.KernelRfl
namespace Go.Proofs.Ytjnencdmejhmjaa.Eng
open Go Go.RowKit

/-- Where a piece of the function's own memory lies: a block, from which cell on; 'vir': nowhere (nil, or nothing that could be written). -/
structure Loc where
  blk : Nat
  base : Nat
  vir : Bool
  deriving DecidableEq
/-- Abstract values: plain ones; structs (their cells); tuples; slices that nobody writes (by their elements); slices, pointers and maps of the function's own memory (by a label); pointers to what nobody writes; closures. -/
inductive AV where
  | v (x : Value)
  | agg (cs : List AV)
  | tup (vs : List AV)
  | fz (sz : Nat) (xs : List AV)
  | ref (h : Nat) (a : Loc) (sz off n : Nat)
  | ptr (h : Nat) (a : Loc) (sz i f : Nat)
  | fptr (cs : List AV)
  | fn (f : Nat) (caps : List AV)
  | mp (h : Nat) (a : Loc)
  deriving Inhabited
abbrev AV.i (n : Int) : AV := .v (.int .i64 n)
abbrev AV.b (b : Bool) : AV := .v (.bool b)
def AV.cells : AV → List AV
  | .agg cs => cs
  | x => [x]
def AV.ofV : Value → AV
  | .agg cs => .agg (cs.toList.map .v)
  | .tuple vs => .tup (vs.toList.map .v)
  | x => .v x
/-- The cells of one cell's value: what may be stored in one. -/
def AV.leaf : AV → Bool
  | .v (.agg _) | .v (.tuple _) | .agg _ | .tup _ => false
  | _ => true

def AV.ok : AV → Bool
  | .agg _ => true
  | x => x.leaf

inductive VR (F : Nat → Prop) (w : World) : AV → Value → Prop
  | v (x : Value) : VR F w (.v x) x
  | agg (cs : List AV) (vs : List Value) : cs.length = vs.length → (∀ (i : Nat) (x : AV) (y : Value), cs[i]? = some x → vs[i]? = some y → VR F w x y) → VR F w (.agg cs) (.agg vs.toArray)
  | tup (cs : List AV) (vs : List Value) : cs.length = vs.length → (∀ (i : Nat) (x : AV) (y : Value), cs[i]? = some x → vs[i]? = some y → VR F w x y) → VR F w (.tup cs) (.tuple vs.toArray)
  | fz (sz : Nat) (xs : List AV) (A : Addr) (cap : Nat) (g : Nat → Nat → Value) : xs.length ≤ cap → cap ≤ 9223372036854775807 → (∀ (i : Nat) (x : AV), xs[i]? = some x → x.cells.length = sz ∧ x.cells.all AV.leaf = true) →
      (∀ (i : Nat) (x : AV) (j : Nat) (y : AV), xs[i]? = some x → x.cells[j]? = some y → F A.block ∧ w.cell? (A.add (i * sz + j)) = some (g i j)) →
      (∀ (i : Nat) (x : AV) (j : Nat) (y : AV), xs[i]? = some x → x.cells[j]? = some y → VR F w y (g i j)) → VR F w (.fz sz xs) (.slice (some A) xs.length cap)
  | fznil (sz : Nat) : VR F w (.fz sz []) (.slice none 0 0)
  | ref (h : Nat) (a : Loc) (sz off n cap : Nat) (cs : Array Value) (t : TypeId) : a.vir = false → n ≤ cap → cap ≤ 9223372036854775807 → w.heap[a.blk]? = some (.cells cs t (0, 0)) → a.base + (off + cap) * sz ≤ cs.size →
      VR F w (.ref h a sz off n) (.slice (some ⟨a.blk, a.base + off * sz, none⟩) n cap)
  | refz (h : Nat) (a : Loc) (sz off : Nat) (A : Addr) : VR F w (.ref h a sz off 0) (.slice (some A) 0 0)
  | refnil (h : Nat) (a : Loc) (sz off : Nat) : VR F w (.ref h a sz off 0) (.slice none 0 0)
  | ptr (h : Nat) (a : Loc) (sz i f : Nat) : VR F w (.ptr h a sz i f) (.pointer (some ⟨a.blk, a.base + i * sz + f, none⟩))
  | fptr (cs : List AV) (A : Addr) (g : Nat → Value) : (∀ (j : Nat) (y : AV), cs[j]? = some y → F A.block ∧ w.cell? (A.add j) = some (g j)) → (∀ (j : Nat) (y : AV), cs[j]? = some y → VR F w y (g j)) → VR F w (.fptr cs) (.pointer (some A))
  | fn (f : Nat) (caps : List AV) (vs : List Value) : caps.length = vs.length → (∀ (i : Nat) (x : AV) (y : Value), caps[i]? = some x → vs[i]? = some y → VR F w x y) → VR F w (.fn f caps) (.func (.func f) #[] vs.toArray)
  | mp (h : Nat) (a : Loc) : VR F w (.mp h a) (.map (some a.blk))

/-- What a step leaves as it was: the blocks of S; each row of cells keeps its type, marks and length. -/
structure Ext (S : Nat → Prop) (w w' : World) : Prop where
  os : w'.os = w.os
  tape : w'.tape = w.tape
  output : w'.output = w.output
  size : w.heap.size ≤ w'.heap.size
  keep : ∀ c : Nat, S c → c < w.heap.size → w'.heap[c]? = w.heap[c]?
  shape : ∀ (c : Nat) (cs : Array Value) (t : TypeId) (fr : Nat × Nat), w.heap[c]? = some (.cells cs t fr) → ∃ cs' : Array Value, w'.heap[c]? = some (.cells cs' t fr) ∧ cs'.size = cs.size
theorem Ext.refl (S : Nat → Prop) (w : World) : Ext S w w := ⟨rfl, rfl, rfl, Nat.le_refl _, fun _ _ _ => rfl, fun _ cs _ _ h => ⟨cs, h, rfl⟩⟩
theorem Ext.trans {S : Nat → Prop} {a b c : World} (h : Ext S a b) (k : Ext S b c) : Ext S a c :=
  ⟨k.os.trans h.os, k.tape.trans h.tape, k.output.trans h.output, Nat.le_trans h.size k.size, fun i hi hl => (k.keep i hi (Nat.lt_of_lt_of_le hl h.size)).trans (h.keep i hi hl),
   fun i cs t fr hc => by
    obtain ⟨cs1, h1, e1⟩ := h.shape i cs t fr hc
    obtain ⟨cs2, h2, e2⟩ := k.shape i cs1 t fr h1
    exact ⟨cs2, h2, e2.trans e1⟩⟩
theorem Ext.mono {S S' : Nat → Prop} {a b : World} (h : Ext S a b) (hs : ∀ c, S' c → S c) : Ext S' a b := ⟨h.os, h.tape, h.output, h.size, fun c hc => h.keep c (hs c hc), h.shape⟩
theorem Ext.alloc (S : Nat → Prop) (w : World) (o : Obj) : Ext S w (w.alloc o) := by
  refine ⟨rfl, rfl, rfl, by simp, fun c _ hl => Below.heap_alloc w o c hl, fun c cs t fr h => ⟨cs, ?_, rfl⟩⟩
  have hl : c < w.heap.size := (Array.getElem?_eq_some_iff.1 h).1
  rw [Below.heap_alloc w o c hl]; exact h
theorem Ext.drew (S : Nat → Prop) (w : World) : Ext S w w.drew := ⟨rfl, rfl, rfl, Nat.le_refl _, fun _ _ _ => rfl, fun _ cs _ _ h => ⟨cs, h, rfl⟩⟩

theorem cell_of_heap {w w' : World} {a : Addr} (h : w'.heap[a.block]? = w.heap[a.block]?) : w'.cell? a = w.cell? a := by
  unfold World.cell?; rw [h]
theorem VR.step {F F' : Nat → Prop} {w w' : World} {x : AV} {v : Value} (h : VR F w x v) (hF : ∀ c, F c → F' c) (hl : ∀ c, F c → c < w.heap.size) (he : Ext F w w') : VR F' w' x v := by
  induction h with
  | v x => exact .v x
  | agg cs vs hl _ ih => exact .agg cs vs hl ih
  | tup cs vs hl _ ih => exact .tup cs vs hl ih
  | fz sz xs A cap g h1 h2 h3 h4 _ ih =>
    refine .fz sz xs A cap g h1 h2 h3 (fun i x j y hx hy => ?_) ih
    obtain ⟨hf, hc⟩ := h4 i x j y hx hy
    refine ⟨hF _ hf, ?_⟩
    have hb : (A.add (i * sz + j)).block = A.block := by unfold Addr.add; split <;> rfl
    exact (cell_of_heap (w := w) (w' := w') (by rw [hb]; exact he.keep _ hf (hl _ hf))).trans hc
  | fznil sz => exact .fznil sz
  | ref h a sz off n cap cs t h0 h1 h2 h3 h4 =>
    obtain ⟨cs', h5, h6⟩ := he.shape _ _ _ _ h3
    exact .ref h a sz off n cap cs' t h0 h1 h2 h5 (by rw [h6]; exact h4)
  | refnil h a sz off => exact .refnil h a sz off
  | refz h a sz off A => exact .refz h a sz off A
  | ptr h a sz i f => exact .ptr h a sz i f
  | fptr cs A g h1 _ ih =>
    refine .fptr cs A g (fun j y hy => ?_) ih
    obtain ⟨hf, hc⟩ := h1 j y hy
    refine ⟨hF _ hf, ?_⟩
    have hb : (A.add j).block = A.block := by unfold Addr.add; split <;> rfl
    exact (cell_of_heap (w := w) (w' := w') (by rw [hb]; exact he.keep _ hf (hl _ hf))).trans hc
  | fn f caps vs hl _ ih => exact .fn f caps vs hl ih
  | mp h a => exact .mp h a
theorem VR.ofV (F : Nat → Prop) (w : World) (x : Value) : VR F w (AV.ofV x) x := by
  unfold AV.ofV
  split
  · rename_i cs
    have h := VR.agg (F := F) (w := w) (cs.toList.map .v) cs.toList (by simp) (fun i x y hx hy => by
      rw [List.getElem?_map, hy] at hx
      simp at hx; subst hx; exact .v _)
    simpa using h
  · rename_i cs
    have h := VR.tup (F := F) (w := w) (cs.toList.map .v) cs.toList (by simp) (fun i x y hx hy => by
      rw [List.getElem?_map, hy] at hx
      simp at hx; subst hx; exact .v _)
    simpa using h
  · exact .v _
theorem VR.cells_one {F : Nat → Prop} {w : World} {x : AV} {v : Value} (h : VR F w x v) (hl : x.leaf = true) : x.cells = [x] ∧ v.cells = #[v] := by
  cases h with
  | v => cases v <;> first | exact ⟨rfl, rfl⟩ | simp [AV.leaf] at hl
  | agg | tup => simp [AV.leaf] at hl
  | _ => exact ⟨rfl, rfl⟩
/-- The cells of a value are related one by one. -/
theorem VR.cellsOf {F : Nat → Prop} {w : World} {x : AV} {v : Value} (h : VR F w x v) (hv : x.leaf = true ∨ ∃ cs, x = .agg cs) : x.cells.length = v.cells.size ∧ ∀ (j : Nat) (y : AV), x.cells[j]? = some y → ∃ u, v.cells[j]? = some u ∧ VR F w y u := by
  rcases hv with hv | ⟨cs, rfl⟩
  · obtain ⟨e1, e2⟩ := h.cells_one hv
    rw [e1, e2]
    refine ⟨rfl, fun j y hy => ?_⟩
    match j with
    | 0 => simp at hy; subst hy; exact ⟨v, rfl, h⟩
    | j + 1 => simp at hy
  · cases h with
    | agg _ vs hl hr =>
      refine ⟨by simp [AV.cells, Value.cells, hl], fun j y hy => ?_⟩
      simp only [AV.cells] at hy
      have hj : j < vs.length := by rw [← hl]; exact (List.getElem?_eq_some_iff.1 hy).1
      exact ⟨vs[j], by simp [Value.cells, hj], hr j y _ hy (by simp [hj])⟩
theorem VR.oneCell {F : Nat → Prop} {w : World} {x : AV} {v : Value} (h : VR F w x v) (hl : x.leaf = true) : v.oneCell' = true := by
  cases h with
  | v => cases v <;> first | rfl | simp [AV.leaf] at hl
  | agg | tup => simp [AV.leaf] at hl
  | _ => rfl
end Go.Proofs.Ytjnencdmejhmjaa.Eng
