/- ENGINE, first half: what a function's code does, said in abstract values; each law is proved of the model's own steps. -/
import Derived.Calls
import Derived.Below
import Derived.Laws.CopyRow
import Derived.Laws.Cells
import Derived.KernelRfl
import Derived.Laws.Entries
import Derived.Laws.StructEq
import Derived.Laws.AppendOwn
import Derived.IntWalk
namespace Go.Proofs.Ytjnencdmejhmjaa.Eng
open Go Go.RowKit

/-- Where a piece of the function's own memory lies: a block, from which cell on; 'vir': nowhere (nil, or nothing that could be written). -/
structure Loc where
  blk : Nat
  base : Nat
  vir : Bool
  deriving DecidableEq
/-- Abstract values: plain ones; structs (their cells); tuples; slices that nobody writes (by their elements); slices, pointers and maps of the function's own memory (by a label); pointers to what nobody writes; closures. -/
inductive AV where
  | v (x : Value)
  | agg (cs : List AV)
  | tup (vs : List AV)
  | fz (sz : Nat) (xs : List AV)
  | ref (h : Nat) (a : Loc) (sz off n : Nat)
  | ptr (h : Nat) (a : Loc) (sz i f : Nat)
  | fptr (cs : List AV)
  | fn (f : Nat) (caps : List AV)
  | mp (h : Nat) (a : Loc)
  deriving Inhabited
abbrev AV.i (n : Int) : AV := .v (.int .i64 n)
abbrev AV.b (b : Bool) : AV := .v (.bool b)
def AV.cells : AV → List AV
  | .agg cs => cs
  | x => [x]
def AV.ofV : Value → AV
  | .agg cs => .agg (cs.toList.map .v)
  | .tuple vs => .tup (vs.toList.map .v)
  | x => .v x
/-- The cells of one cell's value: what may be stored in one. -/
def AV.leaf : AV → Bool
  | .v (.agg _) | .v (.tuple _) | .agg _ | .tup _ => false
  | _ => true

def AV.ok : AV → Bool
  | .agg _ => true
  | x => x.leaf

inductive VR (F : Nat → Prop) (w : World) : AV → Value → Prop
  | v (x : Value) : VR F w (.v x) x
  | agg (cs : List AV) (vs : List Value) : cs.length = vs.length → (∀ (i : Nat) (x : AV) (y : Value), cs[i]? = some x → vs[i]? = some y → VR F w x y) → VR F w (.agg cs) (.agg vs.toArray)
  | tup (cs : List AV) (vs : List Value) : cs.length = vs.length → (∀ (i : Nat) (x : AV) (y : Value), cs[i]? = some x → vs[i]? = some y → VR F w x y) → VR F w (.tup cs) (.tuple vs.toArray)
  | fz (sz : Nat) (xs : List AV) (A : Addr) (cap : Nat) (g : Nat → Nat → Value) : xs.length ≤ cap → cap ≤ 9223372036854775807 → (∀ (i : Nat) (x : AV), xs[i]? = some x → x.cells.length = sz ∧ x.cells.all AV.leaf = true) →
      (∀ (i : Nat) (x : AV) (j : Nat) (y : AV), xs[i]? = some x → x.cells[j]? = some y → F A.block ∧ w.cell? (A.add (i * sz + j)) = some (g i j)) →
      (∀ (i : Nat) (x : AV) (j : Nat) (y : AV), xs[i]? = some x → x.cells[j]? = some y → VR F w y (g i j)) → VR F w (.fz sz xs) (.slice (some A) xs.length cap)
  | fznil (sz : Nat) : VR F w (.fz sz []) (.slice none 0 0)
  | ref (h : Nat) (a : Loc) (sz off n cap : Nat) (cs : Array Value) (t : TypeId) : a.vir = false → n ≤ cap → cap ≤ 9223372036854775807 → w.heap[a.blk]? = some (.cells cs t (0, 0)) → a.base + (off + cap) * sz ≤ cs.size →
      VR F w (.ref h a sz off n) (.slice (some ⟨a.blk, a.base + off * sz, none⟩) n cap)
  | refz (h : Nat) (a : Loc) (sz off : Nat) (A : Addr) : VR F w (.ref h a sz off 0) (.slice (some A) 0 0)
  | refnil (h : Nat) (a : Loc) (sz off : Nat) : VR F w (.ref h a sz off 0) (.slice none 0 0)
  | ptr (h : Nat) (a : Loc) (sz i f : Nat) : VR F w (.ptr h a sz i f) (.pointer (some ⟨a.blk, a.base + i * sz + f, none⟩))
  | fptr (cs : List AV) (A : Addr) (g : Nat → Value) : (∀ (j : Nat) (y : AV), cs[j]? = some y → F A.block ∧ w.cell? (A.add j) = some (g j)) → (∀ (j : Nat) (y : AV), cs[j]? = some y → VR F w y (g j)) → VR F w (.fptr cs) (.pointer (some A))
  | fn (f : Nat) (caps : List AV) (vs : List Value) : caps.length = vs.length → (∀ (i : Nat) (x : AV) (y : Value), caps[i]? = some x → vs[i]? = some y → VR F w x y) → VR F w (.fn f caps) (.func (.func f) #[] vs.toArray)
  | mp (h : Nat) (a : Loc) : VR F w (.mp h a) (.map (some a.blk))

/-- What a step leaves as it was: the blocks of S; each row of cells keeps its type, marks and length. -/
structure Ext (S : Nat → Prop) (w w' : World) : Prop where
  os : w'.os = w.os
  tape : w'.tape = w.tape
  output : w'.output = w.output
  size : w.heap.size ≤ w'.heap.size
  keep : ∀ c : Nat, S c → c < w.heap.size → w'.heap[c]? = w.heap[c]?
  shape : ∀ (c : Nat) (cs : Array Value) (t : TypeId) (fr : Nat × Nat), w.heap[c]? = some (.cells cs t fr) → ∃ cs' : Array Value, w'.heap[c]? = some (.cells cs' t fr) ∧ cs'.size = cs.size
theorem Ext.refl (S : Nat → Prop) (w : World) : Ext S w w := ⟨rfl, rfl, rfl, Nat.le_refl _, fun _ _ _ => rfl, fun _ cs _ _ h => ⟨cs, h, rfl⟩⟩
theorem Ext.trans {S : Nat → Prop} {a b c : World} (h : Ext S a b) (k : Ext S b c) : Ext S a c :=
  ⟨k.os.trans h.os, k.tape.trans h.tape, k.output.trans h.output, Nat.le_trans h.size k.size, fun i hi hl => (k.keep i hi (Nat.lt_of_lt_of_le hl h.size)).trans (h.keep i hi hl),
   fun i cs t fr hc => by
    obtain ⟨cs1, h1, e1⟩ := h.shape i cs t fr hc
    obtain ⟨cs2, h2, e2⟩ := k.shape i cs1 t fr h1
    exact ⟨cs2, h2, e2.trans e1⟩⟩
theorem Ext.mono {S S' : Nat → Prop} {a b : World} (h : Ext S a b) (hs : ∀ c, S' c → S c) : Ext S' a b := ⟨h.os, h.tape, h.output, h.size, fun c hc => h.keep c (hs c hc), h.shape⟩
theorem Ext.alloc (S : Nat → Prop) (w : World) (o : Obj) : Ext S w (w.alloc o) := by
  refine ⟨rfl, rfl, rfl, by simp, fun c _ hl => Below.heap_alloc w o c hl, fun c cs t fr h => ⟨cs, ?_, rfl⟩⟩
  have hl : c < w.heap.size := (Array.getElem?_eq_some_iff.1 h).1
  rw [Below.heap_alloc w o c hl]; exact h
theorem Ext.drew (S : Nat → Prop) (w : World) : Ext S w w.drew := ⟨rfl, rfl, rfl, Nat.le_refl _, fun _ _ _ => rfl, fun _ cs _ _ h => ⟨cs, h, rfl⟩⟩

theorem cell_of_heap {w w' : World} {a : Addr} (h : w'.heap[a.block]? = w.heap[a.block]?) : w'.cell? a = w.cell? a := by
  unfold World.cell?; rw [h]
theorem VR.step {F F' : Nat → Prop} {w w' : World} {x : AV} {v : Value} (h : VR F w x v) (hF : ∀ c, F c → F' c) (hl : ∀ c, F c → c < w.heap.size) (he : Ext F w w') : VR F' w' x v := by
  induction h with
  | v x => exact .v x
  | agg cs vs hl _ ih => exact .agg cs vs hl ih
  | tup cs vs hl _ ih => exact .tup cs vs hl ih
  | fz sz xs A cap g h1 h2 h3 h4 _ ih =>
    refine .fz sz xs A cap g h1 h2 h3 (fun i x j y hx hy => ?_) ih
    obtain ⟨hf, hc⟩ := h4 i x j y hx hy
    refine ⟨hF _ hf, ?_⟩
    have hb : (A.add (i * sz + j)).block = A.block := by unfold Addr.add; split <;> rfl
    exact (cell_of_heap (w := w) (w' := w') (by rw [hb]; exact he.keep _ hf (hl _ hf))).trans hc
  | fznil sz => exact .fznil sz
  | ref h a sz off n cap cs t h0 h1 h2 h3 h4 =>
    obtain ⟨cs', h5, h6⟩ := he.shape _ _ _ _ h3
    exact .ref h a sz off n cap cs' t h0 h1 h2 h5 (by rw [h6]; exact h4)
  | refnil h a sz off => exact .refnil h a sz off
  | refz h a sz off A => exact .refz h a sz off A
  | ptr h a sz i f => exact .ptr h a sz i f
  | fptr cs A g h1 _ ih =>
    refine .fptr cs A g (fun j y hy => ?_) ih
    obtain ⟨hf, hc⟩ := h1 j y hy
    refine ⟨hF _ hf, ?_⟩
    have hb : (A.add j).block = A.block := by unfold Addr.add; split <;> rfl
    exact (cell_of_heap (w := w) (w' := w') (by rw [hb]; exact he.keep _ hf (hl _ hf))).trans hc
  | fn f caps vs hl _ ih => exact .fn f caps vs hl ih
  | mp h a => exact .mp h a
theorem VR.ofV (F : Nat → Prop) (w : World) (x : Value) : VR F w (AV.ofV x) x := by
  unfold AV.ofV
  split
  · rename_i cs
    have h := VR.agg (F := F) (w := w) (cs.toList.map .v) cs.toList (by simp) (fun i x y hx hy => by
      rw [List.getElem?_map, hy] at hx
      simp at hx; subst hx; exact .v _)
    simpa using h
  · rename_i cs
    have h := VR.tup (F := F) (w := w) (cs.toList.map .v) cs.toList (by simp) (fun i x y hx hy => by
      rw [List.getElem?_map, hy] at hx
      simp at hx; subst hx; exact .v _)
    simpa using h
  · exact .v _
theorem VR.cells_one {F : Nat → Prop} {w : World} {x : AV} {v : Value} (h : VR F w x v) (hl : x.leaf = true) : x.cells = [x] ∧ v.cells = #[v] := by
  cases h with
  | v => cases v <;> first | exact ⟨rfl, rfl⟩ | simp [AV.leaf] at hl
  | agg | tup => simp [AV.leaf] at hl
  | _ => exact ⟨rfl, rfl⟩
/-- The cells of a value are related one by one. -/
theorem VR.cellsOf {F : Nat → Prop} {w : World} {x : AV} {v : Value} (h : VR F w x v) (hv : x.leaf = true ∨ ∃ cs, x = .agg cs) : x.cells.length = v.cells.size ∧ ∀ (j : Nat) (y : AV), x.cells[j]? = some y → ∃ u, v.cells[j]? = some u ∧ VR F w y u := by
  rcases hv with hv | ⟨cs, rfl⟩
  · obtain ⟨e1, e2⟩ := h.cells_one hv
    rw [e1, e2]
    refine ⟨rfl, fun j y hy => ?_⟩
    match j with
    | 0 => simp at hy; subst hy; exact ⟨v, rfl, h⟩
    | j + 1 => simp at hy
  · cases h with
    | agg _ vs hl hr =>
      refine ⟨by simp [AV.cells, Value.cells, hl], fun j y hy => ?_⟩
      simp only [AV.cells] at hy
      have hj : j < vs.length := by rw [← hl]; exact (List.getElem?_eq_some_iff.1 hy).1
      exact ⟨vs[j], by simp [Value.cells, hj], hr j y _ hy (by simp [hj])⟩
theorem VR.oneCell {F : Nat → Prop} {w : World} {x : AV} {v : Value} (h : VR F w x v) (hl : x.leaf = true) : v.oneCell' = true := by
  cases h with
  | v => cases v <;> first | rfl | simp [AV.leaf] at hl
  | agg | tup => simp [AV.leaf] at hl
  | _ => rfl
end Go.Proofs.Ytjnencdmejhmjaa.Eng
namespace Go.Proofs.Ytjnencdmejhmjaa.Eng
open Go Go.RowKit

abbrev Env := List (Nat × AV)
def Env.get (t : Nat) : Env → Option AV
  | [] => none
  | (k, x) :: E => if k = t then some x else Env.get t E
def Env.del (t : Nat) : Env → Env
  | [] => []
  | (k, x) :: E => if k = t then Env.del t E else (k, x) :: Env.del t E
def Env.set (t : Nat) (x : AV) (E : Env) : Env := (t, x) :: E
def Env.keep (ts : List Nat) (E : Env) : Env := ts.filterMap fun t => (E.get t).map fun x => (t, x)
theorem Env.get_set (t s : Nat) (x : AV) (E : Env) : (E.set t x).get s = if t = s then some x else E.get s := rfl
theorem Env.get_del (t s : Nat) (E : Env) : (E.del t).get s = if t = s then none else E.get s := by
  induction E with
  | nil => simp [Env.del, Env.get]
  | cons p E ih =>
    obtain ⟨k, x⟩ := p
    unfold Env.del
    by_cases h : k = t
    · rw [if_pos h, ih]
      by_cases h2 : t = s
      · simp [h2]
      · rw [if_neg h2, if_neg h2, Env.get, if_neg (by rw [h]; exact h2)]
    · rw [if_neg h, Env.get]
      by_cases h2 : k = s
      · rw [if_pos h2, if_neg (by rw [← h2]; exact fun e => h e.symm), Env.get, if_pos h2]
      · rw [if_neg h2, ih, Env.get, if_neg h2]
theorem Env.get_keep (ts : List Nat) (E : Env) (s : Nat) (x : AV) (h : (E.keep ts).get s = some x) : E.get s = some x := by
  unfold Env.keep at h
  induction ts with
  | nil => simp [Env.get] at h
  | cons t ts ih =>
    simp only [List.filterMap_cons] at h
    cases he : E.get t with
    | none => rw [he] at h; exact ih h
    | some y =>
      rw [he] at h
      simp only [Option.map_some, Env.get] at h
      by_cases e : t = s
      · rw [if_pos e] at h; rw [← e, he]; exact h
      · rw [if_neg e] at h; exact ih h

inductive Blk where
  | arr (sz : Nat) (els : List AV)
  | mapb (ents : List (AV × AV))
abbrev Heap := List (Nat × Loc × Blk)
def Heap.get (h : Nat) : Heap → Option (Loc × Blk)
  | [] => none
  | (k, a, b) :: H => if k = h then some (a, b) else Heap.get h H
def Heap.set (h : Nat) (b' : Blk) : Heap → Heap
  | [] => []
  | (k, a, b) :: H => if k = h then (k, a, b') :: H else (k, a, b) :: Heap.set h b' H
def Heap.del (h : Nat) : Heap → Heap
  | [] => []
  | (k, a, b) :: H => if k = h then H else (k, a, b) :: Heap.del h H
theorem Heap.get_mem {h : Nat} {H : Heap} {a : Loc} {b : Blk} (hg : H.get h = some (a, b)) : (h, a, b) ∈ H := by
  induction H with
  | nil => simp [Heap.get] at hg
  | cons p H ih =>
    obtain ⟨k, a', b'⟩ := p
    unfold Heap.get at hg
    by_cases e : k = h
    · rw [if_pos e] at hg; simp at hg; obtain ⟨rfl, rfl⟩ := hg; subst e; simp
    · rw [if_neg e] at hg; exact List.mem_cons_of_mem _ (ih hg)
theorem Heap.del_sub (h : Nat) (H : Heap) : List.Sublist (H.del h) H := by
  induction H with
  | nil => exact List.Sublist.refl _
  | cons p H ih =>
    obtain ⟨k, a, b⟩ := p
    unfold Heap.del
    by_cases e : k = h
    · rw [if_pos e]; exact List.sublist_cons_self _ _
    · rw [if_neg e]; exact ih.cons_cons _
def BlkOK (F : Nat → Prop) (w : World) (a : Loc) : Blk → Prop
  | .arr sz els => if a.vir = true then els = [] else ∃ (cs : Array Value) (t : TypeId), w.heap[a.blk]? = some (.cells cs t (0, 0)) ∧ ∀ (i : Nat) (e : AV), els[i]? = some e → (e.cells.length = sz ∧ e.cells.all AV.leaf = true) ∧ ∀ (j : Nat) (y : AV), e.cells[j]? = some y → ∃ v, cs[a.base + i * sz + j]? = some v ∧ VR F w y v
  | .mapb ents => a.vir = false ∧ ∃ (es : Array MapEntry) (clock : Nat), w.heap[a.blk]? = some (.map es clock) ∧ es.size = ents.length ∧ ∀ (i : Nat) (p : AV × AV), ents[i]? = some p → ∃ e, es[i]? = some e ∧ VR F w p.1 e.key ∧ VR F w p.2 e.val
def Heap.real : Heap → List Nat
  | [] => []
  | (_, a, _) :: H => if a.vir = true then Heap.real H else a.blk :: Heap.real H
theorem Heap.real_mem {H : Heap} {h : Nat} {a : Loc} {b : Blk} (hm : (h, a, b) ∈ H) (hv : a.vir = false) : a.blk ∈ H.real := by
  induction H with
  | nil => simp at hm
  | cons p H ih =>
    obtain ⟨k, a', b'⟩ := p
    unfold Heap.real
    rcases List.mem_cons.1 hm with e | hm
    · simp only [Prod.mk.injEq] at e
      obtain ⟨rfl, rfl, rfl⟩ := e
      rw [if_neg (by simp [hv])]; simp
    · split
      · exact ih hm
      · exact List.mem_cons_of_mem _ (ih hm)
theorem Heap.mem_real {H : Heap} {c : Nat} (hm : c ∈ H.real) : ∃ p ∈ H, p.2.1.vir = false ∧ p.2.1.blk = c := by
  induction H with
  | nil => simp [Heap.real] at hm
  | cons p H ih =>
    obtain ⟨k, a', b'⟩ := p
    unfold Heap.real at hm
    split at hm
    · obtain ⟨q, hq, h⟩ := ih hm; exact ⟨q, List.mem_cons_of_mem _ hq, h⟩
    · rename_i hv
      rcases List.mem_cons.1 hm with rfl | hm
      · exact ⟨_, List.mem_cons_self, by simpa using hv, rfl⟩
      · obtain ⟨q, hq, h⟩ := ih hm; exact ⟨q, List.mem_cons_of_mem _ hq, h⟩
theorem Heap.real_set (h : Nat) (b : Blk) (H : Heap) : (H.set h b).real = H.real := by
  induction H with
  | nil => rfl
  | cons p H ih =>
    obtain ⟨k, a', b'⟩ := p
    unfold Heap.set
    split
    · rfl
    · unfold Heap.real; rw [ih]
theorem Heap.real_sub {H H' : Heap} (h : List.Sublist H' H) : List.Sublist H'.real H.real := by
  induction h with
  | slnil => exact List.Sublist.refl _
  | cons p _ ih =>
    obtain ⟨k, a', b'⟩ := p
    simp only [Heap.real]
    split
    · exact ih
    · exact ih.cons _
  | cons_cons p _ ih =>
    obtain ⟨k, a', b'⟩ := p
    simp only [Heap.real]
    split
    · exact ih
    · exact ih.cons_cons _
structure HeapOK (Keep F : Nat → Prop) (w : World) (H : Heap) : Prop where
  blk : ∀ p ∈ H, BlkOK F w p.2.1 p.2.2
  own : ∀ c ∈ H.real, ¬ F c ∧ ¬ Keep c
  nodup : H.real.Nodup
  flt : ∀ c, F c → c < w.heap.size
  klt : ∀ c, Keep c → c < w.heap.size
theorem BlkOK.lt {F : Nat → Prop} {w : World} {a : Loc} {b : Blk} (h : BlkOK F w a b) (hv : a.vir = false) : a.blk < w.heap.size := by
  cases b with
  | arr sz els => simp only [BlkOK, hv] at h; obtain ⟨cs, t, h, _⟩ := h; exact (Array.getElem?_eq_some_iff.1 h).1
  | mapb ents => obtain ⟨_, cs, t, h, _⟩ := h; exact (Array.getElem?_eq_some_iff.1 h).1
/-- A step that leaves a block's cells alone. -/
theorem BlkOK.step {F F' : Nat → Prop} {w w' : World} {a : Loc} {b : Blk} (h : BlkOK F w a b) (hF : ∀ c, F c → F' c) (hl : ∀ c, F c → c < w.heap.size) (he : Ext F w w') (hb : a.vir = false → w'.heap[a.blk]? = w.heap[a.blk]?) : BlkOK F' w' a b := by
  cases b with
  | arr sz els =>
    cases hv : a.vir with
    | true => simp only [BlkOK, hv, if_true] at h ⊢; exact h
    | false =>
      simp only [BlkOK, hv] at h ⊢
      obtain ⟨cs, t, h1, h2⟩ := h
      refine ⟨cs, t, (hb hv).trans h1, fun i e hi => ?_⟩
      obtain ⟨h3, h4⟩ := h2 i e hi
      refine ⟨h3, fun j y hy => ?_⟩
      obtain ⟨v, h5, h6⟩ := h4 j y hy
      exact ⟨v, h5, h6.step hF hl he⟩
  | mapb ents =>
    obtain ⟨hv, es, cl, h1, h2, h3⟩ := h
    refine ⟨hv, es, cl, (hb hv).trans h1, h2, fun i p hp => ?_⟩
    obtain ⟨e, h4, h5, h6⟩ := h3 i p hp
    exact ⟨e, h4, h5.step hF hl he, h6.step hF hl he⟩

inductive Opd where
  | t (n : Nat)
  | c (x : Value)
  | f (n : Nat)
def Env.opd (E : Env) : Opd → Option AV
  | .t n => E.get n
  | .c x => some (AV.ofV x)
  | .f n => some (.fn n [])
def compOpd : Operand → Option Opd
  | .tmp t => some (.t t)
  | .const x => some (.c x)
  | .func f => some (.f f)
  | .global _ => none

def cutCells (cs : List AV) (off : Nat) : Option Nat → Option AV
  | none => cs[off]?
  | some n => if off + n ≤ cs.length then some (.agg ((cs.drop off).take n)) else none
def intBin (o : BinOp) (k : IntKind) (a b : Int) : Option AV :=
  match o with
  | .add => some (.v (.int k (k.wrap (a + b))))
  | .sub => some (.v (.int k (k.wrap (a - b))))
  | .mul => some (.v (.int k (k.wrap (a * b))))
  | .quo => if b = 0 then none else some (.v (.int k (k.wrap (a.tdiv b))))
  | .rem => if b = 0 then none else some (.v (.int k (a.tmod b)))
  | .and => some (.v (.int k (k.wrap (BitVec.ofInt k.bits a &&& BitVec.ofInt k.bits b).toNat)))
  | .or => some (.v (.int k (k.wrap (BitVec.ofInt k.bits a ||| BitVec.ofInt k.bits b).toNat)))
  | .eql => some (.b (a == b))
  | .neq => some (.b (a != b))
  | .lss => some (.b (decide (a < b)))
  | .leq => some (.b (decide (a ≤ b)))
  | .gtr => some (.b (decide (a > b)))
  | .geq => some (.b (decide (a ≥ b)))
  | _ => none
def binVal (o : BinOp) : AV → AV → Option AV
  | .v (.int k a), .v (.int k' b) =>
    match o with
    | .shl => if b < 0 then none else some (.v (.int k (k.wrap (a * 2 ^ min b.toNat k.bits))))
    | .shr => if b < 0 then none else some (.v (.int k (a.fdiv (2 ^ min b.toNat k.bits))))
    | o => if k = k' then intBin o k a b else none
  | _, _ => none
def boolVal (neg : Bool) : AV → AV → Option AV
  | .v (.bool a), .v (.bool b) => some (.b (if neg then !(a == b) else a == b))
  | _, _ => none
def unVal : UnOp → AV → Option AV
  | .neg, .v (.int k n) => some (.v (.int k (k.wrap (0 - n))))
  | .not, .v (.bool b) => some (.b (!b))
  | _, _ => none
def minVal : AV → List AV → Option AV
  | .v (.int k x), [] => some (.v (.int k x))
  | .v (.int k x), .v (.int _ y) :: r => minVal (.v (.int k (if y < x then y else x))) r
  | _, _ => none
def maxVal : AV → List AV → Option AV
  | .v (.int k x), [] => some (.v (.int k x))
  | .v (.int k x), .v (.int _ y) :: r => maxVal (.v (.int k (if y > x then y else x))) r
  | _, _ => none
def lenVal : AV → Option AV
  | .fz _ xs => some (.i (xs.length : Nat))
  | .ref _ _ _ _ n => some (.i (n : Nat))
  | .v (.slice none 0 0) => some (.i 0)
  | _ => none
def iaddrVal (sz : Nat) : AV → AV → Option AV
  | .fz sz' xs, .v (.int _ j) => if 0 ≤ j ∧ sz' = sz then (match xs[j.toNat]? with | some x => some (.fptr x.cells) | none => none) else none
  | .ref h a sz' off n, .v (.int _ j) => if 0 ≤ j ∧ j < n ∧ sz' = sz then some (.ptr h a sz (off + j.toNat) 0) else none
  | _, _ => none
def faddrVal (off : Nat) : AV → Option AV
  | .ptr h a sz i f => some (.ptr h a sz i (f + off))
  | .fptr cs => some (.fptr (cs.drop off))
  | _ => none
def loadVal (n : Option Nat) (H : Heap) : AV → Option AV
  | .fptr cs => cutCells cs 0 n
  | .ptr h a sz i f =>
    match H.get h with
    | some (a', .arr sz' els) => if a = a' ∧ sz = sz' then (match els[i]? with | some e => cutCells e.cells f n | none => none) else none
    | _ => none
  | _ => none
def sliceVal (sz : Nat) (lo hi : Option AV) : AV → Option AV
  | .fz sz' xs =>
    match (match lo with | none => some 0 | some (.v (.int _ l)) => if 0 ≤ l then some l.toNat else none | _ => none), (match hi with | none => some xs.length | some (.v (.int _ l)) => if 0 ≤ l then some l.toNat else none | _ => none) with
    | some l, some h => if l ≤ h ∧ h ≤ xs.length ∧ sz' = sz then some (.fz sz ((xs.take h).drop l)) else none
    | _, _ => none
  | .ref hh a sz' off n =>
    match (match lo with | none => some 0 | some (.v (.int _ l)) => if 0 ≤ l then some l.toNat else none | _ => none), (match hi with | none => some n | some (.v (.int _ l)) => if 0 ≤ l then some l.toNat else none | _ => none) with
    | some l, some h => if l ≤ h ∧ h ≤ n ∧ sz' = sz then some (.ref hh a sz (off + l) (h - l)) else none
    | _, _ => none
  | _ => none
/-- struct cells, the parts laid over the zero cells. -/
def fillVal (cs : List AV) : List (Nat × Nat × AV) → Option (List AV)
  | [] => some cs
  | (off, size, x) :: r => if x.ok = true ∧ x.cells.length = size ∧ off + size ≤ cs.length then fillVal (cs.take off ++ x.cells ++ cs.drop (off + size)) r else none
def eqsVal : List Bool → List AV → List AV → Option Bool
  | [], [], [] => some true
  | true :: ks, .v (.int k a) :: r, .v (.int k' b) :: s => if k = k' then (if a = b then eqsVal ks r s else some false) else none
  | false :: ks, .v (.bool a) :: r, .v (.bool b) :: s => if a = b then eqsVal ks r s else some false
  | _, _, _ => none
end Go.Proofs.Ytjnencdmejhmjaa.Eng
namespace Go.Proofs.Ytjnencdmejhmjaa.Eng
open Go Go.RowKit

inductive IOp where
  | mov (x : Opd)
  | asg (x : Opd)
  | pick (c a b : Opd)
  | bin (o : BinOp) (x y : Opd)
  | boolq (neg : Bool) (x y : Opd)
  | eqs (neg : Bool) (ks : List Bool) (x y : Opd)
  | un (o : UnOp) (x : Opd)
  | conv (k : IntKind) (x : Opd)
  | load (n : Option Nat) (x : Opd)
  | nilck (x : Opd)
  | faddr (off : Nat) (x : Opd)
  | fld (n : Option Nat) (off : Nat) (x : Opd)
  | iaddr (sz : Nat) (x i : Opd)
  | slc (sz : Nat) (x : Opd) (lo hi : Option Opd)
  | ext (i : Nat) (x : Opd)
  | len (x : Opd)
  | minn (x : Opd) (xs : List Opd)
  | maxx (x : Opd) (xs : List Opd)
  | build (z : List Value) (parts : List (Nat × Nat × Opd))
  | mkf (f : Nat) (caps : List Opd)
  | store (n : Nat) (x y : Opd)
  | alloc (z : Value)
  | box (x : Opd)
  | bsl (sz : Nat) (z : Value) (len : Nat) (parts : List (Nat × Opd))
  | mks (sz : Nat) (z : Value) (bytes : Nat) (l c : Opd)
  | app (sz bytes : Nat) (x y : Opd)
  | call (f : Nat) (xs : List Opd)
  | callv (x : Opd) (xs : List Opd)
  | eqnil (neg : Bool) (x : Opd)
  | clr (sz : Nat) (z : Value) (x : Opd)
  | mkm
  | lkp (ok : Bool) (kt : Nat) (z : Value) (x k : Opd)
  | mup (kt : Nat) (x k y : Opd)
def opds (ρ : Opd → Option AV) : List Opd → Option (List AV)
  | [] => some []
  | x :: r => (ρ x).bind fun a => (opds ρ r).bind fun l => some (a :: l)
def optOpd (ρ : Opd → Option AV) : Option Opd → Option (Option AV)
  | none => some none
  | some x => (ρ x).bind fun a => some (some a)
def opdParts (ρ : Opd → Option AV) : List (Nat × Nat × Opd) → Option (List (Nat × Nat × AV))
  | [] => some []
  | (i, n, x) :: r => (ρ x).bind fun a => (opdParts ρ r).bind fun l => some ((i, n, a) :: l)
def eqCells (neg : Bool) (ks : List Bool) : AV → AV → Option AV
  | .agg a, .agg b => (eqsVal ks a b).bind fun t => some (.b (if neg then !t else t))
  | _, _ => none
def fldVal (n : Option Nat) (off : Nat) : AV → Option AV
  | .agg cs => cutCells cs off n
  | _ => none
def extVal (i : Nat) : AV → Option AV
  | .tup vs => vs[i]?
  | _ => none
def nilckVal : AV → Option AV
  | .ptr h a sz i f => some (.ptr h a sz i f)
  | .fptr cs => some (.fptr cs)
  | .fn f cs => some (.fn f cs)
  | _ => none
def convVal (k : IntKind) : AV → Option AV
  | .v (.int _ n) => some (.v (.int k (k.wrap n)))
  | _ => none
def pickVal (ρ : Opd → Option AV) (a b : Opd) : AV → Option AV
  | .v (.bool t) => if t = true then ρ a else ρ b
  | _ => none
/-- What an operation that only reads gives. -/
def IOp.val (ρ : Opd → Option AV) (H : Heap) : IOp → Option AV
  | .mov x | .asg x => ρ x
  | .pick c a b => (ρ c).bind (pickVal ρ a b)
  | .bin o x y => (ρ x).bind fun a => (ρ y).bind fun b => binVal o a b
  | .boolq neg x y => (ρ x).bind fun a => (ρ y).bind fun b => boolVal neg a b
  | .eqs neg n x y => (ρ x).bind fun a => (ρ y).bind fun b => eqCells neg n a b
  | .un o x => (ρ x).bind fun a => unVal o a
  | .conv k x => (ρ x).bind (convVal k)
  | .load n x => (ρ x).bind fun a => loadVal n H a
  | .nilck x => (ρ x).bind nilckVal
  | .faddr off x => (ρ x).bind fun a => faddrVal off a
  | .fld n off x => (ρ x).bind (fldVal n off)
  | .iaddr sz x i => (ρ x).bind fun a => (ρ i).bind fun b => iaddrVal sz a b
  | .slc sz x lo hi => (ρ x).bind fun a => (optOpd ρ lo).bind fun l => (optOpd ρ hi).bind fun h => sliceVal sz l h a
  | .ext i x => (ρ x).bind (extVal i)
  | .len x => (ρ x).bind fun a => lenVal a
  | .minn x xs => (ρ x).bind fun a => (opds ρ xs).bind fun l => minVal a l
  | .maxx x xs => (ρ x).bind fun a => (opds ρ xs).bind fun l => maxVal a l
  | .build z parts => (opdParts ρ parts).bind fun l => (fillVal (z.map .v) l).bind fun cs => some (.agg cs)
  | .mkf f caps => (opds ρ caps).bind fun l => some (.fn f l)
  | _ => none

def compOpds : List Operand → Option (List Opd)
  | [] => some []
  | x :: r => (compOpd x).bind fun a => (compOpds r).bind fun l => some (a :: l)
def compOpt : Option Operand → Option (Option Opd)
  | none => some none
  | some x => (compOpd x).bind fun a => some (some a)
def sizeP (P : Program) (t : TypeId) : Option Nat := (P.info? t).map (·.size)
/-- how many cells a variable of the type has, none: one cell, no struct -/
def shapeP (P : Program) (t : TypeId) : Option (Option Nat) :=
  match P.underlying t with
  | some (.struct _) | some (.array _ _) => (sizeP P t).bind fun n => some (some n)
  | some _ => some none
  | none => none
def scalarP (P : Program) (t : TypeId) : Bool :=
  match P.underlying t with
  | some (.int _) | some .bool => true
  | _ => false
/-- the fields' types are whole numbers and bools of one cell each, in order -/
def plainFields (P : Program) : List Field → Nat → Bool
  | [], _ => true
  | f :: r, n => f.offset == n && f.name != "_" && scalarP P f.type && plainFields P r (n + 1)
def kindsP (P : Program) (fs : List Field) : List Bool := fs.map fun f => match P.underlying f.type with | some (.int _) => true | _ => false
def compParts (P : Program) (fs : Array Field) : List (Nat × Operand) → Option (List (Nat × Nat × Opd))
  | [] => some []
  | (i, x) :: r => (fs[i]?).bind fun f => (sizeP P f.type).bind fun n => (compOpd x).bind fun a => (compParts P fs r).bind fun l => some ((f.offset, n, a) :: l)
def compVal (P : Program) (o : Op) : Option IOp :=
  match o with
  | .move x => (compOpd x).bind fun a => some (.mov a)
  | .assign x => (compOpd x).bind fun a => some (.asg a)
  | .pick c a b => (compOpd c).bind fun c => (compOpd a).bind fun a => (compOpd b).bind fun b => some (.pick c a b)
  | .binOp op t x y _ => (compOpd x).bind fun a => (compOpd y).bind fun b =>
    match P.underlying t with
    | some (.int _) => some (.bin op a b)
    | some .bool => match op with | .eql => some (.boolq false a b) | .neq => some (.boolq true a b) | _ => none
    | some (.struct fs) => if plainFields P fs.toList 0 && !P.stoodInHeld t && !P.eqGuardType P.depth t then (match op with | .eql => some (.eqs false (kindsP P fs.toList) a b) | .neq => some (.eqs true (kindsP P fs.toList) a b) | _ => none) else none
    | _ => none
  | .unOp op _ x => (compOpd x).bind fun a => match op with | .neg => some (.un .neg a) | .not => some (.un .not a) | _ => none
  | .convert src dst x => match P.underlying src, P.underlying dst with | some (.int _), some (.int k) => (compOpd x).bind fun a => some (.conv k a) | _, _ => none
  | .load t x => (shapeP P t).bind fun n => (compOpd x).bind fun a => some (.load n a)
  | .nilCheck x => (compOpd x).bind fun a => some (.nilck a)
  | .fieldAddr s x f => match P.underlying s with
    | some (.struct fs) => (fs[f]?).bind fun g => (sizeP P g.type).bind fun n => if n = 0 then none else (compOpd x).bind fun a => some (.faddr g.offset a)
    | _ => none
  | .field s x f => match P.underlying s with
    | some (.struct fs) => (fs[f]?).bind fun g => (shapeP P g.type).bind fun n => (compOpd x).bind fun a => some (.fld n g.offset a)
    | _ => none
  | .indexAddr t x i => match P.underlying t with
    | some (.slice e) => (sizeP P e).bind fun n => (compOpd x).bind fun a => (compOpd i).bind fun b => some (.iaddr n a b)
    | _ => none
  | .slice t x lo hi none => match P.underlying t with
    | some (.slice e) => (sizeP P e).bind fun n => if n = 0 then none else (compOpd x).bind fun a => (compOpt lo).bind fun l => (compOpt hi).bind fun h => some (.slc n a l h)
    | _ => none
  | .extract x i => (compOpd x).bind fun a => some (.ext i a)
  | .call ⟨.builtin .len, xs, ts⟩ => match xs.toList, ts.toList with
    | [x], [t] => match P.underlying t with
      | some (.slice _) => (compOpd x).bind fun a => some (.len a)
      | _ => none
    | _, _ => none
  | .call ⟨.builtin .min, xs, _⟩ => match xs.toList with | x :: r => (compOpd x).bind fun a => (compOpds r).bind fun l => some (.minn a l) | [] => none
  | .call ⟨.builtin .max, xs, _⟩ => match xs.toList with | x :: r => (compOpd x).bind fun a => (compOpds r).bind fun l => some (.maxx a l) | [] => none
  | .build t parts => match P.underlying t with
    | some (.struct fs) => (P.info? t).bind fun i => match i.zero with
      | some (.agg z) => if (fs.toList.all fun f => (sizeP P f.type).isSome) then (compParts P fs parts.toList).bind fun l => some (.build z.toList l) else none
      | _ => none
    | _ => none
  | .makeFunc (.func f) first caps => if first.size = 0 then (compOpds caps.toList).bind fun l => some (.mkf f l) else none
  | _ => none
end Go.Proofs.Ytjnencdmejhmjaa.Eng
namespace Go.Proofs.Ytjnencdmejhmjaa.Eng
open Go Go.RowKit
set_option linter.unusedSimpArgs false
set_option linter.unusedVariables false
variable {P : Program} {F : Nat → Prop} {w : World}

theorem VR.inv_v {x y : Value} (h : VR F w (.v x) y) : y = x := by cases h; rfl
theorem VR.inv_agg {cs : List AV} {y : Value} (h : VR F w (.agg cs) y) : ∃ vs : List Value, y = .agg vs.toArray ∧ cs.length = vs.length ∧ ∀ (i : Nat) (a : AV) (b : Value), cs[i]? = some a → vs[i]? = some b → VR F w a b := by
  cases h with
  | agg _ vs h1 h2 => exact ⟨vs, rfl, h1, h2⟩
theorem VR.inv_tup {cs : List AV} {y : Value} (h : VR F w (.tup cs) y) : ∃ vs : List Value, y = .tuple vs.toArray ∧ cs.length = vs.length ∧ ∀ (i : Nat) (a : AV) (b : Value), cs[i]? = some a → vs[i]? = some b → VR F w a b := by
  cases h with
  | tup _ vs h1 h2 => exact ⟨vs, rfl, h1, h2⟩
theorem sizeP_run {t : TypeId} {n : Nat} (h : sizeP P t = some n) (w : World) : (sizeOf t).run P w = .ok n w := by
  unfold sizeP at h
  obtain ⟨i, hi, e⟩ := Option.map_eq_some_iff.1 h
  simp [sizeOf, typeInfo, hi, e]
theorem shapeP_agg {t : TypeId} {n : Option Nat} (h : shapeP P t = some n) (w : World) : (isAgg t).run P w = .ok n.isSome w ∧ ∀ m, n = some m → (sizeOf t).run P w = .ok m w := by
  unfold shapeP at h
  cases hu : P.underlying t with
  | none => rw [hu] at h; simp at h
  | some d =>
    rw [hu] at h
    cases d with
    | struct fs =>
      simp only [Option.bind_eq_some_iff] at h
      obtain ⟨m, hm, e⟩ := h
      injection e with e; subst e
      exact ⟨by simp [isAgg, run_underlying hu], fun m' e => by injection e with e; subst e; exact sizeP_run hm w⟩
    | array k e =>
      simp only [Option.bind_eq_some_iff] at h
      obtain ⟨m, hm, e⟩ := h
      injection e with e; subst e
      exact ⟨by simp [isAgg, run_underlying hu], fun m' e => by injection e with e; subst e; exact sizeP_run hm w⟩
    | _ => injection h with h; subst h; exact ⟨by simp [isAgg, run_underlying hu], fun m' e => by simp at e⟩
theorem scalarP_eq {t : TypeId} (h : scalarP P t = true) : (∃ k, P.underlying t = some (.int k)) ∨ P.underlying t = some .bool := by
  unfold scalarP at h
  split at h
  · exact .inl ⟨_, by assumption⟩
  · exact .inr (by assumption)
  · simp at h
theorem add_assoc' (A : Addr) (m n : Nat) : (A.add m).add n = A.add (m + n) := by
  unfold Addr.add
  by_cases h1 : m = 0
  · subst h1; simp
  · by_cases h2 : n = 0
    · subst h2; simp [h1]
    · simp [h1, h2]; omega
/-- Reading a piece of the cells at an address. -/
theorem load_sound {t : TypeId} {n : Option Nat} (hs : shapeP P t = some n) {A : Addr} {cs : List AV} {off : Nat} {r : AV} (hc : cutCells cs off n = some r)
    (h : ∀ (j : Nat) (y : AV), cs[off + j]? = some y → ∃ v, w.cell? (A.add j) = some v ∧ VR F w y v) :
    ∃ v, (loadVar t A).run P w = .ok v w ∧ VR F w r v := by
  obtain ⟨ha, hz⟩ := shapeP_agg hs w
  cases n with
  | none =>
    obtain ⟨v, h1, h2⟩ := h 0 r (by simpa [cutCells] using hc)
    refine ⟨v, ?_, h2⟩
    have h1' : w.cell? A = some v := by simpa [Addr.add] using h1
    simp [loadVar, ha, h1']
  | some m =>
    have hz := hz m rfl
    simp only [cutCells] at hc
    split at hc
    · rename_i hle
      injection hc with hc; subst hc
      have hex : ∀ j, j < m → ∃ v, w.cell? (A.add j) = some v ∧ ∀ y, cs[off + j]? = some y → VR F w y v := by
        intro j hj
        have hlt : off + j < cs.length := by omega
        obtain ⟨v, h1, h2⟩ := h j cs[off + j] (by simp [hlt])
        exact ⟨v, h1, fun y hy => by simp [hlt] at hy; subst hy; exact h2⟩
      let g : Nat → Value := fun j => if hj : j < m then (hex j hj).choose else undef
      have hg : ∀ j, j < m → w.cell? (A.add j) = some (g j) ∧ ∀ y, cs[off + j]? = some y → VR F w y (g j) := by
        intro j hj
        simp only [g, hj, dif_pos]
        exact (hex j hj).choose_spec
      refine ⟨.agg ((List.range m).map g).toArray, ?_, ?_⟩
      · have := run_loadCells (P := P) w A m g (fun j hj => (hg j hj).1)
        simp [loadVar, ha, hz, this]
      · refine .agg _ _ (by simp; omega) (fun i x y hx hy => ?_)
        have hi : i < m := by
          rcases Nat.lt_or_ge i m with h | h
          · exact h
          · rw [List.getElem?_eq_none (by simp; omega)] at hy; simp at hy
        rw [List.getElem?_take, if_pos hi, List.getElem?_drop] at hx
        simp [hi] at hy
        subst hy
        exact (hg i hi).2 x hx
    · simp at hc
theorem part_sound {t : TypeId} {n : Option Nat} (hs : shapeP P t = some n) {cs : List AV} {vs : List Value} {off : Nat} {r : AV} (hl : cs.length = vs.length) (hc : cutCells cs off n = some r)
    (h : ∀ (i : Nat) (a : AV) (b : Value), cs[i]? = some a → vs[i]? = some b → VR F w a b) :
    ∃ v, (part t vs.toArray off).run P w = .ok v w ∧ VR F w r v := by
  obtain ⟨ha, hz⟩ := shapeP_agg hs w
  cases n with
  | none =>
    simp only [cutCells] at hc
    have hlt : off < vs.length := by rw [← hl]; exact (List.getElem?_eq_some_iff.1 hc).1
    refine ⟨vs[off], ?_, h off r _ hc (by simp [hlt])⟩
    simp [part, ha, hlt]
  | some m =>
    have hz := hz m rfl
    simp only [cutCells] at hc
    split at hc
    · rename_i hle
      injection hc with hc; subst hc
      have e : vs.toArray.extract off (off + m) = ((vs.drop off).take m).toArray := by
        apply Array.ext'
        simp
      refine ⟨.agg ((vs.drop off).take m).toArray, ?_, ?_⟩
      · simp only [part, Sem.run_bind, ha, Result.andThen_ok, Option.isSome_some, if_true, hz, Sem.run_pure, e]
      · refine .agg _ _ (by simp; omega) (fun i x y hx hy => ?_)
        rw [List.getElem?_take] at hx hy
        split at hx
        · rename_i hi
          rw [if_pos hi] at hy
          rw [List.getElem?_drop] at hx hy
          exact h _ _ _ hx hy
        · simp at hx
    · simp at hc
theorem intBin_sound {o : BinOp} {k : IntKind} {a b : Int} {r : AV} (h : intBin o k a b = some r) (t : TypeId) (w : World) : ∃ v, (binOp o t (.int k a) (.int k b)).run P w = .ok v w ∧ VR F w r v := by
  cases o <;> simp only [intBin] at h <;> first
    | (simp at h; done)
    | (injection h with h; subst h; refine ⟨_, ?_, .v _⟩; simp [binOp, Op.intArith, Op.intBits, Op.intCmp, Op.intDiv]; done)
    | (split at h
       · simp at h
       · rename_i hb; injection h with h; subst h; refine ⟨_, ?_, .v _⟩; simp [binOp, Op.intDiv, hb])
theorem binVal_sound {o : BinOp} {x y r : AV} {u v : Value} (h : binVal o x y = some r) (hx : VR F w x u) (hy : VR F w y v) (t : TypeId) (X Y : Operand) :
    ∃ z, (do eqGuard o t X Y u v; binOp o t u v : Sem Value).run P w = .ok z w ∧ VR F w r z := by
  unfold binVal at h
  split at h
  · rename_i k a k' b
    obtain rfl := hx.inv_v
    obtain rfl := hy.inv_v
    simp only [eqGuard_at_int, pure_bind]
    split at h
    · split at h
      · simp at h
      · rename_i hb; injection h with h; subst h; refine ⟨_, ?_, .v _⟩; simp [binOp, Op.shift, hb]
    · split at h
      · simp at h
      · rename_i hb; injection h with h; subst h; refine ⟨_, ?_, .v _⟩; simp [binOp, Op.shift, hb]
    · split at h
      · rename_i e; subst e; exact intBin_sound h t w
      · simp at h
  · simp at h
theorem boolVal_sound {neg : Bool} {x y r : AV} {u v : Value} (h : boolVal neg x y = some r) (hx : VR F w x u) (hy : VR F w y v) (t : TypeId) (ht : P.underlying t = some .bool) (X Y : Operand) :
    ∃ z, (do eqGuard (if neg then .neq else .eql) t X Y u v; binOp (if neg then .neq else .eql) t u v : Sem Value).run P w = .ok z w ∧ VR F w r z := by
  unfold boolVal at h
  split at h
  · rename_i a b
    obtain rfl := hx.inv_v
    obtain rfl := hy.inv_v
    injection h with h; subst h
    simp only [eqGuard_at_bool, pure_bind]
    cases neg
    · refine ⟨_, ?_, .v _⟩; simp [binOp, Op.equal, Op.maxDepth, run_equalIn_bool' w _ t a b ht]
    · refine ⟨_, ?_, .v _⟩; simp [binOp, Op.equal, Op.maxDepth, run_equalIn_bool' w _ t a b ht]
  · simp at h
theorem unVal_sound {o : UnOp} {x r : AV} {u : Value} (h : unVal o x = some r) (hx : VR F w x u) : ∃ z, (Op.unary o u).run P w = .ok z w ∧ VR F w r z := by
  unfold unVal at h
  split at h
  · obtain rfl := hx.inv_v
    injection h with h; subst h; refine ⟨_, ?_, .v _⟩; simp [Op.unary, Op.intArith]
  · obtain rfl := hx.inv_v
    injection h with h; subst h; refine ⟨_, ?_, .v _⟩; simp [Op.unary]
  · simp at h
theorem lenVal_sound {x r : AV} {u : Value} (h : lenVal x = some r) (hx : VR F w x u) (t ty : TypeId) {e : TypeId} (ht : P.underlying t = some (.slice e)) : ∃ z, (Builtin.len_ #[t] ty #[u]).run P w = .ok z w ∧ VR F w r z := by
  unfold lenVal at h
  split at h
  · injection h with h; subst h
    cases hx with
    | fz sz xs A cap g h1 h2 h3 h4 h5 => exact ⟨_, by simp [Builtin.len_, run_underlying ht, goInt], .v _⟩
    | fznil sz => exact ⟨_, by simp [Builtin.len_, run_underlying ht, goInt], .v _⟩
  · injection h with h; subst h
    cases hx <;> exact ⟨_, by simp [Builtin.len_, run_underlying ht, goInt], .v _⟩
  · obtain rfl := hx.inv_v
    injection h with h; subst h
    exact ⟨_, by simp [Builtin.len_, run_underlying ht, goInt], .v _⟩
  · simp at h
theorem iaddrVal_sound {sz : Nat} {x i r : AV} {u j : Value} (h : iaddrVal sz x i = some r) (hx : VR F w x u) (hi : VR F w i j) (t : TypeId) {e : TypeId} (ht : P.underlying t = some (.slice e)) (hs : sizeP P e = some sz) :
    ∃ z, (Instr.indexAt t u j).run P w = .ok z w ∧ VR F w r z := by
  have hz := sizeP_run hs w
  unfold iaddrVal at h
  split at h
  · rename_i sz' xs k j'
    obtain rfl := hi.inv_v
    split at h
    · rename_i hc
      obtain ⟨hj, rfl⟩ := hc
      split at h
      · rename_i x' hx'
        injection h with h; subst h
        have hlt : j'.toNat < xs.length := (List.getElem?_eq_some_iff.1 hx').1
        cases hx with
        | fz _ _ A cap g h1 h2 h3 h4 h5 =>
          refine ⟨.pointer (some (A.add (j'.toNat * sz'))), ?_, ?_⟩
          · have hb : 0 ≤ j' ∧ j' < (xs.length : Int) := ⟨hj, by omega⟩
            simp [Instr.indexAt, asIntOf, run_underlying ht, hb, hz]
          · refine .fptr _ _ (fun m => g j'.toNat m) (fun m y hy => ?_) (fun m y hy => h5 _ _ _ _ hx' hy)
            obtain ⟨hf, hcell⟩ := h4 _ _ _ _ hx' hy
            refine ⟨?_, by rw [add_assoc']; exact hcell⟩
            have : (A.add (j'.toNat * sz')).block = A.block := by unfold Addr.add; split <;> rfl
            rw [this]; exact hf
        | fznil => simp at hlt
      · simp at h
    · simp at h
  · rename_i hh a sz' off n k j'
    obtain rfl := hi.inv_v
    split at h
    · rename_i hc
      obtain ⟨hj, hjn, rfl⟩ := hc
      injection h with h; subst h
      cases hx with
      | ref _ _ _ _ _ cap cs ty h0 h1 h2 h3 h4 =>
        refine ⟨_, ?_, .ptr _ _ _ _ _⟩
        have hb : 0 ≤ j' ∧ j' < (n : Int) := ⟨hj, hjn⟩
        have e : (⟨a.blk, a.base + off * sz', none⟩ : Addr).add (j'.toNat * sz') = ⟨a.blk, a.base + (off + j'.toNat) * sz' + 0, none⟩ := by
          rw [Addr.add_lit, Nat.add_mul]; simp [Nat.add_assoc]
        simp [Instr.indexAt, asIntOf, run_underlying ht, hb, hz, e]
      | refz => simp at hjn; omega
      | refnil => simp at hjn; omega
    · simp at h
  · simp at h
theorem faddrVal_sound {off : Nat} {x r : AV} {u : Value} (h : faddrVal off x = some r) (hx : VR F w x u) (s : TypeId) (f : Nat) {fs : Array Field} (hs : P.underlying s = some (.struct fs)) {g : Field} (hf : fs[f]? = some g) {n : Nat} (hn : sizeP P g.type = some n) (h0 : n ≠ 0) (ho : g.offset = off) :
    ∃ z, (Instr.fieldAt s u f).run P w = .ok z w ∧ VR F w r z := by
  have hz := sizeP_run hn w
  subst ho
  unfold faddrVal at h
  split at h
  · injection h with h; subst h
    cases hx
    refine ⟨_, ?_, .ptr _ _ _ _ _⟩
    simp [Instr.fieldAt, run_underlying hs, hf, Instr.sureAddr, fieldPlace, hz, h0, Addr.add_lit, Nat.add_assoc]
  · injection h with h; subst h
    cases hx with
    | fptr cs A g' h1 h2 =>
      refine ⟨.pointer (some (A.add g.offset)), ?_, ?_⟩
      · simp [Instr.fieldAt, run_underlying hs, hf, Instr.sureAddr, fieldPlace, hz, h0]
      · refine .fptr _ _ (fun j => g' (g.offset + j)) (fun j y hy => ?_) (fun j y hy => h2 _ _ (by simpa [List.getElem?_drop] using hy))
        rw [List.getElem?_drop] at hy
        obtain ⟨hF, hc⟩ := h1 _ _ hy
        refine ⟨?_, by rw [add_assoc']; exact hc⟩
        have : (A.add g.offset).block = A.block := by unfold Addr.add; split <;> rfl
        rw [this]; exact hF
  · simp at h
theorem loadVal_sound {n : Option Nat} {H : Heap} {x r : AV} {u : Value} {Keep : Nat → Prop} (hH : HeapOK Keep F w H) (h : loadVal n H x = some r) (hx : VR F w x u) (t : TypeId) (hs : shapeP P t = some n) :
    ∃ z, (Instr.loadAt t u).run P w = .ok z w ∧ VR F w r z := by
  unfold loadVal at h
  split at h
  · cases hx with
    | fptr cs A g h1 h2 =>
      obtain ⟨v, e1, e2⟩ := load_sound (P := P) (F := F) (w := w) hs (A := A) h (fun j y hy => by
        rw [Nat.zero_add] at hy
        exact ⟨g j, (h1 j y hy).2, h2 j y hy⟩)
      exact ⟨v, by simpa [Instr.loadAt, Instr.sureAddr] using e1, e2⟩
  · rename_i hh a sz i f
    split at h
    · rename_i a' sz' els hg
      split at h
      · rename_i hc
        obtain ⟨rfl, rfl⟩ := hc
        split at h
        · rename_i e he
          cases hx
          have hb := hH.blk _ (Heap.get_mem hg)
          simp only [BlkOK] at hb
          split at hb
          · subst hb; simp at he
          · obtain ⟨cs, ty, h1, h2⟩ := hb
            obtain ⟨h3, h4⟩ := h2 i e he
            obtain ⟨v, e1, e2⟩ := load_sound (P := P) (F := F) (w := w) hs (A := ⟨a.blk, a.base + i * sz + f, none⟩) h (fun j y hy => by
              obtain ⟨v, h5, h6⟩ := h4 _ _ hy
              refine ⟨v, ?_, h6⟩
              rw [Addr.add_lit]
              simp only [World.cell?, h1]
              simpa [Nat.add_assoc] using h5)
            exact ⟨v, by simpa [Instr.loadAt, Instr.sureAddr] using e1, e2⟩
        · simp at h
      · simp at h
    · simp at h
  · simp at h
end Go.Proofs.Ytjnencdmejhmjaa.Eng
namespace Go.Proofs.Ytjnencdmejhmjaa.Eng
open Go Go.RowKit
set_option linter.unusedSimpArgs false
set_option linter.unusedVariables false
variable {P : Program} {F : Nat → Prop} {w : World}

theorem optOpd_rel {ρc : Operand → Value} {ρa : Opd → Option AV} (hρ : ∀ x y a, compOpd x = some y → ρa y = some a → VR F w a (ρc x)) {x : Option Operand} {y : Option Opd} {a : Option AV} (h : compOpt x = some y) (ha : optOpd ρa y = some a) :
    (a = none ∧ x.map ρc = none) ∨ ∃ b v, a = some b ∧ x.map ρc = some v ∧ VR F w b v := by
  cases x with
  | none => simp [compOpt] at h; subst h; simp [optOpd] at ha; exact .inl ⟨ha.symm, rfl⟩
  | some x =>
    simp only [compOpt, Option.bind_eq_some_iff] at h
    obtain ⟨z, hz, e⟩ := h
    injection e with e; subst e
    simp only [optOpd, Option.bind_eq_some_iff] at ha
    obtain ⟨b, hb, e⟩ := ha
    injection e with e; subst e
    exact .inr ⟨b, ρc x, rfl, rfl, hρ _ _ _ hz hb⟩
def bnd (d : Nat) : Option AV → Option Nat
  | none => some d
  | some (.v (.int _ l)) => if 0 ≤ l then some l.toNat else none
  | _ => none
theorem sliceVal_fz (sz : Nat) (lo hi : Option AV) (sz' : Nat) (xs : List AV) : sliceVal sz lo hi (.fz sz' xs) = (bnd 0 lo).bind fun l => (bnd xs.length hi).bind fun h => if l ≤ h ∧ h ≤ xs.length ∧ sz' = sz then some (.fz sz ((xs.take h).drop l)) else none := by
  simp only [sliceVal]
  split
  · rename_i l h h1 h2
    rw [show bnd 0 lo = some l from h1, show bnd xs.length hi = some h from h2]; rfl
  · rename_i hn
    cases e1 : bnd 0 lo with
    | none => rfl
    | some l =>
      cases e2 : bnd xs.length hi with
      | none => rfl
      | some h => exact absurd e2 (hn l h e1)
theorem sliceVal_ref (sz : Nat) (lo hi : Option AV) (hh : Nat) (a : Loc) (sz' off n : Nat) : sliceVal sz lo hi (.ref hh a sz' off n) = (bnd 0 lo).bind fun l => (bnd n hi).bind fun h => if l ≤ h ∧ h ≤ n ∧ sz' = sz then some (.ref hh a sz (off + l) (h - l)) else none := by
  simp only [sliceVal]
  split
  · rename_i l h h1 h2
    rw [show bnd 0 lo = some l from h1, show bnd n hi = some h from h2]; rfl
  · rename_i hn
    cases e1 : bnd 0 lo with
    | none => rfl
    | some l =>
      cases e2 : bnd n hi with
      | none => rfl
      | some h => exact absurd e2 (hn l h e1)
theorem bnd_run {d : Nat} {a : Option AV} {x : Option Value} (h : (a = none ∧ x = none) ∨ ∃ b v, a = some b ∧ x = some v ∧ VR F w b v) {l : Nat} (hb : bnd d a = some l) :
    (x = none ∧ l = d) ∨ ∃ k, x = some (.int k (l : Int)) := by
  rcases h with ⟨rfl, rfl⟩ | ⟨b, v, rfl, rfl, hv⟩
  · simp [bnd] at hb; exact .inl ⟨rfl, hb.symm⟩
  · unfold bnd at hb
    split at hb
    · simp at *
    · rename_i e; injection e with e; subst e
      obtain rfl := hv.inv_v
      split at hb
      · injection hb with hb; subst hb
        rename_i k _ hp
        exact .inr ⟨k, by rw [Int.toNat_of_nonneg hp]⟩
      · simp at hb
    · simp at hb
theorem bounds_run {len cap l h : Nat} {x y : Option Value} (hx : (x = none ∧ l = 0) ∨ ∃ k, x = some (.int k (l : Int))) (hy : (y = none ∧ h = len) ∨ ∃ k, y = some (.int k (h : Int))) (h1 : l ≤ h) (h2 : h ≤ len) (h3 : len ≤ cap) (w : World) :
    (Instr.sliceBounds true len cap x y none).run P w = .ok (l, h, cap) w := by
  rcases hx with ⟨rfl, rfl⟩ | ⟨k, rfl⟩ <;> rcases hy with ⟨rfl, rfl⟩ | ⟨k', rfl⟩
  · simp [Instr.sliceBounds]
  · simp [Instr.sliceBounds, Instr.sliceBound, asIntOf, show h ≤ cap by omega]
  · simp [Instr.sliceBounds, Instr.sliceBound, asIntOf, h1]
  · simp [Instr.sliceBounds, Instr.sliceBound, asIntOf, h1, show h ≤ cap by omega]
theorem sliceVal_sound {sz : Nat} {lo hi : Option AV} {x r : AV} {u : Value} {vl vh : Option Value} (h : sliceVal sz lo hi x = some r) (hx : VR F w x u)
    (hl : (lo = none ∧ vl = none) ∨ ∃ b v, lo = some b ∧ vl = some v ∧ VR F w b v) (hh : (hi = none ∧ vh = none) ∨ ∃ b v, hi = some b ∧ vh = some v ∧ VR F w b v)
    (t : TypeId) {e : TypeId} (ht : P.underlying t = some (.slice e)) (hs : sizeP P e = some sz) (h0 : sz ≠ 0) :
    ∃ z, (Instr.sliceAt t u vl vh none).run P w = .ok z w ∧ VR F w r z := by
  have hz := sizeP_run hs w
  have hS : Instr.sliceAt t u vl vh none = Instr.sliceAt t u vl vh none := rfl
  have hrun : ∀ A n cap l hh', (Instr.sliceBounds true n cap vl vh none).run P w = .ok (l, hh', cap) w → (Instr.sliceAt t (.slice A n cap) vl vh none).run P w = .ok (.slice (if cap = l then A else A.map (·.add (l * sz))) (hh' - l) (cap - l)) w := by
    intro A n cap l hh' hb
    simp [Instr.sliceAt, Instr.slice, run_underlying ht, hb, hz]
  cases x with
  | fz sz' xs =>
    rw [sliceVal_fz] at h
    simp only [Option.bind_eq_some_iff] at h
    obtain ⟨l, hl1, hh', hh1, h⟩ := h
    split at h
    · rename_i hc
      obtain ⟨c1, c2, rfl⟩ := hc
      injection h with h; subst h
      cases hx with
      | fz _ _ A cap g h1 h2 h3 h4 h5 =>
        have hb := bounds_run (P := P) (bnd_run hl hl1) (bnd_run hh hh1) c1 c2 h1 w
        refine ⟨_, hrun _ _ _ _ _ hb, ?_⟩
        have hlen : ((xs.take hh').drop l).length = hh' - l := by simp; omega
        by_cases hcap : cap = l
        · rw [if_pos hcap]
          have : (xs.take hh').drop l = [] := by apply List.eq_nil_of_length_eq_zero; omega
          rw [this]
          have e1 : hh' - l = ([] : List AV).length := by simp; omega
          rw [e1]
          exact .fz _ _ _ _ (fun _ _ => undef) (by simp) (by omega) (by simp) (by simp) (by simp)
        · rw [if_neg hcap, ← hlen]
          have idx : ∀ i x, ((xs.take hh').drop l)[i]? = some x → xs[l + i]? = some x := by
            intro i x hx
            rw [List.getElem?_drop, List.getElem?_take] at hx
            split at hx
            · exact hx
            · simp at hx
          have hblk : (A.add (l * sz')).block = A.block := by unfold Addr.add; split <;> rfl
          refine .fz _ _ _ _ (fun i j => g (l + i) j) (by rw [hlen]; omega) (by omega) (fun i x hx => h3 _ _ (idx i x hx)) (fun i x j y hx hy => ?_) (fun i x j y hx hy => h5 _ _ _ _ (idx i x hx) hy)
          obtain ⟨q1, q2⟩ := h4 _ _ _ _ (idx i x hx) hy
          refine ⟨by rw [hblk]; exact q1, ?_⟩
          rw [add_assoc', ← q2]
          congr 2
          rw [Nat.add_mul, Nat.add_assoc]
      | fznil =>
        have c2' : hh' = 0 := by simpa using c2
        subst c2'
        have c1' : l = 0 := by omega
        subst c1'
        have hb := bounds_run (P := P) (len := 0) (cap := 0) (bnd_run hl hl1) (bnd_run hh hh1) (Nat.le_refl _) (Nat.le_refl _) (Nat.le_refl _) w
        exact ⟨_, hrun _ _ _ _ _ hb, by simpa using VR.fznil sz'⟩
    · simp at h
  | ref hq a sz' off n =>
    rw [sliceVal_ref] at h
    simp only [Option.bind_eq_some_iff] at h
    obtain ⟨l, hl1, hh', hh1, h⟩ := h
    split at h
    · rename_i hc
      obtain ⟨c1, c2, rfl⟩ := hc
      injection h with h; subst h
      cases hx with
      | ref _ _ _ _ _ cap cs ty q0 q1 q2 q3 q4 =>
        have hb := bounds_run (P := P) (bnd_run hl hl1) (bnd_run hh hh1) c1 c2 q1 w
        refine ⟨_, hrun _ _ _ _ _ hb, ?_⟩
        by_cases hcap : cap = l
        · rw [if_pos hcap]
          have e1 : hh' - l = 0 := by omega
          have e2 : cap - l = 0 := by omega
          rw [e1, e2]
          exact .refz _ _ _ _ _
        · rw [if_neg hcap]
          have e1 : (⟨a.blk, a.base + off * sz', none⟩ : Addr).add (l * sz') = ⟨a.blk, a.base + (off + l) * sz', none⟩ := by
            rw [Addr.add_lit, Nat.add_mul]; simp [Nat.add_assoc]
          simp only [Option.map_some, e1]
          refine .ref _ _ _ _ _ _ cs ty q0 (by omega) (by omega) q3 ?_
          have e3 : off + l + (cap - l) = off + cap := by omega
          rw [e3]; exact q4
      | refz _ _ _ _ A =>
        have e1 : hh' = 0 := by omega
        have e2 : l = 0 := by omega
        subst e1; subst e2
        have hb := bounds_run (P := P) (len := 0) (cap := 0) (bnd_run hl hl1) (bnd_run hh hh1) (Nat.le_refl _) (Nat.le_refl _) (Nat.le_refl _) w
        exact ⟨_, hrun _ _ _ _ _ hb, by simpa using VR.refz hq a sz' off A⟩
      | refnil =>
        have e1 : hh' = 0 := by omega
        have e2 : l = 0 := by omega
        subst e1; subst e2
        have hb := bounds_run (P := P) (len := 0) (cap := 0) (bnd_run hl hl1) (bnd_run hh hh1) (Nat.le_refl _) (Nat.le_refl _) (Nat.le_refl _) w
        exact ⟨_, hrun _ _ _ _ _ hb, by simpa using VR.refnil hq a sz' off⟩
    · simp at h
  | _ => simp [sliceVal] at h

theorem opds_rel {ρc : Operand → Value} {ρa : Opd → Option AV} (hρ : ∀ x y a, compOpd x = some y → ρa y = some a → VR F w a (ρc x)) : ∀ {xs : List Operand} {ys : List Opd} {as : List AV}, compOpds xs = some ys → opds ρa ys = some as →
    as.length = xs.length ∧ ∀ (i : Nat) (a : AV) (v : Value), as[i]? = some a → (xs.map ρc)[i]? = some v → VR F w a v
  | [], ys, as, h, ha => by
    simp [compOpds] at h; subst h; simp [opds] at ha; subst ha; simp
  | x :: xs, ys, as, h, ha => by
    simp only [compOpds, Option.bind_eq_some_iff] at h
    obtain ⟨y, hy, ys', hys, e⟩ := h
    injection e with e; subst e
    simp only [opds, Option.bind_eq_some_iff] at ha
    obtain ⟨a, ha, as', has, e⟩ := ha
    injection e with e; subst e
    obtain ⟨h1, h2⟩ := opds_rel hρ hys has
    refine ⟨by simp [h1], fun i b v hb hv => ?_⟩
    match i with
    | 0 => simp at hb hv; subst hb; subst hv; exact hρ _ _ _ hy ha
    | i + 1 => simp at hb hv; exact h2 i b v hb (by simpa using hv)
theorem minVal_sound : ∀ (l : List AV) (vs : List Value) (k : IntKind) (x : Int) (r : AV), minVal (.v (.int k x)) l = some r → l.length = vs.length → (∀ (i : Nat) (a : AV) (v : Value), l[i]? = some a → vs[i]? = some v → VR F w a v) → ∃ z, (vs.foldlM Builtin.min2 (.int k x)).run P w = .ok z w ∧ VR F w r z
  | [], [], k, x, r, h, _, _ => by simp [minVal] at h; subst h; exact ⟨_, by simp, .v _⟩
  | a :: l, v :: vs, k, x, r, h, hl, hr => by
    have h0 := hr 0 a v rfl rfl
    unfold minVal at h
    split at h
    · simp at *
    · rename_i k2 x2 k3 y rest e1 e2
      injection e1 with e1; injection e1 with e1 e1'; subst e1; subst e1'
      simp only [List.cons.injEq] at e2
      obtain ⟨rfl, rfl⟩ := e2
      obtain rfl := h0.inv_v
      obtain ⟨z, hz1, hz2⟩ := minVal_sound l vs k _ r h (by simpa using hl) (fun i a v ha hv => hr (i + 1) a v (by simpa using ha) (by simpa using hv))
      exact ⟨z, by simpa [List.foldlM_cons, Builtin.min2] using hz1, hz2⟩
    · simp at h
theorem maxVal_sound : ∀ (l : List AV) (vs : List Value) (k : IntKind) (x : Int) (r : AV), maxVal (.v (.int k x)) l = some r → l.length = vs.length → (∀ (i : Nat) (a : AV) (v : Value), l[i]? = some a → vs[i]? = some v → VR F w a v) → ∃ z, (vs.foldlM Builtin.max2 (.int k x)).run P w = .ok z w ∧ VR F w r z
  | [], [], k, x, r, h, _, _ => by simp [maxVal] at h; subst h; exact ⟨_, by simp, .v _⟩
  | a :: l, v :: vs, k, x, r, h, hl, hr => by
    have h0 := hr 0 a v rfl rfl
    unfold maxVal at h
    split at h
    · simp at *
    · rename_i k2 x2 k3 y rest e1 e2
      injection e1 with e1; injection e1 with e1 e1'; subst e1; subst e1'
      simp only [List.cons.injEq] at e2
      obtain ⟨rfl, rfl⟩ := e2
      obtain rfl := h0.inv_v
      obtain ⟨z, hz1, hz2⟩ := maxVal_sound l vs k _ r h (by simpa using hl) (fun i a v ha hv => hr (i + 1) a v (by simpa using ha) (by simpa using hv))
      exact ⟨z, by simpa [List.foldlM_cons, Builtin.max2] using hz1, hz2⟩
    · simp at h
/-- cells one by one -/
def CR (F : Nat → Prop) (w : World) (cs : List AV) (vs : Array Value) : Prop := cs.length = vs.size ∧ ∀ (i : Nat) (a : AV) (v : Value), cs[i]? = some a → vs[i]? = some v → VR F w a v
theorem foldSet (off : Nat) : ∀ (vs : List Value) (k : Nat) (arr : Array Value), off + k + vs.length ≤ arr.size →
    ((vs.zipIdx k).foldl (fun (cs : Array Value) (p : Value × Nat) => cs.setIfInBounds (off + p.2) p.1) arr).size = arr.size ∧
    ∀ i : Nat, ((vs.zipIdx k).foldl (fun (cs : Array Value) (p : Value × Nat) => cs.setIfInBounds (off + p.2) p.1) arr)[i]? = if off + k ≤ i ∧ i < off + k + vs.length then vs[i - (off + k)]? else arr[i]?
  | [], k, arr, _ => by
    refine ⟨rfl, fun i => ?_⟩
    simp only [List.zipIdx_nil, List.foldl_nil, List.length_nil, Nat.add_zero]
    rw [if_neg (by omega)]
  | v :: vs, k, arr, h => by
    simp only [List.length_cons] at h
    obtain ⟨h1, h2⟩ := foldSet off vs (k + 1) (arr.setIfInBounds (off + k) v) (by simp; omega)
    refine ⟨by simpa using h1, fun i => ?_⟩
    simp only [List.zipIdx_cons, List.foldl_cons]
    rw [h2 i]
    simp only [List.length_cons]
    by_cases e : i = off + k
    · subst e
      rw [if_neg (by omega), if_pos ⟨Nat.le_refl _, by omega⟩]
      simp only [Nat.sub_self, List.getElem?_cons_zero]
      rw [Array.getElem?_setIfInBounds, if_pos rfl, if_pos (by omega)]
    · by_cases c : off + (k + 1) ≤ i ∧ i < off + (k + 1) + vs.length
      · rw [if_pos c, if_pos ⟨by omega, by omega⟩]
        have : i - (off + k) = (i - (off + (k + 1))) + 1 := by omega
        rw [this, List.getElem?_cons_succ]
      · rw [if_neg c, if_neg (by omega), Array.getElem?_setIfInBounds, if_neg (fun h => e h.symm)]
theorem splice_rel {cs xs : List AV} {arr : Array Value} {vs : List Value} {off : Nat} (h : CR F w cs arr) (hl : xs.length = vs.length) (hx : ∀ (i : Nat) (a : AV) (v : Value), xs[i]? = some a → vs[i]? = some v → VR F w a v) (hle : off + vs.length ≤ cs.length) :
    CR F w (cs.take off ++ xs ++ cs.drop (off + vs.length)) ((vs.zipIdx 0).foldl (fun (cs : Array Value) (p : Value × Nat) => cs.setIfInBounds (off + p.2) p.1) arr) := by
  obtain ⟨h1, h2⟩ := h
  obtain ⟨f1, f2⟩ := foldSet off vs 0 arr (by omega)
  refine ⟨by rw [f1]; simp; omega, fun i a v ha hv => ?_⟩
  rw [f2] at hv
  simp only [Nat.add_zero] at hv
  by_cases c : i < off
  · rw [if_neg (by omega)] at hv
    rw [List.append_assoc, List.getElem?_append_left (by simp; omega), List.getElem?_take, if_pos c] at ha
    exact h2 i a v ha hv
  · by_cases c2 : i < off + vs.length
    · rw [if_pos ⟨by omega, c2⟩] at hv
      rw [List.append_assoc, List.getElem?_append_right (by simp; omega), List.getElem?_append_left (by simp; omega)] at ha
      have e : (cs.take off).length = off := by simp; omega
      rw [e] at ha
      exact hx _ a v ha hv
    · rw [if_neg (by omega)] at hv
      rw [List.getElem?_append_right (by simp; omega), List.getElem?_drop] at ha
      have e : off + vs.length + (i - (cs.take off ++ xs).length) = i := by simp; omega
      rw [e] at ha
      exact h2 i a v ha hv
theorem fillVal_sound (place : Nat → Option (Nat × Nat)) : ∀ (l : List (Nat × Nat × AV)) (ps : List (Nat × Value)) (cs r : List AV) (arr : Array Value), fillVal cs l = some r → CR F w cs arr → l.length = ps.length →
    (∀ (i : Nat) (p : Nat × Nat × AV) (q : Nat × Value), l[i]? = some p → ps[i]? = some q → place q.1 = some (p.1, p.2.1) ∧ VR F w p.2.2 q.2) → ∃ arr', Instr.fill place arr ps = some arr' ∧ CR F w r arr'
  | [], [], cs, r, arr, h, hc, _, _ => by simp [fillVal] at h; subst h; exact ⟨arr, rfl, hc⟩
  | p :: l, q :: ps, cs, r, arr, h, hc, hl, hr => by
    obtain ⟨off, size, x⟩ := p
    obtain ⟨i, v⟩ := q
    obtain ⟨hp, hv⟩ := hr 0 (off, size, x) (i, v) rfl rfl
    simp only [fillVal] at h
    split at h
    · rename_i hle
      obtain ⟨hok, e1, e2⟩ := hle
      have hcell := hv.cellsOf (by
        cases x <;> first | exact .inr ⟨_, rfl⟩ | exact .inl hok)
      have hsz : v.cells.size = size := by rw [← hcell.1]; exact e1
      have hsp := splice_rel (xs := x.cells) (vs := v.cells.toList) (off := off) hc (by simpa using hcell.1) (fun i a u ha hu => by
        obtain ⟨u', h1, h2⟩ := hcell.2 i a ha
        have : u' = u := by
          have h3 : v.cells[i]? = some u := by simpa using hu
          rw [h1] at h3; injection h3
        subst this; exact h2) (by simpa [hsz] using e2)
      have e3 : v.cells.toList.length = size := by simpa using hsz
      rw [e3] at hsp
      obtain ⟨arr', h1, h2⟩ := fillVal_sound place l ps _ r _ h hsp (by simpa using hl) (fun i p q hp hq => hr (i + 1) p q (by simpa using hp) (by simpa using hq))
      refine ⟨arr', ?_, h2⟩
      have hcond : (decide (v.cells.size ≠ size) || decide (off + v.cells.size > arr.size)) = false := by
        have := hc.1; simp; omega
      simp only [Instr.fill, hp]
      rw [hcond]
      simp only [Bool.false_eq_true, if_false]
      rw [← h1]
      congr 1
      rw [← Array.foldl_toList, Array.toList_zipIdx]
    · simp at h
end Go.Proofs.Ytjnencdmejhmjaa.Eng
namespace Go.Proofs.Ytjnencdmejhmjaa.Eng
open Go Go.RowKit
set_option linter.unusedSimpArgs false
set_option linter.unusedVariables false
variable {P : Program} {F : Nat → Prop} {w : World}

theorem eqsVal_sound (d : Nat) (xs ys : List Value) : ∀ (fs : List Field) (n : Nat) (as bs : List AV) (t : Bool), plainFields P fs n = true → eqsVal (kindsP P fs) as bs = some t →
    (∀ (i : Nat) (a : AV), as[i]? = some a → ∃ v, xs[n + i]? = some v ∧ VR F w a v) → (∀ (i : Nat) (a : AV), bs[i]? = some a → ∃ v, ys[n + i]? = some v ∧ VR F w a v) →
    (Op.eqFields (d + 1) xs.toArray ys.toArray fs).run P w = .ok t w
  | [], n, as, bs, t, _, h, _, _ => by
    simp only [kindsP, List.map_nil] at h
    unfold eqsVal at h
    split at h
    · simp at h; subst h; simp [Op.eqFields]
    · simp at *
    · simp at *
    · simp at h
  | f :: fs, n, as, bs, t, hp, h, hx, hy => by
    simp only [plainFields, Bool.and_eq_true, beq_iff_eq, bne_iff_ne, ne_eq] at hp
    obtain ⟨⟨⟨ho, hname⟩, hsc⟩, hrest⟩ := hp
    have hne : f.name ≠ "_" := hname
    have hagg : (isAgg f.type).run P w = .ok false w := by
      rcases scalarP_eq hsc with ⟨k, e⟩ | e <;> simp [isAgg, run_underlying e]
    have rec_ : ∀ a as b bs t, (∀ (i : Nat) (c : AV), (a :: as)[i]? = some c → ∃ v, xs[n + i]? = some v ∧ VR F w c v) → (∀ (i : Nat) (c : AV), (b :: bs)[i]? = some c → ∃ v, ys[n + i]? = some v ∧ VR F w c v) → eqsVal (kindsP P fs) as bs = some t → (Op.eqFields (d + 1) xs.toArray ys.toArray fs).run P w = .ok t w := fun a as b bs t hx hy ht =>
      eqsVal_sound d xs ys fs (n + 1) as bs t hrest ht
        (fun i a ha => by obtain ⟨v, q1, q2⟩ := hx (i + 1) a (by simpa using ha); exact ⟨v, by rwa [show n + 1 + i = n + (i + 1) by omega], q2⟩)
        (fun i a ha => by obtain ⟨v, q1, q2⟩ := hy (i + 1) a (by simpa using ha); exact ⟨v, by rwa [show n + 1 + i = n + (i + 1) by omega], q2⟩)
    simp only [kindsP, List.map_cons] at h
    unfold eqsVal at h
    split at h
    · simp at *
    · rename_i ks k x r k' y s e0
      simp only [List.cons.injEq] at e0
      obtain ⟨e0, rfl⟩ := e0
      obtain ⟨v, hv1, hv2⟩ := hx 0 _ rfl
      obtain ⟨u, hu1, hu2⟩ := hy 0 _ rfl
      obtain rfl := hv2.inv_v
      obtain rfl := hu2.inv_v
      have hpx : (part f.type xs.toArray f.offset).run P w = .ok (.int k x) w := by
        have : xs[f.offset]? = some (.int k x) := by rw [ho]; simpa using hv1
        simp [part, hagg, this]
      have hpy : (part f.type ys.toArray f.offset).run P w = .ok (.int k' y) w := by
        have : ys[f.offset]? = some (.int k' y) := by rw [ho]; simpa using hu1
        simp [part, hagg, this]
      split at h
      · rename_i hk
        subst hk
        rcases scalarP_eq hsc with ⟨k2, e⟩ | e
        · have heq := run_equalIn_int (P := P) w d f.type k k2 x y e
          split at h
          · rename_i hxy
            subst hxy
            simp [Op.eqFields, hne, hpx, hpy, heq, rec_ _ _ _ _ t hx hy h]
          · rename_i hxy
            injection h with h; subst h
            have : (x == y) = false := by simpa using hxy
            simp [Op.eqFields, hne, hpx, hpy, heq, this]
        · rw [e] at e0; simp at e0
      · simp at h
    · rename_i ks x r y s e0
      simp only [List.cons.injEq] at e0
      obtain ⟨e0, rfl⟩ := e0
      obtain ⟨v, hv1, hv2⟩ := hx 0 _ rfl
      obtain ⟨u, hu1, hu2⟩ := hy 0 _ rfl
      obtain rfl := hv2.inv_v
      obtain rfl := hu2.inv_v
      have hpx : (part f.type xs.toArray f.offset).run P w = .ok (.bool x) w := by
        have : xs[f.offset]? = some (.bool x) := by rw [ho]; simpa using hv1
        simp [part, hagg, this]
      have hpy : (part f.type ys.toArray f.offset).run P w = .ok (.bool y) w := by
        have : ys[f.offset]? = some (.bool y) := by rw [ho]; simpa using hu1
        simp [part, hagg, this]
      rcases scalarP_eq hsc with ⟨k2, e⟩ | e
      · rw [e] at e0; simp at e0
      · have heq := run_equalIn_bool' (P := P) w d f.type x y e
        split at h
        · rename_i hxy
          subst hxy
          simp [Op.eqFields, hne, hpx, hpy, heq, rec_ _ _ _ _ t hx hy h]
        · rename_i hxy
          injection h with h; subst h
          have : (x == y) = false := by simpa using hxy
          simp [Op.eqFields, hne, hpx, hpy, heq, this]
    · simp at h
theorem mapM_run {α β : Type} (g : α → Sem β) (h : α → β) (w : World) : ∀ l : List α, (∀ a ∈ l, (g a).run P w = .ok (h a) w) → (l.mapM g).run P w = .ok (l.map h) w
  | [], _ => by simp
  | a :: l, hl => by
    have ih := mapM_run g h w l (fun b hb => hl b (List.mem_cons_of_mem _ hb))
    simp only [List.mapM_cons, Sem.run_bind, hl a List.mem_cons_self, Result.andThen_ok, ih, Sem.run_pure, List.map_cons]
theorem places_run (fs : Array Field) (h : (fs.toList.all fun f => (sizeP P f.type).isSome) = true) (w : World) :
    (fs.mapM (m := Sem) fun f => do pure (f.offset, ← sizeOf f.type)).run P w = .ok (fs.map fun f => (f.offset, (sizeP P f.type).getD 0)) w := by
  rw [Array.mapM_eq_mapM_toList, Sem.run_map, mapM_run (P := P) _ (fun f => (f.offset, (sizeP P f.type).getD 0)) w]
  · simp only [Result.andThen_ok, List.map_toArray, ← Array.toList_map, Array.toArray_toList]
  · intro f hf
    obtain ⟨n, hn⟩ := Option.isSome_iff_exists.1 (List.all_eq_true.1 h f hf)
    simp [sizeP_run hn w, hn]
theorem compParts_rel {ρc : Operand → Value} {ρa : Opd → Option AV} (hρ : ∀ x y a, compOpd x = some y → ρa y = some a → VR F w a (ρc x)) (fs : Array Field) : ∀ {ps : List (Nat × Operand)} {l : List (Nat × Nat × Opd)} {as : List (Nat × Nat × AV)}, compParts P fs ps = some l → opdParts ρa l = some as →
    as.length = ps.length ∧ ∀ (i : Nat) (p : Nat × Nat × AV) (q : Nat × Value), as[i]? = some p → (ps.map fun (i, x) => (i, ρc x))[i]? = some q → (fs.map fun f => (f.offset, (sizeP P f.type).getD 0))[q.1]? = some (p.1, p.2.1) ∧ VR F w p.2.2 q.2
  | [], l, as, h, ha => by
    simp [compParts] at h; subst h; simp [opdParts] at ha; subst ha; simp
  | (i, x) :: ps, l, as, h, ha => by
    simp only [compParts, Option.bind_eq_some_iff] at h
    obtain ⟨f, hf, n, hn, y, hy, l', hl', e⟩ := h
    injection e with e; subst e
    simp only [opdParts, Option.bind_eq_some_iff] at ha
    obtain ⟨a, ha, as', has, e⟩ := ha
    injection e with e; subst e
    obtain ⟨h1, h2⟩ := compParts_rel hρ fs hl' has
    refine ⟨by simp [h1], fun j p q hp hq => ?_⟩
    match j with
    | 0 =>
      simp at hp hq; subst hp; subst hq
      exact ⟨by simp [hf, hn], hρ _ _ _ hy ha⟩
    | j + 1 => simp at hp hq; exact h2 j p q hp (by simpa using hq)
theorem build_sound {ρc : Operand → Value} {ρa : Opd → Option AV} (hρ : ∀ x y a, compOpd x = some y → ρa y = some a → VR F w a (ρc x)) {t : TypeId} {fs : Array Field} (ht : P.underlying t = some (.struct fs)) {i : TypeInfo} (hi : P.info? t = some i) {z : Array Value} (hz : i.zero = some (.agg z))
    (hall : (fs.toList.all fun f => (sizeP P f.type).isSome) = true) {parts : Array (Nat × Operand)} {l : List (Nat × Nat × Opd)} (hl : compParts P fs parts.toList = some l) {as : List (Nat × Nat × AV)} (ha : opdParts ρa l = some as) {cs : List AV} (hc : fillVal (z.toList.map .v) as = some cs) :
    ∃ v, (Instr.build t (parts.map fun (i, x) => (i, ρc x))).run P w = .ok v w ∧ VR F w (.agg cs) v := by
  obtain ⟨h1, h2⟩ := compParts_rel hρ fs hl ha
  have hz0 : CR F w (z.toList.map .v) z := ⟨by simp, fun i a v ha hv => by
    rw [List.getElem?_map] at ha
    have e : z.toList[i]? = some v := by simpa using hv
    rw [e] at ha; simp at ha; subst ha; exact .v _⟩
  obtain ⟨arr, e1, e2⟩ := fillVal_sound (F := F) (w := w) (fun q => (fs.map fun f => (f.offset, (sizeP P f.type).getD 0))[q]?) as (parts.toList.map fun (i, x) => (i, ρc x)) _ _ z hc hz0 (by simp [h1]) h2
  refine ⟨.agg arr, ?_, ?_⟩
  · have e3 : (parts.map fun (i, x) => (i, ρc x)).toList = parts.toList.map fun (i, x) => (i, ρc x) := by simp
    simp only [Instr.build, Sem.run_bind, zeroValue, typeInfo, run_program, Result.andThen_ok, hi, Sem.run_pure, hz, run_underlying ht, places_run fs hall w, Value.cells, e3, e1]
  · obtain ⟨vs, rfl⟩ : ∃ vs : List Value, arr = vs.toArray := ⟨arr.toList, by simp⟩
    exact .agg _ _ (by simpa using e2.1) (fun i x y hx hy => e2.2 i x y hx (by simpa using hy))
end Go.Proofs.Ytjnencdmejhmjaa.Eng
namespace Go.Proofs.Ytjnencdmejhmjaa.Eng
open Go Go.RowKit
set_option linter.unusedSimpArgs false
set_option linter.unusedVariables false
variable {P : Program} {F : Nat → Prop} {w : World}

theorem val_sound {Keep : Nat → Prop} {H : Heap} (hH : HeapOK Keep F w H) {ρc : Operand → Value} {ρa : Opd → Option AV} (hρ : ∀ x y a, compOpd x = some y → ρa y = some a → VR F w a (ρc x)) (o : Oper) {q : IOp} (hc : compVal P o.op = some q) {r : AV} (hv : q.val ρa H = some r) :
    ∃ v, (execOp ρc o).run P w = .ok (.value v) w ∧ VR F w r v := by
  unfold compVal at hc
  split at hc
  · rename_i x e
    simp only [Option.bind_eq_some_iff] at hc; obtain ⟨y, hy, hc⟩ := hc; injection hc with hc; subst hc
    exact ⟨_, by simp [execOp, e], hρ _ _ _ hy hv⟩
  · rename_i x e
    simp only [Option.bind_eq_some_iff] at hc; obtain ⟨y, hy, hc⟩ := hc; injection hc with hc; subst hc
    exact ⟨_, by simp [execOp, e], hρ _ _ _ hy hv⟩
  · rename_i c a b e
    simp only [Option.bind_eq_some_iff] at hc; obtain ⟨c', hc', a', ha', b', hb', hc⟩ := hc; injection hc with hc; subst hc
    simp only [IOp.val, Option.bind_eq_some_iff] at hv
    obtain ⟨t, ht, hv⟩ := hv
    unfold pickVal at hv
    split at hv
    · rename_i t
      have h1 := (hρ _ _ _ hc' ht).inv_v
      cases t
      · simp at hv; exact ⟨_, by simp [execOp, e, h1, asBool], hρ _ _ _ hb' hv⟩
      · simp at hv; exact ⟨_, by simp [execOp, e, h1, asBool], hρ _ _ _ ha' hv⟩
    · simp at hv
  · rename_i op t x y yt e
    simp only [Option.bind_eq_some_iff] at hc; obtain ⟨x', hx', y', hy', hc⟩ := hc
    have hex : execOp ρc o = (do pure (.value (← (do eqGuard op t x y (ρc x) (ρc y); binOp op t (ρc x) (ρc y))))) := by simp only [execOp, e]
    split at hc
    · injection hc with hc; subst hc
      simp only [IOp.val, Option.bind_eq_some_iff] at hv
      obtain ⟨a, ha, b, hb, hv⟩ := hv
      obtain ⟨z, h1, h2⟩ := binVal_sound (P := P) hv (hρ _ _ _ hx' ha) (hρ _ _ _ hy' hb) t x y
      exact ⟨z, by rw [hex, Sem.run_bind, h1]; rfl, h2⟩
    · rename_i hu
      split at hc
      · injection hc with hc; subst hc
        simp only [IOp.val, Option.bind_eq_some_iff] at hv
        obtain ⟨a, ha, b, hb, hv⟩ := hv
        obtain ⟨z, h1, h2⟩ := boolVal_sound (P := P) hv (hρ _ _ _ hx' ha) (hρ _ _ _ hy' hb) t hu x y
        exact ⟨z, by rw [hex, Sem.run_bind]; simp only [Bool.false_eq_true, if_false] at h1; rw [h1]; rfl, h2⟩
      · injection hc with hc; subst hc
        simp only [IOp.val, Option.bind_eq_some_iff] at hv
        obtain ⟨a, ha, b, hb, hv⟩ := hv
        obtain ⟨z, h1, h2⟩ := boolVal_sound (P := P) hv (hρ _ _ _ hx' ha) (hρ _ _ _ hy' hb) t hu x y
        exact ⟨z, by rw [hex, Sem.run_bind]; simp only [if_true] at h1; rw [h1]; rfl, h2⟩
      · simp at hc
    · rename_i fs hu
      split at hc
      · rename_i hk
        simp only [Bool.and_eq_true, Bool.not_eq_true'] at hk
        obtain ⟨⟨hpl, hst⟩, hg⟩ := hk
        have main : ∀ neg, IOp.val ρa H (.eqs neg (kindsP P fs.toList) x' y') = some r → ∃ v, (do eqGuard (if neg then .neq else .eql) t x y (ρc x) (ρc y); binOp (if neg then .neq else .eql) t (ρc x) (ρc y) : Sem Value).run P w = .ok v w ∧ VR F w r v := by
          intro neg hv
          simp only [IOp.val, Option.bind_eq_some_iff] at hv
          obtain ⟨a, ha, b, hb, hv⟩ := hv
          unfold eqCells at hv
          split at hv
          · rename_i as bs
            simp only [Option.bind_eq_some_iff] at hv
            obtain ⟨tt, htt, hv⟩ := hv
            injection hv with hv; subst hv
            obtain ⟨vs, e1, l1, r1⟩ := (hρ _ _ _ hx' ha).inv_agg
            obtain ⟨us, e2, l2, r2⟩ := (hρ _ _ _ hy' hb).inv_agg
            rw [e1, e2]
            have hfo : P.fieldsOf t = fs := by simp [Program.fieldsOf, hu]
            have hu' : P.underlying t = some (.struct (P.fieldsOf t)) := by rw [hfo]; exact hu
            have hq := eqsVal_sound (P := P) (F := F) (w := w) 9998 vs us fs.toList 0 as bs tt hpl htt
              (fun i c hc => by
                have hi : i < vs.length := by rw [← l1]; exact (List.getElem?_eq_some_iff.1 hc).1
                exact ⟨vs[i], by simp [hi], r1 i c _ hc (by simp [hi])⟩)
              (fun i c hc => by
                have hi : i < us.length := by rw [← l2]; exact (List.getElem?_eq_some_iff.1 hc).1
                exact ⟨us[i], by simp [hi], r2 i c _ hc (by simp [hi])⟩)
            have hE : (Op.equalIn 10000 t (.agg vs.toArray) (.agg us.toArray)).run P w = .ok tt w := by
              rw [show (10000 : Nat) = 9999 + 1 from rfl, run_equalIn_struct w 9999 t _ _ hu' hst, hfo]; exact hq
            cases neg
            · refine ⟨_, ?_, .v _⟩
              simp only [Bool.false_eq_true, if_false, Sem.run_bind, run_eqGuard_agg w _ t x y _ _ hg, Result.andThen_ok, run_eql_struct, hE]
            · refine ⟨_, ?_, .v _⟩
              simp only [if_true, Sem.run_bind, run_eqGuard_agg w _ t x y _ _ hg, Result.andThen_ok, run_neq_struct, hE]
          · simp at hv
        split at hc
        · injection hc with hc; subst hc
          obtain ⟨z, h1, h2⟩ := main false hv
          exact ⟨z, by rw [hex, Sem.run_bind]; simp only [Bool.false_eq_true, if_false] at h1; rw [h1]; rfl, h2⟩
        · injection hc with hc; subst hc
          obtain ⟨z, h1, h2⟩ := main true hv
          exact ⟨z, by rw [hex, Sem.run_bind]; simp only [if_true] at h1; rw [h1]; rfl, h2⟩
        · simp at hc
      · simp at hc
    · simp at hc
  · rename_i op t x e
    simp only [Option.bind_eq_some_iff] at hc; obtain ⟨x', hx', hc⟩ := hc
    split at hc
    · injection hc with hc; subst hc
      simp only [IOp.val, Option.bind_eq_some_iff] at hv
      obtain ⟨a, ha, hv⟩ := hv
      obtain ⟨z, h1, h2⟩ := unVal_sound (P := P) hv (hρ _ _ _ hx' ha)
      exact ⟨z, by simp [execOp, e, h1], h2⟩
    · injection hc with hc; subst hc
      simp only [IOp.val, Option.bind_eq_some_iff] at hv
      obtain ⟨a, ha, hv⟩ := hv
      obtain ⟨z, h1, h2⟩ := unVal_sound (P := P) hv (hρ _ _ _ hx' ha)
      exact ⟨z, by simp [execOp, e, h1], h2⟩
    · simp at hc
  · rename_i src dst x e
    split at hc
    · rename_i k' k hs hd
      simp only [Option.bind_eq_some_iff] at hc; obtain ⟨x', hx', hc⟩ := hc; injection hc with hc; subst hc
      simp only [IOp.val, Option.bind_eq_some_iff] at hv
      obtain ⟨a, ha, hv⟩ := hv
      unfold convVal at hv
      split at hv
      · injection hv with hv; subst hv
        have h1 := (hρ _ _ _ hx' ha).inv_v
        exact ⟨_, by simp [execOp, e, h1, convert, run_underlying hs, run_underlying hd, Conv.intToInt], .v _⟩
      · simp at hv
    · simp at hc
  · rename_i t x e
    simp only [Option.bind_eq_some_iff] at hc; obtain ⟨n, hn, x', hx', hc⟩ := hc; injection hc with hc; subst hc
    simp only [IOp.val, Option.bind_eq_some_iff] at hv
    obtain ⟨a, ha, hv⟩ := hv
    obtain ⟨z, h1, h2⟩ := loadVal_sound hH hv (hρ _ _ _ hx' ha) t hn
    exact ⟨z, by simp [execOp, e, h1], h2⟩
  · rename_i x e
    simp only [Option.bind_eq_some_iff] at hc; obtain ⟨x', hx', hc⟩ := hc; injection hc with hc; subst hc
    simp only [IOp.val, Option.bind_eq_some_iff] at hv
    obtain ⟨a, ha, hv⟩ := hv
    have hx := hρ _ _ _ hx' ha
    unfold nilckVal at hv
    split at hv
    · injection hv with hv; subst hv
      generalize hz : ρc x = z at hx
      cases hx with
      | ptr => exact ⟨_, by simp [execOp, e, hz], .ptr _ _ _ _ _⟩
    · injection hv with hv; subst hv
      generalize hz : ρc x = z at hx
      have hx2 := hx
      cases hx with
      | fptr => exact ⟨_, by simp [execOp, e, hz], hx2⟩
    · injection hv with hv; subst hv
      generalize hz : ρc x = z at hx
      have hx2 := hx
      cases hx with
      | fn => exact ⟨_, by simp [execOp, e, hz], hx2⟩
    · simp at hv
  · rename_i s x f e
    split at hc
    · rename_i fs hs
      simp only [Option.bind_eq_some_iff] at hc; obtain ⟨g, hg, n, hn, hc⟩ := hc
      split at hc
      · simp at hc
      · rename_i h0
        simp only [Option.bind_eq_some_iff] at hc; obtain ⟨x', hx', hc⟩ := hc; injection hc with hc; subst hc
        simp only [IOp.val, Option.bind_eq_some_iff] at hv
        obtain ⟨a, ha, hv⟩ := hv
        obtain ⟨z, h1, h2⟩ := faddrVal_sound (P := P) hv (hρ _ _ _ hx' ha) s f hs hg hn h0 rfl
        exact ⟨z, by simp [execOp, e, h1], h2⟩
    · simp at hc
  · rename_i s x f e
    split at hc
    · rename_i fs hs
      simp only [Option.bind_eq_some_iff] at hc; obtain ⟨g, hg, n, hn, x', hx', hc⟩ := hc; injection hc with hc; subst hc
      simp only [IOp.val, Option.bind_eq_some_iff] at hv
      obtain ⟨a, ha, hv⟩ := hv
      unfold fldVal at hv
      split at hv
      · obtain ⟨vs, e1, l1, r1⟩ := (hρ _ _ _ hx' ha).inv_agg
        obtain ⟨z, h1, h2⟩ := part_sound (P := P) hn l1 hv r1
        exact ⟨z, by simp [execOp, e, Instr.field, run_underlying hs, hg, e1, asAgg, h1], h2⟩
      · simp at hv
    · simp at hc
  · rename_i t x i e
    split at hc
    · rename_i el hs
      simp only [Option.bind_eq_some_iff] at hc; obtain ⟨n, hn, x', hx', i', hi', hc⟩ := hc; injection hc with hc; subst hc
      simp only [IOp.val, Option.bind_eq_some_iff] at hv
      obtain ⟨a, ha, b, hb, hv⟩ := hv
      obtain ⟨z, h1, h2⟩ := iaddrVal_sound (P := P) hv (hρ _ _ _ hx' ha) (hρ _ _ _ hi' hb) t hs hn
      exact ⟨z, by simp [execOp, e, h1], h2⟩
    · simp at hc
  · rename_i t x lo hi e
    split at hc
    · rename_i el hs
      simp only [Option.bind_eq_some_iff] at hc; obtain ⟨n, hn, hc⟩ := hc
      split at hc
      · simp at hc
      · rename_i h0
        simp only [Option.bind_eq_some_iff] at hc; obtain ⟨x', hx', lo', hlo', hi', hhi', hc⟩ := hc; injection hc with hc; subst hc
        simp only [IOp.val, Option.bind_eq_some_iff] at hv
        obtain ⟨a, ha, l, hl, h, hh, hv⟩ := hv
        obtain ⟨z, h1, h2⟩ := sliceVal_sound (P := P) hv (hρ _ _ _ hx' ha) (optOpd_rel hρ hlo' hl) (optOpd_rel hρ hhi' hh) t hs hn h0
        exact ⟨z, by simp [execOp, e, h1], h2⟩
    · simp at hc
  · rename_i x i e
    simp only [Option.bind_eq_some_iff] at hc; obtain ⟨x', hx', hc⟩ := hc; injection hc with hc; subst hc
    simp only [IOp.val, Option.bind_eq_some_iff] at hv
    obtain ⟨a, ha, hv⟩ := hv
    unfold extVal at hv
    split at hv
    · obtain ⟨vs, e1, l1, r1⟩ := (hρ _ _ _ hx' ha).inv_tup
      have hi : i < vs.length := by rw [← l1]; exact (List.getElem?_eq_some_iff.1 hv).1
      exact ⟨vs[i], by simp [execOp, e, e1, Instr.extract, hi], r1 _ _ _ hv (by simp [hi])⟩
    · simp at hv
  · rename_i xs ts e
    split at hc
    · rename_i x t hxs hts
      split at hc
      · rename_i el hs
        simp only [Option.bind_eq_some_iff] at hc; obtain ⟨x', hx', hc⟩ := hc; injection hc with hc; subst hc
        simp only [IOp.val, Option.bind_eq_some_iff] at hv
        obtain ⟨a, ha, hv⟩ := hv
        obtain ⟨z, h1, h2⟩ := lenVal_sound (P := P) hv (hρ _ _ _ hx' ha) t o.type hs
        obtain rfl : xs = #[x] := by rw [← Array.toArray_toList (xs := xs), hxs]
        obtain rfl : ts = #[t] := by rw [← Array.toArray_toList (xs := ts), hts]
        exact ⟨z, by simp [execOp, e, resolve, invoke, builtin, h1], h2⟩
      · simp at hc
    · simp at hc
  · rename_i xs ts e
    split at hc
    · rename_i x rest hxs
      simp only [Option.bind_eq_some_iff] at hc; obtain ⟨x', hx', l', hl', hc⟩ := hc; injection hc with hc; subst hc
      simp only [IOp.val, Option.bind_eq_some_iff] at hv
      obtain ⟨a, ha, l, hl, hv⟩ := hv
      obtain ⟨o1, o2⟩ := opds_rel hρ hl' hl
      have hx := hρ _ _ _ hx' ha
      have ha2 : ∃ k n, a = .v (.int k n) := by unfold minVal at hv; split at hv <;> first | exact ⟨_, _, rfl⟩ | simp at hv
      obtain ⟨k, n, rfl⟩ := ha2
      have hx := hx.inv_v
      obtain ⟨z, h1, h2⟩ := minVal_sound (P := P) l (rest.map ρc) k n r hv (by simp [o1]) o2
      refine ⟨z, ?_, h2⟩
      have e1 : (Array.map ρc xs).toList = ρc x :: rest.map ρc := by simp [hxs]
      simp only [execOp, e, resolve, invoke, builtin, Sem.run_bind, Sem.run_pure, Result.andThen_ok, Builtin.min_, e1, hx, h1]
    · simp at hc
  · rename_i xs ts e
    split at hc
    · rename_i x rest hxs
      simp only [Option.bind_eq_some_iff] at hc; obtain ⟨x', hx', l', hl', hc⟩ := hc; injection hc with hc; subst hc
      simp only [IOp.val, Option.bind_eq_some_iff] at hv
      obtain ⟨a, ha, l, hl, hv⟩ := hv
      obtain ⟨o1, o2⟩ := opds_rel hρ hl' hl
      have hx := hρ _ _ _ hx' ha
      have ha2 : ∃ k n, a = .v (.int k n) := by unfold maxVal at hv; split at hv <;> first | exact ⟨_, _, rfl⟩ | simp at hv
      obtain ⟨k, n, rfl⟩ := ha2
      have hx := hx.inv_v
      obtain ⟨z, h1, h2⟩ := maxVal_sound (P := P) l (rest.map ρc) k n r hv (by simp [o1]) o2
      refine ⟨z, ?_, h2⟩
      have e1 : (Array.map ρc xs).toList = ρc x :: rest.map ρc := by simp [hxs]
      simp only [execOp, e, resolve, invoke, builtin, Sem.run_bind, Sem.run_pure, Result.andThen_ok, Builtin.max_, e1, hx, h1]
    · simp at hc
  · rename_i t parts e
    split at hc
    · rename_i fs hs
      simp only [Option.bind_eq_some_iff] at hc; obtain ⟨i, hi, hc⟩ := hc
      split at hc
      · rename_i z hz
        split at hc
        · rename_i hall
          simp only [Option.bind_eq_some_iff] at hc; obtain ⟨l, hl, hc⟩ := hc; injection hc with hc; subst hc
          simp only [IOp.val, Option.bind_eq_some_iff] at hv
          obtain ⟨as, ha, cs, hcs, hv⟩ := hv
          injection hv with hv; subst hv
          obtain ⟨v, h1, h2⟩ := build_sound (P := P) hρ hs hi hz hall hl ha hcs
          exact ⟨v, by simp only [execOp, e, Sem.run_bind, h1, Result.andThen_ok, Sem.run_pure], h2⟩
        · simp at hc
      · simp at hc
    · simp at hc
  · rename_i f first caps e
    split at hc
    · rename_i h0
      simp only [Option.bind_eq_some_iff] at hc; obtain ⟨l, hl, hc⟩ := hc; injection hc with hc; subst hc
      simp only [IOp.val, Option.bind_eq_some_iff] at hv
      obtain ⟨as, ha, hv⟩ := hv
      injection hv with hv; subst hv
      obtain ⟨o1, o2⟩ := opds_rel hρ hl ha
      have hf : first = #[] := by simpa using h0
      refine ⟨.func (.func f) #[] (caps.toList.map ρc).toArray, ?_, .fn _ _ _ (by simp [o1]) o2⟩
      subst hf
      have e2 : caps.map ρc = (caps.toList.map ρc).toArray := by apply Array.ext'; simp
      simp [execOp, e, Instr.makeFunc, e2]
    · simp at hc
  · simp at hc
end Go.Proofs.Ytjnencdmejhmjaa.Eng
namespace Go.Proofs.Ytjnencdmejhmjaa.Eng
open Go Go.RowKit
set_option linter.unusedSimpArgs false
set_option linter.unusedVariables false
variable {P : Program} {F Keep : Nat → Prop} {w : World} {H : Heap}

def Env.put (d : Option Nat) (x : Option AV) (E : Env) : Env :=
  match d with
  | none => E
  | some t => match x with
    | some a => E.set t a
    | none => E.del t
structure St (N : Nat) (Keep F : Nat → Prop) (E : Env) (H : Heap) (a : Act) (w : World) : Prop where
  env : ∀ t x, E.get t = some x → VR F w x (a.tmps.getD t undef)
  tsz : a.tmps.size = N
  dfs : a.defers = []
  heap : HeapOK Keep F w H
structure Grow (Keep F F' : Nat → Prop) (w w' : World) : Prop where
  sub : ∀ c, F c → F' c
  new : ∀ c, F' c → F c ∨ (¬ Keep c)
  ext : Ext (fun c => F c ∨ Keep c) w w'
theorem Grow.refl (Keep F : Nat → Prop) (w : World) : Grow Keep F F w w := ⟨fun _ h => h, fun _ h => .inl h, Ext.refl _ _⟩
theorem Grow.trans {Keep F F1 F2 : Nat → Prop} {w w1 w2 : World} (h : Grow Keep F F1 w w1) (k : Grow Keep F1 F2 w1 w2) : Grow Keep F F2 w w2 :=
  ⟨fun c hc => k.sub c (h.sub c hc), fun c hc => (k.new c hc).elim (h.new c) .inr, h.ext.trans (k.ext.mono fun c hc => hc.imp (h.sub c) id)⟩
theorem Grow.same {w w' : World} (h : Ext (fun c => F c ∨ Keep c) w w') : Grow Keep F F w w' := ⟨fun _ h => h, fun _ h => .inl h, h⟩
theorem VR.grow {F' : Nat → Prop} {w' : World} {x : AV} {v : Value} (h : VR F w x v) (hH : HeapOK Keep F w H) (g : Grow Keep F F' w w') : VR F' w' x v :=
  h.step g.sub hH.flt (g.ext.mono fun _ h => .inl h)
theorem St.put {N : Nat} {E : Env} {a : Act} (h : St N Keep F E H a w) {F' : Nat → Prop} {H' : Heap} {w' : World} (g : Grow Keep F F' w w') (hH : HeapOK Keep F' w' H') (d : Option Nat) (x : Option AV) (v : Value) (hd : ∀ t, d = some t → t < N) (hx : ∀ y, x = some y → VR F' w' y v) :
    St N Keep F' (E.put d x) H' (a.put d v) w' := by
  cases d with
  | none => exact ⟨fun t y hy => (h.env t y hy).grow h.heap g, h.tsz, h.dfs, hH⟩
  | some t =>
    have ht : t < a.tmps.size := by rw [h.tsz]; exact hd t rfl
    have hget : ∀ s, (a.put (some t) v).tmps.getD s undef = if t = s then v else a.tmps.getD s undef := by
      intro s
      simp only [Act.put, Array.getD_eq_getD_getElem?, Array.getElem?_setIfInBounds]
      by_cases e : t = s
      · subst e; simp [ht]
      · simp [e]
    refine ⟨fun s y hy => ?_, by simpa [Act.put] using h.tsz, by simpa [Act.put] using h.dfs, hH⟩
    rw [hget]
    cases x with
    | none =>
      simp only [Env.put, Env.get_del] at hy
      split at hy
      · simp at hy
      · rename_i e; rw [if_neg e]; exact (h.env s y hy).grow h.heap g
    | some b =>
      simp only [Env.put, Env.get_set] at hy
      by_cases e : t = s
      · rw [if_pos e] at hy ⊢; injection hy with hy; subst hy; exact hx b rfl
      · rw [if_neg e] at hy ⊢; exact (h.env s y hy).grow h.heap g
/-- A step that leaves all the blocks alone that are told of. -/
theorem HeapOK.step (hH : HeapOK Keep F w H) {F' : Nat → Prop} {w' : World} (g : Grow Keep F F' w w') (hb : ∀ c ∈ H.real, w'.heap[c]? = w.heap[c]?) (hn : ∀ c ∈ H.real, ¬ F' c) (hl : ∀ c, F' c → c < w'.heap.size) : HeapOK Keep F' w' H where
  blk p hp := (hH.blk p hp).step g.sub hH.flt (g.ext.mono fun _ h => .inl h) fun hv => hb _ (Heap.real_mem (h := p.1) (b := p.2.2) hp hv)
  own c hc := ⟨hn c hc, (hH.own c hc).2⟩
  nodup := hH.nodup
  flt := hl
  klt c hc := Nat.lt_of_lt_of_le (hH.klt c hc) g.ext.size
theorem HeapOK.sub (hH : HeapOK Keep F w H) {H' : Heap} (h : List.Sublist H' H) : HeapOK Keep F w H' where
  blk p hp := hH.blk p (h.subset hp)
  own c hc := hH.own c ((Heap.real_sub h).subset hc)
  nodup := (Heap.real_sub h).nodup hH.nodup
  flt := hH.flt
  klt := hH.klt
theorem HeapOK.lt (hH : HeapOK Keep F w H) (c : Nat) (hc : c ∈ H.real) : c < w.heap.size := by
  obtain ⟨p, hp, hv, rfl⟩ := Heap.mem_real hc
  exact (hH.blk p hp).lt hv
theorem HeapOK.drew (hH : HeapOK Keep F w H) : HeapOK Keep F w.drew H :=
  hH.step (Grow.same (Ext.drew _ w)) (fun _ _ => rfl) (fun c hc => (hH.own c hc).1) hH.flt
/-- One more block, of the function's own. -/
theorem HeapOK.cons (hH : HeapOK Keep F w H) (h : Nat) (a : Loc) (b : Blk) (hb : BlkOK F w a b) (hv : a.vir = false → ¬ F a.blk ∧ ¬ Keep a.blk ∧ a.blk ∉ H.real) : HeapOK Keep F w ((h, a, b) :: H) where
  blk p hp := by
    rcases List.mem_cons.1 hp with rfl | hp
    · exact hb
    · exact hH.blk p hp
  own c hc := by
    unfold Heap.real at hc
    split at hc
    · exact hH.own c hc
    · rename_i hvir
      rcases List.mem_cons.1 hc with rfl | hc
      · have := hv (by simpa using hvir); exact ⟨this.1, this.2.1⟩
      · exact hH.own c hc
  nodup := by
    unfold Heap.real
    split
    · exact hH.nodup
    · rename_i hvir
      exact List.nodup_cons.2 ⟨(hv (by simpa using hvir)).2.2, hH.nodup⟩
  flt := hH.flt
  klt := hH.klt
theorem HeapOK.new (hH : HeapOK Keep F w H) (o : Obj) : HeapOK Keep F (w.alloc o) H ∧ Grow Keep F F w (w.alloc o) ∧ (¬ F w.heap.size ∧ ¬ Keep w.heap.size ∧ w.heap.size ∉ H.real) := by
  have g : Grow Keep F F w (w.alloc o) := Grow.same (Ext.alloc _ w o)
  refine ⟨hH.step g (fun c hc => Below.heap_alloc w o c (hH.lt c hc)) (fun c hc => (hH.own c hc).1) (fun c hc => by have := hH.flt c hc; simp; omega), g, fun h => ?_, fun h => ?_, fun h => ?_⟩
  · have := hH.flt _ h; omega
  · have := hH.klt _ h; omega
  · have := hH.lt _ h; omega
/-- A new row. -/
theorem HeapOK.newRow (hH : HeapOK Keep F w H) (h sz : Nat) (els : List AV) (cs : Array Value) (t : TypeId)
    (hc : ∀ (i : Nat) (e : AV), els[i]? = some e → (e.cells.length = sz ∧ e.cells.all AV.leaf = true) ∧ ∀ (j : Nat) (y : AV), e.cells[j]? = some y → ∃ v, cs[i * sz + j]? = some v ∧ VR F w y v) :
    HeapOK Keep F (w.alloc (.cells cs t)) ((h, ⟨w.heap.size, 0, false⟩, .arr sz els) :: H) ∧ Grow Keep F F w (w.alloc (.cells cs t)) := by
  obtain ⟨h1, h2, h3⟩ := hH.new (.cells cs t)
  refine ⟨h1.cons _ _ _ ?_ (fun _ => h3), h2⟩
  simp only [BlkOK]
  rw [if_neg (by simp)]
  refine ⟨cs, t, heap_alloc_new w _, fun i e hi => ?_⟩
  obtain ⟨e1, e2⟩ := hc i e hi
  refine ⟨e1, fun j y hy => ?_⟩
  obtain ⟨v, e3, e4⟩ := e2 j y hy
  exact ⟨v, by simpa using e3, e4.grow hH h2⟩

theorem Heap.get_split {h : Nat} {H : Heap} {a : Loc} {b : Blk} (hg : H.get h = some (a, b)) : ∃ A B, H = A ++ (h, a, b) :: B ∧ (∀ b', H.set h b' = A ++ (h, a, b') :: B) ∧ H.del h = A ++ B := by
  induction H with
  | nil => simp [Heap.get] at hg
  | cons p H ih =>
    obtain ⟨k, a', b'⟩ := p
    unfold Heap.get at hg
    by_cases e : k = h
    · rw [if_pos e] at hg; simp at hg; obtain ⟨rfl, rfl⟩ := hg; subst e
      exact ⟨[], H, rfl, fun b' => by simp [Heap.set], by simp [Heap.del]⟩
    · rw [if_neg e] at hg
      obtain ⟨A, B, e1, e2, e3⟩ := ih hg
      refine ⟨(k, a', b') :: A, B, by rw [e1]; rfl, fun b'' => ?_, ?_⟩
      · simp only [Heap.set]; rw [if_neg e, e2]; rfl
      · simp only [Heap.del]; rw [if_neg e, e3]; rfl
theorem Heap.real_append (A B : Heap) : (A ++ B).real = A.real ++ B.real := by
  induction A with
  | nil => rfl
  | cons p A ih =>
    obtain ⟨k, a, b⟩ := p
    simp only [List.cons_append, Heap.real, ih]
    split <;> rfl
/-- The cells of one block turn; the others stay. -/
theorem HeapOK.turn (hH : HeapOK Keep F w H) {h : Nat} {a : Loc} {b : Blk} (hg : H.get h = some (a, b)) (hv : a.vir = false) {w' : World} (hother : ∀ c, c ≠ a.blk → w'.heap[c]? = w.heap[c]?) (hx : Ext (fun c => F c ∨ Keep c) w w') (b' : Blk) (hb' : BlkOK F w' a b') :
    HeapOK Keep F w' (H.set h b') := by
  obtain ⟨A, B, e1, e2, e3⟩ := Heap.get_split hg
  have hr := hH.nodup
  rw [e1, Heap.real_append] at hr
  simp only [Heap.real, hv, Bool.false_eq_true, if_false] at hr
  have hne : ∀ p ∈ A ++ B, p.2.1.vir = false → p.2.1.blk ≠ a.blk := by
    intro p hp hpv he
    rw [List.nodup_append] at hr
    obtain ⟨_, h2, h3⟩ := hr
    rcases List.mem_append.1 hp with hp | hp
    · have := Heap.real_mem (h := p.1) (b := p.2.2) hp hpv
      exact h3 _ this _ List.mem_cons_self he
    · have := Heap.real_mem (h := p.1) (b := p.2.2) hp hpv
      rw [List.nodup_cons] at h2
      exact h2.1 (he ▸ this)
  have g : Grow Keep F F w w' := Grow.same hx
  refine ⟨fun p hp => ?_, fun c hc => ?_, ?_, fun c hc => Nat.lt_of_lt_of_le (hH.flt c hc) hx.size, fun c hc => Nat.lt_of_lt_of_le (hH.klt c hc) hx.size⟩
  · rw [e2] at hp
    have hp' : p ∈ A ++ B ∨ p = (h, a, b') := by
      rcases List.mem_append.1 hp with hp | hp
      · exact .inl (List.mem_append_left _ hp)
      · rcases List.mem_cons.1 hp with hp | hp
        · exact .inr hp
        · exact .inl (List.mem_append_right _ hp)
    rcases hp' with hp | rfl
    · have hm : p ∈ H := by
        rw [e1]
        rcases List.mem_append.1 hp with hp | hp
        · exact List.mem_append_left _ hp
        · exact List.mem_append_right _ (List.mem_cons_of_mem _ hp)
      exact (hH.blk p hm).step g.sub hH.flt (hx.mono fun _ h => .inl h) fun hpv => hother _ (hne p hp hpv)
    · exact hb'
  · rw [Heap.real_set] at hc; exact hH.own c hc
  · rw [Heap.real_set]; exact hH.nodup
end Go.Proofs.Ytjnencdmejhmjaa.Eng
namespace Go.Proofs.Ytjnencdmejhmjaa.Eng
open Go Go.RowKit
set_option linter.unusedSimpArgs false
set_option linter.unusedVariables false
variable {P : Program} {F Keep : Nat → Prop} {w : World} {H : Heap}

theorem AV.cells_agg (l : List AV) : (AV.agg l).cells = l := rfl
def putCells (e : AV) (f n : Nat) (y : AV) : AV := if f = 0 ∧ n = e.cells.length then y else .agg (e.cells.take f ++ y.cells ++ e.cells.drop (f + n))
def storeRun (n : Nat) (x y : AV) (H : Heap) (K : Heap → Prop) : Prop :=
  match x with
  | .ptr h a sz i f =>
    match H.get h with
    | some (a', .arr sz' els) =>
      match els[i]? with
      | some e => (a = a' ∧ sz = sz') ∧ y.ok = true ∧ y.cells.length = n ∧ f + n ≤ e.cells.length ∧ y.cells.all AV.leaf = true ∧ K (H.set h (.arr sz (els.set i (putCells e f n y))))
      | none => False
    | _ => False
  | _ => False
theorem ext_setRow (g : Nat) (cur new : Array Value) (t : TypeId) (hg : w.heap[g]? = some (.cells cur t (0, 0))) (hs : new.size = cur.size) (S : Nat → Prop) (hS : ¬ S g) : Ext S w (w.setRow g new) := by
  refine ⟨rfl, rfl, rfl, by simp, fun c hc _ => setRow_other w g c _ (fun e => hS (e ▸ hc)), fun c cs ty fr hc => ?_⟩
  by_cases e : c = g
  · subst e
    rw [hg] at hc
    injection hc with hc; injection hc with e1 e2 e3; subst e1; subst e2; subst e3
    exact ⟨new, setRow_heap w c cur _ t _ hg, hs⟩
  · exact ⟨cs, by rw [setRow_other w g c _ e]; exact hc, rfl⟩
theorem VR.okCells {x : AV} {v : Value} (h : VR F w x v) (ho : x.ok = true) : x.cells.length = v.cells.size ∧ ∀ (j : Nat) (y : AV), x.cells[j]? = some y → ∃ u, v.cells[j]? = some u ∧ VR F w y u :=
  h.cellsOf (by cases x <;> first | exact .inr ⟨_, rfl⟩ | exact .inl ho)
theorem store_sound (hH : HeapOK Keep F w H) {t : TypeId} {n : Nat} (hn : sizeP P t = some n) (hn0 : n ≠ 0) {x y : AV} {u v : Value} (hx : VR F w x u) (hy : VR F w y v) {K : Heap → Prop} (h : storeRun n x y H K) :
    ∃ w' H', (Instr.storeAt t u v).run P w = .ok () w' ∧ K H' ∧ HeapOK Keep F w' H' ∧ Ext (fun c => F c ∨ Keep c) w w' := by
  have hz := sizeP_run hn w
  unfold storeRun at h
  split at h
  · rename_i hh a sz i f
    split at h
    · rename_i a' sz' els hg
      split at h
      · rename_i e he
        obtain ⟨⟨rfl, rfl⟩, hok, hlen, hle, hleaf, hK⟩ := h
        cases hx
        have hb := hH.blk _ (Heap.get_mem hg)
        simp only [BlkOK] at hb
        split at hb
        · subst hb; simp at he
        · rename_i hvir
          have hvir : a.vir = false := by simpa using hvir
          obtain ⟨cs, ty, h1, h2⟩ := hb
          obtain ⟨⟨h3, h3l⟩, h4⟩ := h2 i e he
          obtain ⟨c1, c2⟩ := hy.okCells hok
          have hsize : v.cells.size = n := by rw [← c1]; exact hlen
          have hex : ∀ j, j < sz → ∃ q, cs[a.base + i * sz + j]? = some q := fun j hj => by
            obtain ⟨q, hq, _⟩ := h4 j e.cells[j] (by simp [h3, hj])
            exact ⟨q, hq⟩
          have hfit : a.base + i * sz + f + v.cells.toList.length ≤ cs.size := by
            simp only [Array.length_toList, hsize]
            obtain ⟨q, hq⟩ := hex (f + n - 1) (by omega)
            have := (Array.getElem?_eq_some_iff.1 hq).1
            omega
          have hone : ∀ q ∈ v.cells.toList, q.oneCell' = true := by
            intro q hq
            obtain ⟨j, hj, rfl⟩ := List.mem_iff_getElem.1 hq
            have hj' : j < y.cells.length := by rw [c1]; simpa using hj
            obtain ⟨q', hq1, hq2⟩ := c2 j y.cells[j] (by simp [hj'])
            have e1 : q' = v.cells.toList[j] := by
              have : v.cells[j]? = some v.cells.toList[j] := by simp at hj ⊢
              rw [this] at hq1; injection hq1 with hq1; exact hq1.symm
            rw [← e1]
            exact hq2.oneCell (List.all_eq_true.1 hleaf _ (List.getElem_mem hj'))
          have hst := run_storeCells_at P a.blk (a.base + i * sz + f) ty v.cells.toList 0 cs w h1 (by simpa using hfit) hone
          simp only [Nat.add_zero] at hst
          refine ⟨w.setRow a.blk (List.take (a.base + i * sz + f) cs.toList ++ v.cells.toList ++ List.drop (a.base + i * sz + f + v.cells.toList.length) cs.toList).toArray, _, ?_, hK, ?_⟩
          · simp only [Instr.storeAt, Instr.sureAddr, Sem.run_bind, Sem.run_pure, Result.andThen_ok, storeVar, hz, hsize, ne_eq, not_true_eq_false, if_false, hst]
          · have hnew : (List.take (a.base + i * sz + f) cs.toList ++ v.cells.toList ++ List.drop (a.base + i * sz + f + v.cells.toList.length) cs.toList).toArray.size = cs.size := by
              simp at hfit ⊢; omega
            have hext : Ext (fun c => F c ∨ Keep c) w (w.setRow a.blk (List.take (a.base + i * sz + f) cs.toList ++ v.cells.toList ++ List.drop (a.base + i * sz + f + v.cells.toList.length) cs.toList).toArray) := by
              refine ext_setRow a.blk cs _ ty h1 hnew _ ?_
              have := hH.own a.blk (Heap.real_mem (Heap.get_mem hg) hvir)
              exact fun h => h.elim this.1 this.2
            refine ⟨?_, hext⟩
            refine hH.turn hg hvir (fun c hc => setRow_other w a.blk c _ hc) hext _ ?_
            simp only [BlkOK]
            rw [if_neg (by simp [hvir])]
            refine ⟨_, ty, setRow_heap w a.blk cs _ ty _ h1, fun k e' he' => ?_⟩
            have hget : ∀ m : Nat, (List.take (a.base + i * sz + f) cs.toList ++ v.cells.toList ++ List.drop (a.base + i * sz + f + v.cells.toList.length) cs.toList).toArray[m]? = if a.base + i * sz + f ≤ m ∧ m < a.base + i * sz + f + n then v.cells[m - (a.base + i * sz + f)]? else cs[m]? := by
              intro m
              simp only [Array.length_toList, hsize] at hfit ⊢
              have ht : (List.take (a.base + i * sz + f) cs.toList).length = a.base + i * sz + f := by simp; omega
              simp only [List.getElem?_toArray]
              by_cases c1 : m < a.base + i * sz + f
              · rw [if_neg (by omega), List.append_assoc, List.getElem?_append_left (by rw [ht]; exact c1), List.getElem?_take, if_pos c1]; simp
              · by_cases c2 : m < a.base + i * sz + f + n
                · rw [if_pos ⟨by omega, c2⟩, List.append_assoc, List.getElem?_append_right (by rw [ht]; omega), ht, List.getElem?_append_left (by simp [hsize]; omega)]; simp
                · rw [if_neg (by omega), List.getElem?_append_right (by simp [hsize]; omega), List.getElem?_drop]
                  have : a.base + i * sz + f + n + (m - (List.take (a.base + i * sz + f) cs.toList ++ v.cells.toList).length) = m := by simp [hsize]; omega
                  rw [this]; simp
            have hstep : ∀ {q : AV} {z : Value}, VR F w q z → VR F (w.setRow a.blk (List.take (a.base + i * sz + f) cs.toList ++ v.cells.toList ++ List.drop (a.base + i * sz + f + v.cells.toList.length) cs.toList).toArray) q z := fun hq => hq.step (fun _ h => h) hH.flt (hext.mono fun _ h => .inl h)
            rw [List.getElem?_set] at he'
            by_cases hk : i = k
            · subst hk
              have hlt : i < els.length := (List.getElem?_eq_some_iff.1 he).1
              rw [if_pos rfl, if_pos hlt] at he'
              injection he' with he'; subst he'
              unfold putCells
              split
              · rename_i hw
                obtain ⟨rfl, hw⟩ := hw
                refine ⟨⟨by omega, hleaf⟩, fun j q hq => ?_⟩
                obtain ⟨z, hz1, hz2⟩ := c2 j q hq
                have hj : j < n := by rw [← hlen]; exact (List.getElem?_eq_some_iff.1 hq).1
                refine ⟨z, ?_, hstep hz2⟩
                rw [hget, if_pos ⟨by omega, by omega⟩, ← hz1]
                congr 1; omega
              · refine ⟨⟨by simp only [AV.cells_agg, List.length_append, List.length_take, List.length_drop]; omega, by
                  simp only [AV.cells_agg, List.all_append, Bool.and_eq_true]
                  exact ⟨⟨List.all_eq_true.2 fun q hq => List.all_eq_true.1 h3l q (List.take_subset _ _ hq), hleaf⟩, List.all_eq_true.2 fun q hq => List.all_eq_true.1 h3l q (List.drop_subset _ _ hq)⟩⟩, fun j q hq => ?_⟩
                simp only [AV.cells_agg] at hq
                have ht : (e.cells.take f).length = f := by simp; omega
                by_cases d1 : j < f
                · rw [List.append_assoc, List.getElem?_append_left (by rw [ht]; exact d1), List.getElem?_take, if_pos d1] at hq
                  obtain ⟨z, hz1, hz2⟩ := h4 j q hq
                  exact ⟨z, by rw [hget, if_neg (by omega)]; exact hz1, hstep hz2⟩
                · by_cases d2 : j < f + n
                  · rw [List.append_assoc, List.getElem?_append_right (by rw [ht]; omega), ht, List.getElem?_append_left (by omega)] at hq
                    obtain ⟨z, hz1, hz2⟩ := c2 _ q hq
                    refine ⟨z, ?_, hstep hz2⟩
                    rw [hget, if_pos ⟨by omega, by omega⟩, ← hz1]
                    congr 1; omega
                  · rw [List.getElem?_append_right (by simp; omega), List.getElem?_drop] at hq
                    have : f + n + (j - (e.cells.take f ++ y.cells).length) = j := by simp; omega
                    rw [this] at hq
                    obtain ⟨z, hz1, hz2⟩ := h4 j q hq
                    exact ⟨z, by rw [hget, if_neg (by omega)]; exact hz1, hstep hz2⟩
            · rw [if_neg hk] at he'
              obtain ⟨g1, g2⟩ := h2 k e' he'
              refine ⟨g1, fun j q hq => ?_⟩
              obtain ⟨z, hz1, hz2⟩ := g2 j q hq
              have hj : j < sz := by rw [← g1.1]; exact (List.getElem?_eq_some_iff.1 hq).1
              refine ⟨z, ?_, hstep hz2⟩
              rw [hget, if_neg ?_]
              · exact hz1
              · rcases Nat.lt_or_gt_of_ne hk with hk | hk
                · have : (i + 1) * sz ≤ k * sz := Nat.mul_le_mul_right _ hk
                  rw [Nat.add_mul] at this
                  omega
                · have : (k + 1) * sz ≤ i * sz := Nat.mul_le_mul_right _ hk
                  rw [Nat.add_mul] at this
                  omega
      · exact h.elim
    · exact h.elim
  · exact h.elim

/-- What lies behind a slice, and what is left of the memory when it is appended to. -/
def oldOf (sz : Nat) (H : Heap) : AV → Option (List AV × Heap)
  | .v (.slice none 0 0) => some ([], H)
  | .ref h a sz' off n =>
    match H.get h with
    | some (a', .arr sz'' els) => if a = a' ∧ sz' = sz ∧ sz'' = sz ∧ off + n ≤ els.length then some ((els.drop off).take n, H.del h) else none
    | _ => none
  | _ => none
def newsOf (sz : Nat) (H : Heap) : AV → Option (List AV)
  | .v (.slice none 0 0) => some []
  | .fz sz' xs => if sz' = sz then some xs else none
  | .ref h a sz' off n =>
    match H.get h with
    | some (a', .arr sz'' els) => if a = a' ∧ sz' = sz ∧ sz'' = sz ∧ off + n ≤ els.length then some ((els.drop off).take n) else none
    | _ => none
  | _ => none
/-- elements one behind the other -/
def Elems (F : Nat → Prop) (w : World) (sz : Nat) (els : List AV) (cs : List Value) : Prop :=
  cs.length = els.length * sz ∧ ∀ (i : Nat) (e : AV), els[i]? = some e → (e.cells.length = sz ∧ e.cells.all AV.leaf = true) ∧ ∀ (j : Nat) (y : AV), e.cells[j]? = some y → ∃ v, cs[i * sz + j]? = some v ∧ VR F w y v
theorem Elems.nil (F : Nat → Prop) (w : World) (sz : Nat) : Elems F w sz [] [] := ⟨by simp, fun i e h => by simp at h⟩
theorem Elems.append {sz : Nat} {a b : List AV} {x y : List Value} (h : Elems F w sz a x) (k : Elems F w sz b y) : Elems F w sz (a ++ b) (x ++ y) := by
  refine ⟨by rw [List.length_append, h.1, k.1, List.length_append, Nat.add_mul], fun i e he => ?_⟩
  by_cases c : i < a.length
  · rw [List.getElem?_append_left c] at he
    obtain ⟨h1, h2⟩ := h.2 i e he
    refine ⟨h1, fun j q hq => ?_⟩
    obtain ⟨v, h3, h4⟩ := h2 j q hq
    exact ⟨v, by rw [List.getElem?_append_left (List.getElem?_eq_some_iff.1 h3).1]; exact h3, h4⟩
  · rw [List.getElem?_append_right (by omega)] at he
    obtain ⟨h1, h2⟩ := k.2 _ e he
    refine ⟨h1, fun j q hq => ?_⟩
    obtain ⟨v, h3, h4⟩ := h2 j q hq
    refine ⟨v, ?_, h4⟩
    have hm : a.length * sz ≤ i * sz := Nat.mul_le_mul_right _ (by omega)
    have e1 : (i - a.length) * sz = i * sz - a.length * sz := Nat.sub_mul ..
    rw [List.getElem?_append_right (by rw [h.1]; omega), h.1, ← h3, e1]
    congr 1; omega
/-- The cells behind an address, from a function that finds them. -/
theorem cells_list (A : Addr) (sz : Nat) (els : List AV) (hc : ∀ (i : Nat) (e : AV), els[i]? = some e → (e.cells.length = sz ∧ e.cells.all AV.leaf = true) ∧ ∀ (j : Nat) (y : AV), e.cells[j]? = some y → ∃ v, w.cell? (A.add (i * sz + j)) = some v ∧ VR F w y v) :
    ∃ cs : List Value, Elems F w sz els cs ∧ ∀ (j : Nat) (v : Value), cs[j]? = some v → w.cell? (A.add j) = some v := by
  have hex : ∀ m, m < els.length * sz → ∃ v, w.cell? (A.add m) = some v ∧ ∀ e, els[m / sz]? = some e → ∀ y, e.cells[m % sz]? = some y → VR F w y v := by
    intro m hm
    have hs : 0 < sz := by
      rcases Nat.eq_zero_or_pos sz with h | h
      · rw [h] at hm; simp at hm
      · exact h
    have hi : m / sz < els.length := by rw [Nat.div_lt_iff_lt_mul hs]; exact hm
    obtain ⟨h1, h2⟩ := hc (m / sz) els[m / sz] (by simp [hi])
    have hj : m % sz < els[m / sz].cells.length := by rw [h1.1]; exact Nat.mod_lt _ hs
    obtain ⟨v, h3, h4⟩ := h2 (m % sz) els[m / sz].cells[m % sz] (by simp [hj])
    refine ⟨v, ?_, fun e he y hy => ?_⟩
    · rw [← h3]; congr 2; rw [Nat.mul_comm]; exact (Nat.div_add_mod m sz).symm
    · simp [hi] at he; subst he
      simp [hj] at hy; subst hy; exact h4
  let g : Nat → Value := fun m => if hm : m < els.length * sz then (hex m hm).choose else undef
  have hg : ∀ m, m < els.length * sz → w.cell? (A.add m) = some (g m) ∧ ∀ e, els[m / sz]? = some e → ∀ y, e.cells[m % sz]? = some y → VR F w y (g m) := by
    intro m hm
    simp only [g, hm, dif_pos]
    exact (hex m hm).choose_spec
  refine ⟨(List.range (els.length * sz)).map g, ⟨by simp, fun i e he => ?_⟩, fun j v hv => ?_⟩
  · obtain ⟨h1, h2⟩ := hc i e he
    refine ⟨h1, fun j y hy => ?_⟩
    have hi : i < els.length := (List.getElem?_eq_some_iff.1 he).1
    have hj : j < sz := by rw [← h1.1]; exact (List.getElem?_eq_some_iff.1 hy).1
    have hlt : i * sz + j < els.length * sz := by
      have : (i + 1) * sz ≤ els.length * sz := Nat.mul_le_mul_right _ hi
      rw [Nat.add_mul] at this; omega
    refine ⟨g (i * sz + j), by simp [hlt], ?_⟩
    have e1 : (i * sz + j) / sz = i := by
      rw [Nat.mul_comm, Nat.mul_add_div (by omega), Nat.div_eq_of_lt hj]; simp
    have e2 : (i * sz + j) % sz = j := by
      rw [Nat.mul_comm, Nat.mul_add_mod, Nat.mod_eq_of_lt hj]
    exact (hg _ hlt).2 e (by rw [e1]; exact he) y (by rw [e2]; exact hy)
  · have hj : j < els.length * sz := by
      have := (List.getElem?_eq_some_iff.1 hv).1; simpa using this
    simp [hj] at hv; subst hv
    exact (hg j hj).1
end Go.Proofs.Ytjnencdmejhmjaa.Eng
namespace Go.Proofs.Ytjnencdmejhmjaa.Eng
open Go Go.RowKit
set_option linter.unusedSimpArgs false
set_option linter.unusedVariables false
variable {P : Program} {F Keep : Nat → Prop} {w : World} {H : Heap}

theorem Heap.del_real {h : Nat} {a : Loc} {b : Blk} (hg : H.get h = some (a, b)) (hv : a.vir = false) (hn : H.real.Nodup) : a.blk ∉ (H.del h).real := by
  obtain ⟨A, B, e1, e2, e3⟩ := Heap.get_split hg
  rw [e3, Heap.real_append]
  rw [e1, Heap.real_append] at hn
  simp only [Heap.real, hv, Bool.false_eq_true, if_false] at hn
  rw [List.nodup_append] at hn
  obtain ⟨_, h2, h3⟩ := hn
  rw [List.nodup_cons] at h2
  intro hm
  rcases List.mem_append.1 hm with hm | hm
  · exact h3 _ hm _ List.mem_cons_self rfl
  · exact h2.1 hm
theorem take_drop_get {α : Type} (l : List α) (off n : Nat) (i : Nat) : ((l.drop off).take n)[i]? = if i < n then l[off + i]? else none := by
  rw [List.getElem?_take]
  split
  · rw [List.getElem?_drop]
  · rfl
/-- The elements of a slice that is appended. -/
theorem news_cells (hH : HeapOK Keep F w H) {sz : Nat} {y : AV} {v : Value} (hy : VR F w y v) {news : List AV} (h : newsOf sz H y = some news) :
    ∃ A c, v = .slice A news.length c ∧ ((A = none ∧ news = []) ∨ news = [] ∨ ∃ ad vs, A = some ad ∧ Elems F w sz news vs ∧ ∀ (j : Nat) (u : Value), vs[j]? = some u → w.cell? (ad.add j) = some u) := by
  unfold newsOf at h
  split at h
  · injection h with h; subst h
    obtain rfl := hy.inv_v
    exact ⟨none, 0, rfl, .inl ⟨rfl, rfl⟩⟩
  · split at h
    · rename_i sz' xs e
      subst e
      injection h with h; subst h
      cases hy with
      | fz _ _ A cap g h1 h2 h3 h4 h5 =>
        obtain ⟨cs, c1, c2⟩ := cells_list (F := F) (w := w) A sz' xs (fun i e he => ⟨h3 i e he, fun j q hq => ⟨g i j, (h4 i e j q he hq).2, h5 i e j q he hq⟩⟩)
        exact ⟨some A, cap, rfl, .inr (.inr ⟨A, cs, rfl, c1, c2⟩)⟩
      | fznil => exact ⟨none, 0, rfl, .inl ⟨rfl, rfl⟩⟩
    · simp at h
  · rename_i hh a sz' off n
    split at h
    · rename_i a' sz'' els hg
      split at h
      · rename_i hc
        obtain ⟨rfl, rfl, rfl, hle⟩ := hc
        injection h with h; subst h
        have hl : ((els.drop off).take n).length = n := by simp; omega
        rw [hl]
        cases hy with
        | ref _ _ _ _ _ cap cs ty q0 q1 q2 q3 q4 =>
          have hb := hH.blk _ (Heap.get_mem hg)
          simp only [BlkOK, q0, Bool.false_eq_true, if_false] at hb
          obtain ⟨cs2, ty2, h1, h2⟩ := hb
          obtain ⟨vs, c1, c2⟩ := cells_list (F := F) (w := w) ⟨a.blk, a.base + off * sz'', none⟩ sz'' ((els.drop off).take n) (fun i e he => by
            rw [take_drop_get] at he
            split at he
            · obtain ⟨h3, h4⟩ := h2 _ e he
              refine ⟨h3, fun j q hq => ?_⟩
              obtain ⟨z, hz1, hz2⟩ := h4 j q hq
              refine ⟨z, ?_, hz2⟩
              rw [Addr.add_lit]
              simp only [World.cell?, h1]
              rw [← hz1, Nat.add_mul]
              simp [Nat.add_assoc]
            · simp at he)
          exact ⟨_, cap, rfl, .inr (.inr ⟨_, vs, rfl, c1, c2⟩)⟩
        | refz => exact ⟨_, 0, rfl, .inr (.inl (by simp))⟩
        | refnil => exact ⟨_, 0, rfl, .inl ⟨rfl, by simp⟩⟩
      · simp at h
    · simp at h
  · simp at h
theorem append_none {t ty e : TypeId} {i : TypeInfo} (ht : P.underlying t = some (.slice e)) (hi : P.info? e = some i) (base : Option Addr) (n cap : Nat) (hn : n ≤ cap) (A : Option Addr) (c : Nat) :
    (Builtin.append_ #[t, t] ty #[.slice base n cap, .slice A 0 c]).run P w = .ok (.slice base n cap) w := by
  cases base <;> cases A <;> simp [Builtin.append_, run_underlying ht, sizeOf, typeInfo, hi, Builtin.lenOf, hn, Builtin.firstCells, loadCells, loadCellsFrom, storeCells]
theorem append_room {t ty e : TypeId} {i : TypeInfo} (ht : P.underlying t = some (.slice e)) (hi : P.info? e = some i)
    (g o sLen sCap : Nat) (cur : Array Value) (et : TypeId) (hg : w.heap[g]? = some (.cells cur et (0, 0)))
    (a : Addr) (m c : Nat) (news : List Value) (hl : news.length = m * i.size) (hnews : ∀ j u, news[j]? = some u → w.cell? (a.add j) = some u) (h1 : ∀ u ∈ news, u.oneCell' = true)
    (hroom : sLen + m ≤ sCap) (hfit : o + sLen * i.size + news.length ≤ cur.size) :
    (Builtin.append_ #[t, t] ty #[.slice (some ⟨g, o, none⟩) sLen sCap, .slice (some a) m c]).run P w =
      .ok (.slice (some ⟨g, o, none⟩) (sLen + m) sCap) (w.setRow g (cur.toList.take (o + sLen * i.size) ++ news ++ cur.toList.drop (o + sLen * i.size + news.length)).toArray) := by
  have hf := run_firstCells_some (P := P) w i.size m a m c news hl hnews
  have hst := run_storeCells_at P g (o + sLen * i.size) et news 0 cur w hg (by simpa using hfit) h1
  simp only [Nat.add_zero] at hst
  simp [Builtin.append_, run_underlying ht, sizeOf, typeInfo, hi, Builtin.lenOf, hroom, hf, Addr.add_lit, hst]
theorem append_sound (hH : HeapOK Keep F w H) {t ty e : TypeId} {i : TypeInfo} {z : Value} (ht : P.underlying t = some (.slice e)) (hi : P.info? e = some i) (hz : i.zero = some z) (hzs : z.cells.size = i.size) (hsz : 0 < i.size)
    {x y : AV} {u v : Value} (hx : VR F w x u) (hy : VR F w y v) {olds news : List AV} {H0 : Heap} (hold : oldOf i.size H x = some (olds, H0)) (hnews : newsOf i.size H y = some news)
    (hb : (olds.length + news.length) * i.bytes ≤ 140737488355328) (h63 : olds.length + news.length ≤ 9223372036854775807) (L : Nat) :
    ∃ u' w' a', (Builtin.append_ #[t, t] ty #[u, v]).run P w = .ok u' w' ∧ VR F w' (.ref L a' i.size 0 (olds.length + news.length)) u' ∧ HeapOK Keep F w' ((L, a', .arr i.size (olds ++ news)) :: H0) ∧ Ext (fun c => F c ∨ Keep c) w w' := by
  obtain ⟨Ay, cy, rfl, hcells⟩ := news_cells hH hy hnews
  have hsub : List.Sublist H0 H := by
    unfold oldOf at hold
    split at hold
    · injection hold with hold; injection hold with _ h; subst h; exact List.Sublist.refl _
    · split at hold
      · split at hold
        · injection hold with hold; injection hold with _ h; subst h; exact Heap.del_sub _ _
        · simp at hold
      · simp at hold
    · simp at hold
  have hH0 := hH.sub hsub
  -- a slice from nowhere: nothing behind it
  have nowhere : ∀ (A : Option Addr), u = .slice A 0 0 → olds = [] → ∃ u' w' a', (Builtin.append_ #[t, t] ty #[u, .slice Ay news.length cy]).run P w = .ok u' w' ∧ VR F w' (.ref L a' i.size 0 (olds.length + news.length)) u' ∧ HeapOK Keep F w' ((L, a', .arr i.size (olds ++ news)) :: H0) ∧ Ext (fun c => F c ∨ Keep c) w w' := by
    intro A hu ho
    subst hu; subst ho
    simp only [List.length_nil, Nat.zero_add, List.nil_append] at hb h63 ⊢
    rcases Nat.eq_zero_or_pos news.length with h0 | h0
    · have hn : news = [] := List.eq_nil_of_length_eq_zero h0
      subst hn
      refine ⟨_, w, ⟨0, 0, true⟩, append_none ht hi A 0 0 (Nat.le_refl _) Ay cy, ?_, hH0.cons _ _ _ (by simp [BlkOK]) (by simp), Ext.refl _ _⟩
      cases A with
      | none => exact .refnil _ _ _ _
      | some A => exact .refz _ _ _ _ _
    · have hne : news ≠ [] := fun e => by rw [e] at h0; simp at h0
      rcases hcells with ⟨_, e⟩ | e | ⟨ad, vs, rfl, he, hc⟩
      · exact absurd e hne
      · exact absurd e hne
      have run : ∃ cap W, (Builtin.append_ #[t, t] ty #[.slice A 0 0, .slice (some ad) news.length cy]).run P w = .ok (.slice (some ⟨w.heap.size, 0, none⟩) news.length cap) (w.drew.alloc (.cells W e)) ∧ news.length ≤ cap ∧ cap ≤ 9223372036854775807 ∧ W = vs.toArray ++ Builtin.zeroCells z.cells (cap - news.length) := by
        refine ⟨grownCap w news.length 0 e, _, ?_, grownCap_ge _ _ _ _, by have := grownCap_le_maxLen w news.length 0 e (by simp only [maxLen]; omega); simpa [maxLen] using this, rfl⟩
        cases A with
        | none => exact run_append_nil (P := P) w t ty e i z ht hi hz ad news.length cy vs he.1 hc h0 (by omega) (by omega)
        | some A =>
          have := run_append_grow (P := P) w t ty e i z ht hi hz A 0 0 [] (by simp) (by simp) ad news.length cy vs he.1 hc (by omega) (by omega) (growslice_fits (by omega) (by simpa using hb))
          simpa using this
      obtain ⟨cap, W, hr, hc1, hc2, hW⟩ := run
      have hH1 := hH0.drew
      obtain ⟨n1, n2⟩ := hH1.newRow L i.size news W e (fun k q hk => by
        obtain ⟨e1, e2⟩ := he.2 k q hk
        refine ⟨e1, fun j y hy => ?_⟩
        obtain ⟨v, e3, e4⟩ := e2 j y hy
        refine ⟨v, ?_, e4.grow hH0 (Grow.same (Ext.drew _ w))⟩
        rw [hW]
        have hlt : k * i.size + j < vs.length := (List.getElem?_eq_some_iff.1 e3).1
        rw [Array.getElem?_append_left (by simpa using hlt)]
        simpa using e3)
      refine ⟨_, _, _, hr, ?_, n1, (Ext.drew _ w).trans n2.ext⟩
      have hws : W.size = cap * i.size := by
        rw [hW]; simp only [Array.size_append, List.size_toArray, size_zeroCells, hzs, he.1, ← Nat.add_mul]; congr 1; omega
      have := VR.ref (F := F) (w := w.drew.alloc (.cells W e)) L ⟨w.heap.size, 0, false⟩ i.size 0 news.length cap W e rfl hc1 hc2 (heap_alloc_new w.drew _) (by rw [hws]; simp)
      simpa using this
  unfold oldOf at hold
  split at hold
  · injection hold with hold; injection hold with h1 h2; subst h1; subst h2
    exact nowhere none hx.inv_v rfl
  · rename_i hh a sz' off n
    split at hold
    · rename_i a' sz'' els hg
      split at hold
      · rename_i hc
        obtain ⟨rfl, rfl, rfl, hle⟩ := hc
        injection hold with hold; injection hold with h1 h2; subst h1; subst h2
        have hl : ((els.drop off).take n).length = n := by simp; omega
        cases hx with
        | refz _ _ _ _ A => exact nowhere (some A) rfl (by simp)
        | refnil => exact nowhere none rfl (by simp)
        | ref _ _ _ _ _ cap cs ty' q0 q1 q2 q3 q4 =>
          rw [hl] at hb h63 ⊢
          have hblk := hH.blk _ (Heap.get_mem hg)
          simp only [BlkOK, q0, Bool.false_eq_true, if_false] at hblk
          obtain ⟨cs2, ty2, b1, b2⟩ := hblk
          rw [q3] at b1
          injection b1 with b1; injection b1 with b1 b1'; subst b1; subst b1'
          have hown := hH.own _ (Heap.real_mem (Heap.get_mem hg) q0)
          have hnot := Heap.del_real hg q0 hH.nodup
          have hfit0 : a.base + off * i.size + cap * i.size ≤ cs.size := by rw [Nat.add_mul] at q4; omega
          rcases Nat.eq_zero_or_pos news.length with h0 | h0
          · have hn : news = [] := List.eq_nil_of_length_eq_zero h0
            subst hn
            refine ⟨_, w, ⟨a.blk, a.base + off * i.size, false⟩, append_none ht hi _ n cap q1 Ay cy, ?_, hH0.cons _ _ _ ?_ (fun _ => ⟨hown.1, hown.2, hnot⟩), Ext.refl _ _⟩
            · have := VR.ref (F := F) (w := w) L ⟨a.blk, a.base + off * i.size, false⟩ i.size 0 n cap cs ty' rfl q1 q2 q3 (by simpa using hfit0)
              simpa using this
            · simp only [BlkOK]
              rw [if_neg (by simp)]
              refine ⟨cs, ty', q3, fun k q hk => ?_⟩
              rw [List.append_nil, take_drop_get] at hk
              split at hk
              · obtain ⟨e1, e2⟩ := b2 _ q hk
                refine ⟨e1, fun j y hy => ?_⟩
                obtain ⟨v, e3, e4⟩ := e2 j y hy
                refine ⟨v, ?_, e4⟩
                rw [← e3, Nat.add_mul]; congr 1; omega
              · simp at hk
          · have hne : news ≠ [] := fun e => by rw [e] at h0; simp at h0
            rcases hcells with ⟨_, e⟩ | e | ⟨ad, vs, rfl, he, hc⟩
            · exact absurd e hne
            · exact absurd e hne
            by_cases hroom : n + news.length ≤ cap
            · have hmul : n * i.size + vs.length ≤ cap * i.size := by rw [he.1, ← Nat.add_mul]; exact Nat.mul_le_mul_right _ hroom
              have hone : ∀ q ∈ vs, q.oneCell' = true := by
                intro q hq
                obtain ⟨m, hm, rfl⟩ := List.mem_iff_getElem.1 hq
                have hmlt : m < news.length * i.size := by rw [← he.1]; exact hm
                have hk : m / i.size < news.length := by rw [Nat.div_lt_iff_lt_mul hsz]; exact hmlt
                obtain ⟨⟨e1, e1l⟩, e2⟩ := he.2 (m / i.size) news[m / i.size] (by simp [hk])
                have hj : m % i.size < news[m / i.size].cells.length := by rw [e1]; exact Nat.mod_lt _ hsz
                obtain ⟨v, e3, e4⟩ := e2 (m % i.size) news[m / i.size].cells[m % i.size] (by simp [hj])
                have em : m / i.size * i.size + m % i.size = m := by rw [Nat.mul_comm]; exact Nat.div_add_mod m i.size
                rw [em] at e3
                simp [hm] at e3
                rw [e3]
                exact e4.oneCell (List.all_eq_true.1 e1l _ (List.getElem_mem hj))
              have hr := append_room (P := P) (w := w) (ty := ty) ht hi a.blk (a.base + off * i.size) n cap cs ty' q3 ad news.length cy vs he.1 hc hone hroom (by omega)
              have hsize : (cs.toList.take (a.base + off * i.size + n * i.size) ++ vs ++ cs.toList.drop (a.base + off * i.size + n * i.size + vs.length)).toArray.size = cs.size := by
                simp; omega
              have hext : Ext (fun c => F c ∨ Keep c) w (w.setRow a.blk (cs.toList.take (a.base + off * i.size + n * i.size) ++ vs ++ cs.toList.drop (a.base + off * i.size + n * i.size + vs.length)).toArray) :=
                ext_setRow a.blk cs _ ty' q3 hsize _ (fun h => h.elim hown.1 hown.2)
              have hH1 : HeapOK Keep F (w.setRow a.blk (cs.toList.take (a.base + off * i.size + n * i.size) ++ vs ++ cs.toList.drop (a.base + off * i.size + n * i.size + vs.length)).toArray) (H.del hh) :=
                hH0.step (Grow.same hext) (fun c hc => setRow_other w a.blk c _ (fun e => hnot (e ▸ hc))) (fun c hc => (hH0.own c hc).1) (fun c hc => by have := hH.flt c hc; simpa using this)
              refine ⟨_, _, ⟨a.blk, a.base + off * i.size, false⟩, hr, ?_, hH1.cons _ _ _ ?_ (fun _ => ⟨hown.1, hown.2, hnot⟩), hext⟩
              · have := VR.ref (F := F) (w := w.setRow a.blk (cs.toList.take (a.base + off * i.size + n * i.size) ++ vs ++ cs.toList.drop (a.base + off * i.size + n * i.size + vs.length)).toArray) L ⟨a.blk, a.base + off * i.size, false⟩ i.size 0 (n + news.length) cap _ ty' rfl hroom q2 (setRow_heap w a.blk cs _ ty' _ q3) (by rw [hsize]; simpa using hfit0)
                simpa using this
              · simp only [BlkOK]
                rw [if_neg (by simp)]
                refine ⟨_, ty', setRow_heap w a.blk cs _ ty' _ q3, fun k q hk => ?_⟩
                have hstep : ∀ {q : AV} {z : Value}, VR F w q z → VR F (w.setRow a.blk (cs.toList.take (a.base + off * i.size + n * i.size) ++ vs ++ cs.toList.drop (a.base + off * i.size + n * i.size + vs.length)).toArray) q z := fun hq => hq.step (fun _ h => h) hH.flt (hext.mono fun _ h => .inl h)
                have ht1 : (cs.toList.take (a.base + off * i.size + n * i.size)).length = a.base + off * i.size + n * i.size := by simp; omega
                by_cases hkn : k < n
                · rw [List.getElem?_append_left (by rw [hl]; exact hkn), take_drop_get, if_pos hkn] at hk
                  obtain ⟨e1, e2⟩ := b2 _ q hk
                  refine ⟨e1, fun j y hy => ?_⟩
                  obtain ⟨v, e3, e4⟩ := e2 j y hy
                  refine ⟨v, ?_, hstep e4⟩
                  have hj : j < i.size := by rw [← e1.1]; exact (List.getElem?_eq_some_iff.1 hy).1
                  have hlt : k * i.size + j < n * i.size := by
                    have : (k + 1) * i.size ≤ n * i.size := Nat.mul_le_mul_right _ hkn
                    rw [Nat.add_mul] at this; omega
                  simp only [List.getElem?_toArray]
                  rw [List.append_assoc, List.getElem?_append_left (by rw [ht1]; omega), List.getElem?_take, if_pos (by omega)]
                  rw [← e3, Nat.add_mul]
                  simp only [Array.getElem?_toList]
                  congr 1; omega
                · rw [List.getElem?_append_right (by rw [hl]; omega), hl] at hk
                  obtain ⟨e1, e2⟩ := he.2 _ q hk
                  refine ⟨e1, fun j y hy => ?_⟩
                  obtain ⟨v, e3, e4⟩ := e2 j y hy
                  refine ⟨v, ?_, hstep e4⟩
                  have hlt := (List.getElem?_eq_some_iff.1 e3).1
                  have e5 : (k - n) * i.size = k * i.size - n * i.size := Nat.sub_mul ..
                  have e6 : n * i.size ≤ k * i.size := Nat.mul_le_mul_right _ (by omega)
                  simp only [List.getElem?_toArray]
                  rw [List.append_assoc, List.getElem?_append_right (by rw [ht1]; omega), ht1, List.getElem?_append_left (by omega), ← e3]
                  congr 1; omega
            · have holdc : ∃ os : List Value, Elems F w i.size ((els.drop off).take n) os ∧ ∀ (j : Nat) (u : Value), os[j]? = some u → w.cell? ((⟨a.blk, a.base + off * i.size, none⟩ : Addr).add j) = some u := by
                refine cells_list _ _ _ (fun k q hk => ?_)
                rw [take_drop_get] at hk
                split at hk
                · obtain ⟨e1, e2⟩ := b2 _ q hk
                  refine ⟨e1, fun j y hy => ?_⟩
                  obtain ⟨v, e3, e4⟩ := e2 j y hy
                  refine ⟨v, ?_, e4⟩
                  rw [Addr.add_lit]
                  simp only [World.cell?, q3]
                  rw [← e3, Nat.add_mul]
                  simp [Nat.add_assoc]
                · simp at hk
              obtain ⟨os, o1, o2⟩ := holdc
              have hr := run_append_grow (P := P) w t ty e i z ht hi hz ⟨a.blk, a.base + off * i.size, none⟩ n cap os (by rw [o1.1, hl]) o2 ad news.length cy vs he.1 hc (by omega) (by omega) (growslice_fits (by omega) hb)
              have hc1 := grownCap_ge w (n + news.length) cap e
              have hc2 : grownCap w (n + news.length) cap e ≤ 9223372036854775807 := by have := grownCap_le_maxLen w (n + news.length) cap e (by simp only [maxLen]; omega); simpa [maxLen] using this
              have hall := o1.append he
              have hH1 := hH0.drew
              obtain ⟨n1, n2⟩ := hH1.newRow L i.size ((els.drop off).take n ++ news) (os.toArray ++ vs.toArray ++ Builtin.zeroCells z.cells (grownCap w (n + news.length) cap e - (n + news.length))) e (fun k q hk => by
                obtain ⟨e1, e2⟩ := hall.2 k q hk
                refine ⟨e1, fun j y hy => ?_⟩
                obtain ⟨v, e3, e4⟩ := e2 j y hy
                refine ⟨v, ?_, e4.grow hH0 (Grow.same (Ext.drew _ w))⟩
                have hlt : k * i.size + j < (os ++ vs).length := (List.getElem?_eq_some_iff.1 e3).1
                rw [Array.getElem?_append_left (by simpa using hlt)]
                simpa using e3)
              refine ⟨_, _, _, hr, ?_, n1, (Ext.drew _ w).trans n2.ext⟩
              have hws : (os.toArray ++ vs.toArray ++ Builtin.zeroCells z.cells (grownCap w (n + news.length) cap e - (n + news.length))).size = grownCap w (n + news.length) cap e * i.size := by
                simp only [Array.size_append, List.size_toArray, size_zeroCells, hzs, he.1, o1.1, hl, ← Nat.add_mul]; congr 1; omega
              have := VR.ref (F := F) (w := w.drew.alloc (.cells (os.toArray ++ vs.toArray ++ Builtin.zeroCells z.cells (grownCap w (n + news.length) cap e - (n + news.length))) e)) L ⟨w.heap.size, 0, false⟩ i.size 0 (n + news.length) _ _ e rfl hc1 hc2 (heap_alloc_new w.drew _) (by rw [hws]; simp)
              simpa using this
      · simp at hold
    · simp at hold
  · simp at hold
end Go.Proofs.Ytjnencdmejhmjaa.Eng
namespace Go.Proofs.Ytjnencdmejhmjaa.Eng
open Go Go.RowKit
set_option linter.unusedSimpArgs false
set_option linter.unusedVariables false
variable {P : Program} {F Keep : Nat → Prop} {w : World} {H : Heap}

def VRs (F : Nat → Prop) (w : World) (xs : List AV) (vs : List Value) : Prop := xs.length = vs.length ∧ ∀ (i : Nat) (x : AV) (v : Value), xs[i]? = some x → vs[i]? = some v → VR F w x v
/-- A function with a Go body: the call enters it. -/
def okF (P : Program) (f : Nat) : Bool :=
  match P.funcs[f]? with
  | some fn => fn.name != "runtime.NumGoroutine" && fn.body.isSome
  | none => false
/-- A call does this to what is known. -/
def CallOK (P : Program) (f : Nat) (xs : List AV) (H : Heap) (K : AV → Heap → Prop) : Prop :=
  okF P f = true ∧ ∀ (Keep F : Nat → Prop) (w : World) (vs : List Value), HeapOK Keep F w H → VRs F w xs vs →
    Calls P f vs.toArray w fun e w' => ∃ v r H' F', e = .returned v ∧ K r H' ∧ Grow Keep F F' w w' ∧ HeapOK Keep F' w' H' ∧ VR F' w' r v
theorem CallOK.mono {f : Nat} {xs : List AV} {K K' : AV → Heap → Prop} (h : CallOK P f xs H K) (hk : ∀ r H', K r H' → K' r H') : CallOK P f xs H K' :=
  ⟨h.1, fun Keep F w vs hH hv => (h.2 Keep F w vs hH hv).mono fun e w' ⟨v, r, H', F', h1, h2, h3⟩ => ⟨v, r, H', F', h1, hk _ _ h2, h3⟩⟩

def fillEls (sz : Nat) (els : List AV) : List (Nat × AV) → Option (List AV)
  | [] => some els
  | (i, x) :: r => if x.ok = true ∧ x.cells.length = sz ∧ x.cells.all AV.leaf = true ∧ i < els.length then fillEls sz (els.set i x) r else none
def opdNats (ρ : Opd → Option AV) : List (Nat × Opd) → Option (List (Nat × AV))
  | [] => some []
  | (i, x) :: r => (ρ x).bind fun a => (opdNats ρ r).bind fun l => some ((i, a) :: l)
def mksRun (L sz : Nat) (z : Value) (bytes : Nat) (H : Heap) (K : Option AV → Heap → Prop) : AV → AV → Prop
  | .v (.int _ n), .v (.int _ m) => n = m ∧ 0 ≤ n ∧ n * bytes ≤ 140737488355328 ∧ ∀ a, K (some (.ref L a sz 0 n.toNat)) ((L, a, .arr sz (List.replicate n.toNat (AV.ofV z))) :: H)
  | _, _ => False
def callvRun (P : Program) (l : List AV) (H : Heap) (K : Option AV → Heap → Prop) : AV → Prop
  | .fn f caps => CallOK P f (l ++ caps) H fun r H' => K (some r) H'
  | _ => False
def eqnilRun (neg : Bool) (H : Heap) (K : Option AV → Heap → Prop) : AV → Prop
  | .fz _ els => ∀ t : Bool, (t = true → els = []) → K (some (.b (if neg = true then !t else t))) H
  | .ref _ _ _ _ n => ∀ t : Bool, (t = true → n = 0) → K (some (.b (if neg = true then !t else t))) H
  | .v (.slice none _ _) => K (some (.b (!neg))) H
  | _ => False
/-- What an operation does; L: the label of what it makes. -/
def IOp.run (P : Program) (L : Nat) (ρ : Opd → Option AV) (H : Heap) (K : Option AV → Heap → Prop) : IOp → Prop
  | .store n x y => match ρ x, ρ y with
    | some a, some b => storeRun n a b H fun H' => K none H'
    | _, _ => False
  | .alloc z => ∀ a, K (some (.ptr L a (AV.ofV z).cells.length 0 0)) ((L, a, .arr (AV.ofV z).cells.length [AV.ofV z]) :: H)
  | .box x => match ρ x with
    | some y => y.ok = true ∧ y.cells.all AV.leaf = true ∧ ∀ a, K (some (.ptr L a y.cells.length 0 0)) ((L, a, .arr y.cells.length [y]) :: H)
    | none => False
  | .bsl sz z ln parts => match opdNats ρ parts with
    | some l => match fillEls sz (List.replicate ln (AV.ofV z)) l with
      | some els => ∀ a, K (some (.ref L a sz 0 ln)) ((L, a, .arr sz els) :: H)
      | none => False
    | none => False
  | .mks sz z bytes l c => match ρ l, ρ c with
    | some a, some b => mksRun L sz z bytes H K a b
    | _, _ => False
  | .app sz bytes x y => match ρ x, ρ y with
    | some a, some b => match oldOf sz H a, newsOf sz H b with
      | some (olds, H0), some news => (olds.length + news.length) * bytes ≤ 140737488355328 ∧ ∀ a', K (some (.ref L a' sz 0 (olds.length + news.length))) ((L, a', .arr sz (olds ++ news)) :: H0)
      | _, _ => False
    | _, _ => False
  | .call f xs => match opds ρ xs with
    | some l => CallOK P f l H fun r H' => K (some r) H'
    | none => False
  | .callv x xs => match ρ x, opds ρ xs with
    | some a, some l => callvRun P l H K a
    | _, _ => False
  | .eqnil neg x => match ρ x with
    | some a => eqnilRun neg H K a
    | none => False
  | q => match q.val ρ H with
    | some a => K (some a) H
    | none => False

def IOp.isVal : IOp → Bool
  | .store .. | .alloc .. | .box .. | .bsl .. | .mks .. | .app .. | .call .. | .callv .. | .eqnil .. => false
  | _ => true
theorem run_val {q : IOp} (h : q.isVal = true) (L : Nat) (ρ : Opd → Option AV) (K : Option AV → Heap → Prop) : q.run P L ρ H K = match q.val ρ H with | some a => K (some a) H | none => False := by
  cases q <;> first | rfl | simp [IOp.isVal] at h
def leafV (z : Value) : Bool := (AV.ofV z).ok && (AV.ofV z).cells.all AV.leaf
def compNats : List (Nat × Operand) → Option (List (Nat × Opd))
  | [] => some []
  | (i, x) :: r => (compOpd x).bind fun a => (compNats r).bind fun l => some ((i, a) :: l)
def compOp (P : Program) (o : Op) : Option IOp :=
  match o with
  | .store t x y => (sizeP P t).bind fun n => if n = 0 then none else (compOpd x).bind fun a => (compOpd y).bind fun b => some (.store n a b)
  | .binOp .eql t x (.const (.slice none 0 0)) _ => match P.underlying t with
    | some (.slice _) => (compOpd x).bind fun a => some (.eqnil false a)
    | _ => none
  | .binOp .neq t x (.const (.slice none 0 0)) _ => match P.underlying t with
    | some (.slice _) => (compOpd x).bind fun a => some (.eqnil true a)
    | _ => none
  | .alloc t => (P.info? t).bind fun i => i.zero.bind fun z => if leafV z then some (.alloc z) else none
  | .box _ x => (compOpd x).bind fun a => some (.box a)
  | .buildSlice t len parts => match P.underlying t with
    | some (.slice e) => (P.info? e).bind fun i => i.zero.bind fun z => if leafV z && z.cells.size == i.size && decide (0 < i.size) && decide (len * i.size ≤ 2 ^ 24) then (compNats parts.toList).bind fun l => some (.bsl i.size z len l) else none
    | _ => none
  | .makeSlice t l c => match P.underlying t with
    | some (.slice e) => (P.info? e).bind fun i => i.zero.bind fun z => if leafV z && z.cells.size == i.size && decide (0 < i.size) && decide (0 < i.bytes) then (compOpd l).bind fun a => (compOpd c).bind fun b => some (.mks i.size z i.bytes a b) else none
    | _ => none
  | .call ⟨.builtin .append, xs, ts⟩ => match xs.toList, ts.toList with
    | [x, y], [t, u] => match P.underlying t with
      | some (.slice e) => (P.info? e).bind fun i => i.zero.bind fun z => if t == u && z.cells.size == i.size && decide (0 < i.size) && decide (0 < i.bytes) then (compOpd x).bind fun a => (compOpd y).bind fun b => some (.app i.size i.bytes a b) else none
      | _ => none
    | _, _ => none
  | .call ⟨.value (.func f), xs, _⟩ => (compOpds xs.toList).bind fun l => some (.call f l)
  | .call ⟨.value (.tmp t), xs, _⟩ => (compOpds xs.toList).bind fun l => some (.callv (.t t) l)
  | o => (compVal P o).bind fun q => if q.isVal then some q else none
end Go.Proofs.Ytjnencdmejhmjaa.Eng
namespace Go.Proofs.Ytjnencdmejhmjaa.Eng
open Go Go.RowKit
set_option linter.unusedSimpArgs false
set_option linter.unusedVariables false
variable {P : Program} {F Keep : Nat → Prop} {w : World} {H : Heap}

theorem leafV_cells {z : Value} (h : leafV z = true) : (AV.ofV z).ok = true ∧ (AV.ofV z).cells.all AV.leaf = true ∧ (AV.ofV z).cells.length = z.cells.size ∧ ∀ (j : Nat) (y : AV), (AV.ofV z).cells[j]? = some y → ∃ v, z.cells[j]? = some v ∧ VR F w y v := by
  simp only [leafV, Bool.and_eq_true] at h
  obtain ⟨h1, h2⟩ := h
  obtain ⟨h3, h4⟩ := (VR.ofV F w z).okCells h1
  exact ⟨h1, h2, h3, h4⟩
/-- rows of zeros, cell by cell -/
theorem zeros_cell {z : Value} (hz : leafV z = true) {sz : Nat} (hs : z.cells.size = sz) (h0 : 0 < sz) (n : Nat) (i : Nat) (e : AV) (he : (List.replicate n (AV.ofV z))[i]? = some e) :
    (e.cells.length = sz ∧ e.cells.all AV.leaf = true) ∧ ∀ (j : Nat) (y : AV), e.cells[j]? = some y → ∃ v, ((Array.range (n * sz)).map (z.cells[· % z.cells.size]!))[i * sz + j]? = some v ∧ VR F w y v := by
  obtain ⟨_, h2, h3, h4⟩ := leafV_cells (F := F) (w := w) hz
  rw [List.getElem?_replicate] at he
  split at he
  · rename_i hi
    injection he with he; subst he
    refine ⟨⟨by rw [h3, hs], h2⟩, fun j y hy => ?_⟩
    obtain ⟨v, hv1, hv2⟩ := h4 j y hy
    refine ⟨v, ?_, hv2⟩
    have hj : j < sz := by rw [← hs, ← h3]; exact (List.getElem?_eq_some_iff.1 hy).1
    have hlt : i * sz + j < n * sz := by
      have : (i + 1) * sz ≤ n * sz := Nat.mul_le_mul_right _ hi
      rw [Nat.add_mul] at this; omega
    have e2 : (i * sz + j) % sz = j := by rw [Nat.mul_comm, Nat.mul_add_mod, Nat.mod_eq_of_lt hj]
    rw [Array.getElem?_map, Array.getElem?_range, if_pos hlt]
    simp only [Option.map_some, hs, e2]
    rw [getElem!_def, hv1]
  · simp at he
theorem opdNats_rel {ρc : Operand → Value} {ρa : Opd → Option AV} (hρ : ∀ x y a, compOpd x = some y → ρa y = some a → VR F w a (ρc x)) : ∀ {ps : List (Nat × Operand)} {l : List (Nat × Opd)} {as : List (Nat × AV)}, compNats ps = some l → opdNats ρa l = some as →
    as.length = ps.length ∧ ∀ (i : Nat) (p : Nat × AV) (q : Nat × Value), as[i]? = some p → (ps.map fun (i, x) => (i, ρc x))[i]? = some q → q.1 = p.1 ∧ VR F w p.2 q.2
  | [], l, as, h, ha => by
    simp [compNats] at h; subst h; simp [opdNats] at ha; subst ha; simp
  | (i, x) :: ps, l, as, h, ha => by
    simp only [compNats, Option.bind_eq_some_iff] at h
    obtain ⟨y, hy, l', hl', e⟩ := h
    injection e with e; subst e
    simp only [opdNats, Option.bind_eq_some_iff] at ha
    obtain ⟨a, ha, as', has, e⟩ := ha
    injection e with e; subst e
    obtain ⟨h1, h2⟩ := opdNats_rel hρ hl' has
    refine ⟨by simp [h1], fun j p q hp hq => ?_⟩
    match j with
    | 0 => simp at hp hq; subst hp; subst hq; exact ⟨rfl, hρ _ _ _ hy ha⟩
    | j + 1 => simp at hp hq; exact h2 j p q hp (by simpa using hq)
/-- a row of elements, cell by cell -/
def RowR (F : Nat → Prop) (w : World) (sz : Nat) (els : List AV) (arr : Array Value) : Prop :=
  arr.size = els.length * sz ∧ ∀ (i : Nat) (e : AV), els[i]? = some e → (e.cells.length = sz ∧ e.cells.all AV.leaf = true) ∧ ∀ (j : Nat) (y : AV), e.cells[j]? = some y → ∃ v, arr[i * sz + j]? = some v ∧ VR F w y v
theorem fillEls_sound (sz : Nat) (hs0 : 0 < sz) : ∀ (l : List (Nat × AV)) (ps : List (Nat × Value)) (els r : List AV) (arr : Array Value), fillEls sz els l = some r → RowR F w sz els arr → l.length = ps.length →
    (∀ (i : Nat) (p : Nat × AV) (q : Nat × Value), l[i]? = some p → ps[i]? = some q → q.1 = p.1 ∧ VR F w p.2 q.2) → ∃ arr', Instr.fill (fun i => some (i * sz, sz)) arr ps = some arr' ∧ RowR F w sz r arr'
  | [], [], els, r, arr, h, hc, _, _ => by simp [fillEls] at h; subst h; exact ⟨arr, rfl, hc⟩
  | p :: l, q :: ps, els, r, arr, h, hc, hl, hr => by
    obtain ⟨i, x⟩ := p
    obtain ⟨i', v⟩ := q
    obtain ⟨hp, hv⟩ := hr 0 (i, x) (i', v) rfl rfl
    dsimp only at hp hv
    subst hp
    simp only [fillEls] at h
    split at h
    · rename_i hle
      obtain ⟨hok, e1, eleaf, e2⟩ := hle
      have hcell := hv.okCells hok
      have hsz : v.cells.size = sz := by rw [← hcell.1]; exact e1
      have hmul : i' * sz + sz ≤ arr.size := by
        rw [hc.1]
        have : (i' + 1) * sz ≤ els.length * sz := Nat.mul_le_mul_right _ e2
        rw [Nat.add_mul] at this; omega
      obtain ⟨f1, f2⟩ := foldSet (i' * sz) v.cells.toList 0 arr (by simp [hsz]; omega)
      have hnew : RowR F w sz (els.set i' x) ((v.cells.toList.zipIdx 0).foldl (fun (cs : Array Value) (p : Value × Nat) => cs.setIfInBounds (i' * sz + p.2) p.1) arr) := by
        refine ⟨by rw [f1, hc.1]; simp, fun k e he => ?_⟩
        rw [List.getElem?_set] at he
        by_cases hk : i' = k
        · subst hk
          rw [if_pos rfl, if_pos e2] at he
          injection he with he; subst he
          refine ⟨⟨e1, eleaf⟩, fun j y hy => ?_⟩
          obtain ⟨u, hu1, hu2⟩ := hcell.2 j y hy
          have hj : j < sz := by rw [← e1]; exact (List.getElem?_eq_some_iff.1 hy).1
          refine ⟨u, ?_, hu2⟩
          rw [f2, if_pos ⟨by omega, by simp [hsz]; omega⟩]
          have : i' * sz + j - (i' * sz + 0) = j := by omega
          rw [this]; simpa using hu1
        · rw [if_neg hk] at he
          obtain ⟨g1, g2⟩ := hc.2 k e he
          refine ⟨g1, fun j y hy => ?_⟩
          obtain ⟨u, hu1, hu2⟩ := g2 j y hy
          have hj : j < sz := by rw [← g1.1]; exact (List.getElem?_eq_some_iff.1 hy).1
          refine ⟨u, ?_, hu2⟩
          rw [f2, if_neg ?_]
          · exact hu1
          · simp only [Array.length_toList, hsz]
            rcases Nat.lt_or_gt_of_ne hk with hk | hk
            · have : (i' + 1) * sz ≤ k * sz := Nat.mul_le_mul_right _ hk
              rw [Nat.add_mul] at this; omega
            · have : (k + 1) * sz ≤ i' * sz := Nat.mul_le_mul_right _ hk
              rw [Nat.add_mul] at this; omega
      obtain ⟨arr', h1, h2⟩ := fillEls_sound sz hs0 l ps _ r _ h hnew (by simpa using hl) (fun i p q hp hq => hr (i + 1) p q (by simpa using hp) (by simpa using hq))
      refine ⟨arr', ?_, h2⟩
      have hcond : (decide (v.cells.size ≠ sz) || decide (i' * sz + v.cells.size > arr.size)) = false := by
        simp [hsz]; omega
      simp only [Instr.fill]
      rw [hcond]
      simp only [Bool.false_eq_true, if_false]
      rw [← h1]
      congr 1
      rw [← Array.foldl_toList, Array.toList_zipIdx]
    · simp at h

theorem run_eqnil {t el : Nat} (hu : P.underlying t = some (.slice el)) (A : Option Addr) (n c : Nat) (op : BinOp) (hop : op = .eql ∨ op = .neq) (x y : Operand) :
    (do eqGuard op t x y (.slice A n c) (.slice none 0 0); binOp op t (.slice A n c) (.slice none 0 0) : Sem Value).run P w = .ok (.bool (if op = .neq then !A.isNone else A.isNone)) w := by
  have h1 : (eqGuard op t x y (.slice A n c) (.slice none 0 0)).run P w = .ok () w := by
    rcases hop with rfl | rfl <;> rfl
  have h2 : (Op.equal t (.slice A n c) (.slice none 0 0)).run P w = .ok A.isNone w := by
    have key : ∀ d, (Op.equalIn (d + 1) t (.slice A n c) (.slice none 0 0)).run P w = .ok A.isNone w := by
      intro d
      cases A <;> simp only [Op.equalIn, Sem.run_bind, run_underlying hu, Result.andThen_ok, Sem.run_pure] <;> rfl
    exact key 9999
  rw [Sem.run_bind, h1, Result.andThen_ok]
  rcases hop with rfl | rfl
  · simp [binOp, Sem.run_bind, h2]
  · simp [binOp, Sem.run_bind, h2]
theorem eqnil_run {t el : Nat} {xa : AV} {v : Value} (hx : VR F w xa v) (hu : P.underlying t = some (.slice el)) (neg : Bool) {K : Option AV → Heap → Prop} (h : eqnilRun neg H K xa) {x y : Operand} :
    ∃ r, (do eqGuard (if neg = true then .neq else .eql) t x y v (.slice none 0 0); binOp (if neg = true then .neq else .eql) t v (.slice none 0 0) : Sem Value).run P w = .ok (.bool r) w ∧ K (some (.b r)) H := by
  have key : ∀ (A : Option Addr) (n c : Nat), (do eqGuard (if neg = true then .neq else .eql) t x y (.slice A n c) (.slice none 0 0); binOp (if neg = true then .neq else .eql) t (.slice A n c) (.slice none 0 0) : Sem Value).run P w = .ok (.bool (if neg = true then !A.isNone else A.isNone)) w := by
    intro A n c
    rw [run_eqnil hu A n c _ (by cases neg <;> simp)]
    cases neg <;> simp
  unfold eqnilRun at h
  split at h
  · cases hx with
    | fz _ _ A cap g => exact ⟨_, key _ _ _, h _ (by simp)⟩
    | fznil => exact ⟨_, key _ _ _, h _ (by simp)⟩
  · cases hx with
    | ref _ _ _ _ _ _ _ _ => exact ⟨_, key _ _ _, h _ (by simp)⟩
    | refnil => exact ⟨_, key _ _ _, h _ (by simp)⟩
    | refz => exact ⟨_, key _ _ _, h _ (by simp)⟩
  · cases hx with
    | v => exact ⟨_, key _ _ _, by cases neg <;> simpa using h⟩
  · exact h.elim

theorem op_sound {N : Nat} {E : Env} {a : Act} (hS : St N Keep F E H a w) (o : Oper) {q : IOp} (hc : compOp P o.op = some q) (hd : ∀ t, o.dst = some t → t < N) (L : Nat) {K : Option AV → Heap → Prop} (h : q.run P L E.opd H K)
    {Kc : Act → World → Prop} {Q : Exit → Act → World → Prop} (hk : ∀ x H' F' a' w', K x H' → Grow Keep F F' w w' → St N Keep F' (E.put o.dst x) H' a' w' → Kc a' w') : o.wp P a w Kc Q := by
  have hρ : ∀ x y b, compOpd x = some y → E.opd y = some b → VR F w b (a.eval x) := by
    intro x y b hxy hb
    cases x with
    | tmp t => simp [compOpd] at hxy; subst hxy; exact hS.env t b hb
    | const v => simp [compOpd] at hxy; subst hxy; simp [Env.opd] at hb; subst hb; exact VR.ofV _ _ _
    | global g => simp [compOpd] at hxy
    | func f =>
      simp [compOpd] at hxy; subst hxy; simp [Env.opd] at hb; subst hb
      exact .fn f [] [] rfl (by simp)
  have fin : ∀ (v : Value) (w' : World) (x : AV) (H' : Heap), (execOp a.eval o).run P w = .ok (.value v) w' → K (some x) H' → HeapOK Keep F w' H' → Ext (fun c => F c ∨ Keep c) w w' → VR F w' x v → o.wp P a w Kc Q := by
    intro v w' x H' hr hK hH' hext hv
    unfold Oper.wp
    rw [hr]
    exact hk (some x) H' F _ w' hK (Grow.same hext) (hS.put (Grow.same hext) hH' o.dst (some x) v hd (fun y hy => by injection hy with hy; subst hy; exact hv))
  have call_fin : ∀ (f : Nat) (vs : List Value) (l : List AV), (execOp a.eval o).run P w = (callFunc f vs.toArray).run P w → l.length = vs.length → (∀ (i : Nat) (x : AV) (v : Value), l[i]? = some x → vs[i]? = some v → VR F w x v) → CallOK P f l H (fun r H' => K (some r) H') → o.wp P a w Kc Q := by
    intro f vs l hr hl hrel hcall
    obtain ⟨hok, hcall⟩ := hcall
    have hent : (callFunc f vs.toArray).run P w = .ok (.enter f vs.toArray) w := by
      unfold okF at hok
      cases hf : P.funcs[f]? with
      | none => rw [hf] at hok; simp at hok
      | some fn =>
        rw [hf] at hok
        simp only [Bool.and_eq_true, bne_iff_ne, ne_eq] at hok
        have h1 : (fn.name == "runtime.NumGoroutine") = false := by simpa using hok.1
        have h2 : fn.body.isNone = false := by
          cases hb : fn.body with
          | none => rw [hb] at hok; simp at hok
          | some b => rfl
        simp only [callFunc, Sem.run_bind, run_program, Result.andThen_ok, hf, h1, h2, Bool.false_eq_true, if_false, Sem.run_pure]
    unfold Oper.wp
    rw [hr, hent]
    simp only [Oper.upon]
    refine (hcall Keep F w vs hS.heap ⟨hl, hrel⟩).mono ?_
    rintro e w' ⟨v, r, H', F', rfl, hK, hg, hH', hv⟩
    exact hk (some r) H' F' _ w' hK hg (hS.put hg hH' o.dst (some r) v hd (fun y hy => by injection hy with hy; subst hy; exact hv))
  unfold compOp at hc
  split at hc
  · rename_i t x y e
    simp only [Option.bind_eq_some_iff] at hc; obtain ⟨n, hn, hc⟩ := hc
    split at hc
    · simp at hc
    · rename_i hn0
      simp only [Option.bind_eq_some_iff] at hc; obtain ⟨x', hx', y', hy', hc⟩ := hc; injection hc with hc; subst hc
      simp only [IOp.run] at h
      split at h
      · rename_i xa ya hxa hya
        obtain ⟨w', H', h1, h2, h3, h4⟩ := store_sound (P := P) hS.heap hn hn0 (hρ _ _ _ hx' hxa) (hρ _ _ _ hy' hya) h
        have hr : (execOp a.eval o).run P w = .ok .skip w' := by simp only [execOp, e, Sem.run_bind, h1, Result.andThen_ok, Sem.run_pure]
        unfold Oper.wp
        rw [hr]
        exact hk none H' F _ w' h2 (Grow.same h4) (hS.put (Grow.same h4) h3 o.dst none undef hd (by simp))
      · exact h.elim
  · rename_i t x yt e
    split at hc
    · rename_i el hu
      simp only [Option.bind_eq_some_iff] at hc; obtain ⟨x', hx', hc⟩ := hc; injection hc with hc; subst hc
      simp only [IOp.run] at h
      split at h
      · rename_i xa hxa
        obtain ⟨r, h1, h2⟩ := eqnil_run (hρ _ _ _ hx' hxa) hu false h (x := x) (y := .const (.slice none 0 0))
        have hex : execOp a.eval o = (do pure (.value (← (do eqGuard .eql t x (.const (.slice none 0 0)) (a.eval x) (.slice none 0 0); binOp .eql t (a.eval x) (.slice none 0 0))))) := by simp only [execOp, e]; rfl
        refine fin (.bool r) w (.b r) H ?_ h2 hS.heap (Ext.refl _ _) (.v _)
        simp only [Bool.false_eq_true, if_false] at h1
        rw [hex, Sem.run_bind, h1]; rfl
      · exact h.elim
    · simp at hc
  · rename_i t x yt e
    split at hc
    · rename_i el hu
      simp only [Option.bind_eq_some_iff] at hc; obtain ⟨x', hx', hc⟩ := hc; injection hc with hc; subst hc
      simp only [IOp.run] at h
      split at h
      · rename_i xa hxa
        obtain ⟨r, h1, h2⟩ := eqnil_run (hρ _ _ _ hx' hxa) hu true h (x := x) (y := .const (.slice none 0 0))
        have hex : execOp a.eval o = (do pure (.value (← (do eqGuard .neq t x (.const (.slice none 0 0)) (a.eval x) (.slice none 0 0); binOp .neq t (a.eval x) (.slice none 0 0))))) := by simp only [execOp, e]; rfl
        refine fin (.bool r) w (.b r) H ?_ h2 hS.heap (Ext.refl _ _) (.v _)
        simp only [if_true] at h1
        rw [hex, Sem.run_bind, h1]; rfl
      · exact h.elim
    · simp at hc
  · rename_i t e
    simp only [Option.bind_eq_some_iff] at hc; obtain ⟨i, hi, z, hz, hc⟩ := hc
    split at hc
    · rename_i hleaf
      injection hc with hc; subst hc
      simp only [IOp.run] at h
      obtain ⟨l1, l2, l3, l4⟩ := leafV_cells (F := F) (w := w) hleaf
      obtain ⟨n1, n2⟩ := hS.heap.newRow L (AV.ofV z).cells.length [AV.ofV z] z.cells t (fun k q hq => by
        match k with
        | 0 => simp at hq; subst hq; exact ⟨⟨rfl, l2⟩, fun j y hy => by simpa using l4 j y hy⟩
        | k + 1 => simp at hq)
      exact fin _ _ _ _ (by simp only [execOp, e, Instr.alloc, zeroValue, typeInfo, Sem.run_bind, run_program, Result.andThen_ok, hi, Sem.run_pure, hz, newVar, newRow, run_newObj]; rfl) (h ⟨w.heap.size, 0, false⟩) n1 n2.ext (by simpa using VR.ptr (F := F) (w := w.alloc (.cells z.cells t)) L ⟨w.heap.size, 0, false⟩ (AV.ofV z).cells.length 0 0)
    · simp at hc
  · rename_i t x e
    simp only [Option.bind_eq_some_iff] at hc; obtain ⟨x', hx', hc⟩ := hc; injection hc with hc; subst hc
    simp only [IOp.run] at h
    split at h
    · rename_i xa hxa
      obtain ⟨hok, hleaf, h⟩ := h
      have hx := hρ _ _ _ hx' hxa
      obtain ⟨c1, c2⟩ := hx.okCells hok
      obtain ⟨n1, n2⟩ := hS.heap.newRow L xa.cells.length [xa] (a.eval x).cells t (fun k q hq => by
        match k with
        | 0 => simp at hq; subst hq; exact ⟨⟨rfl, hleaf⟩, fun j y hy => by simpa using c2 j y hy⟩
        | k + 1 => simp at hq)
      exact fin _ _ _ _ (by simp only [execOp, e, Instr.box, Sem.run_bind, Result.andThen_ok, Sem.run_pure, newVar, newRow, run_newObj]; rfl) (h ⟨w.heap.size, 0, false⟩) n1 n2.ext (by simpa using VR.ptr (F := F) (w := w.alloc (.cells (a.eval x).cells t)) L ⟨w.heap.size, 0, false⟩ xa.cells.length 0 0)
    · exact h.elim
  · rename_i t len parts e
    split at hc
    · rename_i el ht
      simp only [Option.bind_eq_some_iff] at hc; obtain ⟨i, hi, z, hz, hc⟩ := hc
      split at hc
      · rename_i hcond
        simp only [Bool.and_eq_true, decide_eq_true_eq, beq_iff_eq] at hcond
        obtain ⟨⟨⟨hleaf, hzs⟩, hpos⟩, hsmall⟩ := hcond
        simp only [Option.bind_eq_some_iff] at hc; obtain ⟨l, hl, hc⟩ := hc; injection hc with hc; subst hc
        simp only [IOp.run] at h
        split at h
        · rename_i as has
          split at h
          · rename_i els hels
            obtain ⟨o1, o2⟩ := opdNats_rel hρ hl has
            have h0 : RowR F w i.size (List.replicate len (AV.ofV z)) ((Array.range (len * i.size)).map (z.cells[· % z.cells.size]!)) := ⟨by simp, fun k q hq => zeros_cell hleaf hzs hpos len k q hq⟩
            obtain ⟨arr, f1, f2⟩ := fillEls_sound i.size hpos as (parts.toList.map fun (i, x) => (i, a.eval x)) _ els _ hels h0 (by simp [o1]) o2
            have hlen : els.length = len := by
              have e1 : ∀ (l : List (Nat × AV)) (a b : List AV), fillEls i.size a l = some b → b.length = a.length := by
                intro l
                induction l with
                | nil => intro a b h; simp [fillEls] at h; subst h; rfl
                | cons p l ih =>
                  intro a b h
                  simp only [fillEls] at h
                  split at h
                  · have := ih _ _ h; simpa using this
                  · simp at h
              have := e1 _ _ _ hels; simpa using this
            obtain ⟨n1, n2⟩ := hS.heap.newRow L i.size els arr el (fun k q hq => f2.2 k q hq)
            have e3 : (parts.map fun (i, x) => (i, a.eval x)).toList = parts.toList.map fun (i, x) => (i, a.eval x) := by simp
            refine fin (.slice (some ⟨w.heap.size, 0, none⟩) len len) _ _ _ ?_ (h ⟨w.heap.size, 0, false⟩) n1 n2.ext ?_
            · have hbig : ¬ (len * i.size > 2 ^ 24) := by omega
              simp only [execOp, e, Instr.buildSlice, Sem.run_bind, run_underlying ht, Result.andThen_ok, sizeOf, typeInfo, run_program, hi, Sem.run_pure, hbig, if_false, e3]
              by_cases hz0 : len * i.size = 0
              · have f1' : Instr.fill (fun k => some (k * i.size, i.size)) ((Array.range (len * i.size)).map ((#[] : Array Value)[· % (#[] : Array Value).size]!)) (parts.toList.map fun (i, x) => (i, a.eval x)) = some arr := by
                  have : (Array.range (len * i.size)).map ((#[] : Array Value)[· % (#[] : Array Value).size]!) = (Array.range (len * i.size)).map (z.cells[· % z.cells.size]!) := by rw [hz0]; simp
                  rw [this]; exact f1
                rw [if_pos hz0]
                simp only [Sem.run_bind, Sem.run_pure, Result.andThen_ok, f1', newRow, run_newObj]
                rfl
              · rw [if_neg hz0]
                simp only [Sem.run_bind, zeroValue, typeInfo, run_program, hi, hz, Sem.run_pure, Result.andThen_ok, f1, newRow, run_newObj]
                rfl
            · have := VR.ref (F := F) (w := w.alloc (.cells arr el)) L ⟨w.heap.size, 0, false⟩ i.size 0 len len arr el rfl (Nat.le_refl _) (by
                have : len ≤ len * i.size := Nat.le_mul_of_pos_right _ hpos
                omega) (heap_alloc_new w _) (by rw [f2.1, hlen]; simp)
              simpa using this
          · exact h.elim
        · exact h.elim
      · simp at hc
    · simp at hc
  · rename_i t l c e
    split at hc
    · rename_i el ht
      simp only [Option.bind_eq_some_iff] at hc; obtain ⟨i, hi, z, hz, hc⟩ := hc
      split at hc
      · rename_i hcond
        simp only [Bool.and_eq_true, decide_eq_true_eq, beq_iff_eq] at hcond
        obtain ⟨⟨⟨hleaf, hzs⟩, hpos⟩, hbpos⟩ := hcond
        simp only [Option.bind_eq_some_iff] at hc; obtain ⟨l', hl', c', hc', hc⟩ := hc; injection hc with hc; subst hc
        simp only [IOp.run] at h
        split at h
        · rename_i la ca hla hca
          unfold mksRun at h
          split at h
          · rename_i k n k' m
            obtain ⟨rfl, h0, hb, h⟩ := h
            have e1 := (hρ _ _ _ hl' hla).inv_v
            have e2 := (hρ _ _ _ hc' hca).inv_v
            have hrow : ∀ (k : Nat) (q : AV), (List.replicate n.toNat (AV.ofV z))[k]? = some q → (q.cells.length = i.size ∧ q.cells.all AV.leaf = true) ∧ ∀ (j : Nat) (y : AV), q.cells[j]? = some y → ∃ v, ((Array.range (n.toNat * i.size)).map (z.cells[· % z.cells.size]!))[k * i.size + j]? = some v ∧ VR F w y v := fun k q hq => zeros_cell hleaf hzs hpos n.toNat k q hq
            obtain ⟨n1, n2⟩ := hS.heap.newRow L i.size _ _ el hrow
            have hn : n ≤ 140737488355328 := by
              have : n * 1 ≤ n * (i.bytes : Int) := Int.mul_le_mul_of_nonneg_left (by omega) h0
              omega
            have hw : IntKind.i64.wrap n = n := IntWalk.i64_in n (by omega)
            refine fin (.slice (some ⟨w.heap.size, 0, none⟩) n.toNat n.toNat) _ _ _ ?_ (h ⟨w.heap.size, 0, false⟩) n1 n2.ext ?_
            · have c1 : ¬ (n < 0) := by omega
              have c2 : ¬ ((i.bytes : Int) * n > 2 ^ 48) := by rw [Int.mul_comm]; omega
              simp only [execOp, e, Instr.makeSlice, Sem.run_bind, run_underlying ht, Result.andThen_ok, asInt, asIntOf, e1, e2, Sem.run_pure, typeInfo, run_program, hi, hw]
              rw [if_neg (by simp [c1]; simpa using c2)]
              simp only [Sem.run_bind, run_askRoom, Result.andThen_ok, sizeOf, typeInfo, run_program, hi, Sem.run_pure]
              by_cases hz0 : n.toNat * i.size = 0
              · rw [if_pos hz0]
                have : (Array.range (n.toNat * i.size)).map (z.cells[· % z.cells.size]!) = (Array.range (n.toNat * i.size)).map ((#[] : Array Value)[· % (#[] : Array Value).size]!) := by rw [hz0]; simp
                rw [this]
                simp only [Sem.run_bind, Sem.run_pure, Result.andThen_ok, run_askRoom, sizeOf, typeInfo, run_program, hi, newRow, run_newObj]
                rfl
              · rw [if_neg hz0]
                simp only [Sem.run_bind, zeroValue, typeInfo, run_program, hi, hz, Sem.run_pure, Result.andThen_ok, newRow, run_newObj]
                rfl
            · have := VR.ref (F := F) (w := w.alloc (.cells ((Array.range (n.toNat * i.size)).map (z.cells[· % z.cells.size]!)) el)) L ⟨w.heap.size, 0, false⟩ i.size 0 n.toNat n.toNat _ el rfl (Nat.le_refl _) (by omega) (heap_alloc_new w _) (by simp)
              simpa using this
          · exact h.elim
        · exact h.elim
      · simp at hc
    · simp at hc
  · rename_i xs ts e
    split at hc
    · rename_i x y t u hxs hts
      split at hc
      · rename_i el ht
        simp only [Option.bind_eq_some_iff] at hc; obtain ⟨i, hi, z, hz, hc⟩ := hc
        split at hc
        · rename_i hcond
          simp only [Bool.and_eq_true, decide_eq_true_eq, beq_iff_eq] at hcond
          obtain ⟨⟨⟨rfl, hzs⟩, hpos⟩, hbpos⟩ := hcond
          simp only [Option.bind_eq_some_iff] at hc; obtain ⟨x', hx', y', hy', hc⟩ := hc; injection hc with hc; subst hc
          simp only [IOp.run] at h
          split at h
          · rename_i xa ya hxa hya
            split at h
            · rename_i olds H0 news ho hn
              obtain ⟨hb, h⟩ := h
              have h63 : olds.length + news.length ≤ 9223372036854775807 := by
                have : (olds.length + news.length) * 1 ≤ (olds.length + news.length) * i.bytes := Nat.mul_le_mul_left _ hbpos
                omega
              obtain ⟨u', w', a', r1, r2, r3, r4⟩ := append_sound (P := P) (ty := o.type) hS.heap ht hi hz hzs hpos (hρ _ _ _ hx' hxa) (hρ _ _ _ hy' hya) ho hn hb h63 L
              obtain rfl : xs = #[x, y] := by rw [← Array.toArray_toList (xs := xs), hxs]
              obtain rfl : ts = #[t, t] := by rw [← Array.toArray_toList (xs := ts), hts]
              exact fin u' w' _ _ (by simp [execOp, e, resolve, invoke, builtin, r1]) (h a') r3 r4 r2
            · exact h.elim
          · exact h.elim
        · simp at hc
      · simp at hc
    · simp at hc
  · rename_i f xs ts e
    simp only [Option.bind_eq_some_iff] at hc; obtain ⟨l', hl', hc⟩ := hc; injection hc with hc; subst hc
    simp only [IOp.run] at h
    split at h
    · rename_i l hl
      obtain ⟨o1, o2⟩ := opds_rel hρ hl' hl
      refine call_fin f (xs.toList.map a.eval) l ?_ (by simp [o1]) o2 h
      have ea : xs.map a.eval = (xs.toList.map a.eval).toArray := by apply Array.ext'; simp
      simp only [execOp, e, resolve, Act.eval, Deferred.ofValue, Sem.run_bind, Sem.run_pure, Result.andThen_ok, invoke, ea]
      simp
    · exact h.elim
  · rename_i t xs ts e
    simp only [Option.bind_eq_some_iff] at hc; obtain ⟨l', hl', hc⟩ := hc; injection hc with hc; subst hc
    simp only [IOp.run] at h
    split at h
    · rename_i xa l hxa hl
      obtain ⟨o1, o2⟩ := opds_rel hρ hl' hl
      unfold callvRun at h
      split at h
      · rename_i f caps
        have hx := hρ (.tmp t) (.t t) _ rfl hxa
        generalize hz : a.eval (.tmp t) = z at hx
        cases hx with
        | fn _ _ vs c1 c2 =>
          refine call_fin f (xs.toList.map a.eval ++ vs) (l ++ caps) ?_ (by simp [o1, c1]) (fun i x v hx hv => ?_) h
          · have ea : xs.map a.eval = (xs.toList.map a.eval).toArray := by apply Array.ext'; simp
            simp only [execOp, e, resolve, hz, Deferred.ofValue, Sem.run_bind, Sem.run_pure, Result.andThen_ok, invoke, ea]
            simp
          · have hll : l.length = (xs.toList.map a.eval).length := by simp [o1]
            by_cases hi : i < l.length
            · rw [List.getElem?_append_left hi] at hx
              rw [List.getElem?_append_left (by omega)] at hv
              exact o2 i x v hx hv
            · rw [List.getElem?_append_right (by omega)] at hx
              rw [List.getElem?_append_right (by omega), ← hll] at hv
              exact c2 _ x v hx hv
      · exact h.elim
    · exact h.elim
  · simp only [Option.bind_eq_some_iff] at hc; obtain ⟨q', hq', hc⟩ := hc
    split at hc
    · rename_i hv
      injection hc with hc; subst hc
      rw [run_val hv] at h
      split at h
      · rename_i x hx
        obtain ⟨v, h1, h2⟩ := val_sound (P := P) hS.heap hρ o hq' hx
        exact fin v w x H h1 h hS.heap (Ext.refl _ _) h2
      · exact h.elim
    · simp at hc
end Go.Proofs.Ytjnencdmejhmjaa.Eng
