/- ENGINE, part 2: what is known of the slots and of the function's own memory; operations that read, and their soundness. -/
import Derived.Test.YtjnencdmejhmjaaE1
import Derived.Laws.Entries
namespace Go.Proofs.Ytjnencdmejhmjaa.Eng
open Go Go.RowKit

abbrev Env := List (Nat × AV)
def Env.get (t : Nat) : Env → Option AV
  | [] => none
  | (k, x) :: E => if k = t then some x else Env.get t E
def Env.del (t : Nat) : Env → Env
  | [] => []
  | (k, x) :: E => if k = t then Env.del t E else (k, x) :: Env.del t E
def Env.set (t : Nat) (x : AV) (E : Env) : Env := (t, x) :: E
def Env.keep (ts : List Nat) (E : Env) : Env := ts.filterMap fun t => (E.get t).map fun x => (t, x)
theorem Env.get_set (t s : Nat) (x : AV) (E : Env) : (E.set t x).get s = if t = s then some x else E.get s := rfl
theorem Env.get_del (t s : Nat) (E : Env) : (E.del t).get s = if t = s then none else E.get s := by
  induction E with
  | nil => simp [Env.del, Env.get]
  | cons p E ih =>
    obtain ⟨k, x⟩ := p
    unfold Env.del
    by_cases h : k = t
    · rw [if_pos h, ih]
      by_cases h2 : t = s
      · simp [h2]
      · rw [if_neg h2, if_neg h2, Env.get, if_neg (by rw [h]; exact h2)]
    · rw [if_neg h, Env.get]
      by_cases h2 : k = s
      · rw [if_pos h2, if_neg (by rw [← h2]; exact fun e => h e.symm), Env.get, if_pos h2]
      · rw [if_neg h2, ih, Env.get, if_neg h2]
theorem Env.get_keep (ts : List Nat) (E : Env) (s : Nat) (x : AV) (h : (E.keep ts).get s = some x) : E.get s = some x := by
  unfold Env.keep at h
  induction ts with
  | nil => simp [Env.get] at h
  | cons t ts ih =>
    simp only [List.filterMap_cons] at h
    cases he : E.get t with
    | none => rw [he] at h; exact ih h
    | some y =>
      rw [he] at h
      simp only [Option.map_some, Env.get] at h
      by_cases e : t = s
      · rw [if_pos e] at h; rw [← e, he]; exact h
      · rw [if_neg e] at h; exact ih h

inductive Blk where
  | arr (sz : Nat) (els : List AV)
  | mapb (ents : List (AV × AV))
abbrev Heap := List (Nat × Loc × Blk)
def Heap.get (h : Nat) : Heap → Option (Loc × Blk)
  | [] => none
  | (k, a, b) :: H => if k = h then some (a, b) else Heap.get h H
def Heap.set (h : Nat) (b' : Blk) : Heap → Heap
  | [] => []
  | (k, a, b) :: H => if k = h then (k, a, b') :: H else (k, a, b) :: Heap.set h b' H
def Heap.del (h : Nat) : Heap → Heap
  | [] => []
  | (k, a, b) :: H => if k = h then H else (k, a, b) :: Heap.del h H
theorem Heap.get_mem {h : Nat} {H : Heap} {a : Loc} {b : Blk} (hg : H.get h = some (a, b)) : (h, a, b) ∈ H := by
  induction H with
  | nil => simp [Heap.get] at hg
  | cons p H ih =>
    obtain ⟨k, a', b'⟩ := p
    unfold Heap.get at hg
    by_cases e : k = h
    · rw [if_pos e] at hg; simp at hg; obtain ⟨rfl, rfl⟩ := hg; subst e; simp
    · rw [if_neg e] at hg; exact List.mem_cons_of_mem _ (ih hg)
theorem Heap.del_sub (h : Nat) (H : Heap) : List.Sublist (H.del h) H := by
  induction H with
  | nil => exact List.Sublist.refl _
  | cons p H ih =>
    obtain ⟨k, a, b⟩ := p
    unfold Heap.del
    by_cases e : k = h
    · rw [if_pos e]; exact List.sublist_cons_self _ _
    · rw [if_neg e]; exact ih.cons_cons _
def BlkOK (F : Nat → Prop) (w : World) (a : Loc) : Blk → Prop
  | .arr sz els => if a.vir = true then els = [] else ∃ (cs : Array Value) (t : TypeId), w.heap[a.blk]? = some (.cells cs t (0, 0)) ∧ ∀ (i : Nat) (e : AV), els[i]? = some e → (e.cells.length = sz ∧ e.cells.all AV.leaf = true) ∧ ∀ (j : Nat) (y : AV), e.cells[j]? = some y → ∃ v, cs[a.base + i * sz + j]? = some v ∧ VR F w y v
  | .mapb ents => a.vir = false ∧ ∃ (es : Array MapEntry) (clock : Nat), w.heap[a.blk]? = some (.map es clock) ∧ es.size = ents.length ∧ ∀ (i : Nat) (p : AV × AV), ents[i]? = some p → ∃ e, es[i]? = some e ∧ VR F w p.1 e.key ∧ VR F w p.2 e.val
def Heap.real : Heap → List Nat
  | [] => []
  | (_, a, _) :: H => if a.vir = true then Heap.real H else a.blk :: Heap.real H
theorem Heap.real_mem {H : Heap} {h : Nat} {a : Loc} {b : Blk} (hm : (h, a, b) ∈ H) (hv : a.vir = false) : a.blk ∈ H.real := by
  induction H with
  | nil => simp at hm
  | cons p H ih =>
    obtain ⟨k, a', b'⟩ := p
    unfold Heap.real
    rcases List.mem_cons.1 hm with e | hm
    · simp only [Prod.mk.injEq] at e
      obtain ⟨rfl, rfl, rfl⟩ := e
      rw [if_neg (by simp [hv])]; simp
    · split
      · exact ih hm
      · exact List.mem_cons_of_mem _ (ih hm)
theorem Heap.mem_real {H : Heap} {c : Nat} (hm : c ∈ H.real) : ∃ p ∈ H, p.2.1.vir = false ∧ p.2.1.blk = c := by
  induction H with
  | nil => simp [Heap.real] at hm
  | cons p H ih =>
    obtain ⟨k, a', b'⟩ := p
    unfold Heap.real at hm
    split at hm
    · obtain ⟨q, hq, h⟩ := ih hm; exact ⟨q, List.mem_cons_of_mem _ hq, h⟩
    · rename_i hv
      rcases List.mem_cons.1 hm with rfl | hm
      · exact ⟨_, List.mem_cons_self, by simpa using hv, rfl⟩
      · obtain ⟨q, hq, h⟩ := ih hm; exact ⟨q, List.mem_cons_of_mem _ hq, h⟩
theorem Heap.real_set (h : Nat) (b : Blk) (H : Heap) : (H.set h b).real = H.real := by
  induction H with
  | nil => rfl
  | cons p H ih =>
    obtain ⟨k, a', b'⟩ := p
    unfold Heap.set
    split
    · rfl
    · unfold Heap.real; rw [ih]
theorem Heap.real_sub {H H' : Heap} (h : List.Sublist H' H) : List.Sublist H'.real H.real := by
  induction h with
  | slnil => exact List.Sublist.refl _
  | cons p _ ih =>
    obtain ⟨k, a', b'⟩ := p
    simp only [Heap.real]
    split
    · exact ih
    · exact ih.cons _
  | cons_cons p _ ih =>
    obtain ⟨k, a', b'⟩ := p
    simp only [Heap.real]
    split
    · exact ih
    · exact ih.cons_cons _
structure HeapOK (Keep F : Nat → Prop) (w : World) (H : Heap) : Prop where
  blk : ∀ p ∈ H, BlkOK F w p.2.1 p.2.2
  own : ∀ c ∈ H.real, ¬ F c ∧ ¬ Keep c
  nodup : H.real.Nodup
  flt : ∀ c, F c → c < w.heap.size
  klt : ∀ c, Keep c → c < w.heap.size
theorem BlkOK.lt {F : Nat → Prop} {w : World} {a : Loc} {b : Blk} (h : BlkOK F w a b) (hv : a.vir = false) : a.blk < w.heap.size := by
  cases b with
  | arr sz els => simp only [BlkOK, hv] at h; obtain ⟨cs, t, h, _⟩ := h; exact (Array.getElem?_eq_some_iff.1 h).1
  | mapb ents => obtain ⟨_, cs, t, h, _⟩ := h; exact (Array.getElem?_eq_some_iff.1 h).1
/-- A step that leaves a block's cells alone. -/
theorem BlkOK.step {F F' : Nat → Prop} {w w' : World} {a : Loc} {b : Blk} (h : BlkOK F w a b) (hF : ∀ c, F c → F' c) (hl : ∀ c, F c → c < w.heap.size) (he : Ext F w w') (hb : a.vir = false → w'.heap[a.blk]? = w.heap[a.blk]?) : BlkOK F' w' a b := by
  cases b with
  | arr sz els =>
    cases hv : a.vir with
    | true => simp only [BlkOK, hv, if_true] at h ⊢; exact h
    | false =>
      simp only [BlkOK, hv] at h ⊢
      obtain ⟨cs, t, h1, h2⟩ := h
      refine ⟨cs, t, (hb hv).trans h1, fun i e hi => ?_⟩
      obtain ⟨h3, h4⟩ := h2 i e hi
      refine ⟨h3, fun j y hy => ?_⟩
      obtain ⟨v, h5, h6⟩ := h4 j y hy
      exact ⟨v, h5, h6.step hF hl he⟩
  | mapb ents =>
    obtain ⟨hv, es, cl, h1, h2, h3⟩ := h
    refine ⟨hv, es, cl, (hb hv).trans h1, h2, fun i p hp => ?_⟩
    obtain ⟨e, h4, h5, h6⟩ := h3 i p hp
    exact ⟨e, h4, h5.step hF hl he, h6.step hF hl he⟩

inductive Opd where
  | t (n : Nat)
  | c (x : Value)
  | f (n : Nat)
def Env.opd (E : Env) : Opd → Option AV
  | .t n => E.get n
  | .c x => some (AV.ofV x)
  | .f n => some (.fn n [])
def compOpd : Operand → Option Opd
  | .tmp t => some (.t t)
  | .const x => some (.c x)
  | .func f => some (.f f)
  | .global _ => none

def cutCells (cs : List AV) (off : Nat) : Option Nat → Option AV
  | none => cs[off]?
  | some n => if off + n ≤ cs.length then some (.agg ((cs.drop off).take n)) else none
def intBin (o : BinOp) (k : IntKind) (a b : Int) : Option AV :=
  match o with
  | .add => some (.v (.int k (k.wrap (a + b))))
  | .sub => some (.v (.int k (k.wrap (a - b))))
  | .mul => some (.v (.int k (k.wrap (a * b))))
  | .quo => if b = 0 then none else some (.v (.int k (k.wrap (a.tdiv b))))
  | .rem => if b = 0 then none else some (.v (.int k (a.tmod b)))
  | .and => some (.v (.int k (k.wrap (BitVec.ofInt k.bits a &&& BitVec.ofInt k.bits b).toNat)))
  | .or => some (.v (.int k (k.wrap (BitVec.ofInt k.bits a ||| BitVec.ofInt k.bits b).toNat)))
  | .eql => some (.b (a == b))
  | .neq => some (.b (a != b))
  | .lss => some (.b (decide (a < b)))
  | .leq => some (.b (decide (a ≤ b)))
  | .gtr => some (.b (decide (a > b)))
  | .geq => some (.b (decide (a ≥ b)))
  | _ => none
def binVal (o : BinOp) : AV → AV → Option AV
  | .v (.int k a), .v (.int k' b) =>
    match o with
    | .shl => if b < 0 then none else some (.v (.int k (k.wrap (a * 2 ^ min b.toNat k.bits))))
    | .shr => if b < 0 then none else some (.v (.int k (a.fdiv (2 ^ min b.toNat k.bits))))
    | o => if k = k' then intBin o k a b else none
  | _, _ => none
def boolVal (neg : Bool) : AV → AV → Option AV
  | .v (.bool a), .v (.bool b) => some (.b (if neg then !(a == b) else a == b))
  | _, _ => none
def unVal : UnOp → AV → Option AV
  | .neg, .v (.int k n) => some (.v (.int k (k.wrap (0 - n))))
  | .not, .v (.bool b) => some (.b (!b))
  | _, _ => none
def minVal : AV → List AV → Option AV
  | .v (.int k x), [] => some (.v (.int k x))
  | .v (.int k x), .v (.int _ y) :: r => minVal (.v (.int k (if y < x then y else x))) r
  | _, _ => none
def maxVal : AV → List AV → Option AV
  | .v (.int k x), [] => some (.v (.int k x))
  | .v (.int k x), .v (.int _ y) :: r => maxVal (.v (.int k (if y > x then y else x))) r
  | _, _ => none
def lenVal : AV → Option AV
  | .fz _ xs => some (.i (xs.length : Nat))
  | .ref _ _ _ _ n => some (.i (n : Nat))
  | .v (.slice none 0 0) => some (.i 0)
  | _ => none
def iaddrVal (sz : Nat) : AV → AV → Option AV
  | .fz sz' xs, .v (.int _ j) => if 0 ≤ j ∧ sz' = sz then (match xs[j.toNat]? with | some x => some (.fptr x.cells) | none => none) else none
  | .ref h a sz' off n, .v (.int _ j) => if 0 ≤ j ∧ j < n ∧ sz' = sz then some (.ptr h a sz (off + j.toNat) 0) else none
  | _, _ => none
def faddrVal (off : Nat) : AV → Option AV
  | .ptr h a sz i f => some (.ptr h a sz i (f + off))
  | .fptr cs => some (.fptr (cs.drop off))
  | _ => none
def loadVal (n : Option Nat) (H : Heap) : AV → Option AV
  | .fptr cs => cutCells cs 0 n
  | .ptr h a sz i f =>
    match H.get h with
    | some (a', .arr sz' els) => if a = a' ∧ sz = sz' then (match els[i]? with | some e => cutCells e.cells f n | none => none) else none
    | _ => none
  | _ => none
def sliceVal (sz : Nat) (lo hi : Option AV) : AV → Option AV
  | .fz sz' xs =>
    match (match lo with | none => some 0 | some (.v (.int _ l)) => if 0 ≤ l then some l.toNat else none | _ => none), (match hi with | none => some xs.length | some (.v (.int _ l)) => if 0 ≤ l then some l.toNat else none | _ => none) with
    | some l, some h => if l ≤ h ∧ h ≤ xs.length ∧ sz' = sz then some (.fz sz ((xs.take h).drop l)) else none
    | _, _ => none
  | .ref hh a sz' off n =>
    match (match lo with | none => some 0 | some (.v (.int _ l)) => if 0 ≤ l then some l.toNat else none | _ => none), (match hi with | none => some n | some (.v (.int _ l)) => if 0 ≤ l then some l.toNat else none | _ => none) with
    | some l, some h => if l ≤ h ∧ h ≤ n ∧ sz' = sz then some (.ref hh a sz (off + l) (h - l)) else none
    | _, _ => none
  | _ => none
/-- struct cells, the parts laid over the zero cells. -/
def fillVal (cs : List AV) : List (Nat × Nat × AV) → Option (List AV)
  | [] => some cs
  | (off, size, x) :: r => if x.ok = true ∧ x.cells.length = size ∧ off + size ≤ cs.length then fillVal (cs.take off ++ x.cells ++ cs.drop (off + size)) r else none
def eqsVal : List Bool → List AV → List AV → Option Bool
  | [], [], [] => some true
  | true :: ks, .v (.int k a) :: r, .v (.int k' b) :: s => if k = k' then (if a = b then eqsVal ks r s else some false) else none
  | false :: ks, .v (.bool a) :: r, .v (.bool b) :: s => if a = b then eqsVal ks r s else some false
  | _, _, _ => none
end Go.Proofs.Ytjnencdmejhmjaa.Eng
