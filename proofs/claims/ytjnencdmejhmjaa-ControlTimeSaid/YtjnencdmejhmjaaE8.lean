/- ENGINE, part 8: what is known between two steps; new blocks, stores, blocks let go. -/
import Derived.Test.YtjnencdmejhmjaaE7
import Derived.Laws.AppendOwn
namespace Go.Proofs.Ytjnencdmejhmjaa.Eng
open Go Go.RowKit
set_option linter.unusedSimpArgs false
set_option linter.unusedVariables false
variable {P : Program} {F Keep : Nat → Prop} {w : World} {H : Heap}

def Env.put (d : Option Nat) (x : Option AV) (E : Env) : Env :=
  match d with
  | none => E
  | some t => match x with
    | some a => E.set t a
    | none => E.del t
structure St (N : Nat) (Keep F : Nat → Prop) (E : Env) (H : Heap) (a : Act) (w : World) : Prop where
  env : ∀ t x, E.get t = some x → VR F w x (a.tmps.getD t undef)
  tsz : a.tmps.size = N
  dfs : a.defers = []
  heap : HeapOK Keep F w H
structure Grow (Keep F F' : Nat → Prop) (w w' : World) : Prop where
  sub : ∀ c, F c → F' c
  new : ∀ c, F' c → F c ∨ (¬ Keep c)
  ext : Ext (fun c => F c ∨ Keep c) w w'
theorem Grow.refl (Keep F : Nat → Prop) (w : World) : Grow Keep F F w w := ⟨fun _ h => h, fun _ h => .inl h, Ext.refl _ _⟩
theorem Grow.trans {Keep F F1 F2 : Nat → Prop} {w w1 w2 : World} (h : Grow Keep F F1 w w1) (k : Grow Keep F1 F2 w1 w2) : Grow Keep F F2 w w2 :=
  ⟨fun c hc => k.sub c (h.sub c hc), fun c hc => (k.new c hc).elim (h.new c) .inr, h.ext.trans (k.ext.mono fun c hc => hc.imp (h.sub c) id)⟩
theorem Grow.same {w w' : World} (h : Ext (fun c => F c ∨ Keep c) w w') : Grow Keep F F w w' := ⟨fun _ h => h, fun _ h => .inl h, h⟩
theorem VR.grow {F' : Nat → Prop} {w' : World} {x : AV} {v : Value} (h : VR F w x v) (hH : HeapOK Keep F w H) (g : Grow Keep F F' w w') : VR F' w' x v :=
  h.step g.sub hH.flt (g.ext.mono fun _ h => .inl h)
theorem St.put {N : Nat} {E : Env} {a : Act} (h : St N Keep F E H a w) {F' : Nat → Prop} {H' : Heap} {w' : World} (g : Grow Keep F F' w w') (hH : HeapOK Keep F' w' H') (d : Option Nat) (x : Option AV) (v : Value) (hd : ∀ t, d = some t → t < N) (hx : ∀ y, x = some y → VR F' w' y v) :
    St N Keep F' (E.put d x) H' (a.put d v) w' := by
  cases d with
  | none => exact ⟨fun t y hy => (h.env t y hy).grow h.heap g, h.tsz, h.dfs, hH⟩
  | some t =>
    have ht : t < a.tmps.size := by rw [h.tsz]; exact hd t rfl
    have hget : ∀ s, (a.put (some t) v).tmps.getD s undef = if t = s then v else a.tmps.getD s undef := by
      intro s
      simp only [Act.put, Array.getD_eq_getD_getElem?, Array.getElem?_setIfInBounds]
      by_cases e : t = s
      · subst e; simp [ht]
      · simp [e]
    refine ⟨fun s y hy => ?_, by simpa [Act.put] using h.tsz, by simpa [Act.put] using h.dfs, hH⟩
    rw [hget]
    cases x with
    | none =>
      simp only [Env.put, Env.get_del] at hy
      split at hy
      · simp at hy
      · rename_i e; rw [if_neg e]; exact (h.env s y hy).grow h.heap g
    | some b =>
      simp only [Env.put, Env.get_set] at hy
      by_cases e : t = s
      · rw [if_pos e] at hy ⊢; injection hy with hy; subst hy; exact hx b rfl
      · rw [if_neg e] at hy ⊢; exact (h.env s y hy).grow h.heap g
/-- A step that leaves all the blocks alone that are told of. -/
theorem HeapOK.step (hH : HeapOK Keep F w H) {F' : Nat → Prop} {w' : World} (g : Grow Keep F F' w w') (hb : ∀ c ∈ H.real, w'.heap[c]? = w.heap[c]?) (hn : ∀ c ∈ H.real, ¬ F' c) (hl : ∀ c, F' c → c < w'.heap.size) : HeapOK Keep F' w' H where
  blk p hp := (hH.blk p hp).step g.sub hH.flt (g.ext.mono fun _ h => .inl h) fun hv => hb _ (Heap.real_mem (h := p.1) (b := p.2.2) hp hv)
  own c hc := ⟨hn c hc, (hH.own c hc).2⟩
  nodup := hH.nodup
  flt := hl
  klt c hc := Nat.lt_of_lt_of_le (hH.klt c hc) g.ext.size
theorem HeapOK.sub (hH : HeapOK Keep F w H) {H' : Heap} (h : List.Sublist H' H) : HeapOK Keep F w H' where
  blk p hp := hH.blk p (h.subset hp)
  own c hc := hH.own c ((Heap.real_sub h).subset hc)
  nodup := (Heap.real_sub h).nodup hH.nodup
  flt := hH.flt
  klt := hH.klt
theorem HeapOK.lt (hH : HeapOK Keep F w H) (c : Nat) (hc : c ∈ H.real) : c < w.heap.size := by
  obtain ⟨p, hp, hv, rfl⟩ := Heap.mem_real hc
  exact (hH.blk p hp).lt hv
theorem HeapOK.drew (hH : HeapOK Keep F w H) : HeapOK Keep F w.drew H :=
  hH.step (Grow.same (Ext.drew _ w)) (fun _ _ => rfl) (fun c hc => (hH.own c hc).1) hH.flt
/-- One more block, of the function's own. -/
theorem HeapOK.cons (hH : HeapOK Keep F w H) (h : Nat) (a : Loc) (b : Blk) (hb : BlkOK F w a b) (hv : a.vir = false → ¬ F a.blk ∧ ¬ Keep a.blk ∧ a.blk ∉ H.real) : HeapOK Keep F w ((h, a, b) :: H) where
  blk p hp := by
    rcases List.mem_cons.1 hp with rfl | hp
    · exact hb
    · exact hH.blk p hp
  own c hc := by
    unfold Heap.real at hc
    split at hc
    · exact hH.own c hc
    · rename_i hvir
      rcases List.mem_cons.1 hc with rfl | hc
      · have := hv (by simpa using hvir); exact ⟨this.1, this.2.1⟩
      · exact hH.own c hc
  nodup := by
    unfold Heap.real
    split
    · exact hH.nodup
    · rename_i hvir
      exact List.nodup_cons.2 ⟨(hv (by simpa using hvir)).2.2, hH.nodup⟩
  flt := hH.flt
  klt := hH.klt
theorem HeapOK.new (hH : HeapOK Keep F w H) (o : Obj) : HeapOK Keep F (w.alloc o) H ∧ Grow Keep F F w (w.alloc o) ∧ (¬ F w.heap.size ∧ ¬ Keep w.heap.size ∧ w.heap.size ∉ H.real) := by
  have g : Grow Keep F F w (w.alloc o) := Grow.same (Ext.alloc _ w o)
  refine ⟨hH.step g (fun c hc => Below.heap_alloc w o c (hH.lt c hc)) (fun c hc => (hH.own c hc).1) (fun c hc => by have := hH.flt c hc; simp; omega), g, fun h => ?_, fun h => ?_, fun h => ?_⟩
  · have := hH.flt _ h; omega
  · have := hH.klt _ h; omega
  · have := hH.lt _ h; omega
/-- A new row. -/
theorem HeapOK.newRow (hH : HeapOK Keep F w H) (h sz : Nat) (els : List AV) (cs : Array Value) (t : TypeId)
    (hc : ∀ (i : Nat) (e : AV), els[i]? = some e → (e.cells.length = sz ∧ e.cells.all AV.leaf = true) ∧ ∀ (j : Nat) (y : AV), e.cells[j]? = some y → ∃ v, cs[i * sz + j]? = some v ∧ VR F w y v) :
    HeapOK Keep F (w.alloc (.cells cs t)) ((h, ⟨w.heap.size, 0, false⟩, .arr sz els) :: H) ∧ Grow Keep F F w (w.alloc (.cells cs t)) := by
  obtain ⟨h1, h2, h3⟩ := hH.new (.cells cs t)
  refine ⟨h1.cons _ _ _ ?_ (fun _ => h3), h2⟩
  simp only [BlkOK]
  rw [if_neg (by simp)]
  refine ⟨cs, t, heap_alloc_new w _, fun i e hi => ?_⟩
  obtain ⟨e1, e2⟩ := hc i e hi
  refine ⟨e1, fun j y hy => ?_⟩
  obtain ⟨v, e3, e4⟩ := e2 j y hy
  exact ⟨v, by simpa using e3, e4.grow hH h2⟩

theorem Heap.get_split {h : Nat} {H : Heap} {a : Loc} {b : Blk} (hg : H.get h = some (a, b)) : ∃ A B, H = A ++ (h, a, b) :: B ∧ (∀ b', H.set h b' = A ++ (h, a, b') :: B) ∧ H.del h = A ++ B := by
  induction H with
  | nil => simp [Heap.get] at hg
  | cons p H ih =>
    obtain ⟨k, a', b'⟩ := p
    unfold Heap.get at hg
    by_cases e : k = h
    · rw [if_pos e] at hg; simp at hg; obtain ⟨rfl, rfl⟩ := hg; subst e
      exact ⟨[], H, rfl, fun b' => by simp [Heap.set], by simp [Heap.del]⟩
    · rw [if_neg e] at hg
      obtain ⟨A, B, e1, e2, e3⟩ := ih hg
      refine ⟨(k, a', b') :: A, B, by rw [e1]; rfl, fun b'' => ?_, ?_⟩
      · simp only [Heap.set]; rw [if_neg e, e2]; rfl
      · simp only [Heap.del]; rw [if_neg e, e3]; rfl
theorem Heap.real_append (A B : Heap) : (A ++ B).real = A.real ++ B.real := by
  induction A with
  | nil => rfl
  | cons p A ih =>
    obtain ⟨k, a, b⟩ := p
    simp only [List.cons_append, Heap.real, ih]
    split <;> rfl
/-- The cells of one block turn; the others stay. -/
theorem HeapOK.turn (hH : HeapOK Keep F w H) {h : Nat} {a : Loc} {b : Blk} (hg : H.get h = some (a, b)) (hv : a.vir = false) {w' : World} (hother : ∀ c, c ≠ a.blk → w'.heap[c]? = w.heap[c]?) (hx : Ext (fun c => F c ∨ Keep c) w w') (b' : Blk) (hb' : BlkOK F w' a b') :
    HeapOK Keep F w' (H.set h b') := by
  obtain ⟨A, B, e1, e2, e3⟩ := Heap.get_split hg
  have hr := hH.nodup
  rw [e1, Heap.real_append] at hr
  simp only [Heap.real, hv, Bool.false_eq_true, if_false] at hr
  have hne : ∀ p ∈ A ++ B, p.2.1.vir = false → p.2.1.blk ≠ a.blk := by
    intro p hp hpv he
    rw [List.nodup_append] at hr
    obtain ⟨_, h2, h3⟩ := hr
    rcases List.mem_append.1 hp with hp | hp
    · have := Heap.real_mem (h := p.1) (b := p.2.2) hp hpv
      exact h3 _ this _ List.mem_cons_self he
    · have := Heap.real_mem (h := p.1) (b := p.2.2) hp hpv
      rw [List.nodup_cons] at h2
      exact h2.1 (he ▸ this)
  have g : Grow Keep F F w w' := Grow.same hx
  refine ⟨fun p hp => ?_, fun c hc => ?_, ?_, fun c hc => Nat.lt_of_lt_of_le (hH.flt c hc) hx.size, fun c hc => Nat.lt_of_lt_of_le (hH.klt c hc) hx.size⟩
  · rw [e2] at hp
    have hp' : p ∈ A ++ B ∨ p = (h, a, b') := by
      rcases List.mem_append.1 hp with hp | hp
      · exact .inl (List.mem_append_left _ hp)
      · rcases List.mem_cons.1 hp with hp | hp
        · exact .inr hp
        · exact .inl (List.mem_append_right _ hp)
    rcases hp' with hp | rfl
    · have hm : p ∈ H := by
        rw [e1]
        rcases List.mem_append.1 hp with hp | hp
        · exact List.mem_append_left _ hp
        · exact List.mem_append_right _ (List.mem_cons_of_mem _ hp)
      exact (hH.blk p hm).step g.sub hH.flt (hx.mono fun _ h => .inl h) fun hpv => hother _ (hne p hp hpv)
    · exact hb'
  · rw [Heap.real_set] at hc; exact hH.own c hc
  · rw [Heap.real_set]; exact hH.nodup
end Go.Proofs.Ytjnencdmejhmjaa.Eng
