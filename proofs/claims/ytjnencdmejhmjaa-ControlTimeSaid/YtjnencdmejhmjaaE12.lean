/- ENGINE, part 12: every operation does what part 11 says. -/
import Derived.Test.YtjnencdmejhmjaaE11
import Derived.IntWalk
namespace Go.Proofs.Ytjnencdmejhmjaa.Eng
open Go Go.RowKit
set_option linter.unusedSimpArgs false
set_option linter.unusedVariables false
variable {P : Program} {F Keep : Nat → Prop} {w : World} {H : Heap}

theorem leafV_cells {z : Value} (h : leafV z = true) : (AV.ofV z).ok = true ∧ (AV.ofV z).cells.all AV.leaf = true ∧ (AV.ofV z).cells.length = z.cells.size ∧ ∀ (j : Nat) (y : AV), (AV.ofV z).cells[j]? = some y → ∃ v, z.cells[j]? = some v ∧ VR F w y v := by
  simp only [leafV, Bool.and_eq_true] at h
  obtain ⟨h1, h2⟩ := h
  obtain ⟨h3, h4⟩ := (VR.ofV F w z).okCells h1
  exact ⟨h1, h2, h3, h4⟩
/-- rows of zeros, cell by cell -/
theorem zeros_cell {z : Value} (hz : leafV z = true) {sz : Nat} (hs : z.cells.size = sz) (h0 : 0 < sz) (n : Nat) (i : Nat) (e : AV) (he : (List.replicate n (AV.ofV z))[i]? = some e) :
    (e.cells.length = sz ∧ e.cells.all AV.leaf = true) ∧ ∀ (j : Nat) (y : AV), e.cells[j]? = some y → ∃ v, ((Array.range (n * sz)).map (z.cells[· % z.cells.size]!))[i * sz + j]? = some v ∧ VR F w y v := by
  obtain ⟨_, h2, h3, h4⟩ := leafV_cells (F := F) (w := w) hz
  rw [List.getElem?_replicate] at he
  split at he
  · rename_i hi
    injection he with he; subst he
    refine ⟨⟨by rw [h3, hs], h2⟩, fun j y hy => ?_⟩
    obtain ⟨v, hv1, hv2⟩ := h4 j y hy
    refine ⟨v, ?_, hv2⟩
    have hj : j < sz := by rw [← hs, ← h3]; exact (List.getElem?_eq_some_iff.1 hy).1
    have hlt : i * sz + j < n * sz := by
      have : (i + 1) * sz ≤ n * sz := Nat.mul_le_mul_right _ hi
      rw [Nat.add_mul] at this; omega
    have e2 : (i * sz + j) % sz = j := by rw [Nat.mul_comm, Nat.mul_add_mod, Nat.mod_eq_of_lt hj]
    rw [Array.getElem?_map, Array.getElem?_range, if_pos hlt]
    simp only [Option.map_some, hs, e2]
    rw [getElem!_def, hv1]
  · simp at he
theorem opdNats_rel {ρc : Operand → Value} {ρa : Opd → Option AV} (hρ : ∀ x y a, compOpd x = some y → ρa y = some a → VR F w a (ρc x)) : ∀ {ps : List (Nat × Operand)} {l : List (Nat × Opd)} {as : List (Nat × AV)}, compNats ps = some l → opdNats ρa l = some as →
    as.length = ps.length ∧ ∀ (i : Nat) (p : Nat × AV) (q : Nat × Value), as[i]? = some p → (ps.map fun (i, x) => (i, ρc x))[i]? = some q → q.1 = p.1 ∧ VR F w p.2 q.2
  | [], l, as, h, ha => by
    simp [compNats] at h; subst h; simp [opdNats] at ha; subst ha; simp
  | (i, x) :: ps, l, as, h, ha => by
    simp only [compNats, Option.bind_eq_some_iff] at h
    obtain ⟨y, hy, l', hl', e⟩ := h
    injection e with e; subst e
    simp only [opdNats, Option.bind_eq_some_iff] at ha
    obtain ⟨a, ha, as', has, e⟩ := ha
    injection e with e; subst e
    obtain ⟨h1, h2⟩ := opdNats_rel hρ hl' has
    refine ⟨by simp [h1], fun j p q hp hq => ?_⟩
    match j with
    | 0 => simp at hp hq; subst hp; subst hq; exact ⟨rfl, hρ _ _ _ hy ha⟩
    | j + 1 => simp at hp hq; exact h2 j p q hp (by simpa using hq)
/-- a row of elements, cell by cell -/
def RowR (F : Nat → Prop) (w : World) (sz : Nat) (els : List AV) (arr : Array Value) : Prop :=
  arr.size = els.length * sz ∧ ∀ (i : Nat) (e : AV), els[i]? = some e → (e.cells.length = sz ∧ e.cells.all AV.leaf = true) ∧ ∀ (j : Nat) (y : AV), e.cells[j]? = some y → ∃ v, arr[i * sz + j]? = some v ∧ VR F w y v
theorem fillEls_sound (sz : Nat) (hs0 : 0 < sz) : ∀ (l : List (Nat × AV)) (ps : List (Nat × Value)) (els r : List AV) (arr : Array Value), fillEls sz els l = some r → RowR F w sz els arr → l.length = ps.length →
    (∀ (i : Nat) (p : Nat × AV) (q : Nat × Value), l[i]? = some p → ps[i]? = some q → q.1 = p.1 ∧ VR F w p.2 q.2) → ∃ arr', Instr.fill (fun i => some (i * sz, sz)) arr ps = some arr' ∧ RowR F w sz r arr'
  | [], [], els, r, arr, h, hc, _, _ => by simp [fillEls] at h; subst h; exact ⟨arr, rfl, hc⟩
  | p :: l, q :: ps, els, r, arr, h, hc, hl, hr => by
    obtain ⟨i, x⟩ := p
    obtain ⟨i', v⟩ := q
    obtain ⟨hp, hv⟩ := hr 0 (i, x) (i', v) rfl rfl
    dsimp only at hp hv
    subst hp
    simp only [fillEls] at h
    split at h
    · rename_i hle
      obtain ⟨hok, e1, eleaf, e2⟩ := hle
      have hcell := hv.okCells hok
      have hsz : v.cells.size = sz := by rw [← hcell.1]; exact e1
      have hmul : i' * sz + sz ≤ arr.size := by
        rw [hc.1]
        have : (i' + 1) * sz ≤ els.length * sz := Nat.mul_le_mul_right _ e2
        rw [Nat.add_mul] at this; omega
      obtain ⟨f1, f2⟩ := foldSet (i' * sz) v.cells.toList 0 arr (by simp [hsz]; omega)
      have hnew : RowR F w sz (els.set i' x) ((v.cells.toList.zipIdx 0).foldl (fun (cs : Array Value) (p : Value × Nat) => cs.setIfInBounds (i' * sz + p.2) p.1) arr) := by
        refine ⟨by rw [f1, hc.1]; simp, fun k e he => ?_⟩
        rw [List.getElem?_set] at he
        by_cases hk : i' = k
        · subst hk
          rw [if_pos rfl, if_pos e2] at he
          injection he with he; subst he
          refine ⟨⟨e1, eleaf⟩, fun j y hy => ?_⟩
          obtain ⟨u, hu1, hu2⟩ := hcell.2 j y hy
          have hj : j < sz := by rw [← e1]; exact (List.getElem?_eq_some_iff.1 hy).1
          refine ⟨u, ?_, hu2⟩
          rw [f2, if_pos ⟨by omega, by simp [hsz]; omega⟩]
          have : i' * sz + j - (i' * sz + 0) = j := by omega
          rw [this]; simpa using hu1
        · rw [if_neg hk] at he
          obtain ⟨g1, g2⟩ := hc.2 k e he
          refine ⟨g1, fun j y hy => ?_⟩
          obtain ⟨u, hu1, hu2⟩ := g2 j y hy
          have hj : j < sz := by rw [← g1.1]; exact (List.getElem?_eq_some_iff.1 hy).1
          refine ⟨u, ?_, hu2⟩
          rw [f2, if_neg ?_]
          · exact hu1
          · simp only [Array.length_toList, hsz]
            rcases Nat.lt_or_gt_of_ne hk with hk | hk
            · have : (i' + 1) * sz ≤ k * sz := Nat.mul_le_mul_right _ hk
              rw [Nat.add_mul] at this; omega
            · have : (k + 1) * sz ≤ i' * sz := Nat.mul_le_mul_right _ hk
              rw [Nat.add_mul] at this; omega
      obtain ⟨arr', h1, h2⟩ := fillEls_sound sz hs0 l ps _ r _ h hnew (by simpa using hl) (fun i p q hp hq => hr (i + 1) p q (by simpa using hp) (by simpa using hq))
      refine ⟨arr', ?_, h2⟩
      have hcond : (decide (v.cells.size ≠ sz) || decide (i' * sz + v.cells.size > arr.size)) = false := by
        simp [hsz]; omega
      simp only [Instr.fill]
      rw [hcond]
      simp only [Bool.false_eq_true, if_false]
      rw [← h1]
      congr 1
      rw [← Array.foldl_toList, Array.toList_zipIdx]
    · simp at h

theorem run_eqnil {t el : Nat} (hu : P.underlying t = some (.slice el)) (A : Option Addr) (n c : Nat) (op : BinOp) (hop : op = .eql ∨ op = .neq) (x y : Operand) :
    (do eqGuard op t x y (.slice A n c) (.slice none 0 0); binOp op t (.slice A n c) (.slice none 0 0) : Sem Value).run P w = .ok (.bool (if op = .neq then !A.isNone else A.isNone)) w := by
  have h1 : (eqGuard op t x y (.slice A n c) (.slice none 0 0)).run P w = .ok () w := by
    rcases hop with rfl | rfl <;> rfl
  have h2 : (Op.equal t (.slice A n c) (.slice none 0 0)).run P w = .ok A.isNone w := by
    have key : ∀ d, (Op.equalIn (d + 1) t (.slice A n c) (.slice none 0 0)).run P w = .ok A.isNone w := by
      intro d
      cases A <;> simp only [Op.equalIn, Sem.run_bind, run_underlying hu, Result.andThen_ok, Sem.run_pure] <;> rfl
    exact key 9999
  rw [Sem.run_bind, h1, Result.andThen_ok]
  rcases hop with rfl | rfl
  · simp [binOp, Sem.run_bind, h2]
  · simp [binOp, Sem.run_bind, h2]
theorem eqnil_run {t el : Nat} {xa : AV} {v : Value} (hx : VR F w xa v) (hu : P.underlying t = some (.slice el)) (neg : Bool) {K : Option AV → Heap → Prop} (h : eqnilRun neg H K xa) {x y : Operand} :
    ∃ r, (do eqGuard (if neg = true then .neq else .eql) t x y v (.slice none 0 0); binOp (if neg = true then .neq else .eql) t v (.slice none 0 0) : Sem Value).run P w = .ok (.bool r) w ∧ K (some (.b r)) H := by
  have key : ∀ (A : Option Addr) (n c : Nat), (do eqGuard (if neg = true then .neq else .eql) t x y (.slice A n c) (.slice none 0 0); binOp (if neg = true then .neq else .eql) t (.slice A n c) (.slice none 0 0) : Sem Value).run P w = .ok (.bool (if neg = true then !A.isNone else A.isNone)) w := by
    intro A n c
    rw [run_eqnil hu A n c _ (by cases neg <;> simp)]
    cases neg <;> simp
  unfold eqnilRun at h
  split at h
  · cases hx with
    | fz _ _ A cap g => exact ⟨_, key _ _ _, h _ (by simp)⟩
    | fznil => exact ⟨_, key _ _ _, h _ (by simp)⟩
  · cases hx with
    | ref _ _ _ _ _ _ _ _ => exact ⟨_, key _ _ _, h _ (by simp)⟩
    | refnil => exact ⟨_, key _ _ _, h _ (by simp)⟩
    | refz => exact ⟨_, key _ _ _, h _ (by simp)⟩
  · cases hx with
    | v => exact ⟨_, key _ _ _, by cases neg <;> simpa using h⟩
  · exact h.elim

theorem op_sound {N : Nat} {E : Env} {a : Act} (hS : St N Keep F E H a w) (o : Oper) {q : IOp} (hc : compOp P o.op = some q) (hd : ∀ t, o.dst = some t → t < N) (L : Nat) {K : Option AV → Heap → Prop} (h : q.run P L E.opd H K)
    {Kc : Act → World → Prop} {Q : Exit → Act → World → Prop} (hk : ∀ x H' F' a' w', K x H' → Grow Keep F F' w w' → St N Keep F' (E.put o.dst x) H' a' w' → Kc a' w') : o.wp P a w Kc Q := by
  have hρ : ∀ x y b, compOpd x = some y → E.opd y = some b → VR F w b (a.eval x) := by
    intro x y b hxy hb
    cases x with
    | tmp t => simp [compOpd] at hxy; subst hxy; exact hS.env t b hb
    | const v => simp [compOpd] at hxy; subst hxy; simp [Env.opd] at hb; subst hb; exact VR.ofV _ _ _
    | global g => simp [compOpd] at hxy
    | func f =>
      simp [compOpd] at hxy; subst hxy; simp [Env.opd] at hb; subst hb
      exact .fn f [] [] rfl (by simp)
  have fin : ∀ (v : Value) (w' : World) (x : AV) (H' : Heap), (execOp a.eval o).run P w = .ok (.value v) w' → K (some x) H' → HeapOK Keep F w' H' → Ext (fun c => F c ∨ Keep c) w w' → VR F w' x v → o.wp P a w Kc Q := by
    intro v w' x H' hr hK hH' hext hv
    unfold Oper.wp
    rw [hr]
    exact hk (some x) H' F _ w' hK (Grow.same hext) (hS.put (Grow.same hext) hH' o.dst (some x) v hd (fun y hy => by injection hy with hy; subst hy; exact hv))
  have call_fin : ∀ (f : Nat) (vs : List Value) (l : List AV), (execOp a.eval o).run P w = (callFunc f vs.toArray).run P w → l.length = vs.length → (∀ (i : Nat) (x : AV) (v : Value), l[i]? = some x → vs[i]? = some v → VR F w x v) → CallOK P f l H (fun r H' => K (some r) H') → o.wp P a w Kc Q := by
    intro f vs l hr hl hrel hcall
    obtain ⟨hok, hcall⟩ := hcall
    have hent : (callFunc f vs.toArray).run P w = .ok (.enter f vs.toArray) w := by
      unfold okF at hok
      cases hf : P.funcs[f]? with
      | none => rw [hf] at hok; simp at hok
      | some fn =>
        rw [hf] at hok
        simp only [Bool.and_eq_true, bne_iff_ne, ne_eq] at hok
        have h1 : (fn.name == "runtime.NumGoroutine") = false := by simpa using hok.1
        have h2 : fn.body.isNone = false := by
          cases hb : fn.body with
          | none => rw [hb] at hok; simp at hok
          | some b => rfl
        simp only [callFunc, Sem.run_bind, run_program, Result.andThen_ok, hf, h1, h2, Bool.false_eq_true, if_false, Sem.run_pure]
    unfold Oper.wp
    rw [hr, hent]
    simp only [Oper.upon]
    refine (hcall Keep F w vs hS.heap ⟨hl, hrel⟩).mono ?_
    rintro e w' ⟨v, r, H', F', rfl, hK, hg, hH', hv⟩
    exact hk (some r) H' F' _ w' hK hg (hS.put hg hH' o.dst (some r) v hd (fun y hy => by injection hy with hy; subst hy; exact hv))
  unfold compOp at hc
  split at hc
  · rename_i t x y e
    simp only [Option.bind_eq_some_iff] at hc; obtain ⟨n, hn, hc⟩ := hc
    split at hc
    · simp at hc
    · rename_i hn0
      simp only [Option.bind_eq_some_iff] at hc; obtain ⟨x', hx', y', hy', hc⟩ := hc; injection hc with hc; subst hc
      simp only [IOp.run] at h
      split at h
      · rename_i xa ya hxa hya
        obtain ⟨w', H', h1, h2, h3, h4⟩ := store_sound (P := P) hS.heap hn hn0 (hρ _ _ _ hx' hxa) (hρ _ _ _ hy' hya) h
        have hr : (execOp a.eval o).run P w = .ok .skip w' := by simp only [execOp, e, Sem.run_bind, h1, Result.andThen_ok, Sem.run_pure]
        unfold Oper.wp
        rw [hr]
        exact hk none H' F _ w' h2 (Grow.same h4) (hS.put (Grow.same h4) h3 o.dst none undef hd (by simp))
      · exact h.elim
  · rename_i t x yt e
    split at hc
    · rename_i el hu
      simp only [Option.bind_eq_some_iff] at hc; obtain ⟨x', hx', hc⟩ := hc; injection hc with hc; subst hc
      simp only [IOp.run] at h
      split at h
      · rename_i xa hxa
        obtain ⟨r, h1, h2⟩ := eqnil_run (hρ _ _ _ hx' hxa) hu false h (x := x) (y := .const (.slice none 0 0))
        have hex : execOp a.eval o = (do pure (.value (← (do eqGuard .eql t x (.const (.slice none 0 0)) (a.eval x) (.slice none 0 0); binOp .eql t (a.eval x) (.slice none 0 0))))) := by simp only [execOp, e]; rfl
        refine fin (.bool r) w (.b r) H ?_ h2 hS.heap (Ext.refl _ _) (.v _)
        simp only [Bool.false_eq_true, if_false] at h1
        rw [hex, Sem.run_bind, h1]; rfl
      · exact h.elim
    · simp at hc
  · rename_i t x yt e
    split at hc
    · rename_i el hu
      simp only [Option.bind_eq_some_iff] at hc; obtain ⟨x', hx', hc⟩ := hc; injection hc with hc; subst hc
      simp only [IOp.run] at h
      split at h
      · rename_i xa hxa
        obtain ⟨r, h1, h2⟩ := eqnil_run (hρ _ _ _ hx' hxa) hu true h (x := x) (y := .const (.slice none 0 0))
        have hex : execOp a.eval o = (do pure (.value (← (do eqGuard .neq t x (.const (.slice none 0 0)) (a.eval x) (.slice none 0 0); binOp .neq t (a.eval x) (.slice none 0 0))))) := by simp only [execOp, e]; rfl
        refine fin (.bool r) w (.b r) H ?_ h2 hS.heap (Ext.refl _ _) (.v _)
        simp only [if_true] at h1
        rw [hex, Sem.run_bind, h1]; rfl
      · exact h.elim
    · simp at hc
  · rename_i t e
    simp only [Option.bind_eq_some_iff] at hc; obtain ⟨i, hi, z, hz, hc⟩ := hc
    split at hc
    · rename_i hleaf
      injection hc with hc; subst hc
      simp only [IOp.run] at h
      obtain ⟨l1, l2, l3, l4⟩ := leafV_cells (F := F) (w := w) hleaf
      obtain ⟨n1, n2⟩ := hS.heap.newRow L (AV.ofV z).cells.length [AV.ofV z] z.cells t (fun k q hq => by
        match k with
        | 0 => simp at hq; subst hq; exact ⟨⟨rfl, l2⟩, fun j y hy => by simpa using l4 j y hy⟩
        | k + 1 => simp at hq)
      exact fin _ _ _ _ (by simp only [execOp, e, Instr.alloc, zeroValue, typeInfo, Sem.run_bind, run_program, Result.andThen_ok, hi, Sem.run_pure, hz, newVar, newRow, run_newObj]; rfl) (h ⟨w.heap.size, 0, false⟩) n1 n2.ext (by simpa using VR.ptr (F := F) (w := w.alloc (.cells z.cells t)) L ⟨w.heap.size, 0, false⟩ (AV.ofV z).cells.length 0 0)
    · simp at hc
  · rename_i t x e
    simp only [Option.bind_eq_some_iff] at hc; obtain ⟨x', hx', hc⟩ := hc; injection hc with hc; subst hc
    simp only [IOp.run] at h
    split at h
    · rename_i xa hxa
      obtain ⟨hok, hleaf, h⟩ := h
      have hx := hρ _ _ _ hx' hxa
      obtain ⟨c1, c2⟩ := hx.okCells hok
      obtain ⟨n1, n2⟩ := hS.heap.newRow L xa.cells.length [xa] (a.eval x).cells t (fun k q hq => by
        match k with
        | 0 => simp at hq; subst hq; exact ⟨⟨rfl, hleaf⟩, fun j y hy => by simpa using c2 j y hy⟩
        | k + 1 => simp at hq)
      exact fin _ _ _ _ (by simp only [execOp, e, Instr.box, Sem.run_bind, Result.andThen_ok, Sem.run_pure, newVar, newRow, run_newObj]; rfl) (h ⟨w.heap.size, 0, false⟩) n1 n2.ext (by simpa using VR.ptr (F := F) (w := w.alloc (.cells (a.eval x).cells t)) L ⟨w.heap.size, 0, false⟩ xa.cells.length 0 0)
    · exact h.elim
  · rename_i t len parts e
    split at hc
    · rename_i el ht
      simp only [Option.bind_eq_some_iff] at hc; obtain ⟨i, hi, z, hz, hc⟩ := hc
      split at hc
      · rename_i hcond
        simp only [Bool.and_eq_true, decide_eq_true_eq, beq_iff_eq] at hcond
        obtain ⟨⟨⟨hleaf, hzs⟩, hpos⟩, hsmall⟩ := hcond
        simp only [Option.bind_eq_some_iff] at hc; obtain ⟨l, hl, hc⟩ := hc; injection hc with hc; subst hc
        simp only [IOp.run] at h
        split at h
        · rename_i as has
          split at h
          · rename_i els hels
            obtain ⟨o1, o2⟩ := opdNats_rel hρ hl has
            have h0 : RowR F w i.size (List.replicate len (AV.ofV z)) ((Array.range (len * i.size)).map (z.cells[· % z.cells.size]!)) := ⟨by simp, fun k q hq => zeros_cell hleaf hzs hpos len k q hq⟩
            obtain ⟨arr, f1, f2⟩ := fillEls_sound i.size hpos as (parts.toList.map fun (i, x) => (i, a.eval x)) _ els _ hels h0 (by simp [o1]) o2
            have hlen : els.length = len := by
              have e1 : ∀ (l : List (Nat × AV)) (a b : List AV), fillEls i.size a l = some b → b.length = a.length := by
                intro l
                induction l with
                | nil => intro a b h; simp [fillEls] at h; subst h; rfl
                | cons p l ih =>
                  intro a b h
                  simp only [fillEls] at h
                  split at h
                  · have := ih _ _ h; simpa using this
                  · simp at h
              have := e1 _ _ _ hels; simpa using this
            obtain ⟨n1, n2⟩ := hS.heap.newRow L i.size els arr el (fun k q hq => f2.2 k q hq)
            have e3 : (parts.map fun (i, x) => (i, a.eval x)).toList = parts.toList.map fun (i, x) => (i, a.eval x) := by simp
            refine fin (.slice (some ⟨w.heap.size, 0, none⟩) len len) _ _ _ ?_ (h ⟨w.heap.size, 0, false⟩) n1 n2.ext ?_
            · have hbig : ¬ (len * i.size > 2 ^ 24) := by omega
              simp only [execOp, e, Instr.buildSlice, Sem.run_bind, run_underlying ht, Result.andThen_ok, sizeOf, typeInfo, run_program, hi, Sem.run_pure, hbig, if_false, e3]
              by_cases hz0 : len * i.size = 0
              · have f1' : Instr.fill (fun k => some (k * i.size, i.size)) ((Array.range (len * i.size)).map ((#[] : Array Value)[· % (#[] : Array Value).size]!)) (parts.toList.map fun (i, x) => (i, a.eval x)) = some arr := by
                  have : (Array.range (len * i.size)).map ((#[] : Array Value)[· % (#[] : Array Value).size]!) = (Array.range (len * i.size)).map (z.cells[· % z.cells.size]!) := by rw [hz0]; simp
                  rw [this]; exact f1
                rw [if_pos hz0]
                simp only [Sem.run_bind, Sem.run_pure, Result.andThen_ok, f1', newRow, run_newObj]
                rfl
              · rw [if_neg hz0]
                simp only [Sem.run_bind, zeroValue, typeInfo, run_program, hi, hz, Sem.run_pure, Result.andThen_ok, f1, newRow, run_newObj]
                rfl
            · have := VR.ref (F := F) (w := w.alloc (.cells arr el)) L ⟨w.heap.size, 0, false⟩ i.size 0 len len arr el rfl (Nat.le_refl _) (by
                have : len ≤ len * i.size := Nat.le_mul_of_pos_right _ hpos
                omega) (heap_alloc_new w _) (by rw [f2.1, hlen]; simp)
              simpa using this
          · exact h.elim
        · exact h.elim
      · simp at hc
    · simp at hc
  · rename_i t l c e
    split at hc
    · rename_i el ht
      simp only [Option.bind_eq_some_iff] at hc; obtain ⟨i, hi, z, hz, hc⟩ := hc
      split at hc
      · rename_i hcond
        simp only [Bool.and_eq_true, decide_eq_true_eq, beq_iff_eq] at hcond
        obtain ⟨⟨⟨hleaf, hzs⟩, hpos⟩, hbpos⟩ := hcond
        simp only [Option.bind_eq_some_iff] at hc; obtain ⟨l', hl', c', hc', hc⟩ := hc; injection hc with hc; subst hc
        simp only [IOp.run] at h
        split at h
        · rename_i la ca hla hca
          unfold mksRun at h
          split at h
          · rename_i k n k' m
            obtain ⟨rfl, h0, hb, h⟩ := h
            have e1 := (hρ _ _ _ hl' hla).inv_v
            have e2 := (hρ _ _ _ hc' hca).inv_v
            have hrow : ∀ (k : Nat) (q : AV), (List.replicate n.toNat (AV.ofV z))[k]? = some q → (q.cells.length = i.size ∧ q.cells.all AV.leaf = true) ∧ ∀ (j : Nat) (y : AV), q.cells[j]? = some y → ∃ v, ((Array.range (n.toNat * i.size)).map (z.cells[· % z.cells.size]!))[k * i.size + j]? = some v ∧ VR F w y v := fun k q hq => zeros_cell hleaf hzs hpos n.toNat k q hq
            obtain ⟨n1, n2⟩ := hS.heap.newRow L i.size _ _ el hrow
            have hn : n ≤ 140737488355328 := by
              have : n * 1 ≤ n * (i.bytes : Int) := Int.mul_le_mul_of_nonneg_left (by omega) h0
              omega
            have hw : IntKind.i64.wrap n = n := IntWalk.i64_in n (by omega)
            refine fin (.slice (some ⟨w.heap.size, 0, none⟩) n.toNat n.toNat) _ _ _ ?_ (h ⟨w.heap.size, 0, false⟩) n1 n2.ext ?_
            · have c1 : ¬ (n < 0) := by omega
              have c2 : ¬ ((i.bytes : Int) * n > 2 ^ 48) := by rw [Int.mul_comm]; omega
              simp only [execOp, e, Instr.makeSlice, Sem.run_bind, run_underlying ht, Result.andThen_ok, asInt, asIntOf, e1, e2, Sem.run_pure, typeInfo, run_program, hi, hw]
              rw [if_neg (by simp [c1]; simpa using c2)]
              simp only [Sem.run_bind, run_askRoom, Result.andThen_ok, sizeOf, typeInfo, run_program, hi, Sem.run_pure]
              by_cases hz0 : n.toNat * i.size = 0
              · rw [if_pos hz0]
                have : (Array.range (n.toNat * i.size)).map (z.cells[· % z.cells.size]!) = (Array.range (n.toNat * i.size)).map ((#[] : Array Value)[· % (#[] : Array Value).size]!) := by rw [hz0]; simp
                rw [this]
                simp only [Sem.run_bind, Sem.run_pure, Result.andThen_ok, run_askRoom, sizeOf, typeInfo, run_program, hi, newRow, run_newObj]
                rfl
              · rw [if_neg hz0]
                simp only [Sem.run_bind, zeroValue, typeInfo, run_program, hi, hz, Sem.run_pure, Result.andThen_ok, newRow, run_newObj]
                rfl
            · have := VR.ref (F := F) (w := w.alloc (.cells ((Array.range (n.toNat * i.size)).map (z.cells[· % z.cells.size]!)) el)) L ⟨w.heap.size, 0, false⟩ i.size 0 n.toNat n.toNat _ el rfl (Nat.le_refl _) (by omega) (heap_alloc_new w _) (by simp)
              simpa using this
          · exact h.elim
        · exact h.elim
      · simp at hc
    · simp at hc
  · rename_i xs ts e
    split at hc
    · rename_i x y t u hxs hts
      split at hc
      · rename_i el ht
        simp only [Option.bind_eq_some_iff] at hc; obtain ⟨i, hi, z, hz, hc⟩ := hc
        split at hc
        · rename_i hcond
          simp only [Bool.and_eq_true, decide_eq_true_eq, beq_iff_eq] at hcond
          obtain ⟨⟨⟨rfl, hzs⟩, hpos⟩, hbpos⟩ := hcond
          simp only [Option.bind_eq_some_iff] at hc; obtain ⟨x', hx', y', hy', hc⟩ := hc; injection hc with hc; subst hc
          simp only [IOp.run] at h
          split at h
          · rename_i xa ya hxa hya
            split at h
            · rename_i olds H0 news ho hn
              obtain ⟨hb, h⟩ := h
              have h63 : olds.length + news.length ≤ 9223372036854775807 := by
                have : (olds.length + news.length) * 1 ≤ (olds.length + news.length) * i.bytes := Nat.mul_le_mul_left _ hbpos
                omega
              obtain ⟨u', w', a', r1, r2, r3, r4⟩ := append_sound (P := P) (ty := o.type) hS.heap ht hi hz hzs hpos (hρ _ _ _ hx' hxa) (hρ _ _ _ hy' hya) ho hn hb h63 L
              obtain rfl : xs = #[x, y] := by rw [← Array.toArray_toList (xs := xs), hxs]
              obtain rfl : ts = #[t, t] := by rw [← Array.toArray_toList (xs := ts), hts]
              exact fin u' w' _ _ (by simp [execOp, e, resolve, invoke, builtin, r1]) (h a') r3 r4 r2
            · exact h.elim
          · exact h.elim
        · simp at hc
      · simp at hc
    · simp at hc
  · rename_i f xs ts e
    simp only [Option.bind_eq_some_iff] at hc; obtain ⟨l', hl', hc⟩ := hc; injection hc with hc; subst hc
    simp only [IOp.run] at h
    split at h
    · rename_i l hl
      obtain ⟨o1, o2⟩ := opds_rel hρ hl' hl
      refine call_fin f (xs.toList.map a.eval) l ?_ (by simp [o1]) o2 h
      have ea : xs.map a.eval = (xs.toList.map a.eval).toArray := by apply Array.ext'; simp
      simp only [execOp, e, resolve, Act.eval, Deferred.ofValue, Sem.run_bind, Sem.run_pure, Result.andThen_ok, invoke, ea]
      simp
    · exact h.elim
  · rename_i t xs ts e
    simp only [Option.bind_eq_some_iff] at hc; obtain ⟨l', hl', hc⟩ := hc; injection hc with hc; subst hc
    simp only [IOp.run] at h
    split at h
    · rename_i xa l hxa hl
      obtain ⟨o1, o2⟩ := opds_rel hρ hl' hl
      unfold callvRun at h
      split at h
      · rename_i f caps
        have hx := hρ (.tmp t) (.t t) _ rfl hxa
        generalize hz : a.eval (.tmp t) = z at hx
        cases hx with
        | fn _ _ vs c1 c2 =>
          refine call_fin f (xs.toList.map a.eval ++ vs) (l ++ caps) ?_ (by simp [o1, c1]) (fun i x v hx hv => ?_) h
          · have ea : xs.map a.eval = (xs.toList.map a.eval).toArray := by apply Array.ext'; simp
            simp only [execOp, e, resolve, hz, Deferred.ofValue, Sem.run_bind, Sem.run_pure, Result.andThen_ok, invoke, ea]
            simp
          · have hll : l.length = (xs.toList.map a.eval).length := by simp [o1]
            by_cases hi : i < l.length
            · rw [List.getElem?_append_left hi] at hx
              rw [List.getElem?_append_left (by omega)] at hv
              exact o2 i x v hx hv
            · rw [List.getElem?_append_right (by omega)] at hx
              rw [List.getElem?_append_right (by omega), ← hll] at hv
              exact c2 _ x v hx hv
      · exact h.elim
    · exact h.elim
  · simp only [Option.bind_eq_some_iff] at hc; obtain ⟨q', hq', hc⟩ := hc
    split at hc
    · rename_i hv
      injection hc with hc; subst hc
      rw [run_val hv] at h
      split at h
      · rename_i x hx
        obtain ⟨v, h1, h2⟩ := val_sound (P := P) hS.heap hρ o hq' hx
        exact fin v w x H h1 h hS.heap (Ext.refl _ _) h2
      · exact h.elim
    · simp at hc
end Go.Proofs.Ytjnencdmejhmjaa.Eng
