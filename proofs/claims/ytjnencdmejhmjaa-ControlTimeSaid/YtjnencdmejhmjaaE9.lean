/- ENGINE, part 9: stores and appends. -/
import Derived.Test.YtjnencdmejhmjaaE8
namespace Go.Proofs.Ytjnencdmejhmjaa.Eng
open Go Go.RowKit
set_option linter.unusedSimpArgs false
set_option linter.unusedVariables false
variable {P : Program} {F Keep : Nat → Prop} {w : World} {H : Heap}

theorem AV.cells_agg (l : List AV) : (AV.agg l).cells = l := rfl
def putCells (e : AV) (f n : Nat) (y : AV) : AV := if f = 0 ∧ n = e.cells.length then y else .agg (e.cells.take f ++ y.cells ++ e.cells.drop (f + n))
def storeRun (n : Nat) (x y : AV) (H : Heap) (K : Heap → Prop) : Prop :=
  match x with
  | .ptr h a sz i f =>
    match H.get h with
    | some (a', .arr sz' els) =>
      match els[i]? with
      | some e => (a = a' ∧ sz = sz') ∧ y.ok = true ∧ y.cells.length = n ∧ f + n ≤ e.cells.length ∧ y.cells.all AV.leaf = true ∧ K (H.set h (.arr sz (els.set i (putCells e f n y))))
      | none => False
    | _ => False
  | _ => False
theorem ext_setRow (g : Nat) (cur new : Array Value) (t : TypeId) (hg : w.heap[g]? = some (.cells cur t (0, 0))) (hs : new.size = cur.size) (S : Nat → Prop) (hS : ¬ S g) : Ext S w (w.setRow g new) := by
  refine ⟨rfl, rfl, rfl, by simp, fun c hc _ => setRow_other w g c _ (fun e => hS (e ▸ hc)), fun c cs ty fr hc => ?_⟩
  by_cases e : c = g
  · subst e
    rw [hg] at hc
    injection hc with hc; injection hc with e1 e2 e3; subst e1; subst e2; subst e3
    exact ⟨new, setRow_heap w c cur _ t _ hg, hs⟩
  · exact ⟨cs, by rw [setRow_other w g c _ e]; exact hc, rfl⟩
theorem VR.okCells {x : AV} {v : Value} (h : VR F w x v) (ho : x.ok = true) : x.cells.length = v.cells.size ∧ ∀ (j : Nat) (y : AV), x.cells[j]? = some y → ∃ u, v.cells[j]? = some u ∧ VR F w y u :=
  h.cellsOf (by cases x <;> first | exact .inr ⟨_, rfl⟩ | exact .inl ho)
theorem store_sound (hH : HeapOK Keep F w H) {t : TypeId} {n : Nat} (hn : sizeP P t = some n) (hn0 : n ≠ 0) {x y : AV} {u v : Value} (hx : VR F w x u) (hy : VR F w y v) {K : Heap → Prop} (h : storeRun n x y H K) :
    ∃ w' H', (Instr.storeAt t u v).run P w = .ok () w' ∧ K H' ∧ HeapOK Keep F w' H' ∧ Ext (fun c => F c ∨ Keep c) w w' := by
  have hz := sizeP_run hn w
  unfold storeRun at h
  split at h
  · rename_i hh a sz i f
    split at h
    · rename_i a' sz' els hg
      split at h
      · rename_i e he
        obtain ⟨⟨rfl, rfl⟩, hok, hlen, hle, hleaf, hK⟩ := h
        cases hx
        have hb := hH.blk _ (Heap.get_mem hg)
        simp only [BlkOK] at hb
        split at hb
        · subst hb; simp at he
        · rename_i hvir
          have hvir : a.vir = false := by simpa using hvir
          obtain ⟨cs, ty, h1, h2⟩ := hb
          obtain ⟨⟨h3, h3l⟩, h4⟩ := h2 i e he
          obtain ⟨c1, c2⟩ := hy.okCells hok
          have hsize : v.cells.size = n := by rw [← c1]; exact hlen
          have hex : ∀ j, j < sz → ∃ q, cs[a.base + i * sz + j]? = some q := fun j hj => by
            obtain ⟨q, hq, _⟩ := h4 j e.cells[j] (by simp [h3, hj])
            exact ⟨q, hq⟩
          have hfit : a.base + i * sz + f + v.cells.toList.length ≤ cs.size := by
            simp only [Array.length_toList, hsize]
            obtain ⟨q, hq⟩ := hex (f + n - 1) (by omega)
            have := (Array.getElem?_eq_some_iff.1 hq).1
            omega
          have hone : ∀ q ∈ v.cells.toList, q.oneCell' = true := by
            intro q hq
            obtain ⟨j, hj, rfl⟩ := List.mem_iff_getElem.1 hq
            have hj' : j < y.cells.length := by rw [c1]; simpa using hj
            obtain ⟨q', hq1, hq2⟩ := c2 j y.cells[j] (by simp [hj'])
            have e1 : q' = v.cells.toList[j] := by
              have : v.cells[j]? = some v.cells.toList[j] := by simp at hj ⊢
              rw [this] at hq1; injection hq1 with hq1; exact hq1.symm
            rw [← e1]
            exact hq2.oneCell (List.all_eq_true.1 hleaf _ (List.getElem_mem hj'))
          have hst := run_storeCells_at P a.blk (a.base + i * sz + f) ty v.cells.toList 0 cs w h1 (by simpa using hfit) hone
          simp only [Nat.add_zero] at hst
          refine ⟨w.setRow a.blk (List.take (a.base + i * sz + f) cs.toList ++ v.cells.toList ++ List.drop (a.base + i * sz + f + v.cells.toList.length) cs.toList).toArray, _, ?_, hK, ?_⟩
          · simp only [Instr.storeAt, Instr.sureAddr, Sem.run_bind, Sem.run_pure, Result.andThen_ok, storeVar, hz, hsize, ne_eq, not_true_eq_false, if_false, hst]
          · have hnew : (List.take (a.base + i * sz + f) cs.toList ++ v.cells.toList ++ List.drop (a.base + i * sz + f + v.cells.toList.length) cs.toList).toArray.size = cs.size := by
              simp at hfit ⊢; omega
            have hext : Ext (fun c => F c ∨ Keep c) w (w.setRow a.blk (List.take (a.base + i * sz + f) cs.toList ++ v.cells.toList ++ List.drop (a.base + i * sz + f + v.cells.toList.length) cs.toList).toArray) := by
              refine ext_setRow a.blk cs _ ty h1 hnew _ ?_
              have := hH.own a.blk (Heap.real_mem (Heap.get_mem hg) hvir)
              exact fun h => h.elim this.1 this.2
            refine ⟨?_, hext⟩
            refine hH.turn hg hvir (fun c hc => setRow_other w a.blk c _ hc) hext _ ?_
            simp only [BlkOK]
            rw [if_neg (by simp [hvir])]
            refine ⟨_, ty, setRow_heap w a.blk cs _ ty _ h1, fun k e' he' => ?_⟩
            have hget : ∀ m : Nat, (List.take (a.base + i * sz + f) cs.toList ++ v.cells.toList ++ List.drop (a.base + i * sz + f + v.cells.toList.length) cs.toList).toArray[m]? = if a.base + i * sz + f ≤ m ∧ m < a.base + i * sz + f + n then v.cells[m - (a.base + i * sz + f)]? else cs[m]? := by
              intro m
              simp only [Array.length_toList, hsize] at hfit ⊢
              have ht : (List.take (a.base + i * sz + f) cs.toList).length = a.base + i * sz + f := by simp; omega
              simp only [List.getElem?_toArray]
              by_cases c1 : m < a.base + i * sz + f
              · rw [if_neg (by omega), List.append_assoc, List.getElem?_append_left (by rw [ht]; exact c1), List.getElem?_take, if_pos c1]; simp
              · by_cases c2 : m < a.base + i * sz + f + n
                · rw [if_pos ⟨by omega, c2⟩, List.append_assoc, List.getElem?_append_right (by rw [ht]; omega), ht, List.getElem?_append_left (by simp [hsize]; omega)]; simp
                · rw [if_neg (by omega), List.getElem?_append_right (by simp [hsize]; omega), List.getElem?_drop]
                  have : a.base + i * sz + f + n + (m - (List.take (a.base + i * sz + f) cs.toList ++ v.cells.toList).length) = m := by simp [hsize]; omega
                  rw [this]; simp
            have hstep : ∀ {q : AV} {z : Value}, VR F w q z → VR F (w.setRow a.blk (List.take (a.base + i * sz + f) cs.toList ++ v.cells.toList ++ List.drop (a.base + i * sz + f + v.cells.toList.length) cs.toList).toArray) q z := fun hq => hq.step (fun _ h => h) hH.flt (hext.mono fun _ h => .inl h)
            rw [List.getElem?_set] at he'
            by_cases hk : i = k
            · subst hk
              have hlt : i < els.length := (List.getElem?_eq_some_iff.1 he).1
              rw [if_pos rfl, if_pos hlt] at he'
              injection he' with he'; subst he'
              unfold putCells
              split
              · rename_i hw
                obtain ⟨rfl, hw⟩ := hw
                refine ⟨⟨by omega, hleaf⟩, fun j q hq => ?_⟩
                obtain ⟨z, hz1, hz2⟩ := c2 j q hq
                have hj : j < n := by rw [← hlen]; exact (List.getElem?_eq_some_iff.1 hq).1
                refine ⟨z, ?_, hstep hz2⟩
                rw [hget, if_pos ⟨by omega, by omega⟩, ← hz1]
                congr 1; omega
              · refine ⟨⟨by simp only [AV.cells_agg, List.length_append, List.length_take, List.length_drop]; omega, by
                  simp only [AV.cells_agg, List.all_append, Bool.and_eq_true]
                  exact ⟨⟨List.all_eq_true.2 fun q hq => List.all_eq_true.1 h3l q (List.take_subset _ _ hq), hleaf⟩, List.all_eq_true.2 fun q hq => List.all_eq_true.1 h3l q (List.drop_subset _ _ hq)⟩⟩, fun j q hq => ?_⟩
                simp only [AV.cells_agg] at hq
                have ht : (e.cells.take f).length = f := by simp; omega
                by_cases d1 : j < f
                · rw [List.append_assoc, List.getElem?_append_left (by rw [ht]; exact d1), List.getElem?_take, if_pos d1] at hq
                  obtain ⟨z, hz1, hz2⟩ := h4 j q hq
                  exact ⟨z, by rw [hget, if_neg (by omega)]; exact hz1, hstep hz2⟩
                · by_cases d2 : j < f + n
                  · rw [List.append_assoc, List.getElem?_append_right (by rw [ht]; omega), ht, List.getElem?_append_left (by omega)] at hq
                    obtain ⟨z, hz1, hz2⟩ := c2 _ q hq
                    refine ⟨z, ?_, hstep hz2⟩
                    rw [hget, if_pos ⟨by omega, by omega⟩, ← hz1]
                    congr 1; omega
                  · rw [List.getElem?_append_right (by simp; omega), List.getElem?_drop] at hq
                    have : f + n + (j - (e.cells.take f ++ y.cells).length) = j := by simp; omega
                    rw [this] at hq
                    obtain ⟨z, hz1, hz2⟩ := h4 j q hq
                    exact ⟨z, by rw [hget, if_neg (by omega)]; exact hz1, hstep hz2⟩
            · rw [if_neg hk] at he'
              obtain ⟨g1, g2⟩ := h2 k e' he'
              refine ⟨g1, fun j q hq => ?_⟩
              obtain ⟨z, hz1, hz2⟩ := g2 j q hq
              have hj : j < sz := by rw [← g1.1]; exact (List.getElem?_eq_some_iff.1 hq).1
              refine ⟨z, ?_, hstep hz2⟩
              rw [hget, if_neg ?_]
              · exact hz1
              · rcases Nat.lt_or_gt_of_ne hk with hk | hk
                · have : (i + 1) * sz ≤ k * sz := Nat.mul_le_mul_right _ hk
                  rw [Nat.add_mul] at this
                  omega
                · have : (k + 1) * sz ≤ i * sz := Nat.mul_le_mul_right _ hk
                  rw [Nat.add_mul] at this
                  omega
      · exact h.elim
    · exact h.elim
  · exact h.elim

/-- What lies behind a slice, and what is left of the memory when it is appended to. -/
def oldOf (sz : Nat) (H : Heap) : AV → Option (List AV × Heap)
  | .v (.slice none 0 0) => some ([], H)
  | .ref h a sz' off n =>
    match H.get h with
    | some (a', .arr sz'' els) => if a = a' ∧ sz' = sz ∧ sz'' = sz ∧ off + n ≤ els.length then some ((els.drop off).take n, H.del h) else none
    | _ => none
  | _ => none
def newsOf (sz : Nat) (H : Heap) : AV → Option (List AV)
  | .v (.slice none 0 0) => some []
  | .fz sz' xs => if sz' = sz then some xs else none
  | .ref h a sz' off n =>
    match H.get h with
    | some (a', .arr sz'' els) => if a = a' ∧ sz' = sz ∧ sz'' = sz ∧ off + n ≤ els.length then some ((els.drop off).take n) else none
    | _ => none
  | _ => none
/-- elements one behind the other -/
def Elems (F : Nat → Prop) (w : World) (sz : Nat) (els : List AV) (cs : List Value) : Prop :=
  cs.length = els.length * sz ∧ ∀ (i : Nat) (e : AV), els[i]? = some e → (e.cells.length = sz ∧ e.cells.all AV.leaf = true) ∧ ∀ (j : Nat) (y : AV), e.cells[j]? = some y → ∃ v, cs[i * sz + j]? = some v ∧ VR F w y v
theorem Elems.nil (F : Nat → Prop) (w : World) (sz : Nat) : Elems F w sz [] [] := ⟨by simp, fun i e h => by simp at h⟩
theorem Elems.append {sz : Nat} {a b : List AV} {x y : List Value} (h : Elems F w sz a x) (k : Elems F w sz b y) : Elems F w sz (a ++ b) (x ++ y) := by
  refine ⟨by rw [List.length_append, h.1, k.1, List.length_append, Nat.add_mul], fun i e he => ?_⟩
  by_cases c : i < a.length
  · rw [List.getElem?_append_left c] at he
    obtain ⟨h1, h2⟩ := h.2 i e he
    refine ⟨h1, fun j q hq => ?_⟩
    obtain ⟨v, h3, h4⟩ := h2 j q hq
    exact ⟨v, by rw [List.getElem?_append_left (List.getElem?_eq_some_iff.1 h3).1]; exact h3, h4⟩
  · rw [List.getElem?_append_right (by omega)] at he
    obtain ⟨h1, h2⟩ := k.2 _ e he
    refine ⟨h1, fun j q hq => ?_⟩
    obtain ⟨v, h3, h4⟩ := h2 j q hq
    refine ⟨v, ?_, h4⟩
    have hm : a.length * sz ≤ i * sz := Nat.mul_le_mul_right _ (by omega)
    have e1 : (i - a.length) * sz = i * sz - a.length * sz := Nat.sub_mul ..
    rw [List.getElem?_append_right (by rw [h.1]; omega), h.1, ← h3, e1]
    congr 1; omega
/-- The cells behind an address, from a function that finds them. -/
theorem cells_list (A : Addr) (sz : Nat) (els : List AV) (hc : ∀ (i : Nat) (e : AV), els[i]? = some e → (e.cells.length = sz ∧ e.cells.all AV.leaf = true) ∧ ∀ (j : Nat) (y : AV), e.cells[j]? = some y → ∃ v, w.cell? (A.add (i * sz + j)) = some v ∧ VR F w y v) :
    ∃ cs : List Value, Elems F w sz els cs ∧ ∀ (j : Nat) (v : Value), cs[j]? = some v → w.cell? (A.add j) = some v := by
  have hex : ∀ m, m < els.length * sz → ∃ v, w.cell? (A.add m) = some v ∧ ∀ e, els[m / sz]? = some e → ∀ y, e.cells[m % sz]? = some y → VR F w y v := by
    intro m hm
    have hs : 0 < sz := by
      rcases Nat.eq_zero_or_pos sz with h | h
      · rw [h] at hm; simp at hm
      · exact h
    have hi : m / sz < els.length := by rw [Nat.div_lt_iff_lt_mul hs]; exact hm
    obtain ⟨h1, h2⟩ := hc (m / sz) els[m / sz] (by simp [hi])
    have hj : m % sz < els[m / sz].cells.length := by rw [h1.1]; exact Nat.mod_lt _ hs
    obtain ⟨v, h3, h4⟩ := h2 (m % sz) els[m / sz].cells[m % sz] (by simp [hj])
    refine ⟨v, ?_, fun e he y hy => ?_⟩
    · rw [← h3]; congr 2; rw [Nat.mul_comm]; exact (Nat.div_add_mod m sz).symm
    · simp [hi] at he; subst he
      simp [hj] at hy; subst hy; exact h4
  let g : Nat → Value := fun m => if hm : m < els.length * sz then (hex m hm).choose else undef
  have hg : ∀ m, m < els.length * sz → w.cell? (A.add m) = some (g m) ∧ ∀ e, els[m / sz]? = some e → ∀ y, e.cells[m % sz]? = some y → VR F w y (g m) := by
    intro m hm
    simp only [g, hm, dif_pos]
    exact (hex m hm).choose_spec
  refine ⟨(List.range (els.length * sz)).map g, ⟨by simp, fun i e he => ?_⟩, fun j v hv => ?_⟩
  · obtain ⟨h1, h2⟩ := hc i e he
    refine ⟨h1, fun j y hy => ?_⟩
    have hi : i < els.length := (List.getElem?_eq_some_iff.1 he).1
    have hj : j < sz := by rw [← h1.1]; exact (List.getElem?_eq_some_iff.1 hy).1
    have hlt : i * sz + j < els.length * sz := by
      have : (i + 1) * sz ≤ els.length * sz := Nat.mul_le_mul_right _ hi
      rw [Nat.add_mul] at this; omega
    refine ⟨g (i * sz + j), by simp [hlt], ?_⟩
    have e1 : (i * sz + j) / sz = i := by
      rw [Nat.mul_comm, Nat.mul_add_div (by omega), Nat.div_eq_of_lt hj]; simp
    have e2 : (i * sz + j) % sz = j := by
      rw [Nat.mul_comm, Nat.mul_add_mod, Nat.mod_eq_of_lt hj]
    exact (hg _ hlt).2 e (by rw [e1]; exact he) y (by rw [e2]; exact hy)
  · have hj : j < els.length * sz := by
      have := (List.getElem?_eq_some_iff.1 hv).1; simpa using this
    simp [hj] at hv; subst hv
    exact (hg j hj).1
end Go.Proofs.Ytjnencdmejhmjaa.Eng
