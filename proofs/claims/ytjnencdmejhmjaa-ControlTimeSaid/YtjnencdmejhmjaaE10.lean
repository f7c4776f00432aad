/- ENGINE, part 10: append. -/
import Derived.Test.YtjnencdmejhmjaaE9
namespace Go.Proofs.Ytjnencdmejhmjaa.Eng
open Go Go.RowKit
set_option linter.unusedSimpArgs false
set_option linter.unusedVariables false
variable {P : Program} {F Keep : Nat → Prop} {w : World} {H : Heap}

theorem Heap.del_real {h : Nat} {a : Loc} {b : Blk} (hg : H.get h = some (a, b)) (hv : a.vir = false) (hn : H.real.Nodup) : a.blk ∉ (H.del h).real := by
  obtain ⟨A, B, e1, e2, e3⟩ := Heap.get_split hg
  rw [e3, Heap.real_append]
  rw [e1, Heap.real_append] at hn
  simp only [Heap.real, hv, Bool.false_eq_true, if_false] at hn
  rw [List.nodup_append] at hn
  obtain ⟨_, h2, h3⟩ := hn
  rw [List.nodup_cons] at h2
  intro hm
  rcases List.mem_append.1 hm with hm | hm
  · exact h3 _ hm _ List.mem_cons_self rfl
  · exact h2.1 hm
theorem take_drop_get {α : Type} (l : List α) (off n : Nat) (i : Nat) : ((l.drop off).take n)[i]? = if i < n then l[off + i]? else none := by
  rw [List.getElem?_take]
  split
  · rw [List.getElem?_drop]
  · rfl
/-- The elements of a slice that is appended. -/
theorem news_cells (hH : HeapOK Keep F w H) {sz : Nat} {y : AV} {v : Value} (hy : VR F w y v) {news : List AV} (h : newsOf sz H y = some news) :
    ∃ A c, v = .slice A news.length c ∧ ((A = none ∧ news = []) ∨ news = [] ∨ ∃ ad vs, A = some ad ∧ Elems F w sz news vs ∧ ∀ (j : Nat) (u : Value), vs[j]? = some u → w.cell? (ad.add j) = some u) := by
  unfold newsOf at h
  split at h
  · injection h with h; subst h
    obtain rfl := hy.inv_v
    exact ⟨none, 0, rfl, .inl ⟨rfl, rfl⟩⟩
  · split at h
    · rename_i sz' xs e
      subst e
      injection h with h; subst h
      cases hy with
      | fz _ _ A cap g h1 h2 h3 h4 h5 =>
        obtain ⟨cs, c1, c2⟩ := cells_list (F := F) (w := w) A sz' xs (fun i e he => ⟨h3 i e he, fun j q hq => ⟨g i j, (h4 i e j q he hq).2, h5 i e j q he hq⟩⟩)
        exact ⟨some A, cap, rfl, .inr (.inr ⟨A, cs, rfl, c1, c2⟩)⟩
      | fznil => exact ⟨none, 0, rfl, .inl ⟨rfl, rfl⟩⟩
    · simp at h
  · rename_i hh a sz' off n
    split at h
    · rename_i a' sz'' els hg
      split at h
      · rename_i hc
        obtain ⟨rfl, rfl, rfl, hle⟩ := hc
        injection h with h; subst h
        have hl : ((els.drop off).take n).length = n := by simp; omega
        rw [hl]
        cases hy with
        | ref _ _ _ _ _ cap cs ty q0 q1 q2 q3 q4 =>
          have hb := hH.blk _ (Heap.get_mem hg)
          simp only [BlkOK, q0, Bool.false_eq_true, if_false] at hb
          obtain ⟨cs2, ty2, h1, h2⟩ := hb
          obtain ⟨vs, c1, c2⟩ := cells_list (F := F) (w := w) ⟨a.blk, a.base + off * sz'', none⟩ sz'' ((els.drop off).take n) (fun i e he => by
            rw [take_drop_get] at he
            split at he
            · obtain ⟨h3, h4⟩ := h2 _ e he
              refine ⟨h3, fun j q hq => ?_⟩
              obtain ⟨z, hz1, hz2⟩ := h4 j q hq
              refine ⟨z, ?_, hz2⟩
              rw [Addr.add_lit]
              simp only [World.cell?, h1]
              rw [← hz1, Nat.add_mul]
              simp [Nat.add_assoc]
            · simp at he)
          exact ⟨_, cap, rfl, .inr (.inr ⟨_, vs, rfl, c1, c2⟩)⟩
        | refz => exact ⟨_, 0, rfl, .inr (.inl (by simp))⟩
        | refnil => exact ⟨_, 0, rfl, .inl ⟨rfl, by simp⟩⟩
      · simp at h
    · simp at h
  · simp at h
theorem append_none {t ty e : TypeId} {i : TypeInfo} (ht : P.underlying t = some (.slice e)) (hi : P.info? e = some i) (base : Option Addr) (n cap : Nat) (hn : n ≤ cap) (A : Option Addr) (c : Nat) :
    (Builtin.append_ #[t, t] ty #[.slice base n cap, .slice A 0 c]).run P w = .ok (.slice base n cap) w := by
  cases base <;> cases A <;> simp [Builtin.append_, run_underlying ht, sizeOf, typeInfo, hi, Builtin.lenOf, hn, Builtin.firstCells, loadCells, loadCellsFrom, storeCells]
theorem append_room {t ty e : TypeId} {i : TypeInfo} (ht : P.underlying t = some (.slice e)) (hi : P.info? e = some i)
    (g o sLen sCap : Nat) (cur : Array Value) (et : TypeId) (hg : w.heap[g]? = some (.cells cur et (0, 0)))
    (a : Addr) (m c : Nat) (news : List Value) (hl : news.length = m * i.size) (hnews : ∀ j u, news[j]? = some u → w.cell? (a.add j) = some u) (h1 : ∀ u ∈ news, u.oneCell' = true)
    (hroom : sLen + m ≤ sCap) (hfit : o + sLen * i.size + news.length ≤ cur.size) :
    (Builtin.append_ #[t, t] ty #[.slice (some ⟨g, o, none⟩) sLen sCap, .slice (some a) m c]).run P w =
      .ok (.slice (some ⟨g, o, none⟩) (sLen + m) sCap) (w.setRow g (cur.toList.take (o + sLen * i.size) ++ news ++ cur.toList.drop (o + sLen * i.size + news.length)).toArray) := by
  have hf := run_firstCells_some (P := P) w i.size m a m c news hl hnews
  have hst := run_storeCells_at P g (o + sLen * i.size) et news 0 cur w hg (by simpa using hfit) h1
  simp only [Nat.add_zero] at hst
  simp [Builtin.append_, run_underlying ht, sizeOf, typeInfo, hi, Builtin.lenOf, hroom, hf, Addr.add_lit, hst]
theorem append_sound (hH : HeapOK Keep F w H) {t ty e : TypeId} {i : TypeInfo} {z : Value} (ht : P.underlying t = some (.slice e)) (hi : P.info? e = some i) (hz : i.zero = some z) (hzs : z.cells.size = i.size) (hsz : 0 < i.size)
    {x y : AV} {u v : Value} (hx : VR F w x u) (hy : VR F w y v) {olds news : List AV} {H0 : Heap} (hold : oldOf i.size H x = some (olds, H0)) (hnews : newsOf i.size H y = some news)
    (hb : (olds.length + news.length) * i.bytes ≤ 140737488355328) (h63 : olds.length + news.length ≤ 9223372036854775807) (L : Nat) :
    ∃ u' w' a', (Builtin.append_ #[t, t] ty #[u, v]).run P w = .ok u' w' ∧ VR F w' (.ref L a' i.size 0 (olds.length + news.length)) u' ∧ HeapOK Keep F w' ((L, a', .arr i.size (olds ++ news)) :: H0) ∧ Ext (fun c => F c ∨ Keep c) w w' := by
  obtain ⟨Ay, cy, rfl, hcells⟩ := news_cells hH hy hnews
  have hsub : List.Sublist H0 H := by
    unfold oldOf at hold
    split at hold
    · injection hold with hold; injection hold with _ h; subst h; exact List.Sublist.refl _
    · split at hold
      · split at hold
        · injection hold with hold; injection hold with _ h; subst h; exact Heap.del_sub _ _
        · simp at hold
      · simp at hold
    · simp at hold
  have hH0 := hH.sub hsub
  -- a slice from nowhere: nothing behind it
  have nowhere : ∀ (A : Option Addr), u = .slice A 0 0 → olds = [] → ∃ u' w' a', (Builtin.append_ #[t, t] ty #[u, .slice Ay news.length cy]).run P w = .ok u' w' ∧ VR F w' (.ref L a' i.size 0 (olds.length + news.length)) u' ∧ HeapOK Keep F w' ((L, a', .arr i.size (olds ++ news)) :: H0) ∧ Ext (fun c => F c ∨ Keep c) w w' := by
    intro A hu ho
    subst hu; subst ho
    simp only [List.length_nil, Nat.zero_add, List.nil_append] at hb h63 ⊢
    rcases Nat.eq_zero_or_pos news.length with h0 | h0
    · have hn : news = [] := List.eq_nil_of_length_eq_zero h0
      subst hn
      refine ⟨_, w, ⟨0, 0, true⟩, append_none ht hi A 0 0 (Nat.le_refl _) Ay cy, ?_, hH0.cons _ _ _ (by simp [BlkOK]) (by simp), Ext.refl _ _⟩
      cases A with
      | none => exact .refnil _ _ _ _
      | some A => exact .refz _ _ _ _ _
    · have hne : news ≠ [] := fun e => by rw [e] at h0; simp at h0
      rcases hcells with ⟨_, e⟩ | e | ⟨ad, vs, rfl, he, hc⟩
      · exact absurd e hne
      · exact absurd e hne
      have run : ∃ cap W, (Builtin.append_ #[t, t] ty #[.slice A 0 0, .slice (some ad) news.length cy]).run P w = .ok (.slice (some ⟨w.heap.size, 0, none⟩) news.length cap) (w.drew.alloc (.cells W e)) ∧ news.length ≤ cap ∧ cap ≤ 9223372036854775807 ∧ W = vs.toArray ++ Builtin.zeroCells z.cells (cap - news.length) := by
        refine ⟨grownCap w news.length 0 e, _, ?_, grownCap_ge _ _ _ _, by have := grownCap_le_maxLen w news.length 0 e (by simp only [maxLen]; omega); simpa [maxLen] using this, rfl⟩
        cases A with
        | none => exact run_append_nil (P := P) w t ty e i z ht hi hz ad news.length cy vs he.1 hc h0 (by omega) (by omega)
        | some A =>
          have := run_append_grow (P := P) w t ty e i z ht hi hz A 0 0 [] (by simp) (by simp) ad news.length cy vs he.1 hc (by omega) (by omega) (growslice_fits (by omega) (by simpa using hb))
          simpa using this
      obtain ⟨cap, W, hr, hc1, hc2, hW⟩ := run
      have hH1 := hH0.drew
      obtain ⟨n1, n2⟩ := hH1.newRow L i.size news W e (fun k q hk => by
        obtain ⟨e1, e2⟩ := he.2 k q hk
        refine ⟨e1, fun j y hy => ?_⟩
        obtain ⟨v, e3, e4⟩ := e2 j y hy
        refine ⟨v, ?_, e4.grow hH0 (Grow.same (Ext.drew _ w))⟩
        rw [hW]
        have hlt : k * i.size + j < vs.length := (List.getElem?_eq_some_iff.1 e3).1
        rw [Array.getElem?_append_left (by simpa using hlt)]
        simpa using e3)
      refine ⟨_, _, _, hr, ?_, n1, (Ext.drew _ w).trans n2.ext⟩
      have hws : W.size = cap * i.size := by
        rw [hW]; simp only [Array.size_append, List.size_toArray, size_zeroCells, hzs, he.1, ← Nat.add_mul]; congr 1; omega
      have := VR.ref (F := F) (w := w.drew.alloc (.cells W e)) L ⟨w.heap.size, 0, false⟩ i.size 0 news.length cap W e rfl hc1 hc2 (heap_alloc_new w.drew _) (by rw [hws]; simp)
      simpa using this
  unfold oldOf at hold
  split at hold
  · injection hold with hold; injection hold with h1 h2; subst h1; subst h2
    exact nowhere none hx.inv_v rfl
  · rename_i hh a sz' off n
    split at hold
    · rename_i a' sz'' els hg
      split at hold
      · rename_i hc
        obtain ⟨rfl, rfl, rfl, hle⟩ := hc
        injection hold with hold; injection hold with h1 h2; subst h1; subst h2
        have hl : ((els.drop off).take n).length = n := by simp; omega
        cases hx with
        | refz _ _ _ _ A => exact nowhere (some A) rfl (by simp)
        | refnil => exact nowhere none rfl (by simp)
        | ref _ _ _ _ _ cap cs ty' q0 q1 q2 q3 q4 =>
          rw [hl] at hb h63 ⊢
          have hblk := hH.blk _ (Heap.get_mem hg)
          simp only [BlkOK, q0, Bool.false_eq_true, if_false] at hblk
          obtain ⟨cs2, ty2, b1, b2⟩ := hblk
          rw [q3] at b1
          injection b1 with b1; injection b1 with b1 b1'; subst b1; subst b1'
          have hown := hH.own _ (Heap.real_mem (Heap.get_mem hg) q0)
          have hnot := Heap.del_real hg q0 hH.nodup
          have hfit0 : a.base + off * i.size + cap * i.size ≤ cs.size := by rw [Nat.add_mul] at q4; omega
          rcases Nat.eq_zero_or_pos news.length with h0 | h0
          · have hn : news = [] := List.eq_nil_of_length_eq_zero h0
            subst hn
            refine ⟨_, w, ⟨a.blk, a.base + off * i.size, false⟩, append_none ht hi _ n cap q1 Ay cy, ?_, hH0.cons _ _ _ ?_ (fun _ => ⟨hown.1, hown.2, hnot⟩), Ext.refl _ _⟩
            · have := VR.ref (F := F) (w := w) L ⟨a.blk, a.base + off * i.size, false⟩ i.size 0 n cap cs ty' rfl q1 q2 q3 (by simpa using hfit0)
              simpa using this
            · simp only [BlkOK]
              rw [if_neg (by simp)]
              refine ⟨cs, ty', q3, fun k q hk => ?_⟩
              rw [List.append_nil, take_drop_get] at hk
              split at hk
              · obtain ⟨e1, e2⟩ := b2 _ q hk
                refine ⟨e1, fun j y hy => ?_⟩
                obtain ⟨v, e3, e4⟩ := e2 j y hy
                refine ⟨v, ?_, e4⟩
                rw [← e3, Nat.add_mul]; congr 1; omega
              · simp at hk
          · have hne : news ≠ [] := fun e => by rw [e] at h0; simp at h0
            rcases hcells with ⟨_, e⟩ | e | ⟨ad, vs, rfl, he, hc⟩
            · exact absurd e hne
            · exact absurd e hne
            by_cases hroom : n + news.length ≤ cap
            · have hmul : n * i.size + vs.length ≤ cap * i.size := by rw [he.1, ← Nat.add_mul]; exact Nat.mul_le_mul_right _ hroom
              have hone : ∀ q ∈ vs, q.oneCell' = true := by
                intro q hq
                obtain ⟨m, hm, rfl⟩ := List.mem_iff_getElem.1 hq
                have hmlt : m < news.length * i.size := by rw [← he.1]; exact hm
                have hk : m / i.size < news.length := by rw [Nat.div_lt_iff_lt_mul hsz]; exact hmlt
                obtain ⟨⟨e1, e1l⟩, e2⟩ := he.2 (m / i.size) news[m / i.size] (by simp [hk])
                have hj : m % i.size < news[m / i.size].cells.length := by rw [e1]; exact Nat.mod_lt _ hsz
                obtain ⟨v, e3, e4⟩ := e2 (m % i.size) news[m / i.size].cells[m % i.size] (by simp [hj])
                have em : m / i.size * i.size + m % i.size = m := by rw [Nat.mul_comm]; exact Nat.div_add_mod m i.size
                rw [em] at e3
                simp [hm] at e3
                rw [e3]
                exact e4.oneCell (List.all_eq_true.1 e1l _ (List.getElem_mem hj))
              have hr := append_room (P := P) (w := w) (ty := ty) ht hi a.blk (a.base + off * i.size) n cap cs ty' q3 ad news.length cy vs he.1 hc hone hroom (by omega)
              have hsize : (cs.toList.take (a.base + off * i.size + n * i.size) ++ vs ++ cs.toList.drop (a.base + off * i.size + n * i.size + vs.length)).toArray.size = cs.size := by
                simp; omega
              have hext : Ext (fun c => F c ∨ Keep c) w (w.setRow a.blk (cs.toList.take (a.base + off * i.size + n * i.size) ++ vs ++ cs.toList.drop (a.base + off * i.size + n * i.size + vs.length)).toArray) :=
                ext_setRow a.blk cs _ ty' q3 hsize _ (fun h => h.elim hown.1 hown.2)
              have hH1 : HeapOK Keep F (w.setRow a.blk (cs.toList.take (a.base + off * i.size + n * i.size) ++ vs ++ cs.toList.drop (a.base + off * i.size + n * i.size + vs.length)).toArray) (H.del hh) :=
                hH0.step (Grow.same hext) (fun c hc => setRow_other w a.blk c _ (fun e => hnot (e ▸ hc))) (fun c hc => (hH0.own c hc).1) (fun c hc => by have := hH.flt c hc; simpa using this)
              refine ⟨_, _, ⟨a.blk, a.base + off * i.size, false⟩, hr, ?_, hH1.cons _ _ _ ?_ (fun _ => ⟨hown.1, hown.2, hnot⟩), hext⟩
              · have := VR.ref (F := F) (w := w.setRow a.blk (cs.toList.take (a.base + off * i.size + n * i.size) ++ vs ++ cs.toList.drop (a.base + off * i.size + n * i.size + vs.length)).toArray) L ⟨a.blk, a.base + off * i.size, false⟩ i.size 0 (n + news.length) cap _ ty' rfl hroom q2 (setRow_heap w a.blk cs _ ty' _ q3) (by rw [hsize]; simpa using hfit0)
                simpa using this
              · simp only [BlkOK]
                rw [if_neg (by simp)]
                refine ⟨_, ty', setRow_heap w a.blk cs _ ty' _ q3, fun k q hk => ?_⟩
                have hstep : ∀ {q : AV} {z : Value}, VR F w q z → VR F (w.setRow a.blk (cs.toList.take (a.base + off * i.size + n * i.size) ++ vs ++ cs.toList.drop (a.base + off * i.size + n * i.size + vs.length)).toArray) q z := fun hq => hq.step (fun _ h => h) hH.flt (hext.mono fun _ h => .inl h)
                have ht1 : (cs.toList.take (a.base + off * i.size + n * i.size)).length = a.base + off * i.size + n * i.size := by simp; omega
                by_cases hkn : k < n
                · rw [List.getElem?_append_left (by rw [hl]; exact hkn), take_drop_get, if_pos hkn] at hk
                  obtain ⟨e1, e2⟩ := b2 _ q hk
                  refine ⟨e1, fun j y hy => ?_⟩
                  obtain ⟨v, e3, e4⟩ := e2 j y hy
                  refine ⟨v, ?_, hstep e4⟩
                  have hj : j < i.size := by rw [← e1.1]; exact (List.getElem?_eq_some_iff.1 hy).1
                  have hlt : k * i.size + j < n * i.size := by
                    have : (k + 1) * i.size ≤ n * i.size := Nat.mul_le_mul_right _ hkn
                    rw [Nat.add_mul] at this; omega
                  simp only [List.getElem?_toArray]
                  rw [List.append_assoc, List.getElem?_append_left (by rw [ht1]; omega), List.getElem?_take, if_pos (by omega)]
                  rw [← e3, Nat.add_mul]
                  simp only [Array.getElem?_toList]
                  congr 1; omega
                · rw [List.getElem?_append_right (by rw [hl]; omega), hl] at hk
                  obtain ⟨e1, e2⟩ := he.2 _ q hk
                  refine ⟨e1, fun j y hy => ?_⟩
                  obtain ⟨v, e3, e4⟩ := e2 j y hy
                  refine ⟨v, ?_, hstep e4⟩
                  have hlt := (List.getElem?_eq_some_iff.1 e3).1
                  have e5 : (k - n) * i.size = k * i.size - n * i.size := Nat.sub_mul ..
                  have e6 : n * i.size ≤ k * i.size := Nat.mul_le_mul_right _ (by omega)
                  simp only [List.getElem?_toArray]
                  rw [List.append_assoc, List.getElem?_append_right (by rw [ht1]; omega), ht1, List.getElem?_append_left (by omega), ← e3]
                  congr 1; omega
            · have holdc : ∃ os : List Value, Elems F w i.size ((els.drop off).take n) os ∧ ∀ (j : Nat) (u : Value), os[j]? = some u → w.cell? ((⟨a.blk, a.base + off * i.size, none⟩ : Addr).add j) = some u := by
                refine cells_list _ _ _ (fun k q hk => ?_)
                rw [take_drop_get] at hk
                split at hk
                · obtain ⟨e1, e2⟩ := b2 _ q hk
                  refine ⟨e1, fun j y hy => ?_⟩
                  obtain ⟨v, e3, e4⟩ := e2 j y hy
                  refine ⟨v, ?_, e4⟩
                  rw [Addr.add_lit]
                  simp only [World.cell?, q3]
                  rw [← e3, Nat.add_mul]
                  simp [Nat.add_assoc]
                · simp at hk
              obtain ⟨os, o1, o2⟩ := holdc
              have hr := run_append_grow (P := P) w t ty e i z ht hi hz ⟨a.blk, a.base + off * i.size, none⟩ n cap os (by rw [o1.1, hl]) o2 ad news.length cy vs he.1 hc (by omega) (by omega) (growslice_fits (by omega) hb)
              have hc1 := grownCap_ge w (n + news.length) cap e
              have hc2 : grownCap w (n + news.length) cap e ≤ 9223372036854775807 := by have := grownCap_le_maxLen w (n + news.length) cap e (by simp only [maxLen]; omega); simpa [maxLen] using this
              have hall := o1.append he
              have hH1 := hH0.drew
              obtain ⟨n1, n2⟩ := hH1.newRow L i.size ((els.drop off).take n ++ news) (os.toArray ++ vs.toArray ++ Builtin.zeroCells z.cells (grownCap w (n + news.length) cap e - (n + news.length))) e (fun k q hk => by
                obtain ⟨e1, e2⟩ := hall.2 k q hk
                refine ⟨e1, fun j y hy => ?_⟩
                obtain ⟨v, e3, e4⟩ := e2 j y hy
                refine ⟨v, ?_, e4.grow hH0 (Grow.same (Ext.drew _ w))⟩
                have hlt : k * i.size + j < (os ++ vs).length := (List.getElem?_eq_some_iff.1 e3).1
                rw [Array.getElem?_append_left (by simpa using hlt)]
                simpa using e3)
              refine ⟨_, _, _, hr, ?_, n1, (Ext.drew _ w).trans n2.ext⟩
              have hws : (os.toArray ++ vs.toArray ++ Builtin.zeroCells z.cells (grownCap w (n + news.length) cap e - (n + news.length))).size = grownCap w (n + news.length) cap e * i.size := by
                simp only [Array.size_append, List.size_toArray, size_zeroCells, hzs, he.1, o1.1, hl, ← Nat.add_mul]; congr 1; omega
              have := VR.ref (F := F) (w := w.drew.alloc (.cells (os.toArray ++ vs.toArray ++ Builtin.zeroCells z.cells (grownCap w (n + news.length) cap e - (n + news.length))) e)) L ⟨w.heap.size, 0, false⟩ i.size 0 (n + news.length) _ _ e rfl hc1 hc2 (heap_alloc_new w.drew _) (by rw [hws]; simp)
              simpa using this
      · simp at hold
    · simp at hold
  · simp at hold
end Go.Proofs.Ytjnencdmejhmjaa.Eng
