/- ENGINE, part 21: more words of the walk. -/
import Derived.Test.YtjnencdmejhmjaaE20
namespace Go.Proofs.Ytjnencdmejhmjaa.Eng
open Go Go.RowKit
set_option linter.unusedSimpArgs false
set_option linter.unusedVariables false
variable {P : Program} {N : Nat}
theorem VR.relab {F : Nat → Prop} {w : World} {h h' : Nat} {a : Loc} {sz off n : Nat} {v : Value} (q : VR F w (.ref h a sz off n) v) : VR F w (.ref h' a sz off n) v := by
  cases q with
  | ref _ _ _ _ _ cap cs t h0 h1 h2 h3 h4 => exact .ref _ _ _ _ _ cap cs t h0 h1 h2 h3 h4
  | refz => exact .refz _ _ _ _ _
  | refnil => exact .refnil _ _ _ _
/-- A row of the function's own, under another label. -/
theorem Weak.relab (l2 t : Nat) {l1 : Nat} {a : Loc} {b : Blk} {sz off n : Nat} {E : Env} {H : Heap} (h : E.get t = some (.ref l1 a sz off n)) (hH : H.get l1 = some (a, b)) : Weak N E H (E.set t (.ref l2 a sz off n)) ((l2, a, b) :: H.del l1) := fun Keep F act w hS => by
  refine ⟨F, Grow.refl _ _ _, ⟨fun s x hx => ?_, hS.tsz, hS.dfs, ?_⟩⟩
  · rw [Env.get_set] at hx
    split at hx
    · rename_i e; subst e
      injection hx with hx; subst hx
      exact (hS.env t _ h).relab
    · exact hS.env s x hx
  · have hd := hS.heap.sub (Heap.del_sub l1 H)
    refine hd.cons l2 a b (hS.heap.blk _ (Heap.get_mem hH)) fun hv => ?_
    have ho := hS.heap.own a.blk (Heap.real_mem (Heap.get_mem hH) hv)
    exact ⟨ho.1, ho.2, Heap.del_real hH hv hS.heap.nodup⟩
section
variable {d t t' : Nat} {b c : Bool} {x y z : Opd} {l : List Ins} {E : Env} {H : Heap} {K : Env → Heap → Prop} {q : IOp} {u v r : AV}
/-- a store of a whole element into a row of structs -/
theorem s_setA {α : Type} {g : α → AV} {sz : Nat} {xs : List α} {z : α} {h i : Nat} {a : Loc} (hg : ∀ z, (g z).ok = true ∧ (g z).cells.length = sz ∧ (g z).cells.all AV.leaf = true) (hx : E.opd x = some (.ptr h a sz i 0)) (hy : E.opd y = some (g z)) (hH : H.get h = some (a, .arr sz (xs.map g))) (hi : i < xs.length) (k : insRun P l E (H.set h (.arr sz ((xs.set i z).map g))) K) : insRun P (⟨none, .store sz x y, none⟩ :: l) E H K := by
  refine s_store (e := g xs[i]) hx hy hH (by simp [hi]) (hg z).1 (hg z).2.1 (by rw [(hg _).2.1]; omega) (hg z).2.2 ?_
  have hp : putCells (g xs[i]) 0 sz (g z) = g z := by simp [putCells, (hg xs[i]).2.1]
  rw [hp, set_map]; exact k
theorem s_app_nfz {sz bytes : Nat} {news : List AV} (hx : E.opd x = some (.v (.slice none 0 0))) (hy : E.opd y = some (.fz sz news)) (hb : news.length * bytes ≤ 140737488355328) (k : ∀ a', insRun P l ((d, .ref d a' sz 0 news.length) :: E) ((d, a', .arr sz news) :: H) K) : insRun P (⟨some d, .app sz bytes x y, none⟩ :: l) E H K :=
  s_app (m := 0) (n := news.length) (olds := []) (H0 := H) hx hy (by simp [oldOf]) (by simp [newsOf]) rfl rfl (by simpa using hb) (by simpa using k)
end
/-- a cut behind a part that does not leave by another way: what comes later is out of sight -/
theorem AWP.seqCutQ {σ : Type} {c d : IR} (Es : σ → Env) (Hs : σ → Heap) {E : Env} {H : Heap} {Q : Exit → Env → Heap → Prop}
    (h1 : ∀ (K : Env → Heap → Prop) (Q : Exit → Env → Heap → Prop), (∀ s E' H', Weak N E' H' (Es s) (Hs s) → K E' H') → AWP P N c E H (then_ K Q)) (h2 : ∀ s, AWP P N d (Es s) (Hs s) Q) : AWP P N (.seq c d) E H Q :=
  AWP.seqCut Es Hs (fun _ => True) (fun K hK => h1 K Q fun s E' H' hw => hK s E' H' trivial hw) fun s _ => h2 s
end Go.Proofs.Ytjnencdmejhmjaa.Eng
