/- ENGINE, part 24: a law's call, from the row's side. -/
import Derived.Test.YtjnencdmejhmjaaE23
import Derived.WideShapes
import Derived.ChangeShapes
namespace Go.Proofs.Ytjnencdmejhmjaa.Eng
open Go Go.RowKit
set_option linter.unusedSimpArgs false
set_option linter.unusedVariables false
variable {H : Type} {enc : TypeId × Value → H} {P : Program} {W : World}
theorem PCalls.law {f : Nat} {xs : List AV} {vs : List Value} (h : PCalls P f xs (.b true)) (hv : VRs (Old W) W xs vs) : Calls P f vs.toArray W fun e w' => e = .returned (.bool true) ∧ Below W.heap.size W w' := by
  have h0 : HeapOK (Old W) (Old W) W [] := HeapOK.none (fun c hc => hc) (fun c hc => hc)
  refine (h.2 (Old W) (Old W) W vs h0 hv).mono ?_
  rintro e w' ⟨v, r, H', F', rfl, ⟨rfl, rfl⟩, hg, _, hr⟩
  have e1 := hr.inv_v
  subst e1
  exact ⟨rfl, ⟨hg.ext.os, hg.ext.tape, hg.ext.output, hg.ext.size, fun k hk => hg.ext.keep k (.inl hk) hk⟩⟩
/-- an argument of a struct type -/
theorem Opens.agg {t : TypeId} {sz : Nat} {α : Type} {g : α → List AV} {ok : α → Prop} {fs : Array Field} {r : Reach} {b0 : Nat} (h : Opens enc P W t sz g ok) (ht : P.underlying t = some (.struct fs)) {v : Value} (hv : Value.okWide P W r b0 t v) {d : DataW H} {ps : List MemPlace} (hd : DataW.Trod enc P W 0 (fun _ => true) true t v d ps) : ∃ z, ok z ∧ VR (Old W) W (.agg (g z)) v := by
  simp only [Value.okWide, ht] at hv
  obtain ⟨cs, rfl, _, _⟩ := hv
  obtain ⟨fuel, hf⟩ := hd
  obtain ⟨z, q1, q2, _⟩ := h fuel _ _ hf
  refine ⟨z, q1, ?_⟩
  obtain ⟨l1, _, l3⟩ := q2
  have := VR.agg (F := Old W) (w := W) (g z) cs.toList l1 (fun i x y hx hy => l3 i x y hx hy)
  simpa using this
/-- an argument that is a slice -/
theorem Opens.sl {t e : TypeId} {α : Type} {y : α → AV} {ok : α → Prop} {r : Reach} {b0 : Nat} (h : Opens enc P W t 1 (fun z => [y z]) ok) (ht : P.underlying t = some (.slice e)) {v : Value} (hv : Value.okWide P W r b0 t v) {d : DataW H} {ps : List MemPlace} (hd : DataW.Trod enc P W 0 (fun _ => true) true t v d ps) : ∃ z, ok z ∧ VR (Old W) W (y z) v := by
  obtain ⟨a, len, cap, rfl⟩ := WideShapes.okWide_slice ht hv
  obtain ⟨fuel, hf⟩ := hd
  obtain ⟨z, q1, q2, _⟩ := h fuel _ _ hf
  exact ⟨z, q1, q2.2.2 0 _ _ rfl rfl⟩
/-- an argument that is a whole number -/
theorem Opens.it {t : TypeId} {α : Type} {y : α → AV} {ok : α → Prop} {k : IntKind} {r : Reach} {b0 : Nat} (h : Opens enc P W t 1 (fun z => [y z]) ok) (ht : P.underlying t = some (.int k)) {v : Value} (hv : Value.okWide P W r b0 t v) {d : DataW H} {ps : List MemPlace} (hd : DataW.Trod enc P W 0 (fun _ => true) true t v d ps) : ∃ z, ok z ∧ VR (Old W) W (y z) v := by
  obtain ⟨n, rfl⟩ := WideShapes.okWide_int ht hv
  obtain ⟨fuel, hf⟩ := hd
  obtain ⟨z, q1, q2, _⟩ := h fuel _ _ hf
  exact ⟨z, q1, q2.2.2 0 _ _ rfl rfl⟩
theorem Opens.map {t : TypeId} {sz : Nat} {α β : Type} {g : α → List AV} {g' : β → List AV} {ok : α → Prop} {ok' : β → Prop} (h : Opens enc P W t sz g ok) (φ : α → β) (hg : ∀ z, g z = g' (φ z)) (hok : ∀ z, ok z → ok' (φ z)) : Opens enc P W t sz g' ok' := by
  intro fuel cs x hx
  obtain ⟨z, q1, q2, q3⟩ := h fuel cs x hx
  exact ⟨φ z, hok z q1, by rw [← hg]; exact q2, by rw [← hg]; exact q3⟩
end Go.Proofs.Ytjnencdmejhmjaa.Eng
