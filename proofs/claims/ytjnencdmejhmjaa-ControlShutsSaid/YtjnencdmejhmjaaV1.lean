/- CONTROL: the specification's small functions, walked. -/
import Derived.Test.YtjnencdmejhmjaaT1
import Derived.Test.YtjnencdmejhmjaaW3
import Derived.Test.YtjnencdmejhmjaaP7
namespace Go.Proofs.Ytjnencdmejhmjaa.Eng
open Go Go.RowKit
attribute [local irreducible] insRun planRun AWP holdsAll CallOK Weak Ins.holds
set_option linter.unusedSimpArgs false
set_option linter.unusedVariables false
set_option maxHeartbeats 4000000
theorem hasB_succ {l : List Sig} {i : Nat} {x : Sig} (hx : l[i]? = some x) (t k n : Int) : hasB (l.take (i + 1)) t k n = (hasB (l.take i) t k n || (decide (x.time = t) && decide (x.kind = k) && decide (x.number = n))) := by
  obtain ⟨hi, rfl⟩ := List.getElem?_eq_some_iff.1 hx
  rw [List.take_succ_eq_append_getElem hi]
  simp only [hasB, List.any_append, List.any_cons, List.any_nil, Bool.or_false]
theorem fold_take {α β : Type} (f : β → α → β) (b : β) {l : List α} {i : Nat} {x : α} (hx : l[i]? = some x) : (l.take (i + 1)).foldl f b = f ((l.take i).foldl f b) x := by
  obtain ⟨hi, rfl⟩ := List.getElem?_eq_some_iff.1 hx
  rw [List.take_succ_eq_append_getElem hi, List.foldl_append]
  rfl
theorem has_ok (l : List Sig) (hl : l.length ≤ 9223372036854775807) (t k n : Int) : PCalls Try.prog 70 [.fz 4 (l.map Sig.av), .i t, .i k, .i n] (.b (hasB l t k n)) := by
  refine PCalls.body fn70 _ (by simp) ?_
  unfold ir70
  (refine goA ?_; repeat (refine goN fun _ => ?_; refine goA ?_))
  refine AWP.loopS (σ := Nat) (fun i => [(9, .i (i : Nat)), (0, .fz 4 (l.map Sig.av)), (1, .i t), (2, .i k), (3, .i n)]) (fun _ => []) (fun i => i ≤ l.length ∧ hasB (l.take i) t k n = false) (fun i => l.length - i) 0 (by first | (refine Weak.of ?_; (repeat (first | exact trivial | refine ⟨rfl, ?_⟩ | refine ⟨by simp [Env.get], ?_⟩)); done) | (refine Weak.pick (by repeat (first | exact trivial | refine ⟨rfl, ?_⟩ | refine ⟨by simp [Env.get], ?_⟩)) (by first | rfl | (simp [pickH, Heap.get, Heap.del, Heap.set, ofV_i, ofV_b]; done)))) ⟨by omega, by simp [hasB]⟩ ?_
  rintro i ⟨hi, hI⟩ K2 hK2
  try dsimp only at hK2 ⊢
  by_cases hlt : i < l.length
  · have hx : l[i]? = some l[i] := by simp [hlt]
    generalize l[i] = x at hx
    have hs := hasB_succ hx t k n
    have step : ∀ E' H', (decide (x.time = t) && decide (x.kind = k) && decide (x.number = n)) = false → Weak 41 E' H' [(9, .i ((i + 1 : Nat) : Int)), (0, .fz 4 (l.map Sig.av)), (1, .i t), (2, .i k), (3, .i n)] [] → K2 E' H' := fun E' H' hf hw => hK2 (i + 1) E' H' (by omega) ⟨by omega, by rw [hs, hI, hf]; rfl⟩ hw
    by_cases ht : x.time = t
    · by_cases hk : x.kind = k
      · by_cases hn : x.number = n
        · (refine goA ?_; repeat (refine goN fun _ => ?_; refine goA ?_))
          refine post_ret rfl ⟨0, ?_⟩
          have h1 : hasB l t k n = true := hasB_iff.2 ⟨x, List.mem_of_getElem? hx, ht, hk, hn⟩
          simp [closeAV, mkRes, h1, AV.ofV]
        · (refine goA ?_; repeat (refine goN fun _ => ?_; refine goA ?_))
          exact step _ _ (by simp [hn]) (by first | (refine Weak.of ?_; (repeat (first | exact trivial | refine ⟨rfl, ?_⟩ | refine ⟨by simp [Env.get], ?_⟩)); done) | (refine Weak.pick (by repeat (first | exact trivial | refine ⟨rfl, ?_⟩ | refine ⟨by simp [Env.get], ?_⟩)) (by first | rfl | (simp [pickH, Heap.get, Heap.del, Heap.set, ofV_i, ofV_b]; done))))
      · (refine goA ?_; repeat (refine goN fun _ => ?_; refine goA ?_))
        exact step _ _ (by simp [hk]) (by first | (refine Weak.of ?_; (repeat (first | exact trivial | refine ⟨rfl, ?_⟩ | refine ⟨by simp [Env.get], ?_⟩)); done) | (refine Weak.pick (by repeat (first | exact trivial | refine ⟨rfl, ?_⟩ | refine ⟨by simp [Env.get], ?_⟩)) (by first | rfl | (simp [pickH, Heap.get, Heap.del, Heap.set, ofV_i, ofV_b]; done))))
    · (refine goA ?_; repeat (refine goN fun _ => ?_; refine goA ?_))
      exact step _ _ (by simp [ht]) (by first | (refine Weak.of ?_; (repeat (first | exact trivial | refine ⟨rfl, ?_⟩ | refine ⟨by simp [Env.get], ?_⟩)); done) | (refine Weak.pick (by repeat (first | exact trivial | refine ⟨rfl, ?_⟩ | refine ⟨by simp [Env.get], ?_⟩)) (by first | rfl | (simp [pickH, Heap.get, Heap.del, Heap.set, ofV_i, ofV_b]; done))))
  · have hi' : i = l.length := by omega
    subst hi'
    (refine goA ?_; repeat (refine goN fun _ => ?_; refine goA ?_))
    refine post_ret rfl ⟨0, ?_⟩
    rw [List.take_length] at hI
    simp [closeAV, mkRes, AV.ofV, hI]
theorem powered_ok (l : List Sig) (hl : l.length ≤ 9223372036854775807) (t : Nat) (ht : t ≤ 1000000) : PCalls Try.prog 33 [.i (t : Nat), .fz 4 (l.map Sig.av)] (.b (powTo l (t + 1))) := by
  refine PCalls.body fn33 _ (by simp) ?_
  unfold ir33
  (refine goA ?_; repeat (refine goN fun _ => ?_; refine goA ?_))
  refine AWP.loopS (σ := Nat) (fun n => [(6, .i (n : Nat)), (5, .b (powTo l n)), (0, .i (t : Nat)), (1, .fz 4 (l.map Sig.av))]) (fun _ => []) (fun n => n ≤ t + 1) (fun n => t + 1 - n) 0 (by first | (refine Weak.of ?_; (repeat (first | exact trivial | refine ⟨rfl, ?_⟩ | refine ⟨by simp [Env.get], ?_⟩)); done) | (refine Weak.pick (by repeat (first | exact trivial | refine ⟨rfl, ?_⟩ | refine ⟨by simp [Env.get], ?_⟩)) (by first | rfl | (simp [pickH, Heap.get, Heap.del, Heap.set, ofV_i, ofV_b]; done)))) (by first | omega | (dsimp only; omega)) ?_
  intro n hn K2 hK2
  try dsimp only at hn hK2 ⊢
  by_cases hlt : n < t + 1
  · (refine goA ?_; repeat (refine goN fun _ => ?_; refine goA ?_))
    refine AWP.loopS (σ := Nat) (fun j => [(7, .i (j : Nat)), (5, .b ((l.take j).foldl (powStep n) (powTo l n))), (6, .i (n : Nat)), (0, .i (t : Nat)), (1, .fz 4 (l.map Sig.av))]) (fun _ => []) (fun j => j ≤ l.length) (fun j => l.length - j) 0 (by first | (refine Weak.of ?_; (repeat (first | exact trivial | refine ⟨rfl, ?_⟩ | refine ⟨by simp [Env.get], ?_⟩)); done) | (refine Weak.pick (by repeat (first | exact trivial | refine ⟨rfl, ?_⟩ | refine ⟨by simp [Env.get], ?_⟩)) (by first | rfl | (simp [pickH, Heap.get, Heap.del, Heap.set, ofV_i, ofV_b]; done)))) (by first | omega | (dsimp only; omega)) ?_
    intro j hj K3 hK3
    try dsimp only at hj hK3 ⊢
    by_cases hlt2 : j < l.length
    · have hx : l[j]? = some l[j] := by simp [hlt2]
      generalize l[j] = x at hx
      have hs := fold_take (powStep n) (powTo l n) hx
      have step : ∀ b E' H', powStep n ((l.take j).foldl (powStep n) (powTo l n)) x = b → Weak 49 E' H' [(7, .i ((j + 1 : Nat) : Int)), (5, .b b), (6, .i (n : Nat)), (0, .i (t : Nat)), (1, .fz 4 (l.map Sig.av))] [] → K3 E' H' := by
        rintro b E' H' rfl hw
        refine hK3 (j + 1) E' H' (by omega) (by omega) ?_
        rw [hs]; exact hw
      by_cases h1 : x.time = n
      · by_cases h4 : x.kind = 4
        · (refine goA ?_; repeat (refine goN fun _ => ?_; refine goA ?_))
          refine step (x.kind == 5) _ _ ?_ (by first | (refine Weak.of ?_; (repeat (first | exact trivial | refine ⟨rfl, ?_⟩ | refine ⟨by simp [Env.get], ?_⟩)); done) | (refine Weak.pick (by repeat (first | exact trivial | refine ⟨rfl, ?_⟩ | refine ⟨by simp [Env.get], ?_⟩)) (by first | rfl | (simp [pickH, Heap.get, Heap.del, Heap.set, ofV_i, ofV_b]; done))))
          simp [powStep, h1, h4]
        · by_cases h5 : x.kind = 5
          · (refine goA ?_; repeat (refine goN fun _ => ?_; refine goA ?_))
            refine step (x.kind == 5) _ _ ?_ (by first | (refine Weak.of ?_; (repeat (first | exact trivial | refine ⟨rfl, ?_⟩ | refine ⟨by simp [Env.get], ?_⟩)); done) | (refine Weak.pick (by repeat (first | exact trivial | refine ⟨rfl, ?_⟩ | refine ⟨by simp [Env.get], ?_⟩)) (by first | rfl | (simp [pickH, Heap.get, Heap.del, Heap.set, ofV_i, ofV_b]; done))))
            simp [powStep, h1, h5]
          · (refine goA ?_; repeat (refine goN fun _ => ?_; refine goA ?_))
            refine step _ _ _ ?_ (by first | (refine Weak.of ?_; (repeat (first | exact trivial | refine ⟨rfl, ?_⟩ | refine ⟨by simp [Env.get], ?_⟩)); done) | (refine Weak.pick (by repeat (first | exact trivial | refine ⟨rfl, ?_⟩ | refine ⟨by simp [Env.get], ?_⟩)) (by first | rfl | (simp [pickH, Heap.get, Heap.del, Heap.set, ofV_i, ofV_b]; done))))
            simp [powStep, h1, h4, h5]
      · (refine goA ?_; repeat (refine goN fun _ => ?_; refine goA ?_))
        refine step _ _ _ ?_ (by first | (refine Weak.of ?_; (repeat (first | exact trivial | refine ⟨rfl, ?_⟩ | refine ⟨by simp [Env.get], ?_⟩)); done) | (refine Weak.pick (by repeat (first | exact trivial | refine ⟨rfl, ?_⟩ | refine ⟨by simp [Env.get], ?_⟩)) (by first | rfl | (simp [pickH, Heap.get, Heap.del, Heap.set, ofV_i, ofV_b]; done))))
        simp [powStep, h1]
    · have hj' : j = l.length := by omega
      subst hj'
      (refine goA ?_; repeat (refine goN fun _ => ?_; refine goA ?_))
      refine hK2 (n + 1) _ _ (by omega) (by omega) ?_
      rw [List.take_length]
      exact (by first | (refine Weak.of ?_; (repeat (first | exact trivial | refine ⟨rfl, ?_⟩ | refine ⟨by simp [Env.get], ?_⟩)); done) | (refine Weak.pick (by repeat (first | exact trivial | refine ⟨rfl, ?_⟩ | refine ⟨by simp [Env.get], ?_⟩)) (by first | rfl | (simp [pickH, Heap.get, Heap.del, Heap.set, ofV_i, ofV_b]; done))))
  · have hn' : n = t + 1 := by omega
    subst hn'
    (refine goA ?_; repeat (refine goN fun _ => ?_; refine goA ?_))
    refine post_ret rfl ⟨0, ?_⟩
    simp [closeAV, mkRes]
theorem senTo_len (sn : Nat) (l : List Sig) (n : Nat) : (senTo sn l n).length = sn := by
  have key : ∀ (t : Int) (l : List Sig) (s : List Int), (l.foldl (senStep t) s).length = s.length := by
    intro t l
    induction l with
    | nil => intro s; rfl
    | cons x l ih => intro s; rw [List.foldl_cons, ih]; unfold senStep; split <;> simp
  induction n with
  | zero => simp [senTo]
  | succ n ih => rw [senTo, key, ih]
theorem senFold_len (t : Int) : ∀ (l : List Sig) (s : List Int), (l.foldl (senStep t) s).length = s.length := by
  intro l
  induction l with
  | nil => intro s; rfl
  | cons x l ih => intro s; rw [List.foldl_cons, ih]; unfold senStep; split <;> simp
theorem senses_ok (p : Panel) (hs : 0 ≤ p.sensors ∧ p.sensors ≤ 12) (l : List Sig) (hl : l.length ≤ 9223372036854775807) (hr : ∀ x ∈ l, x.kind = 1 → 0 ≤ x.number ∧ x.number < p.sensors) (t : Nat) (ht : t ≤ 1000000) : PCalls Try.prog 24 [p.av, .i (t : Nat), .fz 4 (l.map Sig.av)] (ints (senTo p.sensors.toNat l (t + 1))) := by
  refine PCalls.body fn24 _ (by simp) ?_
  unfold ir24
  (refine goA ?_; repeat (refine goN fun _ => ?_; refine goA ?_))
  rename_i a3 a12
  simp only [ofV_i]
  refine AWP.loopS (σ := Nat) (fun n => [(8, .i (n : Nat)), (7, .ref 12 a12 1 0 p.sensors.toNat), (1, .i (t : Nat)), (2, .fz 4 (l.map Sig.av))]) (fun n => [(12, a12, .arr 1 ((senTo p.sensors.toNat l n).map .i))]) (fun n => n ≤ t + 1) (fun n => t + 1 - n) 0 ?_ (by first | omega | (dsimp only; omega)) ?_
  · simp only [senTo, List.map_replicate]; exact (by first | (refine Weak.of ?_; (repeat (first | exact trivial | refine ⟨rfl, ?_⟩ | refine ⟨by simp [Env.get], ?_⟩)); done) | (refine Weak.pick (by repeat (first | exact trivial | refine ⟨rfl, ?_⟩ | refine ⟨by simp [Env.get], ?_⟩)) (by first | rfl | (simp [pickH, Heap.get, Heap.del, Heap.set, ofV_i, ofV_b]; done))))
  intro n hn K2 hK2
  try dsimp only at hn hK2 ⊢
  by_cases hlt : n < t + 1
  · (refine goA ?_; repeat (refine goN fun _ => ?_; refine goA ?_))
    refine AWP.loopS (σ := Nat) (fun j => [(9, .i (j : Nat)), (8, .i (n : Nat)), (7, .ref 12 a12 1 0 p.sensors.toNat), (1, .i (t : Nat)), (2, .fz 4 (l.map Sig.av))]) (fun j => [(12, a12, .arr 1 (((l.take j).foldl (senStep n) (senTo p.sensors.toNat l n)).map .i))]) (fun j => j ≤ l.length) (fun j => l.length - j) 0 (by first | (refine Weak.of ?_; (repeat (first | exact trivial | refine ⟨rfl, ?_⟩ | refine ⟨by simp [Env.get], ?_⟩)); done) | (refine Weak.pick (by repeat (first | exact trivial | refine ⟨rfl, ?_⟩ | refine ⟨by simp [Env.get], ?_⟩)) (by first | rfl | (simp [pickH, Heap.get, Heap.del, Heap.set, ofV_i, ofV_b]; done)))) (by first | omega | (dsimp only; omega)) ?_
    intro j hj K3 hK3
    try dsimp only at hj hK3 ⊢
    have hln : ((l.take j).foldl (senStep n) (senTo p.sensors.toNat l n)).length = p.sensors.toNat := by rw [senFold_len, senTo_len]
    by_cases hlt2 : j < l.length
    · have hx : l[j]? = some l[j] := by simp [hlt2]
      have hx2 := hr l[j] (by simp)
      generalize l[j] = x at hx hx2
      have hsx := fold_take (senStep n) (senTo p.sensors.toNat l n) hx
      generalize (l.take j).foldl (senStep n) (senTo p.sensors.toNat l n) = cur at hln hsx
      have step : ∀ c E' H', senStep n cur x = c → Weak 52 E' H' [(9, .i ((j + 1 : Nat) : Int)), (8, .i (n : Nat)), (7, .ref 12 a12 1 0 p.sensors.toNat), (1, .i (t : Nat)), (2, .fz 4 (l.map Sig.av))] [(12, a12, .arr 1 (c.map .i))] → K3 E' H' := by
        rintro b E' H' rfl hw
        refine hK3 (j + 1) E' H' (by omega) (by omega) ?_
        rw [hsx]; exact hw
      by_cases h1 : x.time = n
      · by_cases h4 : x.kind = 1
        · have hxn : 0 ≤ x.number ∧ x.number < (p.sensors.toNat : Int) := by have := hx2 h4; omega
          (refine goA ?_; repeat (refine goN fun _ => ?_; refine goA ?_))
          refine step (cur.set x.number.toNat x.value) _ _ ?_ (by first | (refine Weak.of ?_; (repeat (first | exact trivial | refine ⟨rfl, ?_⟩ | refine ⟨by simp [Env.get], ?_⟩)); done) | (refine Weak.pick (by repeat (first | exact trivial | refine ⟨rfl, ?_⟩ | refine ⟨by simp [Env.get], ?_⟩)) (by first | rfl | (simp [pickH, Heap.get, Heap.del, Heap.set, ofV_i, ofV_b]; done))))
          simp [senStep, h1, h4]
        · (refine goA ?_; repeat (refine goN fun _ => ?_; refine goA ?_))
          refine step _ _ _ ?_ (by first | (refine Weak.of ?_; (repeat (first | exact trivial | refine ⟨rfl, ?_⟩ | refine ⟨by simp [Env.get], ?_⟩)); done) | (refine Weak.pick (by repeat (first | exact trivial | refine ⟨rfl, ?_⟩ | refine ⟨by simp [Env.get], ?_⟩)) (by first | rfl | (simp [pickH, Heap.get, Heap.del, Heap.set, ofV_i, ofV_b]; done))))
          simp [senStep, h1, h4]
      · (refine goA ?_; repeat (refine goN fun _ => ?_; refine goA ?_))
        refine step _ _ _ ?_ (by first | (refine Weak.of ?_; (repeat (first | exact trivial | refine ⟨rfl, ?_⟩ | refine ⟨by simp [Env.get], ?_⟩)); done) | (refine Weak.pick (by repeat (first | exact trivial | refine ⟨rfl, ?_⟩ | refine ⟨by simp [Env.get], ?_⟩)) (by first | rfl | (simp [pickH, Heap.get, Heap.del, Heap.set, ofV_i, ofV_b]; done))))
        simp [senStep, h1]
    · have hj' : j = l.length := by omega
      subst hj'
      (refine goA ?_; repeat (refine goN fun _ => ?_; refine goA ?_))
      refine hK2 (n + 1) _ _ (by omega) (by omega) ?_
      simp only [senTo]
      rw [List.take_length]
      exact (by first | (refine Weak.of ?_; (repeat (first | exact trivial | refine ⟨rfl, ?_⟩ | refine ⟨by simp [Env.get], ?_⟩)); done) | (refine Weak.pick (by repeat (first | exact trivial | refine ⟨rfl, ?_⟩ | refine ⟨by simp [Env.get], ?_⟩)) (by first | rfl | (simp [pickH, Heap.get, Heap.del, Heap.set, ofV_i, ofV_b]; done))))
  · have hn' : n = t + 1 := by omega
    subst hn'
    (refine goA ?_; repeat (refine goN fun _ => ?_; refine goA ?_))
    refine post_ret rfl ⟨1, ?_⟩
    exact close_ints elem_i' rfl (senTo_len _ _ _).symm 0
theorem true_ok (ws : List Sense) (hl : ws.length ≤ 9223372036854775807) (vs : List Int) (hs : ∀ s ∈ ws, 0 ≤ s.sensor ∧ s.sensor < vs.length) : PCalls Try.prog 23 [.fz 3 (ws.map Sense.av), ints vs] (.b (trueB ws vs)) := by
  unfold ints
  refine PCalls.body fn23 _ (by simp) ?_
  unfold ir23
  (refine goA ?_; repeat (refine goN fun _ => ?_; refine goA ?_))
  refine AWP.loopS (σ := Nat) (fun i => [(5, .i (i : Nat)), (0, .fz 3 (ws.map Sense.av)), (1, .fz 1 (vs.map .i))]) (fun _ => []) (fun i => i ≤ ws.length ∧ ∀ j x, j < i → ws[j]? = some x → ((nth vs x.sensor == x.value) == x.neg) = false) (fun i => ws.length - i) 0 (by first | (refine Weak.of ?_; (repeat (first | exact trivial | refine ⟨rfl, ?_⟩ | refine ⟨by simp [Env.get], ?_⟩)); done) | (refine Weak.pick (by repeat (first | exact trivial | refine ⟨rfl, ?_⟩ | refine ⟨by simp [Env.get], ?_⟩)) (by first | rfl | (simp [pickH, Heap.get, Heap.del, Heap.set, ofV_i, ofV_b]; done)))) ⟨by omega, by omega⟩ ?_
  rintro i ⟨hi, hI⟩ K2 hK2
  try dsimp only at hK2 ⊢
  by_cases hlt : i < ws.length
  · have hx : ws[i]? = some ws[i] := by simp [hlt]
    have hx2 := hs ws[i] (by simp)
    generalize ws[i] = x at hx hx2
    have hg := nth_get hx2.1 hx2.2
    (refine goA ?_; repeat (refine goN fun _ => ?_; refine goA ?_))
    refine s_iaddr_fz rfl rfl hx2.1 (get_map _ hg) ?_
    (refine goA ?_; repeat (refine goN fun _ => ?_; refine goA ?_))
    refine AWP.cond rfl (fun hc => ?_) (fun hc => ?_)
    · (refine goA ?_; repeat (refine goN fun _ => ?_; refine goA ?_))
      refine post_ret rfl ⟨0, ?_⟩
      have : trueB ws vs = false := by
        simp only [trueB, Bool.not_eq_false', List.any_eq_true]
        exact ⟨x, List.mem_of_getElem? hx, hc⟩
      simp [closeAV, mkRes, AV.ofV, this]
    · (refine goA ?_; repeat (refine goN fun _ => ?_; refine goA ?_))
      refine hK2 (i + 1) _ _ (by omega) ⟨by omega, ?_⟩ (by first | (refine Weak.of ?_; (repeat (first | exact trivial | refine ⟨rfl, ?_⟩ | refine ⟨by simp [Env.get], ?_⟩)); done) | (refine Weak.pick (by repeat (first | exact trivial | refine ⟨rfl, ?_⟩ | refine ⟨by simp [Env.get], ?_⟩)) (by first | rfl | (simp [pickH, Heap.get, Heap.del, Heap.set, ofV_i, ofV_b]; done))))
      intro j y hj hy
      by_cases e : j < i
      · exact hI j y e hy
      · have : j = i := by omega
        subst this
        rw [hx] at hy; injection hy with hy; subst hy
        exact hc
  · (refine goA ?_; repeat (refine goN fun _ => ?_; refine goA ?_))
    refine post_ret rfl ⟨0, ?_⟩
    have : trueB ws vs = true := by
      simp only [trueB, Bool.not_eq_true', List.any_eq_false, Bool.not_eq_true]
      intro x hx
      obtain ⟨j, hj, rfl⟩ := List.getElem_of_mem hx
      exact hI j _ (by omega) (by simp)
    simp [closeAV, mkRes, AV.ofV, this]
def cticksI (p : Panel) (ticks : Int) : Int := if badPanel p then 80 else if inR ticks 0 1000 then 0 else 1
theorem checkTicks_ok (p : Panel) (hsm : p.small) (ticks : Int) : PCalls Try.prog 69 [p.av, .i ticks] (.i (cticksI p ticks)) := by
  refine PCalls.body fn69 _ (by simp) ?_
  unfold ir69
  (refine goA ?_; repeat (refine goN fun _ => ?_; refine goA ?_))
  refine s_call rfl ?_
  refine CallOK.pure (rcheck_ok p hsm) ?_
  (refine goA ?_; repeat (refine goN fun _ => ?_; refine goA ?_))
  refine AWP.cond rfl (fun h1 => ?_) (fun h1 => ?_)
  · have hb : badPanel p = true := by
      cases hb : badPanel p
      · simp [checkI, hb] at h1
      · rfl
    (refine goA ?_; repeat (refine goN fun _ => ?_; refine goA ?_))
    refine post_ret rfl ⟨0, ?_⟩
    simp [closeAV, mkRes, cticksI, checkI, hb]
  have hb : badPanel p = false := by
    cases hb : badPanel p
    · rfl
    · simp [checkI, hb] at h1
  (refine goA ?_; repeat (refine goN fun _ => ?_; refine goA ?_))
  refine s_call rfl ?_
  refine CallOK.pure (rwithin_ok ..) ?_
  (refine goA ?_; repeat (refine goN fun _ => ?_; refine goA ?_))
  refine AWP.cond rfl (fun h2 => ?_) (fun h2 => ?_)
  · (refine goA ?_; repeat (refine goN fun _ => ?_; refine goA ?_))
    refine post_ret rfl ⟨0, ?_⟩
    simp at h2
    simp [closeAV, mkRes, cticksI, hb, h2, AV.ofV]
  · (refine goA ?_; repeat (refine goN fun _ => ?_; refine goA ?_))
    refine post_ret rfl ⟨0, ?_⟩
    simp at h2
    simp [closeAV, mkRes, cticksI, hb, h2, AV.ofV]
end Go.Proofs.Ytjnencdmejhmjaa.Eng
