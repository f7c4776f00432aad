/- CONTROL: plain laws: what is when nothing is lost; what those who stand in a door bring about. -/
import Derived.Test.YtjnencdmejhmjaaP7
namespace Go.Proofs.Ytjnencdmejhmjaa.Eng
set_option linter.unusedSimpArgs false
set_option linter.unusedVariables false
theorem works_law {p : Panel} (hg : PGood p) (l : List Sig) (hn : numsOk l) (hc : ∀ x ∈ l, x.kind = 1 ∨ x.kind = 6) (k : Nat) (d : Gate) (hd : p.doors[k]? = some d) (t : Nat) (ht : (t : Int) < p.limit) : (trueB d.whens (senTo p.sensors.toNat l (t + 1)) = true → shutN p l t k = false) ∧ (trueB d.whens (senTo p.sensors.toNat l (t + 1)) = false → hasB l t 6 k = false → shutN p l t k = true) := by
  have hdm := List.mem_of_getElem? hd
  have hw := hg.wait d hdm
  have hst := hg.stale
  have hpow : powTo l (t + 1) = true := powTo_true (fun x hx => by have := hc x hx; omega) _
  have h2 : ∀ i : Int, hasB l t 2 i = false := fun i => hasB_kind fun x hx => by have := hc x hx; omega
  have h3 : ∀ i : Int, hasB l t 3 i = false := fun i => hasB_kind fun x hx => by have := hc x hx; omega
  have hwk : waitOf p k = d.wait := by simp [waitOf, hd]
  have hage : ∀ s ∈ d.whens, nth (memOf p l (t + 1)).ages s.sensor = 0 ∧ nth (memOf p l (t + 1)).values s.sensor = nth (senTo p.sensors.toNat l (t + 1)) s.sensor := by
    intro s hs
    have hs2 := (hg.lit d hdm s hs).1
    obtain ⟨q1, q2⟩ := mem_tell p l t hn s.sensor.toNat (by omega)
    rw [if_pos ⟨hpow, h2 _⟩] at q1 q2
    exact ⟨q2, q1⟩
  have hstale : d.whens.any (staleB p ⟨true, (memOf p l (t + 1)).values, (memOf p l (t + 1)).ages, [], [], []⟩) = false := by
    simp only [List.any_eq_false, Bool.not_eq_true]
    intro s hs
    have h4 : ¬ (nth (memOf p l (t + 1)).ages s.sensor ≥ p.stale) := by rw [(hage s hs).1]; omega
    simpa only [staleB, decide_eq_false_iff_not] using h4
  have hfail : d.whens.any (failsB ⟨true, (memOf p l (t + 1)).values, (memOf p l (t + 1)).ages, [], [], []⟩) = !trueB d.whens (senTo p.sensors.toNat l (t + 1)) := by
    simp only [trueB, Bool.not_not]
    rw [Bool.eq_iff_iff, List.any_eq_true, List.any_eq_true]
    constructor
    · rintro ⟨s, hs, h⟩
      refine ⟨s, hs, ?_⟩
      simp only [failsB] at h
      rw [(hage s hs).2] at h; exact h
    · rintro ⟨s, hs, h⟩
      refine ⟨s, hs, ?_⟩
      simp only [failsB]
      rw [(hage s hs).2]; exact h
  have hsaid : saidI p l t d = if trueB d.whens (senTo p.sensors.toNat l (t + 1)) = true then 2 else 1 := by
    rw [saidI, if_pos hpow, decideI, hstale, hfail]
    cases trueB d.whens (senTo p.sensors.toNat l (t + 1))
    · rw [if_neg (by simp; omega)]; rfl
    · rw [if_pos (by simp)]; rfl
  have hword : wordI p l t k = saidI p l t d := by rw [wordI, h3, hd]; simp
  constructor
  · intro h
    rw [h] at hsaid
    simp [shutN, doorN, nextD, hword, hsaid]
  · intro h hs
    rw [h] at hsaid
    simp [shutN, doorN, nextD, hword, hsaid, hpow, hs, hwk]
    omega
/-! ### without those who stand in doors -/
def freeL (l : List Sig) : List Sig := l.filter fun x => decide (x.kind ≠ 6)
theorem freeL_mem {l : List Sig} {x : Sig} : x ∈ freeL l ↔ x ∈ l ∧ x.kind ≠ 6 := by simp [freeL]
theorem fold_free {β : Type} (f : β → Sig → β) (hf : ∀ b x, x.kind = 6 → f b x = b) : ∀ (l : List Sig) (b : β), (freeL l).foldl f b = l.foldl f b := by
  intro l
  induction l with
  | nil => intro b; rfl
  | cons x l ih =>
    intro b
    by_cases h : x.kind = 6
    · have : freeL (x :: l) = freeL l := by simp [freeL, h]
      rw [this, ih, List.foldl_cons, hf b x h]
    · have : freeL (x :: l) = x :: freeL l := by simp [freeL, h]
      rw [this, List.foldl_cons, List.foldl_cons, ih]
theorem powTo_free (l : List Sig) (n : Nat) : powTo (freeL l) n = powTo l n := by
  induction n with
  | zero => rfl
  | succ n ih => rw [powTo, powTo, ih]; exact fold_free _ (fun b x h => by simp [powStep, h]) l _
theorem senTo_free (sn : Nat) (l : List Sig) (n : Nat) : senTo sn (freeL l) n = senTo sn l n := by
  induction n with
  | zero => rfl
  | succ n ih => rw [senTo, senTo, ih]; exact fold_free _ (fun b x h => by simp [senStep, h]) l _
theorem hasB_free (l : List Sig) (t k n : Int) (hk : k ≠ 6) : hasB (freeL l) t k n = hasB l t k n := by
  rw [Bool.eq_iff_iff, hasB_iff, hasB_iff]
  constructor
  · rintro ⟨x, hx, h⟩; exact ⟨x, (freeL_mem.1 hx).1, h⟩
  · rintro ⟨x, hx, h1, h2, h3⟩; exact ⟨x, freeL_mem.2 ⟨hx, by omega⟩, h1, h2, h3⟩
theorem numsOk_free {l : List Sig} (h : numsOk l) : numsOk (freeL l) := fun x hx => h x (freeL_mem.1 hx).1
theorem rd_ext {a b : List Int} (hl : a.length = b.length) (h : ∀ i, i < a.length → rd a i = rd b i) : a = b := by
  apply List.ext_getElem hl
  intro i h1 h2
  have := h i h1
  simpa [rd, h1, h2] using this
theorem memOf_free (p : Panel) (l : List Sig) (hn : numsOk l) (n : Nat) : (memOf p (freeL l) n).values = (memOf p l n).values ∧ (memOf p (freeL l) n).ages = (memOf p l n).ages := by
  induction n with
  | zero => exact ⟨rfl, rfl⟩
  | succ n ih =>
    have l1 := memOf_len p l (n + 1)
    have l2 := memOf_len p (freeL l) (n + 1)
    have key := fun i hi => mem_tell p l n hn i hi
    have key2 := fun i hi => mem_tell p (freeL l) n (numsOk_free hn) i hi
    constructor
    · refine rd_ext (by omega) fun i hi => ?_
      rw [(key i (by omega)).1, (key2 i (by omega)).1, powTo_free, hasB_free _ _ _ _ (by decide), senTo_free, ih.1]
    · refine rd_ext (by omega) fun i hi => ?_
      rw [(key i (by omega)).2, (key2 i (by omega)).2, powTo_free, hasB_free _ _ _ _ (by decide), ih.2]
theorem word_free (p : Panel) (l : List Sig) (hn : numsOk l) (n k : Nat) : wordI p (freeL l) n k = wordI p l n k := by
  obtain ⟨h1, h2⟩ := memOf_free p l hn (n + 1)
  simp only [wordI, hasB_free _ _ _ _ (show (3 : Int) ≠ 6 by decide), saidI, powTo_free, h1, h2]
theorem left_free (p : Panel) (l : List Sig) (hn : numsOk l) (k n : Nat) : (doorN p (freeL l) k n).left = (doorN p l k n).left := by
  induction n with
  | zero => rfl
  | succ n ih => simp only [doorN, nextD, powTo_free, word_free p l hn, ih]
theorem stands_law (p : Panel) (l : List Sig) (hn : numsOk l) (t k : Nat) : shutN p l t k = (shutN p (freeL l) t k && (!hasB l t 6 k || (decide (0 < t) && shutN p l (t - 1) k))) := by
  have h6 : hasB (freeL l) t 6 k = false := hasB_kind fun x hx => (freeL_mem.1 hx).2
  have hs : (doorN p l k t).shut = (decide (0 < t) && shutN p l (t - 1) k) := by
    cases t with
    | zero => simp [doorN, door0]
    | succ t => simp [shutN]
  rw [← hs]
  simp only [shutN, doorN, nextD, powTo_free, word_free p l hn, left_free p l hn, h6]
  simp
theorem free_begin {p : Panel} {ticks : Int} {l : List Sig} (h : beginE p ticks l = 0) : beginE p ticks (freeL l) = 0 := by
  obtain ⟨h1, h2, h3, h4⟩ := begin_good h
  refine begin_zero h1 h2 ?_ fun x hx => h4 x (freeL_mem.1 hx).1
  have := List.length_filter_le (fun x : Sig => decide (x.kind ≠ 6)) l
  simp only [freeL]; omega
end Go.Proofs.Ytjnencdmejhmjaa.Eng
