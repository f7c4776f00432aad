/- CONTROL: plain law of the play that keeps a door shut as long as can be. -/
import Derived.Test.YtjnencdmejhmjaaP3
namespace Go.Proofs.Ytjnencdmejhmjaa.Eng
set_option linter.unusedSimpArgs false
set_option linter.unusedVariables false
structure PGood (p : Panel) : Prop where
  sen : 0 ≤ p.sensors ∧ p.sensors ≤ 12
  len : p.doors.length ≤ 8
  stale : 1 ≤ p.stale ∧ p.stale ≤ 50
  lim : 1 ≤ p.limit ∧ p.limit ≤ 1000
  wait : ∀ g ∈ p.doors, 1 ≤ g.wait ∧ g.wait ≤ 50
  lits : ∀ g ∈ p.doors, g.whens.length ≤ 8
  lit : ∀ g ∈ p.doors, ∀ s ∈ g.whens, (0 ≤ s.sensor ∧ s.sensor < p.sensors) ∧ 0 ≤ s.value ∧ s.value ≤ 9
theorem pgood {p : Panel} (h : badPanel p = false) : PGood p := by
  simp only [badPanel, Bool.or_eq_false_iff, Bool.not_eq_false', inR_iff, decide_eq_false_iff_not, List.any_eq_false] at h
  obtain ⟨⟨⟨⟨h1, h2⟩, h3⟩, h4⟩, h5⟩ := h
  have h6 : ∀ g ∈ p.doors, ((1 ≤ g.wait ∧ g.wait ≤ 50) ∧ ¬ (g.whens.length : Int) > 8) ∧ ∀ x ∈ g.whens, ¬ badSense p.sensors x = true := by
    intro g hg
    have := h5 g hg
    simpa only [badGate, Bool.not_eq_true, Bool.or_eq_false_iff, Bool.not_eq_false', inR_iff, decide_eq_false_iff_not, List.any_eq_false] using this
  refine ⟨h1, by omega, h3, h4, fun g hg => (h6 g hg).1.1, fun g hg => by have := (h6 g hg).1.2; omega, fun g hg s hs => ?_⟩
  have := (h6 g hg).2 s hs
  simp only [badSense, Bool.not_eq_true, Bool.or_eq_false_iff, Bool.not_eq_false', inR_iff] at this
  omega
theorem powTo_true {l : List Sig} (h : ∀ x ∈ l, x.kind ≠ 4 ∧ x.kind ≠ 5) (n : Nat) : powTo l n = true := by
  have key : ∀ (t : Int) (l : List Sig) (b : Bool), (∀ x ∈ l, x.kind ≠ 4 ∧ x.kind ≠ 5) → l.foldl (powStep t) b = b := by
    intro t l
    induction l with
    | nil => intro b _; rfl
    | cons x l ih =>
      intro b h
      rw [List.foldl_cons, ih _ (fun y hy => h y (by simp [hy]))]
      have := h x (by simp)
      simp [powStep, this]
  induction n with
  | zero => rfl
  | succ n ih => rw [powTo, key _ _ _ h, ih]
theorem hasB_kind {l : List Sig} {t k n : Int} (h : ∀ x ∈ l, x.kind ≠ k) : hasB l t k n = false := by
  simp only [hasB, List.any_eq_false, Bool.and_eq_true, decide_eq_true_eq]
  rintro x hx ⟨⟨_, e⟩, _⟩
  exact h x hx e
theorem hasB_iff {l : List Sig} {t k n : Int} : hasB l t k n = true ↔ ∃ x ∈ l, x.time = t ∧ x.kind = k ∧ x.number = n := by
  simp only [hasB, List.any_eq_true, Bool.and_eq_true, decide_eq_true_eq, and_assoc]
/-- the losses of a door from a tick on -/
def lateL (f k : Int) (n : Nat) : List Sig := (List.range n).map fun j => ⟨f + (j : Nat), 3, k, 0⟩
theorem lateL_succ (f k : Int) (n : Nat) : lateL f k (n + 1) = lateL f k n ++ [⟨f + (n : Nat), 3, k, 0⟩] := by simp [lateL, List.range_succ]
theorem lateL_len (f k : Int) (n : Nat) : (lateL f k n).length = n := by simp [lateL]
theorem lateL_mem {f k : Int} {n : Nat} {x : Sig} (h : x ∈ lateL f k n) : x.kind = 3 ∧ x.number = k ∧ x.value = 0 ∧ f ≤ x.time ∧ x.time < f + n := by
  simp only [lateL, List.mem_map, List.mem_range] at h
  obtain ⟨j, hj, rfl⟩ := h
  exact ⟨rfl, rfl, rfl, by dsimp only; omega, by dsimp only; omega⟩
def litV (s : Sense) : Int := if s.neg = true then s.value else (s.value + 1) % 10
def ownL (p : Panel) (k : Int) (s : Sense) (n : Nat) : List Sig := ⟨0, 1, s.sensor, litV s⟩ :: lateL p.limit k n
theorem own_senses (p : Panel) (k : Int) (s : Sense) (n : Nat) (m : Nat) : senTo p.sensors.toNat (ownL p k s n) (m + 1) = (List.replicate p.sensors.toNat 0).set s.sensor.toNat (litV s) := by
  have key : ∀ (t : Int) (l : List Sig) (b : List Int), (∀ x ∈ l, x.kind = 3) → l.foldl (senStep t) b = b := by
    intro t l
    induction l with
    | nil => intro b _; rfl
    | cons x l ih =>
      intro b h
      rw [List.foldl_cons, ih _ (fun y hy => h y (by simp [hy]))]
      have := h x (by simp)
      simp [senStep, this]
  have k2 : ∀ t b, (lateL p.limit k n).foldl (senStep t) b = b := fun t b => key t _ b fun x hx => (lateL_mem hx).1
  induction m with
  | zero =>
    rw [senTo, ownL, List.foldl_cons, k2]
    simp [senStep, senTo]
  | succ m ih =>
    rw [senTo, ih, ownL, List.foldl_cons, k2]
    unfold senStep
    rw [if_neg]
    dsimp only
    omega
theorem own_play {p : Panel} (hb : badPanel p = false) {k : Nat} {d : Gate} (hd : p.doors[k]? = some d) {s : Sense} (hs : d.whens[0]? = some s) (n : Nat) (hn : (n : Int) = d.wait - 1) (h60 : p.limit + d.wait - 1 ≤ 60) : beginE p (p.limit + d.wait - 1) (ownL p k s n) = 0 ∧ (doorIn p (ticksTo p (ownL p k s n) (p.limit + d.wait - 1).toNat) (p.limit + d.wait - 1).toNat k).shut = true := by
  have hg := pgood hb
  have hdm := List.mem_of_getElem? hd
  have hsm := List.mem_of_getElem? hs
  have hk : k < p.doors.length := (List.getElem?_eq_some_iff.1 hd).1
  have hw := hg.wait d hdm
  obtain ⟨⟨l1, l2⟩, l3, l4⟩ := hg.lit d hdm s hsm
  have hlim := hg.lim
  have hsen := hg.sen
  have hst := hg.stale
  have hv : 0 ≤ litV s ∧ litV s ≤ 9 := by
    unfold litV
    split <;> omega
  have hrr : ∀ x ∈ ownL p k s n, rightB p (p.limit + d.wait - 1) x = true := by
    intro x hx
    rcases List.mem_cons.1 hx with rfl | hx
    · simp [rightB, inR]; omega
    · obtain ⟨q1, q2, q3, q4, q5⟩ := lateL_mem hx
      simp [rightB, inR, q1, q2, q3]; omega
  have hE := begin_zero hb (ticks := p.limit + d.wait - 1) (by omega) (by rw [ownL, List.length_cons, lateL_len]; omega) hrr
  refine ⟨hE, ?_⟩
  obtain ⟨F, hF⟩ : ∃ F : Nat, p.limit + d.wait - 1 = F := ⟨(p.limit + d.wait - 1).toNat, by omega⟩
  rw [hF, Int.toNat_natCast]
  have hnn := right_nums hrr
  have hpow : ∀ m, powTo (ownL p k s n) m = true := powTo_true fun x hx => by
    rcases List.mem_cons.1 hx with rfl | hx
    · exact ⟨by dsimp only; decide, by dsimp only; decide⟩
    · have := (lateL_mem hx).1; omega
  have hkind : ∀ (q : Int), q ≠ 1 → q ≠ 3 → ∀ x ∈ ownL p k s n, x.kind ≠ q := fun q h1 h3 x hx => by
    rcases List.mem_cons.1 hx with rfl | hx
    · dsimp only; omega
    · have := (lateL_mem hx).1; omega
  have hag : ∀ m i, i < p.sensors.toNat → rd (memOf p (ownL p k s n) (m + 1)).ages i = 0 ∧ rd (memOf p (ownL p k s n) (m + 1)).values i = rd ((List.replicate p.sensors.toNat 0).set s.sensor.toNat (litV s)) i := by
    intro m i hi
    obtain ⟨q1, q2⟩ := mem_tell p (ownL p k s n) m hnn i hi
    rw [if_pos ⟨hpow _, hasB_kind (hkind 2 (by omega) (by omega))⟩] at q1 q2
    rw [q1, q2, own_senses]
    exact ⟨rfl, rfl⟩
  have hsaid : ∀ t : Nat, (t : Int) < p.limit → saidI p (ownL p k s n) t d = 1 := by
    intro t ht
    rw [saidI, if_pos (hpow _), decideI, if_neg]
    rw [not_or, not_or, Bool.not_eq_true, List.any_eq_false, Bool.not_eq_false]
    refine ⟨by omega, fun x hx => ?_, ?_⟩
    · have h1 := (hg.lit d hdm x hx).1
      have h2 := (hag t x.sensor.toNat (by omega)).1
      have h3 : nth (memOf p (ownL p k s n) (t + 1)).ages x.sensor = 0 := h2
      have h4 : ¬ (nth (memOf p (ownL p k s n) (t + 1)).ages x.sensor ≥ p.stale) := by omega
      simpa only [staleB, decide_eq_true_eq] using h4
    · refine List.any_eq_true.2 ⟨s, hsm, ?_⟩
      have h2 := (hag t s.sensor.toNat (by omega)).2
      have h3 : nth (memOf p (ownL p k s n) (t + 1)).values s.sensor = litV s := by
        refine Eq.trans h2 ?_
        rw [rd_set, if_pos ⟨rfl, by simp; omega⟩]
      simp only [failsB, h3]
      unfold litV
      cases hneg : s.neg
      · simp; omega
      · simp
  have hmis : ∀ t : Nat, hasB (ownL p k s n) t 3 k = decide (p.limit ≤ t ∧ (t : Int) < p.limit + n) := by
    intro t
    rw [Bool.eq_iff_iff, hasB_iff, decide_eq_true_eq]
    constructor
    · rintro ⟨x, hx, h1, h2, _⟩
      rcases List.mem_cons.1 hx with rfl | hx
      · simp at h2
      · obtain ⟨_, _, _, q4, q5⟩ := lateL_mem hx; omega
    · rintro ⟨h1, h2⟩
      refine ⟨⟨(t : Int), 3, k, 0⟩, List.mem_cons_of_mem _ ?_, rfl, rfl, rfl⟩
      simp only [lateL, List.mem_map, List.mem_range]
      exact ⟨((t : Int) - p.limit).toNat, by omega, by simp; omega⟩
  have hsto : ∀ t : Nat, hasB (ownL p k s n) t 6 k = false := fun t => hasB_kind (hkind 6 (by omega) (by omega))
  obtain ⟨L, hL⟩ : ∃ L : Nat, p.limit = L := ⟨p.limit.toNat, by omega⟩
  have key : ∀ j : Nat, (j : Int) < d.wait → doorIn p (ticksTo p (ownL p k s n) F) (L + j) k = ⟨d.wait - j, true⟩ := by
    intro j
    induction j with
    | zero =>
      intro _
      rw [show L + 0 = (L - 1) + 1 by omega, doorIn_next p _ F (L - 1) (by omega) hnn k d hd, hpow, hsto, hmis, hsaid (L - 1) (by omega), if_neg (by simp; omega)]
      simp [nextD]; omega
    | succ j ih =>
      intro hj
      rw [show L + (j + 1) = L + j + 1 by omega, doorIn_next p _ F (L + j) (by omega) hnn k d hd, hpow, hsto, hmis, if_pos (by simp; omega), ih (by omega)]
      simp [nextD]; omega
  have := key n (by omega)
  rw [show F = L + n by omega]
  rw [show F = L + n by omega] at this
  rw [this]
/-! which door -/
def doorTo (p : Panel) : Nat → Int
  | 0 => -1
  | n + 1 => match p.doors[n]? with
    | some g => if (g.whens.length : Int) > 0 ∧ (doorTo p n < 0 ∨ g.wait > waitOf p (doorTo p n).toNat) then n else doorTo p n
    | none => doorTo p n
theorem doorTo_is {p : Panel} (hw : GoodW p) (n : Nat) (hn : n ≤ p.doors.length) : (doorTo p n = -1 ∧ waitTo p n = 0) ∨ ∃ (k : Nat) (d : Gate), doorTo p n = k ∧ k < n ∧ p.doors[k]? = some d ∧ d.whens ≠ [] ∧ d.wait = waitTo p n := by
  induction n with
  | zero => exact .inl ⟨rfl, rfl⟩
  | succ n ih =>
    have hg : p.doors[n]? = some p.doors[n] := by simp
    generalize p.doors[n] = g at hg
    have hgw := (hw.1 g (List.mem_of_getElem? hg))
    simp only [doorTo, waitTo, hg]
    by_cases hl : (g.whens.length : Int) > 0
    · have hne : g.whens ≠ [] := by intro e; rw [e] at hl; simp at hl
      rcases ih (by omega) with ⟨h1, h2⟩ | ⟨k, d, h1, h2, h3, h4, h5⟩
      · rw [h1, h2]
        simp only [hl, true_and, if_true]
        rw [if_pos (.inl (by omega)), if_pos (by omega)]
        exact .inr ⟨n, g, rfl, by omega, hg, hne, rfl⟩
      · rw [h1]
        have e : waitOf p (Int.toNat (k : Int)) = d.wait := by simp [waitOf, h3]
        rw [e, h5]
        simp only [hl, true_and, if_true]
        by_cases hc : g.wait > waitTo p n
        · rw [if_pos (.inr hc), if_pos hc]
          exact .inr ⟨n, g, rfl, by omega, hg, hne, rfl⟩
        · rw [if_neg (by omega), if_neg hc]
          exact .inr ⟨k, d, rfl, by omega, h3, h4, h5⟩
    · simp only [hl, false_and, if_false]
      rcases ih (by omega) with h | ⟨k, d, h1, h2, h3, h4, h5⟩
      · exact .inl h
      · exact .inr ⟨k, d, h1, by omega, h3, h4, h5⟩
end Go.Proofs.Ytjnencdmejhmjaa.Eng
