/- CONTROL: plain laws: what Safe looks for; a play is safe. -/
import Derived.Test.YtjnencdmejhmjaaP8
namespace Go.Proofs.Ytjnencdmejhmjaa.Eng
set_option linter.unusedSimpArgs false
set_option linter.unusedVariables false
/-! ### the first of all -/
def firstT (bad : Nat → Nat → Bool) (T n : Nat) : Option (Nat × Nat) := (List.range T).findSome? fun t => ((List.range n).find? (bad t)).map fun d => (t, d)
theorem find_range {f : Nat → Bool} {n k : Nat} (hk : k < n) (h1 : ∀ i, i < k → f i = false) (h2 : f k = true) : (List.range n).find? f = some k := by
  rw [List.find?_range_eq_some]
  exact ⟨h2, List.mem_range.2 hk, fun j hj => by simp [h1 j hj]⟩
theorem find_none {f : Nat → Bool} {n : Nat} (h : ∀ i, i < n → f i = false) : (List.range n).find? f = none := by
  rw [List.find?_range_eq_none]
  intro i hi; simp [h i hi]
theorem findSome_range {β : Type} {g : Nat → Option β} : ∀ (n k : Nat) (b : β), k < n → (∀ i, i < k → g i = none) → g k = some b → (List.range n).findSome? g = some b := by
  intro n
  induction n with
  | zero => intro k b h; omega
  | succ n ih =>
    intro k b hk h1 h2
    rw [List.range_succ, List.findSome?_append]
    by_cases e : k < n
    · rw [ih k b e h1 h2]; rfl
    · have : k = n := by omega
      subst this
      have h3 : (List.range k).findSome? g = none := by
        rw [List.findSome?_eq_none_iff]
        intro i hi; exact h1 i (List.mem_range.1 hi)
      rw [h3]
      simp [h2]
theorem firstT_some {bad : Nat → Nat → Bool} {T n t d : Nat} (ht : t < T) (hd : d < n) (h1 : ∀ s, s < t → ∀ k, k < n → bad s k = false) (h2 : ∀ k, k < d → bad t k = false) (h3 : bad t d = true) : firstT bad T n = some (t, d) := by
  refine findSome_range T t (t, d) ht (fun s hs => ?_) ?_
  · rw [find_none (h1 s hs)]; rfl
  · rw [find_range hd h2 h3]; rfl
theorem firstT_none {bad : Nat → Nat → Bool} {T n : Nat} (h : ∀ s, s < T → ∀ k, k < n → bad s k = false) : firstT bad T n = none := by
  unfold firstT
  rw [List.findSome?_eq_none_iff]
  intro s hs
  rw [find_none (h s (List.mem_range.1 hs))]; rfl
/-! ### what Safe looks for -/
def saidK (p : Panel) (l : List Sig) (t k : Nat) : Int := match p.doors[k]? with
  | some d => saidI p l t d
  | none => 0
/-- has a door been told to hold in one of the last ticks -/
def toldB (p : Panel) (l : List Sig) (t k : Nat) : Bool := (List.range (t + 1)).any fun s => decide ((t : Int) - waitOf p k + 1 ≤ s) && (saidK p l s k == 1)
def badAt (p : Panel) (l : List Sig) (rows : List Int) (t k : Nat) : Bool := (rd rows t).toNat.testBit k && (!powTo l (t + 1) || decide (freesI p ≤ t) || !toldB p l t k)
def rowOkB (p : Panel) (n : Int) : Bool := inR n 0 (((2 ^ p.doors.length : Nat) : Int) - 1)
def safeV (p : Panel) (ticks : Int) (l : List Sig) (rows : List Int) : Int × Int × Int := if beginE p ticks l = 0 then (if decide ((rows.length : Int) ≠ ticks) || rows.any (fun n => !rowOkB p n) then (0, 0, 1) else match firstT (badAt p l rows) rows.length p.doors.length with
  | some (t, d) => ((t : Int), (d : Int), 0)
  | none => (-1, -1, 0)) else (0, 0, beginE p ticks l)
/-- a door that is shut has been told to hold not long ago -/
theorem shut_told {p : Panel} (hg : PGood p) (l : List Sig) (k : Nat) (hk : k < p.doors.length) (t : Nat) (hs : shutN p l t k = true) : powTo l (t + 1) = true ∧ toldB p l t k = true := by
  have hd : p.doors[k]? = some p.doors[k] := by simp
  generalize p.doors[k] = d at hd
  have hw := hg.wait d (List.mem_of_getElem? hd)
  have hwk : waitOf p k = d.wait := by simp [waitOf, hd]
  constructor
  · simp only [shutN, doorN, nextD, Bool.and_eq_true] at hs
    exact hs.1.1
  · cases ht : toldB p l t k
    · exfalso
      simp only [toldB, List.any_eq_false, Bool.and_eq_true, decide_eq_true_eq, beq_iff_eq, not_and] at ht
      obtain ⟨W, hW⟩ : ∃ W : Nat, d.wait = W := ⟨d.wait.toNat, by omega⟩
      have hword : ∀ s, s ≤ t → t + 1 ≤ s + W → wordI p l s k ≠ 1 := by
        intro s hst h1
        have h3 := ht s (List.mem_range.2 (by omega)) (by rw [hwk]; omega)
        simp only [saidK, hd] at h3
        unfold wordI
        split
        · decide
        · rw [hd]; exact h3
      by_cases hWt : W ≤ t + 1
      · have h3 := doorN_left p hg.wait l k (t + 1 - W)
        have := decayN p l k (t + 1 - W) W (waitOf p k) h3 (fun s h1 h2 => hword s (by omega) (by omega))
        rw [show t + 1 - W + W = t + 1 by omega] at this
        have h4 := this.2.2 (by omega) (by rw [hwk] at this; omega)
        rw [shutN, h4] at hs; cases hs
      · have h0 : 0 ≤ (doorN p l k 0).left ∧ (doorN p l k 0).left ≤ 0 := by simp [doorN, door0]
        have := decayN p l k 0 (t + 1) 0 h0 (fun s h1 h2 => hword s (by omega) (by omega))
        rw [Nat.zero_add] at this
        have h4 := this.2.2 (by omega) (by omega)
        rw [shutN, h4] at hs; cases hs
    · rfl
theorem late_open {p : Panel} {l : List Sig} {T : Nat} (hE : beginE p T l = 0) (t k : Nat) (ht : t < T) (hk : k < p.doors.length) (hf : freesI p ≤ t) : shutN p l t k = false := by
  obtain ⟨hb, _, _, hr⟩ := begin_good hE
  have := time_open p (goodW_of hb) l (right_nums hr) T t ht hf k hk
  rw [doorIn_N p l T (right_nums hr) k hk (t + 1) (by omega)] at this
  exact this
theorem play_safe {p : Panel} {l : List Sig} {T : Nat} (hE : beginE p T l = 0) : safeV p T l ((playR p T l).map fun n : Nat => (n : Int)) = (-1, -1, 0) := by
  obtain ⟨hl, hb⟩ := play_rows hE
  have hg := pgood (begin_good hE).1
  generalize playR p T l = R at hl hb
  rw [safeV, if_pos hE, if_neg, firstT_none]
  · intro t ht k hk
    rw [List.length_map, hl] at ht
    obtain ⟨r, r1, r2, r3⟩ := hb t ht
    have e : rd (R.map fun n : Nat => (n : Int)) t = r := by simp [rd, r1]
    rw [badAt, e, Int.toNat_natCast, r3 k hk]
    cases hs : shutN p l t k
    · rfl
    · obtain ⟨q1, q2⟩ := shut_told hg l k hk t hs
      rw [q1, q2]
      by_cases hf : freesI p ≤ t
      · rw [late_open hE t k ht hk hf] at hs; cases hs
      · simp [hf]
  · rw [Bool.not_eq_true, Bool.or_eq_false_iff]
    refine ⟨by simp [hl], ?_⟩
    simp only [List.any_eq_false, Bool.not_eq_true', Bool.not_eq_false]
    intro x hx
    obtain ⟨r, hr, rfl⟩ := List.mem_map.1 hx
    obtain ⟨t, ht, hrt⟩ := List.getElem_of_mem hr
    obtain ⟨q, q1, q2, _⟩ := hb t (by omega)
    have : q = r := by
      rw [List.getElem?_eq_getElem ht, hrt] at q1
      injection q1 with q1; exact q1.symm
    subst this
    rw [rowOkB, inR_iff]
    have : ((q : Nat) : Int) < ((2 ^ p.doors.length : Nat) : Int) := Int.ofNat_lt.2 q2
    omega
end Go.Proofs.Ytjnencdmejhmjaa.Eng
