/- CONTROL: plain laws: what the master knows is what a sensor sensed as long ago as its age says; a door whose When holds long enough is open. -/
import Derived.Test.YtjnencdmejhmjaaP6
namespace Go.Proofs.Ytjnencdmejhmjaa.Eng
set_option linter.unusedSimpArgs false
set_option linter.unusedVariables false
theorem knows_law (p : Panel) (l : List Sig) (hn : numsOk l) (i : Nat) (hi : i < p.sensors.toNat) (n : Nat) : ∃ a : Nat, rd (memOf p l n).ages i = a ∧ a ≤ n ∧ rd (memOf p l n).values i = if a < n then rd (senTo p.sensors.toNat l (n - a)) i else 0 := by
  induction n with
  | zero => exact ⟨0, by simp [memOf, rd_rep], Nat.le_refl _, by simp [memOf, rd_rep]⟩
  | succ n ih =>
    obtain ⟨a, h1, h2, h3⟩ := ih
    obtain ⟨q1, q2⟩ := mem_tell p l n hn i hi
    by_cases hc : powTo l (n + 1) = true ∧ hasB l n 2 i = false
    · rw [if_pos hc] at q1 q2
      exact ⟨0, q2, by omega, by rw [q1, if_pos (by omega)]; rfl⟩
    · rw [if_neg hc] at q1 q2
      refine ⟨a + 1, by rw [q2, h1]; omega, by omega, ?_⟩
      rw [q1, h3]
      by_cases ha : a < n
      · rw [if_pos ha, if_pos (by omega), show n + 1 - (a + 1) = n - a by omega]
      · rw [if_neg ha, if_neg (by omega)]
def trueB (ws : List Sense) (vs : List Int) : Bool := !ws.any fun s => (nth vs s.sensor == s.value) == s.neg
theorem trueB_iff {ws : List Sense} {vs : List Int} : trueB ws vs = true ↔ ∀ s ∈ ws, ((nth vs s.sensor == s.value) == s.neg) = false := by
  simp only [trueB, Bool.not_eq_true', List.any_eq_false, Bool.not_eq_true]
def heldTo (sn : Nat) (l : List Sig) (ws : List Sense) : Nat → Nat
  | 0 => 0
  | n + 1 => if trueB ws (senTo sn l (n + 1)) = true then heldTo sn l ws n + 1 else 0
theorem heldTo_le (sn : Nat) (l : List Sig) (ws : List Sense) (n : Nat) : heldTo sn l ws n ≤ n := by
  induction n with
  | zero => exact Nat.le_refl _
  | succ n ih => unfold heldTo; split <;> omega
theorem heldTo_all (sn : Nat) (l : List Sig) (ws : List Sense) : ∀ n s, s < n → n ≤ s + heldTo sn l ws n → trueB ws (senTo sn l (s + 1)) = true := by
  intro n
  induction n with
  | zero => intro s h; omega
  | succ n ih =>
    intro s hs hh
    unfold heldTo at hh
    split at hh
    · rename_i ht
      by_cases e : s = n
      · subst e; exact ht
      · exact ih s (by omega) (by omega)
    · omega
/-- a door that is not told to hold lets go -/
theorem decayN (p : Panel) (l : List Sig) (k : Nat) (f n : Nat) (L : Int) (hL : 0 ≤ (doorN p l k f).left ∧ (doorN p l k f).left ≤ L) (hs : ∀ t, f ≤ t → t < f + n → wordI p l t k ≠ 1) : 0 ≤ (doorN p l k (f + n)).left ∧ (doorN p l k (f + n)).left ≤ max 0 (L - n) ∧ (0 < n → (doorN p l k (f + n)).left = 0 → (doorN p l k (f + n)).shut = false) := by
  induction n with
  | zero => refine ⟨hL.1, ?_, fun h => absurd h (by omega)⟩; rw [Nat.add_zero]; omega
  | succ n ih =>
    have h1 := ih (fun t h1 h2 => hs t h1 (by omega))
    have h0 := hs (f + n) (by omega) (by omega)
    rw [show f + (n + 1) = f + n + 1 by omega, doorN]
    have := nextD_dec (d := doorN p l k (f + n)) (w := waitOf p k) (pw := powTo l (f + n + 1)) (st := hasB l ((f + n : Nat) : Int) 6 k) h1.1 h0
    refine ⟨this.1, by omega, fun _ => this.2.2⟩
theorem opens_law {p : Panel} (hg : PGood p) (l : List Sig) (hn : numsOk l) (k : Nat) (d : Gate) (hd : p.doors[k]? = some d) (t m : Nat) (hm : (m : Int) = p.stale + d.wait - 1) (hh : m ≤ heldTo p.sensors.toNat l d.whens (t + 1)) : shutN p l t k = false := by
  have hdm := List.mem_of_getElem? hd
  have hw := hg.wait d hdm
  have hst := hg.stale
  have hsen := hg.sen
  have hle := heldTo_le p.sensors.toNat l d.whens (t + 1)
  have hall := heldTo_all p.sensors.toNat l d.whens (t + 1)
  obtain ⟨W, hW⟩ : ∃ W : Nat, d.wait = W := ⟨d.wait.toNat, by omega⟩
  obtain ⟨S, hS⟩ : ∃ S : Nat, p.stale = S := ⟨p.stale.toNat, by omega⟩
  have hwk : waitOf p k = W := by simp [waitOf, hd, hW]
  have hword : ∀ s, t + 1 - W ≤ s → s < t + 1 - W + W → wordI p l s k ≠ 1 := by
    intro s h1 h2
    unfold wordI
    split
    · decide
    · rw [hd]
      dsimp only
      unfold saidI
      split
      · rw [decideI]
        split
        · decide
        · rename_i hc
          exfalso
          apply hc
          by_cases hstl : d.whens.any (staleB p ⟨true, (memOf p l (s + 1)).values, (memOf p l (s + 1)).ages, [], [], []⟩) = true
          · exact .inr (.inl hstl)
          · refine .inr (.inr ?_)
            rw [Bool.not_eq_true] at hstl
            simp only [List.any_eq_false, Bool.not_eq_true] at hstl ⊢
            intro x hx
            have hx2 := (hg.lit d hdm x hx).1
            have h3 := hstl x hx
            simp only [staleB, decide_eq_false_iff_not] at h3
            obtain ⟨a, a1, a2, a3⟩ := knows_law p l hn x.sensor.toNat (by omega) (s + 1)
            have a4 : nth (memOf p l (s + 1)).ages x.sensor = a := a1
            have a5 : nth (memOf p l (s + 1)).values x.sensor = _ := a3
            rw [a4] at h3
            rw [if_pos (by omega)] at a5
            simp only [failsB]
            rw [a5]
            have h4 := trueB_iff.1 (hall (s - a) (by omega) (by omega)) x hx
            rw [show s - a + 1 = s + 1 - a by omega] at h4
            exact h4
      · decide
  have h3 := doorN_left p hg.wait l k (t + 1 - W)
  have := decayN p l k (t + 1 - W) W (waitOf p k) h3 hword
  rw [show t + 1 - W + W = t + 1 by omega] at this
  exact this.2.2 (by omega) (by omega)
end Go.Proofs.Ytjnencdmejhmjaa.Eng
