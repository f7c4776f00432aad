/- CONTROL: plain law: the specification's rows are the play's. -/
import Derived.Test.YtjnencdmejhmjaaP5
namespace Go.Proofs.Ytjnencdmejhmjaa.Eng
set_option linter.unusedSimpArgs false
set_option linter.unusedVariables false
def rowTo (sh : List Bool) : Nat → Nat
  | 0 => 0
  | n + 1 => if rdB sh n = true then rowTo sh n + 2 ^ n else rowTo sh n
theorem rowTo_bit (sh : List Bool) (k n : Nat) : rowTo sh n < 2 ^ n ∧ (rowTo sh n).testBit k = (decide (k < n) && rdB sh k) := by
  induction n with
  | zero => simp [rowTo]
  | succ n ih =>
    obtain ⟨h1, h2⟩ := ih
    have hpow : 2 ^ (n + 1) = 2 ^ n + 2 ^ n := by rw [Nat.pow_succ]; omega
    simp only [rowTo]
    split
    · rename_i hs
      refine ⟨by omega, ?_⟩
      rw [Nat.add_comm]
      by_cases hjn : k = n
      · subst hjn
        rw [Nat.testBit_two_pow_add_eq, Nat.testBit_lt_two_pow h1]
        simp [hs]
      · by_cases hlt : k < n
        · rw [Nat.testBit_two_pow_add_gt hlt, h2]
          simp [hlt, show k < n + 1 by omega]
        · rw [Nat.testBit_lt_two_pow (Nat.lt_of_lt_of_le (by omega : 2 ^ n + rowTo sh n < 2 ^ (n + 1)) (Nat.pow_le_pow_right (by omega) (by omega)))]
          simp; omega
    · rename_i hs
      refine ⟨by omega, ?_⟩
      rw [h2]
      by_cases hjn : k = n
      · subst hjn; simp [hs]
      · by_cases hlt : k < n
        · simp [hlt, show k < n + 1 by omega]
        · simp [hlt]; omega
def rowF (f : Frame) : Nat := rowTo f.shut f.shut.length
def rplayR (p : Panel) (ticks : Int) (l : List Sig) : List Nat := if beginE p ticks l = 0 then (framesTo p l ticks.toNat).map rowF else []
/-- what is known of the rows of a play -/
theorem play_rows {p : Panel} {T : Nat} {l : List Sig} (h : beginE p T l = 0) : (playR p T l).length = T ∧ ∀ t, t < T → ∃ r, (playR p T l)[t]? = some r ∧ r < 2 ^ p.doors.length ∧ ∀ k, k < p.doors.length → r.testBit k = shutN p l t k := by
  obtain ⟨h1, h2⟩ := play_bits h
  refine ⟨h1, fun t ht => ?_⟩
  obtain ⟨r, q1, q2, q3⟩ := h2 t ht
  refine ⟨r, q1, q2, fun k hk => ?_⟩
  rw [q3 k hk, doorIn_N p l T (right_nums (begin_good h).2.2.2) k hk (t + 1) (by omega)]
  rfl
theorem rplay_eq (p : Panel) (ticks : Int) (l : List Sig) : rplayR p ticks l = playR p ticks l := by
  by_cases h : beginE p ticks l = 0
  · obtain ⟨T, rfl⟩ : ∃ T : Nat, ticks = T := ⟨ticks.toNat, by have := (begin_good h).2.1; omega⟩
    obtain ⟨h1, h2⟩ := play_rows h
    rw [rplayR, if_pos h, Int.toNat_natCast]
    apply List.ext_getElem?
    intro t
    by_cases ht : t < T
    · obtain ⟨r, q1, q2, q3⟩ := h2 t ht
      rw [q1, List.getElem?_map, framesTo_get p l ht]
      simp only [Option.map_some, Option.some.injEq]
      have hsl : (frameAt p l t).shut.length = p.doors.length := by simp [frameAt]
      apply Nat.eq_of_testBit_eq
      intro k
      rw [rowF, hsl, (rowTo_bit _ k _).2]
      by_cases hk : k < p.doors.length
      · rw [q3 k hk]
        have := frame_shut p l t k hk
        simp [hk, rdB, this]
      · rw [Nat.testBit_lt_two_pow (Nat.lt_of_lt_of_le q2 (Nat.pow_le_pow_right (by omega) (by omega)))]
        simp [hk]
    · rw [List.getElem?_eq_none (by simp [framesTo_len]; omega), List.getElem?_eq_none (by omega)]
  · rw [rplayR, if_neg h, playR, if_neg h]
end Go.Proofs.Ytjnencdmejhmjaa.Eng
