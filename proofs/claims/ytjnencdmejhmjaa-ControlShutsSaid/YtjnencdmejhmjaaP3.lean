/- CONTROL: plain law of the time from which on all doors are open. -/
import Derived.Test.YtjnencdmejhmjaaP2
namespace Go.Proofs.Ytjnencdmejhmjaa.Eng
set_option linter.unusedSimpArgs false
set_option linter.unusedVariables false
theorem nextD_dec {d : Door} {w : Int} {pw st : Bool} {wd : Int} (hd : 0 ≤ d.left) (hw : wd ≠ 1) : 0 ≤ (nextD d w pw st wd).left ∧ (nextD d w pw st wd).left ≤ max 0 (d.left - 1) ∧ ((nextD d w pw st wd).left = 0 → (nextD d w pw st wd).shut = false) := by
  simp only [nextD, hw, if_false]
  refine ⟨?_, ?_, fun h => ?_⟩
  · repeat' split
    all_goals omega
  · repeat' split
    all_goals omega
  · rw [h]; simp
/-- a door that is not told to hold lets go -/
theorem decay (p : Panel) (ts : List Tick) (k : Nat) (hk : k < p.doors.length) (f n : Nat) (L : Int) (hL : 0 ≤ (doorIn p ts f k).left ∧ (doorIn p ts f k).left ≤ L) (hl : f + n ≤ ts.length) (hs : ∀ t x, f ≤ t → t < f + n → ts[t]? = some x → rd x.heard k ≠ 1) : 0 ≤ (doorIn p ts (f + n) k).left ∧ (doorIn p ts (f + n) k).left ≤ max 0 (L - n) ∧ (0 < n → (doorIn p ts (f + n) k).left = 0 → (doorIn p ts (f + n) k).shut = false) := by
  induction n with
  | zero => refine ⟨hL.1, ?_, fun h => absurd h (by omega)⟩; rw [Nat.add_zero]; omega
  | succ n ih =>
    have h1 := ih (by omega) (fun t x h1 h2 => hs t x h1 (by omega))
    have hx : ts[f + n]? = some ts[f + n] := by simp
    have h0 := hs (f + n) _ (by omega) (by omega) hx
    rw [show f + (n + 1) = f + n + 1 by omega, doorIn_step p ts (f + n) k hk _ hx]
    have := nextD_dec (d := doorIn p ts (f + n) k) (w := waitOf p k) (pw := ts[f + n].power) (st := rdB ts[f + n].stood k) h1.1 h0
    refine ⟨this.1, by omega, fun _ => this.2.2⟩
theorem waitTo_ge (p : Panel) (k : Nat) (d : Gate) (hd : p.doors[k]? = some d) (hw : d.whens ≠ []) : ∀ n, k < n → d.wait ≤ waitTo p n := by
  intro n
  induction n with
  | zero => intro h; omega
  | succ n ih =>
    intro h
    have hp : (d.whens.length : Int) > 0 := by
      have := List.length_pos_iff.2 hw; omega
    unfold waitTo
    by_cases e : k = n
    · subst e
      rw [hd]; dsimp only; rw [if_pos hp]
      split <;> omega
    · have h2 := ih (by omega)
      split
      · split
        · split <;> omega
        · exact h2
      · exact h2
theorem said_late (p : Panel) (l : List Sig) (t : Nat) (d : Gate) (h : p.limit ≤ t ∨ d.whens = []) : saidI p l t d ≠ 1 := by
  unfold saidI
  split
  · unfold decideI
    rw [if_pos]
    · decide
    · rcases h with h | h
      · exact .inl h
      · rw [h]; exact .inr (.inr rfl)
  · decide
/-- from Frees on every door is open -/
theorem time_open (p : Panel) (hw : GoodW p) (l : List Sig) (hn : numsOk l) (T t : Nat) (ht : t < T) (hf : freesI p ≤ t) (k : Nat) (hk : k < p.doors.length) : (doorIn p (ticksTo p l T) (t + 1) k).shut = false := by
  have hd : p.doors[k]? = some p.doors[k] := by simp
  generalize p.doors[k] = d at hd
  have hlen := ticksTo_len p l T
  have hwk : waitOf p k = d.wait := by simp [waitOf, hd]
  have hear : ∀ f : Nat, (p.limit ≤ f ∨ d.whens = []) → ∀ (s : Nat) (x : Tick), f ≤ s → (ticksTo p l T)[s]? = some x → rd x.heard k ≠ 1 := by
    intro f hf s x hs hx
    have hsT : s < T := by rw [← hlen]; exact (List.getElem?_eq_some_iff.1 hx).1
    rw [ticksTo_get p l T s hsT] at hx
    injection hx with hx; subst hx
    rw [(tick_at p l s hn k d hd).2.1]
    split
    · decide
    · exact said_late p l s d (by rcases hf with h | h; · left; omega
                                  · exact .inr h)
  by_cases hwn : d.whens = []
  · have h0 : 0 ≤ (doorIn p (ticksTo p l T) 0 k).left ∧ (doorIn p (ticksTo p l T) 0 k).left ≤ 0 := by simp [doorIn, outTo, doorAt, hk, door0]
    have := decay p (ticksTo p l T) k hk 0 (t + 1) 0 h0 (by omega) (fun s x h1 _ hx => hear 0 (.inr hwn) s x h1 hx)
    rw [Nat.zero_add] at this
    exact this.2.2 (by omega) (by omega)
  · have h1 := waitTo_ge p k d hd hwn p.doors.length hk
    have h2 := (hw.1 d (List.mem_of_getElem? hd)).1
    have hfr : freesI p = p.limit + waitTo p p.doors.length - 1 := by rw [freesI, if_neg (by omega)]
    obtain ⟨L, hL⟩ : ∃ L : Nat, p.limit = L := ⟨p.limit.toNat, by have := hw.2.1; omega⟩
    have h3 := doorIn_left p hw (ticksTo p l T) k hk L (by omega)
    have := decay p (ticksTo p l T) k hk L (t + 1 - L) (waitOf p k) h3 (by omega) (fun s x h1 _ hx => hear L (.inl (by omega)) s x h1 hx)
    rw [show L + (t + 1 - L) = t + 1 by omega] at this
    exact this.2.2 (by omega) (by omega)
theorem right_nums {p : Panel} {T : Int} {l : List Sig} (h : ∀ x ∈ l, rightB p T x = true) : numsOk l := by
  intro x hx hk
  obtain ⟨h1, h2⟩ := right_num (h x hx)
  rcases hk with e | e | e | e
  · exact (h1 (.inl e)).1
  · exact (h1 (.inr e)).1
  · exact (h2 (.inl e)).1
  · exact (h2 (.inr e)).1
/-- a play without error: what it holds -/
theorem begin_good {p : Panel} {ticks : Int} {l : List Sig} (h : beginE p ticks l = 0) : badPanel p = false ∧ (0 ≤ ticks ∧ ticks ≤ 1000) ∧ l.length ≤ 200 ∧ ∀ x ∈ l, rightB p ticks x = true := by
  unfold beginE at h
  cases hb : badPanel p
  · rw [hb] at h
    simp only [Bool.false_eq_true, if_false] at h
    cases hr : inR ticks 0 1000
    · rw [hr] at h; simp at h
    · rw [hr] at h
      simp only [if_true] at h
      split at h
      · simp at h
      · rename_i hc
        simp only [Bool.or_eq_true, decide_eq_true_eq, List.any_eq_true, Bool.not_eq_true', not_or, not_exists, not_and, Bool.not_eq_false] at hc
        exact ⟨rfl, inR_iff.1 hr, by omega, fun x hx => hc.2 x hx⟩
  · rw [hb] at h; simp at h
theorem begin_zero {p : Panel} {ticks : Int} {l : List Sig} (hb : badPanel p = false) (ht : 0 ≤ ticks ∧ ticks ≤ 1000) (hl : l.length ≤ 200) (hr : ∀ x ∈ l, rightB p ticks x = true) : beginE p ticks l = 0 := by
  unfold beginE
  rw [hb, inR_iff.2 ht]
  simp only [Bool.false_eq_true, if_false, if_true]
  rw [if_neg]
  simp only [Bool.or_eq_true, decide_eq_true_eq, List.any_eq_true, Bool.not_eq_true', not_or, not_exists, not_and, Bool.not_eq_false]
  exact ⟨by omega, hr⟩
/-- the rows of a play, bit by bit -/
theorem play_bits {p : Panel} {T : Nat} {l : List Sig} (h : beginE p T l = 0) : (playR p T l).length = T ∧ ∀ t, t < T → ∃ r, (playR p T l)[t]? = some r ∧ r < 2 ^ p.doors.length ∧ ∀ k, k < p.doors.length → r.testBit k = (doorIn p (ticksTo p l T) (t + 1) k).shut := by
  have e : playR p T l = (outTo p (ticksTo p l T) T).2 := by rw [playR, if_pos h, inAll, ticksTo_len]; rfl
  rw [e]
  have hw := goodW_of (begin_good h).1
  have hlen := (outTo_ok hw (ticksTo p l T) T).2.2 (by rw [ticksTo_len]; exact Nat.le_refl _)
  refine ⟨hlen, fun t ht => ?_⟩
  have hr : (outTo p (ticksTo p l T) T).2[t]? = some ((outTo p (ticksTo p l T) T).2[t]) := by simp
  generalize (outTo p (ticksTo p l T) T).2[t] = r at hr
  by_cases h0 : p.doors.length = 0
  · refine ⟨r, hr, ?_, fun k hk => by omega⟩
    -- no doors: every row is 0
    have key : ∀ n, n ≤ T → ∀ s, s < n → (outTo p (ticksTo p l T) n).2[s]? = some 0 ∧ (outTo p (ticksTo p l T) n).2.length = n := by
      intro n
      induction n with
      | zero => intro _ s hs; omega
      | succ n ih =>
        intro hn s hs
        obtain ⟨x, hx⟩ : ∃ x, (ticksTo p l T)[n]? = some x := ⟨_, List.getElem?_eq_getElem (by rw [ticksTo_len]; omega)⟩
        have ln : (outTo p (ticksTo p l T) n).2.length = n := (outTo_ok hw _ n).2.2 (by rw [ticksTo_len]; omega)
        have e : (outTo p (ticksTo p l T) (n + 1)).2 = (outTo p (ticksTo p l T) n).2 ++ [0] := by
          simp only [outTo, hx]
          rw [h0]; rfl
        rw [e]
        refine ⟨?_, by simp [ln]⟩
        by_cases hsn : s < n
        · rw [List.getElem?_append_left (by omega)]; exact (ih (by omega) s hsn).1
        · rw [List.getElem?_append_right (by omega), ln, show s - n = 0 by omega]; rfl
    rw [(key T (Nat.le_refl _) t ht).1] at hr
    injection hr with hr; subst hr
    exact Nat.pow_pos (by omega)
  · have b := fun k hk => (out_bit p (ticksTo p l T) k hk T (by rw [ticksTo_len]; exact Nat.le_refl _)).2 t ht
    refine ⟨r, hr, ?_, fun k hk => ?_⟩
    · obtain ⟨r', h1, _, h3⟩ := b 0 (by omega)
      rw [hr] at h1; injection h1 with h1; subst h1; exact h3
    · obtain ⟨r', h1, h2, _⟩ := b k hk
      rw [hr] at h1; injection h1 with h1; subst h1; exact h2
theorem time_row {p : Panel} {T : Nat} {l : List Sig} (h : beginE p T l = 0) (t : Nat) (ht : t < T) (hf : freesI p ≤ t) : (playR p T l)[t]? = some 0 := by
  obtain ⟨hb, _, _, hr⟩ := begin_good h
  obtain ⟨_, h2⟩ := play_bits h
  obtain ⟨r, h3, h4, h5⟩ := h2 t ht
  have : r = 0 := by
    apply Nat.eq_of_testBit_eq
    intro k
    rw [Nat.zero_testBit]
    by_cases hk : k < p.doors.length
    · rw [h5 k hk]; exact time_open p (goodW_of hb) l (right_nums hr) T t ht hf k hk
    · exact Nat.testBit_lt_two_pow (Nat.lt_of_lt_of_le h4 (Nat.pow_le_pow_right (by omega) (by omega)))
  rw [h3, this]
end Go.Proofs.Ytjnencdmejhmjaa.Eng
