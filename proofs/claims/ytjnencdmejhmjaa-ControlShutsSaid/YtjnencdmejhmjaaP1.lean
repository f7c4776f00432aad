/- CONTROL: plain laws of the play. -/
import Derived.Test.YtjnencdmejhmjaaS3
namespace Go.Proofs.Ytjnencdmejhmjaa.Eng
set_option linter.unusedSimpArgs false
set_option linter.unusedVariables false
theorem doorAt_set (ds : List Door) (k i : Nat) (d : Door) : doorAt (ds.set k d) i = if k = i ∧ k < ds.length then d else doorAt ds i := by
  unfold doorAt
  simp only [List.getD_eq_getElem?_getD, List.getElem?_set]
  by_cases h : k = i
  · subst h
    by_cases h2 : k < ds.length
    · simp [h2]
    · simp [h2, List.getElem?_eq_none (Nat.not_lt.1 h2)]
  · simp [h]
/-- each door goes its own way -/
theorem inTo_at (p : Panel) (x : Tick) (ds : List Door) (n j : Nat) (hj : j < ds.length) : (inTo p x ds n).1.length = ds.length ∧ doorAt (inTo p x ds n).1 j = if j < n then newDoor p x ds j else doorAt ds j := by
  induction n with
  | zero => exact ⟨rfl, by simp [inTo]⟩
  | succ n ih =>
    obtain ⟨h1, h2⟩ := ih
    simp only [inTo]
    refine ⟨by simp [h1], ?_⟩
    rw [doorAt_set, h1]
    by_cases e : n = j
    · subst e
      rw [if_pos ⟨rfl, hj⟩, if_pos (by omega)]
      simp only [newDoor, h2]
      rw [if_neg (by omega)]
    · rw [if_neg (by omega), h2]
      by_cases hlt : j < n
      · rw [if_pos hlt, if_pos (by omega)]
      · rw [if_neg hlt, if_neg (by omega)]
theorem inTo_bit (p : Panel) (x : Tick) (ds : List Door) (n j : Nat) (hj : j < ds.length) (hn : n ≤ ds.length) : (inTo p x ds n).2 < 2 ^ n ∧ (inTo p x ds n).2.testBit j = (decide (j < n) && (newDoor p x ds j).shut) := by
  induction n with
  | zero => simp [inTo]
  | succ n ih =>
    obtain ⟨h1, h2⟩ := ih (by omega)
    have h3 := (inTo_at p x ds n n (by omega)).2
    rw [if_neg (by omega)] at h3
    have e : newDoor p x (inTo p x ds n).1 n = newDoor p x ds n := by simp only [newDoor, h3]
    have hpow : 2 ^ (n + 1) = 2 ^ n + 2 ^ n := by rw [Nat.pow_succ]; omega
    simp only [inTo, e]
    split
    · rename_i hs
      refine ⟨by omega, ?_⟩
      rw [Nat.add_comm]
      by_cases hjn : j = n
      · subst hjn
        rw [Nat.testBit_two_pow_add_eq, Nat.testBit_lt_two_pow h1]
        simp [hs]
      · by_cases hlt : j < n
        · rw [Nat.testBit_two_pow_add_gt hlt, h2]
          simp [hlt, show j < n + 1 by omega]
        · rw [Nat.testBit_lt_two_pow (Nat.lt_of_lt_of_le (by omega : 2 ^ n + (inTo p x ds n).2 < 2 ^ (n + 1)) (Nat.pow_le_pow_right (by omega) (by omega)))]
          simp; omega
    · rename_i hs
      refine ⟨by omega, ?_⟩
      rw [h2]
      by_cases hjn : j = n
      · subst hjn; simp [hs]
      · by_cases hlt : j < n
        · simp [hlt, show j < n + 1 by omega]
        · simp [hlt]; omega
/-- a door between two ticks -/
def doorIn (p : Panel) (ts : List Tick) (n k : Nat) : Door := doorAt (outTo p ts n).1 k
theorem outTo_len (p : Panel) (ts : List Tick) (n : Nat) : (outTo p ts n).1.length = p.doors.length := by
  induction n with
  | zero => simp [outTo]
  | succ n ih =>
    unfold outTo
    split
    · rename_i x hx
      by_cases hz : 0 < (outTo p ts n).1.length
      · exact (inTo_at p x _ _ 0 hz).1.trans ih
      · dsimp only
        have h0 : (outTo p ts n).1 = [] := by
          apply List.eq_nil_of_length_eq_zero; omega
        have hd : p.doors.length = 0 := by omega
        rw [h0, hd]; simp [inTo]
    · exact ih
theorem doorIn_step (p : Panel) (ts : List Tick) (n k : Nat) (hk : k < p.doors.length) (x : Tick) (hx : ts[n]? = some x) : doorIn p ts (n + 1) k = nextD (doorIn p ts n k) (waitOf p k) x.power (rdB x.stood k) (rd x.heard k) := by
  have h1 := (inTo_at p x (outTo p ts n).1 p.doors.length k (by rw [outTo_len]; exact hk)).2
  rw [if_pos hk] at h1
  simp only [doorIn, outTo, hx]
  rw [h1]; rfl
theorem out_bit (p : Panel) (ts : List Tick) (k : Nat) (hk : k < p.doors.length) : ∀ n, n ≤ ts.length → (outTo p ts n).2.length = n ∧ ∀ t, t < n → ∃ r, (outTo p ts n).2[t]? = some r ∧ r.testBit k = (doorIn p ts (t + 1) k).shut ∧ r < 2 ^ p.doors.length := by
  intro n
  induction n with
  | zero => intro _; exact ⟨rfl, fun t ht => by omega⟩
  | succ n ih =>
    intro hn
    obtain ⟨h1, h2⟩ := ih (by omega)
    have hx : ts[n]? = some ts[n] := by simp
    generalize ts[n] = x at hx
    have e : (outTo p ts (n + 1)).2 = (outTo p ts n).2 ++ [(inTo p x (outTo p ts n).1 p.doors.length).2] := by simp only [outTo, hx]
    rw [e]
    refine ⟨by simp [h1], fun t ht => ?_⟩
    by_cases htn : t < n
    · obtain ⟨r, q1, q2⟩ := h2 t htn
      exact ⟨r, by rw [List.getElem?_append_left (by omega)]; exact q1, q2⟩
    · have : t = n := by omega
      subst this
      have hl := outTo_len p ts t
      obtain ⟨q1, q2⟩ := inTo_bit p x (outTo p ts t).1 p.doors.length k (by omega) (by omega)
      refine ⟨_, by rw [List.getElem?_append_right (by omega), h1]; simp, ?_, q1⟩
      rw [q2, doorIn_step p ts t k hk x hx]
      simp [hk, newDoor, doorIn]
/-! ### the signals -/
theorem rdB_set (l : List Bool) (k i : Nat) (v : Bool) : rdB (l.set k v) i = if k = i ∧ k < l.length then v else rdB l i := by
  unfold rdB
  simp only [List.getD_eq_getElem?_getD, List.getElem?_set]
  by_cases h : k = i
  · subst h
    by_cases h2 : k < l.length
    · simp [h2]
    · simp [h2, List.getElem?_eq_none (Nat.not_lt.1 h2)]
  · simp [h]
theorem missed_keep (t : Int) (s : Sg) (x : Sig) (k : Nat) (h : rdB s.missed k = true) : rdB (sigStep t s x).missed k = true := by
  unfold sigStep
  repeat' split
  all_goals first | exact h | skip
  simp only [rdB_set]
  split
  · rfl
  · exact h
theorem missed_fold (t : Int) (k : Nat) : ∀ (l : List Sig) (s : Sg), k < s.missed.length → (rdB s.missed k = true ∨ ∃ x ∈ l, x.time = t ∧ x.kind = 3 ∧ x.number = k) → rdB (l.foldl (sigStep t) s).missed k = true := by
  intro l
  induction l with
  | nil => intro s hk h; rcases h with h | ⟨x, hx, _⟩
           · exact h
           · simp at hx
  | cons y l ih =>
    intro s hk h
    rw [List.foldl_cons]
    refine ih _ (by rw [(sigStep_len t s y).2.2.1]; exact hk) ?_
    rcases h with h | ⟨x, hx, h1, h2, h3⟩
    · exact .inl (missed_keep t s y k h)
    · rcases List.mem_cons.1 hx with rfl | hx
      · left
        have : sigStep t s x = { s with missed := s.missed.set x.number.toNat true } := by simp [sigStep, h1, h2]
        rw [this]
        simp [rdB_set, h3, hk]
      · exact .inr ⟨x, hx, h1, h2, h3⟩
theorem tick_missed (p : Panel) (l : List Sig) (t : Nat) (m : Mem) (k : Nat) (hk : k < p.doors.length) (h : ∃ x ∈ l, x.time = t ∧ x.kind = 3 ∧ x.number = k) : rdB (tickSg p l t m).missed k = true := by
  unfold tickSg sigTo
  rw [List.take_length]
  exact missed_fold t k l _ (by simpa using hk) (.inr h)
theorem rd_set' (l : List Int) (k i : Nat) (v : Int) : rd (l.set k v) i = if k = i ∧ k < l.length then v else rd l i := rd_set l k i v
theorem heard_none (p : Panel) (t : Int) (m : List Bool) (x : Tick) (k : Nat) (h : rdB m k = true) (n : Nat) : rd (doorsTo p t m x n).heard k = rd x.heard k := by
  induction n with
  | zero => rfl
  | succ n ih =>
    simp only [doorsTo]
    split
    · exact ih
    · rename_i hm
      rw [rd_set, if_neg]
      · exact ih
      · rintro ⟨e, _⟩
        subst e
        exact hm h
theorem tick_heard (p : Panel) (l : List Sig) (t : Nat) (m : Mem) (k : Nat) (hk : k < p.doors.length) (h : ∃ x ∈ l, x.time = t ∧ x.kind = 3 ∧ x.number = k) : rd (tickOf p l t m).heard k = 0 := by
  have h1 := tick_missed p l t m k hk h
  unfold tickOf
  dsimp only
  rw [heard_none p t _ _ k h1]
  simp [rd, hk]
theorem ticksTo_get (p : Panel) (l : List Sig) (T t : Nat) (h : t < T) : (ticksTo p l T)[t]? = some (tickOf p l t (memOf p l t)) := by
  induction T with
  | zero => omega
  | succ T ih =>
    rw [ticksTo]
    by_cases e : t < T
    · rw [List.getElem?_append_left (by rw [ticksTo_len]; exact e)]; exact ih e
    · have : t = T := by omega
      subst this
      rw [List.getElem?_append_right (by rw [ticksTo_len]; exact Nat.le_refl _), ticksTo_len]; simp
/-! ### silence -/
theorem nextD_zero {d : Door} {w : Int} {pw st : Bool} (hd : 0 ≤ d.left) : 0 ≤ (nextD d w pw st 0).left ∧ (nextD d w pw st 0).left ≤ max 0 (d.left - 1) ∧ ((nextD d w pw st 0).left = 0 → (nextD d w pw st 0).shut = false) := by
  simp only [nextD]
  refine ⟨?_, ?_, fun h => ?_⟩
  · repeat' split
    all_goals omega
  · repeat' split
    all_goals omega
  · rw [h]; simp
theorem doorIn_left (p : Panel) (hw : GoodW p) (ts : List Tick) (k : Nat) (hk : k < p.doors.length) : ∀ n, n ≤ ts.length → 0 ≤ (doorIn p ts n k).left ∧ (doorIn p ts n k).left ≤ waitOf p k := by
  have hwk := waitOf_ok hw k
  intro n
  induction n with
  | zero => intro _; simp [doorIn, outTo, doorAt, hk, door0]; exact hwk.1
  | succ n ih =>
    intro hn
    have hx : ts[n]? = some ts[n] := by simp
    rw [doorIn_step p ts n k hk _ hx]
    have := ih (by omega)
    simp only [nextD]
    constructor
    · repeat' split
      all_goals omega
    · repeat' split
      all_goals omega
theorem silence (p : Panel) (hw : GoodW p) (ts : List Tick) (k : Nat) (hk : k < p.doors.length) (f w : Nat) (hwt : waitOf p k ≤ w) (hw0 : 0 < w) (hl : f + w ≤ ts.length) (hs : ∀ t x, f ≤ t → t < f + w → ts[t]? = some x → rd x.heard k = 0) : (doorIn p ts (f + w) k).shut = false := by
  have key : ∀ n, n ≤ w → 0 ≤ (doorIn p ts (f + n) k).left ∧ (doorIn p ts (f + n) k).left ≤ max 0 (waitOf p k - n) := by
    intro n
    induction n with
    | zero => intro _; have := doorIn_left p hw ts k hk f (by omega); simp; omega
    | succ n ih =>
      intro hn
      have h1 := ih (by omega)
      have hx : ts[f + n]? = some ts[f + n] := by simp
      have h0 := hs (f + n) _ (by omega) (by omega) hx
      rw [show f + (n + 1) = f + n + 1 by omega, doorIn_step p ts (f + n) k hk _ hx, h0]
      have := nextD_zero (d := doorIn p ts (f + n) k) (w := waitOf p k) (pw := ts[f + n].power) (st := rdB ts[f + n].stood k) h1.1
      omega
  have h1 := key (w - 1) (by omega)
  have hx : ts[f + (w - 1)]? = some ts[f + (w - 1)] := by simp
  have h0 := hs (f + (w - 1)) _ (by omega) (by omega) hx
  rw [show f + w = f + (w - 1) + 1 by omega, doorIn_step p ts _ k hk _ hx, h0]
  have h2 := nextD_zero (d := doorIn p ts (f + (w - 1)) k) (w := waitOf p k) (pw := ts[f + (w - 1)].power) (st := rdB ts[f + (w - 1)].stood k) h1.1
  exact h2.2.2 (by omega)
end Go.Proofs.Ytjnencdmejhmjaa.Eng
