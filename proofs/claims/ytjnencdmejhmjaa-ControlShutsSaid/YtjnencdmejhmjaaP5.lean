/- CONTROL: plain laws: a door's way by ticks; what the specification says of it is the same. -/
import Derived.Test.YtjnencdmejhmjaaP4
namespace Go.Proofs.Ytjnencdmejhmjaa.Eng
set_option linter.unusedSimpArgs false
set_option linter.unusedVariables false
/-- the word that a door hears in a tick -/
def wordI (p : Panel) (l : List Sig) (n k : Nat) : Int := if hasB l n 3 k = true then 0 else match p.doors[k]? with
  | some d => saidI p l n d
  | none => 0
/-- a door behind so many ticks -/
def doorN (p : Panel) (l : List Sig) (k : Nat) : Nat → Door
  | 0 => door0
  | n + 1 => nextD (doorN p l k n) (waitOf p k) (powTo l (n + 1)) (hasB l n 6 k) (wordI p l n k)
def shutN (p : Panel) (l : List Sig) (n k : Nat) : Bool := (doorN p l k (n + 1)).shut
theorem doorIn_N (p : Panel) (l : List Sig) (T : Nat) (hn : numsOk l) (k : Nat) (hk : k < p.doors.length) : ∀ t, t ≤ T → doorIn p (ticksTo p l T) t k = doorN p l k t := by
  have hd : p.doors[k]? = some p.doors[k] := by simp
  generalize p.doors[k] = d at hd
  intro t
  induction t with
  | zero => intro _; simp [doorIn, outTo, doorAt, hk, door0, doorN]
  | succ t ih =>
    intro ht
    rw [doorIn_next p l T t (by omega) hn k d hd, ih (by omega), doorN]
    simp [waitOf, wordI, hd]
theorem doorN_left (p : Panel) (hw : ∀ g ∈ p.doors, 1 ≤ g.wait ∧ g.wait ≤ 50) (l : List Sig) (k : Nat) (n : Nat) : 0 ≤ (doorN p l k n).left ∧ (doorN p l k n).left ≤ waitOf p k := by
  have h0 : 0 ≤ waitOf p k := by
    unfold waitOf
    split
    · rename_i g hg; have := hw g (List.mem_of_getElem? hg); omega
    · omega
  induction n with
  | zero => exact ⟨by simp [doorN, door0], by simpa [doorN, door0] using h0⟩
  | succ n ih =>
    simp only [doorN, nextD]
    constructor
    · repeat' split
      all_goals omega
    · repeat' split
      all_goals omega
structure Frame where
  power : Bool
  values : List Int
  ages : List Int
  told : List Int
  shut : List Bool
/-- does a door want to hold, looking back from a tick (the one below n) to those above low -/
def wantsB (l : List Sig) (k : Nat) (fs : List Frame) (low : Int) : Nat → Bool
  | 0 => false
  | n + 1 => if (n : Int) > low then (match fs[n]? with
    | some f => if f.power = false then false else if hasB l n 3 k = true then wantsB l k fs low n else if rd f.told k = 2 then false else if rd f.told k = 1 then true else wantsB l k fs low n
    | none => false) else false
theorem wants_law (p : Panel) (hw : ∀ g ∈ p.doors, 1 ≤ g.wait ∧ g.wait ≤ 50) (l : List Sig) (k : Nat) (d : Gate) (hd : p.doors[k]? = some d) (fs : List Frame) (t : Nat) (hf : ∀ n, n ≤ t → ∃ f, fs[n]? = some f ∧ f.power = powTo l (n + 1) ∧ rd f.told k = saidI p l n d) : ∀ n, n ≤ t + 1 → wantsB l k fs ((t : Int) - d.wait) n = decide ((doorN p l k n).left > (t : Int) + 1 - n) := by
  have hwk : waitOf p k = d.wait := by simp [waitOf, hd]
  intro n
  induction n with
  | zero => intro _; simp [wantsB, doorN, door0]; omega
  | succ n ih =>
    intro hn
    have ih2 := ih (by omega)
    have hl := doorN_left p hw l k n
    have hl2 := doorN_left p hw l k (n + 1)
    rw [hwk] at hl hl2
    obtain ⟨f, h1, h2, h3⟩ := hf n (by omega)
    unfold wantsB
    by_cases hlow : (n : Int) > (t : Int) - d.wait
    · rw [if_pos hlow, h1]
      dsimp only
      rw [h2, h3]
      simp only [doorN, nextD, wordI, hd, hwk]
      cases hp : powTo l (n + 1)
      · simp; omega
      · simp only [Bool.true_eq_false, if_false, false_or]
        cases hm : hasB l n 3 k
        · simp only [Bool.false_eq_true, if_false]
          by_cases e2 : saidI p l n d = 2
          · simp [e2]; omega
          · by_cases e1 : saidI p l n d = 1
            · simp [e1]; omega
            · rw [if_neg e2, if_neg e1, if_neg e2, if_neg e1, ih2]
              apply decide_eq_decide.2; omega
        · simp only [if_true]
          rw [ih2]
          apply decide_eq_decide.2
          rw [if_neg (by decide), if_neg (by decide)]
          omega
    · rw [if_neg hlow, eq_comm, decide_eq_false_iff_not]
      omega
/-- what the specification reckons for a tick -/
def frameAt (p : Panel) (l : List Sig) (t : Nat) : Frame := ⟨powTo l (t + 1), (memOf p l (t + 1)).values, (memOf p l (t + 1)).ages, (tickOf p l t (memOf p l t)).said, (List.range p.doors.length).map (shutN p l t)⟩
def framesTo (p : Panel) (l : List Sig) (n : Nat) : List Frame := (List.range n).map (frameAt p l)
theorem framesTo_get (p : Panel) (l : List Sig) {n t : Nat} (h : t < n) : (framesTo p l n)[t]? = some (frameAt p l t) := by simp [framesTo, h]
theorem framesTo_len (p : Panel) (l : List Sig) (n : Nat) : (framesTo p l n).length = n := by simp [framesTo]
theorem framesTo_succ (p : Panel) (l : List Sig) (n : Nat) : framesTo p l (n + 1) = framesTo p l n ++ [frameAt p l n] := by simp [framesTo, List.range_succ]
theorem frame_shut (p : Panel) (l : List Sig) (t k : Nat) (hk : k < p.doors.length) : (frameAt p l t).shut[k]? = some (shutN p l t k) := by simp [frameAt, hk]
/-- the specification's rule for a shut door -/
theorem shut_rule (p : Panel) (hw : ∀ g ∈ p.doors, 1 ≤ g.wait ∧ g.wait ≤ 50) (l : List Sig) (hn : numsOk l) (k : Nat) (d : Gate) (hd : p.doors[k]? = some d) (fs : List Frame) (t : Nat) (hf : ∀ n, n ≤ t → ∃ f, fs[n]? = some f ∧ f.power = powTo l (n + 1) ∧ rd f.told k = saidI p l n d) : shutN p l t k = (powTo l (t + 1) && wantsB l k fs ((t : Int) - d.wait) (t + 1) && (!hasB l t 6 k || (decide (0 < t) && shutN p l (t - 1) k))) := by
  rw [wants_law p hw l k d hd fs t hf (t + 1) (Nat.le_refl _)]
  have e : (t : Int) + 1 - ((t + 1 : Nat) : Int) = 0 := by omega
  rw [e]
  have hs : (doorN p l k t).shut = (decide (0 < t) && shutN p l (t - 1) k) := by
    cases t with
    | zero => simp [doorN, door0]
    | succ t => simp [shutN]
  rw [← hs]
  simp only [shutN, doorN, nextD]
  rfl
end Go.Proofs.Ytjnencdmejhmjaa.Eng
