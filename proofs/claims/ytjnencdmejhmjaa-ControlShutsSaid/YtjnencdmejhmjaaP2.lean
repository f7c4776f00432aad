/- CONTROL: plain laws of the ticks: what signals do, what the master knows and says, what doors hear. -/
import Derived.Test.YtjnencdmejhmjaaP1
namespace Go.Proofs.Ytjnencdmejhmjaa.Eng
set_option linter.unusedSimpArgs false
set_option linter.unusedVariables false
/-- does something of a kind happen to something in a tick -/
def hasB (l : List Sig) (t k n : Int) : Bool := l.any fun x => decide (x.time = t) && decide (x.kind = k) && decide (x.number = n)
def powStep (t : Int) (b : Bool) (x : Sig) : Bool := if x.time = t ∧ (x.kind = 4 ∨ x.kind = 5) then decide (x.kind = 5) else b
def powTo (l : List Sig) : Nat → Bool
  | 0 => true
  | n + 1 => l.foldl (powStep n) (powTo l n)
def senStep (t : Int) (s : List Int) (x : Sig) : List Int := if x.time = t ∧ x.kind = 1 then s.set x.number.toNat x.value else s
def senTo (sn : Nat) (l : List Sig) : Nat → List Int
  | 0 => List.replicate sn 0
  | n + 1 => l.foldl (senStep n) (senTo sn l n)
theorem fold_power (t : Int) : ∀ (l : List Sig) (s : Sg), (l.foldl (sigStep t) s).power = l.foldl (powStep t) s.power := by
  intro l
  induction l with
  | nil => intro s; rfl
  | cons x l ih =>
    intro s
    rw [List.foldl_cons, List.foldl_cons, ih]
    congr 1
    unfold sigStep powStep
    by_cases h : x.time = t
    · by_cases h4 : x.kind = 4
      · simp [h, h4]
      · by_cases h5 : x.kind = 5
        · simp [h, h5]
        · simp only [h, h4, h5, if_true, if_false, or_self, and_false]
          repeat' split
          all_goals rfl
    · simp [h]
theorem fold_senses (t : Int) : ∀ (l : List Sig) (s : Sg), (l.foldl (sigStep t) s).senses = l.foldl (senStep t) s.senses := by
  intro l
  induction l with
  | nil => intro s; rfl
  | cons x l ih =>
    intro s
    rw [List.foldl_cons, List.foldl_cons, ih]
    congr 1
    unfold sigStep senStep
    by_cases h : x.time = t
    · by_cases h4 : x.kind = 1
      · simp [h, h4]
      · simp only [h, h4, if_true, if_false, and_false]
        repeat' split
        all_goals rfl
    · simp [h]
theorem memOf_power (p : Panel) (l : List Sig) (n : Nat) : (memOf p l n).power = powTo l n := by
  induction n with
  | zero => rfl
  | succ n ih =>
    simp only [memOf, tickSg, sigTo, List.take_length, powTo, fold_power]
    rw [ih]
theorem memOf_senses (p : Panel) (l : List Sig) (n : Nat) : (memOf p l n).senses = senTo p.sensors.toNat l n := by
  induction n with
  | zero => rfl
  | succ n ih =>
    simp only [memOf, tickSg, sigTo, List.take_length, senTo, fold_senses]
    rw [ih]
theorem tickSg_power (p : Panel) (l : List Sig) (n : Nat) : (tickSg p l n (memOf p l n)).power = powTo l (n + 1) := memOf_power p l (n + 1)
theorem tickSg_senses (p : Panel) (l : List Sig) (n : Nat) : (tickSg p l n (memOf p l n)).senses = senTo p.sensors.toNat l (n + 1) := memOf_senses p l (n + 1)
theorem fold_mark (t : Int) (k : Int) (f : Sg → List Bool) (g : List Bool → Sg → Sg) (hfg : ∀ s x, f (sigStep t s x) = if x.time = t ∧ x.kind = k then (f s).set x.number.toNat true else f s) (j : Nat) : ∀ (l : List Sig) (s : Sg), (∀ x ∈ l, x.kind = k → 0 ≤ x.number) → j < (f s).length → rdB (f (l.foldl (sigStep t) s)) j = (rdB (f s) j || hasB l t k j) := by
  intro l
  induction l with
  | nil => intro s _ _; simp [hasB]
  | cons x l ih =>
    intro s hn hj
    have h0 := hn x (by simp)
    rw [List.foldl_cons, ih _ (fun y hy => hn y (by simp [hy])) (by rw [hfg]; split <;> simpa using hj), hfg]
    simp only [hasB, List.any_cons]
    by_cases h : x.time = t ∧ x.kind = k
    · rw [if_pos h, rdB_set]
      by_cases hx : x.number = j
      · rw [if_pos ⟨by omega, by have := h0 h.2; omega⟩]; simp [h, hx]
      · rw [if_neg (by have := h0 h.2; omega)]; simp [h, hx]
    · rw [if_neg h]
      have : (decide (x.time = t) && decide (x.kind = k)) = false := by
        rw [← Bool.not_eq_true, Bool.and_eq_true, decide_eq_true_eq, decide_eq_true_eq]; exact h
      simp [this]
def numsOk (l : List Sig) : Prop := ∀ x ∈ l, (x.kind = 1 ∨ x.kind = 2 ∨ x.kind = 3 ∨ x.kind = 6) → 0 ≤ x.number
theorem step_muted (t : Int) (s : Sg) (x : Sig) : (sigStep t s x).muted = if x.time = t ∧ x.kind = 2 then s.muted.set x.number.toNat true else s.muted := by
  unfold sigStep
  by_cases h : x.time = t
  · by_cases h4 : x.kind = 2
    · simp [h, h4]
    · simp only [h, h4, if_true, if_false, and_false]
      repeat' split
      all_goals rfl
  · simp [h]
theorem step_missed (t : Int) (s : Sg) (x : Sig) : (sigStep t s x).missed = if x.time = t ∧ x.kind = 3 then s.missed.set x.number.toNat true else s.missed := by
  unfold sigStep
  by_cases h : x.time = t
  · by_cases h4 : x.kind = 3
    · simp [h, h4]
    · simp only [h, h4, if_true, if_false, and_false]
      repeat' split
      all_goals rfl
  · simp [h]
theorem step_stood (t : Int) (s : Sg) (x : Sig) : (sigStep t s x).stood = if x.time = t ∧ x.kind = 6 then s.stood.set x.number.toNat true else s.stood := by
  unfold sigStep
  by_cases h : x.time = t
  · by_cases h4 : x.kind = 6
    · simp [h, h4]
    · simp only [h, h4, if_true, if_false, and_false]
      repeat' split
      all_goals rfl
  · simp [h]
theorem rdB_rep (n j : Nat) : rdB (List.replicate n false) j = false := by
  unfold rdB
  rw [List.getD_eq_getElem?_getD, List.getElem?_replicate]
  split <;> rfl
theorem rd_rep (n j : Nat) : rd (List.replicate n 0) j = 0 := by
  unfold rd
  rw [List.getD_eq_getElem?_getD, List.getElem?_replicate]
  split <;> rfl
theorem tick_mut (p : Panel) (l : List Sig) (t : Nat) (m : Mem) (hn : numsOk l) (j : Nat) (hj : j < p.sensors.toNat) : rdB (tickSg p l t m).muted j = hasB l t 2 j := by
  unfold tickSg sigTo
  rw [List.take_length, fold_mark t 2 Sg.muted (fun b s => { s with muted := b }) (step_muted t) j l _ (fun x hx hk => hn x hx (by omega)) (by simpa using hj), rdB_rep, Bool.false_or]
theorem tick_mis (p : Panel) (l : List Sig) (t : Nat) (m : Mem) (hn : numsOk l) (j : Nat) (hj : j < p.doors.length) : rdB (tickSg p l t m).missed j = hasB l t 3 j := by
  unfold tickSg sigTo
  rw [List.take_length, fold_mark t 3 Sg.missed (fun b s => { s with missed := b }) (step_missed t) j l _ (fun x hx hk => hn x hx (by omega)) (by simpa using hj), rdB_rep, Bool.false_or]
theorem tick_sto (p : Panel) (l : List Sig) (t : Nat) (m : Mem) (hn : numsOk l) (j : Nat) (hj : j < p.doors.length) : rdB (tickSg p l t m).stood j = hasB l t 6 j := by
  unfold tickSg sigTo
  rw [List.take_length, fold_mark t 6 Sg.stood (fun b s => { s with stood := b }) (step_stood t) j l _ (fun x hx hk => hn x hx (by omega)) (by simpa using hj), rdB_rep, Bool.false_or]
/-! what the master knows -/
theorem tell_at (s : Sg) (va : List Int × List Int) (i : Nat) (h1 : i < va.1.length) (h2 : i < va.2.length) : ∀ n, rd (tellTo s va n).1 i = (if i < n ∧ s.power = true ∧ rdB s.muted i = false then rd s.senses i else rd va.1 i) ∧ rd (tellTo s va n).2 i = (if i < n then (if s.power = true ∧ rdB s.muted i = false then 0 else rd va.2 i + 1) else rd va.2 i) := by
  intro n
  induction n with
  | zero => simp [tellTo]
  | succ n ih =>
    obtain ⟨l1, l2⟩ := tellTo_len s va n
    obtain ⟨q1, q2⟩ := ih
    unfold tellTo
    dsimp only
    by_cases e : n = i
    · subst e
      rw [if_neg (by omega)] at q1 q2
      split
      · rename_i hc
        simp [rd_set, l1, l2, h1, h2, hc]
      · rename_i hc
        simp [rd_set, l1, l2, h1, h2, hc, q1, q2]
    · have e1 : ∀ (v : Int) (x : List Int), rd (x.set n v) i = rd x i := fun v x => by rw [rd_set, if_neg (by omega)]
      split
      · simp only [e1, q1, q2]
        constructor
        · by_cases h : i < n
          · simp only [h, show i < n + 1 by omega]
          · simp only [h, show ¬ i < n + 1 by omega]
        · by_cases h : i < n
          · simp only [h, show i < n + 1 by omega]
          · simp only [h, show ¬ i < n + 1 by omega]
      · simp only [e1, q1, q2]
        constructor
        · by_cases h : i < n
          · simp only [h, show i < n + 1 by omega]
          · simp only [h, show ¬ i < n + 1 by omega]
        · by_cases h : i < n
          · simp only [h, show i < n + 1 by omega]
          · simp only [h, show ¬ i < n + 1 by omega]
theorem mem_tell (p : Panel) (l : List Sig) (n : Nat) (hn : numsOk l) (i : Nat) (hi : i < p.sensors.toNat) : rd (memOf p l (n + 1)).values i = (if powTo l (n + 1) = true ∧ hasB l n 2 i = false then rd (senTo p.sensors.toNat l (n + 1)) i else rd (memOf p l n).values i) ∧ rd (memOf p l (n + 1)).ages i = (if powTo l (n + 1) = true ∧ hasB l n 2 i = false then 0 else rd (memOf p l n).ages i + 1) := by
  obtain ⟨_, hv, ha⟩ := memOf_len p l n
  obtain ⟨q1, q2⟩ := tell_at (tickSg p l n (memOf p l n)) ((memOf p l n).values, (memOf p l n).ages) i (by simpa [hv] using hi) (by simpa [ha] using hi) p.sensors.toNat
  rw [if_pos hi] at q2
  simp only [hi, true_and, tick_mut p l n _ hn i hi, tickSg_power, tickSg_senses] at q1 q2
  exact ⟨q1, q2⟩
/-! what it says, and what a door hears -/
theorem decide_same (p : Panel) (x y : Tick) (t : Int) (d : Gate) (hv : x.values = y.values) (ha : x.ages = y.ages) : decideI p x t d = decideI p y t d := by
  have h1 : staleB p x = staleB p y := by funext s; simp [staleB, ha]
  have h2 : failsB x = failsB y := by funext s; simp [failsB, hv]
  simp only [decideI, h1, h2]
theorem doors_at (p : Panel) (t : Int) (m : List Bool) (x : Tick) (j : Nat) (d : Gate) (hd : p.doors[j]? = some d) (h1 : j < x.said.length) (h2 : j < x.heard.length) : ∀ n, rd (doorsTo p t m x n).said j = (if j < n ∧ x.power = true then decideI p x t d else rd x.said j) ∧ rd (doorsTo p t m x n).heard j = (if j < n ∧ rdB m j = false then (if x.power = true then decideI p x t d else rd x.said j) else rd x.heard j) := by
  intro n
  induction n with
  | zero => simp [doorsTo]
  | succ n ih =>
    obtain ⟨l1, l2, lv, la, lp, _⟩ := doorsTo_len p t m x n
    obtain ⟨q1, q2⟩ := ih
    unfold doorsTo
    dsimp only
    by_cases e : n = j
    · subst e
      rw [if_neg (by omega)] at q1 q2
      rw [hd]
      dsimp only
      have q0 : rd (if x.power = true then (doorsTo p t m x n).said.set n (decideI p (doorsTo p t m x n) t d) else (doorsTo p t m x n).said) n = if x.power = true then decideI p x t d else rd x.said n := by
        split
        · rw [rd_set, if_pos ⟨rfl, by omega⟩]; exact decide_same p _ _ t d lv la
        · exact q1
      refine ⟨?_, ?_⟩
      · rw [q0]; simp
      · cases hm : rdB m n
        · simp only [Bool.false_eq_true, if_false]
          rw [rd_set, if_pos ⟨rfl, by omega⟩, q0]; simp
        · simp only [if_true]
          rw [q2]; simp
    · have e1 : ∀ (v : Int) (x : List Int), rd (x.set n v) j = rd x j := fun v x => by rw [rd_set, if_neg (by omega)]
      have e2 : j < n + 1 ↔ j < n := by omega
      refine ⟨?_, ?_⟩
      · simp only [e2]
        rw [← q1]
        split
        · split
          · exact e1 _ _
          · rfl
        · rfl
      · simp only [e2]
        rw [← q2]
        split
        · rfl
        · exact e1 _ _
/-- what the master says to a door in a tick -/
def saidI (p : Panel) (l : List Sig) (t : Nat) (d : Gate) : Int := if powTo l (t + 1) = true then decideI p ⟨true, (memOf p l (t + 1)).values, (memOf p l (t + 1)).ages, [], [], []⟩ t d else 0
theorem tick_at (p : Panel) (l : List Sig) (t : Nat) (hn : numsOk l) (j : Nat) (d : Gate) (hd : p.doors[j]? = some d) : rd (tickOf p l t (memOf p l t)).said j = saidI p l t d ∧ rd (tickOf p l t (memOf p l t)).heard j = (if hasB l t 3 j = true then 0 else saidI p l t d) ∧ (tickOf p l t (memOf p l t)).power = powTo l (t + 1) ∧ rdB (tickOf p l t (memOf p l t)).stood j = hasB l t 6 j ∧ (tickOf p l t (memOf p l t)).values = (memOf p l (t + 1)).values ∧ (tickOf p l t (memOf p l t)).ages = (memOf p l (t + 1)).ages := by
  have hj : j < p.doors.length := (List.getElem?_eq_some_iff.1 hd).1
  have e : tickOf p l t (memOf p l t) = doorsTo p t (tickSg p l t (memOf p l t)).missed ⟨(tickSg p l t (memOf p l t)).power, (memOf p l (t + 1)).values, (memOf p l (t + 1)).ages, List.replicate p.doors.length 0, List.replicate p.doors.length 0, (tickSg p l t (memOf p l t)).stood⟩ p.doors.length := rfl
  rw [e]
  obtain ⟨q1, q2⟩ := doors_at p t (tickSg p l t (memOf p l t)).missed ⟨(tickSg p l t (memOf p l t)).power, (memOf p l (t + 1)).values, (memOf p l (t + 1)).ages, List.replicate p.doors.length 0, List.replicate p.doors.length 0, (tickSg p l t (memOf p l t)).stood⟩ j d hd (by simpa using hj) (by simpa using hj) p.doors.length
  obtain ⟨_, _, lv, la, lp, ls⟩ := doorsTo_len p t (tickSg p l t (memOf p l t)).missed ⟨(tickSg p l t (memOf p l t)).power, (memOf p l (t + 1)).values, (memOf p l (t + 1)).ages, List.replicate p.doors.length 0, List.replicate p.doors.length 0, (tickSg p l t (memOf p l t)).stood⟩ p.doors.length
  rw [q1, q2, lv, la, lp, ls]
  dsimp only
  simp only [tickSg_power, rd_rep, tick_mis p l t _ hn j hj, hj, true_and, tick_sto p l t _ hn j hj, saidI, decide_same p ⟨powTo l (t + 1), (memOf p l (t + 1)).values, (memOf p l (t + 1)).ages, List.replicate p.doors.length 0, List.replicate p.doors.length 0, (tickSg p l t (memOf p l t)).stood⟩ ⟨true, (memOf p l (t + 1)).values, (memOf p l (t + 1)).ages, [], [], []⟩ t d rfl rfl]
  refine ⟨?_, trivial⟩
  cases hasB l t 3 j <;> simp
/-- a door's way, tick by tick -/
theorem doorIn_next (p : Panel) (l : List Sig) (T t : Nat) (ht : t < T) (hn : numsOk l) (k : Nat) (d : Gate) (hd : p.doors[k]? = some d) : doorIn p (ticksTo p l T) (t + 1) k = nextD (doorIn p (ticksTo p l T) t k) d.wait (powTo l (t + 1)) (hasB l t 6 k) (if hasB l t 3 k = true then 0 else saidI p l t d) := by
  have hk : k < p.doors.length := (List.getElem?_eq_some_iff.1 hd).1
  obtain ⟨_, q2, q3, q4, _⟩ := tick_at p l t hn k d hd
  rw [doorIn_step p _ t k hk _ (ticksTo_get p l T t ht), q2, q3, q4]
  simp [waitOf, hd]
end Go.Proofs.Ytjnencdmejhmjaa.Eng
