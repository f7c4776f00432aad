/- CONTROL: what begin plays, in plain words. -/
import Derived.Test.YtjnencdmejhmjaaS0
namespace Go.Proofs.Ytjnencdmejhmjaa.Eng
set_option linter.unusedSimpArgs false
/-- What the signals of a tick do: power, what the sensors sense; muted sensors, missed doors, doors with somebody in them. -/
structure Sg where
  power : Bool
  senses : List Int
  muted : List Bool
  missed : List Bool
  stood : List Bool
def sigStep (t : Int) (s : Sg) (x : Sig) : Sg :=
  if x.time = t then
    (if x.kind = 1 then { s with senses := s.senses.set x.number.toNat x.value }
     else if x.kind = 2 then { s with muted := s.muted.set x.number.toNat true }
     else if x.kind = 3 then { s with missed := s.missed.set x.number.toNat true }
     else if x.kind = 4 then { s with power := false }
     else if x.kind = 5 then { s with power := true }
     else if x.kind = 6 then { s with stood := s.stood.set x.number.toNat true } else s)
  else s
def sigTo (t : Int) (l : List Sig) (s : Sg) (n : Nat) : Sg := (l.take n).foldl (sigStep t) s
def rd (l : List Int) (k : Nat) : Int := l.getD k 0
def rdB (l : List Bool) (k : Nat) : Bool := l.getD k false
theorem rd_get {l : List Int} {k : Nat} (h : k < l.length) : l[k]? = some (rd l k) := by simp [rd, h]
theorem rdB_get {l : List Bool} {k : Nat} (h : k < l.length) : l[k]? = some (rdB l k) := by simp [rdB, h]
/-- The sensors tell the master: values and ages behind the first n sensors. -/
def tellTo (s : Sg) (va : List Int × List Int) : Nat → List Int × List Int
  | 0 => va
  | n + 1 =>
    let p := tellTo s va n
    if s.power = true ∧ rdB s.muted n = false then (p.1.set n (rd s.senses n), (p.2.set n (rd p.2 n + 1)).set n 0) else (p.1, p.2.set n (rd p.2 n + 1))
/-- the k-th of a list of numbers -/
def nth (l : List Int) (k : Int) : Int := l.getD k.toNat 0
theorem nth_get {l : List Int} {k : Int} (h0 : 0 ≤ k) (hk : k < l.length) : l[k.toNat]? = some (nth l k) := by
  have h : k.toNat < l.length := by omega
  simp [nth, h]
def staleB (p : Panel) (x : Tick) (s : Sense) : Bool := decide (nth x.ages s.sensor ≥ p.stale)
def failsB (x : Tick) (s : Sense) : Bool := (nth x.values s.sensor == s.value) == s.neg
def decideI (p : Panel) (x : Tick) (t : Int) (d : Gate) : Int := if t ≥ p.limit ∨ d.whens.any (staleB p x) = true ∨ d.whens.any (failsB x) = false then 2 else 1
/-- the tick behind the first n doors -/
def doorsTo (p : Panel) (t : Int) (missed : List Bool) (x : Tick) : Nat → Tick
  | 0 => x
  | n + 1 =>
    let y := doorsTo p t missed x n
    let said := if x.power = true then (match p.doors[n]? with | some d => y.said.set n (decideI p y t d) | none => y.said) else y.said
    { y with said := said, heard := if rdB missed n = true then y.heard else y.heard.set n (rd said n) }
/-- The state between two ticks. -/
structure Mem where
  power : Bool
  senses : List Int
  values : List Int
  ages : List Int
def tickSg (p : Panel) (l : List Sig) (t : Nat) (s : Mem) : Sg :=
  sigTo t l { power := s.power, senses := s.senses, muted := List.replicate p.sensors.toNat false, missed := List.replicate p.doors.length false, stood := List.replicate p.doors.length false } l.length
def tickVA (p : Panel) (l : List Sig) (t : Nat) (s : Mem) : List Int × List Int := tellTo (tickSg p l t s) (s.values, s.ages) p.sensors.toNat
def tickOf (p : Panel) (l : List Sig) (t : Nat) (s : Mem) : Tick :=
  let g := tickSg p l t s
  let va := tickVA p l t s
  doorsTo p t g.missed ⟨g.power, va.1, va.2, List.replicate p.doors.length 0, List.replicate p.doors.length 0, g.stood⟩ p.doors.length
def memOf (p : Panel) (l : List Sig) : Nat → Mem
  | 0 => ⟨true, List.replicate p.sensors.toNat 0, List.replicate p.sensors.toNat 0, List.replicate p.sensors.toNat 0⟩
  | t + 1 => let s := memOf p l t; ⟨(tickSg p l t s).power, (tickSg p l t s).senses, (tickVA p l t s).1, (tickVA p l t s).2⟩
def ticksTo (p : Panel) (l : List Sig) : Nat → List Tick
  | 0 => []
  | t + 1 => ticksTo p l t ++ [tickOf p l t (memOf p l t)]
/-! lengths -/
theorem sigStep_len (t : Int) (s : Sg) (x : Sig) : (sigStep t s x).senses.length = s.senses.length ∧ (sigStep t s x).muted.length = s.muted.length ∧ (sigStep t s x).missed.length = s.missed.length ∧ (sigStep t s x).stood.length = s.stood.length := by
  unfold sigStep
  repeat' split
  all_goals simp
theorem sigFold_len (t : Int) (l : List Sig) : ∀ s : Sg, (l.foldl (sigStep t) s).senses.length = s.senses.length ∧ (l.foldl (sigStep t) s).muted.length = s.muted.length ∧ (l.foldl (sigStep t) s).missed.length = s.missed.length ∧ (l.foldl (sigStep t) s).stood.length = s.stood.length := by
  induction l with
  | nil => intro s; exact ⟨rfl, rfl, rfl, rfl⟩
  | cons x l ih =>
    intro s
    have h := ih (sigStep t s x)
    have k := sigStep_len t s x
    simp only [List.foldl_cons]
    omega
theorem sigTo_succ (t : Int) (l : List Sig) (s : Sg) (n : Nat) (x : Sig) (h : l[n]? = some x) : sigTo t l s (n + 1) = sigStep t (sigTo t l s n) x := by
  obtain ⟨hn, rfl⟩ := List.getElem?_eq_some_iff.1 h
  unfold sigTo
  rw [List.take_succ_eq_append_getElem hn, List.foldl_append]
  rfl
theorem tellTo_len (s : Sg) (va : List Int × List Int) (n : Nat) : (tellTo s va n).1.length = va.1.length ∧ (tellTo s va n).2.length = va.2.length := by
  induction n with
  | zero => exact ⟨rfl, rfl⟩
  | succ n ih =>
    unfold tellTo
    dsimp only
    split <;> simp [ih]
theorem doorsTo_len (p : Panel) (t : Int) (m : List Bool) (x : Tick) (n : Nat) : (doorsTo p t m x n).said.length = x.said.length ∧ (doorsTo p t m x n).heard.length = x.heard.length ∧ (doorsTo p t m x n).values = x.values ∧ (doorsTo p t m x n).ages = x.ages ∧ (doorsTo p t m x n).power = x.power ∧ (doorsTo p t m x n).stood = x.stood := by
  induction n with
  | zero => exact ⟨rfl, rfl, rfl, rfl, rfl, rfl⟩
  | succ n ih =>
    unfold doorsTo
    dsimp only
    refine ⟨?_, ?_, ih.2.2.1, ih.2.2.2.1, ih.2.2.2.2.1, ih.2.2.2.2.2⟩
    · repeat' split
      all_goals simp [ih.1]
    · split <;> simp [ih.2.1]
theorem tickSg_len (p : Panel) (l : List Sig) (t : Nat) (s : Mem) : (tickSg p l t s).senses.length = s.senses.length ∧ (tickSg p l t s).muted.length = p.sensors.toNat ∧ (tickSg p l t s).missed.length = p.doors.length ∧ (tickSg p l t s).stood.length = p.doors.length := by
  have h := sigFold_len t (l.take l.length) { power := s.power, senses := s.senses, muted := List.replicate p.sensors.toNat false, missed := List.replicate p.doors.length false, stood := List.replicate p.doors.length false }
  simpa [tickSg, sigTo] using h
theorem memOf_len (p : Panel) (l : List Sig) (t : Nat) : (memOf p l t).senses.length = p.sensors.toNat ∧ (memOf p l t).values.length = p.sensors.toNat ∧ (memOf p l t).ages.length = p.sensors.toNat := by
  induction t with
  | zero => simp [memOf]
  | succ t ih =>
    have h := tickSg_len p l t (memOf p l t)
    have k := tellTo_len (tickSg p l t (memOf p l t)) ((memOf p l t).values, (memOf p l t).ages) p.sensors.toNat
    simp only [memOf, tickVA]
    exact ⟨h.1.trans ih.1, k.1.trans ih.2.1, k.2.trans ih.2.2⟩
theorem ticksTo_len (p : Panel) (l : List Sig) (t : Nat) : (ticksTo p l t).length = t := by
  induction t with
  | zero => rfl
  | succ t ih => simp [ticksTo, ih]
/-- ages never grow by more than one a tick -/
def Bnd (l : List Int) (t : Nat) : Prop := ∀ i, i < l.length → 0 ≤ rd l i ∧ rd l i ≤ t
theorem rd_set (l : List Int) (k i : Nat) (v : Int) : rd (l.set k v) i = if k = i ∧ k < l.length then v else rd l i := by
  unfold rd
  simp only [List.getD_eq_getElem?_getD, List.getElem?_set]
  by_cases h : k = i
  · subst h
    by_cases h2 : k < l.length
    · simp [h2]
    · simp [h2, List.getElem?_eq_none (Nat.not_lt.1 h2)]
  · simp [h]
theorem tell_ages (s : Sg) (va : List Int × List Int) (t : Nat) (h : Bnd va.2 t) : ∀ n i, i < va.2.length → (i < n → 0 ≤ rd (tellTo s va n).2 i ∧ rd (tellTo s va n).2 i ≤ t + 1) ∧ (n ≤ i → rd (tellTo s va n).2 i = rd va.2 i) := by
  intro n
  induction n with
  | zero => intro i hi; exact ⟨by omega, fun _ => rfl⟩
  | succ n ih =>
    intro i hi
    have hl := (tellTo_len s va n).2
    have h1 := ih i hi
    have hb := h i hi
    unfold tellTo
    dsimp only
    split <;> simp only [rd_set, List.length_set, hl]
    · refine ⟨fun hlt => ?_, fun hge => ?_⟩
      · by_cases e : n = i
        · subst e; simp [hi]; omega
        · rw [if_neg (by omega), if_neg (by omega)]; exact h1.1 (by omega)
      · rw [if_neg (by omega), if_neg (by omega)]; exact h1.2 (by omega)
    · refine ⟨fun hlt => ?_, fun hge => ?_⟩
      · by_cases e : n = i
        · subst e
          rw [if_pos ⟨rfl, hi⟩, h1.2 (by omega)]; omega
        · rw [if_neg (by omega)]; exact h1.1 (by omega)
      · rw [if_neg (by omega)]; exact h1.2 (by omega)
theorem memOf_ages (p : Panel) (l : List Sig) (t : Nat) : Bnd (memOf p l t).ages t := by
  induction t with
  | zero => intro i hi; simp only [memOf, List.length_replicate] at hi; simp [memOf, rd, hi]
  | succ t ih =>
    intro i hi
    have h := tell_ages (tickSg p l t (memOf p l t)) ((memOf p l t).values, (memOf p l t).ages) t ih p.sensors.toNat i
    have hl := (memOf_len p l t).2.2
    have hl2 := (memOf_len p l (t + 1)).2.2
    have := (h (by simpa [hl, hl2] using hi)).1 (by simpa [hl2] using hi)
    simp only [memOf, tickVA]
    omega
end Go.Proofs.Ytjnencdmejhmjaa.Eng
