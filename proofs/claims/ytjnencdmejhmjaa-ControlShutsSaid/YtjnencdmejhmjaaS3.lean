/- CONTROL: what rows, Play and Frees reckon, in plain words. -/
import Derived.Test.YtjnencdmejhmjaaS2
namespace Go.Proofs.Ytjnencdmejhmjaa.Eng
open Go Go.RowKit
set_option linter.unusedSimpArgs false
set_option linter.unusedVariables false
def beginE (p : Panel) (ticks : Int) (l : List Sig) : Int := if badPanel p then 80 else if inR ticks 0 1000 then (if decide ((l.length : Int) > 200) || l.any (fun x => !rightB p ticks x) then 81 else 0) else 1
def beginT (p : Panel) (ticks : Int) (l : List Sig) : List Tick := if beginE p ticks l = 0 then ticksTo p l ticks.toNat else []
def GoodDoors (p : Panel) : Prop := p.doors.length ≤ 8 ∧ ∀ g ∈ p.doors, g.whens.length ≤ 8 ∧ ∀ s ∈ g.whens, 0 ≤ s.sensor ∧ s.sensor < p.sensors
structure Door where
  left : Int
  shut : Bool
def Door.av (d : Door) : AV := .agg [.i d.left, .b d.shut]
def nextD (d : Door) (wait : Int) (power stood : Bool) (word : Int) : Door :=
  let left := if power = false ∨ word = 2 then 0 else if word = 1 then wait else max 0 (d.left - 1)
  ⟨left, power && decide (left > 0) && (!stood || d.shut)⟩
/-- the greatest Wait of the first n doors that may be shut -/
def waitTo (p : Panel) : Nat → Int
  | 0 => 0
  | n + 1 => match p.doors[n]? with
    | some g => if (g.whens.length : Int) > 0 then (if g.wait > waitTo p n then g.wait else waitTo p n) else waitTo p n
    | none => waitTo p n
def freesI (p : Panel) : Int := if waitTo p p.doors.length = 0 then 0 else p.limit + waitTo p p.doors.length - 1
def GoodW (p : Panel) : Prop := (∀ g ∈ p.doors, 1 ≤ g.wait ∧ g.wait ≤ 50) ∧ 1 ≤ p.limit ∧ p.limit ≤ 1000 ∧ p.doors.length ≤ 8
theorem goodW_of {p : Panel} (h : badPanel p = false) : GoodW p := by
  simp only [badPanel, Bool.or_eq_false_iff, Bool.not_eq_false', inR_iff, decide_eq_false_iff_not, List.any_eq_false] at h
  obtain ⟨⟨⟨⟨h1, h2⟩, _⟩, h4⟩, h5⟩ := h
  refine ⟨fun g hg => ?_, h4.1, h4.2, by omega⟩
  have := h5 g hg
  simp only [badGate, Bool.not_eq_true, Bool.or_eq_false_iff, Bool.not_eq_false', inR_iff] at this
  exact this.1.1
theorem waitTo_bnd {p : Panel} (h : GoodW p) (n : Nat) : 0 ≤ waitTo p n ∧ waitTo p n ≤ 50 := by
  induction n with
  | zero => exact ⟨by simp [waitTo], by simp [waitTo]⟩
  | succ n ih =>
    unfold waitTo
    split
    · rename_i g hg
      have := h.1 g (List.mem_of_getElem? hg)
      split
      · split <;> omega
      · exact ih
    · exact ih
def freesV (p : Panel) : Int := if badPanel p then 0 else freesI p
def withL (l : List Sig) (door : Int) (ts : List Int) : List Sig := l ++ ts.map fun t => ⟨t, 3, door, 0⟩
def waitOf (p : Panel) (i : Nat) : Int := match p.doors[i]? with
  | some g => g.wait
  | none => 0
def door0 : Door := ⟨0, false⟩
def doorAt (ds : List Door) (i : Nat) : Door := ds.getD i door0
theorem doorAt_get {ds : List Door} {i : Nat} (h : i < ds.length) : ds[i]? = some (doorAt ds i) := by simp [doorAt, h]
def newDoor (p : Panel) (x : Tick) (ds : List Door) (i : Nat) : Door := nextD (doorAt ds i) (waitOf p i) x.power (rdB x.stood i) (rd x.heard i)
/-- the doors, and the row, behind the first n doors of a tick -/
def inTo (p : Panel) (x : Tick) (ds : List Door) : Nat → List Door × Nat
  | 0 => (ds, 0)
  | i + 1 => let q := inTo p x ds i; (q.1.set i (newDoor p x q.1 i), if (newDoor p x q.1 i).shut = true then q.2 + 2 ^ i else q.2)
/-- the doors, and the rows, behind the first n ticks -/
def outTo (p : Panel) (ts : List Tick) : Nat → List Door × List Nat
  | 0 => (List.replicate p.doors.length door0, [])
  | n + 1 => match ts[n]? with
    | some x => let q := outTo p ts n; ((inTo p x q.1 p.doors.length).1, q.2 ++ [(inTo p x q.1 p.doors.length).2])
    | none => outTo p ts n
def DoorsOk (ds : List Door) : Prop := ∀ d ∈ ds, 0 ≤ d.left ∧ d.left ≤ 50
theorem nextD_ok {d : Door} {w : Int} {pw st : Bool} {wd : Int} (h : 0 ≤ d.left ∧ d.left ≤ 50) (hw : 0 ≤ w ∧ w ≤ 50) : 0 ≤ (nextD d w pw st wd).left ∧ (nextD d w pw st wd).left ≤ 50 := by
  simp only [nextD]
  repeat' split
  all_goals omega
theorem waitOf_ok {p : Panel} (h : GoodW p) (i : Nat) : 0 ≤ waitOf p i ∧ waitOf p i ≤ 50 := by
  unfold waitOf
  split
  · rename_i g hg; have := h.1 g (List.mem_of_getElem? hg); omega
  · omega
theorem doorAt_ok {ds : List Door} (h : DoorsOk ds) (i : Nat) : 0 ≤ (doorAt ds i).left ∧ (doorAt ds i).left ≤ 50 := by
  by_cases hi : i < ds.length
  · exact h _ (List.mem_of_getElem? (doorAt_get hi))
  · simp [doorAt, List.getElem?_eq_none (Nat.not_lt.1 hi), door0]
theorem inTo_ok {p : Panel} (hw : GoodW p) {x : Tick} {ds : List Door} (h : DoorsOk ds) (n : Nat) : DoorsOk (inTo p x ds n).1 ∧ (inTo p x ds n).1.length = ds.length ∧ (inTo p x ds n).2 < 2 ^ n := by
  induction n with
  | zero => exact ⟨h, rfl, by simp [inTo]⟩
  | succ n ih =>
    obtain ⟨h1, h2, h3⟩ := ih
    simp only [inTo]
    refine ⟨fun d hd => ?_, by simp [h2], ?_⟩
    · rcases List.mem_or_eq_of_mem_set hd with hd | rfl
      · exact h1 d hd
      · exact nextD_ok (doorAt_ok h1 n) (waitOf_ok hw n)
    · have : 2 ^ (n + 1) = 2 ^ n + 2 ^ n := by rw [Nat.pow_succ]; omega
      split <;> omega
theorem outTo_ok {p : Panel} (hw : GoodW p) (ts : List Tick) (n : Nat) : DoorsOk (outTo p ts n).1 ∧ (outTo p ts n).1.length = p.doors.length ∧ (n ≤ ts.length → (outTo p ts n).2.length = n) := by
  induction n with
  | zero => exact ⟨fun d hd => by simp only [outTo] at hd; rw [(List.mem_replicate.1 hd).2]; decide, by simp [outTo], fun _ => rfl⟩
  | succ n ih =>
    obtain ⟨h1, h2, h3⟩ := ih
    unfold outTo
    split
    · rename_i x hx
      obtain ⟨q1, q2, _⟩ := inTo_ok hw (x := x) h1 p.doors.length
      exact ⟨q1, q2.trans h2, fun h => by simp [h3 (by omega)]⟩
    · rename_i hx
      refine ⟨h1, h2, fun h => ?_⟩
      rw [List.getElem?_eq_none_iff] at hx; omega
theorem ors : ∀ (r : Fin 256) (i : Fin 8), r.val < 2 ^ i.val → (IntKind.i64.wrap (BitVec.ofInt 64 (r.val : Int) ||| BitVec.ofInt 64 (IntKind.i64.wrap (1 * 2 ^ min (i.val : Int).toNat 64))).toNat) = ((r.val + 2 ^ i.val : Nat) : Int) := by decide +kernel
theorem or_row {r i : Nat} (hi : i < 8) (hr : r < 2 ^ i) : IntKind.i64.wrap (BitVec.ofInt 64 (r : Int) ||| BitVec.ofInt 64 (IntKind.i64.wrap (1 * 2 ^ min (i : Int).toNat 64))).toNat = ((r + 2 ^ i : Nat) : Int) := by
  have h1 : (2 : Nat) ^ i ≤ 2 ^ 7 := Nat.pow_le_pow_right (by omega) (by omega)
  exact ors ⟨r, by omega⟩ ⟨i, hi⟩ hr
def nats (l : List Nat) : List AV := l.map fun n => .i (n : Nat)
def inAll (p : Panel) (ts : List Tick) : List Nat := (outTo p ts ts.length).2
def playE (p : Panel) (ticks : Int) (l : List Sig) : Int := beginE p ticks l
def playR (p : Panel) (ticks : Int) (l : List Sig) : List Nat := if beginE p ticks l = 0 then inAll p (ticksTo p l ticks.toNat) else []
theorem ticksTo_rows (p : Panel) (l : List Sig) (T : Nat) : ∀ x ∈ ticksTo p l T, x.heard.length = p.doors.length ∧ x.stood.length = p.doors.length := by
  induction T with
  | zero => intro x hx; simp [ticksTo] at hx
  | succ T ih =>
    intro x hx
    rw [ticksTo, List.mem_append] at hx
    rcases hx with hx | hx
    · exact ih x hx
    · rw [List.mem_singleton] at hx
      subst hx
      have h1 := tickSg_len p l T (memOf p l T)
      obtain ⟨_, h2, _, _, _, h3⟩ := doorsTo_len p T (tickSg p l T (memOf p l T)).missed ⟨(tickSg p l T (memOf p l T)).power, (tickVA p l T (memOf p l T)).1, (tickVA p l T (memOf p l T)).2, List.replicate p.doors.length 0, List.replicate p.doors.length 0, (tickSg p l T (memOf p l T)).stood⟩ p.doors.length
      refine ⟨h2.trans (by simp), ?_⟩
      show (doorsTo _ _ _ _ _).stood.length = _
      rw [h3]; exact h1.2.2.2
end Go.Proofs.Ytjnencdmejhmjaa.Eng
