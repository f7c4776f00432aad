/- CONTROL: the chapter's things as plain structures, with their abstract values. -/
import Derived.Test.YtjnencdmejhmjaaEB
namespace Go.Proofs.Ytjnencdmejhmjaa.Eng
open Go Go.RowKit
structure Sense where
  sensor : Int
  value : Int
  neg : Bool
structure Gate where
  wait : Int
  whens : List Sense
structure Panel where
  sensors : Int
  doors : List Gate
  stale : Int
  limit : Int
structure Sig where
  time : Int
  kind : Int
  number : Int
  value : Int
structure Tick where
  power : Bool
  values : List Int
  ages : List Int
  said : List Int
  heard : List Int
  stood : List Bool
def Sense.av (x : Sense) : AV := .agg [.i x.sensor, .i x.value, .b x.neg]
def Gate.av (g : Gate) : AV := .agg [.i g.wait, .fz 3 (g.whens.map Sense.av)]
def Panel.cells (p : Panel) : List AV := [.i p.sensors, .fz 2 (p.doors.map Gate.av), .i p.stale, .i p.limit]
def Panel.av (p : Panel) : AV := .agg p.cells
def Sig.cells (x : Sig) : List AV := [.i x.time, .i x.kind, .i x.number, .i x.value]
def Sig.av (x : Sig) : AV := .agg x.cells
def ints (l : List Int) : AV := .fz 1 (l.map .i)
def bools (l : List Bool) : AV := .fz 1 (l.map .b)
def Tick.cells (x : Tick) : List AV := [.b x.power, ints x.values, ints x.ages, ints x.said, ints x.heard, bools x.stood]
def Tick.av (x : Tick) : AV := .agg x.cells
def inR (n lo hi : Int) : Bool := decide (n ≥ lo) && decide (n ≤ hi)
theorem inR_iff {n lo hi : Int} : inR n lo hi = true ↔ lo ≤ n ∧ n ≤ hi := by simp [inR]
def idxI {α : Type} (p : α → Bool) (xs : List α) : Int := if xs.any p then (xs.findIdx p : Nat) else -1
theorem idxI_ge {α : Type} (p : α → Bool) (xs : List α) : decide (idxI p xs ≥ 0) = xs.any p := by
  unfold idxI
  cases h : xs.any p <;> simp
theorem idxI_at {α : Type} {p : α → Bool} {xs : List α} {k : Nat} (hk : k < xs.length) (hI : ∀ i x, i < k → xs[i]? = some x → p x = false) (h : p xs[k] = true) : idxI p xs = (k : Nat) := by
  unfold idxI
  have h1 : xs.any p = true := List.any_eq_true.2 ⟨xs[k], by simp, h⟩
  have h2 : xs.findIdx p = k := by
    rw [List.findIdx_eq hk]
    refine ⟨h, fun j hj => ?_⟩
    exact hI j _ hj (by simp)
  rw [h1, if_pos rfl, h2]
theorem idxI_none {α : Type} {p : α → Bool} {xs : List α} {k : Nat} (hk : k = xs.length) (hI : ∀ i x, i < k → xs[i]? = some x → p x = false) : idxI p xs = -1 := by
  unfold idxI
  rw [if_neg]
  simp only [List.any_eq_true, not_exists, not_and]
  intro x hx
  obtain ⟨i, hi, rfl⟩ := List.getElem_of_mem hx
  have hh := hI i xs[i] (by omega) (by simp)
  simp [hh]
/-- what a door's literal does wrong in a panel with so many sensors -/
def badSense (sensors : Int) (x : Sense) : Bool := !inR x.sensor 0 (sensors - 1) || !inR x.value 0 9
def badGate (sensors : Int) (g : Gate) : Bool := !inR g.wait 1 50 || decide ((g.whens.length : Int) > 8) || g.whens.any (badSense sensors)
def badPanel (p : Panel) : Bool := !inR p.sensors 0 12 || decide ((p.doors.length : Int) > 8) || !inR p.stale 1 50 || !inR p.limit 1 1000 || p.doors.any (badGate p.sensors)
def checkI (p : Panel) : Int := if badPanel p then 80 else 0
/-- all lists shorter than this: the machine could not hold more -/
def Panel.small (p : Panel) : Prop := p.doors.length ≤ 9223372036854775807 ∧ ∀ g ∈ p.doors, g.whens.length ≤ 9223372036854775807
end Go.Proofs.Ytjnencdmejhmjaa.Eng
