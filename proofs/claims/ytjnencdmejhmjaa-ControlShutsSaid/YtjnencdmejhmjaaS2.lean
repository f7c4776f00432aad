/- CONTROL: what is known in begin's loops. -/
import Derived.Test.YtjnencdmejhmjaaS1
namespace Go.Proofs.Ytjnencdmejhmjaa.Eng
open Go Go.RowKit
def rightB (p : Panel) (ticks : Int) (x : Sig) : Bool :=
  inR x.time 0 (ticks - 1) && (if x.kind = 1 then inR x.number 0 (p.sensors - 1) && inR x.value 0 9 else if x.kind = 2 then inR x.number 0 (p.sensors - 1) && decide (x.value = 0) else if x.kind = 3 ∨ x.kind = 6 then inR x.number 0 ((p.doors.length : Int) - 1) && decide (x.value = 0) else if x.kind = 4 ∨ x.kind = 5 then decide (x.number = 0) && decide (x.value = 0) else false)
theorem right_num {p : Panel} {ticks : Int} {x : Sig} (h : rightB p ticks x = true) : (x.kind = 1 ∨ x.kind = 2 → 0 ≤ x.number ∧ x.number < p.sensors) ∧ (x.kind = 3 ∨ x.kind = 6 → 0 ≤ x.number ∧ x.number < p.doors.length) := by
  simp only [rightB, Bool.and_eq_true, inR_iff] at h
  obtain ⟨_, h⟩ := h
  constructor
  · rintro (e | e) <;> simp [e, inR_iff] at h <;> omega
  · rintro (e | e) <;> simp [e, inR_iff] at h <;> omega
/-- the places of begin's memory -/
structure Locs where
  p : Loc
  t : Loc
  s : Loc
  v : Loc
  g : Loc
  o : Loc
  mu : Loc
  x : Loc
  sa : Loc
  he : Loc
  st : Loc
  mi : Loc
def nilS : AV := .v (.slice none 0 0)
/-- what every round of begin keeps -/
def baseE (p : Panel) (l : List Sig) (T : Nat) (L : Locs) (n : Nat) : Env :=
  [(49, .i (n : Nat)), (48, .i (T : Nat)), (2, .fz 4 (l.map Sig.av)), (3, .ptr 3 L.p 4 0 0), (4, .ptr 4 L.t 1 0 0), (9, .ref 190 L.o 6 0 n), (11, .ref 41 L.s 1 0 p.sensors.toNat), (12, .ref 44 L.v 1 0 p.sensors.toNat), (13, .ref 47 L.g 1 0 p.sensors.toNat)]
def baseH (p : Panel) (T : Nat) (L : Locs) (senses values ages : List Int) (ts : List Tick) : Heap :=
  [(3, L.p, .arr 4 [p.av]), (4, L.t, .arr 1 [.i (T : Nat)]), (41, L.s, .arr 1 (senses.map .i)), (44, L.v, .arr 1 (values.map .i)), (47, L.g, .arr 1 (ages.map .i)), (190, L.o, .arr 6 (ts.map Tick.av))]
/-- what a round keeps besides -/
def roundE (p : Panel) (l : List Sig) (T : Nat) (L : Locs) (n : Nat) (power : Bool) : Env :=
  (14, .i (n : Nat)) :: (10, .b power) :: (15, .ref 54 L.mu 1 0 p.sensors.toNat) :: (16, .ptr 16 L.x 6 0 0) :: (17, .ref 71 L.mi 1 0 p.doors.length) :: baseE p l T L n
def roundH (p : Panel) (T : Nat) (L : Locs) (s : Sg) (values ages said heard : List Int) (ts : List Tick) (c0 c1 c2 : AV) : Heap :=
  (54, L.mu, .arr 1 (s.muted.map .b)) :: (71, L.mi, .arr 1 (s.missed.map .b)) :: (66, L.st, .arr 1 (s.stood.map .b)) :: (58, L.sa, .arr 1 (said.map .i)) :: (62, L.he, .arr 1 (heard.map .i)) :: (16, L.x, .arr 6 [.agg [c0, c1, c2, .ref 58 L.sa 1 0 p.doors.length, .ref 62 L.he 1 0 p.doors.length, .ref 66 L.st 1 0 p.doors.length]]) :: baseH p T L s.senses values ages ts
def SgLen (p : Panel) (s : Sg) : Prop := s.senses.length = p.sensors.toNat ∧ s.muted.length = p.sensors.toNat ∧ s.missed.length = p.doors.length ∧ s.stood.length = p.doors.length
theorem SgLen.step {p : Panel} {s : Sg} (h : SgLen p s) (t : Int) (x : Sig) : SgLen p (sigStep t s x) := by
  obtain ⟨a, b, c, d⟩ := sigStep_len t s x
  exact ⟨a.trans h.1, b.trans h.2.1, c.trans h.2.2.1, d.trans h.2.2.2⟩
end Go.Proofs.Ytjnencdmejhmjaa.Eng
