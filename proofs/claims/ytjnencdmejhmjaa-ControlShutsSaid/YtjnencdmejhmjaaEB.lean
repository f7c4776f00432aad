/- ENGINE, second half: whole bodies, calls, loops, regions that draw their order, and the words of the walk. -/
import Derived.Test.YtjnencdmejhmjaaEA
import Derived.Deep.LoopGhost
import Derived.ChangeArms
import Derived.ChangeOld
import Derived.DataReads
import Derived.DataElems
import Derived.Below
import Derived.WideShapes
import Derived.ChangeShapes
namespace Go.Proofs.Ytjnencdmejhmjaa.Eng
open Go Go.RowKit
set_option linter.unusedSimpArgs false
set_option linter.unusedVariables false

structure Ins where
  d : Option Nat
  q : IOp
  g : Option (Nat × Bool)
/-- In which order a region that draws its order is looked at: what only reads as soon as it can; then each of the others that may come next, with those that read before it and may come behind it. -/
inductive Plan where
  | done
  | none
  | still (i : Nat) (p : Plan)
  | eff (i : Nat) (js : List Nat) (p alt : Plan)
inductive IR where
  | skip
  | ins (l : List Ins)
  | drawn (l : List Ins) (p : Plan)
  | seq (a b : IR)
  | cond (x : Opd) (a b : IR)
  | block (id : Nat) (a : IR)
  | loop (a : IR)
  | exit (id : Nat)
  | ret
def compIns (P : Program) (N : Nat) (ops : Array Oper) (o : Oper) : Option Ins :=
  (compOp P o.op).bind fun q => if o.dst.all (· < N) then
    (match o.guard with
    | none => some ⟨o.dst, q, none⟩
    | some (j, b) => ((ops[j]?).bind (·.dst)).bind fun t => if t < N then some ⟨o.dst, q, some (t, b)⟩ else none) else none
def compInss (P : Program) (N : Nat) (ops : Array Oper) : List Oper → Option (List Ins)
  | [] => some []
  | o :: r => (compIns P N ops o).bind fun i => (compInss P N ops r).bind fun l => some (i :: l)
def dpre (o : Oper) : List Nat := (o.after.toList.filter (Region.binds .any)).map (·.on)
def closureGo : List (List Nat) → List Oper → List (List Nat)
  | acc, [] => acc
  | acc, o :: r => closureGo (acc ++ [((dpre o).flatMap fun j => j :: acc.getD j []).eraseDups]) r
def Ins.still (i : Ins) : Bool := match i.q with
  | .asg _ => false
  | q => q.isVal && i.d.isSome
def stillAt (l : List Ins) (i : Nat) : Bool := (l[i]?).any Ins.still
def readyAt (b : List (List Nat)) (dn : List Nat) (i : Nat) : Bool := !dn.contains i && (b.getD i []).all dn.contains
def mkPlan (l : List Ins) (b : List (List Nat)) : Nat → List Nat → Plan
  | 0, _ => .none
  | k + 1, dn =>
    match (List.range l.length).find? fun i => stillAt l i && readyAt b dn i with
    | some i => .still i (mkPlan l b k (i :: dn))
    | none =>
      match (List.range l.length).filter (readyAt b dn) with
      | [] => .done
      | rs => rs.foldr (fun i alt => .eff i (dn.filter fun j => stillAt l j && !(b.getD i []).contains j) (mkPlan l b k (i :: dn)) alt) .none
def IOp.reads : IOp → List Nat
  | .mov x | .asg x | .un _ x | .conv _ x | .load _ x | .nilck x | .faddr _ x | .fld _ _ x | .ext _ x | .len x | .box x | .clr _ _ x | .eqnil _ x => rd1 x
  | .pick c a b => rd1 c ++ rd1 a ++ rd1 b
  | .bin _ x y | .boolq _ x y | .eqs _ _ x y | .iaddr _ x y | .store _ x y | .mks _ _ _ x y | .app _ _ x y | .lkp _ _ _ x y => rd1 x ++ rd1 y
  | .slc _ x lo hi => rd1 x ++ rdo lo ++ rdo hi
  | .minn x xs | .maxx x xs => rd1 x ++ rds xs
  | .build _ ps => ps.flatMap fun p => rd1 p.2.2
  | .mkf _ xs | .call _ xs => rds xs
  | .alloc _ | .mkm => []
  | .bsl _ _ _ ps => ps.flatMap fun p => rd1 p.2
  | .callv x xs => rd1 x ++ rds xs
  | .mup _ x y z => rd1 x ++ rd1 y ++ rd1 z
where
  rd1 : Opd → List Nat
    | .t n => [n]
    | _ => []
  rdo : Option Opd → List Nat
    | some (.t n) => [n]
    | _ => []
  rds (xs : List Opd) : List Nat := xs.flatMap rd1
def Ins.reads (i : Ins) : List Nat := (match i.g with | some (t, _) => [t] | none => []) ++ i.q.reads
/-- No operation that only reads writes what another one reads or writes, but those behind it. -/
def ssa (l : List Ins) (b : List (List Nat)) : Bool :=
  (List.range l.length).all fun q => !stillAt l q || (List.range l.length).all fun i =>
    match l[q]?, l[i]? with
    | some iq, some ii => match iq.d with
      | some t => (!ii.reads.contains t || (b.getD i []).contains q) && (i == q || ii.d != some t)
      | none => false
    | _, _ => false
def linOK (ops : Array Oper) : Bool :=
  (Region.linearise .any ops 0).length == ops.size && (Region.linearise .text ops 0).length == ops.size && (Region.linearise .gc ops 0).length == ops.size
def edgesOK (ops : List Oper) : Bool := (ops.zipIdx).all fun p => (dpre p.1).all (· < p.2)
def comp (P : Program) (N : Nat) : Code → Option IR
  | .skip => some .skip
  | .region _ ops false => (compInss P N ops ops.toList).bind fun l => some (.ins l)
  | .region _ ops true => (compInss P N ops ops.toList).bind fun l => if linOK ops && edgesOK ops.toList && ssa l (closureGo [] ops.toList) then some (.drawn l (mkPlan l (closureGo [] ops.toList) (ops.size + 1) [])) else none
  | .seq a b => (comp P N a).bind fun x => (comp P N b).bind fun y => some (.seq x y)
  | .cond c a b => (compOpd c).bind fun c => (comp P N a).bind fun x => (comp P N b).bind fun y => some (.cond c x y)
  | .block id a => (comp P N a).bind fun x => some (.block id x)
  | .loop a => (comp P N a).bind fun x => some (.loop x)
  | .exit id => some (.exit id)
  | .ret => some .ret
  | _ => none

/-- One operation, its guard asked first. -/
def Ins.run (P : Program) (i : Ins) (E : Env) (H : Heap) (K : Env → Heap → Prop) : Prop :=
  match i.g with
  | none => i.q.run P (i.d.getD 0) E.opd H fun x H' => K (E.put i.d x) H'
  | some (t, b) =>
    match E.get t with
    | some (.v u) => (u = .bool b → i.q.run P (i.d.getD 0) E.opd H fun x H' => K (E.put i.d x) H') ∧ (u ≠ .bool b → K (E.put i.d (some (.v undef))) H)
    | _ => False
def insRun (P : Program) : List Ins → Env → Heap → (Env → Heap → Prop) → Prop
  | [], E, H, K => K E H
  | i :: l, E, H, K => i.run P E H fun E' H' => insRun P l E' H' K
variable {P : Program} {N : Nat}
/-- What code does to what is known. -/
def Lift (N : Nat) (Keep F : Nat → Prop) (w : World) (Q : Exit → Env → Heap → Prop) : Exit → Act → World → Prop :=
  fun e a' w' => ∃ E' H' F', Q e E' H' ∧ Grow Keep F F' w w' ∧ St N Keep F' E' H' a' w'
def AWP (P : Program) (N : Nat) (c : IR) (E : Env) (H : Heap) (Q : Exit → Env → Heap → Prop) : Prop :=
  ∀ code, comp P N code = some c → ∀ (Keep F : Nat → Prop) (a : Act) (w : World), St N Keep F E H a w → code.wp P (Lift N Keep F w Q) a w
def then_ (K : Env → Heap → Prop) (Q : Exit → Env → Heap → Prop) : Exit → Env → Heap → Prop
  | .normal => K
  | e => Q e
def inBlock_ (id : Nat) (Q : Exit → Env → Heap → Prop) : Exit → Env → Heap → Prop
  | .exit i => if i = id then Q .normal else Q (.exit i)
  | e => Q e

theorem ins_sound {Keep F : Nat → Prop} {w : World} {E : Env} {H : Heap} {a : Act} (hS : St N Keep F E H a w) {ops : Array Oper} {o : Oper} {i : Ins} (hc : compIns P N ops o = some i) {K : Env → Heap → Prop} (h : i.run P E H K)
    {Kc : Act → World → Prop} {Q : Exit → Act → World → Prop} (hk : ∀ E' H' F' a' w', K E' H' → Grow Keep F F' w w' → St N Keep F' E' H' a' w' → Kc a' w') :
    if Region.wanted o (yielded ops a.tmps) then o.wp P a w Kc Q else Kc (a.put o.dst undef) w := by
  simp only [compIns, Option.bind_eq_some_iff] at hc
  obtain ⟨q, hq, hc⟩ := hc
  split at hc
  · rename_i hd
    have hd' : ∀ t, o.dst = some t → t < N := fun t ht => by rw [ht] at hd; simpa using hd
    split at hc
    · rename_i hg
      injection hc with hc; subst hc
      simp only [Region.wanted, hg, if_true]
      exact op_sound (K := fun x H' => K (E.put o.dst x) H') hS o hq hd' (o.dst.getD 0) h (fun x H' F' a' w' h1 h2 h3 => hk _ _ F' a' w' h1 h2 h3)
    · rename_i j b hg
      simp only [Option.bind_eq_some_iff] at hc
      obtain ⟨t, ⟨oj, hoj, hdj⟩, hc⟩ := hc
      split at hc
      · rename_i htN
        injection hc with hc; subst hc
        simp only [Ins.run] at h
        split at h
        · rename_i c hget
          have hv := (hS.env t _ hget).inv_v
          have hlt : t < a.tmps.size := by rw [hS.tsz]; exact htN
          have hv' : a.tmps[t] = c := by rw [Array.getD_eq_getD_getElem?] at hv; simpa [hlt] using hv
          obtain ⟨h1, h2⟩ := h
          by_cases e : c = .bool b
          · subst e
            have hy : yielded ops a.tmps j = some b := by simp [yielded, hoj, hdj, hlt, hv']
            simp only [Region.wanted, hg, hy]
            simp only [beq_self_eq_true, if_true]
            exact op_sound (K := fun x H' => K (E.put o.dst x) H') hS o hq hd' (o.dst.getD 0) (h1 rfl) (fun x H' F' a' w' h1 h2 h3 => hk _ _ F' a' w' h1 h2 h3)
          · have e1 : (yielded ops a.tmps j == some b) = false := by
              simp only [yielded, hoj, hdj, Option.bind_some, Array.getElem?_eq_getElem hlt, hv']
              cases c <;> first | rfl | (simp; intro hh; exact e (by rw [hh]))
            simp only [Region.wanted, hg]
            rw [e1]
            simp only [Bool.false_eq_true, if_false]
            exact hk _ _ F _ w (h2 e) (Grow.refl _ _ _) (hS.put (Grow.refl _ _ _) hS.heap o.dst (some (.v undef)) undef hd' (fun y hy => by injection hy with hy; subst hy; exact .v _))
        · exact h.elim
      · simp at hc
  · simp at hc
theorem inss_sound {Keep F0 : Nat → Prop} {w0 : World} {ops : Array Oper} {Q : Exit → Env → Heap → Prop} : ∀ (k : Nat) (l : List Ins), compInss P N ops (ops.toList.drop k) = some l → ∀ (E : Env) (H : Heap) (F : Nat → Prop) (a : Act) (w : World), St N Keep F E H a w → Grow Keep F0 F w0 w → insRun P l E H (Q .normal) →
    wpOps P ops (Lift N Keep F0 w0 Q) (List.range' k (ops.size - k)) a w := by
  intro k l
  induction l generalizing k with
  | nil =>
    intro hc E H F a w hS hg h
    have hk : ops.size ≤ k := by
      rcases Nat.lt_or_ge k ops.size with hlt | hge
      · have : ops.toList.drop k = ops[k] :: ops.toList.drop (k + 1) := by
          rw [List.drop_eq_getElem_cons (by simpa using hlt)]; simp
        rw [this] at hc
        simp only [compInss, Option.bind_eq_some_iff] at hc
        obtain ⟨_, _, _, _, hc⟩ := hc
        simp at hc
      · exact hge
    have : ops.size - k = 0 := by omega
    rw [this]
    exact ⟨E, H, F, h, hg, hS⟩
  | cons i l ih =>
    intro hc E H F a w hS hg h
    have hk : k < ops.size := by
      rcases Nat.lt_or_ge k ops.size with hlt | hge
      · exact hlt
      · rw [List.drop_eq_nil_of_le (by simpa using hge)] at hc
        simp [compInss] at hc
    have hd : ops.toList.drop k = ops[k] :: ops.toList.drop (k + 1) := by
      rw [List.drop_eq_getElem_cons (by simpa using hk)]; simp
    rw [hd] at hc
    simp only [compInss, Option.bind_eq_some_iff] at hc
    obtain ⟨i', hi', l', hl', hc⟩ := hc
    injection hc with hc
    simp only [List.cons.injEq] at hc
    obtain ⟨rfl, rfl⟩ := hc
    have hr : List.range' k (ops.size - k) = k :: List.range' (k + 1) (ops.size - (k + 1)) := by
      rw [show ops.size - k = (ops.size - (k + 1)) + 1 by omega, List.range'_succ]
    rw [hr]
    simp only [wpOps, Array.getElem?_eq_getElem hk]
    have hs := ins_sound (P := P) (Q := Lift N Keep F0 w0 Q) (Kc := wpOps P ops (Lift N Keep F0 w0 Q) (List.range' (k + 1) (ops.size - (k + 1)))) hS hi' h
      (fun E' H' F' a' w' h1 h2 h3 => ih (k + 1) hl' E' H' F' a' w' h3 (hg.trans h2) h1)
    split at hs
    · rename_i hw; rw [if_pos hw]; exact .inl hs
    · rename_i hw; rw [if_neg hw]; exact hs

theorem AWP.ins {l : List Ins} {E : Env} {H : Heap} {Q : Exit → Env → Heap → Prop} (h : insRun P l E H (Q .normal)) : AWP P N (.ins l) E H Q := by
  intro code hc Keep F a w hS
  cases code with
  | region id ops d =>
    cases d with
    | false =>
      simp only [comp, Option.bind_eq_some_iff] at hc
      obtain ⟨l', hl', hc⟩ := hc
      injection hc with hc; injection hc with hc; subst hc
      refine wp_region ?_
      have := inss_sound (Q := Q) 0 l' (by simpa using hl') E H F a w hS (Grow.refl _ _ _) h
      rw [List.range_eq_range']
      simpa using this
    | true =>
      simp only [comp, Option.bind_eq_some_iff] at hc
      obtain ⟨_, _, hc⟩ := hc
      split at hc <;> simp at hc
  | _ => simp [comp, Option.bind_eq_some_iff] at hc
theorem AWP.mono {c : IR} {E : Env} {H : Heap} {Q Q' : Exit → Env → Heap → Prop} (h : AWP P N c E H Q) (hq : ∀ e E H, Q e E H → Q' e E H) : AWP P N c E H Q' :=
  fun code hc Keep F a w hS => wp_mono (h code hc Keep F a w hS) fun e a' w' ⟨E', H', F', h1, h2, h3⟩ => ⟨E', H', F', hq _ _ _ h1, h2, h3⟩
/-- A weaker knowledge of the same state. -/
def Weak (N : Nat) (E : Env) (H : Heap) (E' : Env) (H' : Heap) : Prop :=
  ∀ (Keep F : Nat → Prop) (a : Act) (w : World), St N Keep F E H a w → ∃ F', Grow Keep F F' w w ∧ St N Keep F' E' H' a w
theorem Lift.grow {Keep F F' : Nat → Prop} {w w' : World} {Q : Exit → Env → Heap → Prop} {e : Exit} {a : Act} {w2 : World} (g : Grow Keep F F' w w') (h : Lift N Keep F' w' Q e a w2) : Lift N Keep F w Q e a w2 := by
  obtain ⟨E', H', F2, h1, h2, h3⟩ := h
  exact ⟨E', H', F2, h1, g.trans h2, h3⟩
theorem AWP.weak {c : IR} {E E' : Env} {H H' : Heap} {Q : Exit → Env → Heap → Prop} (hw : Weak N E H E' H') (h : AWP P N c E' H' Q) : AWP P N c E H Q := by
  intro code hc Keep F a w hS
  obtain ⟨F', g, hS'⟩ := hw Keep F a w hS
  exact wp_mono (h code hc Keep F' a w hS') fun e a' w' hl => hl.grow g
theorem AWP.skip {E : Env} {H : Heap} {Q : Exit → Env → Heap → Prop} (h : Q .normal E H) : AWP P N .skip E H Q := by
  intro code hc Keep F a w hS
  cases code with
  | skip => exact wp_skip ⟨E, H, F, h, Grow.refl _ _ _, hS⟩
  | region id ops d =>
    cases d
    · simp [comp, Option.bind_eq_some_iff] at hc
    · simp only [comp, Option.bind_eq_some_iff] at hc
      obtain ⟨_, _, hc⟩ := hc
      split at hc <;> simp at hc
  | _ => simp [comp, Option.bind_eq_some_iff] at hc
theorem AWP.exit {id : Nat} {E : Env} {H : Heap} {Q : Exit → Env → Heap → Prop} (h : Q (.exit id) E H) : AWP P N (.exit id) E H Q := by
  intro code hc Keep F a w hS
  cases code with
  | exit id' =>
    simp [comp] at hc; subst hc
    exact wp_exit ⟨E, H, F, h, Grow.refl _ _ _, hS⟩
  | region id ops d =>
    cases d
    · simp [comp, Option.bind_eq_some_iff] at hc
    · simp only [comp, Option.bind_eq_some_iff] at hc
      obtain ⟨_, _, hc⟩ := hc
      split at hc <;> simp at hc
  | _ => simp [comp, Option.bind_eq_some_iff] at hc
theorem AWP.ret {E : Env} {H : Heap} {Q : Exit → Env → Heap → Prop} (h : Q .ret E H) : AWP P N .ret E H Q := by
  intro code hc Keep F a w hS
  cases code with
  | ret => exact wp_ret ⟨E, H, F, h, Grow.refl _ _ _, hS⟩
  | region id ops d =>
    cases d
    · simp [comp, Option.bind_eq_some_iff] at hc
    · simp only [comp, Option.bind_eq_some_iff] at hc
      obtain ⟨_, _, hc⟩ := hc
      split at hc <;> simp at hc
  | _ => simp [comp, Option.bind_eq_some_iff] at hc
theorem AWP.seq {x y : IR} {E : Env} {H : Heap} {Q : Exit → Env → Heap → Prop} (h : ∀ K : Env → Heap → Prop, (∀ E' H', AWP P N y E' H' Q → K E' H') → AWP P N x E H (then_ K Q)) : AWP P N (.seq x y) E H Q := by
  intro code hc Keep F a w hS
  cases code with
  | seq x' y' =>
    simp only [comp, Option.bind_eq_some_iff] at hc
    obtain ⟨x2, hx, y2, hy, hc⟩ := hc
    injection hc with hc; injection hc with h1 h2; subst h1; subst h2
    refine wp_seq (wp_mono (h _ (fun E' H' hK => hK) x' hx Keep F a w hS) ?_)
    rintro e a' w' ⟨E', H', F', h1, h2, h3⟩
    cases e with
    | normal => exact wp_mono (h1 y' hy Keep F' a' w' h3) fun e a' w' hl => hl.grow h2
    | _ => exact ⟨E', H', F', h1, h2, h3⟩
  | region id ops d =>
    cases d
    · simp [comp, Option.bind_eq_some_iff] at hc
    · simp only [comp, Option.bind_eq_some_iff] at hc
      obtain ⟨_, _, hc⟩ := hc
      split at hc <;> simp at hc
  | _ => simp [comp, Option.bind_eq_some_iff] at hc
theorem AWP.cond {x : Opd} {t : Bool} {c d : IR} {E : Env} {H : Heap} {Q : Exit → Env → Heap → Prop} (hx : E.opd x = some (.v (.bool t))) (h1 : t = true → AWP P N c E H Q) (h2 : t = false → AWP P N d E H Q) : AWP P N (.cond x c d) E H Q := by
  intro code hc Keep F a w hS
  cases code with
  | cond x' c' d' =>
    simp only [comp, Option.bind_eq_some_iff] at hc
    obtain ⟨x2, hx2, c2, hc2, d2, hd2, hc⟩ := hc
    injection hc with hc; injection hc with e1 e2 e3; subst e1; subst e2; subst e3
    have hv : a.eval x' = .bool t := by
      cases x' with
      | tmp n => simp [compOpd] at hx2; subst hx2; exact (hS.env n _ hx).inv_v
      | const v => simp [compOpd] at hx2; subst hx2; simp [Env.opd, AV.ofV] at hx; cases v <;> simp_all [Act.eval]
      | global g => simp [compOpd] at hx2
      | func f => simp [compOpd] at hx2; subst hx2; simp [Env.opd] at hx
    exact wp_cond_split hv (fun e => h1 e c' hc2 Keep F a w hS) (fun e => h2 e d' hd2 Keep F a w hS)
  | region id ops d =>
    cases d
    · simp [comp, Option.bind_eq_some_iff] at hc
    · simp only [comp, Option.bind_eq_some_iff] at hc
      obtain ⟨_, _, hc⟩ := hc
      split at hc <;> simp at hc
  | _ => simp [comp, Option.bind_eq_some_iff] at hc
theorem AWP.block {id : Nat} {c : IR} {E : Env} {H : Heap} {Q : Exit → Env → Heap → Prop} (h : AWP P N c E H (inBlock_ id Q)) : AWP P N (.block id c) E H Q := by
  intro code hc Keep F a w hS
  cases code with
  | block id' c' =>
    simp only [comp, Option.bind_eq_some_iff] at hc
    obtain ⟨c2, hc2, hc⟩ := hc
    injection hc with hc; injection hc with e1 e2; subst e1; subst e2
    refine wp_block (wp_mono (h c' hc2 Keep F a w hS) ?_)
    rintro e a' w' ⟨E', H', F', h1, h2, h3⟩
    cases e with
    | exit i =>
      simp only [inBlock_] at h1
      simp only [Exit.inBlock]
      split at h1
      · rename_i e; rw [if_pos e]; exact ⟨E', H', F', h1, h2, h3⟩
      · rename_i e; rw [if_neg e]; exact ⟨E', H', F', h1, h2, h3⟩
    | _ => exact ⟨E', H', F', h1, h2, h3⟩
  | region id ops d =>
    cases d
    · simp [comp, Option.bind_eq_some_iff] at hc
    · simp only [comp, Option.bind_eq_some_iff] at hc
      obtain ⟨_, _, hc⟩ := hc
      split at hc <;> simp at hc
  | _ => simp [comp, Option.bind_eq_some_iff] at hc
/-- A loop: a relation that bears a number, which every round lowers. -/
theorem AWP.loop {c : IR} (I : Nat → Env → Heap → Prop) (n0 : Nat) {E : Env} {H : Heap} {Q : Exit → Env → Heap → Prop} (h0 : I n0 E H)
    (round : ∀ n E H, I n E H → ∀ K : Env → Heap → Prop, (∀ m E' H', m < n → I m E' H' → K E' H') → AWP P N c E H (then_ K Q)) : AWP P N (.loop c) E H Q := by
  intro code hc Keep F a w hS
  cases code with
  | loop c' =>
    simp only [comp, Option.bind_eq_some_iff] at hc
    obtain ⟨c2, hc2, hc⟩ := hc
    injection hc with hc; injection hc with e1; subst e1
    refine wp_loop_ghost (fun n a' w' => ∃ E' H' F', I n E' H' ∧ Grow Keep F F' w w' ∧ St N Keep F' E' H' a' w') n0 ⟨E, H, F, h0, Grow.refl _ _ _, hS⟩ ?_
    rintro n a' w' ⟨E', H', F', h1, h2, h3⟩
    refine wp_mono (round n E' H' h1 (fun E2 H2 => ∃ m, m < n ∧ I m E2 H2) (fun m E2 H2 hm hI => ⟨m, hm, hI⟩) c' hc2 Keep F' a' w' h3) ?_
    rintro e a2 w2 ⟨E2, H2, F2, q1, q2, q3⟩
    cases e with
    | normal =>
      obtain ⟨m, hm, hI⟩ := q1
      exact ⟨m, hm, E2, H2, F2, hI, h2.trans q2, q3⟩
    | _ => exact ⟨E2, H2, F2, q1, h2.trans q2, q3⟩
  | region id ops d =>
    cases d
    · simp [comp, Option.bind_eq_some_iff] at hc
    · simp only [comp, Option.bind_eq_some_iff] at hc
      obtain ⟨_, _, hc⟩ := hc
      split at hc <;> simp at hc
  | _ => simp [comp, Option.bind_eq_some_iff] at hc
end Go.Proofs.Ytjnencdmejhmjaa.Eng
namespace Go.Proofs.Ytjnencdmejhmjaa.Eng
open Go Go.RowKit
set_option linter.unusedSimpArgs false
set_option linter.unusedVariables false
variable {P : Program} {N : Nat}

/-! ### closing: what nobody writes any more is read as a plain value -/
def AV.plain : AV → Bool
  | .agg _ => false
  | _ => true
def elemMap (f : AV → AV) : AV → AV
  | .agg cs => .agg (cs.map f)
  | x => f x
def closeAV (H : Heap) : Nat → AV → AV
  | 0, x => x
  | k + 1, .ref h a sz off n =>
    match H.get h with
    | some (a', .arr sz' els) => if a = a' ∧ sz' = sz ∧ off + n ≤ els.length then .fz sz (((els.drop off).take n).map (elemMap (closeAV H k))) else .ref h a sz off n
    | _ => .ref h a sz off n
  | k + 1, .ptr h a sz i f =>
    match H.get h with
    | some (a', .arr sz' els) => if a = a' ∧ sz' = sz then (match els[i]? with | some e => .fptr ((e.cells.drop f).map (closeAV H k)) | none => .ptr h a sz i f) else .ptr h a sz i f
    | _ => .ptr h a sz i f
  | k + 1, .agg cs => .agg (cs.map (closeAV H k))
  | k + 1, .tup cs => .tup (cs.map (closeAV H k))
  | k + 1, .fn f cs => .fn f (cs.map (closeAV H k))
  | _ + 1, x => x
theorem closeAV_leaf (H : Heap) (k : Nat) (x : AV) (h : x.leaf = true) : (closeAV H k x).leaf = true := by
  cases k with
  | zero => exact h
  | succ k =>
    cases x with
    | agg => simp [AV.leaf] at h
    | tup => simp [AV.leaf] at h
    | ref hh a sz off n =>
      simp only [closeAV]
      split
      · split <;> rfl
      · rfl
    | ptr hh a sz i f =>
      simp only [closeAV]
      split
      · split
        · split <;> rfl
        · rfl
      · rfl
    | _ => first | rfl | simpa [closeAV] using h
theorem elemMap_cells (f : AV → AV) (hf : ∀ x, x.leaf = true → (f x).leaf = true) (x : AV) (hx : x.cells.all AV.leaf = true) : (elemMap f x).cells = x.cells.map f := by
  cases x with
  | agg cs => rfl
  | _ =>
    simp only [AV.cells, List.all_cons, List.all_nil, Bool.and_true] at hx
    simp only [elemMap, AV.cells, List.map_cons, List.map_nil]
    have h2 := hf _ hx
    first
      | (generalize hz : f _ = z at h2 ⊢; cases z <;> first | rfl | simp [AV.leaf] at h2)
theorem closeAV_sound {Keep F : Nat → Prop} {w : World} {H : Heap} (hH : HeapOK Keep F w H) : ∀ (k : Nat) (x : AV) (v : Value), VR F w x v → VR (fun c => F c ∨ c ∈ H.real) w (closeAV H k x) v := by
  have up : ∀ {x : AV} {v : Value}, VR F w x v → VR (fun c => F c ∨ c ∈ H.real) w x v := fun h => h.step (fun _ h => .inl h) hH.flt (Ext.refl _ _)
  intro k
  induction k with
  | zero => exact fun x v h => up h
  | succ k ih =>
    intro x v h
    cases x with
    | ref hh a sz off n =>
      simp only [closeAV]
      split
      · rename_i a' sz' els hg
        split
        · rename_i hc
          obtain ⟨rfl, rfl, hle⟩ := hc
          have hl : (((els.drop off).take n).map (elemMap (closeAV H k))).length = n := by simp; omega
          cases h with
          | refz =>
            have e1 : ((els.drop off).take 0).map (elemMap (closeAV H k)) = [] := by simp
            rw [e1]
            exact .fz _ [] _ 0 (fun _ _ => undef) (by simp) (by omega) (by simp) (by simp) (by simp)
          | refnil =>
            have e1 : ((els.drop off).take 0).map (elemMap (closeAV H k)) = [] := by simp
            rw [e1]; exact .fznil _
          | ref _ _ _ _ _ cap cs ty q0 q1 q2 q3 q4 =>
            have hb := hH.blk _ (Heap.get_mem hg)
            simp only [BlkOK, q0, Bool.false_eq_true, if_false] at hb
            obtain ⟨cs2, ty2, b1, b2⟩ := hb
            rw [q3] at b1
            injection b1 with b1; injection b1 with b1 b1'; subst b1; subst b1'
            have hin : a.blk ∈ H.real := Heap.real_mem (Heap.get_mem hg) q0
            have key : ∀ (i : Nat) (y : AV), (((els.drop off).take n).map (elemMap (closeAV H k)))[i]? = some y → ∃ e, els[off + i]? = some e ∧ i < n ∧ y = elemMap (closeAV H k) e ∧ y.cells = e.cells.map (closeAV H k) := by
              intro i y hy
              rw [List.getElem?_map] at hy
              obtain ⟨e, he, rfl⟩ := Option.map_eq_some_iff.1 hy
              rw [take_drop_get] at he
              split at he
              · rename_i hi
                exact ⟨e, he, hi, rfl, elemMap_cells _ (closeAV_leaf H k) e (b2 _ e he).1.2⟩
              · simp at he
            have := VR.fz (F := fun c => F c ∨ c ∈ H.real) (w := w) sz' (((els.drop off).take n).map (elemMap (closeAV H k))) ⟨a.blk, a.base + off * sz', none⟩ cap (fun i j => cs.getD (a.base + (off + i) * sz' + j) undef) (by rw [hl]; exact q1) q2
              (fun i y hy => by
                obtain ⟨e, he, hi, rfl, hcells⟩ := key i y hy
                obtain ⟨⟨e1, e2⟩, e3⟩ := b2 _ e he
                rw [hcells]
                refine ⟨by simp [e1], ?_⟩
                simp only [List.all_map, List.all_eq_true, Function.comp]
                intro z hz
                exact closeAV_leaf H k z (List.all_eq_true.1 e2 z hz))
              (fun i y j z hy hz => by
                obtain ⟨e, he, hi, rfl, hcells⟩ := key i y hy
                obtain ⟨⟨e1, e2⟩, e3⟩ := b2 _ e he
                rw [hcells, List.getElem?_map] at hz
                obtain ⟨z', hz', rfl⟩ := Option.map_eq_some_iff.1 hz
                obtain ⟨u, hu1, hu2⟩ := e3 j z' hz'
                refine ⟨.inr hin, ?_⟩
                rw [Addr.add_lit]
                simp only [World.cell?, q3]
                have e4 : a.base + off * sz' + (i * sz' + j) = a.base + (off + i) * sz' + j := by rw [Nat.add_mul]; omega
                simp [e4, Array.getD_eq_getD_getElem?, hu1])
              (fun i y j z hy hz => by
                obtain ⟨e, he, hi, rfl, hcells⟩ := key i y hy
                obtain ⟨⟨e1, e2⟩, e3⟩ := b2 _ e he
                rw [hcells, List.getElem?_map] at hz
                obtain ⟨z', hz', rfl⟩ := Option.map_eq_some_iff.1 hz
                obtain ⟨u, hu1, hu2⟩ := e3 j z' hz'
                simp only [Array.getD_eq_getD_getElem?, hu1, Option.getD_some]
                exact ih _ _ hu2)
            rw [hl] at this
            exact this
        · exact up h
      · exact up h
    | ptr hh a sz i f =>
      simp only [closeAV]
      split
      · rename_i a' sz' els hg
        split
        · rename_i hc
          obtain ⟨rfl, rfl⟩ := hc
          split
          · rename_i e he
            cases h
            have hb := hH.blk _ (Heap.get_mem hg)
            simp only [BlkOK] at hb
            split at hb
            · subst hb; simp at he
            · rename_i hvir
              obtain ⟨cs, ty, b1, b2⟩ := hb
              obtain ⟨⟨e1, e2⟩, e3⟩ := b2 _ e he
              have hin : a.blk ∈ H.real := Heap.real_mem (Heap.get_mem hg) (by simpa using hvir)
              refine .fptr _ _ (fun j => cs.getD (a.base + i * sz' + (f + j)) undef) (fun j y hy => ?_) (fun j y hy => ?_)
              · rw [List.getElem?_map, List.getElem?_drop] at hy
                obtain ⟨z, hz, rfl⟩ := Option.map_eq_some_iff.1 hy
                obtain ⟨u, hu1, hu2⟩ := e3 _ z hz
                refine ⟨.inr hin, ?_⟩
                rw [Addr.add_lit]
                simp only [World.cell?, b1]
                simp [Nat.add_assoc, Array.getD_eq_getD_getElem?] at hu1 ⊢
                simp [hu1]
              · rw [List.getElem?_map, List.getElem?_drop] at hy
                obtain ⟨z, hz, rfl⟩ := Option.map_eq_some_iff.1 hy
                obtain ⟨u, hu1, hu2⟩ := e3 _ z hz
                simp only [Array.getD_eq_getD_getElem?, hu1, Option.getD_some]
                exact ih _ _ hu2
          · exact up h
        · exact up h
      · exact up h
    | agg cs =>
      cases h with
      | agg _ vs h1 h2 => exact .agg _ _ (by simp [h1]) (fun i x y hx hy => by
          rw [List.getElem?_map] at hx
          obtain ⟨z, hz, rfl⟩ := Option.map_eq_some_iff.1 hx
          exact ih _ _ (h2 i z y hz hy))
    | tup cs =>
      cases h with
      | tup _ vs h1 h2 => exact .tup _ _ (by simp [h1]) (fun i x y hx hy => by
          rw [List.getElem?_map] at hx
          obtain ⟨z, hz, rfl⟩ := Option.map_eq_some_iff.1 hx
          exact ih _ _ (h2 i z y hz hy))
    | fn f cs =>
      cases h with
      | fn _ _ vs h1 h2 => exact .fn _ _ _ (by simp [h1]) (fun i x y hx hy => by
          rw [List.getElem?_map] at hx
          obtain ⟨z, hz, rfl⟩ := Option.map_eq_some_iff.1 hx
          exact ih _ _ (h2 i z y hz hy))
    | v x => exact up h
    | fz sz xs => exact up h
    | fptr cs => exact up h
    | mp hh a => exact up h

/-! ### functions -/
inductive RV where
  | t (n : Nat)
  | cell (n : Option Nat) (t : Nat)
def compRes (P : Program) : List ResultVar → Option (List RV)
  | [] => some []
  | .tmp t :: r => (compRes P r).bind fun l => some (.t t :: l)
  | .cell a t :: r => (shapeP P t).bind fun n => (compRes P r).bind fun l => some (.cell n a :: l)
def retVals (E : Env) (H : Heap) : List RV → Option (List AV)
  | [] => some []
  | .t n :: r => (E.get n).bind fun x => (retVals E H r).bind fun l => some (x :: l)
  | .cell n t :: r => (E.get t).bind fun p => (loadVal n H p).bind fun x => (retVals E H r).bind fun l => some (x :: l)
def mkRes : List AV → AV
  | [x] => x
  | xs => .tup xs
def argEnv (k : Nat) : List AV → Env
  | [] => []
  | x :: r => (k, x) :: argEnv (k + 1) r
theorem argEnv_get (xs : List AV) : ∀ (k t : Nat) (x : AV), (argEnv k xs).get t = some x → k ≤ t ∧ xs[t - k]? = some x := by
  induction xs with
  | nil => intro k t x h; simp [argEnv, Env.get] at h
  | cons y r ih =>
    intro k t x h
    simp only [argEnv, Env.get] at h
    split at h
    · rename_i e; subst e; injection h with h; subst h; simp
    · obtain ⟨h1, h2⟩ := ih _ _ _ h
      refine ⟨by omega, ?_⟩
      have : t - k = (t - (k + 1)) + 1 := by omega
      rw [this]; simpa using h2
structure FnIR (P : Program) (f : Nat) (n : Nat) (ir : IR) (rs : List RV) : Prop where
  ex : ∃ fn code, P.funcs[f]? = some fn ∧ (fn.name != "runtime.NumGoroutine") = true ∧ fn.body = some code ∧ comp P n code = some ir ∧ compRes P fn.results.toList = some rs ∧ fn.ntmps = n
theorem results_run {rs : List RV} {Keep F : Nat → Prop} {E : Env} {H : Heap} {a : Act} {w : World} (hS : St N Keep F E H a w) (g : ResultVar → Sem Value) (hg1 : ∀ t, g (.tmp t) = pure (a.tmps.getD t undef)) (hg2 : ∀ b t, g (.cell b t) = (do loadVar t (← asAddr (a.tmps.getD b undef)))) : ∀ {l : List ResultVar} {rs : List RV} {vs : List AV}, compRes P l = some rs → retVals E H rs = some vs →
    ∃ us : List Value, (l.mapM g).run P w = .ok us w ∧ VRs F w vs us
  | [], rs, vs, h, hv => by
    simp [compRes] at h; subst h; simp [retVals] at hv; subst hv
    exact ⟨[], by simp, rfl, by simp⟩
  | .tmp t :: l, rs, vs, h, hv => by
    simp only [compRes, Option.bind_eq_some_iff] at h
    obtain ⟨rs', h', e⟩ := h
    injection e with e; subst e
    simp only [retVals, Option.bind_eq_some_iff] at hv
    obtain ⟨x, hx, vs', hv', e⟩ := hv
    injection e with e; subst e
    obtain ⟨us, h1, h2, h3⟩ := results_run (rs := rs) hS g hg1 hg2 h' hv'
    refine ⟨a.tmps.getD t undef :: us, ?_, by simp [h2], fun i y v hy hv => ?_⟩
    · simp only [List.mapM_cons, hg1, Sem.run_bind, Sem.run_pure, Result.andThen_ok, h1]
    · match i with
      | 0 => simp at hy; subst hy; simp only [List.getElem?_cons_zero] at hv; injection hv with hv; subst hv; exact hS.env t _ hx
      | i + 1 => exact h3 i y v (by simpa using hy) (by simpa using hv)
  | .cell b t :: l, rs, vs, h, hv => by
    simp only [compRes, Option.bind_eq_some_iff] at h
    obtain ⟨n, hn, rs', h', e⟩ := h
    injection e with e; subst e
    simp only [retVals, Option.bind_eq_some_iff] at hv
    obtain ⟨p, hp, x, hx, vs', hv', e⟩ := hv
    injection e with e; subst e
    obtain ⟨us, h1, h2, h3⟩ := results_run (rs := rs) hS g hg1 hg2 h' hv'
    have hpv := hS.env b p hp
    obtain ⟨z, q1, q2⟩ := loadVal_sound (P := P) hS.heap hx hpv t hn
    have hz : (do loadVar t (← asAddr (a.tmps.getD b undef)) : Sem Value).run P w = .ok z w := by
      generalize a.tmps.getD b undef = u at hpv q1
      cases p with
      | ptr => cases hpv; simpa [Instr.loadAt, Instr.sureAddr, asAddr] using q1
      | fptr => cases hpv; simpa [Instr.loadAt, Instr.sureAddr, asAddr] using q1
      | _ => simp [loadVal] at hx
    refine ⟨z :: us, ?_, by simp [h2], fun i y v hy hv => ?_⟩
    · simp only [List.mapM_cons, hg2, Sem.run_bind] at hz ⊢
      rw [hz]
      simp only [Result.andThen_ok, h1, Sem.run_pure, Sem.run_bind]
    · match i with
      | 0 => simp at hy; subst hy; simp only [List.getElem?_cons_zero] at hv; injection hv with hv; subst hv; exact q2
      | i + 1 => exact h3 i y v (by simpa using hy) (by simpa using hv)
theorem results_eq (fn : Func) (tmps : Array Value) : ∃ g : ResultVar → Sem Value, (∀ t, g (.tmp t) = pure (tmps.getD t undef)) ∧ (∀ b t, g (.cell b t) = (do loadVar t (← asAddr (tmps.getD b undef)))) ∧ results fn tmps = (do let vs ← fn.results.mapM g; pure (if h : vs.size = 1 then vs[0] else .tuple vs)) := by
  refine ⟨_, ?_, ?_, rfl⟩
  · intro t; rfl
  · intro b t; rfl
def Post (rs : List RV) (K : AV → Heap → Prop) : Exit → Env → Heap → Prop :=
  fun e E' H' => (e = .normal ∨ e = .ret) ∧ ∃ vs, retVals E' H' rs = some vs ∧ K (mkRes vs) H'
theorem CallOK.body {f n : Nat} {ir : IR} {rs : List RV} (hF : FnIR P f n ir rs) (xs : List AV) (hlen : xs.length ≤ n) {H : Heap} {K : AV → Heap → Prop} (h : AWP P n ir (argEnv 0 xs) H (Post rs K)) : CallOK P f xs H K := by
  obtain ⟨fn, code, hf, hname, hb, hc, hr, hn⟩ := hF.ex
  refine ⟨by simp [okF, hf, hb]; simpa using hname, fun Keep F w vs hH hv => ?_⟩
  refine calls_of_wp hf hb ?_
  have hS : St n Keep F (argEnv 0 xs) H { tmps := vs.toArray ++ Array.replicate (fn.ntmps - vs.toArray.size) undef, defers := [] } w := by
    refine ⟨fun t x hx => ?_, ?_, rfl, hH⟩
    · obtain ⟨_, h1⟩ := argEnv_get xs 0 t x hx
      simp only [Nat.sub_zero] at h1
      have ht : t < vs.length := by rw [← hv.1]; exact (List.getElem?_eq_some_iff.1 h1).1
      have := hv.2 t x vs[t] h1 (by simp [ht])
      simpa [Array.getD_eq_getD_getElem?, Array.getElem?_append_left, ht] using this
    · have := hv.1; simp; omega
  refine wp_mono (h code hc Keep F _ w hS) ?_
  rintro e a' w' ⟨E', H', F', ⟨he, us, hus, hK⟩, hg, hS'⟩
  have hres : ∃ v, (results fn a'.tmps).run P w' = .ok v w' ∧ VR F' w' (mkRes us) v := by
    obtain ⟨g, hg1, hg2, hg3⟩ := results_eq fn a'.tmps
    obtain ⟨vals, hm, hvr⟩ := results_run (rs := rs) hS' g hg1 hg2 hr hus
    rw [hg3]
    simp only [Sem.run_bind, Array.mapM_eq_mapM_toList, Sem.run_map, hm]
    have hl := hvr.1
    simp only [Result.andThen_ok, Sem.run_pure]
    match us, vals, hl with
    | [u], [v], _ => exact ⟨v, by simp, hvr.2 0 u v rfl rfl⟩
    | [], [], _ => exact ⟨_, rfl, by simpa [mkRes] using VR.tup (F := F') (w := w') [] [] rfl (by simp)⟩
    | u :: u2 :: us, v :: v2 :: vs, hl => exact ⟨.tuple (v :: v2 :: vs).toArray, by simp, VR.tup _ _ hl hvr.2⟩
  obtain ⟨v, hv1, hv2⟩ := hres
  have hpost : a'.defers = [] ∧ ∃ v, (results fn a'.tmps).run P w' = .ok v w' ∧ ∃ v' r H' F', Ending.returned v = .returned v' ∧ K r H' ∧ Grow Keep F F' w w' ∧ HeapOK Keep F' w' H' ∧ VR F' w' r v' :=
    ⟨hS'.dfs, v, hv1, v, _, H', F', rfl, hK, hg, hS'.heap, hv2⟩
  rcases he with rfl | rfl
  · exact hpost
  · exact hpost
end Go.Proofs.Ytjnencdmejhmjaa.Eng
namespace Go.Proofs.Ytjnencdmejhmjaa.Eng
open Go Go.RowKit
set_option linter.unusedSimpArgs false
set_option linter.unusedVariables false
variable {P : Program} {N : Nat}

/-- A value that means the same whatever is frozen. -/
def Free (x : AV) : Prop := ∀ (F F' : Nat → Prop) (w : World) (v : Value), VR F w x v → VR F' w x v
theorem Free.v (x : Value) : Free (.v x) := fun _ _ _ _ h => by obtain rfl := h.inv_v; exact .v _
theorem Free.ref (h : Nat) (a : Loc) (sz off n : Nat) : Free (.ref h a sz off n) := fun _ _ _ _ q => by
  cases q with
  | ref _ _ _ _ _ cap cs t h0 h1 h2 h3 h4 => exact .ref _ _ _ _ _ cap cs t h0 h1 h2 h3 h4
  | refz => exact .refz _ _ _ _ _
  | refnil => exact .refnil _ _ _ _
theorem Free.ptr (h : Nat) (a : Loc) (sz i f : Nat) : Free (.ptr h a sz i f) := fun _ _ _ _ q => by cases q; exact .ptr _ _ _ _ _
theorem Free.agg (cs : List AV) (h : ∀ x ∈ cs, Free x) : Free (.agg cs) := fun F F' w v q => by
  cases q with
  | agg _ vs h1 h2 => exact .agg _ _ h1 fun i x y hx hy => h x (List.mem_of_getElem? hx) F F' w y (h2 i x y hx hy)
theorem Free.tup (cs : List AV) (h : ∀ x ∈ cs, Free x) : Free (.tup cs) := fun F F' w v q => by
  cases q with
  | tup _ vs h1 h2 => exact .tup _ _ h1 fun i x y hx hy => h x (List.mem_of_getElem? hx) F F' w y (h2 i x y hx hy)
def AV.isV : AV → Bool
  | .v _ => true
  | _ => false
/-- numbers and bools, structs of them, tuples of these -/
def AV.scal : AV → Bool
  | .v _ => true
  | .agg cs => cs.all AV.isV
  | .tup cs => cs.all fun x => match x with | .v _ => true | .agg ds => ds.all AV.isV | _ => false
  | _ => false
theorem free_isV {x : AV} (h : x.isV = true) : Free x := by cases x <;> first | exact Free.v _ | simp [AV.isV] at h
theorem Free.scal {x : AV} (h : x.scal = true) : Free x := by
  cases x with
  | v x => exact Free.v _
  | agg cs => exact Free.agg _ fun y hy => free_isV (List.all_eq_true.1 h y hy)
  | tup cs =>
    refine Free.tup _ fun y hy => ?_
    have := List.all_eq_true.1 h y hy
    cases y with
    | v y => exact Free.v _
    | agg ds => exact Free.agg _ fun z hz => free_isV (List.all_eq_true.1 this z hz)
    | _ => simp at this
  | _ => simp [AV.scal] at h
def FreeB : Blk → Prop
  | .arr _ els => ∀ e ∈ els, ∀ y ∈ e.cells, Free y
  | .mapb ents => ∀ e ∈ ents, Free e.1 ∧ Free e.2
def FreeH (H : Heap) : Prop := ∀ p ∈ H, FreeB p.2.2
theorem BlkOK.free {F F' : Nat → Prop} {w : World} {a : Loc} {b : Blk} (h : BlkOK F w a b) (hf : FreeB b) : BlkOK F' w a b := by
  cases b with
  | arr sz els =>
    simp only [BlkOK] at h ⊢
    split
    · rename_i hv; rw [if_pos hv] at h; exact h
    · rename_i hv
      rw [if_neg hv] at h
      obtain ⟨cs, t, h1, h2⟩ := h
      refine ⟨cs, t, h1, fun i e he => ?_⟩
      obtain ⟨h3, h4⟩ := h2 i e he
      refine ⟨h3, fun j y hy => ?_⟩
      obtain ⟨v, h5, h6⟩ := h4 j y hy
      exact ⟨v, h5, hf e (List.mem_of_getElem? he) y (List.mem_of_getElem? hy) F F' w v h6⟩
  | mapb ents =>
    obtain ⟨hv, es, cl, h1, h2, h3⟩ := h
    refine ⟨hv, es, cl, h1, h2, fun i p hp => ?_⟩
    obtain ⟨e, h4, h5, h6⟩ := h3 i p hp
    have := hf p (List.mem_of_getElem? hp)
    exact ⟨e, h4, this.1 F F' w _ h5, this.2 F F' w _ h6⟩

/-- A function that leaves the memory alone, of plain values: what it gives. -/
def PCalls (P : Program) (f : Nat) (xs : List AV) (r : AV) : Prop := CallOK P f xs [] fun r' H' => r' = r ∧ H' = []
theorem HeapOK.none {Keep F : Nat → Prop} {w : World} (h1 : ∀ c, F c → c < w.heap.size) (h2 : ∀ c, Keep c → c < w.heap.size) : HeapOK Keep F w [] :=
  ⟨by simp, by simp [Heap.real], by simp [Heap.real], h1, h2⟩
theorem PCalls.of_close {f : Nat} {xs : List AV} {r : AV} (h : CallOK P f xs [] fun r' H' => ∃ k, closeAV H' k r' = r) : PCalls P f xs r := by
  refine ⟨h.1, fun Keep F w vs hH hv => (h.2 Keep F w vs hH hv).mono ?_⟩
  rintro e w' ⟨v, r', H', F', rfl, ⟨k, rfl⟩, hg, hH', hr⟩
  refine ⟨v, _, [], fun c => F' c ∨ c ∈ H'.real, rfl, ⟨rfl, rfl⟩, ⟨fun c hc => .inl (hg.sub c hc), fun c hc => ?_, hg.ext⟩, HeapOK.none (fun c hc => hc.elim (hH'.flt c) (hH'.lt c)) hH'.klt, closeAV_sound hH' k r' v hr⟩
  rcases hc with hc | hc
  · exact hg.new c hc
  · exact .inr (hH'.own c hc).2
/-- The caller's memory behind a call that was handed none of it. -/
theorem HeapOK.behind {Keep F F' : Nat → Prop} {w w' : World} {H H1 : Heap} (hH : HeapOK Keep F w H) (hg : Grow (fun c => Keep c ∨ c ∈ H.real) F F' w w') (hH1 : HeapOK (fun c => Keep c ∨ c ∈ H.real) F' w' H1) : HeapOK Keep F' w' (H1 ++ H) ∧ Grow Keep F F' w w' := by
  have g : Grow Keep F F' w w' := ⟨hg.sub, fun c hc => (hg.new c hc).imp id fun h k => h (.inl k), hg.ext.mono fun c hc => hc.imp id .inl⟩
  have hold : HeapOK Keep F' w' H := hH.step g (fun c hc => hg.ext.keep c (.inr (.inr hc)) (hH.lt c hc)) (fun c hc hF => (hg.new c hF).elim (hH.own c hc).1 fun h => h (.inr hc)) hH1.flt
  refine ⟨⟨fun p hp => ?_, fun c hc => ?_, ?_, hH1.flt, hold.klt⟩, g⟩
  · rcases List.mem_append.1 hp with hp | hp
    · exact hH1.blk p hp
    · exact hold.blk p hp
  · rw [Heap.real_append] at hc
    rcases List.mem_append.1 hc with hc | hc
    · exact ⟨(hH1.own c hc).1, fun h => (hH1.own c hc).2 (.inl h)⟩
    · exact hold.own c hc
  · rw [Heap.real_append, List.nodup_append]
    exact ⟨hH1.nodup, hold.nodup, fun a ha b hb e => (hH1.own a ha).2 (.inr (e ▸ hb))⟩
theorem CallOK.frame {f : Nat} {xs : List AV} {H R : Heap} {K : AV → Heap → Prop} (h : CallOK P f xs H K) : CallOK P f xs (H ++ R) fun r H' => ∃ H1, H' = H1 ++ R ∧ K r H1 := by
  refine ⟨h.1, fun Keep F w vs hH hv => ?_⟩
  have hR : HeapOK Keep F w R := hH.sub (List.sublist_append_right _ _)
  have hn := hH.nodup
  rw [Heap.real_append, List.nodup_append] at hn
  have h1 : HeapOK (fun c => Keep c ∨ c ∈ R.real) F w H := by
    refine ⟨fun p hp => hH.blk p (List.mem_append_left _ hp), fun c hc => ?_, hn.1, hH.flt, fun c hc => hc.elim (hH.klt c) (hR.lt c)⟩
    have := hH.own c (by rw [Heap.real_append]; exact List.mem_append_left _ hc)
    exact ⟨this.1, fun hk => hk.elim this.2 fun hr => hn.2.2 c hc c hr rfl⟩
  refine (h.2 _ F w vs h1 hv).mono ?_
  rintro e w' ⟨v, r, H', F', rfl, hK, hg, hH', hr⟩
  obtain ⟨q1, q2⟩ := hR.behind hg hH'
  exact ⟨v, r, H' ++ R, F', rfl, ⟨H', rfl, hK⟩, q2, q1, hr⟩
theorem CallOK.pure {f : Nat} {xs : List AV} {r : AV} {H : Heap} {K : AV → Heap → Prop} (h : PCalls P f xs r) (hk : K r H) : CallOK P f xs H K := by
  have := CallOK.frame (R := H) h
  simp only [List.nil_append] at this
  refine this.mono ?_
  rintro r' H' ⟨H1, rfl, rfl, rfl⟩
  simpa using hk
/-- A call that reads the caller's own memory and makes memory of its own, which names nothing old. -/
theorem CallOK.borrowH (k : Nat) {f : Nat} {xs : List AV} {H : Heap} {K0 K : AV → Heap → Prop} (h : CallOK P f (xs.map (closeAV H k)) [] K0) (hfr : ∀ r H', K0 r H' → Free r ∧ FreeH H') (hk : ∀ r H', K0 r H' → K r (H' ++ H)) : CallOK P f xs H K := by
  refine ⟨h.1, fun Keep F w vs hH hv => ?_⟩
  have hv' : VRs (fun c => F c ∨ c ∈ H.real) w (xs.map (closeAV H k)) vs := ⟨by simp [hv.1], fun i x v hx hvv => by
    rw [List.getElem?_map] at hx
    obtain ⟨z, hz, rfl⟩ := Option.map_eq_some_iff.1 hx
    exact closeAV_sound hH k z v (hv.2 i z v hz hvv)⟩
  have h0 : HeapOK (fun c => Keep c ∨ c ∈ H.real) (fun c => F c ∨ c ∈ H.real) w [] := HeapOK.none (fun c hc => hc.elim (hH.flt c) (hH.lt c)) (fun c hc => hc.elim (hH.klt c) (hH.lt c))
  refine (h.2 _ _ w vs h0 hv').mono ?_
  rintro e w' ⟨v, r, H', F', rfl, hK, hg, hH', hr⟩
  obtain ⟨f1, f2⟩ := hfr r H' hK
  have g : Grow (fun c => Keep c ∨ c ∈ H.real) F F w w' := ⟨fun _ h => h, fun _ h => .inl h, hg.ext.mono fun c hc => hc.elim (fun h => .inl (.inl h)) .inr⟩
  have hH1 : HeapOK (fun c => Keep c ∨ c ∈ H.real) F w' H' := ⟨fun p hp => (hH'.blk p hp).free (f2 p hp), fun c hc => ⟨fun hF => (hH'.own c hc).1 (hg.sub c (.inl hF)), (hH'.own c hc).2⟩, hH'.nodup, fun c hc => hH'.flt c (hg.sub c (.inl hc)), hH'.klt⟩
  obtain ⟨q1, q2⟩ := hH.behind g hH1
  exact ⟨v, r, H' ++ H, F, rfl, hk r H' hK, q2, q1, f1 _ _ _ _ hr⟩
theorem CallOK.borrow (k : Nat) {f : Nat} {xs : List AV} {r : AV} {H : Heap} {K : AV → Heap → Prop} (h : PCalls P f (xs.map (closeAV H k)) r) (hs : r.scal = true) (hk : K r H) : CallOK P f xs H K :=
  CallOK.borrowH k h (by rintro r' H' ⟨rfl, rfl⟩; exact ⟨Free.scal hs, fun p hp => by simp at hp⟩) (by rintro r' H' ⟨rfl, rfl⟩; exact hk)
theorem PCalls.body {f n : Nat} {ir : IR} {rs : List RV} (hF : FnIR P f n ir rs) (xs : List AV) (hlen : xs.length ≤ n) {r : AV} (h : AWP P n ir (argEnv 0 xs) [] (Post rs fun r' H' => ∃ k, closeAV H' k r' = r)) : PCalls P f xs r :=
  PCalls.of_close (CallOK.body hF xs hlen h)

/-! ### weaker knowledge -/
theorem Weak.refl (N : Nat) (E : Env) (H : Heap) : Weak N E H E H := fun Keep F a w hS => ⟨F, Grow.refl _ _ _, hS⟩
theorem Weak.trans {E1 E2 E3 : Env} {H1 H2 H3 : Heap} (h : Weak N E1 H1 E2 H2) (k : Weak N E2 H2 E3 H3) : Weak N E1 H1 E3 H3 := fun Keep F a w hS => by
  obtain ⟨F1, g1, s1⟩ := h Keep F a w hS
  obtain ⟨F2, g2, s2⟩ := k Keep F1 a w s1
  exact ⟨F2, g1.trans g2, s2⟩
theorem Weak.env {E E' : Env} {H : Heap} (h : ∀ t x, E'.get t = some x → E.get t = some x) : Weak N E H E' H := fun Keep F a w hS =>
  ⟨F, Grow.refl _ _ _, ⟨fun t x hx => hS.env t x (h t x hx), hS.tsz, hS.dfs, hS.heap⟩⟩
theorem Weak.keep (ts : List Nat) {E : Env} {H : Heap} : Weak N E H (E.keep ts) H := Weak.env fun t x h => Env.get_keep ts E t x h
theorem Weak.sub {E : Env} {H H' : Heap} (h : List.Sublist H' H) : Weak N E H E H' := fun Keep F a w hS =>
  ⟨F, Grow.refl _ _ _, ⟨hS.env, hS.tsz, hS.dfs, hS.heap.sub h⟩⟩
theorem Weak.drop (l : Nat) {E : Env} {H : Heap} : Weak N E H E (H.del l) := Weak.sub (Heap.del_sub _ _)
/-- A slice that is nil, as one of the function's own that holds nothing yet. -/
theorem Weak.virt (l t sz : Nat) {E : Env} {H : Heap} (h : E.get t = some (.v (.slice none 0 0))) : Weak N E H (E.set t (.ref l ⟨0, 0, true⟩ sz 0 0)) ((l, ⟨0, 0, true⟩, .arr sz []) :: H) := fun Keep F a w hS => by
  refine ⟨F, Grow.refl _ _ _, ⟨fun s x hx => ?_, hS.tsz, hS.dfs, hS.heap.cons _ _ _ (by simp [BlkOK]) (by simp)⟩⟩
  rw [Env.get_set] at hx
  split at hx
  · rename_i e; subst e
    injection hx with hx; subst hx
    rw [(hS.env t _ h).inv_v]
    exact .refnil _ _ _ _
  · exact hS.env s x hx
def closeB (f : AV → AV) : Blk → Blk
  | .arr sz els => .arr sz (els.map (elemMap f))
  | b => b
def Env.mapv (f : AV → AV) : Env → Env
  | [] => []
  | (t, x) :: E => (t, f x) :: Env.mapv f E
def Heap.mapb (f : AV → AV) : Heap → Heap
  | [] => []
  | (h, a, b) :: H => (h, a, closeB f b) :: Heap.mapb f H
theorem Env.get_mapv (f : AV → AV) (E : Env) (t : Nat) : (E.mapv f).get t = (E.get t).map f := by
  induction E with
  | nil => rfl
  | cons p E ih =>
    obtain ⟨k, x⟩ := p
    simp only [Env.mapv, Env.get]
    split
    · rfl
    · exact ih
theorem Heap.real_mapb (f : AV → AV) (H : Heap) : (H.mapb f).real = H.real := by
  induction H with
  | nil => rfl
  | cons p H ih =>
    obtain ⟨k, a, b⟩ := p
    simp only [Heap.mapb, Heap.real, ih]
theorem Heap.mem_mapb {f : AV → AV} {H : Heap} {p : Nat × Loc × Blk} (hp : p ∈ H.mapb f) : ∃ b, (p.1, p.2.1, b) ∈ H ∧ p.2.2 = closeB f b := by
  induction H with
  | nil => simp [Heap.mapb] at hp
  | cons q H ih =>
    obtain ⟨k, a, b⟩ := q
    simp only [Heap.mapb] at hp
    rcases List.mem_cons.1 hp with rfl | hp
    · exact ⟨b, List.mem_cons_self, rfl⟩
    · obtain ⟨b', h1, h2⟩ := ih hp
      exact ⟨b', List.mem_cons_of_mem _ h1, h2⟩
/-- From now on nobody writes the memory of a label: what names it is read as a plain value. -/
theorem Weak.frz (k l : Nat) {E : Env} {H : Heap} {a0 : Loc} {b0 : Blk} (hg : H.get l = some (a0, b0)) :
    Weak N E H (E.mapv (closeAV [(l, a0, b0)] k)) ((H.del l).mapb (closeAV [(l, a0, b0)] k)) := fun Keep F a w hS => by
  have hsub : List.Sublist [(l, a0, b0)] H := by
    obtain ⟨A, B, e1, _, _⟩ := Heap.get_split hg
    rw [e1]; exact ((List.nil_sublist B).cons_cons (l, a0, b0)).trans (List.sublist_append_right A _)
  have hone : HeapOK Keep F w [(l, a0, b0)] := hS.heap.sub hsub
  let F' : Nat → Prop := fun c => F c ∨ c ∈ Heap.real [(l, a0, b0)]
  have hF' : ∀ c, F' c → c < w.heap.size := fun c hc => hc.elim (hS.heap.flt c) (hone.lt c)
  have hdel := hS.heap.sub (Heap.del_sub l H)
  have hnot : ∀ c ∈ (H.del l).real, ¬ F' c := by
    intro c hc hF
    rcases hF with hF | hF
    · exact (hdel.own c hc).1 hF
    · simp only [Heap.real] at hF
      split at hF
      · simp at hF
      · rename_i hv
        simp at hF; subst hF
        exact Heap.del_real hg (by simpa using hv) hS.heap.nodup hc
  refine ⟨F', ⟨fun c hc => .inl hc, fun c hc => ?_, Ext.refl _ _⟩, ⟨fun t x hx => ?_, hS.tsz, hS.dfs, ⟨fun p hp => ?_, fun c hc => ?_, ?_, hF', hS.heap.klt⟩⟩⟩
  · exact hc.imp id fun h => (hone.own c h).2
  · rw [Env.get_mapv] at hx
    obtain ⟨y, hy, rfl⟩ := Option.map_eq_some_iff.1 hx
    exact closeAV_sound hone k y _ (hS.env t y hy)
  · obtain ⟨b, hm, hb⟩ := Heap.mem_mapb hp
    have hbk := hdel.blk _ hm
    rw [hb]
    cases b with
    | arr sz els =>
      simp only [closeB, BlkOK] at hbk ⊢
      split
      · rename_i hv; rw [if_pos hv] at hbk; rw [hbk]; rfl
      · rename_i hv
        rw [if_neg hv] at hbk
        obtain ⟨cs, t, h1, h2⟩ := hbk
        refine ⟨cs, t, h1, fun i e he => ?_⟩
        rw [List.getElem?_map] at he
        obtain ⟨e0, he0, rfl⟩ := Option.map_eq_some_iff.1 he
        obtain ⟨⟨e1, e2⟩, e3⟩ := h2 i e0 he0
        have hcells := elemMap_cells _ (closeAV_leaf [(l, a0, b0)] k) e0 e2
        rw [hcells]
        refine ⟨⟨by simp [e1], ?_⟩, fun j y hy => ?_⟩
        · simp only [List.all_map, List.all_eq_true, Function.comp]
          intro z hz
          exact closeAV_leaf _ k z (List.all_eq_true.1 e2 z hz)
        · rw [List.getElem?_map] at hy
          obtain ⟨z, hz, rfl⟩ := Option.map_eq_some_iff.1 hy
          obtain ⟨v, h5, h6⟩ := e3 j z hz
          exact ⟨v, h5, closeAV_sound hone k z v h6⟩
    | mapb ents => exact hbk.step (fun c hc => .inl hc) hS.heap.flt (Ext.refl _ _) (fun _ => rfl)
  · rw [Heap.real_mapb] at hc; exact ⟨hnot c hc, (hdel.own c hc).2⟩
  · rw [Heap.real_mapb]; exact hdel.nodup
end Go.Proofs.Ytjnencdmejhmjaa.Eng
namespace Go.Proofs.Ytjnencdmejhmjaa.Eng
open Go Go.RowKit
set_option linter.unusedSimpArgs false
set_option linter.unusedVariables false
variable {P : Program} {N : Nat}

theorem opd_congr {E E' : Env} {x : Opd} (h : ∀ t ∈ IOp.reads.rd1 x, E.get t = E'.get t) : E.opd x = E'.opd x := by
  cases x with
  | t n => exact h n (by simp [IOp.reads.rd1])
  | _ => rfl
theorem optOpd_congr {E E' : Env} {x : Option Opd} (h : ∀ t ∈ IOp.reads.rdo x, E.get t = E'.get t) : optOpd E.opd x = optOpd E'.opd x := by
  cases x with
  | none => rfl
  | some x =>
    simp only [optOpd]
    rw [opd_congr (E := E) (E' := E') (x := x)]
    intro t ht
    cases x with
    | t n => exact h t (by simpa [IOp.reads.rd1, IOp.reads.rdo] using ht)
    | _ => simp [IOp.reads.rd1] at ht
theorem opds_congr {E E' : Env} : ∀ {xs : List Opd}, (∀ t ∈ IOp.reads.rds xs, E.get t = E'.get t) → opds E.opd xs = opds E'.opd xs
  | [], _ => rfl
  | x :: xs, h => by
    simp only [IOp.reads.rds, List.flatMap_cons, List.mem_append] at h
    simp only [opds]
    rw [opd_congr (E := E) (E' := E') (x := x) fun t ht => h t (.inl ht), opds_congr fun t ht => h t (.inr ht)]
theorem opdParts_congr {E E' : Env} : ∀ {xs : List (Nat × Nat × Opd)}, (∀ t ∈ xs.flatMap fun p => IOp.reads.rd1 p.2.2, E.get t = E'.get t) → opdParts E.opd xs = opdParts E'.opd xs
  | [], _ => rfl
  | (i, n, x) :: xs, h => by
    simp only [List.flatMap_cons, List.mem_append] at h
    simp only [opdParts]
    rw [opd_congr (E := E) (E' := E') (x := x) fun t ht => h t (.inl ht), opdParts_congr fun t ht => h t (.inr ht)]
theorem opdNats_congr {E E' : Env} : ∀ {xs : List (Nat × Opd)}, (∀ t ∈ xs.flatMap fun p => IOp.reads.rd1 p.2, E.get t = E'.get t) → opdNats E.opd xs = opdNats E'.opd xs
  | [], _ => rfl
  | (i, x) :: xs, h => by
    simp only [List.flatMap_cons, List.mem_append] at h
    simp only [opdNats]
    rw [opd_congr (E := E) (E' := E') (x := x) fun t ht => h t (.inl ht), opdNats_congr fun t ht => h t (.inr ht)]
theorem pick_congr {E E' : Env} {a b : Opd} (ha : E.opd a = E'.opd a) (hb : E.opd b = E'.opd b) : pickVal E.opd a b = pickVal E'.opd a b := by
  funext x; unfold pickVal; split
  · rw [ha, hb]
  · rfl
theorem val_congr {E E' : Env} {H : Heap} {q : IOp} (h : ∀ t ∈ q.reads, E.get t = E'.get t) : q.val E.opd H = q.val E'.opd H := by
  cases q <;> simp only [IOp.reads, List.mem_append] at h <;> simp only [IOp.val]
  case mov x => exact opd_congr h
  case asg x => exact opd_congr h
  case pick c a b => rw [opd_congr fun t ht => h t (.inl (.inl ht)), pick_congr (opd_congr fun t ht => h t (.inl (.inr ht))) (opd_congr fun t ht => h t (.inr ht))]
  case bin o x y => rw [opd_congr fun t ht => h t (.inl ht), opd_congr fun t ht => h t (.inr ht)]
  case boolq o x y => rw [opd_congr fun t ht => h t (.inl ht), opd_congr fun t ht => h t (.inr ht)]
  case eqs o k x y => rw [opd_congr fun t ht => h t (.inl ht), opd_congr fun t ht => h t (.inr ht)]
  case un o x => rw [opd_congr h]
  case conv o x => rw [opd_congr h]
  case load o x => rw [opd_congr h]
  case nilck x => rw [opd_congr h]
  case faddr o x => rw [opd_congr h]
  case fld n o x => rw [opd_congr h]
  case iaddr o x y => rw [opd_congr fun t ht => h t (.inl ht), opd_congr fun t ht => h t (.inr ht)]
  case slc n x lo hi => rw [opd_congr fun t ht => h t (.inl (.inl ht)), optOpd_congr fun t ht => h t (.inl (.inr ht)), optOpd_congr fun t ht => h t (.inr ht)]
  case ext o x => rw [opd_congr h]
  case len x => rw [opd_congr h]
  case minn x xs => rw [opd_congr fun t ht => h t (.inl ht), opds_congr fun t ht => h t (.inr ht)]
  case maxx x xs => rw [opd_congr fun t ht => h t (.inl ht), opds_congr fun t ht => h t (.inr ht)]
  case build z ps => rw [opdParts_congr h]
  case mkf f xs => rw [opds_congr h]
theorem run_congr {E E' : Env} {H : Heap} {L : Nat} {K : Option AV → Heap → Prop} {q : IOp} (h : ∀ t ∈ q.reads, E.get t = E'.get t) (hr : q.run P L E.opd H K) : q.run P L E'.opd H K := by
  by_cases hv : q.isVal = true
  · rw [run_val hv] at hr ⊢
    rw [← val_congr h]; exact hr
  · cases q <;> simp only [IOp.reads, List.mem_append] at h <;> simp only [IOp.run] at hr ⊢ <;> first
      | exact absurd rfl hv
      | skip
    case store n x y => rw [← opd_congr (E := E) fun t ht => h t (.inl ht), ← opd_congr (E := E) fun t ht => h t (.inr ht)]; exact hr
    case alloc z => exact hr
    case box x => rw [← opd_congr (E := E) h]; exact hr
    case bsl n z l ps => rw [← opdNats_congr (E := E) h]; exact hr
    case mks n z b x y => rw [← opd_congr (E := E) fun t ht => h t (.inl ht), ← opd_congr (E := E) fun t ht => h t (.inr ht)]; exact hr
    case app n b x y => rw [← opd_congr (E := E) fun t ht => h t (.inl ht), ← opd_congr (E := E) fun t ht => h t (.inr ht)]; exact hr
    case call f xs => rw [← opds_congr (E := E) h]; exact hr
    case eqnil n x => rw [← opd_congr (E := E) h]; exact hr
    case callv x xs => rw [← opd_congr (E := E) fun t ht => h t (.inl ht), ← opds_congr (E := E) fun t ht => h t (.inr ht)]; exact hr
/-- What an operation that only reads gave, it would give now. -/
def Ins.holds (i : Ins) (E : Env) (H : Heap) : Prop :=
  match i.d with
  | none => False
  | some d =>
    match i.g with
    | none => ∃ a, E.get d = some a ∧ i.q.val E.opd H = some a
    | some (t, b) => ∃ u, E.get t = some (.v u) ∧ (u = .bool b → ∃ a, E.get d = some a ∧ i.q.val E.opd H = some a) ∧ (u ≠ .bool b → E.get d = some (.v undef))
def holdsAll (l : List Ins) (E : Env) (H : Heap) : List Nat → Prop
  | [] => True
  | j :: js => (match l[j]? with | some i => i.holds E H | none => False) ∧ holdsAll l E H js
def planRun (P : Program) (l : List Ins) : Plan → Env → Heap → (Env → Heap → Prop) → Prop
  | .done, E, H, K => K E H
  | .none, _, _, _ => True
  | .still i p, E, H, K => match l[i]? with
    | some x => x.run P E H fun E' H' => planRun P l p E' H' K
    | none => False
  | .eff i js p alt, E, H, K => (match l[i]? with
    | some x => x.run P E H fun E' H' => holdsAll l E' H' js ∧ planRun P l p E' H' K
    | none => False) ∧ planRun P l alt E H K
theorem holdsAll_mem {l : List Ins} {E : Env} {H : Heap} {js : List Nat} (h : holdsAll l E H js) {j : Nat} (hj : j ∈ js) {i : Ins} (hi : l[j]? = some i) : i.holds E H := by
  induction js with
  | nil => simp at hj
  | cons k js ih =>
    obtain ⟨h1, h2⟩ := h
    rcases List.mem_cons.1 hj with rfl | hj
    · rw [hi] at h1; exact h1
    · exact ih h2 hj
/-- The slots of operations that only read, struck out. -/
def dels (l : List Ins) : List Nat → Env → Env
  | [], E => E
  | q :: qs, E => match (l[q]?).bind (·.d) with
    | some d => (dels l qs E).del d
    | none => dels l qs E
theorem dels_get (l : List Ins) (qs : List Nat) (E : Env) (t : Nat) : ((∃ q ∈ qs, (l[q]?).bind (·.d) = some t) ∧ (dels l qs E).get t = none) ∨ ((∀ q ∈ qs, (l[q]?).bind (·.d) ≠ some t) ∧ (dels l qs E).get t = E.get t) := by
  induction qs with
  | nil => exact .inr ⟨by simp, rfl⟩
  | cons q qs ih =>
    simp only [dels]
    cases hd : (l[q]?).bind (·.d) with
    | none =>
      rcases ih with ⟨⟨q', h1, h2⟩, h3⟩ | ⟨h1, h2⟩
      · exact .inl ⟨⟨q', List.mem_cons_of_mem _ h1, h2⟩, h3⟩
      · refine .inr ⟨fun q' hq' => ?_, h2⟩
        rcases List.mem_cons.1 hq' with rfl | hq'
        · rw [hd]; simp
        · exact h1 q' hq'
    | some d =>
      simp only [Env.get_del]
      by_cases e : d = t
      · subst e
        exact .inl ⟨⟨q, List.mem_cons_self, hd⟩, by simp⟩
      · rw [if_neg e]
        rcases ih with ⟨⟨q', h1, h2⟩, h3⟩ | ⟨h1, h2⟩
        · exact .inl ⟨⟨q', List.mem_cons_of_mem _ h1, h2⟩, h3⟩
        · refine .inr ⟨fun q' hq' => ?_, h2⟩
          rcases List.mem_cons.1 hq' with rfl | hq'
          · rw [hd]; simpa using e
          · exact h1 q' hq'
theorem St.congr {Keep F : Nat → Prop} {E E' : Env} {H : Heap} {a : Act} {w : World} (h : St N Keep F E H a w) (he : ∀ t, E'.get t = E.get t) : St N Keep F E' H a w :=
  ⟨fun t x hx => h.env t x (by rw [← he t]; exact hx), h.tsz, h.dfs, h.heap⟩
/-- An operation under less knowledge. -/
theorem insrun_congr {i : Ins} {E E' : Env} {H : Heap} {K : Env → Heap → Prop} (h : ∀ t ∈ i.reads, E.get t = E'.get t) (hr : i.run P E H K) : i.run P E' H fun E2 H2 => ∃ x, E2 = E'.put i.d x ∧ K (E.put i.d x) H2 := by
  unfold Ins.run at hr ⊢
  have hq : ∀ t ∈ i.q.reads, E.get t = E'.get t := fun t ht => h t (List.mem_append_right _ ht)
  have mono : ∀ {L : Nat} {K1 K2 : Option AV → Heap → Prop} {ρ : Opd → Option AV} {q : IOp}, (∀ x H', K1 x H' → K2 x H') → q.run P L ρ H K1 → q.run P L ρ H K2 := by
    intro L K1 K2 ρ q hk hr
    by_cases hv : q.isVal = true
    · rw [run_val hv] at hr ⊢
      split at hr
      · exact hk _ _ hr
      · exact hr.elim
    · cases q <;> simp only [IOp.run] at hr ⊢ <;> first
        | exact absurd rfl hv
        | skip
      case store n x y =>
        split at hr
        · unfold storeRun at hr ⊢
          split at hr
          · split at hr
            · split at hr
              · exact ⟨hr.1, hr.2.1, hr.2.2.1, hr.2.2.2.1, hr.2.2.2.2.1, hk _ _ hr.2.2.2.2.2⟩
              · exact hr.elim
            · exact hr.elim
          · exact hr.elim
        · exact hr.elim
      case alloc z => exact fun a => hk _ _ (hr a)
      case box x =>
        split at hr
        · exact ⟨hr.1, hr.2.1, fun a => hk _ _ (hr.2.2 a)⟩
        · exact hr.elim
      case bsl n z l ps =>
        split at hr
        · split at hr
          · exact fun a => hk _ _ (hr a)
          · exact hr.elim
        · exact hr.elim
      case eqnil neg x =>
        split at hr
        · unfold eqnilRun at hr ⊢
          split at hr
          · exact fun t ht => hk _ _ (hr t ht)
          · exact fun t ht => hk _ _ (hr t ht)
          · exact hk _ _ hr
          · exact hr.elim
        · exact hr.elim
      case mks n z b x y =>
        split at hr
        · unfold mksRun at hr ⊢
          split at hr
          · exact ⟨hr.1, hr.2.1, hr.2.2.1, fun a => hk _ _ (hr.2.2.2 a)⟩
          · exact hr.elim
        · exact hr.elim
      case app n b x y =>
        split at hr
        · split at hr
          · exact ⟨hr.1, fun a => hk _ _ (hr.2 a)⟩
          · exact hr.elim
        · exact hr.elim
      case call f xs =>
        split at hr
        · exact hr.mono fun r H' h => hk _ _ h
        · exact hr.elim
      case callv x xs =>
        split at hr
        · unfold callvRun at hr ⊢
          split at hr
          · exact hr.mono fun r H' h => hk _ _ h
          · exact hr.elim
        · exact hr.elim
  cases hg : i.g with
  | none =>
    rw [hg] at hr
    simp only at hr ⊢
    exact mono (fun x H' hK => ⟨x, rfl, hK⟩) (run_congr hq hr)
  | some tb =>
    obtain ⟨t, b⟩ := tb
    rw [hg] at hr
    simp only at hr ⊢
    rw [← h t (by simp [Ins.reads, hg])]
    split at hr
    · refine ⟨fun e => mono (fun x H' hK => ⟨x, rfl, hK⟩) (run_congr hq (hr.1 e)), fun e => ⟨some (.v undef), rfl, hr.2 e⟩⟩
    · exact hr.elim
end Go.Proofs.Ytjnencdmejhmjaa.Eng
namespace Go.Proofs.Ytjnencdmejhmjaa.Eng
open Go Go.RowKit
set_option linter.unusedSimpArgs false
set_option linter.unusedVariables false
variable {P : Program} {N : Nat}

theorem compInss_spec {ops : Array Oper} : ∀ {os : List Oper} {l : List Ins}, compInss P N ops os = some l → l.length = os.length ∧ ∀ (i : Nat) (o : Oper), os[i]? = some o → ∃ x, l[i]? = some x ∧ compIns P N ops o = some x
  | [], l, h => by simp [compInss] at h; subst h; simp
  | o :: os, l, h => by
    simp only [compInss, Option.bind_eq_some_iff] at h
    obtain ⟨x, hx, l', hl', e⟩ := h
    injection e with e; subst e
    obtain ⟨h1, h2⟩ := compInss_spec hl'
    refine ⟨by simp [h1], fun i o' ho => ?_⟩
    match i with
    | 0 => simp at ho; subst ho; exact ⟨x, rfl, hx⟩
    | i + 1 => simpa using h2 i o' (by simpa using ho)
theorem closure_spec : ∀ (os : List Oper) (acc : List (List Nat)), (closureGo acc os).length = acc.length + os.length ∧ (∀ i, i < acc.length → (closureGo acc os)[i]? = acc[i]?) ∧
    ∀ (i : Nat) (o : Oper), os[i]? = some o → (closureGo acc os)[acc.length + i]? = some ((dpre o).flatMap fun j => j :: ((closureGo acc os).take (acc.length + i)).getD j []).eraseDups
  | [], acc => by simp [closureGo]
  | o :: os, acc => by
    obtain ⟨h1, h2, h3⟩ := closure_spec os (acc ++ [((dpre o).flatMap fun j => j :: acc.getD j []).eraseDups])
    simp only [closureGo]
    refine ⟨by rw [h1]; simp; omega, fun i hi => ?_, fun i o' ho => ?_⟩
    · rw [h2 i (by simp; omega), List.getElem?_append_left hi]
    · match i with
      | 0 =>
        simp at ho; subst ho
        have e1 : (closureGo (acc ++ [((dpre o).flatMap fun j => j :: acc.getD j []).eraseDups]) os).take acc.length = acc := by
          apply List.ext_getElem?
          intro i
          rw [List.getElem?_take]
          split
          · rename_i hi; rw [h2 i (by simp; omega), List.getElem?_append_left hi]
          · rename_i hi; rw [List.getElem?_eq_none (by omega)]
        rw [Nat.add_zero, e1, h2 acc.length (by simp)]
        simp
      | i + 1 =>
        have := h3 i o' (by simpa using ho)
        simp only [List.length_append, List.length_cons, List.length_nil, Nat.zero_add] at this
        rw [show acc.length + (i + 1) = acc.length + 1 + i by omega]
        exact this
theorem closure_at {os : List Oper} (he : edgesOK os = true) (k : Nat) (o : Oper) (ho : os[k]? = some o) (j : Nat) : j ∈ (closureGo [] os).getD k [] ↔ ∃ d ∈ dpre o, d < k ∧ (j = d ∨ j ∈ (closureGo [] os).getD d []) := by
  obtain ⟨_, _, h3⟩ := closure_spec os []
  have h := h3 k o ho
  simp only [List.length_nil, Nat.zero_add] at h
  have hd : ∀ d ∈ dpre o, d < k := by
    intro d hd
    have : (o, k) ∈ os.zipIdx := by
      rw [List.mem_zipIdx_iff_getElem?]; simpa using ho
    have := List.all_eq_true.1 he _ this
    exact by simpa using List.all_eq_true.1 this d hd
  rw [List.getD_eq_getElem?_getD, h, Option.getD_some, List.mem_eraseDups, List.mem_flatMap]
  constructor
  · rintro ⟨d, h1, h2⟩
    refine ⟨d, h1, hd d h1, ?_⟩
    rcases List.mem_cons.1 h2 with h2 | h2
    · exact .inl h2
    · right
      rw [List.getD_eq_getElem?_getD, List.getElem?_take, if_pos (hd d h1)] at h2
      rw [List.getD_eq_getElem?_getD]; exact h2
  · rintro ⟨d, h1, h2, h3⟩
    refine ⟨d, h1, ?_⟩
    rcases h3 with h3 | h3
    · exact List.mem_cons.2 (.inl h3)
    · refine List.mem_cons_of_mem _ ?_
      rw [List.getD_eq_getElem?_getD, List.getElem?_take, if_pos h2]
      rw [List.getD_eq_getElem?_getD] at h3; exact h3
theorem closure_sub {os : List Oper} (he : edgesOK os = true) (X : List Nat) (hX : ∀ i ∈ X, ∀ o, os[i]? = some o → ∀ j ∈ dpre o, j ∈ X) : ∀ (k : Nat) (o : Oper), os[k]? = some o → (∀ j ∈ dpre o, j ∈ X) → ∀ j ∈ (closureGo [] os).getD k [], j ∈ X := by
  intro k
  induction k using Nat.strongRecOn with
  | _ k ih =>
    intro o ho hp j hj
    obtain ⟨d, h1, h2, h3⟩ := (closure_at he k o ho j).1 hj
    rcases h3 with rfl | h3
    · exact hp _ h1
    · have hk : k < os.length := (List.getElem?_eq_some_iff.1 ho).1
      have hd : d < os.length := by omega
      exact ih d h2 os[d] (by simp [hd]) (hX d (hp d h1) os[d] (by simp [hd])) j h3
theorem nodup_len : ∀ (n : Nat) (l : List Nat), l.Nodup → (∀ i ∈ l, i < n) → l.length ≤ n
  | 0, l, _, h => by
    cases l with
    | nil => simp
    | cons a l => exact absurd (h a List.mem_cons_self) (by omega)
  | n + 1, l, hn, h => by
    have h1 := nodup_len n (l.erase n) (hn.erase n) (fun i hi => by
      have h2 := h i (List.mem_of_mem_erase hi)
      have h3 : i ≠ n := fun e => by subst e; exact (List.Nodup.not_mem_erase hn) hi
      omega)
    rw [List.length_erase] at h1
    split at h1 <;> omega

/-! ### the orders that may be drawn -/
def Good (m : Region.Mode) (ops : Array Oper) : List Nat → List Nat → Prop
  | _, [] => True
  | X, i :: ρ => i < ops.size ∧ i ∉ X ∧ (∀ o, ops[i]? = some o → ∀ e ∈ o.after, Region.binds m e = true → e.on ∈ X) ∧ Good m ops (i :: X) ρ
theorem Good.nodup {m : Region.Mode} {ops : Array Oper} : ∀ {ρ X : List Nat}, Good m ops X ρ → X.Nodup → (∀ i ∈ X, i < ops.size) → (ρ.reverse ++ X).Nodup ∧ ∀ i ∈ ρ.reverse ++ X, i < ops.size
  | [], X, _, h1, h2 => by simpa using ⟨h1, h2⟩
  | i :: ρ, X, h, h1, h2 => by
    obtain ⟨g1, g2, _, g4⟩ := h
    have := Good.nodup g4 (List.nodup_cons.2 ⟨g2, h1⟩) (List.forall_mem_cons.2 ⟨g1, fun j hj => h2 j hj⟩)
    simpa [List.append_assoc] using this
theorem go_good (m : Region.Mode) (ops : Array Oper) : ∀ (fuel t : Nat) (listed : Array Bool) (acc : List Nat), listed.size = ops.size → (∀ i, i < ops.size → (listed.getD i true = true ↔ i ∈ acc)) → (∀ i ∈ acc, i < ops.size) → acc.Nodup → fuel + acc.length = ops.size →
    ∃ ρ, Region.linearise.go m ops fuel t listed acc = acc.reverse ++ ρ ∧ Good m ops acc ρ ∧
      ((∃ σ, Good m ops [] σ ∧ ∀ i, i < ops.size → i ∈ σ) → ∀ i, i < ops.size → i ∈ acc ∨ i ∈ ρ) := by
  intro fuel
  induction fuel with
  | zero =>
    intro t listed acc hs hl hlt hn hf
    refine ⟨[], by simp [Region.linearise.go], trivial, fun _ i hi => .inl ?_⟩
    rcases Classical.em (i ∈ acc) with h | h
    · exact h
    · have := nodup_len ops.size (i :: acc) (List.nodup_cons.2 ⟨h, hn⟩) (List.forall_mem_cons.2 ⟨hi, fun j hj => hlt j hj⟩)
      simp at this; omega
  | succ fuel ih =>
    intro t listed acc hs hl hlt hn hf
    simp only [Region.linearise.go]
    have hfalse : ∀ j, listed.getD j false = true → j ∈ acc := by
      intro j hj
      have hjs : j < listed.size := by
        rcases Nat.lt_or_ge j listed.size with h | h
        · exact h
        · rw [Array.getD_eq_getD_getElem?, Array.getElem?_eq_none h] at hj; simp at hj
      refine (hl j (by omega)).1 ?_
      rw [Array.getD_eq_getD_getElem?] at hj ⊢
      rw [Array.getElem?_eq_getElem hjs] at hj ⊢
      exact hj
    generalize hrs : ((List.range ops.size).filter fun i => !listed.getD i true && ((ops[i]?).map fun o => o.after.all fun e => !Region.binds m e || listed.getD e.on false).getD false) = rs
    split
    · rename_i i hi
      have him : i ∈ rs := List.mem_of_getElem? hi
      rw [← hrs, List.mem_filter, List.mem_range] at him
      obtain ⟨hi1, hi2⟩ := him
      simp only [Bool.and_eq_true, Bool.not_eq_true'] at hi2
      obtain ⟨hi2, hi3⟩ := hi2
      have hni : i ∉ acc := fun h => by rw [(hl i hi1).2 h] at hi2; simp at hi2
      obtain ⟨ρ, r1, r2, r3⟩ := ih (t / rs.length) (listed.setIfInBounds i true) (i :: acc) (by simp [hs]) (fun j hj => by
        rw [Array.getD_eq_getD_getElem?, Array.getElem?_setIfInBounds]
        by_cases e : i = j
        · subst e; simp [hs, hj]
        · rw [if_neg e, ← Array.getD_eq_getD_getElem?, hl j hj]
          simp; exact fun h => absurd h.symm e) (List.forall_mem_cons.2 ⟨hi1, fun j hj => hlt j hj⟩) (List.nodup_cons.2 ⟨hni, hn⟩) (by simp; omega)
      refine ⟨i :: ρ, by rw [r1]; simp, ⟨hi1, hni, fun o ho e he hb => ?_, r2⟩, fun hσ j hj => ?_⟩
      · rw [ho] at hi3
        simp only [Option.map_some, Option.getD_some] at hi3
        have := Array.all_eq_true'.1 hi3 e he
        simp only [Bool.or_eq_true, Bool.not_eq_true'] at this
        rcases this with h | h
        · rw [hb] at h; simp at h
        · exact hfalse _ h
      · rcases r3 hσ j hj with h | h
        · rcases List.mem_cons.1 h with rfl | h
          · exact .inr List.mem_cons_self
          · exact .inl h
        · exact .inr (List.mem_cons_of_mem _ h)
    · rename_i hnone
      have hrs0 : rs = [] := by
        rcases List.eq_nil_or_concat rs with h | ⟨_, _, h⟩
        · exact h
        · have hlen : 0 < rs.length := by rw [h]; simp
          rw [List.getElem?_eq_none_iff] at hnone
          have := Nat.mod_lt t hlen
          omega
      refine ⟨[], by simp, trivial, fun hσ i hi => .inl ?_⟩
      obtain ⟨σ, s1, s2⟩ := hσ
      -- along σ everything is in acc
      have key : ∀ (τ X : List Nat), Good m ops X τ → (∀ j ∈ X, j ∈ acc) → ∀ j ∈ τ, j ∈ acc := by
        intro τ
        induction τ with
        | nil => intro X _ _ j hj; simp at hj
        | cons k τ ihτ =>
          intro X hg hX j hj
          obtain ⟨g1, g2, g3, g4⟩ := hg
          have hk : k ∈ acc := by
            rcases Classical.em (k ∈ acc) with h | h
            · exact h
            · exfalso
              have : k ∈ rs := by
                rw [← hrs, List.mem_filter, List.mem_range]
                refine ⟨g1, ?_⟩
                have h1 : listed.getD k true = false := by
                  cases hb : listed.getD k true with
                  | false => rfl
                  | true => exact absurd ((hl k g1).1 hb) h
                simp only [h1, Bool.not_false, Bool.true_and, Array.getElem?_eq_getElem g1, Option.map_some, Option.getD_some]
                refine Array.all_eq_true'.2 fun e he => ?_
                cases hb : Region.binds m e with
                | false => rfl
                | true =>
                  have hin := hX _ (g3 ops[k] (Array.getElem?_eq_getElem g1) e he hb)
                  have hlt' := hlt _ hin
                  have := (hl _ hlt').2 hin
                  rw [Array.getD_eq_getD_getElem?, Array.getElem?_eq_getElem (by omega)] at this ⊢
                  simpa using this
              rw [hrs0] at this; simp at this
          rcases List.mem_cons.1 hj with rfl | hj
          · exact hk
          · exact ihτ (k :: X) g4 (List.forall_mem_cons.2 ⟨hk, fun q hq => hX q hq⟩) j hj
      exact key σ [] s1 (by simp) i (s2 i hi)
theorem lin_good (m : Region.Mode) (ops : Array Oper) (hc : (Region.linearise m ops 0).length = ops.size) (t : Nat) : Good m ops [] (Region.linearise m ops t) ∧ ∀ i, i < ops.size → i ∈ Region.linearise m ops t := by
  have base : ∀ t, ∃ ρ, Region.linearise m ops t = ρ ∧ Good m ops [] ρ ∧ ((∃ σ, Good m ops [] σ ∧ ∀ i, i < ops.size → i ∈ σ) → ∀ i, i < ops.size → i ∈ ([] : List Nat) ∨ i ∈ ρ) := by
    intro t
    obtain ⟨ρ, h1, h2, h3⟩ := go_good m ops ops.size t (Array.replicate ops.size false) [] (by simp) (fun i hi => by simp [Array.getD_eq_getD_getElem?, hi]) (by simp) (by simp) (by simp)
    exact ⟨ρ, by simpa [Region.linearise] using h1, h2, h3⟩
  obtain ⟨σ, s1, s2, _⟩ := base 0
  have hall : ∀ i, i < ops.size → i ∈ σ := by
    intro i hi
    obtain ⟨n1, n2⟩ := s2.nodup (by simp) (by simp)
    rw [s1] at hc
    rcases Classical.em (i ∈ σ) with h | h
    · exact h
    · have := nodup_len ops.size (i :: (σ.reverse ++ [])) (List.nodup_cons.2 ⟨by simpa using h, n1⟩) (List.forall_mem_cons.2 ⟨hi, fun j hj => n2 j hj⟩)
      simp at this; omega
  obtain ⟨ρ, r1, r2, r3⟩ := base t
  rw [r1]
  exact ⟨r2, fun i hi => (r3 ⟨σ, s2, hall⟩ i hi).resolve_left (by simp)⟩
theorem binds_any {m : Region.Mode} {e : Edge} (h : Region.binds .any e = true) : Region.binds m e = true := by
  unfold Region.binds at h ⊢
  split at h
  · simp at h
  · simp at h
  · rfl
/-- an order that may be drawn: what it asks of each operation -/
def OrdOK (ops : Array Oper) : List Nat → List Nat → Prop
  | _, [] => True
  | X, i :: ρ => i < ops.size ∧ i ∉ X ∧ (∀ o, ops[i]? = some o → ∀ j ∈ dpre o, j ∈ X) ∧ OrdOK ops (i :: X) ρ
theorem Good.ord {m : Region.Mode} {ops : Array Oper} : ∀ {ρ X : List Nat}, Good m ops X ρ → OrdOK ops X ρ
  | [], _, _ => trivial
  | i :: ρ, X, ⟨h1, h2, h3, h4⟩ => ⟨h1, h2, fun o ho j hj => by
      simp only [dpre, List.mem_map, List.mem_filter] at hj
      obtain ⟨e, ⟨he, hb⟩, rfl⟩ := hj
      exact h3 o ho e (by simpa using he) (binds_any hb), h4.ord⟩
theorem schedule_ok {ops : Array Oper} (h : linOK ops = true) (mixed : Bool) (t : Nat) : OrdOK ops [] (Region.schedule mixed ops t) ∧ ∀ i, i < ops.size → i ∈ Region.schedule mixed ops t := by
  simp only [linOK, Bool.and_eq_true, beq_iff_eq] at h
  obtain ⟨⟨h1, h2⟩, h3⟩ := h
  unfold Region.schedule
  split
  · exact ⟨(lin_good .any ops h1 t).1.ord, (lin_good .any ops h1 t).2⟩
  · split
    · exact ⟨(lin_good .text ops h2 _).1.ord, (lin_good .text ops h2 _).2⟩
    · exact ⟨(lin_good .gc ops h3 _).1.ord, (lin_good .gc ops h3 _).2⟩
end Go.Proofs.Ytjnencdmejhmjaa.Eng
namespace Go.Proofs.Ytjnencdmejhmjaa.Eng
open Go Go.RowKit
set_option linter.unusedSimpArgs false
set_option linter.unusedVariables false
variable {P : Program} {N : Nat}

structure DInv (l : List Ins) (b : List (List Nat)) (X dn PD : List Nat) (E : Env) (H : Heap) : Prop where
  lt : ∀ i ∈ dn, i < l.length
  nd : dn.Nodup
  split : ∀ i, i ∈ dn ↔ (i ∈ X ∨ i ∈ PD)
  disj : ∀ i ∈ PD, i ∉ X
  still : ∀ i ∈ PD, stillAt l i = true
  closed : ∀ i ∈ dn, ∀ j ∈ b.getD i [], j ∈ dn
  holds : ∀ i ∈ PD, ∀ x, l[i]? = some x → x.holds E H
theorem ssa_at {l : List Ins} {b : List (List Nat)} (h : ssa l b = true) {q i : Nat} {x y : Ins} (hq : l[q]? = some x) (hs : stillAt l q = true) (hi : l[i]? = some y) :
    ∃ t, x.d = some t ∧ (t ∈ y.reads → q ∈ b.getD i []) ∧ (i ≠ q → y.d ≠ some t) := by
  have hql : q < l.length := (List.getElem?_eq_some_iff.1 hq).1
  have hil : i < l.length := (List.getElem?_eq_some_iff.1 hi).1
  have h1 := List.all_eq_true.1 h q (List.mem_range.2 hql)
  rw [hs] at h1
  simp only [Bool.not_true, Bool.false_or] at h1
  have h2 := List.all_eq_true.1 h1 i (List.mem_range.2 hil)
  rw [hq, hi] at h2
  simp only at h2
  split at h2
  · rename_i t ht
    simp only [Bool.and_eq_true, Bool.or_eq_true, Bool.not_eq_true', bne_iff_ne, ne_eq, beq_iff_eq] at h2
    refine ⟨t, ht, fun hm => ?_, fun hne => ?_⟩
    · rcases h2.1 with h3 | h3
      · have : y.reads.contains t = true := by simpa using hm
        rw [this] at h3; simp at h3
      · simpa using h3
    · rcases h2.2 with h3 | h3
      · omega
      · exact h3
  · simp at h2
theorem still_spec {l : List Ins} {i : Nat} (h : stillAt l i = true) : ∃ x t, l[i]? = some x ∧ x.q.isVal = true ∧ x.d = some t := by
  unfold stillAt at h
  cases hx : l[i]? with
  | none => rw [hx] at h; simp at h
  | some x =>
    rw [hx] at h
    simp only [Option.any_some] at h
    unfold Ins.still at h
    split at h
    · simp at h
    · simp only [Bool.and_eq_true] at h
      obtain ⟨t, ht⟩ := Option.isSome_iff_exists.1 h.2
      exact ⟨x, t, rfl, h.1, ht⟩
theorem plan_alts {l : List Ins} {E : Env} {H : Heap} {K : Env → Heap → Prop} (f : Nat → List Nat) (g : Nat → Plan) : ∀ (rs : List Nat), planRun P l (rs.foldr (fun i alt => .eff i (f i) (g i) alt) .none) E H K → ∀ i ∈ rs, ∃ x, l[i]? = some x ∧ x.run P E H fun E' H' => holdsAll l E' H' (f i) ∧ planRun P l (g i) E' H' K
  | [], _, i, hi => by simp at hi
  | r :: rs, h, i, hi => by
    simp only [List.foldr_cons, planRun] at h
    rcases List.mem_cons.1 hi with rfl | hi
    · cases hx : l[i]? with
      | none => rw [hx] at h; exact h.1.elim
      | some x => rw [hx] at h; exact ⟨x, rfl, h.1⟩
    · exact plan_alts f g rs h.2 i hi
theorem put_get (d : Option Nat) (x : Option AV) (E : Env) (t : Nat) : (E.put d x).get t = if d = some t then x else E.get t := by
  cases d with
  | none => simp [Env.put]
  | some s =>
    cases x with
    | none => simp only [Env.put, Env.get_del, Option.some.injEq]
    | some a => simp only [Env.put, Env.get_set, Option.some.injEq]
/-- What only reads is looked at as soon as it can be. -/
theorem norm_plan {l : List Ins} {b : List (List Nat)} (hssa : ssa l b = true) {H : Heap} {K : Env → Heap → Prop} {X : List Nat} : ∀ (k : Nat) (dn PD : List Nat) (E : Env), DInv l b X dn PD E H → k + dn.length = l.length + 1 → planRun P l (mkPlan l b k dn) E H K →
    ∃ k' dn' PD' E', DInv l b X dn' PD' E' H ∧ k' + 1 + dn'.length = l.length + 1 ∧ planRun P l (mkPlan l b (k' + 1) dn') E' H K ∧ (∀ i, i < l.length → stillAt l i = true → readyAt b dn' i = true → False) ∧ (∀ t x, (dels l PD' E').get t = some x → (dels l PD E).get t = some x) := by
  intro k
  induction k with
  | zero =>
    intro dn PD E hI hk _
    have := nodup_len l.length dn hI.nd hI.lt
    omega
  | succ k ih =>
    intro dn PD E hI hk h
    cases hf : (List.range l.length).find? fun i => stillAt l i && readyAt b dn i with
    | none =>
      refine ⟨k, dn, PD, E, hI, hk, h, fun i hi hs hr => ?_, fun t x hx => hx⟩
      have := List.find?_eq_none.1 hf i (List.mem_range.2 hi)
      rw [hs, hr] at this; simp at this
    | some i =>
      have hfi := List.find?_some hf
      have hil := List.mem_range.1 (List.mem_of_find?_eq_some hf)
      simp only [Bool.and_eq_true] at hfi
      obtain ⟨hst, hrd⟩ := hfi
      obtain ⟨x, d, hx, hval, hd⟩ := still_spec hst
      simp only [mkPlan, hf, planRun, hx] at h
      simp only [readyAt, Bool.and_eq_true, Bool.not_eq_true'] at hrd
      have hni : i ∉ dn := fun hm => absurd hrd.1 (by simpa using hm)
      have hb : ∀ j ∈ b.getD i [], j ∈ dn := fun j hj => by simpa using List.all_eq_true.1 hrd.2 j hj
      obtain ⟨t0, ht0, hself, _⟩ := ssa_at hssa hx hst hx
      have hdt : t0 = d := by rw [hd] at ht0; injection ht0 with h; exact h.symm
      subst hdt
      have hnr : t0 ∉ x.reads := fun hm => hni (hb _ (hself hm))
      have hnq : ∀ t ∈ x.q.reads, t0 ≠ t := fun t ht e => hnr (by subst e; exact List.mem_append_right _ ht)
      -- one step of it
      have go : ∀ (v : Option AV), (x.holds (E.put x.d v) H) → planRun P l (mkPlan l b k (i :: dn)) (E.put x.d v) H K → ∃ k' dn' PD' E', DInv l b X dn' PD' E' H ∧ k' + 1 + dn'.length = l.length + 1 ∧ planRun P l (mkPlan l b (k' + 1) dn') E' H K ∧ (∀ i, i < l.length → stillAt l i = true → readyAt b dn' i = true → False) ∧ (∀ t x, (dels l PD' E').get t = some x → (dels l PD E).get t = some x) := by
        intro v hh hp
        have hI' : DInv l b X (i :: dn) (i :: PD) (E.put x.d v) H := by
          refine ⟨List.forall_mem_cons.2 ⟨hil, hI.lt⟩, List.nodup_cons.2 ⟨hni, hI.nd⟩, fun j => ?_, List.forall_mem_cons.2 ⟨fun hX => hni ((hI.split i).2 (.inl hX)), hI.disj⟩, List.forall_mem_cons.2 ⟨hst, hI.still⟩, List.forall_mem_cons.2 ⟨fun j hj => List.mem_cons_of_mem _ (hb j hj), fun q hq j hj => List.mem_cons_of_mem _ (hI.closed q hq j hj)⟩, ?_⟩
          · simp only [List.mem_cons, hI.split j]
            constructor
            · rintro (h | h | h)
              · exact .inr (.inl h)
              · exact .inl h
              · exact .inr (.inr h)
            · rintro (h | h | h)
              · exact .inr (.inl h)
              · exact .inl h
              · exact .inr (.inr h)
          · refine List.forall_mem_cons.2 ⟨fun y hy => ?_, fun q hq y hy => ?_⟩
            · rw [hx] at hy; injection hy with hy; subst hy; exact hh
            · have hold := hI.holds q hq y hy
              have hqd : q ∈ dn := (hI.split q).2 (.inr hq)
              obtain ⟨t1, ht1, hr1, hne1⟩ := ssa_at hssa hx hst hy
              have e1 : t1 = t0 := by rw [hd] at ht1; injection ht1 with h; exact h.symm
              subst e1
              have hqi : q ≠ i := fun e => hni (e ▸ hqd)
              have hyr : t1 ∉ y.reads := fun hm => hni (hI.closed q hqd i (hr1 hm))
              have hyd := hne1 hqi
              have hget : ∀ t, t ≠ t1 → (E.put x.d v).get t = E.get t := fun t ht => by
                rw [put_get, hd, if_neg (by simpa using fun e => ht e.symm)]
              unfold Ins.holds at hold ⊢
              cases hyd2 : y.d with
              | none => rw [hyd2] at hold; exact hold.elim
              | some dy =>
                rw [hyd2] at hold
                have hdy : dy ≠ t1 := fun e => hyd (by rw [hyd2, e])
                simp only at hold ⊢
                have hqv : y.q.val (E.put x.d v).opd H = y.q.val E.opd H := val_congr fun t ht => hget t fun e => hyr (by subst e; exact List.mem_append_right _ ht)
                cases hg : y.g with
                | none =>
                  rw [hg] at hold
                  simp only at hold ⊢
                  rw [hget dy hdy, hqv]; exact hold
                | some tb =>
                  obtain ⟨t, bb⟩ := tb
                  rw [hg] at hold
                  simp only at hold ⊢
                  rw [hget dy hdy, hqv, hget t fun e => hyr (by simp [Ins.reads, hg, e])]; exact hold
        obtain ⟨k', dn', PD', E', r1, r2, r3, r4, r5⟩ := ih (i :: dn) (i :: PD) (E.put x.d v) hI' (by simp; omega) hp
        refine ⟨k', dn', PD', E', r1, r2, r3, r4, fun t y hy => ?_⟩
        have h1 := r5 t y hy
        simp only [dels, hx, Option.bind_some, hd, Env.get_del] at h1
        split at h1
        · simp at h1
        · rename_i hne
          rcases dels_get l PD (E.put x.d v) t with ⟨_, h2⟩ | ⟨h3, h4⟩
          · rw [hd] at h2; rw [h2] at h1; simp at h1
          · rw [hd] at h4
            rw [h4, put_get, if_neg (by simpa using hne)] at h1
            rcases dels_get l PD E t with ⟨⟨q, q1, q2⟩, _⟩ | ⟨_, h6⟩
            · exact absurd q2 (h3 q q1)
            · rw [h6]; exact h1
      have hvv : ∀ v, x.q.val (E.put x.d v).opd H = x.q.val E.opd H := fun v => val_congr fun t ht => by rw [put_get, hd, if_neg (by simpa using hnq t ht)]
      unfold Ins.run at h
      cases hg : x.g with
      | none =>
        rw [hg] at h
        simp only at h
        rw [run_val hval] at h
        split at h
        · rename_i a ha
          refine go (some a) ?_ h
          unfold Ins.holds
          rw [hd, hg]
          simp only
          exact ⟨a, by rw [← hd, put_get, hd, if_pos rfl], by rw [← hd, hvv]; exact ha⟩
        · exact h.elim
      | some tb =>
        obtain ⟨t, bb⟩ := tb
        rw [hg] at h
        simp only at h
        have htr : t0 ≠ t := fun e => hnr (by simp [Ins.reads, hg, e])
        split at h
        · rename_i c hc
          obtain ⟨h1, h2⟩ := h
          by_cases e : c = .bool bb
          · have h1 := h1 e
            rw [run_val hval] at h1
            split at h1
            · rename_i a ha
              refine go (some a) ?_ h1
              unfold Ins.holds
              rw [hd, hg]
              simp only
              refine ⟨c, by rw [← hd, put_get, hd, if_neg (by simpa using htr)]; exact hc, fun _ => ⟨a, by rw [← hd, put_get, hd, if_pos rfl], by rw [← hd, hvv]; exact ha⟩, fun e2 => absurd e e2⟩
            · exact h1.elim
          · refine go (some (.v undef)) ?_ (h2 e)
            unfold Ins.holds
            rw [hd, hg]
            simp only
            exact ⟨c, by rw [← hd, put_get, hd, if_neg (by simpa using htr)]; exact hc, fun e2 => absurd e2 e, fun _ => by rw [← hd, put_get, hd, if_pos rfl]⟩
        · exact h.elim
theorem St.less {Keep F : Nat → Prop} {E E' : Env} {H : Heap} {a : Act} {w : World} (h : St N Keep F E H a w) (he : ∀ t x, E'.get t = some x → E.get t = some x) : St N Keep F E' H a w :=
  ⟨fun t x hx => h.env t x (he t x hx), h.tsz, h.dfs, h.heap⟩
theorem drawn_ops {ops : Array Oper} {l : List Ins} (hl : compInss P N ops ops.toList = some l) (hedge : edgesOK ops.toList = true) (hssa : ssa l (closureGo [] ops.toList) = true) {Keep F0 : Nat → Prop} {w0 : World} {Q : Exit → Env → Heap → Prop} :
    ∀ (ρ X : List Nat) (k : Nat) (dn PD : List Nat) (E : Env) (H : Heap) (F : Nat → Prop) (a : Act) (w : World), DInv l (closureGo [] ops.toList) X dn PD E H → k + dn.length = l.length + 1 → OrdOK ops X ρ → (∀ i, i < ops.size → i ∈ X ∨ i ∈ ρ) →
      (∀ i ∈ X, ∀ o, ops.toList[i]? = some o → ∀ j ∈ dpre o, j ∈ X) → St N Keep F (dels l PD E) H a w → Grow Keep F0 F w0 w → planRun P l (mkPlan l (closureGo [] ops.toList) k dn) E H (Q .normal) →
      wpOps P ops (Lift N Keep F0 w0 Q) ρ a w := by
  obtain ⟨hlen, hspec⟩ := compInss_spec hl
  have hlen' : l.length = ops.size := by simpa using hlen
  intro ρ
  induction ρ with
  | nil =>
    intro X k dn PD E H F a w hI hk hord hall hX hS hg h
    obtain ⟨k', dn', PD', E', r1, r2, r3, r4, r5⟩ := norm_plan hssa k dn PD E hI hk h
    have hdn : ∀ i, i < l.length → i ∈ dn' := fun i hi => (r1.split i).2 (.inl ((hall i (by omega)).resolve_right (by simp)))
    have hPD : PD' = [] := by
      rcases List.eq_nil_or_concat PD' with h | ⟨m, q, h⟩
      · exact h
      · have hq : q ∈ PD' := by rw [h]; simp
        have := r1.disj q hq
        exact absurd ((hall q (by have := r1.lt q ((r1.split q).2 (.inr hq)); omega)).resolve_right (by simp)) this
    subst hPD
    have hnr : ∀ i, i < l.length → readyAt (closureGo [] ops.toList) dn' i = false := fun i hi => by simp [readyAt, hdn i hi]
    have e1 : ((List.range l.length).find? fun i => stillAt l i && readyAt (closureGo [] ops.toList) dn' i) = none := List.find?_eq_none.2 fun i hi => by simp [hnr i (List.mem_range.1 hi)]
    have e2 : (List.range l.length).filter (readyAt (closureGo [] ops.toList) dn') = [] := List.filter_eq_nil_iff.2 fun i hi => by simp [hnr i (List.mem_range.1 hi)]
    simp only [mkPlan, e1, e2, planRun] at r3
    exact ⟨E', H, F, r3, hg, hS.less r5⟩
  | cons i ρ ih =>
    intro X k dn PD E H F a w hI hk hord hall hX hS hg h
    obtain ⟨k', dn', PD', E', r1, r2, r3, r4, r5⟩ := norm_plan hssa k dn PD E hI hk h
    have hS' := hS.less r5
    clear hS r5 h hI hk
    obtain ⟨hi, hiX, hpre, hord'⟩ := hord
    have hoi : ops.toList[i]? = some ops[i] := by simp [hi]
    obtain ⟨x, hx, hcx⟩ := hspec i ops[i] hoi
    have hbX : ∀ j ∈ (closureGo [] ops.toList).getD i [], j ∈ X := closure_sub hedge X hX i ops[i] hoi (hpre ops[i] (by simp [hi]))
    -- what it reads is no slot of a pending one
    have hreads : ∀ t ∈ x.reads, (dels l PD' E').get t = E'.get t := by
      intro t ht
      rcases dels_get l PD' E' t with ⟨⟨q, q1, q2⟩, _⟩ | ⟨_, h2⟩
      · exfalso
        obtain ⟨y, d, hy, hval, hd⟩ := still_spec (r1.still q q1)
        obtain ⟨t1, ht1, hr1, _⟩ := ssa_at hssa hy (r1.still q q1) hx
        rw [hy] at q2
        simp only [Option.bind_some] at q2
        rw [ht1] at q2; injection q2 with q2; subst q2
        exact r1.disj q q1 (hbX q (hr1 ht))
      · exact h2
    have hother : ∀ q ∈ PD', q ≠ i → ∀ t, x.d = some t → (l[q]?).bind (·.d) ≠ some t := by
      intro q q1 hqi t ht e
      obtain ⟨y, d, hy, hval, hd⟩ := still_spec (r1.still q q1)
      obtain ⟨t1, ht1, _, hn1⟩ := ssa_at hssa hy (r1.still q q1) hx
      rw [hy] at e
      simp only [Option.bind_some] at e
      rw [ht1] at e; injection e with e; subst e
      exact hn1 (fun e => hqi e.symm) ht
    have hall' : ∀ j, j < ops.size → j ∈ i :: X ∨ j ∈ ρ := fun j hj => by
      rcases hall j hj with h | h
      · exact .inl (List.mem_cons_of_mem _ h)
      · rcases List.mem_cons.1 h with rfl | h
        · exact .inl List.mem_cons_self
        · exact .inr h
    have hX' : ∀ j ∈ i :: X, ∀ o, ops.toList[j]? = some o → ∀ m ∈ dpre o, m ∈ i :: X := by
      refine List.forall_mem_cons.2 ⟨fun o ho m hm => ?_, fun j hj o ho m hm => List.mem_cons_of_mem _ (hX j hj o ho m hm)⟩
      exact List.mem_cons_of_mem _ (hpre o (by simpa using ho) m hm)
    simp only [wpOps, Array.getElem?_eq_getElem hi]
    have fin : ∀ (K' : Env → Heap → Prop), x.run P (dels l PD' E') H K' → (∀ E2 H2 F2 a2 w2, K' E2 H2 → Grow Keep F F2 w w2 → St N Keep F2 E2 H2 a2 w2 → wpOps P ops (Lift N Keep F0 w0 Q) ρ a2 w2) →
        if Region.wanted ops[i] (yielded ops a.tmps) = true then Oper.wp P ops[i] a w (wpOps P ops (Lift N Keep F0 w0 Q) ρ) (Lift N Keep F0 w0 Q) ∨ (ops[i].asks P a w ∧ LetsOut (Lift N Keep F0 w0 Q)) else wpOps P ops (Lift N Keep F0 w0 Q) ρ (a.put ops[i].dst undef) w := by
      intro K' hr hk
      have hs := ins_sound (P := P) (Q := Lift N Keep F0 w0 Q) (Kc := wpOps P ops (Lift N Keep F0 w0 Q) ρ) hS' hcx hr hk
      split at hs
      · rename_i hw; rw [if_pos hw]; exact .inl hs
      · rename_i hw; rw [if_neg hw]; exact hs
    by_cases hin : i ∈ dn'
    · -- it has been looked at already
      have hiP : i ∈ PD' := ((r1.split i).1 hin).resolve_left hiX
      have hh := r1.holds i hiP x hx
      obtain ⟨_, d, hx2, hval, hd⟩ := still_spec (r1.still i hiP)
      rw [hx] at hx2; injection hx2 with hx2; subst hx2
      have hq : x.q.val (dels l PD' E').opd H = x.q.val E'.opd H := val_congr fun t ht => hreads t (List.mem_append_right _ ht)
      refine fin (fun E2 H2 => H2 = H ∧ E2 = (dels l PD' E').put x.d (E'.get d)) ?_ ?_
      · unfold Ins.holds at hh
        rw [hd] at hh
        unfold Ins.run
        cases hg : x.g with
        | none =>
          rw [hg] at hh
          simp only at hh ⊢
          obtain ⟨v, h1, h2⟩ := hh
          rw [run_val hval, hq, h2]
          exact ⟨rfl, by rw [h1]⟩
        | some tb =>
          obtain ⟨t, bb⟩ := tb
          rw [hg] at hh
          simp only at hh ⊢
          obtain ⟨c, h1, h2, h3⟩ := hh
          rw [hreads t (by simp [Ins.reads, hg]), h1]
          refine ⟨fun e => ?_, fun e => ⟨trivial, by rw [h3 e]⟩⟩
          obtain ⟨v, h4, h5⟩ := h2 e
          rw [run_val hval, hq, h5]
          exact ⟨rfl, by rw [h4]⟩
      · rintro E2 H2 F2 a2 w2 ⟨rfl, rfl⟩ hg2 hS2
        refine ih (i :: X) (k' + 1) dn' (PD'.filter (· != i)) E' H2 F2 a2 w2 ?_ r2 hord' hall' hX' (hS2.less fun t y hy => ?_) (hg.trans hg2) r3
        · refine ⟨r1.lt, r1.nd, fun j => ?_, fun q hq => ?_, fun q hq => r1.still q (List.mem_filter.1 hq).1, r1.closed, fun q hq => r1.holds q (List.mem_filter.1 hq).1⟩
          · rw [r1.split j]
            simp only [List.mem_cons, List.mem_filter, bne_iff_ne, ne_eq]
            constructor
            · rintro (h | h)
              · exact .inl (.inr h)
              · by_cases e : j = i
                · exact .inl (.inl e)
                · exact .inr ⟨h, e⟩
            · rintro ((rfl | h) | h)
              · exact .inr hiP
              · exact .inl h
              · exact .inr h.1
          · have h1 := List.mem_filter.1 hq
            simp only [bne_iff_ne, ne_eq] at h1
            exact fun h => (List.mem_cons.1 h).elim h1.2 (r1.disj q h1.1)
        · rw [put_get, hd]
          rcases dels_get l (PD'.filter (· != i)) E' t with ⟨_, h2⟩ | ⟨h3, h4⟩
          · rw [h2] at hy; simp at hy
          · rw [h4] at hy
            by_cases e : d = t
            · subst e; simpa using hy
            · rw [if_neg (by simpa using e)]
              rcases dels_get l PD' E' t with ⟨⟨q, q1, q2⟩, _⟩ | ⟨_, h6⟩
              · exfalso
                by_cases e2 : q = i
                · subst e2; rw [hx] at q2; simp only [Option.bind_some, hd] at q2; injection q2 with q2; exact e q2
                · exact h3 q (List.mem_filter.2 ⟨q1, by simpa using e2⟩) q2
              · rw [h6]; exact hy
    · have hrd : readyAt (closureGo [] ops.toList) dn' i = true := by
        simp only [readyAt, Bool.and_eq_true, Bool.not_eq_true']
        refine ⟨by simpa using hin, List.all_eq_true.2 fun j hj => ?_⟩
        have : j ∈ dn' := (r1.split j).2 (.inl (hbX j hj))
        simpa using this
      have hns : stillAt l i ≠ true := fun hs => r4 i (by omega) hs hrd
      have e1 : ((List.range l.length).find? fun i => stillAt l i && readyAt (closureGo [] ops.toList) dn' i) = none := List.find?_eq_none.2 fun j hj => by
        intro h
        simp only [Bool.and_eq_true] at h
        exact r4 j (List.mem_range.1 hj) h.1 h.2
      have hmem : i ∈ (List.range l.length).filter (readyAt (closureGo [] ops.toList) dn') := List.mem_filter.2 ⟨List.mem_range.2 (by omega), hrd⟩
      simp only [mkPlan, e1] at r3
      split at r3
      · rename_i hnil; rw [hnil] at hmem; simp at hmem
      · rename_i rs hne
        obtain ⟨x2, hx2, hr⟩ := plan_alts (P := P) (fun i => dn'.filter fun j => stillAt l j && !((closureGo [] ops.toList).getD i []).contains j) (fun i => mkPlan l (closureGo [] ops.toList) k' (i :: dn')) _ r3 i hmem
        rw [hx] at hx2; injection hx2 with hx2; subst hx2
        refine fin _ (insrun_congr (fun t ht => (hreads t ht).symm) hr) ?_
        rintro E2 H2 F2 a2 w2 ⟨v, rfl, hold, hp⟩ hg2 hS2
        refine ih (i :: X) k' (i :: dn') PD' (E'.put x.d v) H2 F2 a2 w2 ?_ (by simp; omega) hord' hall' hX' (hS2.less fun t y hy => ?_) (hg.trans hg2) hp
        · refine ⟨List.forall_mem_cons.2 ⟨by omega, r1.lt⟩, List.nodup_cons.2 ⟨hin, r1.nd⟩, fun j => ?_, fun q hq h => ?_, r1.still, List.forall_mem_cons.2 ⟨fun j hj => List.mem_cons_of_mem _ ((r1.split j).2 (.inl (hbX j hj))), fun q hq j hj => List.mem_cons_of_mem _ (r1.closed q hq j hj)⟩, fun q hq y hy => ?_⟩
          · simp only [List.mem_cons, r1.split j, or_assoc]
          · rcases List.mem_cons.1 h with rfl | h
            · exact hin ((r1.split q).2 (.inr hq))
            · exact r1.disj q hq h
          · refine holdsAll_mem hold (List.mem_filter.2 ⟨(r1.split q).2 (.inr hq), ?_⟩) hy
            simp only [r1.still q hq, Bool.true_and, Bool.not_eq_true']
            have : q ∉ (closureGo [] ops.toList).getD i [] := fun h => r1.disj q hq (hbX q h)
            simpa using this
        · rw [put_get]
          rcases dels_get l PD' (E'.put x.d v) t with ⟨_, h2⟩ | ⟨h3, h4⟩
          · rw [h2] at hy; simp at hy
          · rw [h4, put_get] at hy
            split
            · rename_i e; rw [if_pos e] at hy; exact hy
            · rename_i e
              rw [if_neg e] at hy
              rcases dels_get l PD' E' t with ⟨⟨q, q1, q2⟩, _⟩ | ⟨_, h6⟩
              · exact absurd q2 (h3 q q1)
              · rw [h6]; exact hy
theorem AWP.drawn {l : List Ins} {p : Plan} {E : Env} {H : Heap} {Q : Exit → Env → Heap → Prop} (h : planRun P l p E H (Q .normal)) : AWP P N (.drawn l p) E H Q := by
  intro code hc Keep F a w hS
  cases code with
  | region id ops d =>
    cases d with
    | false => simp [comp, Option.bind_eq_some_iff] at hc
    | true =>
      simp only [comp, Option.bind_eq_some_iff] at hc
      obtain ⟨l', hl', hc⟩ := hc
      split at hc
      · rename_i hok
        simp only [Bool.and_eq_true] at hok
        injection hc with hc; injection hc with h1 h2; subst h1; subst h2
        refine wp_region_draw fun t => ?_
        obtain ⟨s1, s2⟩ := schedule_ok hok.1.1 (P.follows .mixedOrders) t
        have hd : St N Keep F E H a w.drew := ⟨fun t x hx => (hS.env t x hx).grow hS.heap (Grow.same (Ext.drew _ w)), hS.tsz, hS.dfs, hS.heap.drew⟩
        have hlen := (compInss_spec hl').1
        exact drawn_ops hl' hok.1.2 hok.2 (Region.schedule (P.follows .mixedOrders) ops t) [] (ops.size + 1) [] [] E H F a w.drew ⟨by simp, by simp, by simp, by simp, by simp, by simp, by simp⟩ (by simp at hlen; simp; omega) s1 (fun i hi => .inr (s2 i hi)) (by simp) hd (Grow.same (Ext.drew _ w)) h
      · simp at hc
  | _ => simp [comp, Option.bind_eq_some_iff] at hc
end Go.Proofs.Ytjnencdmejhmjaa.Eng
namespace Go.Proofs.Ytjnencdmejhmjaa.Eng
open Go Go.RowKit
set_option linter.unusedSimpArgs false
set_option linter.unusedVariables false
variable {P : Program} {N : Nat}

def ob {α : Type} (o : Option α) (k : α → Prop) : Prop := match o with
  | some a => k a
  | none => False
theorem ob_some {α : Type} (a : α) (k : α → Prop) : ob (some a) k = k a := rfl
theorem ob_bind {α β : Type} (o : Option α) (f : α → Option β) (k : β → Prop) : ob (o.bind f) k = ob o fun a => ob (f a) k := by cases o <;> rfl
theorem run_ob {L : Nat} {ρ : Opd → Option AV} {H : Heap} {K : Option AV → Heap → Prop} {q : IOp} (h : q.isVal = true) : q.run P L ρ H K = ob (q.val ρ H) fun a => K (some a) H := by
  rw [run_val h]; cases q.val ρ H <;> rfl
section
variable (L : Nat) (ρ : Opd → Option AV) (H : Heap) (K : Option AV → Heap → Prop)
theorem r_mov (x : Opd) : IOp.run P L ρ H K (.mov x) = ob (ρ x) fun a => K (some a) H := by
  rw [run_ob rfl]; simp only [IOp.val, ob_bind, ob_some]

theorem r_asg (x : Opd) : IOp.run P L ρ H K (.asg x) = ob (ρ x) fun a => K (some a) H := by
  rw [run_ob rfl]; simp only [IOp.val, ob_bind, ob_some]

theorem r_pick (c x y : Opd) : IOp.run P L ρ H K (.pick c x y) = ob (ρ c) fun t => ob (pickVal ρ x y t) fun r => K (some r) H := by
  rw [run_ob rfl]; simp only [IOp.val, ob_bind, ob_some]

theorem r_bin (o : BinOp) (x y : Opd) : IOp.run P L ρ H K (.bin o x y) = ob (ρ x) fun a => ob (ρ y) fun b => ob (binVal o a b) fun r => K (some r) H := by
  rw [run_ob rfl]; simp only [IOp.val, ob_bind, ob_some]

theorem r_boolq (neg : Bool) (x y : Opd) : IOp.run P L ρ H K (.boolq neg x y) = ob (ρ x) fun a => ob (ρ y) fun b => ob (boolVal neg a b) fun r => K (some r) H := by
  rw [run_ob rfl]; simp only [IOp.val, ob_bind, ob_some]

theorem r_eqs (neg : Bool) (ks : List Bool) (x y : Opd) : IOp.run P L ρ H K (.eqs neg ks x y) = ob (ρ x) fun a => ob (ρ y) fun b => ob (eqCells neg ks a b) fun r => K (some r) H := by
  rw [run_ob rfl]; simp only [IOp.val, ob_bind, ob_some]

theorem r_un (o : UnOp) (x : Opd) : IOp.run P L ρ H K (.un o x) = ob (ρ x) fun a => ob (unVal o a) fun r => K (some r) H := by
  rw [run_ob rfl]; simp only [IOp.val, ob_bind, ob_some]

theorem r_conv (k : IntKind) (x : Opd) : IOp.run P L ρ H K (.conv k x) = ob (ρ x) fun a => ob (convVal k a) fun r => K (some r) H := by
  rw [run_ob rfl]; simp only [IOp.val, ob_bind, ob_some]

theorem r_load (n : Option Nat) (x : Opd) : IOp.run P L ρ H K (.load n x) = ob (ρ x) fun a => ob (loadVal n H a) fun r => K (some r) H := by
  rw [run_ob rfl]; simp only [IOp.val, ob_bind, ob_some]

theorem r_nilck (x : Opd) : IOp.run P L ρ H K (.nilck x) = ob (ρ x) fun a => ob (nilckVal a) fun r => K (some r) H := by
  rw [run_ob rfl]; simp only [IOp.val, ob_bind, ob_some]

theorem r_faddr (o : Nat) (x : Opd) : IOp.run P L ρ H K (.faddr o x) = ob (ρ x) fun a => ob (faddrVal o a) fun r => K (some r) H := by
  rw [run_ob rfl]; simp only [IOp.val, ob_bind, ob_some]

theorem r_fld (n : Option Nat) (o : Nat) (x : Opd) : IOp.run P L ρ H K (.fld n o x) = ob (ρ x) fun a => ob (fldVal n o a) fun r => K (some r) H := by
  rw [run_ob rfl]; simp only [IOp.val, ob_bind, ob_some]

theorem r_iaddr (sz : Nat) (x y : Opd) : IOp.run P L ρ H K (.iaddr sz x y) = ob (ρ x) fun a => ob (ρ y) fun b => ob (iaddrVal sz a b) fun r => K (some r) H := by
  rw [run_ob rfl]; simp only [IOp.val, ob_bind, ob_some]

theorem r_slc (sz : Nat) (x : Opd) (lo hi : Option Opd) : IOp.run P L ρ H K (.slc sz x lo hi) = ob (ρ x) fun a => ob (optOpd ρ lo) fun l => ob (optOpd ρ hi) fun h => ob (sliceVal sz l h a) fun r => K (some r) H := by
  rw [run_ob rfl]; simp only [IOp.val, ob_bind, ob_some]

theorem r_ext (i : Nat) (x : Opd) : IOp.run P L ρ H K (.ext i x) = ob (ρ x) fun a => ob (extVal i a) fun r => K (some r) H := by
  rw [run_ob rfl]; simp only [IOp.val, ob_bind, ob_some]

theorem r_len (x : Opd) : IOp.run P L ρ H K (.len x) = ob (ρ x) fun a => ob (lenVal a) fun r => K (some r) H := by
  rw [run_ob rfl]; simp only [IOp.val, ob_bind, ob_some]

theorem r_minn (x : Opd) (xs : List Opd) : IOp.run P L ρ H K (.minn x xs) = ob (ρ x) fun a => ob (opds ρ xs) fun l => ob (minVal a l) fun r => K (some r) H := by
  rw [run_ob rfl]; simp only [IOp.val, ob_bind, ob_some]

theorem r_maxx (x : Opd) (xs : List Opd) : IOp.run P L ρ H K (.maxx x xs) = ob (ρ x) fun a => ob (opds ρ xs) fun l => ob (maxVal a l) fun r => K (some r) H := by
  rw [run_ob rfl]; simp only [IOp.val, ob_bind, ob_some]

theorem r_mkf (f : Nat) (xs : List Opd) : IOp.run P L ρ H K (.mkf f xs) = ob (opds ρ xs) fun l => K (some (.fn f l)) H := by
  rw [run_ob rfl]; simp only [IOp.val, ob_bind, ob_some]

theorem r_build (z : List Value) (ps : List (Nat × Nat × Opd)) : IOp.run P L ρ H K (.build z ps) = ob (opdParts ρ ps) fun l => ob (fillVal (z.map .v) l) fun r => K (some (.agg r)) H := by
  rw [run_ob rfl]; simp only [IOp.val, ob_bind, ob_some]

theorem r_store (n : Nat) (x y : Opd) : IOp.run P L ρ H K (.store n x y) = ob (ρ x) fun a => ob (ρ y) fun b => storeRun n a b H fun H' => K none H' := by
  simp only [IOp.run]
  cases ρ x with
  | none => rfl
  | some a => cases ρ y <;> rfl

theorem r_alloc (z : Value) : IOp.run P L ρ H K (.alloc z) = ∀ a, K (some (.ptr L a (AV.ofV z).cells.length 0 0)) ((L, a, .arr (AV.ofV z).cells.length [AV.ofV z]) :: H) := by
  simp only [IOp.run]

theorem r_box (x : Opd) : IOp.run P L ρ H K (.box x) = ob (ρ x) fun y => y.ok = true ∧ y.cells.all AV.leaf = true ∧ ∀ a, K (some (.ptr L a y.cells.length 0 0)) ((L, a, .arr y.cells.length [y]) :: H) := by
  simp only [IOp.run]
  cases ρ x <;> rfl

theorem r_bsl (sz : Nat) (z : Value) (ln : Nat) (ps : List (Nat × Opd)) : IOp.run P L ρ H K (.bsl sz z ln ps) = ob (opdNats ρ ps) fun l => ob (fillEls sz (List.replicate ln (AV.ofV z)) l) fun els => ∀ a, K (some (.ref L a sz 0 ln)) ((L, a, .arr sz els) :: H) := by
  simp only [IOp.run]
  cases opdNats ρ ps with
  | none => rfl
  | some l => simp only [ob_some]; cases fillEls sz (List.replicate ln (AV.ofV z)) l <;> rfl

theorem r_mks (sz : Nat) (z : Value) (bytes : Nat) (x y : Opd) : IOp.run P L ρ H K (.mks sz z bytes x y) = ob (ρ x) fun a => ob (ρ y) fun b => mksRun L sz z bytes H K a b := by
  simp only [IOp.run]
  cases ρ x with
  | none => rfl
  | some a => cases ρ y <;> rfl

theorem r_app (sz bytes : Nat) (x y : Opd) : IOp.run P L ρ H K (.app sz bytes x y) = ob (ρ x) fun a => ob (ρ y) fun b => ob (oldOf sz H a) fun o => ob (newsOf sz H b) fun n => (o.1.length + n.length) * bytes ≤ 140737488355328 ∧ ∀ a', K (some (.ref L a' sz 0 (o.1.length + n.length))) ((L, a', .arr sz (o.1 ++ n)) :: o.2) := by
  simp only [IOp.run]
  cases ρ x with
  | none => rfl
  | some a =>
    cases ρ y with
    | none => rfl
    | some b =>
      simp only [ob_some]
      cases oldOf sz H a with
      | none => rfl
      | some o => cases newsOf sz H b <;> rfl

theorem r_call (f : Nat) (xs : List Opd) : IOp.run P L ρ H K (.call f xs) = ob (opds ρ xs) fun l => CallOK P f l H fun r H' => K (some r) H' := by
  simp only [IOp.run]
  cases opds ρ xs <;> rfl

theorem r_callv (x : Opd) (xs : List Opd) : IOp.run P L ρ H K (.callv x xs) = ob (ρ x) fun a => ob (opds ρ xs) fun l => callvRun P l H K a := by
  simp only [IOp.run]
  cases ρ x with
  | none => rfl
  | some a => cases opds ρ xs <;> rfl
end
theorem set_map {α : Type} (f : α → AV) (l : List α) (k : Nat) (x : α) : (l.map f).set k (f x) = (l.set k x).map f := by
  rw [List.map_set]
theorem get_map {α : Type} (f : α → AV) {l : List α} {k : Nat} {x : α} (h : l[k]? = some x) : (l.map f)[k]? = some (f x) := by
  rw [List.getElem?_map, h]; rfl
/-! ### the rules of the walk -/
section
variable {d t t' : Nat} {b c : Bool} {x y z : Opd} {l : List Ins} {E : Env} {H : Heap} {K : Env → Heap → Prop} {q : IOp} {u v r : AV}
theorem s_yes (h : E.get t = some (.b b)) (k : insRun P (⟨some d, q, none⟩ :: l) E H K) : insRun P (⟨some d, q, some (t, b)⟩ :: l) E H K := by
  simp only [insRun, Ins.run, h] at k ⊢
  exact ⟨fun _ => k, fun e => absurd rfl e⟩
theorem s_no (h : E.get t = some (.b c)) (hc : c = !b) (k : insRun P l ((d, .v undef) :: E) H K) : insRun P (⟨some d, q, some (t, b)⟩ :: l) E H K := by
  simp only [insRun, Ins.run, h, Env.put]
  exact ⟨fun e => by injection e with e; rw [e] at hc; cases b <;> simp at hc, fun _ => k⟩
theorem s_und {u : Value} (h : E.get t = some (.v u)) (hu : u = undef) (k : insRun P l ((d, .v undef) :: E) H K) : insRun P (⟨some d, q, some (t, b)⟩ :: l) E H K := by
  subst hu
  simp only [insRun, Ins.run, h, Env.put]
  exact ⟨fun e => by simp [undef] at e, fun _ => k⟩
theorem s_if (h : E.get t = some (.b c)) (h1 : c = b → insRun P (⟨some d, q, none⟩ :: l) E H K) (h2 : c = (!b) → insRun P l ((d, .v undef) :: E) H K) : insRun P (⟨some d, q, some (t, b)⟩ :: l) E H K := by
  simp only [insRun, Ins.run, h, Env.put] at h1 ⊢
  exact ⟨fun e => h1 (by injection e), fun e => h2 (by cases c <;> cases b <;> simp at e ⊢)⟩
theorem s_mov (h : E.opd x = some u) (k : insRun P l ((d, u) :: E) H K) : insRun P (⟨some d, .mov x, none⟩ :: l) E H K := by
  simp only [insRun, Ins.run, r_mov, h, ob_some]; exact k
theorem s_asg (h : E.opd x = some u) (k : insRun P l ((d, u) :: E) H K) : insRun P (⟨some d, .asg x, none⟩ :: l) E H K := by
  simp only [insRun, Ins.run, r_asg, h, ob_some]; exact k
theorem s_pickT (h : E.opd z = some (.b true)) (hx : E.opd x = some u) (k : insRun P l ((d, u) :: E) H K) : insRun P (⟨some d, .pick z x y, none⟩ :: l) E H K := by
  simp only [insRun, Ins.run, r_pick, h, ob_some, pickVal, if_true, hx]; exact k
theorem s_pickF (h : E.opd z = some (.b false)) (hx : E.opd y = some u) (k : insRun P l ((d, u) :: E) H K) : insRun P (⟨some d, .pick z x y, none⟩ :: l) E H K := by
  simp only [insRun, Ins.run, r_pick, h, ob_some, pickVal, Bool.false_eq_true, if_false, hx]; exact k
theorem s_pick' (h : E.opd z = some (.b c)) (hc : c = b) (hx : E.opd (if b = true then x else y) = some u) (k : insRun P l ((d, u) :: E) H K) : insRun P (⟨some d, .pick z x y, none⟩ :: l) E H K := by
  subst hc
  cases c
  · exact s_pickF h (by simpa using hx) k
  · exact s_pickT h (by simpa using hx) k
theorem s_bin {o : BinOp} (hx : E.opd x = some u) (hy : E.opd y = some v) (hr : binVal o u v = some r) (k : insRun P l ((d, r) :: E) H K) : insRun P (⟨some d, .bin o x y, none⟩ :: l) E H K := by
  simp only [insRun, Ins.run, r_bin, hx, hy, hr, ob_some]; exact k
theorem s_add {m n : Int} (hx : E.opd x = some (.i m)) (hy : E.opd y = some (.i n)) (hb : -9223372036854775808 ≤ m + n ∧ m + n ≤ 9223372036854775807) (k : insRun P l ((d, .i (m + n)) :: E) H K) : insRun P (⟨some d, .bin .add x y, none⟩ :: l) E H K :=
  s_bin hx hy (by simp only [binVal, intBin, if_true, IntWalk.i64_in _ hb]) k
theorem s_sub {m n : Int} (hx : E.opd x = some (.i m)) (hy : E.opd y = some (.i n)) (hb : -9223372036854775808 ≤ m - n ∧ m - n ≤ 9223372036854775807) (k : insRun P l ((d, .i (m - n)) :: E) H K) : insRun P (⟨some d, .bin .sub x y, none⟩ :: l) E H K :=
  s_bin hx hy (by simp only [binVal, intBin, if_true, IntWalk.i64_in _ hb]) k
theorem s_mul {m n : Int} (hx : E.opd x = some (.i m)) (hy : E.opd y = some (.i n)) (hb : -9223372036854775808 ≤ m * n ∧ m * n ≤ 9223372036854775807) (k : insRun P l ((d, .i (m * n)) :: E) H K) : insRun P (⟨some d, .bin .mul x y, none⟩ :: l) E H K :=
  s_bin hx hy (by simp only [binVal, intBin, if_true, IntWalk.i64_in _ hb]) k
theorem s_quo {m n : Int} (hx : E.opd x = some (.i m)) (hy : E.opd y = some (.i n)) (hm : 0 ≤ m ∧ m ≤ 9223372036854775807) (hn : 0 < n) (k : insRun P l ((d, .i (m / n)) :: E) H K) : insRun P (⟨some d, .bin .quo x y, none⟩ :: l) E H K := by
  refine s_bin hx hy (r := .i (m / n)) ?_ k
  have h1 : m / n ≤ m := Int.ediv_le_self _ hm.1
  have h2 : 0 ≤ m / n := Int.ediv_nonneg hm.1 (by omega)
  have h3 : m.tdiv n = m / n := Int.tdiv_eq_ediv_of_nonneg hm.1
  simp only [binVal, intBin, if_true, if_neg (show ¬ n = 0 by omega), h3, IntWalk.i64_in (m / n) (by omega)]
theorem s_rem {m n : Int} (hx : E.opd x = some (.i m)) (hy : E.opd y = some (.i n)) (hm : 0 ≤ m) (hn : 0 < n) (k : insRun P l ((d, .i (m % n)) :: E) H K) : insRun P (⟨some d, .bin .rem x y, none⟩ :: l) E H K := by
  refine s_bin hx hy (r := .i (m % n)) ?_ k
  simp only [binVal, intBin, if_true, if_neg (show ¬ n = 0 by omega), Int.tmod_eq_emod_of_nonneg hm]
theorem s_boolq (hx : E.opd x = some u) (hy : E.opd y = some v) (hr : boolVal c u v = some r) (k : insRun P l ((d, r) :: E) H K) : insRun P (⟨some d, .boolq c x y, none⟩ :: l) E H K := by
  simp only [insRun, Ins.run, r_boolq, hx, hy, hr, ob_some]; exact k
theorem s_eqs {ks : List Bool} (hx : E.opd x = some u) (hy : E.opd y = some v) (hr : eqCells c ks u v = some r) (k : insRun P l ((d, r) :: E) H K) : insRun P (⟨some d, .eqs c ks x y, none⟩ :: l) E H K := by
  simp only [insRun, Ins.run, r_eqs, hx, hy, hr, ob_some]; exact k
theorem s_un {o : UnOp} (hx : E.opd x = some u) (hr : unVal o u = some r) (k : insRun P l ((d, r) :: E) H K) : insRun P (⟨some d, .un o x, none⟩ :: l) E H K := by
  simp only [insRun, Ins.run, r_un, hx, hr, ob_some]; exact k
theorem s_conv {m : IntKind} (hx : E.opd x = some u) (hr : convVal m u = some r) (k : insRun P l ((d, r) :: E) H K) : insRun P (⟨some d, .conv m x, none⟩ :: l) E H K := by
  simp only [insRun, Ins.run, r_conv, hx, hr, ob_some]; exact k
theorem s_load {n : Option Nat} (hx : E.opd x = some u) (hr : loadVal n H u = some r) (k : insRun P l ((d, r) :: E) H K) : insRun P (⟨some d, .load n x, none⟩ :: l) E H K := by
  simp only [insRun, Ins.run, r_load, hx, hr, ob_some]; exact k
theorem s_load_fagg {n : Nat} {cs : List AV} (hx : E.opd x = some (.fptr cs)) (hn : cs.length = n) (k : insRun P l ((d, .agg cs) :: E) H K) : insRun P (⟨some d, .load (some n) x, none⟩ :: l) E H K :=
  s_load hx (by subst hn; simp [loadVal, cutCells]) k
theorem s_load_pagg {n h sz i : Nat} {a : Loc} {els cs : List AV} (hx : E.opd x = some (.ptr h a sz i 0)) (hH : H.get h = some (a, .arr sz els)) (he : els[i]? = some (.agg cs)) (hn : cs.length = n) (k : insRun P l ((d, .agg cs) :: E) H K) : insRun P (⟨some d, .load (some n) x, none⟩ :: l) E H K :=
  s_load hx (by subst hn; simp [loadVal, hH, he, cutCells, AV.cells_agg]) k
theorem s_load_p {h sz i f : Nat} {a : Loc} {els : List AV} {e : AV} (hx : E.opd x = some (.ptr h a sz i f)) (hH : H.get h = some (a, .arr sz els)) (he : els[i]? = some e) (hn : e.cells[f]? = some r) (k : insRun P l ((d, r) :: E) H K) : insRun P (⟨some d, .load none x, none⟩ :: l) E H K :=
  s_load hx (by simp [loadVal, hH, he, cutCells, hn]) k
theorem s_nilck (hx : E.opd x = some u) (hr : nilckVal u = some r) (k : insRun P l ((d, r) :: E) H K) : insRun P (⟨some d, .nilck x, none⟩ :: l) E H K := by
  simp only [insRun, Ins.run, r_nilck, hx, hr, ob_some]; exact k
theorem s_faddr {o : Nat} (hx : E.opd x = some u) (hr : faddrVal o u = some r) (k : insRun P l ((d, r) :: E) H K) : insRun P (⟨some d, .faddr o x, none⟩ :: l) E H K := by
  simp only [insRun, Ins.run, r_faddr, hx, hr, ob_some]; exact k
theorem s_fld {n : Option Nat} {o : Nat} (hx : E.opd x = some u) (hr : fldVal n o u = some r) (k : insRun P l ((d, r) :: E) H K) : insRun P (⟨some d, .fld n o x, none⟩ :: l) E H K := by
  simp only [insRun, Ins.run, r_fld, hx, hr, ob_some]; exact k
theorem s_iaddr_fz {sz : Nat} {xs : List AV} {j : Int} {e : AV} (hx : E.opd x = some (.fz sz xs)) (hy : E.opd y = some (.i j)) (h0 : 0 ≤ j) (he : xs[j.toNat]? = some e) (k : insRun P l ((d, .fptr e.cells) :: E) H K) : insRun P (⟨some d, .iaddr sz x y, none⟩ :: l) E H K := by
  simp only [insRun, Ins.run, r_iaddr, hx, hy, ob_some, iaddrVal, h0, true_and, and_self, if_true, he]; exact k
theorem s_iaddr_ref {sz h off n : Nat} {a : Loc} {j : Int} (hx : E.opd x = some (.ref h a sz off n)) (hy : E.opd y = some (.i j)) (h0 : 0 ≤ j) (hj : j < n) (k : insRun P l ((d, .ptr h a sz (off + j.toNat) 0) :: E) H K) : insRun P (⟨some d, .iaddr sz x y, none⟩ :: l) E H K := by
  simp only [insRun, Ins.run, r_iaddr, hx, hy, ob_some, iaddrVal, h0, hj, and_self, if_true]; exact k
theorem s_iaddr_ref0 {sz h n : Nat} {a : Loc} {m : Nat} (hx : E.opd x = some (.ref h a sz 0 n)) (hy : E.opd y = some (.i (m : Nat))) (hj : m < n) (k : insRun P l ((d, .ptr h a sz m 0) :: E) H K) : insRun P (⟨some d, .iaddr sz x y, none⟩ :: l) E H K :=
  s_iaddr_ref hx hy (by omega) (by omega) (by simpa using k)
theorem s_iaddr_refi {sz h n : Nat} {a : Loc} {j : Int} (hx : E.opd x = some (.ref h a sz 0 n)) (hy : E.opd y = some (.i j)) (h0 : 0 ≤ j ∧ j < n) (k : insRun P l ((d, .ptr h a sz j.toNat 0) :: E) H K) : insRun P (⟨some d, .iaddr sz x y, none⟩ :: l) E H K :=
  s_iaddr_ref hx hy h0.1 h0.2 (by simpa using k)
theorem s_iaddr_fzn {sz : Nat} {xs : List AV} {m : Nat} {e : AV} (hx : E.opd x = some (.fz sz xs)) (hy : E.opd y = some (.i (m : Nat))) (he : xs[m]? = some e) (k : insRun P l ((d, .fptr e.cells) :: E) H K) : insRun P (⟨some d, .iaddr sz x y, none⟩ :: l) E H K :=
  s_iaddr_fz hx hy (by omega) (by simpa using he) k
theorem s_slc {sz : Nat} {lo hi : Option Opd} {vl vh : Option AV} (hx : E.opd x = some u) (hl : optOpd E.opd lo = some vl) (hh : optOpd E.opd hi = some vh) (hr : sliceVal sz vl vh u = some r) (k : insRun P l ((d, r) :: E) H K) : insRun P (⟨some d, .slc sz x lo hi, none⟩ :: l) E H K := by
  simp only [insRun, Ins.run, r_slc, hx, hl, hh, hr, ob_some]; exact k
theorem s_ext {i : Nat} {vs : List AV} (hx : E.opd x = some (.tup vs)) (hr : vs[i]? = some r) (k : insRun P l ((d, r) :: E) H K) : insRun P (⟨some d, .ext i x, none⟩ :: l) E H K := by
  simp only [insRun, Ins.run, r_ext, hx, extVal, hr, ob_some]; exact k
theorem s_len (hx : E.opd x = some u) (hr : lenVal u = some r) (k : insRun P l ((d, r) :: E) H K) : insRun P (⟨some d, .len x, none⟩ :: l) E H K := by
  simp only [insRun, Ins.run, r_len, hx, hr, ob_some]; exact k
theorem s_minn {xs : List Opd} {vs : List AV} (hx : E.opd x = some u) (hl : opds E.opd xs = some vs) (hr : minVal u vs = some r) (k : insRun P l ((d, r) :: E) H K) : insRun P (⟨some d, .minn x xs, none⟩ :: l) E H K := by
  simp only [insRun, Ins.run, r_minn, hx, hl, hr, ob_some]; exact k
theorem s_maxx {xs : List Opd} {vs : List AV} (hx : E.opd x = some u) (hl : opds E.opd xs = some vs) (hr : maxVal u vs = some r) (k : insRun P l ((d, r) :: E) H K) : insRun P (⟨some d, .maxx x xs, none⟩ :: l) E H K := by
  simp only [insRun, Ins.run, r_maxx, hx, hl, hr, ob_some]; exact k
theorem s_build {zs : List Value} {ps : List (Nat × Nat × Opd)} {qs : List (Nat × Nat × AV)} {cs : List AV} (hp : opdParts E.opd ps = some qs) (hr : fillVal (zs.map .v) qs = some cs) (k : insRun P l ((d, .agg cs) :: E) H K) : insRun P (⟨some d, .build zs ps, none⟩ :: l) E H K := by
  simp only [insRun, Ins.run, r_build, hp, hr, ob_some]; exact k
theorem s_mkf {f : Nat} {xs : List Opd} {vs : List AV} (hl : opds E.opd xs = some vs) (k : insRun P l ((d, .fn f vs) :: E) H K) : insRun P (⟨some d, .mkf f xs, none⟩ :: l) E H K := by
  simp only [insRun, Ins.run, r_mkf, hl, ob_some]; exact k
theorem s_store {n h sz i f : Nat} {a : Loc} {els : List AV} {e : AV} (hx : E.opd x = some (.ptr h a sz i f)) (hy : E.opd y = some v) (hH : H.get h = some (a, .arr sz els)) (he : els[i]? = some e) (hok : v.ok = true) (hn : v.cells.length = n) (hf : f + n ≤ e.cells.length) (hl : v.cells.all AV.leaf = true) (k : insRun P l E (H.set h (.arr sz (els.set i (putCells e f n v)))) K) : insRun P (⟨none, .store n x y, none⟩ :: l) E H K := by
  simp only [insRun, Ins.run, r_store, hx, hy, ob_some, storeRun, hH, he]
  exact ⟨⟨trivial, trivial⟩, hok, hn, hf, hl, k⟩
/-- a store of one cell into a row of numbers or the like -/
theorem s_set {α : Type} {g : α → AV} {xs : List α} {z : α} {h i : Nat} {a : Loc} (hx : E.opd x = some (.ptr h a 1 i 0)) (hy : E.opd y = some (g z)) (hH : H.get h = some (a, .arr 1 (xs.map g))) (hi : i < xs.length) (hg : ∀ z, (g z).leaf = true) (k : insRun P l E (H.set h (.arr 1 ((xs.set i z).map g))) K) : insRun P (⟨none, .store 1 x y, none⟩ :: l) E H K := by
  have hc : ∀ z, (g z).cells = [g z] := fun z => by
    have := hg z
    cases e : g z <;> rw [e] at this <;> first | rfl | (simp [AV.leaf] at this; done) | (rename_i v; cases v <;> first | rfl | simp [AV.leaf] at this)
  have hok : (g z).ok = true := by
    have := hg z
    cases e : g z <;> rw [e] at this <;> first | rfl | exact this
  refine s_store (e := g xs[i]) hx hy hH (by simp [hi]) hok (by rw [hc]; rfl) (by rw [hc]; simp) (by rw [hc]; simp [hg]) ?_
  have hp : putCells (g xs[i]) 0 1 (g z) = g z := by simp [putCells, hc]
  rw [hp, set_map]; exact k
theorem s_seti {xs : List Int} {z : Int} {h i : Nat} {a : Loc} (hx : E.opd x = some (.ptr h a 1 i 0)) (hy : E.opd y = some (.i z)) (hH : H.get h = some (a, .arr 1 (xs.map .i))) (hi : i < xs.length) (k : insRun P l E (H.set h (.arr 1 ((xs.set i z).map .i))) K) : insRun P (⟨none, .store 1 x y, none⟩ :: l) E H K :=
  s_set (g := AV.i) hx hy hH hi (fun _ => rfl) k
theorem s_setb {xs : List Bool} {z : Bool} {h i : Nat} {a : Loc} (hx : E.opd x = some (.ptr h a 1 i 0)) (hy : E.opd y = some (.b z)) (hH : H.get h = some (a, .arr 1 (xs.map .b))) (hi : i < xs.length) (k : insRun P l E (H.set h (.arr 1 ((xs.set i z).map .b))) K) : insRun P (⟨none, .store 1 x y, none⟩ :: l) E H K :=
  s_set (g := AV.b) hx hy hH hi (fun _ => rfl) k
theorem s_ldi {xs : List Int} {z : Int} {h i : Nat} {a : Loc} (hx : E.opd x = some (.ptr h a 1 i 0)) (hH : H.get h = some (a, .arr 1 (xs.map .i))) (hi : xs[i]? = some z) (k : insRun P l ((d, .i z) :: E) H K) : insRun P (⟨some d, .load none x, none⟩ :: l) E H K :=
  s_load_p hx hH (get_map _ hi) rfl k
theorem s_ldb {xs : List Bool} {z : Bool} {h i : Nat} {a : Loc} (hx : E.opd x = some (.ptr h a 1 i 0)) (hH : H.get h = some (a, .arr 1 (xs.map .b))) (hi : xs[i]? = some z) (k : insRun P l ((d, .b z) :: E) H K) : insRun P (⟨some d, .load none x, none⟩ :: l) E H K :=
  s_load_p hx hH (get_map _ hi) rfl k
theorem s_alloc {zv : Value} (k : ∀ a, insRun P l ((d, .ptr d a (AV.ofV zv).cells.length 0 0) :: E) ((d, a, .arr (AV.ofV zv).cells.length [AV.ofV zv]) :: H) K) : insRun P (⟨some d, .alloc zv, none⟩ :: l) E H K := by
  simp only [insRun, Ins.run, r_alloc]; exact k
theorem s_box {n : Nat} (hx : E.opd x = some u) (hok : u.ok = true) (hl : u.cells.all AV.leaf = true) (hn : u.cells.length = n) (k : ∀ a, insRun P l ((d, .ptr d a n 0 0) :: E) ((d, a, .arr n [u]) :: H) K) : insRun P (⟨some d, .box x, none⟩ :: l) E H K := by
  subst hn
  simp only [insRun, Ins.run, r_box, hx, ob_some]; exact ⟨hok, hl, k⟩
theorem s_bsl {sz ln : Nat} {zv : Value} {ps : List (Nat × Opd)} {qs : List (Nat × AV)} {els : List AV} (hp : opdNats E.opd ps = some qs) (hr : fillEls sz (List.replicate ln (AV.ofV zv)) qs = some els) (k : ∀ a, insRun P l ((d, .ref d a sz 0 ln) :: E) ((d, a, .arr sz els) :: H) K) : insRun P (⟨some d, .bsl sz zv ln ps, none⟩ :: l) E H K := by
  simp only [insRun, Ins.run, r_bsl, hp, hr, ob_some]; exact k
theorem s_mks {sz bytes m : Nat} {zv : Value} (hx : E.opd x = some (.i (m : Nat))) (hy : E.opd y = some (.i (m : Nat))) (hb : m * bytes ≤ 140737488355328) (k : ∀ a, insRun P l ((d, .ref d a sz 0 m) :: E) ((d, a, .arr sz (List.replicate m (AV.ofV zv))) :: H) K) : insRun P (⟨some d, .mks sz zv bytes x y, none⟩ :: l) E H K := by
  simp only [insRun, Ins.run, r_mks, hx, hy, ob_some]
  exact ⟨rfl, Int.natCast_nonneg m, by have h2 : ((m * bytes : Nat) : Int) ≤ ((140737488355328 : Nat) : Int) := Int.ofNat_le.2 hb
                                       rw [Int.natCast_mul] at h2; exact h2, k⟩
theorem s_mksi {sz bytes : Nat} {m : Int} {zv : Value} (hx : E.opd x = some (.i m)) (hy : E.opd y = some (.i m)) (h0 : 0 ≤ m) (hb : m * bytes ≤ 140737488355328) (k : ∀ a, insRun P l ((d, .ref d a sz 0 m.toNat) :: E) ((d, a, .arr sz (List.replicate m.toNat (AV.ofV zv))) :: H) K) : insRun P (⟨some d, .mks sz zv bytes x y, none⟩ :: l) E H K := by
  simp only [insRun, Ins.run, r_mks, hx, hy, ob_some]
  exact ⟨rfl, h0, hb, k⟩
theorem s_app {sz bytes m n : Nat} {olds news : List AV} {H0 : Heap} (hx : E.opd x = some u) (hy : E.opd y = some v) (ho : oldOf sz H u = some (olds, H0)) (hn : newsOf sz H v = some news) (hl : olds.length = m) (hl2 : news.length = n) (hb : (m + n) * bytes ≤ 140737488355328) (k : ∀ a, insRun P l ((d, .ref d a sz 0 (m + n)) :: E) ((d, a, .arr sz (olds ++ news)) :: H0) K) : insRun P (⟨some d, .app sz bytes x y, none⟩ :: l) E H K := by
  subst hl; subst hl2
  simp only [insRun, Ins.run, r_app, hx, hy, ho, hn, ob_some]
  exact ⟨hb, k⟩
theorem s_app_fz {sz bytes m h : Nat} {a : Loc} {els news : List AV} (hx : E.opd x = some (.ref h a sz 0 m)) (hy : E.opd y = some (.fz sz news)) (hH : H.get h = some (a, .arr sz els)) (hl : els.length = m) (hb : (m + news.length) * bytes ≤ 140737488355328) (k : ∀ a', insRun P l ((d, .ref d a' sz 0 (m + news.length)) :: E) ((d, a', .arr sz (els ++ news)) :: H.del h) K) : insRun P (⟨some d, .app sz bytes x y, none⟩ :: l) E H K := by
  subst hl
  exact s_app hx hy (by simp [oldOf, hH]) (by simp [newsOf]) rfl rfl hb k
theorem s_app_ref {sz bytes m n h h2 : Nat} {a a2 : Loc} {els news : List AV} (hx : E.opd x = some (.ref h a sz 0 m)) (hy : E.opd y = some (.ref h2 a2 sz 0 n)) (hH : H.get h = some (a, .arr sz els)) (hH2 : H.get h2 = some (a2, .arr sz news)) (hl : els.length = m) (hl2 : news.length = n) (hb : (m + n) * bytes ≤ 140737488355328) (k : ∀ a', insRun P l ((d, .ref d a' sz 0 (m + n)) :: E) ((d, a', .arr sz (els ++ news)) :: H.del h) K) : insRun P (⟨some d, .app sz bytes x y, none⟩ :: l) E H K := by
  subst hl; subst hl2
  exact s_app hx hy (by simp [oldOf, hH]) (by simp [newsOf, hH2]) rfl rfl hb k
theorem s_app_nref {sz bytes n h2 : Nat} {a2 : Loc} {news : List AV} (hx : E.opd x = some (.v (.slice none 0 0))) (hy : E.opd y = some (.ref h2 a2 sz 0 n)) (hH2 : H.get h2 = some (a2, .arr sz news)) (hl2 : news.length = n) (hb : n * bytes ≤ 140737488355328) (k : ∀ a', insRun P l ((d, .ref d a' sz 0 n) :: E) ((d, a', .arr sz news) :: H) K) : insRun P (⟨some d, .app sz bytes x y, none⟩ :: l) E H K := by
  subst hl2
  exact s_app (m := 0) (n := news.length) (olds := []) (H0 := H) hx hy (by simp [oldOf]) (by simp [newsOf, hH2]) rfl rfl (by simpa using hb) (by simpa using k)
theorem s_call {f : Nat} {xs : List Opd} {vs : List AV} (hl : opds E.opd xs = some vs) (k : CallOK P f vs H fun r H' => insRun P l ((d, r) :: E) H' K) : insRun P (⟨some d, .call f xs, none⟩ :: l) E H K := by
  simp only [insRun, Ins.run, r_call, hl, ob_some]; exact k
theorem s_eqnil_fz {sz : Nat} {els : List AV} (hx : E.opd x = some (.fz sz els)) (k : ∀ t : Bool, (t = true → els = []) → insRun P l ((d, .b (if c = true then !t else t)) :: E) H K) : insRun P (⟨some d, .eqnil c x, none⟩ :: l) E H K := by
  simp only [insRun, Ins.run, IOp.run, hx]; exact k
theorem s_eqnil_ref {h sz off n : Nat} {a : Loc} (hx : E.opd x = some (.ref h a sz off n)) (k : ∀ t : Bool, (t = true → n = 0) → insRun P l ((d, .b (if c = true then !t else t)) :: E) H K) : insRun P (⟨some d, .eqnil c x, none⟩ :: l) E H K := by
  simp only [insRun, Ins.run, IOp.run, hx]; exact k
theorem s_callv {f : Nat} {xs : List Opd} {vs caps : List AV} (hx : E.opd x = some (.fn f caps)) (hl : opds E.opd xs = some vs) (k : CallOK P f (vs ++ caps) H fun r H' => insRun P l ((d, r) :: E) H' K) : insRun P (⟨some d, .callv x xs, none⟩ :: l) E H K := by
  simp only [insRun, Ins.run, r_callv, hx, hl, ob_some, callvRun]; exact k
end
/-! ### regions that draw their order: each operation by the rules above -/
section
variable {l : List Ins} {p alt : Plan} {E : Env} {H : Heap} {K : Env → Heap → Prop} {i : Nat} {x : Ins} {js : List Nat}
theorem s_done (k : K E H) : insRun P [] E H K := k
theorem p_done (k : K E H) : planRun P l .done E H K := k
theorem p_none : planRun P l .none E H K := trivial
theorem p_still (hi : l[i]? = some x) (k : insRun P [x] E H fun E' H' => planRun P l p E' H' K) : planRun P l (.still i p) E H K := by
  simp only [planRun, hi]; exact k
theorem p_eff (hi : l[i]? = some x) (k : insRun P [x] E H fun E' H' => holdsAll l E' H' js ∧ planRun P l p E' H' K) (ka : planRun P l alt E H K) : planRun P l (.eff i js p alt) E H K := by
  simp only [planRun, hi]; exact ⟨k, ka⟩
theorem p_eff1 (hi : l[i]? = some x) (k : insRun P [x] E H fun E' H' => holdsAll l E' H' js ∧ planRun P l p E' H' K) : planRun P l (.eff i js p .none) E H K := p_eff hi k p_none
theorem h_nil : holdsAll l E H [] := trivial
theorem h_cons {j d : Nat} {q : IOp} {v : AV} (hj : l[j]? = some ⟨some d, q, none⟩) (hd : E.get d = some v) (hv : q.val E.opd H = some v) (k : holdsAll l E H js) : holdsAll l E H (j :: js) := by
  simp only [holdsAll, hj]; exact ⟨⟨v, hd, hv⟩, k⟩
end
theorem h_ld {l : List Ins} {E : Env} {H : Heap} {js : List Nat} {j d h sz i f : Nat} {a : Loc} {els : List AV} {e v : AV} {x : Opd} (hj : l[j]? = some ⟨some d, .load none x, none⟩) (hd : E.get d = some v) (hx : E.opd x = some (.ptr h a sz i f)) (hH : H.get h = some (a, .arr sz els)) (he : els[i]? = some e) (hn : e.cells[f]? = some v) (k : holdsAll l E H js) : holdsAll l E H (j :: js) :=
  h_cons hj hd (by simp [IOp.val, hx, loadVal, hH, he, cutCells, hn]) k
theorem h_ldagg {l : List Ins} {E : Env} {H : Heap} {js : List Nat} {j d h sz i n : Nat} {a : Loc} {els cs : List AV} {x : Opd} (hj : l[j]? = some ⟨some d, .load (some n) x, none⟩) (hd : E.get d = some (.agg cs)) (hx : E.opd x = some (.ptr h a sz i 0)) (hH : H.get h = some (a, .arr sz els)) (he : els[i]? = some (.agg cs)) (hn : cs.length = n) (k : holdsAll l E H js) : holdsAll l E H (j :: js) :=
  h_cons hj hd (by subst hn; simp [IOp.val, hx, loadVal, hH, he, cutCells, AV.cells_agg]) k
/-! ### loops over a state -/
def EnvSub : Env → Env → Prop
  | [], _ => True
  | (t, x) :: E', E => E.get t = some x ∧ EnvSub E' E
theorem EnvSub.get {E' E : Env} (h : EnvSub E' E) : ∀ t x, E'.get t = some x → E.get t = some x := by
  induction E' with
  | nil => intro t x hx; simp [Env.get] at hx
  | cons p E' ih =>
    obtain ⟨s, y⟩ := p
    intro t x hx
    simp only [Env.get] at hx
    split at hx
    · rename_i e; subst e; injection hx with hx; subst hx; exact h.1
    · exact ih h.2 t x hx
theorem Weak.of {E E' : Env} {H : Heap} (h : EnvSub E' E) : Weak N E H E' H := Weak.env h.get
theorem Weak.ofH {E E' : Env} {H H' : Heap} (h : EnvSub E' E) (hH : List.Sublist H' H) : Weak N E H E' H' := (Weak.of h).trans (Weak.sub hH)
theorem AWP.loopS {σ : Type} {c : IR} (Es : σ → Env) (Hs : σ → Heap) (Inv : σ → Prop) (μ : σ → Nat) (s0 : σ) {E : Env} {H : Heap} {Q : Exit → Env → Heap → Prop} (hw : Weak N E H (Es s0) (Hs s0)) (h0 : Inv s0)
    (round : ∀ s, Inv s → ∀ K : Env → Heap → Prop, (∀ s' E' H', μ s' < μ s → Inv s' → Weak N E' H' (Es s') (Hs s') → K E' H') → AWP P N c (Es s) (Hs s) (then_ K Q)) : AWP P N (.loop c) E H Q := by
  refine AWP.weak hw ?_
  intro code hc Keep F a w hS
  cases code with
  | loop c' =>
    simp only [comp, Option.bind_eq_some_iff] at hc
    obtain ⟨c2, hc2, hc⟩ := hc
    injection hc with hc; injection hc with e1; subst e1
    refine wp_loop_ghost (fun n a' w' => ∃ s F', μ s = n ∧ Inv s ∧ Grow Keep F F' w w' ∧ St N Keep F' (Es s) (Hs s) a' w') (μ s0) ⟨s0, F, rfl, h0, Grow.refl _ _ _, hS⟩ ?_
    rintro n a' w' ⟨s, F', rfl, h1, h2, h3⟩
    refine wp_mono (round s h1 (fun E2 H2 => ∃ s', μ s' < μ s ∧ Inv s' ∧ Weak N E2 H2 (Es s') (Hs s')) (fun s' E2 H2 hm hI hw => ⟨s', hm, hI, hw⟩) c' hc2 Keep F' a' w' h3) ?_
    rintro e a2 w2 ⟨E2, H2, F2, q1, q2, q3⟩
    cases e with
    | normal =>
      obtain ⟨s', hm, hI, hw⟩ := q1
      obtain ⟨F3, g3, S3⟩ := hw Keep F2 a2 w2 q3
      exact ⟨μ s', hm, s', F3, rfl, hI, (h2.trans q2).trans g3, S3⟩
    | _ => exact ⟨E2, H2, F2, q1, h2.trans q2, q3⟩
  | region id ops d =>
    cases d
    · simp [comp, Option.bind_eq_some_iff] at hc
    · simp only [comp, Option.bind_eq_some_iff] at hc
      obtain ⟨_, _, hc⟩ := hc
      split at hc <;> simp at hc
  | _ => simp [comp, Option.bind_eq_some_iff] at hc
theorem AWP.condT {x : Opd} {c d : IR} {E : Env} {H : Heap} {Q : Exit → Env → Heap → Prop} (hx : E.opd x = some (.b true)) (h1 : AWP P N c E H Q) : AWP P N (.cond x c d) E H Q := AWP.cond hx (fun _ => h1) (fun e => by simp at e)
theorem AWP.condF {x : Opd} {c d : IR} {E : Env} {H : Heap} {Q : Exit → Env → Heap → Prop} (hx : E.opd x = some (.b false)) (h1 : AWP P N d E H Q) : AWP P N (.cond x c d) E H Q := AWP.cond hx (fun e => by simp at e) (fun _ => h1)
theorem AWP.condDT {x : Opd} {t : Bool} {c d : IR} {E : Env} {H : Heap} {Q : Exit → Env → Heap → Prop} (hx : E.opd x = some (.b t)) (ht : t = true) (h1 : AWP P N c E H Q) : AWP P N (.cond x c d) E H Q := AWP.condT (by rw [hx, ht]) h1
theorem AWP.condDF {x : Opd} {t : Bool} {c d : IR} {E : Env} {H : Heap} {Q : Exit → Env → Heap → Prop} (hx : E.opd x = some (.b t)) (ht : t = false) (h1 : AWP P N d E H Q) : AWP P N (.cond x c d) E H Q := AWP.condF (by rw [hx, ht]) h1
theorem s_ifT {d t : Nat} {b c : Bool} {q : IOp} {l : List Ins} {E : Env} {H : Heap} {K : Env → Heap → Prop} (h : E.get t = some (.b c)) (hc : c = b) (k : insRun P (⟨some d, q, none⟩ :: l) E H K) : insRun P (⟨some d, q, some (t, b)⟩ :: l) E H K := s_yes (by rw [h, hc]) k
theorem AWP.seq' {x y : IR} {E : Env} {H : Heap} {Q : Exit → Env → Heap → Prop} (h : AWP P N x E H (then_ (fun E' H' => AWP P N y E' H' Q) Q)) : AWP P N (.seq x y) E H Q := AWP.seq fun K hK => h.mono fun e E H hq => by cases e <;> first | exact hK _ _ hq | exact hq
theorem exit_in {id : Nat} {Q : Exit → Env → Heap → Prop} {E : Env} {H : Heap} (h : Q .normal E H) : inBlock_ id Q (.exit id) E H := by simp only [inBlock_, if_true]; exact h
theorem exit_out {id i : Nat} {Q : Exit → Env → Heap → Prop} {E : Env} {H : Heap} (hn : (i == id) = false) (h : Q (.exit i) E H) : inBlock_ id Q (.exit i) E H := by
  simp only [inBlock_]; rw [if_neg (by simpa using hn)]; exact h
theorem block_norm {id : Nat} {Q : Exit → Env → Heap → Prop} {E : Env} {H : Heap} (h : Q .normal E H) : inBlock_ id Q .normal E H := h
theorem block_ret {id : Nat} {Q : Exit → Env → Heap → Prop} {E : Env} {H : Heap} (h : Q .ret E H) : inBlock_ id Q .ret E H := h
theorem then_ret {K : Env → Heap → Prop} {Q : Exit → Env → Heap → Prop} {E : Env} {H : Heap} (h : Q .ret E H) : then_ K Q .ret E H := h
theorem then_exit {i : Nat} {K : Env → Heap → Prop} {Q : Exit → Env → Heap → Prop} {E : Env} {H : Heap} (h : Q (.exit i) E H) : then_ K Q (.exit i) E H := h
theorem then_norm {K : Env → Heap → Prop} {Q : Exit → Env → Heap → Prop} {E : Env} {H : Heap} (h : K E H) : then_ K Q .normal E H := h
theorem rv_cell {n h sz i t : Nat} {a : Loc} {els cs : List AV} {E : Env} {H : Heap} {r : List RV} {l : List AV} (hx : E.get t = some (.ptr h a sz i 0)) (hH : H.get h = some (a, .arr sz els)) (he : els[i]? = some (.agg cs)) (hn : cs.length = n) (hr : retVals E H r = some l) : retVals E H (.cell (some n) t :: r) = some (.agg cs :: l) := by
  subst hn
  simp [retVals, hx, loadVal, hH, he, cutCells, AV.cells_agg, hr]
theorem rv_cell1 {h sz i f t : Nat} {a : Loc} {els : List AV} {e x : AV} {E : Env} {H : Heap} {r : List RV} {l : List AV} (hx : E.get t = some (.ptr h a sz i f)) (hH : H.get h = some (a, .arr sz els)) (he : els[i]? = some e) (hn : e.cells[f]? = some x) (hr : retVals E H r = some l) : retVals E H (.cell none t :: r) = some (x :: l) := by
  simp [retVals, hx, loadVal, hH, he, cutCells, hn, hr]
theorem elem_i (H : Heap) (k : Nat) : elemMap (closeAV H k) ∘ (fun n : Int => AV.v (.int .i64 n)) = fun n : Int => AV.v (.int .i64 n) := by funext n; cases k <;> rfl
theorem elem_i' (H : Heap) (k : Nat) : elemMap (closeAV H k) ∘ AV.i = AV.i := elem_i H k
theorem elem_b' (H : Heap) (k : Nat) : elemMap (closeAV H k) ∘ AV.b = AV.b := by funext n; cases k <;> rfl
/-- A row of numbers of the function's own, handed back. -/
theorem close_ints {α : Type} {g : α → AV} (hg : ∀ H k, elemMap (closeAV H k) ∘ g = g) {H : Heap} {h n sz : Nat} {a : Loc} {xs : List α} (hH : H.get h = some (a, .arr sz (xs.map g))) (hn : n = xs.length) (k : Nat) : closeAV H (k + 1) (.ref h a sz 0 n) = .fz sz (xs.map g) := by
  subst hn
  simp only [closeAV, hH]
  simp [hg, List.take_of_length_le]
/-- A slice that is nil, as a slice without elements. -/
theorem Weak.nilfz (t sz : Nat) {E : Env} {H : Heap} (h : E.get t = some (.v (.slice none 0 0))) : Weak N E H (E.set t (.fz sz [])) H := fun Keep F a w hS => by
  refine ⟨F, Grow.refl _ _ _, ⟨fun s x hx => ?_, hS.tsz, hS.dfs, hS.heap⟩⟩
  rw [Env.get_set] at hx
  split at hx
  · rename_i e; subst e
    injection hx with hx; subst hx
    rw [(hS.env t _ h).inv_v]
    exact .fznil _
  · exact hS.env s x hx
/-! ### small words -/
theorem cells_i (n : Int) : (AV.i n).cells = [.i n] := rfl
theorem cells_b (t : Bool) : (AV.b t).cells = [.b t] := rfl

theorem ofV_i (n : Int) : AV.ofV (.int .i64 n) = .i n := rfl
theorem ofV_b (t : Bool) : AV.ofV (.bool t) = .b t := rfl

theorem CallOK.borrow' (k : Nat) {f : Nat} {xs xs' : List AV} {r : AV} {H : Heap} {K : AV → Heap → Prop} (hx : xs.map (closeAV H k) = xs') (h : PCalls P f xs' r) (hs : r.scal = true) (hk : K r H) : CallOK P f xs H K := CallOK.borrow k (by rw [hx]; exact h) hs hk
theorem closeAV_zero (H : Heap) : closeAV H 0 = id := by funext x; rfl
theorem drop_zero' (l : List AV) : List.map id (l.drop 0) = l := by simp

theorem rep_map {α : Type} (f : α → AV) (n : Nat) (x : α) : List.replicate n (f x) = (List.replicate n x).map f := by
  rw [List.map_replicate]
theorem post_ret {rs : List RV} {K : AV → Heap → Prop} {E : Env} {H : Heap} {vs : List AV} (h : retVals E H rs = some vs) (k : K (mkRes vs) H) : Post rs K .ret E H := ⟨.inr rfl, vs, h, k⟩
theorem post_norm {rs : List RV} {K : AV → Heap → Prop} {E : Env} {H : Heap} {vs : List AV} (h : retVals E H rs = some vs) (k : K (mkRes vs) H) : Post rs K .normal E H := ⟨.inl rfl, vs, h, k⟩
end Go.Proofs.Ytjnencdmejhmjaa.Eng
namespace Go.Proofs.Ytjnencdmejhmjaa.Eng
open Go Go.RowKit
set_option linter.unusedSimpArgs false
set_option linter.unusedVariables false
variable {P : Program} {N : Nat}

theorem CallOK.borrowF (k kk : Nat) {f : Nat} {xs xs' : List AV} {H : Heap} {K0 K : AV → Heap → Prop} (hx : xs.map (closeAV H k) = xs') (h : CallOK P f xs' [] K0) (hfr : ∀ r H', K0 r H' → Free r ∧ FreeH H') (hk : ∀ r H', K0 r H' → K (closeAV H' kk r) H) : CallOK P f xs H K := by
  have hb : CallOK P f xs H fun r H2 => ∃ r0 H', K0 r0 H' ∧ r = r0 ∧ H2 = H' ++ H := CallOK.borrowH k (K0 := K0) (by rw [hx]; exact h) hfr (fun r H' h0 => ⟨r, H', h0, rfl, rfl⟩)
  refine ⟨hb.1, fun Keep F w vs hH hv => (hb.2 Keep F w vs hH hv).mono ?_⟩
  rintro e w' ⟨v, r, H2, F', rfl, ⟨r0, H', h0, rfl, rfl⟩, hg, hH', hr⟩
  have h1 : HeapOK Keep F' w' H' := hH'.sub (List.sublist_append_left _ _)
  have h2 : HeapOK Keep F' w' H := hH'.sub (List.sublist_append_right _ _)
  have hn := hH'.nodup
  rw [Heap.real_append, List.nodup_append] at hn
  have hF : ∀ c, (F' c ∨ c ∈ H'.real) → c < w'.heap.size := fun c hc => hc.elim (hH'.flt c) (h1.lt c)
  refine ⟨v, _, H, fun c => F' c ∨ c ∈ H'.real, rfl, hk r H' h0, ⟨fun c hc => .inl (hg.sub c hc), fun c hc => ?_, hg.ext⟩, ?_, closeAV_sound h1 kk r v hr⟩
  · rcases hc with hc | hc
    · exact hg.new c hc
    · exact .inr (h1.own c hc).2
  · refine ⟨fun p hp => (h2.blk p hp).step (fun c hc => .inl hc) (fun c hc => hH'.flt c hc) (Ext.refl _ _) (fun _ => rfl), fun c hc => ⟨fun hF => ?_, (h2.own c hc).2⟩, h2.nodup, hF, h2.klt⟩
    rcases hF with hF | hF
    · exact (h2.own c hc).1 hF
    · exact hn.2.2 c hF c hc rfl
/-! ### memory picked by labels -/
def pickH : List Nat → Heap → Option Heap
  | [], _ => some []
  | k :: ks, H => match H.get k with
    | some (a, b) => (pickH ks (H.del k)).bind fun r => some ((k, a, b) :: r)
    | none => none
theorem real_cons_perm {p : Nat × Loc × Blk} {A B : Heap} (h : (Heap.real A).Perm (Heap.real B)) : (Heap.real (p :: A)).Perm (Heap.real (p :: B)) := by
  obtain ⟨k, a, b⟩ := p
  simp only [Heap.real]
  split
  · exact h
  · exact h.cons _
theorem pickH_perm : ∀ (ks : List Nat) (H H' : Heap), pickH ks H = some H' → (∃ R, (Heap.real (H' ++ R)).Perm H.real) ∧ ∀ p ∈ H', p ∈ H
  | [], H, H', h => by simp [pickH] at h; subst h; exact ⟨⟨H, by simp⟩, by simp⟩
  | k :: ks, H, H', h => by
    simp only [pickH] at h
    split at h
    · rename_i a b hg
      simp only [Option.bind_eq_some_iff] at h
      obtain ⟨r, hr, h⟩ := h
      injection h with h; subst h
      obtain ⟨⟨R, hp⟩, hm⟩ := pickH_perm ks _ _ hr
      obtain ⟨A, B, e1, _, e2⟩ := Heap.get_split hg
      refine ⟨⟨R, ?_⟩, fun p hp => ?_⟩
      · rw [List.cons_append]
        refine (real_cons_perm hp).trans ?_
        rw [e2, e1]
        simp only [Heap.real_append, Heap.real]
        split
        · exact List.Perm.refl _
        · exact List.perm_middle.symm
      · rcases List.mem_cons.1 hp with rfl | hp
        · exact Heap.get_mem hg
        · exact (Heap.del_sub k H).subset (hm p hp)
    · simp at h
theorem HeapOK.pick {Keep F : Nat → Prop} {w : World} {H H' : Heap} (hH : HeapOK Keep F w H) {ks : List Nat} (h : pickH ks H = some H') : HeapOK Keep F w H' := by
  obtain ⟨⟨R, hp⟩, hm⟩ := pickH_perm ks H H' h
  have hn : (Heap.real (H' ++ R)).Nodup := hp.symm.nodup hH.nodup
  rw [Heap.real_append] at hn hp
  exact ⟨fun p hp => hH.blk p (hm p hp), fun c hc => hH.own c (hp.subset (List.mem_append_left _ hc)), (List.nodup_append.1 hn).1, hH.flt, hH.klt⟩
theorem Weak.pick {E E' : Env} {H H' : Heap} (h : EnvSub E' E) (hp : pickH (H'.map (·.1)) H = some H') : Weak N E H E' H' := fun Keep F a w hS =>
  ⟨F, Grow.refl _ _ _, ⟨fun t x hx => hS.env t x (h.get t x hx), hS.tsz, hS.dfs, hS.heap.pick hp⟩⟩
/-! ### cuts -/
theorem AWP.seqCut {σ : Type} {c d : IR} (Es : σ → Env) (Hs : σ → Heap) (Inv : σ → Prop) {E : Env} {H : Heap} {Q : Exit → Env → Heap → Prop}
    (h1 : ∀ K : Env → Heap → Prop, (∀ s E' H', Inv s → Weak N E' H' (Es s) (Hs s) → K E' H') → AWP P N c E H (then_ K Q)) (h2 : ∀ s, Inv s → AWP P N d (Es s) (Hs s) Q) : AWP P N (.seq c d) E H Q := by
  refine AWP.seq' ?_
  refine (h1 (fun E' H' => ∃ s, Inv s ∧ Weak N E' H' (Es s) (Hs s)) fun s E' H' hI hw => ⟨s, hI, hw⟩).mono ?_
  rintro e E' H' hq
  cases e with
  | normal => obtain ⟨s, hI, hw⟩ := hq; exact AWP.weak hw (h2 s hI)
  | _ => exact hq
end Go.Proofs.Ytjnencdmejhmjaa.Eng
namespace Go.Proofs.Ytjnencdmejhmjaa.Eng
open Go Go.RowKit
set_option linter.unusedSimpArgs false
set_option linter.unusedVariables false
variable {P : Program} {N : Nat}
theorem VR.relab {F : Nat → Prop} {w : World} {h h' : Nat} {a : Loc} {sz off n : Nat} {v : Value} (q : VR F w (.ref h a sz off n) v) : VR F w (.ref h' a sz off n) v := by
  cases q with
  | ref _ _ _ _ _ cap cs t h0 h1 h2 h3 h4 => exact .ref _ _ _ _ _ cap cs t h0 h1 h2 h3 h4
  | refz => exact .refz _ _ _ _ _
  | refnil => exact .refnil _ _ _ _
/-- A row of the function's own, under another label. -/
theorem Weak.relab (l2 t : Nat) {l1 : Nat} {a : Loc} {b : Blk} {sz off n : Nat} {E : Env} {H : Heap} (h : E.get t = some (.ref l1 a sz off n)) (hH : H.get l1 = some (a, b)) : Weak N E H (E.set t (.ref l2 a sz off n)) ((l2, a, b) :: H.del l1) := fun Keep F act w hS => by
  refine ⟨F, Grow.refl _ _ _, ⟨fun s x hx => ?_, hS.tsz, hS.dfs, ?_⟩⟩
  · rw [Env.get_set] at hx
    split at hx
    · rename_i e; subst e
      injection hx with hx; subst hx
      exact (hS.env t _ h).relab
    · exact hS.env s x hx
  · have hd := hS.heap.sub (Heap.del_sub l1 H)
    refine hd.cons l2 a b (hS.heap.blk _ (Heap.get_mem hH)) fun hv => ?_
    have ho := hS.heap.own a.blk (Heap.real_mem (Heap.get_mem hH) hv)
    exact ⟨ho.1, ho.2, Heap.del_real hH hv hS.heap.nodup⟩
section
variable {d t t' : Nat} {b c : Bool} {x y z : Opd} {l : List Ins} {E : Env} {H : Heap} {K : Env → Heap → Prop} {q : IOp} {u v r : AV}
/-- a store of a whole element into a row of structs -/
theorem s_setA {α : Type} {g : α → AV} {sz : Nat} {xs : List α} {z : α} {h i : Nat} {a : Loc} (hg : ∀ z, (g z).ok = true ∧ (g z).cells.length = sz ∧ (g z).cells.all AV.leaf = true) (hx : E.opd x = some (.ptr h a sz i 0)) (hy : E.opd y = some (g z)) (hH : H.get h = some (a, .arr sz (xs.map g))) (hi : i < xs.length) (k : insRun P l E (H.set h (.arr sz ((xs.set i z).map g))) K) : insRun P (⟨none, .store sz x y, none⟩ :: l) E H K := by
  refine s_store (e := g xs[i]) hx hy hH (by simp [hi]) (hg z).1 (hg z).2.1 (by rw [(hg _).2.1]; omega) (hg z).2.2 ?_
  have hp : putCells (g xs[i]) 0 sz (g z) = g z := by simp [putCells, (hg xs[i]).2.1]
  rw [hp, set_map]; exact k
theorem s_app_nfz {sz bytes : Nat} {news : List AV} (hx : E.opd x = some (.v (.slice none 0 0))) (hy : E.opd y = some (.fz sz news)) (hb : news.length * bytes ≤ 140737488355328) (k : ∀ a', insRun P l ((d, .ref d a' sz 0 news.length) :: E) ((d, a', .arr sz news) :: H) K) : insRun P (⟨some d, .app sz bytes x y, none⟩ :: l) E H K :=
  s_app (m := 0) (n := news.length) (olds := []) (H0 := H) hx hy (by simp [oldOf]) (by simp [newsOf]) rfl rfl (by simpa using hb) (by simpa using k)
end
/-- a cut behind a part that does not leave by another way: what comes later is out of sight -/
theorem AWP.seqCutQ {σ : Type} {c d : IR} (Es : σ → Env) (Hs : σ → Heap) {E : Env} {H : Heap} {Q : Exit → Env → Heap → Prop}
    (h1 : ∀ (K : Env → Heap → Prop) (Q : Exit → Env → Heap → Prop), (∀ s E' H', Weak N E' H' (Es s) (Hs s) → K E' H') → AWP P N c E H (then_ K Q)) (h2 : ∀ s, AWP P N d (Es s) (Hs s) Q) : AWP P N (.seq c d) E H Q :=
  AWP.seqCut Es Hs (fun _ => True) (fun K hK => h1 K Q fun s E' H' hw => hK s E' H' trivial hw) fun s _ => h2 s
end Go.Proofs.Ytjnencdmejhmjaa.Eng
namespace Go.Proofs.Ytjnencdmejhmjaa.Eng
open Go Go.RowKit
set_option linter.unusedSimpArgs false
set_option linter.unusedVariables false
variable {P : Program} {N : Nat}
/-- what is known of a value, less exactly -/
def Le (x y : AV) : Prop := ∀ (F : Nat → Prop) (w : World) (v : Value), VR F w x v → VR F w y v
theorem Le.refl (x : AV) : Le x x := fun _ _ _ h => h
theorem Le.nil (sz : Nat) : Le (.v (.slice none 0 0)) (.fz sz []) := fun F w v h => by rw [h.inv_v]; exact .fznil sz
def LeAll : List AV → List AV → Prop
  | [], [] => True
  | x :: xs, y :: ys => Le x y ∧ y.leaf = true ∧ LeAll xs ys
  | _, _ => False
theorem LeAll.get {xs ys : List AV} (h : LeAll xs ys) : ys.length = xs.length ∧ ys.all AV.leaf = true ∧ ∀ (j : Nat) (y : AV), ys[j]? = some y → ∃ x, xs[j]? = some x ∧ Le x y := by
  induction xs generalizing ys with
  | nil => cases ys with
    | nil => exact ⟨rfl, rfl, by simp⟩
    | cons y ys => exact h.elim
  | cons x xs ih => cases ys with
    | nil => exact h.elim
    | cons y ys =>
      obtain ⟨h1, h2, h3⟩ := h
      obtain ⟨q1, q2, q3⟩ := ih h3
      refine ⟨by simp [q1], by simp [h2]; simpa using q2, fun j z hz => ?_⟩
      match j with
      | 0 => simp at hz; subst hz; exact ⟨x, rfl, h1⟩
      | j + 1 => simp at hz; simpa using q3 j z hz
def LeEls : List AV → List AV → Prop
  | [], [] => True
  | x :: xs, y :: ys => LeAll x.cells y.cells ∧ LeEls xs ys
  | _, _ => False
theorem LeEls.get {xs ys : List AV} (h : LeEls xs ys) : (xs = [] → ys = []) ∧ ∀ (j : Nat) (y : AV), ys[j]? = some y → ∃ x, xs[j]? = some x ∧ LeAll x.cells y.cells := by
  induction xs generalizing ys with
  | nil => cases ys with
    | nil => exact ⟨fun _ => rfl, by simp⟩
    | cons y ys => exact h.elim
  | cons x xs ih => cases ys with
    | nil => exact h.elim
    | cons y ys =>
      refine ⟨by simp, fun j z hz => ?_⟩
      match j with
      | 0 => simp at hz; subst hz; exact ⟨x, rfl, h.1⟩
      | j + 1 => simp at hz; simpa using (ih h.2).2 j z hz
theorem Weak.cells (l : Nat) {E : Env} {H : Heap} {a : Loc} {sz : Nat} {els els' : List AV} (hH : H.get l = some (a, .arr sz els)) (h : LeEls els els') : Weak N E H E ((l, a, .arr sz els') :: H.del l) := fun Keep F act w hS => by
  refine ⟨F, Grow.refl _ _ _, ⟨hS.env, hS.tsz, hS.dfs, ?_⟩⟩
  have hd := hS.heap.sub (Heap.del_sub l H)
  have hb := hS.heap.blk _ (Heap.get_mem hH)
  obtain ⟨q1, q2⟩ := h.get
  refine hd.cons l a (.arr sz els') ?_ fun hv => ?_
  · simp only [BlkOK] at hb ⊢
    split
    · rename_i hv; rw [if_pos hv] at hb; exact q1 hb
    · rename_i hv
      rw [if_neg hv] at hb
      obtain ⟨cs, t, h1, h2⟩ := hb
      refine ⟨cs, t, h1, fun i e he => ?_⟩
      obtain ⟨x, hx, hl⟩ := q2 i e he
      obtain ⟨⟨e1, e2⟩, e3⟩ := h2 i x hx
      obtain ⟨r1, r2, r3⟩ := hl.get
      refine ⟨⟨r1.trans e1, r2⟩, fun j y hy => ?_⟩
      obtain ⟨z, hz, hle⟩ := r3 j y hy
      obtain ⟨v, hv1, hv2⟩ := e3 j z hz
      exact ⟨v, hv1, hle _ _ _ hv2⟩
  · have ho := hS.heap.own a.blk (Heap.real_mem (Heap.get_mem hH) hv)
    exact ⟨ho.1, ho.2, Heap.del_real hH hv hS.heap.nodup⟩
/-- A call that is handed a block of the caller's own memory for good: it is frozen. -/
theorem CallOK.give (k l : Nat) {f : Nat} {xs xs' : List AV} {r : AV} {H : Heap} {a0 : Loc} {b0 : Blk} {K : AV → Heap → Prop} (hg : H.get l = some (a0, b0)) (hx : xs.map (closeAV [(l, a0, b0)] k) = xs') (h : PCalls P f xs' r) (hk : K r (H.del l)) : CallOK P f xs H K := by
  have h2 : CallOK P f xs' (H.del l) fun r' H' => r' = r ∧ H' = H.del l := CallOK.pure h ⟨rfl, rfl⟩
  refine ⟨h2.1, fun Keep F w vs hH hv => ?_⟩
  have hsub : List.Sublist [(l, a0, b0)] H := by
    obtain ⟨A, B, e1, _, _⟩ := Heap.get_split hg
    rw [e1]; exact ((List.nil_sublist B).cons_cons (l, a0, b0)).trans (List.sublist_append_right A _)
  have hone : HeapOK Keep F w [(l, a0, b0)] := hH.sub hsub
  have hF' : ∀ c, (F c ∨ c ∈ Heap.real [(l, a0, b0)]) → c < w.heap.size := fun c hc => hc.elim (hH.flt c) (hone.lt c)
  have hdel := hH.sub (Heap.del_sub l H)
  have hnot : ∀ c ∈ (H.del l).real, ¬ (F c ∨ c ∈ Heap.real [(l, a0, b0)]) := by
    intro c hc hF
    rcases hF with hF | hF
    · exact (hdel.own c hc).1 hF
    · simp only [Heap.real] at hF
      split at hF
      · simp at hF
      · rename_i hv
        simp at hF; subst hF
        exact Heap.del_real hg (by simpa using hv) hH.nodup hc
  have hD : HeapOK Keep (fun c => F c ∨ c ∈ Heap.real [(l, a0, b0)]) w (H.del l) := ⟨fun p hp => (hdel.blk p hp).step (fun c hc => .inl hc) (fun c hc => hH.flt c hc) (Ext.refl _ _) (fun _ => rfl), fun c hc => ⟨hnot c hc, (hdel.own c hc).2⟩, hdel.nodup, hF', hH.klt⟩
  have hv' : VRs (fun c => F c ∨ c ∈ Heap.real [(l, a0, b0)]) w xs' vs := by
    rw [← hx]
    refine ⟨by simp [hv.1], fun i x v hx hvv => ?_⟩
    rw [List.getElem?_map] at hx
    obtain ⟨z, hz, rfl⟩ := Option.map_eq_some_iff.1 hx
    exact closeAV_sound hone k z v (hv.2 i z v hz hvv)
  refine (h2.2 Keep _ w vs hD hv').mono ?_
  rintro e w' ⟨v, r', H', F', rfl, ⟨rfl, rfl⟩, hgr, hH', hr⟩
  refine ⟨v, _, _, F', rfl, hk, ⟨fun c hc => hgr.sub c (.inl hc), fun c hc => ?_, hgr.ext.mono fun c hc => hc.imp .inl id⟩, hH', hr⟩
  rcases hgr.new c hc with (h | h) | h
  · exact .inl h
  · exact .inr (hone.own c h).2
  · exact .inr h
end Go.Proofs.Ytjnencdmejhmjaa.Eng
namespace Go.Proofs.Ytjnencdmejhmjaa.Eng
open Go Go.RowKit
set_option linter.unusedSimpArgs false
set_option linter.unusedVariables false
variable {H : Type} {enc : TypeId × Value → H} {P : Program} {W : World}
/-- the blocks that stand when the law is called -/
def Old (W : World) : Nat → Prop := fun c => c < W.heap.size
/-- cells of a value, one by one -/
def RC (W : World) (as : List AV) (cs : List Value) : Prop := as.length = cs.length ∧ as.all AV.leaf = true ∧ ∀ (j : Nat) (y : AV) (v : Value), as[j]? = some y → cs[j]? = some v → VR (Old W) W y v
/-- what reads as data of the type is an abstract value of this kind -/
def Opens (enc : TypeId × Value → H) (P : Program) (W : World) (t : TypeId) (sz : Nat) {α : Type} (g : α → List AV) (ok : α → Prop) : Prop :=
  ∀ (fuel : Nat) (cs : List Value) (x : DataW H × List MemPlace), DataW.trod enc P W 0 (fun _ => true) true fuel t cs = some x → ∃ z : α, ok z ∧ RC W (g z) cs ∧ (g z).length = sz
theorem RC.one {y : AV} {v : Value} (h : VR (Old W) W y v) (hl : y.leaf = true) : RC W [y] [v] := by
  refine ⟨rfl, by simp [hl], fun j y' v' hy hv => ?_⟩
  match j with
  | 0 => simp at hy hv; subst hy; subst hv; exact h
  | j + 1 => simp at hy
theorem Opens.int {t : TypeId} (ht : P.underlying t = some (.int .i64)) : Opens enc P W t 1 (fun n : Int => [.i n]) (fun n => -9223372036854775808 ≤ n ∧ n ≤ 9223372036854775807) := by
  intro fuel cs x h
  obtain ⟨n, rfl, _, hw⟩ := DataW.trod_int ht h
  refine ⟨n, ?_, RC.one (.v _) rfl, rfl⟩
  simp only [Lit.wf, Bool.and_eq_true, decide_eq_true_eq] at hw
  simp [IntKind.min, IntKind.max, IntKind.signed, IntKind.bits] at hw
  omega
theorem Opens.bool {t : TypeId} (ht : P.underlying t = some .bool) : Opens enc P W t 1 (fun b : Bool => [.b b]) (fun _ => True) := by
  intro fuel cs x h
  obtain ⟨b, rfl, _⟩ := DataW.trod_bool ht h
  exact ⟨b, trivial, RC.one (.v _) rfl, rfl⟩
theorem Opens.slice {t e : TypeId} {sz : Nat} {α : Type} {g : α → List AV} {ok : α → Prop} (ae : α → AV) (hae : ∀ z, (ae z).cells = g z) (ht : P.underlying t = some (.slice e)) (hsz : P.cellsOf e = sz) (hpos : 0 < sz) (h : Opens enc P W e sz g ok) :
    Opens enc P W t 1 (fun zs : List α => [.fz sz (zs.map ae)]) (fun zs => (∀ z ∈ zs, ok z) ∧ zs.length ≤ 9223372036854775807) := by
  intro fuel cs x hx
  rcases DataW.trod_slice ht hx with ⟨rfl, _⟩ | ⟨a, len, cap, elems, rest, n, _, rfl, _, _, hl, hm, hlen, hel, _, _⟩
  · exact ⟨[], ⟨by simp, by simp⟩, RC.one (.fznil sz) rfl, rfl⟩
  · rw [hsz] at hel
    have each : ∀ i, i < len → ∃ z : α, ∃ vs : List Value, ok z ∧ RC W (g z) vs ∧ (g z).length = sz ∧ W.cells? 0 (a.add (i * sz)) sz = some vs := by
      intro i hi
      have h1 := hel i hi
      have h2 : elems[i]? = some elems[i] := by simp
      rw [h2] at h1
      obtain ⟨vs, h3, h4⟩ := Option.bind_eq_some_iff.1 h1
      obtain ⟨z, q1, q2, q3⟩ := h n vs _ h4
      exact ⟨z, vs, q1, q2, q3, h3⟩
    have build : ∀ k, k ≤ len → ∃ (zs : List α) (vss : List (List Value)), zs.length = k ∧ vss.length = k ∧ ∀ i, i < k → ∃ z vs, zs[i]? = some z ∧ vss[i]? = some vs ∧ ok z ∧ RC W (g z) vs ∧ (g z).length = sz ∧ W.cells? 0 (a.add (i * sz)) sz = some vs := by
      intro k
      induction k with
      | zero => intro _; exact ⟨[], [], rfl, rfl, fun i hi => by omega⟩
      | succ k ih =>
        intro hk
        obtain ⟨zs, vss, l1, l2, hz⟩ := ih (by omega)
        obtain ⟨z, vs, q⟩ := each k (by omega)
        refine ⟨zs ++ [z], vss ++ [vs], by simp [l1], by simp [l2], fun i hi => ?_⟩
        by_cases e : i < k
        · obtain ⟨z', vs', r1, r2, r3⟩ := hz i e
          exact ⟨z', vs', by rw [List.getElem?_append_left (by omega)]; exact r1, by rw [List.getElem?_append_left (by omega)]; exact r2, r3⟩
        · have : i = k := by omega
          subst this
          exact ⟨z, vs, by rw [List.getElem?_append_right (by omega), l1]; simp, by rw [List.getElem?_append_right (by omega), l2]; simp, q⟩
    obtain ⟨zs, vss, l1, l2, hz⟩ := build len (Nat.le_refl _)
    subst l1
    have cell : ∀ (i : Nat) (x : AV) (j : Nat) (y : AV), (zs.map ae)[i]? = some x → x.cells[j]? = some y → (x.cells.length = sz ∧ x.cells.all AV.leaf = true) ∧ ∃ v, a.block < W.heap.size ∧ W.cell? (a.add (i * sz + j)) = some v ∧ VR (Old W) W y v := by
      intro i x j y hx hy
      have hi : i < zs.length := by have := (List.getElem?_eq_some_iff.1 hx).1; simpa using this
      obtain ⟨z, vs, r1, r2, r3, r4, r5, r6⟩ := hz i hi
      rw [List.getElem?_map, r1] at hx
      simp only [Option.map_some, Option.some.injEq] at hx
      subst hx
      rw [hae] at hy ⊢
      obtain ⟨s1, s2, s3⟩ := r4
      refine ⟨⟨r5, s2⟩, ?_⟩
      have hj : j < sz := by rw [← r5]; exact (List.getElem?_eq_some_iff.1 hy).1
      obtain ⟨t1, t2, t3⟩ := World.cells?_some r6
      have hv : vs[j]? = some vs[j] := by simp
      have hb : (a.add (i * sz)).block = a.block := by unfold Addr.add; split <;> rfl
      have hblk := World.cells?_block r6 hpos
      rw [hb] at hblk
      refine ⟨vs[j], hblk, ?_, s3 j y _ hy hv⟩
      have h9 := t3 j hj
      rw [hv] at h9
      rw [Addr.add_add] at h9
      exact h9
    have hfz := VR.fz (F := Old W) (w := W) sz (zs.map ae) a cap (fun i j => (W.cell? (a.add (i * sz + j))).getD undef) (by simpa using hl) hm (fun i x hx => ?_) (fun i x j y hx hy => ?_) (fun i x j y hx hy => ?_)
    · refine ⟨zs, ⟨fun z hz' => ?_, Nat.le_trans hl (Nat.le_trans hm (Nat.le_of_eq rfl))⟩, RC.one (by simpa using hfz) rfl, rfl⟩
      obtain ⟨i, hi, rfl⟩ := List.getElem_of_mem hz'
      obtain ⟨z, vs, r1, _, r3, _⟩ := hz i hi
      have : zs[i] = z := by simpa [hi] using r1
      rw [this]; exact r3
    · have hi : i < zs.length := by have := (List.getElem?_eq_some_iff.1 hx).1; simpa using this
      obtain ⟨z, vs, r1, r2, r3, r4, r5, r6⟩ := hz i hi
      rw [List.getElem?_map, r1] at hx
      simp only [Option.map_some, Option.some.injEq] at hx
      subst hx
      rw [hae]
      exact ⟨r5, r4.2.1⟩
    · obtain ⟨_, v, h1, h2, _⟩ := cell i x j y hx hy
      exact ⟨h1, by rw [h2]; rfl⟩
    · obtain ⟨_, v, h1, h2, h3⟩ := cell i x j y hx hy
      rw [h2]; exact h3
/-! ### structs of one-cell fields -/
theorem RC.cells {ys : List AV} {cs : List Value} (hl : cs.length = ys.length) (h : ∀ (i : Nat) (y : AV), ys[i]? = some y → RC W [y] ((cs.drop i).take 1)) : RC W ys cs := by
  refine ⟨hl.symm, ?_, fun j y v hy hv => ?_⟩
  · rw [List.all_eq_true]
    intro y hy
    obtain ⟨i, hi, rfl⟩ := List.getElem_of_mem hy
    have := (h i ys[i] (by simp)).2.1
    simpa using this
  · have h1 := (h j y hy).2.2 0 y v rfl
    refine h1 ?_
    rw [List.getElem?_take]
    simp [hv]
def F1 (enc : TypeId × Value → H) (P : Program) (W : World) (fs : Array Field) (i : Nat) {α : Type} (y : α → AV) (ok : α → Prop) : Prop := ∃ f, fs[i]? = some f ∧ f.offset = i ∧ P.cellsOf f.type = 1 ∧ Opens enc P W f.type 1 (fun z => [y z]) ok
theorem F1.get {fs : Array Field} {i : Nat} {α : Type} {y : α → AV} {ok : α → Prop} (h : F1 enc P W fs i y ok) {cs : List Value} {n : Nat} {xs : List (DataW H × List MemPlace)} (hx : xs.length = fs.size) (hf : ∀ (i : Nat) (f : Field), fs[i]? = some f → DataW.trod enc P W 0 (fun _ => true) true n f.type ((cs.drop f.offset).take (P.cellsOf f.type)) = xs[i]?) : ∃ z, ok z ∧ RC W [y z] ((cs.drop i).take 1) := by
  obtain ⟨f, h1, h2, h3, h4⟩ := h
  have h5 := hf i f h1
  have hi : i < xs.length := by rw [hx]; exact (Array.getElem?_eq_some_iff.1 h1).1
  rw [h2, h3, List.getElem?_eq_getElem hi] at h5
  obtain ⟨z, q1, q2, _⟩ := h4 n _ _ h5
  exact ⟨z, q1, q2⟩
theorem Opens.struct2 {t : TypeId} {fs : Array Field} {α β : Type} {y0 : α → AV} {y1 : β → AV} {o0 : α → Prop} {o1 : β → Prop} (ht : P.underlying t = some (.struct fs)) (hc : P.cellsOf t = 2) (h0 : F1 enc P W fs 0 y0 o0) (h1 : F1 enc P W fs 1 y1 o1) :
    Opens enc P W t 2 (fun z : α × β => [y0 z.1, y1 z.2]) (fun z => o0 z.1 ∧ o1 z.2) := by
  intro fuel cs x hx
  obtain ⟨xs, n, _, _, hl, hlen, hf⟩ := DataW.trod_struct ht hx
  obtain ⟨z0, a0, b0⟩ := h0.get hlen hf
  obtain ⟨z1, a1, b1⟩ := h1.get hlen hf
  refine ⟨(z0, z1), ⟨a0, a1⟩, RC.cells (by rw [hl, hc]; rfl) fun i y hy => ?_, rfl⟩
  match i with
  | 0 => simp at hy; subst hy; exact b0
  | 1 => simp at hy; subst hy; exact b1
  | i + 2 => simp at hy
theorem Opens.struct3 {t : TypeId} {fs : Array Field} {α β γ : Type} {y0 : α → AV} {y1 : β → AV} {y2 : γ → AV} {o0 : α → Prop} {o1 : β → Prop} {o2 : γ → Prop} (ht : P.underlying t = some (.struct fs)) (hc : P.cellsOf t = 3) (h0 : F1 enc P W fs 0 y0 o0) (h1 : F1 enc P W fs 1 y1 o1) (h2 : F1 enc P W fs 2 y2 o2) :
    Opens enc P W t 3 (fun z : α × β × γ => [y0 z.1, y1 z.2.1, y2 z.2.2]) (fun z => o0 z.1 ∧ o1 z.2.1 ∧ o2 z.2.2) := by
  intro fuel cs x hx
  obtain ⟨xs, n, _, _, hl, hlen, hf⟩ := DataW.trod_struct ht hx
  obtain ⟨z0, a0, b0⟩ := h0.get hlen hf
  obtain ⟨z1, a1, b1⟩ := h1.get hlen hf
  obtain ⟨z2, a2, b2⟩ := h2.get hlen hf
  refine ⟨(z0, z1, z2), ⟨a0, a1, a2⟩, RC.cells (by rw [hl, hc]; rfl) fun i y hy => ?_, rfl⟩
  match i with
  | 0 => simp at hy; subst hy; exact b0
  | 1 => simp at hy; subst hy; exact b1
  | 2 => simp at hy; subst hy; exact b2
  | i + 3 => simp at hy
theorem Opens.struct4 {t : TypeId} {fs : Array Field} {α β γ δ : Type} {y0 : α → AV} {y1 : β → AV} {y2 : γ → AV} {y3 : δ → AV} {o0 : α → Prop} {o1 : β → Prop} {o2 : γ → Prop} {o3 : δ → Prop} (ht : P.underlying t = some (.struct fs)) (hc : P.cellsOf t = 4) (h0 : F1 enc P W fs 0 y0 o0) (h1 : F1 enc P W fs 1 y1 o1) (h2 : F1 enc P W fs 2 y2 o2) (h3 : F1 enc P W fs 3 y3 o3) :
    Opens enc P W t 4 (fun z : α × β × γ × δ => [y0 z.1, y1 z.2.1, y2 z.2.2.1, y3 z.2.2.2]) (fun z => o0 z.1 ∧ o1 z.2.1 ∧ o2 z.2.2.1 ∧ o3 z.2.2.2) := by
  intro fuel cs x hx
  obtain ⟨xs, n, _, _, hl, hlen, hf⟩ := DataW.trod_struct ht hx
  obtain ⟨z0, a0, b0⟩ := h0.get hlen hf
  obtain ⟨z1, a1, b1⟩ := h1.get hlen hf
  obtain ⟨z2, a2, b2⟩ := h2.get hlen hf
  obtain ⟨z3, a3, b3⟩ := h3.get hlen hf
  refine ⟨(z0, z1, z2, z3), ⟨a0, a1, a2, a3⟩, RC.cells (by rw [hl, hc]; rfl) fun i y hy => ?_, rfl⟩
  match i with
  | 0 => simp at hy; subst hy; exact b0
  | 1 => simp at hy; subst hy; exact b1
  | 2 => simp at hy; subst hy; exact b2
  | 3 => simp at hy; subst hy; exact b3
  | i + 4 => simp at hy
end Go.Proofs.Ytjnencdmejhmjaa.Eng
namespace Go.Proofs.Ytjnencdmejhmjaa.Eng
open Go Go.RowKit
set_option linter.unusedSimpArgs false
set_option linter.unusedVariables false
variable {H : Type} {enc : TypeId × Value → H} {P : Program} {W : World}
theorem PCalls.law {f : Nat} {xs : List AV} {vs : List Value} (h : PCalls P f xs (.b true)) (hv : VRs (Old W) W xs vs) : Calls P f vs.toArray W fun e w' => e = .returned (.bool true) ∧ Below W.heap.size W w' := by
  have h0 : HeapOK (Old W) (Old W) W [] := HeapOK.none (fun c hc => hc) (fun c hc => hc)
  refine (h.2 (Old W) (Old W) W vs h0 hv).mono ?_
  rintro e w' ⟨v, r, H', F', rfl, ⟨rfl, rfl⟩, hg, _, hr⟩
  have e1 := hr.inv_v
  subst e1
  exact ⟨rfl, ⟨hg.ext.os, hg.ext.tape, hg.ext.output, hg.ext.size, fun k hk => hg.ext.keep k (.inl hk) hk⟩⟩
/-- an argument of a struct type -/
theorem Opens.agg {t : TypeId} {sz : Nat} {α : Type} {g : α → List AV} {ok : α → Prop} {fs : Array Field} {r : Reach} {b0 : Nat} (h : Opens enc P W t sz g ok) (ht : P.underlying t = some (.struct fs)) {v : Value} (hv : Value.okWide P W r b0 t v) {d : DataW H} {ps : List MemPlace} (hd : DataW.Trod enc P W 0 (fun _ => true) true t v d ps) : ∃ z, ok z ∧ VR (Old W) W (.agg (g z)) v := by
  simp only [Value.okWide, ht] at hv
  obtain ⟨cs, rfl, _, _⟩ := hv
  obtain ⟨fuel, hf⟩ := hd
  obtain ⟨z, q1, q2, _⟩ := h fuel _ _ hf
  refine ⟨z, q1, ?_⟩
  obtain ⟨l1, _, l3⟩ := q2
  have := VR.agg (F := Old W) (w := W) (g z) cs.toList l1 (fun i x y hx hy => l3 i x y hx hy)
  simpa using this
/-- an argument that is a slice -/
theorem Opens.sl {t e : TypeId} {α : Type} {y : α → AV} {ok : α → Prop} {r : Reach} {b0 : Nat} (h : Opens enc P W t 1 (fun z => [y z]) ok) (ht : P.underlying t = some (.slice e)) {v : Value} (hv : Value.okWide P W r b0 t v) {d : DataW H} {ps : List MemPlace} (hd : DataW.Trod enc P W 0 (fun _ => true) true t v d ps) : ∃ z, ok z ∧ VR (Old W) W (y z) v := by
  obtain ⟨a, len, cap, rfl⟩ := WideShapes.okWide_slice ht hv
  obtain ⟨fuel, hf⟩ := hd
  obtain ⟨z, q1, q2, _⟩ := h fuel _ _ hf
  exact ⟨z, q1, q2.2.2 0 _ _ rfl rfl⟩
/-- an argument that is a whole number -/
theorem Opens.it {t : TypeId} {α : Type} {y : α → AV} {ok : α → Prop} {k : IntKind} {r : Reach} {b0 : Nat} (h : Opens enc P W t 1 (fun z => [y z]) ok) (ht : P.underlying t = some (.int k)) {v : Value} (hv : Value.okWide P W r b0 t v) {d : DataW H} {ps : List MemPlace} (hd : DataW.Trod enc P W 0 (fun _ => true) true t v d ps) : ∃ z, ok z ∧ VR (Old W) W (y z) v := by
  obtain ⟨n, rfl⟩ := WideShapes.okWide_int ht hv
  obtain ⟨fuel, hf⟩ := hd
  obtain ⟨z, q1, q2, _⟩ := h fuel _ _ hf
  exact ⟨z, q1, q2.2.2 0 _ _ rfl rfl⟩
theorem Opens.map {t : TypeId} {sz : Nat} {α β : Type} {g : α → List AV} {g' : β → List AV} {ok : α → Prop} {ok' : β → Prop} (h : Opens enc P W t sz g ok) (φ : α → β) (hg : ∀ z, g z = g' (φ z)) (hok : ∀ z, ok z → ok' (φ z)) : Opens enc P W t sz g' ok' := by
  intro fuel cs x hx
  obtain ⟨z, q1, q2, q3⟩ := h fuel cs x hx
  exact ⟨φ z, hok z q1, by rw [← hg]; exact q2, by rw [← hg]; exact q3⟩
end Go.Proofs.Ytjnencdmejhmjaa.Eng
namespace Go.Proofs.Ytjnencdmejhmjaa.Eng
open Go Go.RowKit
theorem h_iafz {l : List Ins} {E : Env} {H : Heap} {js : List Nat} {j d sz m : Nat} {xs : List AV} {e : AV} {x y : Opd} (hj : l[j]? = some ⟨some d, .iaddr sz x y, none⟩) (hd : E.get d = some (.fptr e.cells)) (hx : E.opd x = some (.fz sz xs)) (hy : E.opd y = some (.i (m : Nat))) (he : xs[m]? = some e) (k : holdsAll l E H js) : holdsAll l E H (j :: js) :=
  h_cons hj hd (by
    simp only [IOp.val, hx, hy, Option.bind_some, iaddrVal]
    simp [he]) k
section
variable {P : Program} {l : List Ins} {E : Env} {H : Heap} {js : List Nat} {j d t sz m : Nat} {q : IOp} {b c : Bool} {x y : Opd} {v : AV}
theorem h_guard (hj : l[j]? = some ⟨some d, q, some (t, b)⟩) (h1 : Ins.holds ⟨some d, q, some (t, b)⟩ E H) (k : holdsAll l E H js) : holdsAll l E H (j :: js) := by
  simp only [holdsAll, hj]; exact ⟨h1, k⟩
theorem g_und (ht : E.get t = some (.v undef)) (hd : E.get d = some (.v undef)) : Ins.holds ⟨some d, q, some (t, b)⟩ E H :=
  ⟨undef, ht, fun e => by simp [undef] at e, fun _ => hd⟩
theorem g_no (ht : E.get t = some (.b c)) (hc : c = !b) (hd : E.get d = some (.v undef)) : Ins.holds ⟨some d, q, some (t, b)⟩ E H :=
  ⟨.bool c, ht, fun e => by injection e with e; rw [e] at hc; cases b <;> simp at hc, fun _ => hd⟩
theorem g_yes (ht : E.get t = some (.b c)) (hc : c = b) (h1 : Ins.holds ⟨some d, q, none⟩ E H) : Ins.holds ⟨some d, q, some (t, b)⟩ E H :=
  ⟨.bool c, ht, fun _ => h1, fun e => absurd (by rw [hc]) e⟩
theorem g_cons (hd : E.get d = some v) (hv : q.val E.opd H = some v) : Ins.holds ⟨some d, q, none⟩ E H := ⟨v, hd, hv⟩
theorem g_iafz {xs : List AV} {e : AV} (hd : E.get d = some (.fptr e.cells)) (hx : E.opd x = some (.fz sz xs)) (hy : E.opd y = some (.i (m : Nat))) (he : xs[m]? = some e) : Ins.holds ⟨some d, .iaddr sz x y, none⟩ E H :=
  g_cons hd (by
    simp only [IOp.val, hx, hy, Option.bind_some, iaddrVal]
    simp [he])
theorem g_ld {h i f : Nat} {a : Loc} {els : List AV} {e : AV} (hd : E.get d = some v) (hx : E.opd x = some (.ptr h a sz i f)) (hH : H.get h = some (a, .arr sz els)) (he : els[i]? = some e) (hn : e.cells[f]? = some v) : Ins.holds ⟨some d, .load none x, none⟩ E H :=
  g_cons hd (by simp [IOp.val, hx, loadVal, hH, he, cutCells, hn])
theorem g_ldagg {h i n : Nat} {a : Loc} {els cs : List AV} (hd : E.get d = some (.agg cs)) (hx : E.opd x = some (.ptr h a sz i 0)) (hH : H.get h = some (a, .arr sz els)) (he : els[i]? = some (.agg cs)) (hn : cs.length = n) : Ins.holds ⟨some d, .load (some n) x, none⟩ E H :=
  g_cons hd (by subst hn; simp [IOp.val, hx, loadVal, hH, he, cutCells, AV.cells_agg])
end
attribute [local irreducible] insRun planRun AWP holdsAll CallOK Weak Ins.holds
structure Kept (A : Prop) : Prop where
  out : A
theorem goS {A B : Prop} (k : B) (h : Kept B → A := by
  intro kQ
  (first | refine And.intro (a := holdsAll _ _ _ _) ?_ ?_ | refine exit_in ?_ | refine exit_out rfl ?_ | refine then_norm ?_ | refine block_norm ?_ | refine then_exit ?_ | refine then_ret ?_ | refine block_ret ?_ | (show insRun _ _ _ _ _; first | refine s_und rfl rfl ?_ | refine s_yes rfl ?_ | refine s_no rfl rfl ?_ | refine s_mov rfl ?_ | refine s_asg rfl ?_ | refine s_pickT rfl rfl ?_ | refine s_pickF rfl rfl ?_ | refine s_add rfl rfl (by omega) ?_ | refine s_sub rfl rfl (by omega) ?_ | refine s_quo rfl rfl (by omega) (by omega) ?_ | refine s_rem rfl rfl (by omega) (by omega) ?_ | refine s_bin rfl rfl rfl ?_ | refine s_boolq rfl rfl rfl ?_ | refine s_un rfl rfl ?_ | refine s_conv rfl rfl ?_ | refine s_load_fagg rfl rfl ?_ | refine s_load rfl rfl ?_ | refine s_nilck rfl rfl ?_ | refine s_faddr rfl rfl ?_ | refine s_fld rfl rfl ?_ | refine s_iaddr_fzn rfl rfl (by assumption) ?_ | refine s_iaddr_fzn rfl rfl (get_map _ (by assumption)) ?_ | refine s_iaddr_ref0 rfl rfl (by omega) ?_ | refine s_iaddr_refi rfl rfl (by assumption) ?_ | refine s_seti rfl rfl rfl (by first | omega | (simp; omega)) ?_ | refine s_setb rfl rfl rfl (by first | omega | (simp; omega)) ?_ | refine s_ldi rfl rfl (by assumption) ?_ | refine s_ldb rfl rfl (by assumption) ?_ | refine s_load_p rfl rfl rfl rfl ?_ | refine s_load_pagg rfl rfl rfl rfl ?_ | refine s_load_p rfl rfl (by assumption) rfl ?_ | refine s_load_p rfl rfl (get_map _ (by assumption)) rfl ?_ | refine s_load_pagg rfl rfl (by assumption) rfl ?_ | refine s_load_pagg rfl rfl (get_map _ (by assumption)) rfl ?_ | refine s_slc rfl rfl rfl rfl ?_ | refine s_ext rfl rfl ?_ | refine s_len rfl rfl ?_ | refine s_minn rfl rfl rfl ?_ | refine s_maxx rfl rfl rfl ?_ | refine s_store rfl rfl rfl rfl rfl rfl (by first | exact Nat.le_refl _ | exact Nat.le_of_ble_eq_true rfl) rfl ?_ | refine s_build rfl rfl ?_ | refine s_mkf rfl ?_ | refine s_done ?_ | refine s_ifT rfl (by first | assumption | (simp; done) | (simp; omega)) ?_ | refine s_no rfl (by first | assumption | (simp; done) | (simp; omega)) ?_ | refine s_pick' (b := true) rfl (by first | assumption | (simp; done) | (simp; omega)) rfl ?_ | refine s_pick' (b := false) rfl (by first | assumption | (simp; done) | (simp; omega)) rfl ?_) | (show AWP _ _ _ _ _ _; first | refine AWP.seq' ?_ | refine AWP.ins ?_ | refine AWP.drawn ?_ | refine AWP.skip ?_ | refine AWP.ret ?_ | refine AWP.exit ?_ | refine AWP.block ?_ | refine AWP.condT rfl ?_ | refine AWP.condF rfl ?_ | refine AWP.condDT rfl (by first | assumption | (simp; done) | (simp; omega)) ?_ | refine AWP.condDF rfl (by first | assumption | (simp; done) | (simp; omega)) ?_) | (show planRun _ _ _ _ _ _; first | refine p_done ?_ | refine p_still rfl ?_ | refine p_eff1 rfl ?_) | (show holdsAll _ _ _ _; first | exact h_nil | refine h_guard rfl ?_ ?_ | refine h_iafz rfl rfl rfl rfl (by assumption) ?_ | refine h_iafz rfl rfl rfl rfl (get_map _ (by assumption)) ?_ | refine h_ld rfl rfl rfl rfl rfl rfl ?_ | refine h_ldagg rfl rfl rfl rfl rfl rfl ?_ | refine h_cons rfl rfl rfl ?_) | (show Ins.holds _ _ _; first | exact g_und rfl rfl | exact g_no rfl (by first | assumption | (simp; done) | (simp; omega)) rfl | refine g_yes rfl (by first | assumption | (simp; done) | (simp; omega)) ?_ | exact g_iafz rfl rfl rfl (by assumption) | exact g_iafz rfl rfl rfl (get_map _ (by assumption)) | exact g_ld rfl rfl rfl rfl rfl | exact g_ldagg rfl rfl rfl rfl rfl | exact g_cons rfl rfl))
  exact Kept.out kQ) : A := h (Kept.mk k)
theorem goA {A B : Prop} (k : B) (h : Kept B → A := by
  intro kQ
  repeat (first | refine And.intro (a := holdsAll _ _ _ _) ?_ ?_ | refine exit_in ?_ | refine exit_out rfl ?_ | refine then_norm ?_ | refine block_norm ?_ | refine then_exit ?_ | refine then_ret ?_ | refine block_ret ?_ | (show insRun _ _ _ _ _; first | refine s_und rfl rfl ?_ | refine s_yes rfl ?_ | refine s_no rfl rfl ?_ | refine s_mov rfl ?_ | refine s_asg rfl ?_ | refine s_pickT rfl rfl ?_ | refine s_pickF rfl rfl ?_ | refine s_add rfl rfl (by omega) ?_ | refine s_sub rfl rfl (by omega) ?_ | refine s_quo rfl rfl (by omega) (by omega) ?_ | refine s_rem rfl rfl (by omega) (by omega) ?_ | refine s_bin rfl rfl rfl ?_ | refine s_boolq rfl rfl rfl ?_ | refine s_un rfl rfl ?_ | refine s_conv rfl rfl ?_ | refine s_load_fagg rfl rfl ?_ | refine s_load rfl rfl ?_ | refine s_nilck rfl rfl ?_ | refine s_faddr rfl rfl ?_ | refine s_fld rfl rfl ?_ | refine s_iaddr_fzn rfl rfl (by assumption) ?_ | refine s_iaddr_fzn rfl rfl (get_map _ (by assumption)) ?_ | refine s_iaddr_ref0 rfl rfl (by omega) ?_ | refine s_iaddr_refi rfl rfl (by assumption) ?_ | refine s_seti rfl rfl rfl (by first | omega | (simp; omega)) ?_ | refine s_setb rfl rfl rfl (by first | omega | (simp; omega)) ?_ | refine s_ldi rfl rfl (by assumption) ?_ | refine s_ldb rfl rfl (by assumption) ?_ | refine s_load_p rfl rfl rfl rfl ?_ | refine s_load_pagg rfl rfl rfl rfl ?_ | refine s_load_p rfl rfl (by assumption) rfl ?_ | refine s_load_p rfl rfl (get_map _ (by assumption)) rfl ?_ | refine s_load_pagg rfl rfl (by assumption) rfl ?_ | refine s_load_pagg rfl rfl (get_map _ (by assumption)) rfl ?_ | refine s_slc rfl rfl rfl rfl ?_ | refine s_ext rfl rfl ?_ | refine s_len rfl rfl ?_ | refine s_minn rfl rfl rfl ?_ | refine s_maxx rfl rfl rfl ?_ | refine s_store rfl rfl rfl rfl rfl rfl (by first | exact Nat.le_refl _ | exact Nat.le_of_ble_eq_true rfl) rfl ?_ | refine s_build rfl rfl ?_ | refine s_mkf rfl ?_ | refine s_done ?_ | refine s_ifT rfl (by first | assumption | (simp; done) | (simp; omega)) ?_ | refine s_no rfl (by first | assumption | (simp; done) | (simp; omega)) ?_ | refine s_pick' (b := true) rfl (by first | assumption | (simp; done) | (simp; omega)) rfl ?_ | refine s_pick' (b := false) rfl (by first | assumption | (simp; done) | (simp; omega)) rfl ?_) | (show AWP _ _ _ _ _ _; first | refine AWP.seq' ?_ | refine AWP.ins ?_ | refine AWP.drawn ?_ | refine AWP.skip ?_ | refine AWP.ret ?_ | refine AWP.exit ?_ | refine AWP.block ?_ | refine AWP.condT rfl ?_ | refine AWP.condF rfl ?_ | refine AWP.condDT rfl (by first | assumption | (simp; done) | (simp; omega)) ?_ | refine AWP.condDF rfl (by first | assumption | (simp; done) | (simp; omega)) ?_) | (show planRun _ _ _ _ _ _; first | refine p_done ?_ | refine p_still rfl ?_ | refine p_eff1 rfl ?_) | (show holdsAll _ _ _ _; first | exact h_nil | refine h_guard rfl ?_ ?_ | refine h_iafz rfl rfl rfl rfl (by assumption) ?_ | refine h_iafz rfl rfl rfl rfl (get_map _ (by assumption)) ?_ | refine h_ld rfl rfl rfl rfl rfl rfl ?_ | refine h_ldagg rfl rfl rfl rfl rfl rfl ?_ | refine h_cons rfl rfl rfl ?_) | (show Ins.holds _ _ _; first | exact g_und rfl rfl | exact g_no rfl (by first | assumption | (simp; done) | (simp; omega)) rfl | refine g_yes rfl (by first | assumption | (simp; done) | (simp; omega)) ?_ | exact g_iafz rfl rfl rfl (by assumption) | exact g_iafz rfl rfl rfl (get_map _ (by assumption)) | exact g_ld rfl rfl rfl rfl rfl | exact g_ldagg rfl rfl rfl rfl rfl | exact g_cons rfl rfl))
  exact Kept.out kQ) : A := h (Kept.mk k)
theorem goI {A B : Prop} (k : B) (h : Kept B → A := by
  intro kQ
  repeat (first | refine And.intro (a := holdsAll _ _ _ _) ?_ ?_ | refine exit_in ?_ | refine exit_out rfl ?_ | refine then_norm ?_ | refine block_norm ?_ | refine then_exit ?_ | refine then_ret ?_ | refine block_ret ?_ | (show insRun _ _ _ _ _; first | refine s_und rfl rfl ?_ | refine s_yes rfl ?_ | refine s_no rfl rfl ?_ | refine s_mov rfl ?_ | refine s_asg rfl ?_ | refine s_pickT rfl rfl ?_ | refine s_pickF rfl rfl ?_ | refine s_add rfl rfl (by omega) ?_ | refine s_sub rfl rfl (by omega) ?_ | refine s_quo rfl rfl (by omega) (by omega) ?_ | refine s_rem rfl rfl (by omega) (by omega) ?_ | refine s_bin rfl rfl rfl ?_ | refine s_boolq rfl rfl rfl ?_ | refine s_un rfl rfl ?_ | refine s_conv rfl rfl ?_ | refine s_load_fagg rfl rfl ?_ | refine s_load rfl rfl ?_ | refine s_nilck rfl rfl ?_ | refine s_faddr rfl rfl ?_ | refine s_fld rfl rfl ?_ | refine s_iaddr_fzn rfl rfl (by assumption) ?_ | refine s_iaddr_fzn rfl rfl (get_map _ (by assumption)) ?_ | refine s_iaddr_ref0 rfl rfl (by omega) ?_ | refine s_iaddr_refi rfl rfl (by assumption) ?_ | refine s_seti rfl rfl rfl (by first | omega | (simp; omega)) ?_ | refine s_setb rfl rfl rfl (by first | omega | (simp; omega)) ?_ | refine s_ldi rfl rfl (by assumption) ?_ | refine s_ldb rfl rfl (by assumption) ?_ | refine s_load_p rfl rfl rfl rfl ?_ | refine s_load_pagg rfl rfl rfl rfl ?_ | refine s_load_p rfl rfl (by assumption) rfl ?_ | refine s_load_p rfl rfl (get_map _ (by assumption)) rfl ?_ | refine s_load_pagg rfl rfl (by assumption) rfl ?_ | refine s_load_pagg rfl rfl (get_map _ (by assumption)) rfl ?_ | refine s_slc rfl rfl rfl rfl ?_ | refine s_ext rfl rfl ?_ | refine s_len rfl rfl ?_ | refine s_minn rfl rfl rfl ?_ | refine s_maxx rfl rfl rfl ?_ | refine s_store rfl rfl rfl rfl rfl rfl (by first | exact Nat.le_refl _ | exact Nat.le_of_ble_eq_true rfl) rfl ?_ | refine s_build rfl rfl ?_ | refine s_mkf rfl ?_ | refine s_done ?_ | refine s_ifT rfl (by first | assumption | (simp; done) | (simp; omega)) ?_ | refine s_no rfl (by first | assumption | (simp; done) | (simp; omega)) ?_ | refine s_pick' (b := true) rfl (by first | assumption | (simp; done) | (simp; omega)) rfl ?_ | refine s_pick' (b := false) rfl (by first | assumption | (simp; done) | (simp; omega)) rfl ?_) | (show AWP _ _ _ _ _ _; first | refine AWP.ins ?_ | refine AWP.drawn ?_ | refine AWP.skip ?_ | refine AWP.exit ?_ | refine AWP.block ?_ | refine AWP.condT rfl ?_ | refine AWP.condF rfl ?_ | refine AWP.condDT rfl (by first | assumption | (simp; done) | (simp; omega)) ?_ | refine AWP.condDF rfl (by first | assumption | (simp; done) | (simp; omega)) ?_) | (show planRun _ _ _ _ _ _; first | refine p_done ?_ | refine p_still rfl ?_ | refine p_eff1 rfl ?_) | (show holdsAll _ _ _ _; first | exact h_nil | refine h_guard rfl ?_ ?_ | refine h_iafz rfl rfl rfl rfl (by assumption) ?_ | refine h_iafz rfl rfl rfl rfl (get_map _ (by assumption)) ?_ | refine h_ld rfl rfl rfl rfl rfl rfl ?_ | refine h_ldagg rfl rfl rfl rfl rfl rfl ?_ | refine h_cons rfl rfl rfl ?_) | (show Ins.holds _ _ _; first | exact g_und rfl rfl | exact g_no rfl (by first | assumption | (simp; done) | (simp; omega)) rfl | refine g_yes rfl (by first | assumption | (simp; done) | (simp; omega)) ?_ | exact g_iafz rfl rfl rfl (by assumption) | exact g_iafz rfl rfl rfl (get_map _ (by assumption)) | exact g_ld rfl rfl rfl rfl rfl | exact g_ldagg rfl rfl rfl rfl rfl | exact g_cons rfl rfl))
  exact Kept.out kQ) : A := h (Kept.mk k)
theorem goN {A : Prop} {B : Loc → Prop} (k : ∀ a, B a) (h : Kept (∀ a, B a) → A := by
  intro kQ
  first | exact s_mks rfl rfl (by first | omega | (simp; omega)) (Kept.out kQ) | exact s_mksi rfl rfl (by omega) (by omega) (Kept.out kQ) | exact s_bsl rfl rfl (Kept.out kQ) | exact s_alloc (Kept.out kQ) | exact s_box rfl rfl rfl rfl (Kept.out kQ)) : A := h (Kept.mk k)
end Go.Proofs.Ytjnencdmejhmjaa.Eng
