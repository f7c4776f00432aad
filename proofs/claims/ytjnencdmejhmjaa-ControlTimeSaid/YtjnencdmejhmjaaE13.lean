/- ENGINE, part 13: code, and what it does to what is known. -/
import Derived.Test.YtjnencdmejhmjaaE12
import Derived.Deep.LoopGhost
namespace Go.Proofs.Ytjnencdmejhmjaa.Eng
open Go Go.RowKit
set_option linter.unusedSimpArgs false
set_option linter.unusedVariables false

structure Ins where
  d : Option Nat
  q : IOp
  g : Option (Nat × Bool)
/-- In which order a region that draws its order is looked at: what only reads as soon as it can; then each of the others that may come next, with those that read before it and may come behind it. -/
inductive Plan where
  | done
  | none
  | still (i : Nat) (p : Plan)
  | eff (i : Nat) (js : List Nat) (p alt : Plan)
inductive IR where
  | skip
  | ins (l : List Ins)
  | drawn (l : List Ins) (p : Plan)
  | seq (a b : IR)
  | cond (x : Opd) (a b : IR)
  | block (id : Nat) (a : IR)
  | loop (a : IR)
  | exit (id : Nat)
  | ret
def compIns (P : Program) (N : Nat) (ops : Array Oper) (o : Oper) : Option Ins :=
  (compOp P o.op).bind fun q => if o.dst.all (· < N) then
    (match o.guard with
    | none => some ⟨o.dst, q, none⟩
    | some (j, b) => ((ops[j]?).bind (·.dst)).bind fun t => if t < N then some ⟨o.dst, q, some (t, b)⟩ else none) else none
def compInss (P : Program) (N : Nat) (ops : Array Oper) : List Oper → Option (List Ins)
  | [] => some []
  | o :: r => (compIns P N ops o).bind fun i => (compInss P N ops r).bind fun l => some (i :: l)
def dpre (o : Oper) : List Nat := (o.after.toList.filter (Region.binds .any)).map (·.on)
def closureGo : List (List Nat) → List Oper → List (List Nat)
  | acc, [] => acc
  | acc, o :: r => closureGo (acc ++ [((dpre o).flatMap fun j => j :: acc.getD j []).eraseDups]) r
def Ins.still (i : Ins) : Bool := match i.q with
  | .asg _ => false
  | q => q.isVal && i.d.isSome
def stillAt (l : List Ins) (i : Nat) : Bool := (l[i]?).any Ins.still
def readyAt (b : List (List Nat)) (dn : List Nat) (i : Nat) : Bool := !dn.contains i && (b.getD i []).all dn.contains
def mkPlan (l : List Ins) (b : List (List Nat)) : Nat → List Nat → Plan
  | 0, _ => .none
  | k + 1, dn =>
    match (List.range l.length).find? fun i => stillAt l i && readyAt b dn i with
    | some i => .still i (mkPlan l b k (i :: dn))
    | none =>
      match (List.range l.length).filter (readyAt b dn) with
      | [] => .done
      | rs => rs.foldr (fun i alt => .eff i (dn.filter fun j => stillAt l j && !(b.getD i []).contains j) (mkPlan l b k (i :: dn)) alt) .none
def IOp.reads : IOp → List Nat
  | .mov x | .asg x | .un _ x | .conv _ x | .load _ x | .nilck x | .faddr _ x | .fld _ _ x | .ext _ x | .len x | .box x | .clr _ _ x | .eqnil _ x => rd1 x
  | .pick c a b => rd1 c ++ rd1 a ++ rd1 b
  | .bin _ x y | .boolq _ x y | .eqs _ _ x y | .iaddr _ x y | .store _ x y | .mks _ _ _ x y | .app _ _ x y | .lkp _ _ _ x y => rd1 x ++ rd1 y
  | .slc _ x lo hi => rd1 x ++ rdo lo ++ rdo hi
  | .minn x xs | .maxx x xs => rd1 x ++ rds xs
  | .build _ ps => ps.flatMap fun p => rd1 p.2.2
  | .mkf _ xs | .call _ xs => rds xs
  | .alloc _ | .mkm => []
  | .bsl _ _ _ ps => ps.flatMap fun p => rd1 p.2
  | .callv x xs => rd1 x ++ rds xs
  | .mup _ x y z => rd1 x ++ rd1 y ++ rd1 z
where
  rd1 : Opd → List Nat
    | .t n => [n]
    | _ => []
  rdo : Option Opd → List Nat
    | some (.t n) => [n]
    | _ => []
  rds (xs : List Opd) : List Nat := xs.flatMap rd1
def Ins.reads (i : Ins) : List Nat := (match i.g with | some (t, _) => [t] | none => []) ++ i.q.reads
/-- No operation that only reads writes what another one reads or writes, but those behind it. -/
def ssa (l : List Ins) (b : List (List Nat)) : Bool :=
  (List.range l.length).all fun q => !stillAt l q || (List.range l.length).all fun i =>
    match l[q]?, l[i]? with
    | some iq, some ii => match iq.d with
      | some t => (!ii.reads.contains t || (b.getD i []).contains q) && (i == q || ii.d != some t)
      | none => false
    | _, _ => false
def linOK (ops : Array Oper) : Bool :=
  (Region.linearise .any ops 0).length == ops.size && (Region.linearise .text ops 0).length == ops.size && (Region.linearise .gc ops 0).length == ops.size
def edgesOK (ops : List Oper) : Bool := (ops.zipIdx).all fun p => (dpre p.1).all (· < p.2)
def comp (P : Program) (N : Nat) : Code → Option IR
  | .skip => some .skip
  | .region _ ops false => (compInss P N ops ops.toList).bind fun l => some (.ins l)
  | .region _ ops true => (compInss P N ops ops.toList).bind fun l => if linOK ops && edgesOK ops.toList && ssa l (closureGo [] ops.toList) then some (.drawn l (mkPlan l (closureGo [] ops.toList) (ops.size + 1) [])) else none
  | .seq a b => (comp P N a).bind fun x => (comp P N b).bind fun y => some (.seq x y)
  | .cond c a b => (compOpd c).bind fun c => (comp P N a).bind fun x => (comp P N b).bind fun y => some (.cond c x y)
  | .block id a => (comp P N a).bind fun x => some (.block id x)
  | .loop a => (comp P N a).bind fun x => some (.loop x)
  | .exit id => some (.exit id)
  | .ret => some .ret
  | _ => none

/-- One operation, its guard asked first. -/
def Ins.run (P : Program) (i : Ins) (E : Env) (H : Heap) (K : Env → Heap → Prop) : Prop :=
  match i.g with
  | none => i.q.run P (i.d.getD 0) E.opd H fun x H' => K (E.put i.d x) H'
  | some (t, b) =>
    match E.get t with
    | some (.v u) => (u = .bool b → i.q.run P (i.d.getD 0) E.opd H fun x H' => K (E.put i.d x) H') ∧ (u ≠ .bool b → K (E.put i.d (some (.v undef))) H)
    | _ => False
def insRun (P : Program) : List Ins → Env → Heap → (Env → Heap → Prop) → Prop
  | [], E, H, K => K E H
  | i :: l, E, H, K => i.run P E H fun E' H' => insRun P l E' H' K
variable {P : Program} {N : Nat}
/-- What code does to what is known. -/
def Lift (N : Nat) (Keep F : Nat → Prop) (w : World) (Q : Exit → Env → Heap → Prop) : Exit → Act → World → Prop :=
  fun e a' w' => ∃ E' H' F', Q e E' H' ∧ Grow Keep F F' w w' ∧ St N Keep F' E' H' a' w'
def AWP (P : Program) (N : Nat) (c : IR) (E : Env) (H : Heap) (Q : Exit → Env → Heap → Prop) : Prop :=
  ∀ code, comp P N code = some c → ∀ (Keep F : Nat → Prop) (a : Act) (w : World), St N Keep F E H a w → code.wp P (Lift N Keep F w Q) a w
def then_ (K : Env → Heap → Prop) (Q : Exit → Env → Heap → Prop) : Exit → Env → Heap → Prop
  | .normal => K
  | e => Q e
def inBlock_ (id : Nat) (Q : Exit → Env → Heap → Prop) : Exit → Env → Heap → Prop
  | .exit i => if i = id then Q .normal else Q (.exit i)
  | e => Q e

theorem ins_sound {Keep F : Nat → Prop} {w : World} {E : Env} {H : Heap} {a : Act} (hS : St N Keep F E H a w) {ops : Array Oper} {o : Oper} {i : Ins} (hc : compIns P N ops o = some i) {K : Env → Heap → Prop} (h : i.run P E H K)
    {Kc : Act → World → Prop} {Q : Exit → Act → World → Prop} (hk : ∀ E' H' F' a' w', K E' H' → Grow Keep F F' w w' → St N Keep F' E' H' a' w' → Kc a' w') :
    if Region.wanted o (yielded ops a.tmps) then o.wp P a w Kc Q else Kc (a.put o.dst undef) w := by
  simp only [compIns, Option.bind_eq_some_iff] at hc
  obtain ⟨q, hq, hc⟩ := hc
  split at hc
  · rename_i hd
    have hd' : ∀ t, o.dst = some t → t < N := fun t ht => by rw [ht] at hd; simpa using hd
    split at hc
    · rename_i hg
      injection hc with hc; subst hc
      simp only [Region.wanted, hg, if_true]
      exact op_sound (K := fun x H' => K (E.put o.dst x) H') hS o hq hd' (o.dst.getD 0) h (fun x H' F' a' w' h1 h2 h3 => hk _ _ F' a' w' h1 h2 h3)
    · rename_i j b hg
      simp only [Option.bind_eq_some_iff] at hc
      obtain ⟨t, ⟨oj, hoj, hdj⟩, hc⟩ := hc
      split at hc
      · rename_i htN
        injection hc with hc; subst hc
        simp only [Ins.run] at h
        split at h
        · rename_i c hget
          have hv := (hS.env t _ hget).inv_v
          have hlt : t < a.tmps.size := by rw [hS.tsz]; exact htN
          have hv' : a.tmps[t] = c := by rw [Array.getD_eq_getD_getElem?] at hv; simpa [hlt] using hv
          obtain ⟨h1, h2⟩ := h
          by_cases e : c = .bool b
          · subst e
            have hy : yielded ops a.tmps j = some b := by simp [yielded, hoj, hdj, hlt, hv']
            simp only [Region.wanted, hg, hy]
            simp only [beq_self_eq_true, if_true]
            exact op_sound (K := fun x H' => K (E.put o.dst x) H') hS o hq hd' (o.dst.getD 0) (h1 rfl) (fun x H' F' a' w' h1 h2 h3 => hk _ _ F' a' w' h1 h2 h3)
          · have e1 : (yielded ops a.tmps j == some b) = false := by
              simp only [yielded, hoj, hdj, Option.bind_some, Array.getElem?_eq_getElem hlt, hv']
              cases c <;> first | rfl | (simp; intro hh; exact e (by rw [hh]))
            simp only [Region.wanted, hg]
            rw [e1]
            simp only [Bool.false_eq_true, if_false]
            exact hk _ _ F _ w (h2 e) (Grow.refl _ _ _) (hS.put (Grow.refl _ _ _) hS.heap o.dst (some (.v undef)) undef hd' (fun y hy => by injection hy with hy; subst hy; exact .v _))
        · exact h.elim
      · simp at hc
  · simp at hc
theorem inss_sound {Keep F0 : Nat → Prop} {w0 : World} {ops : Array Oper} {Q : Exit → Env → Heap → Prop} : ∀ (k : Nat) (l : List Ins), compInss P N ops (ops.toList.drop k) = some l → ∀ (E : Env) (H : Heap) (F : Nat → Prop) (a : Act) (w : World), St N Keep F E H a w → Grow Keep F0 F w0 w → insRun P l E H (Q .normal) →
    wpOps P ops (Lift N Keep F0 w0 Q) (List.range' k (ops.size - k)) a w := by
  intro k l
  induction l generalizing k with
  | nil =>
    intro hc E H F a w hS hg h
    have hk : ops.size ≤ k := by
      rcases Nat.lt_or_ge k ops.size with hlt | hge
      · have : ops.toList.drop k = ops[k] :: ops.toList.drop (k + 1) := by
          rw [List.drop_eq_getElem_cons (by simpa using hlt)]; simp
        rw [this] at hc
        simp only [compInss, Option.bind_eq_some_iff] at hc
        obtain ⟨_, _, _, _, hc⟩ := hc
        simp at hc
      · exact hge
    have : ops.size - k = 0 := by omega
    rw [this]
    exact ⟨E, H, F, h, hg, hS⟩
  | cons i l ih =>
    intro hc E H F a w hS hg h
    have hk : k < ops.size := by
      rcases Nat.lt_or_ge k ops.size with hlt | hge
      · exact hlt
      · rw [List.drop_eq_nil_of_le (by simpa using hge)] at hc
        simp [compInss] at hc
    have hd : ops.toList.drop k = ops[k] :: ops.toList.drop (k + 1) := by
      rw [List.drop_eq_getElem_cons (by simpa using hk)]; simp
    rw [hd] at hc
    simp only [compInss, Option.bind_eq_some_iff] at hc
    obtain ⟨i', hi', l', hl', hc⟩ := hc
    injection hc with hc
    simp only [List.cons.injEq] at hc
    obtain ⟨rfl, rfl⟩ := hc
    have hr : List.range' k (ops.size - k) = k :: List.range' (k + 1) (ops.size - (k + 1)) := by
      rw [show ops.size - k = (ops.size - (k + 1)) + 1 by omega, List.range'_succ]
    rw [hr]
    simp only [wpOps, Array.getElem?_eq_getElem hk]
    have hs := ins_sound (P := P) (Q := Lift N Keep F0 w0 Q) (Kc := wpOps P ops (Lift N Keep F0 w0 Q) (List.range' (k + 1) (ops.size - (k + 1)))) hS hi' h
      (fun E' H' F' a' w' h1 h2 h3 => ih (k + 1) hl' E' H' F' a' w' h3 (hg.trans h2) h1)
    split at hs
    · rename_i hw; rw [if_pos hw]; exact .inl hs
    · rename_i hw; rw [if_neg hw]; exact hs

theorem AWP.ins {l : List Ins} {E : Env} {H : Heap} {Q : Exit → Env → Heap → Prop} (h : insRun P l E H (Q .normal)) : AWP P N (.ins l) E H Q := by
  intro code hc Keep F a w hS
  cases code with
  | region id ops d =>
    cases d with
    | false =>
      simp only [comp, Option.bind_eq_some_iff] at hc
      obtain ⟨l', hl', hc⟩ := hc
      injection hc with hc; injection hc with hc; subst hc
      refine wp_region ?_
      have := inss_sound (Q := Q) 0 l' (by simpa using hl') E H F a w hS (Grow.refl _ _ _) h
      rw [List.range_eq_range']
      simpa using this
    | true =>
      simp only [comp, Option.bind_eq_some_iff] at hc
      obtain ⟨_, _, hc⟩ := hc
      split at hc <;> simp at hc
  | _ => simp [comp, Option.bind_eq_some_iff] at hc
theorem AWP.mono {c : IR} {E : Env} {H : Heap} {Q Q' : Exit → Env → Heap → Prop} (h : AWP P N c E H Q) (hq : ∀ e E H, Q e E H → Q' e E H) : AWP P N c E H Q' :=
  fun code hc Keep F a w hS => wp_mono (h code hc Keep F a w hS) fun e a' w' ⟨E', H', F', h1, h2, h3⟩ => ⟨E', H', F', hq _ _ _ h1, h2, h3⟩
/-- A weaker knowledge of the same state. -/
def Weak (N : Nat) (E : Env) (H : Heap) (E' : Env) (H' : Heap) : Prop :=
  ∀ (Keep F : Nat → Prop) (a : Act) (w : World), St N Keep F E H a w → ∃ F', Grow Keep F F' w w ∧ St N Keep F' E' H' a w
theorem Lift.grow {Keep F F' : Nat → Prop} {w w' : World} {Q : Exit → Env → Heap → Prop} {e : Exit} {a : Act} {w2 : World} (g : Grow Keep F F' w w') (h : Lift N Keep F' w' Q e a w2) : Lift N Keep F w Q e a w2 := by
  obtain ⟨E', H', F2, h1, h2, h3⟩ := h
  exact ⟨E', H', F2, h1, g.trans h2, h3⟩
theorem AWP.weak {c : IR} {E E' : Env} {H H' : Heap} {Q : Exit → Env → Heap → Prop} (hw : Weak N E H E' H') (h : AWP P N c E' H' Q) : AWP P N c E H Q := by
  intro code hc Keep F a w hS
  obtain ⟨F', g, hS'⟩ := hw Keep F a w hS
  exact wp_mono (h code hc Keep F' a w hS') fun e a' w' hl => hl.grow g
theorem AWP.skip {E : Env} {H : Heap} {Q : Exit → Env → Heap → Prop} (h : Q .normal E H) : AWP P N .skip E H Q := by
  intro code hc Keep F a w hS
  cases code with
  | skip => exact wp_skip ⟨E, H, F, h, Grow.refl _ _ _, hS⟩
  | region id ops d =>
    cases d
    · simp [comp, Option.bind_eq_some_iff] at hc
    · simp only [comp, Option.bind_eq_some_iff] at hc
      obtain ⟨_, _, hc⟩ := hc
      split at hc <;> simp at hc
  | _ => simp [comp, Option.bind_eq_some_iff] at hc
theorem AWP.exit {id : Nat} {E : Env} {H : Heap} {Q : Exit → Env → Heap → Prop} (h : Q (.exit id) E H) : AWP P N (.exit id) E H Q := by
  intro code hc Keep F a w hS
  cases code with
  | exit id' =>
    simp [comp] at hc; subst hc
    exact wp_exit ⟨E, H, F, h, Grow.refl _ _ _, hS⟩
  | region id ops d =>
    cases d
    · simp [comp, Option.bind_eq_some_iff] at hc
    · simp only [comp, Option.bind_eq_some_iff] at hc
      obtain ⟨_, _, hc⟩ := hc
      split at hc <;> simp at hc
  | _ => simp [comp, Option.bind_eq_some_iff] at hc
theorem AWP.ret {E : Env} {H : Heap} {Q : Exit → Env → Heap → Prop} (h : Q .ret E H) : AWP P N .ret E H Q := by
  intro code hc Keep F a w hS
  cases code with
  | ret => exact wp_ret ⟨E, H, F, h, Grow.refl _ _ _, hS⟩
  | region id ops d =>
    cases d
    · simp [comp, Option.bind_eq_some_iff] at hc
    · simp only [comp, Option.bind_eq_some_iff] at hc
      obtain ⟨_, _, hc⟩ := hc
      split at hc <;> simp at hc
  | _ => simp [comp, Option.bind_eq_some_iff] at hc
theorem AWP.seq {x y : IR} {E : Env} {H : Heap} {Q : Exit → Env → Heap → Prop} (h : ∀ K : Env → Heap → Prop, (∀ E' H', AWP P N y E' H' Q → K E' H') → AWP P N x E H (then_ K Q)) : AWP P N (.seq x y) E H Q := by
  intro code hc Keep F a w hS
  cases code with
  | seq x' y' =>
    simp only [comp, Option.bind_eq_some_iff] at hc
    obtain ⟨x2, hx, y2, hy, hc⟩ := hc
    injection hc with hc; injection hc with h1 h2; subst h1; subst h2
    refine wp_seq (wp_mono (h _ (fun E' H' hK => hK) x' hx Keep F a w hS) ?_)
    rintro e a' w' ⟨E', H', F', h1, h2, h3⟩
    cases e with
    | normal => exact wp_mono (h1 y' hy Keep F' a' w' h3) fun e a' w' hl => hl.grow h2
    | _ => exact ⟨E', H', F', h1, h2, h3⟩
  | region id ops d =>
    cases d
    · simp [comp, Option.bind_eq_some_iff] at hc
    · simp only [comp, Option.bind_eq_some_iff] at hc
      obtain ⟨_, _, hc⟩ := hc
      split at hc <;> simp at hc
  | _ => simp [comp, Option.bind_eq_some_iff] at hc
theorem AWP.cond {x : Opd} {t : Bool} {c d : IR} {E : Env} {H : Heap} {Q : Exit → Env → Heap → Prop} (hx : E.opd x = some (.v (.bool t))) (h1 : t = true → AWP P N c E H Q) (h2 : t = false → AWP P N d E H Q) : AWP P N (.cond x c d) E H Q := by
  intro code hc Keep F a w hS
  cases code with
  | cond x' c' d' =>
    simp only [comp, Option.bind_eq_some_iff] at hc
    obtain ⟨x2, hx2, c2, hc2, d2, hd2, hc⟩ := hc
    injection hc with hc; injection hc with e1 e2 e3; subst e1; subst e2; subst e3
    have hv : a.eval x' = .bool t := by
      cases x' with
      | tmp n => simp [compOpd] at hx2; subst hx2; exact (hS.env n _ hx).inv_v
      | const v => simp [compOpd] at hx2; subst hx2; simp [Env.opd, AV.ofV] at hx; cases v <;> simp_all [Act.eval]
      | global g => simp [compOpd] at hx2
      | func f => simp [compOpd] at hx2; subst hx2; simp [Env.opd] at hx
    exact wp_cond_split hv (fun e => h1 e c' hc2 Keep F a w hS) (fun e => h2 e d' hd2 Keep F a w hS)
  | region id ops d =>
    cases d
    · simp [comp, Option.bind_eq_some_iff] at hc
    · simp only [comp, Option.bind_eq_some_iff] at hc
      obtain ⟨_, _, hc⟩ := hc
      split at hc <;> simp at hc
  | _ => simp [comp, Option.bind_eq_some_iff] at hc
theorem AWP.block {id : Nat} {c : IR} {E : Env} {H : Heap} {Q : Exit → Env → Heap → Prop} (h : AWP P N c E H (inBlock_ id Q)) : AWP P N (.block id c) E H Q := by
  intro code hc Keep F a w hS
  cases code with
  | block id' c' =>
    simp only [comp, Option.bind_eq_some_iff] at hc
    obtain ⟨c2, hc2, hc⟩ := hc
    injection hc with hc; injection hc with e1 e2; subst e1; subst e2
    refine wp_block (wp_mono (h c' hc2 Keep F a w hS) ?_)
    rintro e a' w' ⟨E', H', F', h1, h2, h3⟩
    cases e with
    | exit i =>
      simp only [inBlock_] at h1
      simp only [Exit.inBlock]
      split at h1
      · rename_i e; rw [if_pos e]; exact ⟨E', H', F', h1, h2, h3⟩
      · rename_i e; rw [if_neg e]; exact ⟨E', H', F', h1, h2, h3⟩
    | _ => exact ⟨E', H', F', h1, h2, h3⟩
  | region id ops d =>
    cases d
    · simp [comp, Option.bind_eq_some_iff] at hc
    · simp only [comp, Option.bind_eq_some_iff] at hc
      obtain ⟨_, _, hc⟩ := hc
      split at hc <;> simp at hc
  | _ => simp [comp, Option.bind_eq_some_iff] at hc
/-- A loop: a relation that bears a number, which every round lowers. -/
theorem AWP.loop {c : IR} (I : Nat → Env → Heap → Prop) (n0 : Nat) {E : Env} {H : Heap} {Q : Exit → Env → Heap → Prop} (h0 : I n0 E H)
    (round : ∀ n E H, I n E H → ∀ K : Env → Heap → Prop, (∀ m E' H', m < n → I m E' H' → K E' H') → AWP P N c E H (then_ K Q)) : AWP P N (.loop c) E H Q := by
  intro code hc Keep F a w hS
  cases code with
  | loop c' =>
    simp only [comp, Option.bind_eq_some_iff] at hc
    obtain ⟨c2, hc2, hc⟩ := hc
    injection hc with hc; injection hc with e1; subst e1
    refine wp_loop_ghost (fun n a' w' => ∃ E' H' F', I n E' H' ∧ Grow Keep F F' w w' ∧ St N Keep F' E' H' a' w') n0 ⟨E, H, F, h0, Grow.refl _ _ _, hS⟩ ?_
    rintro n a' w' ⟨E', H', F', h1, h2, h3⟩
    refine wp_mono (round n E' H' h1 (fun E2 H2 => ∃ m, m < n ∧ I m E2 H2) (fun m E2 H2 hm hI => ⟨m, hm, hI⟩) c' hc2 Keep F' a' w' h3) ?_
    rintro e a2 w2 ⟨E2, H2, F2, q1, q2, q3⟩
    cases e with
    | normal =>
      obtain ⟨m, hm, hI⟩ := q1
      exact ⟨m, hm, E2, H2, F2, hI, h2.trans q2, q3⟩
    | _ => exact ⟨E2, H2, F2, q1, h2.trans q2, q3⟩
  | region id ops d =>
    cases d
    · simp [comp, Option.bind_eq_some_iff] at hc
    · simp only [comp, Option.bind_eq_some_iff] at hc
      obtain ⟨_, _, hc⟩ := hc
      split at hc <;> simp at hc
  | _ => simp [comp, Option.bind_eq_some_iff] at hc
end Go.Proofs.Ytjnencdmejhmjaa.Eng
