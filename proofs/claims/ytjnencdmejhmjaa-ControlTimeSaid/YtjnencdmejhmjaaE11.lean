/- ENGINE, part 11: every operation: what it does to what is known. -/
import Derived.Test.YtjnencdmejhmjaaE10
namespace Go.Proofs.Ytjnencdmejhmjaa.Eng
open Go Go.RowKit
set_option linter.unusedSimpArgs false
set_option linter.unusedVariables false
variable {P : Program} {F Keep : Nat → Prop} {w : World} {H : Heap}

def VRs (F : Nat → Prop) (w : World) (xs : List AV) (vs : List Value) : Prop := xs.length = vs.length ∧ ∀ (i : Nat) (x : AV) (v : Value), xs[i]? = some x → vs[i]? = some v → VR F w x v
/-- A function with a Go body: the call enters it. -/
def okF (P : Program) (f : Nat) : Bool :=
  match P.funcs[f]? with
  | some fn => fn.name != "runtime.NumGoroutine" && fn.body.isSome
  | none => false
/-- A call does this to what is known. -/
def CallOK (P : Program) (f : Nat) (xs : List AV) (H : Heap) (K : AV → Heap → Prop) : Prop :=
  okF P f = true ∧ ∀ (Keep F : Nat → Prop) (w : World) (vs : List Value), HeapOK Keep F w H → VRs F w xs vs →
    Calls P f vs.toArray w fun e w' => ∃ v r H' F', e = .returned v ∧ K r H' ∧ Grow Keep F F' w w' ∧ HeapOK Keep F' w' H' ∧ VR F' w' r v
theorem CallOK.mono {f : Nat} {xs : List AV} {K K' : AV → Heap → Prop} (h : CallOK P f xs H K) (hk : ∀ r H', K r H' → K' r H') : CallOK P f xs H K' :=
  ⟨h.1, fun Keep F w vs hH hv => (h.2 Keep F w vs hH hv).mono fun e w' ⟨v, r, H', F', h1, h2, h3⟩ => ⟨v, r, H', F', h1, hk _ _ h2, h3⟩⟩

def fillEls (sz : Nat) (els : List AV) : List (Nat × AV) → Option (List AV)
  | [] => some els
  | (i, x) :: r => if x.ok = true ∧ x.cells.length = sz ∧ x.cells.all AV.leaf = true ∧ i < els.length then fillEls sz (els.set i x) r else none
def opdNats (ρ : Opd → Option AV) : List (Nat × Opd) → Option (List (Nat × AV))
  | [] => some []
  | (i, x) :: r => (ρ x).bind fun a => (opdNats ρ r).bind fun l => some ((i, a) :: l)
def mksRun (L sz : Nat) (z : Value) (bytes : Nat) (H : Heap) (K : Option AV → Heap → Prop) : AV → AV → Prop
  | .v (.int _ n), .v (.int _ m) => n = m ∧ 0 ≤ n ∧ n * bytes ≤ 140737488355328 ∧ ∀ a, K (some (.ref L a sz 0 n.toNat)) ((L, a, .arr sz (List.replicate n.toNat (AV.ofV z))) :: H)
  | _, _ => False
def callvRun (P : Program) (l : List AV) (H : Heap) (K : Option AV → Heap → Prop) : AV → Prop
  | .fn f caps => CallOK P f (l ++ caps) H fun r H' => K (some r) H'
  | _ => False
def eqnilRun (neg : Bool) (H : Heap) (K : Option AV → Heap → Prop) : AV → Prop
  | .fz _ els => ∀ t : Bool, (t = true → els = []) → K (some (.b (if neg = true then !t else t))) H
  | .ref _ _ _ _ n => ∀ t : Bool, (t = true → n = 0) → K (some (.b (if neg = true then !t else t))) H
  | .v (.slice none _ _) => K (some (.b (!neg))) H
  | _ => False
/-- What an operation does; L: the label of what it makes. -/
def IOp.run (P : Program) (L : Nat) (ρ : Opd → Option AV) (H : Heap) (K : Option AV → Heap → Prop) : IOp → Prop
  | .store n x y => match ρ x, ρ y with
    | some a, some b => storeRun n a b H fun H' => K none H'
    | _, _ => False
  | .alloc z => ∀ a, K (some (.ptr L a (AV.ofV z).cells.length 0 0)) ((L, a, .arr (AV.ofV z).cells.length [AV.ofV z]) :: H)
  | .box x => match ρ x with
    | some y => y.ok = true ∧ y.cells.all AV.leaf = true ∧ ∀ a, K (some (.ptr L a y.cells.length 0 0)) ((L, a, .arr y.cells.length [y]) :: H)
    | none => False
  | .bsl sz z ln parts => match opdNats ρ parts with
    | some l => match fillEls sz (List.replicate ln (AV.ofV z)) l with
      | some els => ∀ a, K (some (.ref L a sz 0 ln)) ((L, a, .arr sz els) :: H)
      | none => False
    | none => False
  | .mks sz z bytes l c => match ρ l, ρ c with
    | some a, some b => mksRun L sz z bytes H K a b
    | _, _ => False
  | .app sz bytes x y => match ρ x, ρ y with
    | some a, some b => match oldOf sz H a, newsOf sz H b with
      | some (olds, H0), some news => (olds.length + news.length) * bytes ≤ 140737488355328 ∧ ∀ a', K (some (.ref L a' sz 0 (olds.length + news.length))) ((L, a', .arr sz (olds ++ news)) :: H0)
      | _, _ => False
    | _, _ => False
  | .call f xs => match opds ρ xs with
    | some l => CallOK P f l H fun r H' => K (some r) H'
    | none => False
  | .callv x xs => match ρ x, opds ρ xs with
    | some a, some l => callvRun P l H K a
    | _, _ => False
  | .eqnil neg x => match ρ x with
    | some a => eqnilRun neg H K a
    | none => False
  | q => match q.val ρ H with
    | some a => K (some a) H
    | none => False

def IOp.isVal : IOp → Bool
  | .store .. | .alloc .. | .box .. | .bsl .. | .mks .. | .app .. | .call .. | .callv .. | .eqnil .. => false
  | _ => true
theorem run_val {q : IOp} (h : q.isVal = true) (L : Nat) (ρ : Opd → Option AV) (K : Option AV → Heap → Prop) : q.run P L ρ H K = match q.val ρ H with | some a => K (some a) H | none => False := by
  cases q <;> first | rfl | simp [IOp.isVal] at h
def leafV (z : Value) : Bool := (AV.ofV z).ok && (AV.ofV z).cells.all AV.leaf
def compNats : List (Nat × Operand) → Option (List (Nat × Opd))
  | [] => some []
  | (i, x) :: r => (compOpd x).bind fun a => (compNats r).bind fun l => some ((i, a) :: l)
def compOp (P : Program) (o : Op) : Option IOp :=
  match o with
  | .store t x y => (sizeP P t).bind fun n => if n = 0 then none else (compOpd x).bind fun a => (compOpd y).bind fun b => some (.store n a b)
  | .binOp .eql t x (.const (.slice none 0 0)) _ => match P.underlying t with
    | some (.slice _) => (compOpd x).bind fun a => some (.eqnil false a)
    | _ => none
  | .binOp .neq t x (.const (.slice none 0 0)) _ => match P.underlying t with
    | some (.slice _) => (compOpd x).bind fun a => some (.eqnil true a)
    | _ => none
  | .alloc t => (P.info? t).bind fun i => i.zero.bind fun z => if leafV z then some (.alloc z) else none
  | .box _ x => (compOpd x).bind fun a => some (.box a)
  | .buildSlice t len parts => match P.underlying t with
    | some (.slice e) => (P.info? e).bind fun i => i.zero.bind fun z => if leafV z && z.cells.size == i.size && decide (0 < i.size) && decide (len * i.size ≤ 2 ^ 24) then (compNats parts.toList).bind fun l => some (.bsl i.size z len l) else none
    | _ => none
  | .makeSlice t l c => match P.underlying t with
    | some (.slice e) => (P.info? e).bind fun i => i.zero.bind fun z => if leafV z && z.cells.size == i.size && decide (0 < i.size) && decide (0 < i.bytes) then (compOpd l).bind fun a => (compOpd c).bind fun b => some (.mks i.size z i.bytes a b) else none
    | _ => none
  | .call ⟨.builtin .append, xs, ts⟩ => match xs.toList, ts.toList with
    | [x, y], [t, u] => match P.underlying t with
      | some (.slice e) => (P.info? e).bind fun i => i.zero.bind fun z => if t == u && z.cells.size == i.size && decide (0 < i.size) && decide (0 < i.bytes) then (compOpd x).bind fun a => (compOpd y).bind fun b => some (.app i.size i.bytes a b) else none
      | _ => none
    | _, _ => none
  | .call ⟨.value (.func f), xs, _⟩ => (compOpds xs.toList).bind fun l => some (.call f l)
  | .call ⟨.value (.tmp t), xs, _⟩ => (compOpds xs.toList).bind fun l => some (.callv (.t t) l)
  | o => (compVal P o).bind fun q => if q.isVal then some q else none
end Go.Proofs.Ytjnencdmejhmjaa.Eng
