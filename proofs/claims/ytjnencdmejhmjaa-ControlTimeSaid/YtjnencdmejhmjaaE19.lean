/- ENGINE, part 19: the words by which what code does is reckoned out. -/
import Derived.Test.YtjnencdmejhmjaaE18
namespace Go.Proofs.Ytjnencdmejhmjaa.Eng
open Go Go.RowKit
set_option linter.unusedSimpArgs false
set_option linter.unusedVariables false
variable {P : Program} {N : Nat}

def ob {α : Type} (o : Option α) (k : α → Prop) : Prop := match o with
  | some a => k a
  | none => False
theorem ob_some {α : Type} (a : α) (k : α → Prop) : ob (some a) k = k a := rfl
theorem ob_bind {α β : Type} (o : Option α) (f : α → Option β) (k : β → Prop) : ob (o.bind f) k = ob o fun a => ob (f a) k := by cases o <;> rfl
theorem run_ob {L : Nat} {ρ : Opd → Option AV} {H : Heap} {K : Option AV → Heap → Prop} {q : IOp} (h : q.isVal = true) : q.run P L ρ H K = ob (q.val ρ H) fun a => K (some a) H := by
  rw [run_val h]; cases q.val ρ H <;> rfl
section
variable (L : Nat) (ρ : Opd → Option AV) (H : Heap) (K : Option AV → Heap → Prop)
theorem r_mov (x : Opd) : IOp.run P L ρ H K (.mov x) = ob (ρ x) fun a => K (some a) H := by
  rw [run_ob rfl]; simp only [IOp.val, ob_bind, ob_some]

theorem r_asg (x : Opd) : IOp.run P L ρ H K (.asg x) = ob (ρ x) fun a => K (some a) H := by
  rw [run_ob rfl]; simp only [IOp.val, ob_bind, ob_some]

theorem r_pick (c x y : Opd) : IOp.run P L ρ H K (.pick c x y) = ob (ρ c) fun t => ob (pickVal ρ x y t) fun r => K (some r) H := by
  rw [run_ob rfl]; simp only [IOp.val, ob_bind, ob_some]

theorem r_bin (o : BinOp) (x y : Opd) : IOp.run P L ρ H K (.bin o x y) = ob (ρ x) fun a => ob (ρ y) fun b => ob (binVal o a b) fun r => K (some r) H := by
  rw [run_ob rfl]; simp only [IOp.val, ob_bind, ob_some]

theorem r_boolq (neg : Bool) (x y : Opd) : IOp.run P L ρ H K (.boolq neg x y) = ob (ρ x) fun a => ob (ρ y) fun b => ob (boolVal neg a b) fun r => K (some r) H := by
  rw [run_ob rfl]; simp only [IOp.val, ob_bind, ob_some]

theorem r_eqs (neg : Bool) (ks : List Bool) (x y : Opd) : IOp.run P L ρ H K (.eqs neg ks x y) = ob (ρ x) fun a => ob (ρ y) fun b => ob (eqCells neg ks a b) fun r => K (some r) H := by
  rw [run_ob rfl]; simp only [IOp.val, ob_bind, ob_some]

theorem r_un (o : UnOp) (x : Opd) : IOp.run P L ρ H K (.un o x) = ob (ρ x) fun a => ob (unVal o a) fun r => K (some r) H := by
  rw [run_ob rfl]; simp only [IOp.val, ob_bind, ob_some]

theorem r_conv (k : IntKind) (x : Opd) : IOp.run P L ρ H K (.conv k x) = ob (ρ x) fun a => ob (convVal k a) fun r => K (some r) H := by
  rw [run_ob rfl]; simp only [IOp.val, ob_bind, ob_some]

theorem r_load (n : Option Nat) (x : Opd) : IOp.run P L ρ H K (.load n x) = ob (ρ x) fun a => ob (loadVal n H a) fun r => K (some r) H := by
  rw [run_ob rfl]; simp only [IOp.val, ob_bind, ob_some]

theorem r_nilck (x : Opd) : IOp.run P L ρ H K (.nilck x) = ob (ρ x) fun a => ob (nilckVal a) fun r => K (some r) H := by
  rw [run_ob rfl]; simp only [IOp.val, ob_bind, ob_some]

theorem r_faddr (o : Nat) (x : Opd) : IOp.run P L ρ H K (.faddr o x) = ob (ρ x) fun a => ob (faddrVal o a) fun r => K (some r) H := by
  rw [run_ob rfl]; simp only [IOp.val, ob_bind, ob_some]

theorem r_fld (n : Option Nat) (o : Nat) (x : Opd) : IOp.run P L ρ H K (.fld n o x) = ob (ρ x) fun a => ob (fldVal n o a) fun r => K (some r) H := by
  rw [run_ob rfl]; simp only [IOp.val, ob_bind, ob_some]

theorem r_iaddr (sz : Nat) (x y : Opd) : IOp.run P L ρ H K (.iaddr sz x y) = ob (ρ x) fun a => ob (ρ y) fun b => ob (iaddrVal sz a b) fun r => K (some r) H := by
  rw [run_ob rfl]; simp only [IOp.val, ob_bind, ob_some]

theorem r_slc (sz : Nat) (x : Opd) (lo hi : Option Opd) : IOp.run P L ρ H K (.slc sz x lo hi) = ob (ρ x) fun a => ob (optOpd ρ lo) fun l => ob (optOpd ρ hi) fun h => ob (sliceVal sz l h a) fun r => K (some r) H := by
  rw [run_ob rfl]; simp only [IOp.val, ob_bind, ob_some]

theorem r_ext (i : Nat) (x : Opd) : IOp.run P L ρ H K (.ext i x) = ob (ρ x) fun a => ob (extVal i a) fun r => K (some r) H := by
  rw [run_ob rfl]; simp only [IOp.val, ob_bind, ob_some]

theorem r_len (x : Opd) : IOp.run P L ρ H K (.len x) = ob (ρ x) fun a => ob (lenVal a) fun r => K (some r) H := by
  rw [run_ob rfl]; simp only [IOp.val, ob_bind, ob_some]

theorem r_minn (x : Opd) (xs : List Opd) : IOp.run P L ρ H K (.minn x xs) = ob (ρ x) fun a => ob (opds ρ xs) fun l => ob (minVal a l) fun r => K (some r) H := by
  rw [run_ob rfl]; simp only [IOp.val, ob_bind, ob_some]

theorem r_maxx (x : Opd) (xs : List Opd) : IOp.run P L ρ H K (.maxx x xs) = ob (ρ x) fun a => ob (opds ρ xs) fun l => ob (maxVal a l) fun r => K (some r) H := by
  rw [run_ob rfl]; simp only [IOp.val, ob_bind, ob_some]

theorem r_mkf (f : Nat) (xs : List Opd) : IOp.run P L ρ H K (.mkf f xs) = ob (opds ρ xs) fun l => K (some (.fn f l)) H := by
  rw [run_ob rfl]; simp only [IOp.val, ob_bind, ob_some]

theorem r_build (z : List Value) (ps : List (Nat × Nat × Opd)) : IOp.run P L ρ H K (.build z ps) = ob (opdParts ρ ps) fun l => ob (fillVal (z.map .v) l) fun r => K (some (.agg r)) H := by
  rw [run_ob rfl]; simp only [IOp.val, ob_bind, ob_some]

theorem r_store (n : Nat) (x y : Opd) : IOp.run P L ρ H K (.store n x y) = ob (ρ x) fun a => ob (ρ y) fun b => storeRun n a b H fun H' => K none H' := by
  simp only [IOp.run]
  cases ρ x with
  | none => rfl
  | some a => cases ρ y <;> rfl

theorem r_alloc (z : Value) : IOp.run P L ρ H K (.alloc z) = ∀ a, K (some (.ptr L a (AV.ofV z).cells.length 0 0)) ((L, a, .arr (AV.ofV z).cells.length [AV.ofV z]) :: H) := by
  simp only [IOp.run]

theorem r_box (x : Opd) : IOp.run P L ρ H K (.box x) = ob (ρ x) fun y => y.ok = true ∧ y.cells.all AV.leaf = true ∧ ∀ a, K (some (.ptr L a y.cells.length 0 0)) ((L, a, .arr y.cells.length [y]) :: H) := by
  simp only [IOp.run]
  cases ρ x <;> rfl

theorem r_bsl (sz : Nat) (z : Value) (ln : Nat) (ps : List (Nat × Opd)) : IOp.run P L ρ H K (.bsl sz z ln ps) = ob (opdNats ρ ps) fun l => ob (fillEls sz (List.replicate ln (AV.ofV z)) l) fun els => ∀ a, K (some (.ref L a sz 0 ln)) ((L, a, .arr sz els) :: H) := by
  simp only [IOp.run]
  cases opdNats ρ ps with
  | none => rfl
  | some l => simp only [ob_some]; cases fillEls sz (List.replicate ln (AV.ofV z)) l <;> rfl

theorem r_mks (sz : Nat) (z : Value) (bytes : Nat) (x y : Opd) : IOp.run P L ρ H K (.mks sz z bytes x y) = ob (ρ x) fun a => ob (ρ y) fun b => mksRun L sz z bytes H K a b := by
  simp only [IOp.run]
  cases ρ x with
  | none => rfl
  | some a => cases ρ y <;> rfl

theorem r_app (sz bytes : Nat) (x y : Opd) : IOp.run P L ρ H K (.app sz bytes x y) = ob (ρ x) fun a => ob (ρ y) fun b => ob (oldOf sz H a) fun o => ob (newsOf sz H b) fun n => (o.1.length + n.length) * bytes ≤ 140737488355328 ∧ ∀ a', K (some (.ref L a' sz 0 (o.1.length + n.length))) ((L, a', .arr sz (o.1 ++ n)) :: o.2) := by
  simp only [IOp.run]
  cases ρ x with
  | none => rfl
  | some a =>
    cases ρ y with
    | none => rfl
    | some b =>
      simp only [ob_some]
      cases oldOf sz H a with
      | none => rfl
      | some o => cases newsOf sz H b <;> rfl

theorem r_call (f : Nat) (xs : List Opd) : IOp.run P L ρ H K (.call f xs) = ob (opds ρ xs) fun l => CallOK P f l H fun r H' => K (some r) H' := by
  simp only [IOp.run]
  cases opds ρ xs <;> rfl

theorem r_callv (x : Opd) (xs : List Opd) : IOp.run P L ρ H K (.callv x xs) = ob (ρ x) fun a => ob (opds ρ xs) fun l => callvRun P l H K a := by
  simp only [IOp.run]
  cases ρ x with
  | none => rfl
  | some a => cases opds ρ xs <;> rfl
end
theorem set_map {α : Type} (f : α → AV) (l : List α) (k : Nat) (x : α) : (l.map f).set k (f x) = (l.set k x).map f := by
  rw [List.map_set]
theorem get_map {α : Type} (f : α → AV) {l : List α} {k : Nat} {x : α} (h : l[k]? = some x) : (l.map f)[k]? = some (f x) := by
  rw [List.getElem?_map, h]; rfl
/-! ### the rules of the walk -/
section
variable {d t t' : Nat} {b c : Bool} {x y z : Opd} {l : List Ins} {E : Env} {H : Heap} {K : Env → Heap → Prop} {q : IOp} {u v r : AV}
theorem s_yes (h : E.get t = some (.b b)) (k : insRun P (⟨some d, q, none⟩ :: l) E H K) : insRun P (⟨some d, q, some (t, b)⟩ :: l) E H K := by
  simp only [insRun, Ins.run, h] at k ⊢
  exact ⟨fun _ => k, fun e => absurd rfl e⟩
theorem s_no (h : E.get t = some (.b c)) (hc : c = !b) (k : insRun P l ((d, .v undef) :: E) H K) : insRun P (⟨some d, q, some (t, b)⟩ :: l) E H K := by
  simp only [insRun, Ins.run, h, Env.put]
  exact ⟨fun e => by injection e with e; rw [e] at hc; cases b <;> simp at hc, fun _ => k⟩
theorem s_und {u : Value} (h : E.get t = some (.v u)) (hu : u = undef) (k : insRun P l ((d, .v undef) :: E) H K) : insRun P (⟨some d, q, some (t, b)⟩ :: l) E H K := by
  subst hu
  simp only [insRun, Ins.run, h, Env.put]
  exact ⟨fun e => by simp [undef] at e, fun _ => k⟩
theorem s_if (h : E.get t = some (.b c)) (h1 : c = b → insRun P (⟨some d, q, none⟩ :: l) E H K) (h2 : c = (!b) → insRun P l ((d, .v undef) :: E) H K) : insRun P (⟨some d, q, some (t, b)⟩ :: l) E H K := by
  simp only [insRun, Ins.run, h, Env.put] at h1 ⊢
  exact ⟨fun e => h1 (by injection e), fun e => h2 (by cases c <;> cases b <;> simp at e ⊢)⟩
theorem s_mov (h : E.opd x = some u) (k : insRun P l ((d, u) :: E) H K) : insRun P (⟨some d, .mov x, none⟩ :: l) E H K := by
  simp only [insRun, Ins.run, r_mov, h, ob_some]; exact k
theorem s_asg (h : E.opd x = some u) (k : insRun P l ((d, u) :: E) H K) : insRun P (⟨some d, .asg x, none⟩ :: l) E H K := by
  simp only [insRun, Ins.run, r_asg, h, ob_some]; exact k
theorem s_pickT (h : E.opd z = some (.b true)) (hx : E.opd x = some u) (k : insRun P l ((d, u) :: E) H K) : insRun P (⟨some d, .pick z x y, none⟩ :: l) E H K := by
  simp only [insRun, Ins.run, r_pick, h, ob_some, pickVal, if_true, hx]; exact k
theorem s_pickF (h : E.opd z = some (.b false)) (hx : E.opd y = some u) (k : insRun P l ((d, u) :: E) H K) : insRun P (⟨some d, .pick z x y, none⟩ :: l) E H K := by
  simp only [insRun, Ins.run, r_pick, h, ob_some, pickVal, Bool.false_eq_true, if_false, hx]; exact k
theorem s_pick' (h : E.opd z = some (.b c)) (hc : c = b) (hx : E.opd (if b = true then x else y) = some u) (k : insRun P l ((d, u) :: E) H K) : insRun P (⟨some d, .pick z x y, none⟩ :: l) E H K := by
  subst hc
  cases c
  · exact s_pickF h (by simpa using hx) k
  · exact s_pickT h (by simpa using hx) k
theorem s_bin {o : BinOp} (hx : E.opd x = some u) (hy : E.opd y = some v) (hr : binVal o u v = some r) (k : insRun P l ((d, r) :: E) H K) : insRun P (⟨some d, .bin o x y, none⟩ :: l) E H K := by
  simp only [insRun, Ins.run, r_bin, hx, hy, hr, ob_some]; exact k
theorem s_add {m n : Int} (hx : E.opd x = some (.i m)) (hy : E.opd y = some (.i n)) (hb : -9223372036854775808 ≤ m + n ∧ m + n ≤ 9223372036854775807) (k : insRun P l ((d, .i (m + n)) :: E) H K) : insRun P (⟨some d, .bin .add x y, none⟩ :: l) E H K :=
  s_bin hx hy (by simp only [binVal, intBin, if_true, IntWalk.i64_in _ hb]) k
theorem s_sub {m n : Int} (hx : E.opd x = some (.i m)) (hy : E.opd y = some (.i n)) (hb : -9223372036854775808 ≤ m - n ∧ m - n ≤ 9223372036854775807) (k : insRun P l ((d, .i (m - n)) :: E) H K) : insRun P (⟨some d, .bin .sub x y, none⟩ :: l) E H K :=
  s_bin hx hy (by simp only [binVal, intBin, if_true, IntWalk.i64_in _ hb]) k
theorem s_mul {m n : Int} (hx : E.opd x = some (.i m)) (hy : E.opd y = some (.i n)) (hb : -9223372036854775808 ≤ m * n ∧ m * n ≤ 9223372036854775807) (k : insRun P l ((d, .i (m * n)) :: E) H K) : insRun P (⟨some d, .bin .mul x y, none⟩ :: l) E H K :=
  s_bin hx hy (by simp only [binVal, intBin, if_true, IntWalk.i64_in _ hb]) k
theorem s_quo {m n : Int} (hx : E.opd x = some (.i m)) (hy : E.opd y = some (.i n)) (hm : 0 ≤ m ∧ m ≤ 9223372036854775807) (hn : 0 < n) (k : insRun P l ((d, .i (m / n)) :: E) H K) : insRun P (⟨some d, .bin .quo x y, none⟩ :: l) E H K := by
  refine s_bin hx hy (r := .i (m / n)) ?_ k
  have h1 : m / n ≤ m := Int.ediv_le_self _ hm.1
  have h2 : 0 ≤ m / n := Int.ediv_nonneg hm.1 (by omega)
  have h3 : m.tdiv n = m / n := Int.tdiv_eq_ediv_of_nonneg hm.1
  simp only [binVal, intBin, if_true, if_neg (show ¬ n = 0 by omega), h3, IntWalk.i64_in (m / n) (by omega)]
theorem s_rem {m n : Int} (hx : E.opd x = some (.i m)) (hy : E.opd y = some (.i n)) (hm : 0 ≤ m) (hn : 0 < n) (k : insRun P l ((d, .i (m % n)) :: E) H K) : insRun P (⟨some d, .bin .rem x y, none⟩ :: l) E H K := by
  refine s_bin hx hy (r := .i (m % n)) ?_ k
  simp only [binVal, intBin, if_true, if_neg (show ¬ n = 0 by omega), Int.tmod_eq_emod_of_nonneg hm]
theorem s_boolq (hx : E.opd x = some u) (hy : E.opd y = some v) (hr : boolVal c u v = some r) (k : insRun P l ((d, r) :: E) H K) : insRun P (⟨some d, .boolq c x y, none⟩ :: l) E H K := by
  simp only [insRun, Ins.run, r_boolq, hx, hy, hr, ob_some]; exact k
theorem s_eqs {ks : List Bool} (hx : E.opd x = some u) (hy : E.opd y = some v) (hr : eqCells c ks u v = some r) (k : insRun P l ((d, r) :: E) H K) : insRun P (⟨some d, .eqs c ks x y, none⟩ :: l) E H K := by
  simp only [insRun, Ins.run, r_eqs, hx, hy, hr, ob_some]; exact k
theorem s_un {o : UnOp} (hx : E.opd x = some u) (hr : unVal o u = some r) (k : insRun P l ((d, r) :: E) H K) : insRun P (⟨some d, .un o x, none⟩ :: l) E H K := by
  simp only [insRun, Ins.run, r_un, hx, hr, ob_some]; exact k
theorem s_conv {m : IntKind} (hx : E.opd x = some u) (hr : convVal m u = some r) (k : insRun P l ((d, r) :: E) H K) : insRun P (⟨some d, .conv m x, none⟩ :: l) E H K := by
  simp only [insRun, Ins.run, r_conv, hx, hr, ob_some]; exact k
theorem s_load {n : Option Nat} (hx : E.opd x = some u) (hr : loadVal n H u = some r) (k : insRun P l ((d, r) :: E) H K) : insRun P (⟨some d, .load n x, none⟩ :: l) E H K := by
  simp only [insRun, Ins.run, r_load, hx, hr, ob_some]; exact k
theorem s_load_fagg {n : Nat} {cs : List AV} (hx : E.opd x = some (.fptr cs)) (hn : cs.length = n) (k : insRun P l ((d, .agg cs) :: E) H K) : insRun P (⟨some d, .load (some n) x, none⟩ :: l) E H K :=
  s_load hx (by subst hn; simp [loadVal, cutCells]) k
theorem s_load_pagg {n h sz i : Nat} {a : Loc} {els cs : List AV} (hx : E.opd x = some (.ptr h a sz i 0)) (hH : H.get h = some (a, .arr sz els)) (he : els[i]? = some (.agg cs)) (hn : cs.length = n) (k : insRun P l ((d, .agg cs) :: E) H K) : insRun P (⟨some d, .load (some n) x, none⟩ :: l) E H K :=
  s_load hx (by subst hn; simp [loadVal, hH, he, cutCells, AV.cells_agg]) k
theorem s_load_p {h sz i f : Nat} {a : Loc} {els : List AV} {e : AV} (hx : E.opd x = some (.ptr h a sz i f)) (hH : H.get h = some (a, .arr sz els)) (he : els[i]? = some e) (hn : e.cells[f]? = some r) (k : insRun P l ((d, r) :: E) H K) : insRun P (⟨some d, .load none x, none⟩ :: l) E H K :=
  s_load hx (by simp [loadVal, hH, he, cutCells, hn]) k
theorem s_nilck (hx : E.opd x = some u) (hr : nilckVal u = some r) (k : insRun P l ((d, r) :: E) H K) : insRun P (⟨some d, .nilck x, none⟩ :: l) E H K := by
  simp only [insRun, Ins.run, r_nilck, hx, hr, ob_some]; exact k
theorem s_faddr {o : Nat} (hx : E.opd x = some u) (hr : faddrVal o u = some r) (k : insRun P l ((d, r) :: E) H K) : insRun P (⟨some d, .faddr o x, none⟩ :: l) E H K := by
  simp only [insRun, Ins.run, r_faddr, hx, hr, ob_some]; exact k
theorem s_fld {n : Option Nat} {o : Nat} (hx : E.opd x = some u) (hr : fldVal n o u = some r) (k : insRun P l ((d, r) :: E) H K) : insRun P (⟨some d, .fld n o x, none⟩ :: l) E H K := by
  simp only [insRun, Ins.run, r_fld, hx, hr, ob_some]; exact k
theorem s_iaddr_fz {sz : Nat} {xs : List AV} {j : Int} {e : AV} (hx : E.opd x = some (.fz sz xs)) (hy : E.opd y = some (.i j)) (h0 : 0 ≤ j) (he : xs[j.toNat]? = some e) (k : insRun P l ((d, .fptr e.cells) :: E) H K) : insRun P (⟨some d, .iaddr sz x y, none⟩ :: l) E H K := by
  simp only [insRun, Ins.run, r_iaddr, hx, hy, ob_some, iaddrVal, h0, true_and, and_self, if_true, he]; exact k
theorem s_iaddr_ref {sz h off n : Nat} {a : Loc} {j : Int} (hx : E.opd x = some (.ref h a sz off n)) (hy : E.opd y = some (.i j)) (h0 : 0 ≤ j) (hj : j < n) (k : insRun P l ((d, .ptr h a sz (off + j.toNat) 0) :: E) H K) : insRun P (⟨some d, .iaddr sz x y, none⟩ :: l) E H K := by
  simp only [insRun, Ins.run, r_iaddr, hx, hy, ob_some, iaddrVal, h0, hj, and_self, if_true]; exact k
theorem s_iaddr_ref0 {sz h n : Nat} {a : Loc} {m : Nat} (hx : E.opd x = some (.ref h a sz 0 n)) (hy : E.opd y = some (.i (m : Nat))) (hj : m < n) (k : insRun P l ((d, .ptr h a sz m 0) :: E) H K) : insRun P (⟨some d, .iaddr sz x y, none⟩ :: l) E H K :=
  s_iaddr_ref hx hy (by omega) (by omega) (by simpa using k)
theorem s_iaddr_refi {sz h n : Nat} {a : Loc} {j : Int} (hx : E.opd x = some (.ref h a sz 0 n)) (hy : E.opd y = some (.i j)) (h0 : 0 ≤ j ∧ j < n) (k : insRun P l ((d, .ptr h a sz j.toNat 0) :: E) H K) : insRun P (⟨some d, .iaddr sz x y, none⟩ :: l) E H K :=
  s_iaddr_ref hx hy h0.1 h0.2 (by simpa using k)
theorem s_iaddr_fzn {sz : Nat} {xs : List AV} {m : Nat} {e : AV} (hx : E.opd x = some (.fz sz xs)) (hy : E.opd y = some (.i (m : Nat))) (he : xs[m]? = some e) (k : insRun P l ((d, .fptr e.cells) :: E) H K) : insRun P (⟨some d, .iaddr sz x y, none⟩ :: l) E H K :=
  s_iaddr_fz hx hy (by omega) (by simpa using he) k
theorem s_slc {sz : Nat} {lo hi : Option Opd} {vl vh : Option AV} (hx : E.opd x = some u) (hl : optOpd E.opd lo = some vl) (hh : optOpd E.opd hi = some vh) (hr : sliceVal sz vl vh u = some r) (k : insRun P l ((d, r) :: E) H K) : insRun P (⟨some d, .slc sz x lo hi, none⟩ :: l) E H K := by
  simp only [insRun, Ins.run, r_slc, hx, hl, hh, hr, ob_some]; exact k
theorem s_ext {i : Nat} {vs : List AV} (hx : E.opd x = some (.tup vs)) (hr : vs[i]? = some r) (k : insRun P l ((d, r) :: E) H K) : insRun P (⟨some d, .ext i x, none⟩ :: l) E H K := by
  simp only [insRun, Ins.run, r_ext, hx, extVal, hr, ob_some]; exact k
theorem s_len (hx : E.opd x = some u) (hr : lenVal u = some r) (k : insRun P l ((d, r) :: E) H K) : insRun P (⟨some d, .len x, none⟩ :: l) E H K := by
  simp only [insRun, Ins.run, r_len, hx, hr, ob_some]; exact k
theorem s_minn {xs : List Opd} {vs : List AV} (hx : E.opd x = some u) (hl : opds E.opd xs = some vs) (hr : minVal u vs = some r) (k : insRun P l ((d, r) :: E) H K) : insRun P (⟨some d, .minn x xs, none⟩ :: l) E H K := by
  simp only [insRun, Ins.run, r_minn, hx, hl, hr, ob_some]; exact k
theorem s_maxx {xs : List Opd} {vs : List AV} (hx : E.opd x = some u) (hl : opds E.opd xs = some vs) (hr : maxVal u vs = some r) (k : insRun P l ((d, r) :: E) H K) : insRun P (⟨some d, .maxx x xs, none⟩ :: l) E H K := by
  simp only [insRun, Ins.run, r_maxx, hx, hl, hr, ob_some]; exact k
theorem s_build {zs : List Value} {ps : List (Nat × Nat × Opd)} {qs : List (Nat × Nat × AV)} {cs : List AV} (hp : opdParts E.opd ps = some qs) (hr : fillVal (zs.map .v) qs = some cs) (k : insRun P l ((d, .agg cs) :: E) H K) : insRun P (⟨some d, .build zs ps, none⟩ :: l) E H K := by
  simp only [insRun, Ins.run, r_build, hp, hr, ob_some]; exact k
theorem s_mkf {f : Nat} {xs : List Opd} {vs : List AV} (hl : opds E.opd xs = some vs) (k : insRun P l ((d, .fn f vs) :: E) H K) : insRun P (⟨some d, .mkf f xs, none⟩ :: l) E H K := by
  simp only [insRun, Ins.run, r_mkf, hl, ob_some]; exact k
theorem s_store {n h sz i f : Nat} {a : Loc} {els : List AV} {e : AV} (hx : E.opd x = some (.ptr h a sz i f)) (hy : E.opd y = some v) (hH : H.get h = some (a, .arr sz els)) (he : els[i]? = some e) (hok : v.ok = true) (hn : v.cells.length = n) (hf : f + n ≤ e.cells.length) (hl : v.cells.all AV.leaf = true) (k : insRun P l E (H.set h (.arr sz (els.set i (putCells e f n v)))) K) : insRun P (⟨none, .store n x y, none⟩ :: l) E H K := by
  simp only [insRun, Ins.run, r_store, hx, hy, ob_some, storeRun, hH, he]
  exact ⟨⟨trivial, trivial⟩, hok, hn, hf, hl, k⟩
/-- a store of one cell into a row of numbers or the like -/
theorem s_set {α : Type} {g : α → AV} {xs : List α} {z : α} {h i : Nat} {a : Loc} (hx : E.opd x = some (.ptr h a 1 i 0)) (hy : E.opd y = some (g z)) (hH : H.get h = some (a, .arr 1 (xs.map g))) (hi : i < xs.length) (hg : ∀ z, (g z).leaf = true) (k : insRun P l E (H.set h (.arr 1 ((xs.set i z).map g))) K) : insRun P (⟨none, .store 1 x y, none⟩ :: l) E H K := by
  have hc : ∀ z, (g z).cells = [g z] := fun z => by
    have := hg z
    cases e : g z <;> rw [e] at this <;> first | rfl | (simp [AV.leaf] at this; done) | (rename_i v; cases v <;> first | rfl | simp [AV.leaf] at this)
  have hok : (g z).ok = true := by
    have := hg z
    cases e : g z <;> rw [e] at this <;> first | rfl | exact this
  refine s_store (e := g xs[i]) hx hy hH (by simp [hi]) hok (by rw [hc]; rfl) (by rw [hc]; simp) (by rw [hc]; simp [hg]) ?_
  have hp : putCells (g xs[i]) 0 1 (g z) = g z := by simp [putCells, hc]
  rw [hp, set_map]; exact k
theorem s_seti {xs : List Int} {z : Int} {h i : Nat} {a : Loc} (hx : E.opd x = some (.ptr h a 1 i 0)) (hy : E.opd y = some (.i z)) (hH : H.get h = some (a, .arr 1 (xs.map .i))) (hi : i < xs.length) (k : insRun P l E (H.set h (.arr 1 ((xs.set i z).map .i))) K) : insRun P (⟨none, .store 1 x y, none⟩ :: l) E H K :=
  s_set (g := AV.i) hx hy hH hi (fun _ => rfl) k
theorem s_setb {xs : List Bool} {z : Bool} {h i : Nat} {a : Loc} (hx : E.opd x = some (.ptr h a 1 i 0)) (hy : E.opd y = some (.b z)) (hH : H.get h = some (a, .arr 1 (xs.map .b))) (hi : i < xs.length) (k : insRun P l E (H.set h (.arr 1 ((xs.set i z).map .b))) K) : insRun P (⟨none, .store 1 x y, none⟩ :: l) E H K :=
  s_set (g := AV.b) hx hy hH hi (fun _ => rfl) k
theorem s_ldi {xs : List Int} {z : Int} {h i : Nat} {a : Loc} (hx : E.opd x = some (.ptr h a 1 i 0)) (hH : H.get h = some (a, .arr 1 (xs.map .i))) (hi : xs[i]? = some z) (k : insRun P l ((d, .i z) :: E) H K) : insRun P (⟨some d, .load none x, none⟩ :: l) E H K :=
  s_load_p hx hH (get_map _ hi) rfl k
theorem s_ldb {xs : List Bool} {z : Bool} {h i : Nat} {a : Loc} (hx : E.opd x = some (.ptr h a 1 i 0)) (hH : H.get h = some (a, .arr 1 (xs.map .b))) (hi : xs[i]? = some z) (k : insRun P l ((d, .b z) :: E) H K) : insRun P (⟨some d, .load none x, none⟩ :: l) E H K :=
  s_load_p hx hH (get_map _ hi) rfl k
theorem s_alloc {zv : Value} (k : ∀ a, insRun P l ((d, .ptr d a (AV.ofV zv).cells.length 0 0) :: E) ((d, a, .arr (AV.ofV zv).cells.length [AV.ofV zv]) :: H) K) : insRun P (⟨some d, .alloc zv, none⟩ :: l) E H K := by
  simp only [insRun, Ins.run, r_alloc]; exact k
theorem s_box {n : Nat} (hx : E.opd x = some u) (hok : u.ok = true) (hl : u.cells.all AV.leaf = true) (hn : u.cells.length = n) (k : ∀ a, insRun P l ((d, .ptr d a n 0 0) :: E) ((d, a, .arr n [u]) :: H) K) : insRun P (⟨some d, .box x, none⟩ :: l) E H K := by
  subst hn
  simp only [insRun, Ins.run, r_box, hx, ob_some]; exact ⟨hok, hl, k⟩
theorem s_bsl {sz ln : Nat} {zv : Value} {ps : List (Nat × Opd)} {qs : List (Nat × AV)} {els : List AV} (hp : opdNats E.opd ps = some qs) (hr : fillEls sz (List.replicate ln (AV.ofV zv)) qs = some els) (k : ∀ a, insRun P l ((d, .ref d a sz 0 ln) :: E) ((d, a, .arr sz els) :: H) K) : insRun P (⟨some d, .bsl sz zv ln ps, none⟩ :: l) E H K := by
  simp only [insRun, Ins.run, r_bsl, hp, hr, ob_some]; exact k
theorem s_mks {sz bytes m : Nat} {zv : Value} (hx : E.opd x = some (.i (m : Nat))) (hy : E.opd y = some (.i (m : Nat))) (hb : m * bytes ≤ 140737488355328) (k : ∀ a, insRun P l ((d, .ref d a sz 0 m) :: E) ((d, a, .arr sz (List.replicate m (AV.ofV zv))) :: H) K) : insRun P (⟨some d, .mks sz zv bytes x y, none⟩ :: l) E H K := by
  simp only [insRun, Ins.run, r_mks, hx, hy, ob_some]
  exact ⟨rfl, Int.natCast_nonneg m, by have h2 : ((m * bytes : Nat) : Int) ≤ ((140737488355328 : Nat) : Int) := Int.ofNat_le.2 hb
                                       rw [Int.natCast_mul] at h2; exact h2, k⟩
theorem s_mksi {sz bytes : Nat} {m : Int} {zv : Value} (hx : E.opd x = some (.i m)) (hy : E.opd y = some (.i m)) (h0 : 0 ≤ m) (hb : m * bytes ≤ 140737488355328) (k : ∀ a, insRun P l ((d, .ref d a sz 0 m.toNat) :: E) ((d, a, .arr sz (List.replicate m.toNat (AV.ofV zv))) :: H) K) : insRun P (⟨some d, .mks sz zv bytes x y, none⟩ :: l) E H K := by
  simp only [insRun, Ins.run, r_mks, hx, hy, ob_some]
  exact ⟨rfl, h0, hb, k⟩
theorem s_app {sz bytes m n : Nat} {olds news : List AV} {H0 : Heap} (hx : E.opd x = some u) (hy : E.opd y = some v) (ho : oldOf sz H u = some (olds, H0)) (hn : newsOf sz H v = some news) (hl : olds.length = m) (hl2 : news.length = n) (hb : (m + n) * bytes ≤ 140737488355328) (k : ∀ a, insRun P l ((d, .ref d a sz 0 (m + n)) :: E) ((d, a, .arr sz (olds ++ news)) :: H0) K) : insRun P (⟨some d, .app sz bytes x y, none⟩ :: l) E H K := by
  subst hl; subst hl2
  simp only [insRun, Ins.run, r_app, hx, hy, ho, hn, ob_some]
  exact ⟨hb, k⟩
theorem s_app_fz {sz bytes m h : Nat} {a : Loc} {els news : List AV} (hx : E.opd x = some (.ref h a sz 0 m)) (hy : E.opd y = some (.fz sz news)) (hH : H.get h = some (a, .arr sz els)) (hl : els.length = m) (hb : (m + news.length) * bytes ≤ 140737488355328) (k : ∀ a', insRun P l ((d, .ref d a' sz 0 (m + news.length)) :: E) ((d, a', .arr sz (els ++ news)) :: H.del h) K) : insRun P (⟨some d, .app sz bytes x y, none⟩ :: l) E H K := by
  subst hl
  exact s_app hx hy (by simp [oldOf, hH]) (by simp [newsOf]) rfl rfl hb k
theorem s_app_ref {sz bytes m n h h2 : Nat} {a a2 : Loc} {els news : List AV} (hx : E.opd x = some (.ref h a sz 0 m)) (hy : E.opd y = some (.ref h2 a2 sz 0 n)) (hH : H.get h = some (a, .arr sz els)) (hH2 : H.get h2 = some (a2, .arr sz news)) (hl : els.length = m) (hl2 : news.length = n) (hb : (m + n) * bytes ≤ 140737488355328) (k : ∀ a', insRun P l ((d, .ref d a' sz 0 (m + n)) :: E) ((d, a', .arr sz (els ++ news)) :: H.del h) K) : insRun P (⟨some d, .app sz bytes x y, none⟩ :: l) E H K := by
  subst hl; subst hl2
  exact s_app hx hy (by simp [oldOf, hH]) (by simp [newsOf, hH2]) rfl rfl hb k
theorem s_app_nref {sz bytes n h2 : Nat} {a2 : Loc} {news : List AV} (hx : E.opd x = some (.v (.slice none 0 0))) (hy : E.opd y = some (.ref h2 a2 sz 0 n)) (hH2 : H.get h2 = some (a2, .arr sz news)) (hl2 : news.length = n) (hb : n * bytes ≤ 140737488355328) (k : ∀ a', insRun P l ((d, .ref d a' sz 0 n) :: E) ((d, a', .arr sz news) :: H) K) : insRun P (⟨some d, .app sz bytes x y, none⟩ :: l) E H K := by
  subst hl2
  exact s_app (m := 0) (n := news.length) (olds := []) (H0 := H) hx hy (by simp [oldOf]) (by simp [newsOf, hH2]) rfl rfl (by simpa using hb) (by simpa using k)
theorem s_call {f : Nat} {xs : List Opd} {vs : List AV} (hl : opds E.opd xs = some vs) (k : CallOK P f vs H fun r H' => insRun P l ((d, r) :: E) H' K) : insRun P (⟨some d, .call f xs, none⟩ :: l) E H K := by
  simp only [insRun, Ins.run, r_call, hl, ob_some]; exact k
theorem s_eqnil_fz {sz : Nat} {els : List AV} (hx : E.opd x = some (.fz sz els)) (k : ∀ t : Bool, (t = true → els = []) → insRun P l ((d, .b (if c = true then !t else t)) :: E) H K) : insRun P (⟨some d, .eqnil c x, none⟩ :: l) E H K := by
  simp only [insRun, Ins.run, IOp.run, hx]; exact k
theorem s_eqnil_ref {h sz off n : Nat} {a : Loc} (hx : E.opd x = some (.ref h a sz off n)) (k : ∀ t : Bool, (t = true → n = 0) → insRun P l ((d, .b (if c = true then !t else t)) :: E) H K) : insRun P (⟨some d, .eqnil c x, none⟩ :: l) E H K := by
  simp only [insRun, Ins.run, IOp.run, hx]; exact k
theorem s_callv {f : Nat} {xs : List Opd} {vs caps : List AV} (hx : E.opd x = some (.fn f caps)) (hl : opds E.opd xs = some vs) (k : CallOK P f (vs ++ caps) H fun r H' => insRun P l ((d, r) :: E) H' K) : insRun P (⟨some d, .callv x xs, none⟩ :: l) E H K := by
  simp only [insRun, Ins.run, r_callv, hx, hl, ob_some, callvRun]; exact k
end
/-! ### regions that draw their order: each operation by the rules above -/
section
variable {l : List Ins} {p alt : Plan} {E : Env} {H : Heap} {K : Env → Heap → Prop} {i : Nat} {x : Ins} {js : List Nat}
theorem s_done (k : K E H) : insRun P [] E H K := k
theorem p_done (k : K E H) : planRun P l .done E H K := k
theorem p_none : planRun P l .none E H K := trivial
theorem p_still (hi : l[i]? = some x) (k : insRun P [x] E H fun E' H' => planRun P l p E' H' K) : planRun P l (.still i p) E H K := by
  simp only [planRun, hi]; exact k
theorem p_eff (hi : l[i]? = some x) (k : insRun P [x] E H fun E' H' => holdsAll l E' H' js ∧ planRun P l p E' H' K) (ka : planRun P l alt E H K) : planRun P l (.eff i js p alt) E H K := by
  simp only [planRun, hi]; exact ⟨k, ka⟩
theorem p_eff1 (hi : l[i]? = some x) (k : insRun P [x] E H fun E' H' => holdsAll l E' H' js ∧ planRun P l p E' H' K) : planRun P l (.eff i js p .none) E H K := p_eff hi k p_none
theorem h_nil : holdsAll l E H [] := trivial
theorem h_cons {j d : Nat} {q : IOp} {v : AV} (hj : l[j]? = some ⟨some d, q, none⟩) (hd : E.get d = some v) (hv : q.val E.opd H = some v) (k : holdsAll l E H js) : holdsAll l E H (j :: js) := by
  simp only [holdsAll, hj]; exact ⟨⟨v, hd, hv⟩, k⟩
end
theorem h_ld {l : List Ins} {E : Env} {H : Heap} {js : List Nat} {j d h sz i f : Nat} {a : Loc} {els : List AV} {e v : AV} {x : Opd} (hj : l[j]? = some ⟨some d, .load none x, none⟩) (hd : E.get d = some v) (hx : E.opd x = some (.ptr h a sz i f)) (hH : H.get h = some (a, .arr sz els)) (he : els[i]? = some e) (hn : e.cells[f]? = some v) (k : holdsAll l E H js) : holdsAll l E H (j :: js) :=
  h_cons hj hd (by simp [IOp.val, hx, loadVal, hH, he, cutCells, hn]) k
theorem h_ldagg {l : List Ins} {E : Env} {H : Heap} {js : List Nat} {j d h sz i n : Nat} {a : Loc} {els cs : List AV} {x : Opd} (hj : l[j]? = some ⟨some d, .load (some n) x, none⟩) (hd : E.get d = some (.agg cs)) (hx : E.opd x = some (.ptr h a sz i 0)) (hH : H.get h = some (a, .arr sz els)) (he : els[i]? = some (.agg cs)) (hn : cs.length = n) (k : holdsAll l E H js) : holdsAll l E H (j :: js) :=
  h_cons hj hd (by subst hn; simp [IOp.val, hx, loadVal, hH, he, cutCells, AV.cells_agg]) k
/-! ### loops over a state -/
def EnvSub : Env → Env → Prop
  | [], _ => True
  | (t, x) :: E', E => E.get t = some x ∧ EnvSub E' E
theorem EnvSub.get {E' E : Env} (h : EnvSub E' E) : ∀ t x, E'.get t = some x → E.get t = some x := by
  induction E' with
  | nil => intro t x hx; simp [Env.get] at hx
  | cons p E' ih =>
    obtain ⟨s, y⟩ := p
    intro t x hx
    simp only [Env.get] at hx
    split at hx
    · rename_i e; subst e; injection hx with hx; subst hx; exact h.1
    · exact ih h.2 t x hx
theorem Weak.of {E E' : Env} {H : Heap} (h : EnvSub E' E) : Weak N E H E' H := Weak.env h.get
theorem Weak.ofH {E E' : Env} {H H' : Heap} (h : EnvSub E' E) (hH : List.Sublist H' H) : Weak N E H E' H' := (Weak.of h).trans (Weak.sub hH)
theorem AWP.loopS {σ : Type} {c : IR} (Es : σ → Env) (Hs : σ → Heap) (Inv : σ → Prop) (μ : σ → Nat) (s0 : σ) {E : Env} {H : Heap} {Q : Exit → Env → Heap → Prop} (hw : Weak N E H (Es s0) (Hs s0)) (h0 : Inv s0)
    (round : ∀ s, Inv s → ∀ K : Env → Heap → Prop, (∀ s' E' H', μ s' < μ s → Inv s' → Weak N E' H' (Es s') (Hs s') → K E' H') → AWP P N c (Es s) (Hs s) (then_ K Q)) : AWP P N (.loop c) E H Q := by
  refine AWP.weak hw ?_
  intro code hc Keep F a w hS
  cases code with
  | loop c' =>
    simp only [comp, Option.bind_eq_some_iff] at hc
    obtain ⟨c2, hc2, hc⟩ := hc
    injection hc with hc; injection hc with e1; subst e1
    refine wp_loop_ghost (fun n a' w' => ∃ s F', μ s = n ∧ Inv s ∧ Grow Keep F F' w w' ∧ St N Keep F' (Es s) (Hs s) a' w') (μ s0) ⟨s0, F, rfl, h0, Grow.refl _ _ _, hS⟩ ?_
    rintro n a' w' ⟨s, F', rfl, h1, h2, h3⟩
    refine wp_mono (round s h1 (fun E2 H2 => ∃ s', μ s' < μ s ∧ Inv s' ∧ Weak N E2 H2 (Es s') (Hs s')) (fun s' E2 H2 hm hI hw => ⟨s', hm, hI, hw⟩) c' hc2 Keep F' a' w' h3) ?_
    rintro e a2 w2 ⟨E2, H2, F2, q1, q2, q3⟩
    cases e with
    | normal =>
      obtain ⟨s', hm, hI, hw⟩ := q1
      obtain ⟨F3, g3, S3⟩ := hw Keep F2 a2 w2 q3
      exact ⟨μ s', hm, s', F3, rfl, hI, (h2.trans q2).trans g3, S3⟩
    | _ => exact ⟨E2, H2, F2, q1, h2.trans q2, q3⟩
  | region id ops d =>
    cases d
    · simp [comp, Option.bind_eq_some_iff] at hc
    · simp only [comp, Option.bind_eq_some_iff] at hc
      obtain ⟨_, _, hc⟩ := hc
      split at hc <;> simp at hc
  | _ => simp [comp, Option.bind_eq_some_iff] at hc
theorem AWP.condT {x : Opd} {c d : IR} {E : Env} {H : Heap} {Q : Exit → Env → Heap → Prop} (hx : E.opd x = some (.b true)) (h1 : AWP P N c E H Q) : AWP P N (.cond x c d) E H Q := AWP.cond hx (fun _ => h1) (fun e => by simp at e)
theorem AWP.condF {x : Opd} {c d : IR} {E : Env} {H : Heap} {Q : Exit → Env → Heap → Prop} (hx : E.opd x = some (.b false)) (h1 : AWP P N d E H Q) : AWP P N (.cond x c d) E H Q := AWP.cond hx (fun e => by simp at e) (fun _ => h1)
theorem AWP.condDT {x : Opd} {t : Bool} {c d : IR} {E : Env} {H : Heap} {Q : Exit → Env → Heap → Prop} (hx : E.opd x = some (.b t)) (ht : t = true) (h1 : AWP P N c E H Q) : AWP P N (.cond x c d) E H Q := AWP.condT (by rw [hx, ht]) h1
theorem AWP.condDF {x : Opd} {t : Bool} {c d : IR} {E : Env} {H : Heap} {Q : Exit → Env → Heap → Prop} (hx : E.opd x = some (.b t)) (ht : t = false) (h1 : AWP P N d E H Q) : AWP P N (.cond x c d) E H Q := AWP.condF (by rw [hx, ht]) h1
theorem s_ifT {d t : Nat} {b c : Bool} {q : IOp} {l : List Ins} {E : Env} {H : Heap} {K : Env → Heap → Prop} (h : E.get t = some (.b c)) (hc : c = b) (k : insRun P (⟨some d, q, none⟩ :: l) E H K) : insRun P (⟨some d, q, some (t, b)⟩ :: l) E H K := s_yes (by rw [h, hc]) k
theorem AWP.seq' {x y : IR} {E : Env} {H : Heap} {Q : Exit → Env → Heap → Prop} (h : AWP P N x E H (then_ (fun E' H' => AWP P N y E' H' Q) Q)) : AWP P N (.seq x y) E H Q := AWP.seq fun K hK => h.mono fun e E H hq => by cases e <;> first | exact hK _ _ hq | exact hq
theorem exit_in {id : Nat} {Q : Exit → Env → Heap → Prop} {E : Env} {H : Heap} (h : Q .normal E H) : inBlock_ id Q (.exit id) E H := by simp only [inBlock_, if_true]; exact h
theorem exit_out {id i : Nat} {Q : Exit → Env → Heap → Prop} {E : Env} {H : Heap} (hn : (i == id) = false) (h : Q (.exit i) E H) : inBlock_ id Q (.exit i) E H := by
  simp only [inBlock_]; rw [if_neg (by simpa using hn)]; exact h
theorem block_norm {id : Nat} {Q : Exit → Env → Heap → Prop} {E : Env} {H : Heap} (h : Q .normal E H) : inBlock_ id Q .normal E H := h
theorem block_ret {id : Nat} {Q : Exit → Env → Heap → Prop} {E : Env} {H : Heap} (h : Q .ret E H) : inBlock_ id Q .ret E H := h
theorem then_ret {K : Env → Heap → Prop} {Q : Exit → Env → Heap → Prop} {E : Env} {H : Heap} (h : Q .ret E H) : then_ K Q .ret E H := h
theorem then_exit {i : Nat} {K : Env → Heap → Prop} {Q : Exit → Env → Heap → Prop} {E : Env} {H : Heap} (h : Q (.exit i) E H) : then_ K Q (.exit i) E H := h
theorem then_norm {K : Env → Heap → Prop} {Q : Exit → Env → Heap → Prop} {E : Env} {H : Heap} (h : K E H) : then_ K Q .normal E H := h
theorem rv_cell {n h sz i t : Nat} {a : Loc} {els cs : List AV} {E : Env} {H : Heap} {r : List RV} {l : List AV} (hx : E.get t = some (.ptr h a sz i 0)) (hH : H.get h = some (a, .arr sz els)) (he : els[i]? = some (.agg cs)) (hn : cs.length = n) (hr : retVals E H r = some l) : retVals E H (.cell (some n) t :: r) = some (.agg cs :: l) := by
  subst hn
  simp [retVals, hx, loadVal, hH, he, cutCells, AV.cells_agg, hr]
theorem rv_cell1 {h sz i f t : Nat} {a : Loc} {els : List AV} {e x : AV} {E : Env} {H : Heap} {r : List RV} {l : List AV} (hx : E.get t = some (.ptr h a sz i f)) (hH : H.get h = some (a, .arr sz els)) (he : els[i]? = some e) (hn : e.cells[f]? = some x) (hr : retVals E H r = some l) : retVals E H (.cell none t :: r) = some (x :: l) := by
  simp [retVals, hx, loadVal, hH, he, cutCells, hn, hr]
theorem elem_i (H : Heap) (k : Nat) : elemMap (closeAV H k) ∘ (fun n : Int => AV.v (.int .i64 n)) = fun n : Int => AV.v (.int .i64 n) := by funext n; cases k <;> rfl
theorem elem_i' (H : Heap) (k : Nat) : elemMap (closeAV H k) ∘ AV.i = AV.i := elem_i H k
theorem elem_b' (H : Heap) (k : Nat) : elemMap (closeAV H k) ∘ AV.b = AV.b := by funext n; cases k <;> rfl
/-- A row of numbers of the function's own, handed back. -/
theorem close_ints {α : Type} {g : α → AV} (hg : ∀ H k, elemMap (closeAV H k) ∘ g = g) {H : Heap} {h n sz : Nat} {a : Loc} {xs : List α} (hH : H.get h = some (a, .arr sz (xs.map g))) (hn : n = xs.length) (k : Nat) : closeAV H (k + 1) (.ref h a sz 0 n) = .fz sz (xs.map g) := by
  subst hn
  simp only [closeAV, hH]
  simp [hg, List.take_of_length_le]
/-- A slice that is nil, as a slice without elements. -/
theorem Weak.nilfz (t sz : Nat) {E : Env} {H : Heap} (h : E.get t = some (.v (.slice none 0 0))) : Weak N E H (E.set t (.fz sz [])) H := fun Keep F a w hS => by
  refine ⟨F, Grow.refl _ _ _, ⟨fun s x hx => ?_, hS.tsz, hS.dfs, hS.heap⟩⟩
  rw [Env.get_set] at hx
  split at hx
  · rename_i e; subst e
    injection hx with hx; subst hx
    rw [(hS.env t _ h).inv_v]
    exact .fznil _
  · exact hS.env s x hx
/-! ### small words -/
theorem cells_i (n : Int) : (AV.i n).cells = [.i n] := rfl
theorem cells_b (t : Bool) : (AV.b t).cells = [.b t] := rfl

theorem ofV_i (n : Int) : AV.ofV (.int .i64 n) = .i n := rfl
theorem ofV_b (t : Bool) : AV.ofV (.bool t) = .b t := rfl

theorem CallOK.borrow' (k : Nat) {f : Nat} {xs xs' : List AV} {r : AV} {H : Heap} {K : AV → Heap → Prop} (hx : xs.map (closeAV H k) = xs') (h : PCalls P f xs' r) (hs : r.scal = true) (hk : K r H) : CallOK P f xs H K := CallOK.borrow k (by rw [hx]; exact h) hs hk
theorem closeAV_zero (H : Heap) : closeAV H 0 = id := by funext x; rfl
theorem drop_zero' (l : List AV) : List.map id (l.drop 0) = l := by simp

theorem rep_map {α : Type} (f : α → AV) (n : Nat) (x : α) : List.replicate n (f x) = (List.replicate n x).map f := by
  rw [List.map_replicate]
theorem post_ret {rs : List RV} {K : AV → Heap → Prop} {E : Env} {H : Heap} {vs : List AV} (h : retVals E H rs = some vs) (k : K (mkRes vs) H) : Post rs K .ret E H := ⟨.inr rfl, vs, h, k⟩
theorem post_norm {rs : List RV} {K : AV → Heap → Prop} {E : Env} {H : Heap} {vs : List AV} (h : retVals E H rs = some vs) (k : K (mkRes vs) H) : Post rs K .normal E H := ⟨.inl rfl, vs, h, k⟩
end Go.Proofs.Ytjnencdmejhmjaa.Eng
