/- ENGINE, part 7: the operations that only read, all of them. -/
import Derived.Test.YtjnencdmejhmjaaE6
namespace Go.Proofs.Ytjnencdmejhmjaa.Eng
open Go Go.RowKit
set_option linter.unusedSimpArgs false
set_option linter.unusedVariables false
variable {P : Program} {F : Nat → Prop} {w : World}

theorem val_sound {Keep : Nat → Prop} {H : Heap} (hH : HeapOK Keep F w H) {ρc : Operand → Value} {ρa : Opd → Option AV} (hρ : ∀ x y a, compOpd x = some y → ρa y = some a → VR F w a (ρc x)) (o : Oper) {q : IOp} (hc : compVal P o.op = some q) {r : AV} (hv : q.val ρa H = some r) :
    ∃ v, (execOp ρc o).run P w = .ok (.value v) w ∧ VR F w r v := by
  unfold compVal at hc
  split at hc
  · rename_i x e
    simp only [Option.bind_eq_some_iff] at hc; obtain ⟨y, hy, hc⟩ := hc; injection hc with hc; subst hc
    exact ⟨_, by simp [execOp, e], hρ _ _ _ hy hv⟩
  · rename_i x e
    simp only [Option.bind_eq_some_iff] at hc; obtain ⟨y, hy, hc⟩ := hc; injection hc with hc; subst hc
    exact ⟨_, by simp [execOp, e], hρ _ _ _ hy hv⟩
  · rename_i c a b e
    simp only [Option.bind_eq_some_iff] at hc; obtain ⟨c', hc', a', ha', b', hb', hc⟩ := hc; injection hc with hc; subst hc
    simp only [IOp.val, Option.bind_eq_some_iff] at hv
    obtain ⟨t, ht, hv⟩ := hv
    unfold pickVal at hv
    split at hv
    · rename_i t
      have h1 := (hρ _ _ _ hc' ht).inv_v
      cases t
      · simp at hv; exact ⟨_, by simp [execOp, e, h1, asBool], hρ _ _ _ hb' hv⟩
      · simp at hv; exact ⟨_, by simp [execOp, e, h1, asBool], hρ _ _ _ ha' hv⟩
    · simp at hv
  · rename_i op t x y yt e
    simp only [Option.bind_eq_some_iff] at hc; obtain ⟨x', hx', y', hy', hc⟩ := hc
    have hex : execOp ρc o = (do pure (.value (← (do eqGuard op t x y (ρc x) (ρc y); binOp op t (ρc x) (ρc y))))) := by simp only [execOp, e]
    split at hc
    · injection hc with hc; subst hc
      simp only [IOp.val, Option.bind_eq_some_iff] at hv
      obtain ⟨a, ha, b, hb, hv⟩ := hv
      obtain ⟨z, h1, h2⟩ := binVal_sound (P := P) hv (hρ _ _ _ hx' ha) (hρ _ _ _ hy' hb) t x y
      exact ⟨z, by rw [hex, Sem.run_bind, h1]; rfl, h2⟩
    · rename_i hu
      split at hc
      · injection hc with hc; subst hc
        simp only [IOp.val, Option.bind_eq_some_iff] at hv
        obtain ⟨a, ha, b, hb, hv⟩ := hv
        obtain ⟨z, h1, h2⟩ := boolVal_sound (P := P) hv (hρ _ _ _ hx' ha) (hρ _ _ _ hy' hb) t hu x y
        exact ⟨z, by rw [hex, Sem.run_bind]; simp only [Bool.false_eq_true, if_false] at h1; rw [h1]; rfl, h2⟩
      · injection hc with hc; subst hc
        simp only [IOp.val, Option.bind_eq_some_iff] at hv
        obtain ⟨a, ha, b, hb, hv⟩ := hv
        obtain ⟨z, h1, h2⟩ := boolVal_sound (P := P) hv (hρ _ _ _ hx' ha) (hρ _ _ _ hy' hb) t hu x y
        exact ⟨z, by rw [hex, Sem.run_bind]; simp only [if_true] at h1; rw [h1]; rfl, h2⟩
      · simp at hc
    · rename_i fs hu
      split at hc
      · rename_i hk
        simp only [Bool.and_eq_true, Bool.not_eq_true'] at hk
        obtain ⟨⟨hpl, hst⟩, hg⟩ := hk
        have main : ∀ neg, IOp.val ρa H (.eqs neg (kindsP P fs.toList) x' y') = some r → ∃ v, (do eqGuard (if neg then .neq else .eql) t x y (ρc x) (ρc y); binOp (if neg then .neq else .eql) t (ρc x) (ρc y) : Sem Value).run P w = .ok v w ∧ VR F w r v := by
          intro neg hv
          simp only [IOp.val, Option.bind_eq_some_iff] at hv
          obtain ⟨a, ha, b, hb, hv⟩ := hv
          unfold eqCells at hv
          split at hv
          · rename_i as bs
            simp only [Option.bind_eq_some_iff] at hv
            obtain ⟨tt, htt, hv⟩ := hv
            injection hv with hv; subst hv
            obtain ⟨vs, e1, l1, r1⟩ := (hρ _ _ _ hx' ha).inv_agg
            obtain ⟨us, e2, l2, r2⟩ := (hρ _ _ _ hy' hb).inv_agg
            rw [e1, e2]
            have hfo : P.fieldsOf t = fs := by simp [Program.fieldsOf, hu]
            have hu' : P.underlying t = some (.struct (P.fieldsOf t)) := by rw [hfo]; exact hu
            have hq := eqsVal_sound (P := P) (F := F) (w := w) 9998 vs us fs.toList 0 as bs tt hpl htt
              (fun i c hc => by
                have hi : i < vs.length := by rw [← l1]; exact (List.getElem?_eq_some_iff.1 hc).1
                exact ⟨vs[i], by simp [hi], r1 i c _ hc (by simp [hi])⟩)
              (fun i c hc => by
                have hi : i < us.length := by rw [← l2]; exact (List.getElem?_eq_some_iff.1 hc).1
                exact ⟨us[i], by simp [hi], r2 i c _ hc (by simp [hi])⟩)
            have hE : (Op.equalIn 10000 t (.agg vs.toArray) (.agg us.toArray)).run P w = .ok tt w := by
              rw [show (10000 : Nat) = 9999 + 1 from rfl, run_equalIn_struct w 9999 t _ _ hu' hst, hfo]; exact hq
            cases neg
            · refine ⟨_, ?_, .v _⟩
              simp only [Bool.false_eq_true, if_false, Sem.run_bind, run_eqGuard_agg w _ t x y _ _ hg, Result.andThen_ok, run_eql_struct, hE]
            · refine ⟨_, ?_, .v _⟩
              simp only [if_true, Sem.run_bind, run_eqGuard_agg w _ t x y _ _ hg, Result.andThen_ok, run_neq_struct, hE]
          · simp at hv
        split at hc
        · injection hc with hc; subst hc
          obtain ⟨z, h1, h2⟩ := main false hv
          exact ⟨z, by rw [hex, Sem.run_bind]; simp only [Bool.false_eq_true, if_false] at h1; rw [h1]; rfl, h2⟩
        · injection hc with hc; subst hc
          obtain ⟨z, h1, h2⟩ := main true hv
          exact ⟨z, by rw [hex, Sem.run_bind]; simp only [if_true] at h1; rw [h1]; rfl, h2⟩
        · simp at hc
      · simp at hc
    · simp at hc
  · rename_i op t x e
    simp only [Option.bind_eq_some_iff] at hc; obtain ⟨x', hx', hc⟩ := hc
    split at hc
    · injection hc with hc; subst hc
      simp only [IOp.val, Option.bind_eq_some_iff] at hv
      obtain ⟨a, ha, hv⟩ := hv
      obtain ⟨z, h1, h2⟩ := unVal_sound (P := P) hv (hρ _ _ _ hx' ha)
      exact ⟨z, by simp [execOp, e, h1], h2⟩
    · injection hc with hc; subst hc
      simp only [IOp.val, Option.bind_eq_some_iff] at hv
      obtain ⟨a, ha, hv⟩ := hv
      obtain ⟨z, h1, h2⟩ := unVal_sound (P := P) hv (hρ _ _ _ hx' ha)
      exact ⟨z, by simp [execOp, e, h1], h2⟩
    · simp at hc
  · rename_i src dst x e
    split at hc
    · rename_i k' k hs hd
      simp only [Option.bind_eq_some_iff] at hc; obtain ⟨x', hx', hc⟩ := hc; injection hc with hc; subst hc
      simp only [IOp.val, Option.bind_eq_some_iff] at hv
      obtain ⟨a, ha, hv⟩ := hv
      unfold convVal at hv
      split at hv
      · injection hv with hv; subst hv
        have h1 := (hρ _ _ _ hx' ha).inv_v
        exact ⟨_, by simp [execOp, e, h1, convert, run_underlying hs, run_underlying hd, Conv.intToInt], .v _⟩
      · simp at hv
    · simp at hc
  · rename_i t x e
    simp only [Option.bind_eq_some_iff] at hc; obtain ⟨n, hn, x', hx', hc⟩ := hc; injection hc with hc; subst hc
    simp only [IOp.val, Option.bind_eq_some_iff] at hv
    obtain ⟨a, ha, hv⟩ := hv
    obtain ⟨z, h1, h2⟩ := loadVal_sound hH hv (hρ _ _ _ hx' ha) t hn
    exact ⟨z, by simp [execOp, e, h1], h2⟩
  · rename_i x e
    simp only [Option.bind_eq_some_iff] at hc; obtain ⟨x', hx', hc⟩ := hc; injection hc with hc; subst hc
    simp only [IOp.val, Option.bind_eq_some_iff] at hv
    obtain ⟨a, ha, hv⟩ := hv
    have hx := hρ _ _ _ hx' ha
    unfold nilckVal at hv
    split at hv
    · injection hv with hv; subst hv
      generalize hz : ρc x = z at hx
      cases hx with
      | ptr => exact ⟨_, by simp [execOp, e, hz], .ptr _ _ _ _ _⟩
    · injection hv with hv; subst hv
      generalize hz : ρc x = z at hx
      have hx2 := hx
      cases hx with
      | fptr => exact ⟨_, by simp [execOp, e, hz], hx2⟩
    · injection hv with hv; subst hv
      generalize hz : ρc x = z at hx
      have hx2 := hx
      cases hx with
      | fn => exact ⟨_, by simp [execOp, e, hz], hx2⟩
    · simp at hv
  · rename_i s x f e
    split at hc
    · rename_i fs hs
      simp only [Option.bind_eq_some_iff] at hc; obtain ⟨g, hg, n, hn, hc⟩ := hc
      split at hc
      · simp at hc
      · rename_i h0
        simp only [Option.bind_eq_some_iff] at hc; obtain ⟨x', hx', hc⟩ := hc; injection hc with hc; subst hc
        simp only [IOp.val, Option.bind_eq_some_iff] at hv
        obtain ⟨a, ha, hv⟩ := hv
        obtain ⟨z, h1, h2⟩ := faddrVal_sound (P := P) hv (hρ _ _ _ hx' ha) s f hs hg hn h0 rfl
        exact ⟨z, by simp [execOp, e, h1], h2⟩
    · simp at hc
  · rename_i s x f e
    split at hc
    · rename_i fs hs
      simp only [Option.bind_eq_some_iff] at hc; obtain ⟨g, hg, n, hn, x', hx', hc⟩ := hc; injection hc with hc; subst hc
      simp only [IOp.val, Option.bind_eq_some_iff] at hv
      obtain ⟨a, ha, hv⟩ := hv
      unfold fldVal at hv
      split at hv
      · obtain ⟨vs, e1, l1, r1⟩ := (hρ _ _ _ hx' ha).inv_agg
        obtain ⟨z, h1, h2⟩ := part_sound (P := P) hn l1 hv r1
        exact ⟨z, by simp [execOp, e, Instr.field, run_underlying hs, hg, e1, asAgg, h1], h2⟩
      · simp at hv
    · simp at hc
  · rename_i t x i e
    split at hc
    · rename_i el hs
      simp only [Option.bind_eq_some_iff] at hc; obtain ⟨n, hn, x', hx', i', hi', hc⟩ := hc; injection hc with hc; subst hc
      simp only [IOp.val, Option.bind_eq_some_iff] at hv
      obtain ⟨a, ha, b, hb, hv⟩ := hv
      obtain ⟨z, h1, h2⟩ := iaddrVal_sound (P := P) hv (hρ _ _ _ hx' ha) (hρ _ _ _ hi' hb) t hs hn
      exact ⟨z, by simp [execOp, e, h1], h2⟩
    · simp at hc
  · rename_i t x lo hi e
    split at hc
    · rename_i el hs
      simp only [Option.bind_eq_some_iff] at hc; obtain ⟨n, hn, hc⟩ := hc
      split at hc
      · simp at hc
      · rename_i h0
        simp only [Option.bind_eq_some_iff] at hc; obtain ⟨x', hx', lo', hlo', hi', hhi', hc⟩ := hc; injection hc with hc; subst hc
        simp only [IOp.val, Option.bind_eq_some_iff] at hv
        obtain ⟨a, ha, l, hl, h, hh, hv⟩ := hv
        obtain ⟨z, h1, h2⟩ := sliceVal_sound (P := P) hv (hρ _ _ _ hx' ha) (optOpd_rel hρ hlo' hl) (optOpd_rel hρ hhi' hh) t hs hn h0
        exact ⟨z, by simp [execOp, e, h1], h2⟩
    · simp at hc
  · rename_i x i e
    simp only [Option.bind_eq_some_iff] at hc; obtain ⟨x', hx', hc⟩ := hc; injection hc with hc; subst hc
    simp only [IOp.val, Option.bind_eq_some_iff] at hv
    obtain ⟨a, ha, hv⟩ := hv
    unfold extVal at hv
    split at hv
    · obtain ⟨vs, e1, l1, r1⟩ := (hρ _ _ _ hx' ha).inv_tup
      have hi : i < vs.length := by rw [← l1]; exact (List.getElem?_eq_some_iff.1 hv).1
      exact ⟨vs[i], by simp [execOp, e, e1, Instr.extract, hi], r1 _ _ _ hv (by simp [hi])⟩
    · simp at hv
  · rename_i xs ts e
    split at hc
    · rename_i x t hxs hts
      split at hc
      · rename_i el hs
        simp only [Option.bind_eq_some_iff] at hc; obtain ⟨x', hx', hc⟩ := hc; injection hc with hc; subst hc
        simp only [IOp.val, Option.bind_eq_some_iff] at hv
        obtain ⟨a, ha, hv⟩ := hv
        obtain ⟨z, h1, h2⟩ := lenVal_sound (P := P) hv (hρ _ _ _ hx' ha) t o.type hs
        obtain rfl : xs = #[x] := by rw [← Array.toArray_toList (xs := xs), hxs]
        obtain rfl : ts = #[t] := by rw [← Array.toArray_toList (xs := ts), hts]
        exact ⟨z, by simp [execOp, e, resolve, invoke, builtin, h1], h2⟩
      · simp at hc
    · simp at hc
  · rename_i xs ts e
    split at hc
    · rename_i x rest hxs
      simp only [Option.bind_eq_some_iff] at hc; obtain ⟨x', hx', l', hl', hc⟩ := hc; injection hc with hc; subst hc
      simp only [IOp.val, Option.bind_eq_some_iff] at hv
      obtain ⟨a, ha, l, hl, hv⟩ := hv
      obtain ⟨o1, o2⟩ := opds_rel hρ hl' hl
      have hx := hρ _ _ _ hx' ha
      have ha2 : ∃ k n, a = .v (.int k n) := by unfold minVal at hv; split at hv <;> first | exact ⟨_, _, rfl⟩ | simp at hv
      obtain ⟨k, n, rfl⟩ := ha2
      have hx := hx.inv_v
      obtain ⟨z, h1, h2⟩ := minVal_sound (P := P) l (rest.map ρc) k n r hv (by simp [o1]) o2
      refine ⟨z, ?_, h2⟩
      have e1 : (Array.map ρc xs).toList = ρc x :: rest.map ρc := by simp [hxs]
      simp only [execOp, e, resolve, invoke, builtin, Sem.run_bind, Sem.run_pure, Result.andThen_ok, Builtin.min_, e1, hx, h1]
    · simp at hc
  · rename_i xs ts e
    split at hc
    · rename_i x rest hxs
      simp only [Option.bind_eq_some_iff] at hc; obtain ⟨x', hx', l', hl', hc⟩ := hc; injection hc with hc; subst hc
      simp only [IOp.val, Option.bind_eq_some_iff] at hv
      obtain ⟨a, ha, l, hl, hv⟩ := hv
      obtain ⟨o1, o2⟩ := opds_rel hρ hl' hl
      have hx := hρ _ _ _ hx' ha
      have ha2 : ∃ k n, a = .v (.int k n) := by unfold maxVal at hv; split at hv <;> first | exact ⟨_, _, rfl⟩ | simp at hv
      obtain ⟨k, n, rfl⟩ := ha2
      have hx := hx.inv_v
      obtain ⟨z, h1, h2⟩ := maxVal_sound (P := P) l (rest.map ρc) k n r hv (by simp [o1]) o2
      refine ⟨z, ?_, h2⟩
      have e1 : (Array.map ρc xs).toList = ρc x :: rest.map ρc := by simp [hxs]
      simp only [execOp, e, resolve, invoke, builtin, Sem.run_bind, Sem.run_pure, Result.andThen_ok, Builtin.max_, e1, hx, h1]
    · simp at hc
  · rename_i t parts e
    split at hc
    · rename_i fs hs
      simp only [Option.bind_eq_some_iff] at hc; obtain ⟨i, hi, hc⟩ := hc
      split at hc
      · rename_i z hz
        split at hc
        · rename_i hall
          simp only [Option.bind_eq_some_iff] at hc; obtain ⟨l, hl, hc⟩ := hc; injection hc with hc; subst hc
          simp only [IOp.val, Option.bind_eq_some_iff] at hv
          obtain ⟨as, ha, cs, hcs, hv⟩ := hv
          injection hv with hv; subst hv
          obtain ⟨v, h1, h2⟩ := build_sound (P := P) hρ hs hi hz hall hl ha hcs
          exact ⟨v, by simp only [execOp, e, Sem.run_bind, h1, Result.andThen_ok, Sem.run_pure], h2⟩
        · simp at hc
      · simp at hc
    · simp at hc
  · rename_i f first caps e
    split at hc
    · rename_i h0
      simp only [Option.bind_eq_some_iff] at hc; obtain ⟨l, hl, hc⟩ := hc; injection hc with hc; subst hc
      simp only [IOp.val, Option.bind_eq_some_iff] at hv
      obtain ⟨as, ha, hv⟩ := hv
      injection hv with hv; subst hv
      obtain ⟨o1, o2⟩ := opds_rel hρ hl ha
      have hf : first = #[] := by simpa using h0
      refine ⟨.func (.func f) #[] (caps.toList.map ρc).toArray, ?_, .fn _ _ _ (by simp [o1]) o2⟩
      subst hf
      have e2 : caps.map ρc = (caps.toList.map ρc).toArray := by apply Array.ext'; simp
      simp [execOp, e, Instr.makeFunc, e2]
    · simp at hc
  · simp at hc
end Go.Proofs.Ytjnencdmejhmjaa.Eng
