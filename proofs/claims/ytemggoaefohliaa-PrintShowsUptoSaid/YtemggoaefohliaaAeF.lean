/- Slices, structs and appends: the evaluator's are the model's. No condition. -/
import Derived.Test.YtemggoaefohliaaAeE
namespace Go.Proofs.Ytemggoaefohliaa.AE
set_option linter.unusedVariables false
set_option linter.unusedSimpArgs false
open Go Go.RowKit

/-- an optional operand -/
def OVR (G : Gh) : Option AV → Option Value → Prop
  | none, none => True
  | some a, some v => VR G a v
  | _, _ => False

theorem run_sliceBound {P : Program} {w : World} {k : IntKind} {i : Int} {y : Nat} (c : BoundsCode) (h0 : 0 ≤ i) (h1 : i ≤ y) : (Instr.sliceBound (.int k i) y c).run P w = .ok i.toNat w := by
  simp [Instr.sliceBound, asIntOf, h0, h1]

theorem evSlice_run {P : Program} {G : Gh} {w : World} {t : TypeId} {x r : AV} {a : Value} {lo hi : Option AV} {lo' hi' : Option Value} (hx : VR G x a) (hlo : OVR G lo lo') (hhi : OVR G hi hi') (h : evSlice P t x lo hi = some r) :
    ∃ v, (Instr.sliceAt t a lo' hi' none).run P w = .ok v w ∧ VR G r v := by
  unfold evSlice at h
  split at h
  · rename_i s
    obtain ⟨p, rfl, rfl⟩ := hx.inv_str
    have hlen : p.data.toList.length = p.size := by rw [Array.length_toList]; rfl
    split at h
    · rename_i hs
      have hu := strQ_spec hs
      split at h
      · rename_i kh hv kl lv e1 e2
        split at h
        · rename_i hc
          cases h
          obtain ⟨c1, c2, c3, c4⟩ := hc
          rw [hlen] at c2
          have key : (Instr.sliceBounds false p.size p.size lo' hi' none).run P w = .ok (lv.toNat, hv.toNat, p.size) w := by
            unfold Instr.sliceBounds
            cases hi with
            | none =>
              cases hi' with
              | some v => exact hhi.elim
              | none =>
                simp at e1
                cases lo with
                | none =>
                  cases lo' with
                  | some v => exact hlo.elim
                  | none => simp at e2; obtain ⟨_, rfl⟩ := e1; obtain ⟨_, rfl⟩ := e2; simp [hlen]
                | some l =>
                  cases lo' with
                  | none => exact hlo.elim
                  | some v =>
                    simp at e2
                    subst e2
                    have := VR.inv_int hlo
                    subst this
                    obtain ⟨_, rfl⟩ := e1
                    simp [run_sliceBound (P := P) (w := w) (k := kl) _ c3 (show lv ≤ (p.size : Int) by omega), hlen]
            | some hh =>
              cases hi' with
              | none => exact hhi.elim
              | some v =>
                simp at e1
                subst e1
                have := VR.inv_int hhi
                subst this
                cases lo with
                | none =>
                  cases lo' with
                  | some v => exact hlo.elim
                  | none => simp at e2; obtain ⟨_, rfl⟩ := e2; simp [run_sliceBound (P := P) (w := w) (k := kh) _ c1 c2]
                | some l =>
                  cases lo' with
                  | none => exact hlo.elim
                  | some v =>
                    simp at e2
                    subst e2
                    have := VR.inv_int hlo
                    subst this
                    simp [run_sliceBound (P := P) (w := w) (k := kh) _ c1 c2, run_sliceBound (P := P) (w := w) (k := kl) (y := hv.toNat) _ c3 (by omega)]
          refine ⟨.string (p.extract lv.toNat hv.toNat), ?_, str_VR ?_⟩
          · simp [Instr.sliceAt, Instr.slice, run_underlying' P w t _ hu, key]
          · simp [ByteArray.data_extract, List.extract_eq_take_drop, List.drop_take]
        · cases h
      · cases h
    · cases h
  · rename_i es tok
    split at h
    · cases h
    · rename_i e he
      have hu := sliceQ_spec he
      split at h
      · rename_i hinf
        obtain ⟨hinf, hso⟩ := hinf
        obtain ⟨ii, hii⟩ := Option.isSome_iff_exists.1 hinf
        split at h
        · rename_i kh hv kl lv e1 e2
          split at h
          · rename_i hc
            cases h
            obtain ⟨c1, c2, c3, c4⟩ := hc
            obtain ⟨ad, cap, rfl, hcap⟩ : ∃ ad cap, a = .slice ad es.length cap ∧ es.length ≤ cap := by
              cases hx with
              | nils _ ad _ => exact ⟨ad, 0, rfl, Nat.le_refl _⟩
              | slice _ _ fl b o cap sz k1 k2 k3 k4 k5 => exact ⟨_, cap, rfl, k1⟩
            have key : (Instr.sliceBounds true es.length cap lo' hi' none).run P w = .ok (lv.toNat, hv.toNat, cap) w := by
              unfold Instr.sliceBounds
              cases hi with
              | none =>
                cases hi' with
                | some v => exact hhi.elim
                | none =>
                  simp at e1
                  cases lo with
                  | none =>
                    cases lo' with
                    | some v => exact hlo.elim
                    | none => simp at e2; obtain ⟨_, rfl⟩ := e1; obtain ⟨_, rfl⟩ := e2; simp
                  | some l =>
                    cases lo' with
                    | none => exact hlo.elim
                    | some v =>
                      simp at e2
                      subst e2
                      have := VR.inv_int hlo
                      subst this
                      obtain ⟨_, rfl⟩ := e1
                      simp [run_sliceBound (P := P) (w := w) (k := kl) _ c3 (show lv ≤ (es.length : Int) by omega)]
              | some hh =>
                cases hi' with
                | none => exact hhi.elim
                | some v =>
                  simp at e1
                  subst e1
                  have := VR.inv_int hhi
                  subst this
                  cases lo with
                  | none =>
                    cases lo' with
                    | some v => exact hlo.elim
                    | none => simp at e2; obtain ⟨_, rfl⟩ := e2; simp [run_sliceBound (P := P) (w := w) (k := kh) _ c1 (show hv ≤ (cap : Int) by omega)]
                  | some l =>
                    cases lo' with
                    | none => exact hlo.elim
                    | some v =>
                      simp at e2
                      subst e2
                      have := VR.inv_int hlo
                      subst this
                      simp [run_sliceBound (P := P) (w := w) (k := kh) _ c1 (show hv ≤ (cap : Int) by omega), run_sliceBound (P := P) (w := w) (k := kl) (y := hv.toNat) _ c3 (by omega)]
            refine ⟨.slice (if cap = lv.toNat then ad else ad.map (·.add (lv.toNat * P.cellsOf e))) (hv.toNat - lv.toNat) (cap - lv.toNat), ?_, ?_⟩
            · simp [Instr.sliceAt, Instr.slice, run_underlying' P w t _ hu, key, run_sizeOf' P w e ii hii]
            · have hl : ((es.take hv.toNat).drop lv.toNat).length = hv.toNat - lv.toNat := by simp; omega
              cases hx with
              | nils _ ad htok =>
                simp at c2 c4
                have z1 : hv.toNat = 0 := by omega
                have z2 : lv.toNat = 0 := by omega
                rw [z1, z2]
                simp
                refine .nils _ _ fun t p => ?_
                cases hi <;> cases tok <;> simp
              | slice _ _ fl b o cap sz k1 k2 k3 k4 k5 =>
                by_cases hcl : cap = lv.toNat
                · have z : (es.take hv.toNat).drop lv.toNat = [] := by
                    apply List.eq_nil_of_length_eq_zero; omega
                  have z2 : hv.toNat - lv.toNat = 0 := by omega
                  rw [z, z2, if_pos hcl]
                  refine .slice [] _ [] b o (cap - lv.toNat) sz (Nat.zero_le _) rfl (.nil _ _) ?_ rfl
                  cases hi <;> cases tok <;> simp only [TokR] <;> simp
                  all_goals (simp only [TokR] at k4; try omega)
                · rw [if_neg hcl]
                  simp only [Option.map_some, add_none]
                  rw [← hl]
                  obtain ⟨x, y, f1, f2, f3⟩ := flatQ_split (a := es.take hv.toNat) (b := es.drop hv.toNat) (by rw [List.take_append_drop]; exact k2)
                  obtain ⟨x1, x2, g1, g2, g3⟩ := flatQ_split (a := (es.take hv.toNat).take lv.toNat) (b := (es.take hv.toNat).drop lv.toNat) (by rw [List.take_append_drop]; exact f1)
                  subst f3 g3
                  have hx1 : x1.length = lv.toNat * P.cellsOf e := by
                    rw [flatQ_len' g1 (sizesOk_take (sizesOk_take hso))]
                    congr 1
                    simp; omega
                  refine .slice _ _ x2 b _ (cap - lv.toNat) (P.cellsOf e) (by rw [hl]; omega) g2 (by rw [← hx1]; exact k3.left.right) ?_ (sizesOk_drop (sizesOk_take hso))
                  cases hi <;> cases tok <;> simp only [TokR]
                  all_goals (simp only [TokR] at k4; try omega)
                  simp at e1
                  obtain ⟨_, rfl⟩ := e1
                  omega
          · cases h
        · cases h
      · cases h
  · cases h
end Go.Proofs.Ytemggoaefohliaa.AE
