/- The law, evaluated; the environment is as it says. No condition. -/
import Derived.Test.YtemggoaefohliaaBrC
namespace Go.Proofs.Ytemggoaefohliaa.BR
set_option linter.unusedVariables false
set_option linter.unusedSimpArgs false
open Go AE EX
set_option maxRecDepth 100000

theorem ev_law (n : Nat) (hn : 1048600 ≤ n) (hal : ev Try.prog E n 9 [] st0 = some (.ret (.bool true), st0)) (x : X) (p q : Int) (hm : x.size ≤ 1048576) :
    ev Try.prog E (n + 1) 3 [x.emb, .int .i64 p, .int .i64 q] st0 = some (.ret (.bool true), st0) := by
  have hE : E.ok 3 = true := rfl
  have h3 : E.esc 3 3 = false := rfl
  have hp : E.ps 3 5 = [(0, 3), (2, 3), (8, 12), (10, 12)] := rfl
  have hc := ev_Cells 1048576 n x st0 hm (by omega) (by omega)
  have m1 := ev_Most 1048576 n x p st0 hm (by omega) (by omega)
  have m2 := ev_Most 1048576 n x q st0 hm (by omega) (by omega)
  have hf := fin_bool st0 true
  rw [ev_enter hE Try.func3 (fn := Try.f3) rfl (Nat.le_of_ble_eq_true rfl) (by decide +kernel)]
  by_cases h : q < p
  · obtain ⟨k, nm, a, lo, hi, tk, kids⟩ := x
    simp only [X.emb] at hc m1 m2 ⊢
    simp [ev, evFunc, evUn, evIndex, evCode, lexA, lexF, afterDraw, noClash, FP.clash, stepA, wantedA, evOp, rho, rhoL, ofC0, ofC, argsA, upd, afterRegion, putA, goOp, evBin, evBuiltin, evLen, evMin2, evMax2, evCallee, evBox, evLoad, evStore, evFieldAddr, evField, evIndexAddr, evBuild, evBuildSlice, nth, rdc, wrc, fromBody, resA, finRet, oneOf, AV.cells?, AV.isCell, AV.sealed, AV.sealedL, AV.strip, AV.stripL, AV.low, AV.lowL, boxEqL_refl, -ev, -evFunc, Try.f3, h3, hp, k24, c24, a24, hal, h, hf, -AV.isCell]
  · have hle : x.cnt * tms p ≤ x.cnt * tms q := Int.mul_le_mul_of_nonneg_left (tms_mono (by omega)) (by omega)
    have hz : ((x.cnt * tms p : Int) == 0) = ((x.cnt : Int) == 0) := by
      have := tms_le p
      rw [Bool.eq_iff_iff]
      simp only [beq_iff_eq, Int.mul_eq_zero]
      omega
    obtain ⟨k, nm, a, lo, hi, tk, kids⟩ := x
    simp only [X.emb] at hc m1 m2 ⊢
    simp [ev, evFunc, evUn, evIndex, evCode, lexA, lexF, afterDraw, noClash, FP.clash, stepA, wantedA, evOp, rho, rhoL, ofC0, ofC, argsA, upd, afterRegion, putA, goOp, evBin, evBuiltin, evLen, evMin2, evMax2, evCallee, evBox, evLoad, evStore, evFieldAddr, evField, evIndexAddr, evBuild, evBuildSlice, nth, rdc, wrc, fromBody, resA, finRet, oneOf, AV.cells?, AV.isCell, AV.sealed, AV.sealedL, AV.strip, AV.stripL, AV.low, AV.lowL, boxEqL_refl, -ev, -evFunc, Try.f3, h3, hp, k24, c24, a24, hal, h, hf, hc, m1, m2, hle, hz, bq4, -AV.isCell]

theorem env : EnvOK Try.prog E where
  mixed := by kernel_rfl
  code := fun f fn c hok hf hb => by
    have : f ∈ [3, 9, 10, 11, 26, 27, 28, 29, 52] := by simpa [E] using hok
    simp only [List.mem_cons, List.not_mem_nil, or_false] at this
    rcases this with rfl | rfl | rfl | rfl | rfl | rfl | rfl | rfl | rfl
    · exact codeOk_body (Try.func3.symm.trans hf) hb (by kernel_rfl)
    · exact codeOk_body (Try.func9.symm.trans hf) hb (by kernel_rfl)
    · exact codeOk_body (Try.func10.symm.trans hf) hb (by kernel_rfl)
    · exact codeOk_body (Try.func11.symm.trans hf) hb (by kernel_rfl)
    · exact codeOk_body (Try.func26.symm.trans hf) hb (by kernel_rfl)
    · exact codeOk_body (Try.func27.symm.trans hf) hb (by kernel_rfl)
    · exact codeOk_body (Try.func28.symm.trans hf) hb (by kernel_rfl)
    · exact codeOk_body (Try.func29.symm.trans hf) hb (by kernel_rfl)
    · exact codeOk_body (Try.func52.symm.trans hf) hb (by kernel_rfl)
  ext := fun f args S r S' _ h => by cases h
end Go.Proofs.Ytemggoaefohliaa.BR
