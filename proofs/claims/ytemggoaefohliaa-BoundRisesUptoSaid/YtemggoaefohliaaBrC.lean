/- The bound's cells, and what they come to. No condition. -/
import Derived.Test.YtemggoaefohliaaBrB
namespace Go.Proofs.Ytemggoaefohliaa.BR
set_option linter.unusedVariables false
set_option linter.unusedSimpArgs false
open Go AE EX
set_option maxRecDepth 100000

theorem fin_box (S : St) (bx : HBox) (k : IntKind) (n : Int) : finish S (.int k n) ⟨S.H ++ [bx], S.T⟩ = some (.int k n, S) := by
  unfold finish
  simp [AV.sealed, AV.strip, AV.low, boxEqL_refl]

theorem ev_Cells (m n : Nat) (x : X) (S : St) (hm : x.size ≤ m) (hn : m + 3 ≤ n) (hb : m < 4611686018427387904) : ev Try.prog E n 11 [x.emb] S = some (.ret (.int .i64 x.cnt), S) := by
  obtain ⟨n, rfl⟩ : ∃ k, n = k + 1 := ⟨n - 1, by omega⟩
  have hE : E.ok 11 = true := rfl
  have hx : E.esc 11 1 = false := rfl
  have hx3 : E.esc 11 3 = true := rfl
  have hw := ev_walk m x hm n (by omega) S.H.length 0 ⟨S.H ++ [⟨3, [.int .i64 0]⟩], S.T⟩ (by simp) (by omega) (by omega)
  obtain ⟨k, nm, a, lo, hi, tk, kids⟩ := x
  simp only [X.emb] at hw ⊢
  have hf := fin_box S ⟨3, [.int .i64 (X.mk k nm a lo hi tk kids).cnt]⟩ .i64 (X.mk k nm a lo hi tk kids).cnt
  rw [ev, if_pos hE, evFunc]
  simp [ev, evFunc, evUn, evIndex, evCode, lexA, lexF, afterDraw, noClash, FP.clash, stepA, wantedA, evOp, rho, rhoL, ofC0, ofC, argsA, upd, afterRegion, putA, goOp, evBin, evBuiltin, evLen, evMin2, evMax2, evCallee, evBox, evLoad, evStore, evFieldAddr, evField, evIndexAddr, evBuild, evBuildSlice, nth, rdc, wrc, fromBody, resA, finRet, oneOf, AV.cells?, AV.isCell, AV.sealed, AV.sealedL, AV.strip, AV.stripL, AV.low, AV.lowL, boxEqL_refl, -ev, -evFunc, Try.func11, Try.f11, hx, hx3, k24, c24, a24, k3, c3, a3, z3, i3, hw, hf, -AV.isCell] 

/-- so many times, as they count -/
def tms (t : Int) : Int := (if 32768 < (if t < 0 then 0 else t) then 32768 else (if t < 0 then 0 else t)) + 1
theorem tms_le (t : Int) : 1 ≤ tms t ∧ tms t ≤ 32769 := by unfold tms; split <;> split <;> omega
theorem tms_mono {p q : Int} (h : p ≤ q) : tms p ≤ tms q := by unfold tms; (repeat' split) <;> omega

theorem ev_Most (m n : Nat) (x : X) (t : Int) (S : St) (hm : x.size ≤ m) (hn : m + 4 ≤ n) (hb : m ≤ 1048576) :
    ev Try.prog E n 10 [x.emb, .int .i64 t] S = some (.ret (.int .i64 (x.cnt * tms t)), S) := by
  obtain ⟨n, rfl⟩ : ∃ k, n = k + 1 := ⟨n - 1, by omega⟩
  have hE : E.ok 10 = true := rfl
  have hx : E.esc 10 2 = false := rfl
  have hw := ev_Cells m n x S hm (by omega) (by omega)
  have hc := cnt_size x
  have ht := tms_le t
  have w1 : IntKind.i64.wrap ((if 32768 < (if t < 0 then 0 else t) then 32768 else (if t < 0 then 0 else t)) + 1) = tms t := by
    have := wrap64 (tms t) (by omega)
    exact this
  have w2 : IntKind.i64.wrap (x.cnt * tms t) = x.cnt * tms t := by
    apply wrap64
    have h2 : (0 : Int) ≤ x.cnt := by omega
    have h3 : (x.cnt : Int) ≤ 1048576 := by omega
    have := Int.mul_le_mul h3 ht.2 (by omega) (by omega)
    have := Int.mul_nonneg h2 (show 0 ≤ tms t by omega)
    omega
  obtain ⟨k, nm, a, lo, hi, tk, kids⟩ := x
  simp only [X.emb] at hw ⊢
  have hf := fin_int .i64 ((X.mk k nm a lo hi tk kids).cnt * tms t) S
  rw [ev, if_pos hE, evFunc]
  simp [ev, evFunc, evUn, evIndex, evCode, lexA, lexF, afterDraw, noClash, FP.clash, stepA, wantedA, evOp, rho, rhoL, ofC0, ofC, argsA, upd, afterRegion, putA, goOp, evBin, evBuiltin, evLen, evMin2, evMax2, evCallee, evBox, evLoad, evStore, evFieldAddr, evField, evIndexAddr, evBuild, evBuildSlice, nth, rdc, wrc, fromBody, resA, finRet, oneOf, AV.cells?, AV.isCell, AV.sealed, AV.sealedL, AV.strip, AV.stripL, AV.low, AV.lowL, boxEqL_refl, -ev, -evFunc, Try.func10, Try.f10, hx, k24, c24, a24, k3, c3, a3, z3, i3, hw, hf, w1, w2, -AV.isCell]

theorem ev_alive : ev Try.prog E 1048700 9 [] st0 = some (.ret (.bool true), st0) := by kernel_rfl
end Go.Proofs.Ytemggoaefohliaa.BR
