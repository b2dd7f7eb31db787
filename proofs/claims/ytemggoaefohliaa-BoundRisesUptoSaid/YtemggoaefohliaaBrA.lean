/- The bound's functions, evaluated. No condition. -/
import Derived.Test.YtemggoaefohliaaExA
namespace Go.Proofs.Ytemggoaefohliaa.BR
set_option linter.unusedVariables false
set_option linter.unusedSimpArgs false
open Go AE EX
set_option maxRecDepth 100000

noncomputable def E : Env := { ok := fun f => [3, 9, 10, 11, 26, 27, 28, 29, 52].contains f, esc := fun f d => (f == 11 || f == 26) && d == 3, ps := fun f id => if f = 3 ∧ id = 5 then [(0, 3), (2, 3), (8, 12), (10, 12)] else [], ext := fun _ _ _ => none }

def looksB (k : Int) : Bool := k == 22 || k == 23 || k == 24 || k == 13 || k == 25

theorem ev_looks (n : Nat) (k : Int) (S : St) : ev Try.prog E (n + 1) 29 [.int .i64 k] S = some (.ret (.bool (looksB k)), S) := by
  cases h1 : k == 22
  · cases h2 : k == 23
    · cases h3 : k == 24
      · cases h4 : k == 13
        · cases h5 : k == 25 <;> simp [ev, evFunc, evUn, evIndex, evCode, lexA, lexF, afterDraw, noClash, FP.clash, stepA, wantedA, evOp, rho, rhoL, ofC0, ofC, argsA, upd, afterRegion, putA, goOp, evBin, evBuiltin, evLen, evMin2, evMax2, evCallee, evBox, evLoad, evStore, evFieldAddr, evField, evIndexAddr, evBuild, evBuildSlice, nth, rdc, wrc, fromBody, resA, finRet, oneOf, AV.cells?, AV.isCell, AV.sealed, AV.sealedL, AV.strip, AV.stripL, AV.low, AV.lowL, boxEqL_refl, Try.func29, Try.f29, E, bq3, looksB, finish, h1, h2, h3, h4, h5]
        · simp [ev, evFunc, evUn, evIndex, evCode, lexA, lexF, afterDraw, noClash, FP.clash, stepA, wantedA, evOp, rho, rhoL, ofC0, ofC, argsA, upd, afterRegion, putA, goOp, evBin, evBuiltin, evLen, evMin2, evMax2, evCallee, evBox, evLoad, evStore, evFieldAddr, evField, evIndexAddr, evBuild, evBuildSlice, nth, rdc, wrc, fromBody, resA, finRet, oneOf, AV.cells?, AV.isCell, AV.sealed, AV.sealedL, AV.strip, AV.stripL, AV.low, AV.lowL, boxEqL_refl, Try.func29, Try.f29, E, bq3, looksB, finish, h1, h2, h3, h4]
      · simp [ev, evFunc, evUn, evIndex, evCode, lexA, lexF, afterDraw, noClash, FP.clash, stepA, wantedA, evOp, rho, rhoL, ofC0, ofC, argsA, upd, afterRegion, putA, goOp, evBin, evBuiltin, evLen, evMin2, evMax2, evCallee, evBox, evLoad, evStore, evFieldAddr, evField, evIndexAddr, evBuild, evBuildSlice, nth, rdc, wrc, fromBody, resA, finRet, oneOf, AV.cells?, AV.isCell, AV.sealed, AV.sealedL, AV.strip, AV.stripL, AV.low, AV.lowL, boxEqL_refl, Try.func29, Try.f29, E, bq3, looksB, finish, h1, h2, h3]
    · simp [ev, evFunc, evUn, evIndex, evCode, lexA, lexF, afterDraw, noClash, FP.clash, stepA, wantedA, evOp, rho, rhoL, ofC0, ofC, argsA, upd, afterRegion, putA, goOp, evBin, evBuiltin, evLen, evMin2, evMax2, evCallee, evBox, evLoad, evStore, evFieldAddr, evField, evIndexAddr, evBuild, evBuildSlice, nth, rdc, wrc, fromBody, resA, finRet, oneOf, AV.cells?, AV.isCell, AV.sealed, AV.sealedL, AV.strip, AV.stripL, AV.low, AV.lowL, boxEqL_refl, Try.func29, Try.f29, E, bq3, looksB, finish, h1, h2]
  · simp [ev, evFunc, evUn, evIndex, evCode, lexA, lexF, afterDraw, noClash, FP.clash, stepA, wantedA, evOp, rho, rhoL, ofC0, ofC, argsA, upd, afterRegion, putA, goOp, evBin, evBuiltin, evLen, evMin2, evMax2, evCallee, evBox, evLoad, evStore, evFieldAddr, evField, evIndexAddr, evBuild, evBuildSlice, nth, rdc, wrc, fromBody, resA, finRet, oneOf, AV.cells?, AV.isCell, AV.sealed, AV.sealedL, AV.strip, AV.stripL, AV.low, AV.lowL, boxEqL_refl, Try.func29, Try.f29, E, bq3, looksB, finish, h1]

mutual
def _root_.Go.Proofs.Ytemggoaefohliaa.EX.X.cnt : X → Nat
  | .mk k _ _ _ _ _ kids => (if looksB k then 1 else 0) + if k == 4 then 0 else cntL kids
def cntL : List X → Nat
  | [] => 0
  | x :: l => x.cnt + cntL l
end
theorem cntL_append : ∀ a b : List X, cntL (a ++ b) = cntL a + cntL b
  | [], b => by simp [cntL]
  | x :: a, b => by simp [cntL, cntL_append a b]; omega
mutual
theorem cnt_size : ∀ x : X, x.cnt ≤ x.size
  | .mk k _ _ _ _ _ kids => by
    have := cntL_size kids
    simp only [X.cnt, X.size]
    split <;> split <;> omega
theorem cntL_size : ∀ l : List X, cntL l ≤ sizeL l
  | [] => by simp [cntL, sizeL]
  | x :: l => by have := cnt_size x; have := cntL_size l; simp [cntL, sizeL]; omega
end
end Go.Proofs.Ytemggoaefohliaa.BR
