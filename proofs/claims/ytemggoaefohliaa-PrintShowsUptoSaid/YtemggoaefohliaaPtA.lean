/- Decimals, evaluated. No condition. -/
import Derived.Test.YtemggoaefohliaaExA
import Derived.Test.YtemggoaefohliaaJoinX
namespace Go.Proofs.Ytemggoaefohliaa.PT
set_option linter.unusedVariables false
set_option linter.unusedSimpArgs false
open Go AE EX
set_option maxRecDepth 100000

noncomputable def E : Env where
  ok := fun f => [4, 5, 12, 13, 14, 15, 16, 17, 18, 19, 30, 31, 32, 33, 34, 35, 36, 37, 38, 39, 40, 41, 42, 43, 44, 53, 54, 55, 64, 65].contains f
  esc := fun _ _ => false
  ps := fun f id => if f = 40 ∧ id = 15 then [(1, 5), (1, 6)] else if f = 17 ∧ id = 9 then [(1, 5), (2, 5)] else if f = 17 ∧ id = 11 then [(1, 4), (2, 4), (1, 6), (2, 6), (4, 6), (1, 11), (2, 11), (4, 11), (6, 11), (7, 11)] else
    if f = 17 ∧ id = 13 then [(1, 8), (3, 8), (4, 8), (1, 13), (3, 13), (4, 13), (8, 13), (9, 13), (1, 15), (3, 15), (4, 15), (8, 15), (9, 15)] else if f = 35 ∧ id = 9 then [(4, 6), (4, 11)] else if f = 42 ∧ id = 14 then [(1, 5), (1, 6)] else
    if f = 18 ∧ id = 10 then [(0, 4), (1, 4)] else if f = 18 ∧ id = 11 then [(1, 8), (3, 8), (4, 8), (1, 13), (3, 13), (4, 13), (8, 13), (9, 13), (1, 15), (3, 15), (4, 15), (8, 15), (9, 15)] else if f = 4 ∧ id = 5 then [(4, 6), (5, 6)] else
    if f = 19 ∧ id = 6 then [(1, 6), (4, 6), (1, 9), (4, 9)] else if f = 5 ∧ id = 5 then [(0, 2), (1, 2), (0, 5), (1, 5), (2, 5), (3, 5), (0, 6), (1, 6), (2, 6), (3, 6), (5, 6)] else []
  ext := fun f args S => if f = 56 then joinX args S else none

theorem c5 : Try.prog.cellsOf 5 = 1 := by kernel_rfl
theorem by5 : Try.prog.bytesOf 5 = 1 := by kernel_rfl
theorem sq54 : sliceQ Try.prog 54 = some 5 := by kernel_rfl
theorem u54 : Try.prog.underlying 54 = some (.slice 5) := by kernel_rfl
theorem z5 : zeroQ Try.prog 5 = some [.int .u8 0] := by kernel_rfl
theorem a5 : aggQ Try.prog 5 = false := by kernel_rfl
theorem iq52 : intQ Try.prog 52 = some .u64 := by kernel_rfl
theorem iq5 : intQ Try.prog 5 = some .u8 := by kernel_rfl
theorem iq2 : intQ Try.prog 2 = some .i64 := by kernel_rfl
theorem bq52 : boolQ Try.prog 52 = false := by kernel_rfl
theorem bq9 : boolQ Try.prog 9 = false := by kernel_rfl
theorem sq9 : strQ Try.prog 9 = true := by kernel_rfl
theorem sl54 : sliceQ Try.prog 54 = some 5 := by kernel_rfl

theorem wrapu64 (n : Int) (h : 0 ≤ n ∧ n < 18446744073709551616) : IntKind.u64.wrap n = n := by
  simp [IntKind.wrap, IntKind.bits, IntKind.signed]; omega
theorem wrapu8 (n : Int) (h : 0 ≤ n ∧ n < 256) : IntKind.u8.wrap n = n := by
  simp [IntKind.wrap, IntKind.bits, IntKind.signed]; omega

/-- a number's size, as 64 bits -/
theorem ev_size (n : Nat) (a : Int) (S : St) (ha : in64 a) : ev Try.prog E (n + 1) 53 [.int .i64 a] S = some (.ret (.int .u64 a.natAbs), S) := by
  unfold in64 at ha
  rw [ev_enter (n := n) (show E.ok 53 = true from rfl) Try.func53 (fn := Try.f53) rfl (Nat.le_of_ble_eq_true rfl) (by decide +kernel)]
  by_cases h : a < 0
  · have w1 : IntKind.u64.wrap (0 - IntKind.u64.wrap a) = a.natAbs := by
      simp [IntKind.wrap, IntKind.bits, IntKind.signed]; omega
    have w1' : IntKind.u64.wrap (-IntKind.u64.wrap a) = a.natAbs := by
      simp [IntKind.wrap, IntKind.bits, IntKind.signed]; omega
    simp [ev, evFunc, evUn, evIndex, evCode, lexA, lexF, afterDraw, noClash, FP.clash, stepA, wantedA, evOp, rho, rhoL, ofC0, ofC, argsA, upd, afterRegion, putA, goOp, evBin, evBuiltin, evLen, evMin2, evMax2, evCallee, evBox, evLoad, evStore, evFieldAddr, evField, evIndexAddr, evBuild, evBuildSlice, nth, rdc, wrc, fromBody, resA, finRet, oneOf, AV.cells?, AV.isCell, AV.sealed, AV.sealedL, AV.strip, AV.stripL, AV.low, AV.lowL, boxEqL_refl, -ev, -evFunc, evConv, Try.f53, bq2, iq2, iq52, h, w1, w1', fin_int]
  · have w1 : IntKind.u64.wrap a = a.natAbs := by
      simp [IntKind.wrap, IntKind.bits, IntKind.signed]; omega
    simp [ev, evFunc, evUn, evIndex, evCode, lexA, lexF, afterDraw, noClash, FP.clash, stepA, wantedA, evOp, rho, rhoL, ofC0, ofC, argsA, upd, afterRegion, putA, goOp, evBin, evBuiltin, evLen, evMin2, evMax2, evCallee, evBox, evLoad, evStore, evFieldAddr, evField, evIndexAddr, evBuild, evBuildSlice, nth, rdc, wrc, fromBody, resA, finRet, oneOf, AV.cells?, AV.isCell, AV.sealed, AV.sealedL, AV.strip, AV.stripL, AV.low, AV.lowL, boxEqL_refl, -ev, -evFunc, evConv, Try.f53, bq2, iq2, iq52, h, w1, fin_int]

def dig (d : Nat) : UInt8 := UInt8.ofNat (48 + d)
/-- decimals -/
def dg (u : Nat) : List UInt8 := if h : u < 10 then [dig u] else dg (u / 10) ++ [dig (u % 10)]
theorem dg_lt {u : Nat} (h : u < 10) : dg u = [dig u] := by rw [dg, dif_pos h]
theorem dg_ge {u : Nat} (h : ¬ u < 10) : dg u = dg (u / 10) ++ [dig (u % 10)] := by rw [dg, dif_neg h]
theorem dg_len : ∀ (k u : Nat), u < 10 ^ (k + 1) → (dg u).length ≤ k + 1
  | 0, u, h => by rw [dg_lt (by simpa using h)]; simp
  | k + 1, u, h => by
    by_cases hu : u < 10
    · rw [dg_lt hu]; simp
    · rw [dg_ge hu]
      have := dg_len k (u / 10) (by rw [Nat.div_lt_iff_lt_mul (by omega)]; rw [Nat.pow_succ] at h; exact h)
      simp; omega
theorem dg_len20 {u : Nat} (h : u < 18446744073709551616) : (dg u).length ≤ 20 := dg_len 19 u (by omega)
theorem dg_pos (u : Nat) : 1 ≤ (dg u).length := by
  by_cases h : u < 10
  · rw [dg_lt h]; simp
  · rw [dg_ge h]; simp
theorem dig_nat {d : Nat} (h : d < 10) : (dig d).toNat = 48 + d := by
  unfold dig
  simp [UInt8.toNat_ofNat']
  omega

def dec (a : Int) : List UInt8 := if a < 0 then 45 :: dg a.natAbs else dg a.natAbs

def bav (l : List UInt8) : List AV := l.map fun b => .int .u8 b.toNat
theorem bav_sizes : ∀ l : List UInt8, sizesOk 1 (bav l) = true
  | [] => rfl
  | b :: l => by
    have := bav_sizes l
    simp only [bav] at this
    simp [bav, sizesOk, AV.cells?, this]
theorem bav_bytes : ∀ l : List UInt8, bytesOf (bav l) = some l
  | [] => rfl
  | b :: l => by
    have := bav_bytes l
    simp only [bav] at this
    simp [bav, bytesOf, this]
theorem bav_len (l : List UInt8) : (bav l).length = l.length := by simp [bav]

def apTok (xs : List AV) (S : St) : Tok := if xs = [] then .clip else .own S.T.length (1 + xs.length)
def apEx (xs : List AV) : List Nat := if xs = [] then [] else [1 + xs.length]
theorem appB (a : Int) (l : List UInt8) (tok : Tok) (S : St) (h : l.length ≤ 1000) : evAppend Try.prog [54, 54] (.slice [.int .u8 a] .clip) (.slice (bav l) tok) S = some (.slice (.int .u8 a :: bav l) (apTok (bav l) S), ⟨S.H, S.T ++ apEx (bav l)⟩) := by
  have hs := bav_sizes l
  have hl := bav_len l
  simp only [evAppend, sq54, u54, elemsOf, z5, c5, by5]
  by_cases hn : bav l = []
  · simp [hn, apTok, apEx, sizesOk, AV.cells?]
  · simp [hn, apTok, apEx, hs, sizesOk, AV.cells?, Nat.add_comm]
    omega
end Go.Proofs.Ytemggoaefohliaa.PT
