/- Joined: NfE, NfF, NfG, NfH. No condition beyond those of its lemmas. -/
import Derived.Test.YtemggoaefohliaaDoorPxA
/- lex.Plain, ast.Kids, ast.span, evaluated. No condition. -/
namespace Go.Proofs.YtemggoaefohliaaDoor.NF
set_option linter.unusedVariables false
set_option linter.unusedSimpArgs false
open Go AE EX PT
set_option maxRecDepth 100000

theorem indexByte_lt0 : ∀ (l : List UInt8) (c : UInt8), decide (Lib.indexByte l c < 0) = l.all fun b => !(b == c)
  | [], c => by simp [Lib.indexByte]
  | b :: l, c => by
    have ih := indexByte_lt0 l c
    have hg := Lib.indexByte_ge l c
    cases e : (b == c)
    · have h1 : Lib.indexByte (b :: l) c = if Lib.indexByte l c = -1 then -1 else Lib.indexByte l c + 1 := by simp [Lib.indexByte, e]
      rw [h1, List.all_cons, e, ← ih]
      split
      · rename_i h
        simp [h]
      · simp; omega
    · simp [Lib.indexByte, e]

theorem badB_eq (c : UInt8) : badB c = ((c == 34) || (c == 10)) := by
  unfold badB
  congr 1
  · rw [Bool.eq_iff_iff]; simp only [beq_iff_eq]
    constructor
    · intro h; exact UInt8.toNat_inj.1 (by simp; omega)
    · intro h; subst h; rfl
  · rw [Bool.eq_iff_iff]; simp only [beq_iff_eq]
    constructor
    · intro h; exact UInt8.toNat_inj.1 (by simp; omega)
    · intro h; subst h; rfl
theorem plain_index (s : List UInt8) : (s.all fun c => !badB c) = (decide (Lib.indexByte s 34 < 0) && decide (Lib.indexByte s 10 < 0)) := by
  rw [indexByte_lt0, indexByte_lt0]
  induction s with
  | nil => rfl
  | cons c l ih =>
    rw [List.all_cons, List.all_cons, List.all_cons, ih, badB_eq, Bool.not_or]
    cases (!(c == 34)) <;> cases (!(c == 10)) <;> cases l.all (fun b => !(b == 34)) <;> cases l.all (fun b => !(b == 10)) <;> rfl

theorem ev_indexByte (n : Nat) (s : List UInt8) (c : Int) (S : St) : ev Tryd.prog E (n + 1) 38 [.str s, .int .u8 c] S = some (.ret (.int .i64 (Lib.indexByte s c.toNat.toUInt8)), S) := rfl

theorem ev_lPlain (n : Nat) (s : List UInt8) (S : St) : ev Tryd.prog E (n + 2) 46 [.str s] S = some (.ret (.bool (plainB s)), S) := by
  have h34 : ev Tryd.prog E (n + 1) 38 [.str s, .int .u8 34] S = some (.ret (.int .i64 (Lib.indexByte s 34)), S) := ev_indexByte n s 34 S
  have h10 : ev Tryd.prog E (n + 1) 38 [.str s, .int .u8 10] S = some (.ret (.int .i64 (Lib.indexByte s 10)), S) := ev_indexByte n s 10 S
  have hp : plainB s = (decide (s.length ≤ 32) && (decide (Lib.indexByte s 34 < 0) && decide (Lib.indexByte s 10 < 0))) := by rw [← plain_index]; rfl
  rw [hp, show n + 2 = (n + 1) + 1 from rfl, ev_enter (n := n + 1) (show E.ok 46 = true from rfl) Tryd.func46 (fn := Tryd.f46) rfl (Nat.le_of_ble_eq_true rfl) (by decide +kernel)]
  generalize Lib.indexByte s 34 = i34 at *
  generalize Lib.indexByte s 10 = i10 at *
  by_cases hs : s.length ≤ 32
  · have hz : (s.length : Int) ≤ 32 := by omega
    cases h2 : decide (i34 < 0) <;> cases h3 : decide (i10 < 0) <;>
      simp (disch := first | (simp only [List.length_append, List.length_cons, List.length_nil]; omega) | (simp; done) | assumption) [↓evOp_build, ↓evOp_bslice, evB2_int, evB2_bool, evB2_str, evB2_eqi, evB2_nei, evB2_eqn, evB2_nen, evB2_peq, evB2_pne, evB2_req, evB2_rne, evB2_zeq, evB2_zne, isC_c, isC_t, evAssert, Bool.or_true, Bool.true_or, rhoP_nil, rhoP_cons, evCode_skip, evCode_region, evCode_draw, evCode_seq, evCode_cond, evCode_block, evCode_loop, evCode_exit, evCode_ret, seqK_ite, seqK_none, seqK_norm, seqK_ret, seqK_exit, seqK_pan, condK_true, condK_false, condK_bool, blockK_ite, blockK_none, blockK_norm, blockK_ret, blockK_exit, blockK_pan, stepK_ite, stepK_none, stepK_ok, stepK_pan, drawK_ite, drawK_none, drawK_ok, drawK_pan, opK_ite, opK_none, opK_val, opK_pan, wantK_true, wantK_false, wantK_some, afterRegion_ite, afterDraw_ite, fromBody_ite, ite_bool, ite_int, stepA_K, doOp, noOp, lexA_nil, lexA_cons, lexF_nil, lexF_cons, afterDraw, noClash, panIn, lostF, FP.clash, wantedA, evOp, rho, rhoL, ofC0, ofC, argsA, upd, afterRegion, putA, goOp, evBin_add, evBin_sub, evBin_mul, evBin_quo, evBin_rem, evBin_eql, evBin_neq, evBin_lss, evBin_leq, evBin_gtr, evBin_geq, evBin_eqlB, evBin_neqB, evBin_addS, evBin_eqlS, evBin_neqS, evBin_lssS, evBin_leqS, evUn, evConv, evIndex, evBuiltin, evLen, evMin2, evMax2, evCallee, evBox, evLoad, evStore, evFieldAddr, evField, evIndexAddr, evBuild, evBuildSlice, evElems, evSlice, nth, rdc, wrc, fromBody, resA, finRet, oneOf, AV.cells?, AV.isCell, fin_int, fin_bool, fin_str, Tryd.f46, bq3, sq9, h34, h10, h2, h3, hs, hz]
  · have hz : ¬ (s.length : Int) ≤ 32 := by omega
    simp (disch := first | (simp only [List.length_append, List.length_cons, List.length_nil]; omega) | (simp; done) | assumption) [↓evOp_build, ↓evOp_bslice, evB2_int, evB2_bool, evB2_str, evB2_eqi, evB2_nei, evB2_eqn, evB2_nen, evB2_peq, evB2_pne, evB2_req, evB2_rne, evB2_zeq, evB2_zne, isC_c, isC_t, evAssert, Bool.or_true, Bool.true_or, rhoP_nil, rhoP_cons, evCode_skip, evCode_region, evCode_draw, evCode_seq, evCode_cond, evCode_block, evCode_loop, evCode_exit, evCode_ret, seqK_ite, seqK_none, seqK_norm, seqK_ret, seqK_exit, seqK_pan, condK_true, condK_false, condK_bool, blockK_ite, blockK_none, blockK_norm, blockK_ret, blockK_exit, blockK_pan, stepK_ite, stepK_none, stepK_ok, stepK_pan, drawK_ite, drawK_none, drawK_ok, drawK_pan, opK_ite, opK_none, opK_val, opK_pan, wantK_true, wantK_false, wantK_some, afterRegion_ite, afterDraw_ite, fromBody_ite, ite_bool, ite_int, stepA_K, doOp, noOp, lexA_nil, lexA_cons, lexF_nil, lexF_cons, afterDraw, noClash, panIn, lostF, FP.clash, wantedA, evOp, rho, rhoL, ofC0, ofC, argsA, upd, afterRegion, putA, goOp, evBin_add, evBin_sub, evBin_mul, evBin_quo, evBin_rem, evBin_eql, evBin_neq, evBin_lss, evBin_leq, evBin_gtr, evBin_geq, evBin_eqlB, evBin_neqB, evBin_addS, evBin_eqlS, evBin_neqS, evBin_lssS, evBin_leqS, evUn, evConv, evIndex, evBuiltin, evLen, evMin2, evMax2, evCallee, evBox, evLoad, evStore, evFieldAddr, evField, evIndexAddr, evBuild, evBuildSlice, evElems, evSlice, nth, rdc, wrc, fromBody, resA, finRet, oneOf, AV.cells?, AV.isCell, fin_int, fin_bool, fin_str, Tryd.f46, bq3, sq9, h34, h10, hs, hz]

theorem ev_aKids (n : Nat) (k : Int) (S : St) : ev Tryd.prog E (n + 1) 31 [.int .i64 k] S = some (.ret (.int .i64 (kidsI k)), S) := by
  rw [ev_enter (n := n) (show E.ok 31 = true from rfl) Tryd.func31 (fn := Tryd.f31) rfl (Nat.le_of_ble_eq_true rfl) (by decide +kernel)]
  by_cases hk : kinds k
  · rcases hk with rfl | rfl | rfl | rfl | rfl | rfl | rfl | rfl | rfl | rfl | rfl | rfl | rfl | rfl | rfl | rfl | rfl | rfl | rfl | rfl | rfl | rfl | rfl | rfl | rfl <;>
      simp (disch := first | (simp only [List.length_append, List.length_cons, List.length_nil]; omega) | (simp; done) | assumption) [↓evOp_build, ↓evOp_bslice, evB2_int, evB2_bool, evB2_str, evB2_eqi, evB2_nei, evB2_eqn, evB2_nen, evB2_peq, evB2_pne, evB2_req, evB2_rne, evB2_zeq, evB2_zne, isC_c, isC_t, evAssert, Bool.or_true, Bool.true_or, rhoP_nil, rhoP_cons, evCode_skip, evCode_region, evCode_draw, evCode_seq, evCode_cond, evCode_block, evCode_loop, evCode_exit, evCode_ret, seqK_ite, seqK_none, seqK_norm, seqK_ret, seqK_exit, seqK_pan, condK_true, condK_false, condK_bool, blockK_ite, blockK_none, blockK_norm, blockK_ret, blockK_exit, blockK_pan, stepK_ite, stepK_none, stepK_ok, stepK_pan, drawK_ite, drawK_none, drawK_ok, drawK_pan, opK_ite, opK_none, opK_val, opK_pan, wantK_true, wantK_false, wantK_some, afterRegion_ite, afterDraw_ite, fromBody_ite, ite_bool, ite_int, stepA_K, doOp, noOp, lexA_nil, lexA_cons, lexF_nil, lexF_cons, afterDraw, noClash, panIn, lostF, FP.clash, wantedA, evOp, rho, rhoL, ofC0, ofC, argsA, upd, afterRegion, putA, goOp, evBin_add, evBin_sub, evBin_mul, evBin_quo, evBin_rem, evBin_eql, evBin_neq, evBin_lss, evBin_leq, evBin_gtr, evBin_geq, evBin_eqlB, evBin_neqB, evBin_addS, evBin_eqlS, evBin_neqS, evBin_lssS, evBin_leqS, evUn, evConv, evIndex, evBuiltin, evLen, evMin2, evMax2, evCallee, evBox, evLoad, evStore, evFieldAddr, evField, evIndexAddr, evBuild, evBuildSlice, evElems, evSlice, nth, rdc, wrc, fromBody, resA, finRet, oneOf, AV.cells?, AV.isCell, fin_int, fin_bool, fin_str, Tryd.f31, bq3, kidsI]
  · have hk' := hk
    rw [kinds_iff] at hk'
    have q : ∀ j : Int, 1 ≤ j → j ≤ 25 → (k == j) = false := fun j h1 h2 => by simp; omega
    rw [kidsI_out hk]
    simp (disch := first | (simp only [List.length_append, List.length_cons, List.length_nil]; omega) | (simp; done) | assumption) [↓evOp_build, ↓evOp_bslice, evB2_int, evB2_bool, evB2_str, evB2_eqi, evB2_nei, evB2_eqn, evB2_nen, evB2_peq, evB2_pne, evB2_req, evB2_rne, evB2_zeq, evB2_zne, isC_c, isC_t, evAssert, Bool.or_true, Bool.true_or, rhoP_nil, rhoP_cons, evCode_skip, evCode_region, evCode_draw, evCode_seq, evCode_cond, evCode_block, evCode_loop, evCode_exit, evCode_ret, seqK_ite, seqK_none, seqK_norm, seqK_ret, seqK_exit, seqK_pan, condK_true, condK_false, condK_bool, blockK_ite, blockK_none, blockK_norm, blockK_ret, blockK_exit, blockK_pan, stepK_ite, stepK_none, stepK_ok, stepK_pan, drawK_ite, drawK_none, drawK_ok, drawK_pan, opK_ite, opK_none, opK_val, opK_pan, wantK_true, wantK_false, wantK_some, afterRegion_ite, afterDraw_ite, fromBody_ite, ite_bool, ite_int, stepA_K, doOp, noOp, lexA_nil, lexA_cons, lexF_nil, lexF_cons, afterDraw, noClash, panIn, lostF, FP.clash, wantedA, evOp, rho, rhoL, ofC0, ofC, argsA, upd, afterRegion, putA, goOp, evBin_add, evBin_sub, evBin_mul, evBin_quo, evBin_rem, evBin_eql, evBin_neq, evBin_lss, evBin_leq, evBin_gtr, evBin_geq, evBin_eqlB, evBin_neqB, evBin_addS, evBin_eqlS, evBin_neqS, evBin_lssS, evBin_leqS, evUn, evConv, evIndex, evBuiltin, evLen, evMin2, evMax2, evCallee, evBox, evLoad, evStore, evFieldAddr, evField, evIndexAddr, evBuild, evBuildSlice, evElems, evSlice, nth, rdc, wrc, fromBody, resA, finRet, oneOf, AV.cells?, AV.isCell, fin_int, fin_bool, fin_str, Tryd.f31, bq3, q 1 (by omega) (by omega), q 2 (by omega) (by omega), q 3 (by omega) (by omega), q 4 (by omega) (by omega), q 5 (by omega) (by omega), q 6 (by omega) (by omega), q 7 (by omega) (by omega), q 8 (by omega) (by omega), q 9 (by omega) (by omega), q 10 (by omega) (by omega), q 11 (by omega) (by omega), q 12 (by omega) (by omega), q 13 (by omega) (by omega), q 14 (by omega) (by omega), q 15 (by omega) (by omega), q 16 (by omega) (by omega), q 17 (by omega) (by omega), q 18 (by omega) (by omega), q 19 (by omega) (by omega), q 20 (by omega) (by omega), q 21 (by omega) (by omega), q 22 (by omega) (by omega), q 23 (by omega) (by omega), q 24 (by omega) (by omega), q 25 (by omega) (by omega)]

def spanB (lo hi : Int) : Bool := decide (0 ≤ lo) && (decide (lo ≤ hi) || hi == -1)
theorem spanB_iff (lo hi : Int) : spanB lo hi = true ↔ 0 ≤ lo ∧ (hi = -1 ∨ lo ≤ hi) := by
  simp [spanB]; omega
theorem ev_span (n : Nat) (k : Int) (nm : List UInt8) (a lo hi : Int) (ks : AV) (hks : ks.isCell = true) (S : St) :
    ev Tryd.prog E (n + 1) 47 [.agg [.int .i64 k, .str nm, .int .i64 a, .int .i64 lo, .int .i64 hi, ks]] S = some (.ret (.bool (spanB lo hi)), S) := by
  rw [ev_enter (n := n) (show E.ok 47 = true from rfl) Tryd.func47 (fn := Tryd.f47) rfl (Nat.le_of_ble_eq_true rfl) (by decide +kernel)]
  cases h1 : decide (0 ≤ lo) <;> cases h2 : decide (lo ≤ hi) <;> cases h3 : (hi == -1) <;>
    simp (disch := first | (simp only [List.length_append, List.length_cons, List.length_nil]; omega) | (simp; done) | assumption) [↓evOp_build, ↓evOp_bslice, evB2_int, evB2_bool, evB2_str, evB2_eqi, evB2_nei, evB2_eqn, evB2_nen, evB2_peq, evB2_pne, evB2_req, evB2_rne, evB2_zeq, evB2_zne, isC_c, isC_t, evAssert, Bool.or_true, Bool.true_or, rhoP_nil, rhoP_cons, evCode_skip, evCode_region, evCode_draw, evCode_seq, evCode_cond, evCode_block, evCode_loop, evCode_exit, evCode_ret, seqK_ite, seqK_none, seqK_norm, seqK_ret, seqK_exit, seqK_pan, condK_true, condK_false, condK_bool, blockK_ite, blockK_none, blockK_norm, blockK_ret, blockK_exit, blockK_pan, stepK_ite, stepK_none, stepK_ok, stepK_pan, drawK_ite, drawK_none, drawK_ok, drawK_pan, opK_ite, opK_none, opK_val, opK_pan, wantK_true, wantK_false, wantK_some, afterRegion_ite, afterDraw_ite, fromBody_ite, ite_bool, ite_int, stepA_K, doOp, noOp, lexA_nil, lexA_cons, lexF_nil, lexF_cons, afterDraw, noClash, panIn, lostF, FP.clash, wantedA, evOp, rho, rhoL, ofC0, ofC, argsA, upd, afterRegion, putA, goOp, evBin_add, evBin_sub, evBin_mul, evBin_quo, evBin_rem, evBin_eql, evBin_neq, evBin_lss, evBin_leq, evBin_gtr, evBin_geq, evBin_eqlB, evBin_neqB, evBin_addS, evBin_eqlS, evBin_neqS, evBin_lssS, evBin_leqS, evUn, evConv, evIndex, evBuiltin, evLen, evMin2, evMax2, evCallee, evBox, evLoad, evStore, evFieldAddr, evField, evIndexAddr, evBuild, evBuildSlice, evElems, evSlice, nth, rdc, wrc, fromBody, resA, finRet, oneOf, AV.cells?, AV.isCell, fin_int, fin_bool, fin_str, Tryd.f47, E_esc, k24, c24, a24, k2, c2, a2, fq3, fq4, bq2, hks, -AV.isCell, h1, h2, h3, spanB]
end Go.Proofs.YtemggoaefohliaaDoor.NF

/- What an expression has of its own (ast), evaluated. No condition. -/
namespace Go.Proofs.YtemggoaefohliaaDoor.NF
set_option linter.unusedVariables false
set_option linter.unusedSimpArgs false
open Go AE EX PT
set_option maxRecDepth 100000

def OwnOut (n : Nat) (k : Int) (nm : List UInt8) (a lo hi : Int) (ks : AV) (S : St) : Prop :=
  ∃ b, ev Tryd.prog E (n + 4) 29 [.agg [.int .i64 k, .str nm, .int .i64 a, .int .i64 lo, .int .i64 hi, ks]] S = some (.ret (.bool b), S) ∧ (b = true ↔ Fits k nm a lo hi)

set_option maxHeartbeats 4000000 in
theorem own_plain (n : Nat) (k : Int) (nm : List UInt8) (hl : nm.length ≤ 1048576) (hn : nm.length < n) (a lo hi : Int) (ks : AV) (hks : ks.isCell = true) (S : St)
    (hk : (k = 4 ∨ k = 7 ∨ k = 8 ∨ k = 9 ∨ k = 10 ∨ k = 11 ∨ k = 12 ∨ k = 14 ∨ k = 15 ∨ k = 16 ∨ k = 17 ∨ k = 18 ∨ k = 19 ∨ k = 20 ∨ k = 25)) : OwnOut n k nm a lo hi ks S := by
  unfold OwnOut
  have hps : E.ps 29 1 = [(1, 4), (1, 7), (4, 7), (1, 10), (4, 10), (7, 10)] := rfl
  have q1 : (k == 1) = false := by simp; omega
  have q2 : (k == 2) = false := by simp; omega
  have q3 : (k == 3) = false := by simp; omega
  have q13 : (k == 13) = false := by simp; omega
  have q5 : (k == 5) = false := by simp; omega
  have q6 : (k == 6) = false := by simp; omega
  have q21 : (k == 21) = false := by simp; omega
  have q22 : (k == 22) = false := by simp; omega
  have q23 : (k == 23) = false := by simp; omega
  have q24 : (k == 24) = false := by simp; omega
  rw [ev_enter (n := n + 3) (show E.ok 29 = true from rfl) Tryd.func29 (fn := Tryd.f29) rfl (Nat.le_of_ble_eq_true rfl) (by decide +kernel)]
  cases h0 : (nm == [])
  · refine ⟨false, ?_, iff_of_false (by simp) fun f => by have := f.none (by omega); subst this; simp at h0⟩
    simp (disch := first | (simp only [List.length_append, List.length_cons, List.length_nil]; omega) | (simp; done) | assumption) [↓evOp_build, ↓evOp_bslice, evB2_int, evB2_bool, evB2_str, evB2_eqi, evB2_nei, evB2_eqn, evB2_nen, evB2_peq, evB2_pne, evB2_req, evB2_rne, evB2_zeq, evB2_zne, isC_c, isC_t, evAssert, Bool.or_true, Bool.true_or, rhoP_nil, rhoP_cons, evCode_skip, evCode_region, evCode_draw, evCode_seq, evCode_cond, evCode_block, evCode_loop, evCode_exit, evCode_ret, seqK_ite, seqK_none, seqK_norm, seqK_ret, seqK_exit, seqK_pan, condK_true, condK_false, condK_bool, blockK_ite, blockK_none, blockK_norm, blockK_ret, blockK_exit, blockK_pan, stepK_ite, stepK_none, stepK_ok, stepK_pan, drawK_ite, drawK_none, drawK_ok, drawK_pan, opK_ite, opK_none, opK_val, opK_pan, wantK_true, wantK_false, wantK_some, afterRegion_ite, afterDraw_ite, fromBody_ite, ite_bool, ite_int, stepA_K, doOp, noOp, lexA_nil, lexA_cons, lexF_nil, lexF_cons, afterDraw, noClash, panIn, lostF, FP.clash, wantedA, evOp, rho, rhoL, ofC0, ofC, argsA, upd, afterRegion, putA, goOp, evBin_add, evBin_sub, evBin_mul, evBin_quo, evBin_rem, evBin_eql, evBin_neq, evBin_lss, evBin_leq, evBin_gtr, evBin_geq, evBin_eqlB, evBin_neqB, evBin_addS, evBin_eqlS, evBin_neqS, evBin_lssS, evBin_leqS, evUn, evConv, evIndex, evBuiltin, evLen, evMin2, evMax2, evCallee, evBox, evLoad, evStore, evFieldAddr, evField, evIndexAddr, evBuild, evBuildSlice, evElems, evSlice, nth, rdc, wrc, fromBody, resA, finRet, oneOf, AV.cells?, AV.isCell, fin_int, fin_bool, fin_str, Tryd.f29, E_esc, k24, c24, a24, k3, c3, a3, k2, c2, a2, k9, c9, a9, fq0, fq1, fq2, fq3, fq4, bq3, bq2, bq9, hks, -AV.isCell, hps, q1, q2, q3, q13, q5, q6, q21, q22, q23, q24, h0]
  cases h1 : (a == 0)
  · refine ⟨false, ?_, iff_of_false (by simp) fun f => by have := f.num (by omega) (by omega); subst this; simp at h1⟩
    simp (disch := first | (simp only [List.length_append, List.length_cons, List.length_nil]; omega) | (simp; done) | assumption) [↓evOp_build, ↓evOp_bslice, evB2_int, evB2_bool, evB2_str, evB2_eqi, evB2_nei, evB2_eqn, evB2_nen, evB2_peq, evB2_pne, evB2_req, evB2_rne, evB2_zeq, evB2_zne, isC_c, isC_t, evAssert, Bool.or_true, Bool.true_or, rhoP_nil, rhoP_cons, evCode_skip, evCode_region, evCode_draw, evCode_seq, evCode_cond, evCode_block, evCode_loop, evCode_exit, evCode_ret, seqK_ite, seqK_none, seqK_norm, seqK_ret, seqK_exit, seqK_pan, condK_true, condK_false, condK_bool, blockK_ite, blockK_none, blockK_norm, blockK_ret, blockK_exit, blockK_pan, stepK_ite, stepK_none, stepK_ok, stepK_pan, drawK_ite, drawK_none, drawK_ok, drawK_pan, opK_ite, opK_none, opK_val, opK_pan, wantK_true, wantK_false, wantK_some, afterRegion_ite, afterDraw_ite, fromBody_ite, ite_bool, ite_int, stepA_K, doOp, noOp, lexA_nil, lexA_cons, lexF_nil, lexF_cons, afterDraw, noClash, panIn, lostF, FP.clash, wantedA, evOp, rho, rhoL, ofC0, ofC, argsA, upd, afterRegion, putA, goOp, evBin_add, evBin_sub, evBin_mul, evBin_quo, evBin_rem, evBin_eql, evBin_neq, evBin_lss, evBin_leq, evBin_gtr, evBin_geq, evBin_eqlB, evBin_neqB, evBin_addS, evBin_eqlS, evBin_neqS, evBin_lssS, evBin_leqS, evUn, evConv, evIndex, evBuiltin, evLen, evMin2, evMax2, evCallee, evBox, evLoad, evStore, evFieldAddr, evField, evIndexAddr, evBuild, evBuildSlice, evElems, evSlice, nth, rdc, wrc, fromBody, resA, finRet, oneOf, AV.cells?, AV.isCell, fin_int, fin_bool, fin_str, Tryd.f29, E_esc, k24, c24, a24, k3, c3, a3, k2, c2, a2, k9, c9, a9, fq0, fq1, fq2, fq3, fq4, bq3, bq2, bq9, hks, -AV.isCell, hps, q1, q2, q3, q13, q5, q6, q21, q22, q23, q24, h0, h1]
  cases h2 : (lo == 0)
  · refine ⟨false, ?_, iff_of_false (by simp) fun f => by have := (f.zero (by omega)).1; subst this; simp at h2⟩
    simp (disch := first | (simp only [List.length_append, List.length_cons, List.length_nil]; omega) | (simp; done) | assumption) [↓evOp_build, ↓evOp_bslice, evB2_int, evB2_bool, evB2_str, evB2_eqi, evB2_nei, evB2_eqn, evB2_nen, evB2_peq, evB2_pne, evB2_req, evB2_rne, evB2_zeq, evB2_zne, isC_c, isC_t, evAssert, Bool.or_true, Bool.true_or, rhoP_nil, rhoP_cons, evCode_skip, evCode_region, evCode_draw, evCode_seq, evCode_cond, evCode_block, evCode_loop, evCode_exit, evCode_ret, seqK_ite, seqK_none, seqK_norm, seqK_ret, seqK_exit, seqK_pan, condK_true, condK_false, condK_bool, blockK_ite, blockK_none, blockK_norm, blockK_ret, blockK_exit, blockK_pan, stepK_ite, stepK_none, stepK_ok, stepK_pan, drawK_ite, drawK_none, drawK_ok, drawK_pan, opK_ite, opK_none, opK_val, opK_pan, wantK_true, wantK_false, wantK_some, afterRegion_ite, afterDraw_ite, fromBody_ite, ite_bool, ite_int, stepA_K, doOp, noOp, lexA_nil, lexA_cons, lexF_nil, lexF_cons, afterDraw, noClash, panIn, lostF, FP.clash, wantedA, evOp, rho, rhoL, ofC0, ofC, argsA, upd, afterRegion, putA, goOp, evBin_add, evBin_sub, evBin_mul, evBin_quo, evBin_rem, evBin_eql, evBin_neq, evBin_lss, evBin_leq, evBin_gtr, evBin_geq, evBin_eqlB, evBin_neqB, evBin_addS, evBin_eqlS, evBin_neqS, evBin_lssS, evBin_leqS, evUn, evConv, evIndex, evBuiltin, evLen, evMin2, evMax2, evCallee, evBox, evLoad, evStore, evFieldAddr, evField, evIndexAddr, evBuild, evBuildSlice, evElems, evSlice, nth, rdc, wrc, fromBody, resA, finRet, oneOf, AV.cells?, AV.isCell, fin_int, fin_bool, fin_str, Tryd.f29, E_esc, k24, c24, a24, k3, c3, a3, k2, c2, a2, k9, c9, a9, fq0, fq1, fq2, fq3, fq4, bq3, bq2, bq9, hks, -AV.isCell, hps, q1, q2, q3, q13, q5, q6, q21, q22, q23, q24, h0, h1, h2]
  refine ⟨hi == 0, ?_, fun h => ?_, fun f => by have := (f.zero (by omega)).2; simp [this]⟩
  · simp (disch := first | (simp only [List.length_append, List.length_cons, List.length_nil]; omega) | (simp; done) | assumption) [↓evOp_build, ↓evOp_bslice, evB2_int, evB2_bool, evB2_str, evB2_eqi, evB2_nei, evB2_eqn, evB2_nen, evB2_peq, evB2_pne, evB2_req, evB2_rne, evB2_zeq, evB2_zne, isC_c, isC_t, evAssert, Bool.or_true, Bool.true_or, rhoP_nil, rhoP_cons, evCode_skip, evCode_region, evCode_draw, evCode_seq, evCode_cond, evCode_block, evCode_loop, evCode_exit, evCode_ret, seqK_ite, seqK_none, seqK_norm, seqK_ret, seqK_exit, seqK_pan, condK_true, condK_false, condK_bool, blockK_ite, blockK_none, blockK_norm, blockK_ret, blockK_exit, blockK_pan, stepK_ite, stepK_none, stepK_ok, stepK_pan, drawK_ite, drawK_none, drawK_ok, drawK_pan, opK_ite, opK_none, opK_val, opK_pan, wantK_true, wantK_false, wantK_some, afterRegion_ite, afterDraw_ite, fromBody_ite, ite_bool, ite_int, stepA_K, doOp, noOp, lexA_nil, lexA_cons, lexF_nil, lexF_cons, afterDraw, noClash, panIn, lostF, FP.clash, wantedA, evOp, rho, rhoL, ofC0, ofC, argsA, upd, afterRegion, putA, goOp, evBin_add, evBin_sub, evBin_mul, evBin_quo, evBin_rem, evBin_eql, evBin_neq, evBin_lss, evBin_leq, evBin_gtr, evBin_geq, evBin_eqlB, evBin_neqB, evBin_addS, evBin_eqlS, evBin_neqS, evBin_lssS, evBin_leqS, evUn, evConv, evIndex, evBuiltin, evLen, evMin2, evMax2, evCallee, evBox, evLoad, evStore, evFieldAddr, evField, evIndexAddr, evBuild, evBuildSlice, evElems, evSlice, nth, rdc, wrc, fromBody, resA, finRet, oneOf, AV.cells?, AV.isCell, fin_int, fin_bool, fin_str, Tryd.f29, E_esc, k24, c24, a24, k3, c3, a3, k2, c2, a2, k9, c9, a9, fq0, fq1, fq2, fq3, fq4, bq3, bq2, bq9, hks, -AV.isCell, hps, q1, q2, q3, q13, q5, q6, q21, q22, q23, q24, h0, h1, h2]
  · have e1 : nm = [] := by simpa using h0
    have e2 : a = 0 := by simpa using h1
    have e3 : lo = 0 := by simpa using h2
    have e4 : hi = 0 := by simpa using h
    exact ⟨by omega, by omega, fun _ => e1, by omega, by omega, fun _ _ => e2, by omega, by omega, fun _ => ⟨e3, e4⟩⟩

set_option maxHeartbeats 4000000 in
theorem own_text (n : Nat) (k : Int) (nm : List UInt8) (hl : nm.length ≤ 1048576) (hn : nm.length < n) (a lo hi : Int) (ks : AV) (hks : ks.isCell = true) (S : St)
    (hk : k = 3) : OwnOut n k nm a lo hi ks S := by
  unfold OwnOut
  have hps : E.ps 29 1 = [(1, 4), (1, 7), (4, 7), (1, 10), (4, 10), (7, 10)] := rfl
  have hp : ev Tryd.prog E (n + 3) 46 [.str nm] S = some (.ret (.bool (plainB nm)), S) := ev_lPlain (n + 1) nm S
  rw [ev_enter (n := n + 3) (show E.ok 29 = true from rfl) Tryd.func29 (fn := Tryd.f29) rfl (Nat.le_of_ble_eq_true rfl) (by decide +kernel)]
  cases h0 : plainB nm
  · refine ⟨false, ?_, iff_of_false (by simp) fun f => by have := f.text (by omega); rw [h0] at this; cases this⟩
    rw [h0] at hp; subst hk; simp (disch := first | (simp only [List.length_append, List.length_cons, List.length_nil]; omega) | (simp; done) | assumption) [↓evOp_build, ↓evOp_bslice, evB2_int, evB2_bool, evB2_str, evB2_eqi, evB2_nei, evB2_eqn, evB2_nen, evB2_peq, evB2_pne, evB2_req, evB2_rne, evB2_zeq, evB2_zne, isC_c, isC_t, evAssert, Bool.or_true, Bool.true_or, rhoP_nil, rhoP_cons, evCode_skip, evCode_region, evCode_draw, evCode_seq, evCode_cond, evCode_block, evCode_loop, evCode_exit, evCode_ret, seqK_ite, seqK_none, seqK_norm, seqK_ret, seqK_exit, seqK_pan, condK_true, condK_false, condK_bool, blockK_ite, blockK_none, blockK_norm, blockK_ret, blockK_exit, blockK_pan, stepK_ite, stepK_none, stepK_ok, stepK_pan, drawK_ite, drawK_none, drawK_ok, drawK_pan, opK_ite, opK_none, opK_val, opK_pan, wantK_true, wantK_false, wantK_some, afterRegion_ite, afterDraw_ite, fromBody_ite, ite_bool, ite_int, stepA_K, doOp, noOp, lexA_nil, lexA_cons, lexF_nil, lexF_cons, afterDraw, noClash, panIn, lostF, FP.clash, wantedA, evOp, rho, rhoL, ofC0, ofC, argsA, upd, afterRegion, putA, goOp, evBin_add, evBin_sub, evBin_mul, evBin_quo, evBin_rem, evBin_eql, evBin_neq, evBin_lss, evBin_leq, evBin_gtr, evBin_geq, evBin_eqlB, evBin_neqB, evBin_addS, evBin_eqlS, evBin_neqS, evBin_lssS, evBin_leqS, evUn, evConv, evIndex, evBuiltin, evLen, evMin2, evMax2, evCallee, evBox, evLoad, evStore, evFieldAddr, evField, evIndexAddr, evBuild, evBuildSlice, evElems, evSlice, nth, rdc, wrc, fromBody, resA, finRet, oneOf, AV.cells?, AV.isCell, fin_int, fin_bool, fin_str, Tryd.f29, E_esc, k24, c24, a24, k3, c3, a3, k2, c2, a2, k9, c9, a9, fq0, fq1, fq2, fq3, fq4, bq3, bq2, bq9, hks, -AV.isCell, hps, h0, hp]
  rw [h0] at hp
  cases h1 : (a == 0)
  · refine ⟨false, ?_, iff_of_false (by simp) fun f => by have := f.num (by omega) (by omega); subst this; simp at h1⟩
    subst hk; simp (disch := first | (simp only [List.length_append, List.length_cons, List.length_nil]; omega) | (simp; done) | assumption) [↓evOp_build, ↓evOp_bslice, evB2_int, evB2_bool, evB2_str, evB2_eqi, evB2_nei, evB2_eqn, evB2_nen, evB2_peq, evB2_pne, evB2_req, evB2_rne, evB2_zeq, evB2_zne, isC_c, isC_t, evAssert, Bool.or_true, Bool.true_or, rhoP_nil, rhoP_cons, evCode_skip, evCode_region, evCode_draw, evCode_seq, evCode_cond, evCode_block, evCode_loop, evCode_exit, evCode_ret, seqK_ite, seqK_none, seqK_norm, seqK_ret, seqK_exit, seqK_pan, condK_true, condK_false, condK_bool, blockK_ite, blockK_none, blockK_norm, blockK_ret, blockK_exit, blockK_pan, stepK_ite, stepK_none, stepK_ok, stepK_pan, drawK_ite, drawK_none, drawK_ok, drawK_pan, opK_ite, opK_none, opK_val, opK_pan, wantK_true, wantK_false, wantK_some, afterRegion_ite, afterDraw_ite, fromBody_ite, ite_bool, ite_int, stepA_K, doOp, noOp, lexA_nil, lexA_cons, lexF_nil, lexF_cons, afterDraw, noClash, panIn, lostF, FP.clash, wantedA, evOp, rho, rhoL, ofC0, ofC, argsA, upd, afterRegion, putA, goOp, evBin_add, evBin_sub, evBin_mul, evBin_quo, evBin_rem, evBin_eql, evBin_neq, evBin_lss, evBin_leq, evBin_gtr, evBin_geq, evBin_eqlB, evBin_neqB, evBin_addS, evBin_eqlS, evBin_neqS, evBin_lssS, evBin_leqS, evUn, evConv, evIndex, evBuiltin, evLen, evMin2, evMax2, evCallee, evBox, evLoad, evStore, evFieldAddr, evField, evIndexAddr, evBuild, evBuildSlice, evElems, evSlice, nth, rdc, wrc, fromBody, resA, finRet, oneOf, AV.cells?, AV.isCell, fin_int, fin_bool, fin_str, Tryd.f29, E_esc, k24, c24, a24, k3, c3, a3, k2, c2, a2, k9, c9, a9, fq0, fq1, fq2, fq3, fq4, bq3, bq2, bq9, hks, -AV.isCell, hps, h0, hp, h1]
  cases h2 : (lo == 0)
  · refine ⟨false, ?_, iff_of_false (by simp) fun f => by have := (f.zero (by omega)).1; subst this; simp at h2⟩
    subst hk; simp (disch := first | (simp only [List.length_append, List.length_cons, List.length_nil]; omega) | (simp; done) | assumption) [↓evOp_build, ↓evOp_bslice, evB2_int, evB2_bool, evB2_str, evB2_eqi, evB2_nei, evB2_eqn, evB2_nen, evB2_peq, evB2_pne, evB2_req, evB2_rne, evB2_zeq, evB2_zne, isC_c, isC_t, evAssert, Bool.or_true, Bool.true_or, rhoP_nil, rhoP_cons, evCode_skip, evCode_region, evCode_draw, evCode_seq, evCode_cond, evCode_block, evCode_loop, evCode_exit, evCode_ret, seqK_ite, seqK_none, seqK_norm, seqK_ret, seqK_exit, seqK_pan, condK_true, condK_false, condK_bool, blockK_ite, blockK_none, blockK_norm, blockK_ret, blockK_exit, blockK_pan, stepK_ite, stepK_none, stepK_ok, stepK_pan, drawK_ite, drawK_none, drawK_ok, drawK_pan, opK_ite, opK_none, opK_val, opK_pan, wantK_true, wantK_false, wantK_some, afterRegion_ite, afterDraw_ite, fromBody_ite, ite_bool, ite_int, stepA_K, doOp, noOp, lexA_nil, lexA_cons, lexF_nil, lexF_cons, afterDraw, noClash, panIn, lostF, FP.clash, wantedA, evOp, rho, rhoL, ofC0, ofC, argsA, upd, afterRegion, putA, goOp, evBin_add, evBin_sub, evBin_mul, evBin_quo, evBin_rem, evBin_eql, evBin_neq, evBin_lss, evBin_leq, evBin_gtr, evBin_geq, evBin_eqlB, evBin_neqB, evBin_addS, evBin_eqlS, evBin_neqS, evBin_lssS, evBin_leqS, evUn, evConv, evIndex, evBuiltin, evLen, evMin2, evMax2, evCallee, evBox, evLoad, evStore, evFieldAddr, evField, evIndexAddr, evBuild, evBuildSlice, evElems, evSlice, nth, rdc, wrc, fromBody, resA, finRet, oneOf, AV.cells?, AV.isCell, fin_int, fin_bool, fin_str, Tryd.f29, E_esc, k24, c24, a24, k3, c3, a3, k2, c2, a2, k9, c9, a9, fq0, fq1, fq2, fq3, fq4, bq3, bq2, bq9, hks, -AV.isCell, hps, h0, hp, h1, h2]
  refine ⟨hi == 0, ?_, fun h => ?_, fun f => by have := (f.zero (by omega)).2; simp [this]⟩
  · subst hk; simp (disch := first | (simp only [List.length_append, List.length_cons, List.length_nil]; omega) | (simp; done) | assumption) [↓evOp_build, ↓evOp_bslice, evB2_int, evB2_bool, evB2_str, evB2_eqi, evB2_nei, evB2_eqn, evB2_nen, evB2_peq, evB2_pne, evB2_req, evB2_rne, evB2_zeq, evB2_zne, isC_c, isC_t, evAssert, Bool.or_true, Bool.true_or, rhoP_nil, rhoP_cons, evCode_skip, evCode_region, evCode_draw, evCode_seq, evCode_cond, evCode_block, evCode_loop, evCode_exit, evCode_ret, seqK_ite, seqK_none, seqK_norm, seqK_ret, seqK_exit, seqK_pan, condK_true, condK_false, condK_bool, blockK_ite, blockK_none, blockK_norm, blockK_ret, blockK_exit, blockK_pan, stepK_ite, stepK_none, stepK_ok, stepK_pan, drawK_ite, drawK_none, drawK_ok, drawK_pan, opK_ite, opK_none, opK_val, opK_pan, wantK_true, wantK_false, wantK_some, afterRegion_ite, afterDraw_ite, fromBody_ite, ite_bool, ite_int, stepA_K, doOp, noOp, lexA_nil, lexA_cons, lexF_nil, lexF_cons, afterDraw, noClash, panIn, lostF, FP.clash, wantedA, evOp, rho, rhoL, ofC0, ofC, argsA, upd, afterRegion, putA, goOp, evBin_add, evBin_sub, evBin_mul, evBin_quo, evBin_rem, evBin_eql, evBin_neq, evBin_lss, evBin_leq, evBin_gtr, evBin_geq, evBin_eqlB, evBin_neqB, evBin_addS, evBin_eqlS, evBin_neqS, evBin_lssS, evBin_leqS, evUn, evConv, evIndex, evBuiltin, evLen, evMin2, evMax2, evCallee, evBox, evLoad, evStore, evFieldAddr, evField, evIndexAddr, evBuild, evBuildSlice, evElems, evSlice, nth, rdc, wrc, fromBody, resA, finRet, oneOf, AV.cells?, AV.isCell, fin_int, fin_bool, fin_str, Tryd.f29, E_esc, k24, c24, a24, k3, c3, a3, k2, c2, a2, k9, c9, a9, fq0, fq1, fq2, fq3, fq4, bq3, bq2, bq9, hks, -AV.isCell, hps, h0, hp, h1, h2]
  · have e2 : a = 0 := by simpa using h1
    have e3 : lo = 0 := by simpa using h2
    have e4 : hi = 0 := by simpa using h
    exact ⟨fun _ => h0, by omega, fun hh => absurd (.inl hk) hh, by omega, by omega, fun _ _ => e2, by omega, by omega, fun _ => ⟨e3, e4⟩⟩

set_option maxHeartbeats 4000000 in
theorem own_named (n : Nat) (k : Int) (nm : List UInt8) (hl : nm.length ≤ 1048576) (hn : nm.length < n) (a lo hi : Int) (ks : AV) (hks : ks.isCell = true) (S : St)
    (hk : k = 5 ∨ k = 6 ∨ k = 21) : OwnOut n k nm a lo hi ks S := by
  unfold OwnOut
  have hps : E.ps 29 1 = [(1, 4), (1, 7), (4, 7), (1, 10), (4, 10), (7, 10)] := rfl
  have hp : ev Tryd.prog E (n + 3) 11 [.str nm] S = some (.ret (.bool (nameB nm)), S) := ev_lName (n + 1) nm hl (by omega) S
  rw [ev_enter (n := n + 3) (show E.ok 29 = true from rfl) Tryd.func29 (fn := Tryd.f29) rfl (Nat.le_of_ble_eq_true rfl) (by decide +kernel)]
  cases h0 : nameB nm
  · refine ⟨false, ?_, iff_of_false (by simp) fun f => by have := f.name (by omega); rw [h0] at this; cases this⟩
    rw [h0] at hp; rcases hk with rfl | rfl | rfl <;> simp (disch := first | (simp only [List.length_append, List.length_cons, List.length_nil]; omega) | (simp; done) | assumption) [↓evOp_build, ↓evOp_bslice, evB2_int, evB2_bool, evB2_str, evB2_eqi, evB2_nei, evB2_eqn, evB2_nen, evB2_peq, evB2_pne, evB2_req, evB2_rne, evB2_zeq, evB2_zne, isC_c, isC_t, evAssert, Bool.or_true, Bool.true_or, rhoP_nil, rhoP_cons, evCode_skip, evCode_region, evCode_draw, evCode_seq, evCode_cond, evCode_block, evCode_loop, evCode_exit, evCode_ret, seqK_ite, seqK_none, seqK_norm, seqK_ret, seqK_exit, seqK_pan, condK_true, condK_false, condK_bool, blockK_ite, blockK_none, blockK_norm, blockK_ret, blockK_exit, blockK_pan, stepK_ite, stepK_none, stepK_ok, stepK_pan, drawK_ite, drawK_none, drawK_ok, drawK_pan, opK_ite, opK_none, opK_val, opK_pan, wantK_true, wantK_false, wantK_some, afterRegion_ite, afterDraw_ite, fromBody_ite, ite_bool, ite_int, stepA_K, doOp, noOp, lexA_nil, lexA_cons, lexF_nil, lexF_cons, afterDraw, noClash, panIn, lostF, FP.clash, wantedA, evOp, rho, rhoL, ofC0, ofC, argsA, upd, afterRegion, putA, goOp, evBin_add, evBin_sub, evBin_mul, evBin_quo, evBin_rem, evBin_eql, evBin_neq, evBin_lss, evBin_leq, evBin_gtr, evBin_geq, evBin_eqlB, evBin_neqB, evBin_addS, evBin_eqlS, evBin_neqS, evBin_lssS, evBin_leqS, evUn, evConv, evIndex, evBuiltin, evLen, evMin2, evMax2, evCallee, evBox, evLoad, evStore, evFieldAddr, evField, evIndexAddr, evBuild, evBuildSlice, evElems, evSlice, nth, rdc, wrc, fromBody, resA, finRet, oneOf, AV.cells?, AV.isCell, fin_int, fin_bool, fin_str, Tryd.f29, E_esc, k24, c24, a24, k3, c3, a3, k2, c2, a2, k9, c9, a9, fq0, fq1, fq2, fq3, fq4, bq3, bq2, bq9, hks, -AV.isCell, hps, h0, hp]
  rw [h0] at hp
  cases h1 : (a == 0)
  · refine ⟨false, ?_, iff_of_false (by simp) fun f => by have := f.num (by omega) (by omega); subst this; simp at h1⟩
    rcases hk with rfl | rfl | rfl <;> simp (disch := first | (simp only [List.length_append, List.length_cons, List.length_nil]; omega) | (simp; done) | assumption) [↓evOp_build, ↓evOp_bslice, evB2_int, evB2_bool, evB2_str, evB2_eqi, evB2_nei, evB2_eqn, evB2_nen, evB2_peq, evB2_pne, evB2_req, evB2_rne, evB2_zeq, evB2_zne, isC_c, isC_t, evAssert, Bool.or_true, Bool.true_or, rhoP_nil, rhoP_cons, evCode_skip, evCode_region, evCode_draw, evCode_seq, evCode_cond, evCode_block, evCode_loop, evCode_exit, evCode_ret, seqK_ite, seqK_none, seqK_norm, seqK_ret, seqK_exit, seqK_pan, condK_true, condK_false, condK_bool, blockK_ite, blockK_none, blockK_norm, blockK_ret, blockK_exit, blockK_pan, stepK_ite, stepK_none, stepK_ok, stepK_pan, drawK_ite, drawK_none, drawK_ok, drawK_pan, opK_ite, opK_none, opK_val, opK_pan, wantK_true, wantK_false, wantK_some, afterRegion_ite, afterDraw_ite, fromBody_ite, ite_bool, ite_int, stepA_K, doOp, noOp, lexA_nil, lexA_cons, lexF_nil, lexF_cons, afterDraw, noClash, panIn, lostF, FP.clash, wantedA, evOp, rho, rhoL, ofC0, ofC, argsA, upd, afterRegion, putA, goOp, evBin_add, evBin_sub, evBin_mul, evBin_quo, evBin_rem, evBin_eql, evBin_neq, evBin_lss, evBin_leq, evBin_gtr, evBin_geq, evBin_eqlB, evBin_neqB, evBin_addS, evBin_eqlS, evBin_neqS, evBin_lssS, evBin_leqS, evUn, evConv, evIndex, evBuiltin, evLen, evMin2, evMax2, evCallee, evBox, evLoad, evStore, evFieldAddr, evField, evIndexAddr, evBuild, evBuildSlice, evElems, evSlice, nth, rdc, wrc, fromBody, resA, finRet, oneOf, AV.cells?, AV.isCell, fin_int, fin_bool, fin_str, Tryd.f29, E_esc, k24, c24, a24, k3, c3, a3, k2, c2, a2, k9, c9, a9, fq0, fq1, fq2, fq3, fq4, bq3, bq2, bq9, hks, -AV.isCell, hps, h0, hp, h1]
  cases h2 : (lo == 0)
  · refine ⟨false, ?_, iff_of_false (by simp) fun f => by have := (f.zero (by omega)).1; subst this; simp at h2⟩
    rcases hk with rfl | rfl | rfl <;> simp (disch := first | (simp only [List.length_append, List.length_cons, List.length_nil]; omega) | (simp; done) | assumption) [↓evOp_build, ↓evOp_bslice, evB2_int, evB2_bool, evB2_str, evB2_eqi, evB2_nei, evB2_eqn, evB2_nen, evB2_peq, evB2_pne, evB2_req, evB2_rne, evB2_zeq, evB2_zne, isC_c, isC_t, evAssert, Bool.or_true, Bool.true_or, rhoP_nil, rhoP_cons, evCode_skip, evCode_region, evCode_draw, evCode_seq, evCode_cond, evCode_block, evCode_loop, evCode_exit, evCode_ret, seqK_ite, seqK_none, seqK_norm, seqK_ret, seqK_exit, seqK_pan, condK_true, condK_false, condK_bool, blockK_ite, blockK_none, blockK_norm, blockK_ret, blockK_exit, blockK_pan, stepK_ite, stepK_none, stepK_ok, stepK_pan, drawK_ite, drawK_none, drawK_ok, drawK_pan, opK_ite, opK_none, opK_val, opK_pan, wantK_true, wantK_false, wantK_some, afterRegion_ite, afterDraw_ite, fromBody_ite, ite_bool, ite_int, stepA_K, doOp, noOp, lexA_nil, lexA_cons, lexF_nil, lexF_cons, afterDraw, noClash, panIn, lostF, FP.clash, wantedA, evOp, rho, rhoL, ofC0, ofC, argsA, upd, afterRegion, putA, goOp, evBin_add, evBin_sub, evBin_mul, evBin_quo, evBin_rem, evBin_eql, evBin_neq, evBin_lss, evBin_leq, evBin_gtr, evBin_geq, evBin_eqlB, evBin_neqB, evBin_addS, evBin_eqlS, evBin_neqS, evBin_lssS, evBin_leqS, evUn, evConv, evIndex, evBuiltin, evLen, evMin2, evMax2, evCallee, evBox, evLoad, evStore, evFieldAddr, evField, evIndexAddr, evBuild, evBuildSlice, evElems, evSlice, nth, rdc, wrc, fromBody, resA, finRet, oneOf, AV.cells?, AV.isCell, fin_int, fin_bool, fin_str, Tryd.f29, E_esc, k24, c24, a24, k3, c3, a3, k2, c2, a2, k9, c9, a9, fq0, fq1, fq2, fq3, fq4, bq3, bq2, bq9, hks, -AV.isCell, hps, h0, hp, h1, h2]
  refine ⟨hi == 0, ?_, fun h => ?_, fun f => by have := (f.zero (by omega)).2; simp [this]⟩
  · rcases hk with rfl | rfl | rfl <;> simp (disch := first | (simp only [List.length_append, List.length_cons, List.length_nil]; omega) | (simp; done) | assumption) [↓evOp_build, ↓evOp_bslice, evB2_int, evB2_bool, evB2_str, evB2_eqi, evB2_nei, evB2_eqn, evB2_nen, evB2_peq, evB2_pne, evB2_req, evB2_rne, evB2_zeq, evB2_zne, isC_c, isC_t, evAssert, Bool.or_true, Bool.true_or, rhoP_nil, rhoP_cons, evCode_skip, evCode_region, evCode_draw, evCode_seq, evCode_cond, evCode_block, evCode_loop, evCode_exit, evCode_ret, seqK_ite, seqK_none, seqK_norm, seqK_ret, seqK_exit, seqK_pan, condK_true, condK_false, condK_bool, blockK_ite, blockK_none, blockK_norm, blockK_ret, blockK_exit, blockK_pan, stepK_ite, stepK_none, stepK_ok, stepK_pan, drawK_ite, drawK_none, drawK_ok, drawK_pan, opK_ite, opK_none, opK_val, opK_pan, wantK_true, wantK_false, wantK_some, afterRegion_ite, afterDraw_ite, fromBody_ite, ite_bool, ite_int, stepA_K, doOp, noOp, lexA_nil, lexA_cons, lexF_nil, lexF_cons, afterDraw, noClash, panIn, lostF, FP.clash, wantedA, evOp, rho, rhoL, ofC0, ofC, argsA, upd, afterRegion, putA, goOp, evBin_add, evBin_sub, evBin_mul, evBin_quo, evBin_rem, evBin_eql, evBin_neq, evBin_lss, evBin_leq, evBin_gtr, evBin_geq, evBin_eqlB, evBin_neqB, evBin_addS, evBin_eqlS, evBin_neqS, evBin_lssS, evBin_leqS, evUn, evConv, evIndex, evBuiltin, evLen, evMin2, evMax2, evCallee, evBox, evLoad, evStore, evFieldAddr, evField, evIndexAddr, evBuild, evBuildSlice, evElems, evSlice, nth, rdc, wrc, fromBody, resA, finRet, oneOf, AV.cells?, AV.isCell, fin_int, fin_bool, fin_str, Tryd.f29, E_esc, k24, c24, a24, k3, c3, a3, k2, c2, a2, k9, c9, a9, fq0, fq1, fq2, fq3, fq4, bq3, bq2, bq9, hks, -AV.isCell, hps, h0, hp, h1, h2]
  · have e2 : a = 0 := by simpa using h1
    have e3 : lo = 0 := by simpa using h2
    have e4 : hi = 0 := by simpa using h
    exact ⟨by omega, fun _ => h0, by omega, by omega, by omega, fun _ _ => e2, by omega, by omega, fun _ => ⟨e3, e4⟩⟩

set_option maxHeartbeats 4000000 in
theorem own_times (n : Nat) (k : Int) (nm : List UInt8) (hl : nm.length ≤ 1048576) (hn : nm.length < n) (a lo hi : Int) (ks : AV) (hks : ks.isCell = true) (S : St)
    (hk : k = 13) : OwnOut n k nm a lo hi ks S := by
  unfold OwnOut
  have hps : E.ps 29 1 = [(1, 4), (1, 7), (4, 7), (1, 10), (4, 10), (7, 10)] := rfl
  have hp : ev Tryd.prog E (n + 3) 11 [.str nm] S = some (.ret (.bool (nameB nm)), S) := ev_lName (n + 1) nm hl (by omega) S
  rw [ev_enter (n := n + 3) (show E.ok 29 = true from rfl) Tryd.func29 (fn := Tryd.f29) rfl (Nat.le_of_ble_eq_true rfl) (by decide +kernel)]
  cases h0 : nameB nm
  · refine ⟨false, ?_, iff_of_false (by simp) fun f => by have := f.name (by omega); rw [h0] at this; cases this⟩
    rw [h0] at hp; subst hk; simp (disch := first | (simp only [List.length_append, List.length_cons, List.length_nil]; omega) | (simp; done) | assumption) [↓evOp_build, ↓evOp_bslice, evB2_int, evB2_bool, evB2_str, evB2_eqi, evB2_nei, evB2_eqn, evB2_nen, evB2_peq, evB2_pne, evB2_req, evB2_rne, evB2_zeq, evB2_zne, isC_c, isC_t, evAssert, Bool.or_true, Bool.true_or, rhoP_nil, rhoP_cons, evCode_skip, evCode_region, evCode_draw, evCode_seq, evCode_cond, evCode_block, evCode_loop, evCode_exit, evCode_ret, seqK_ite, seqK_none, seqK_norm, seqK_ret, seqK_exit, seqK_pan, condK_true, condK_false, condK_bool, blockK_ite, blockK_none, blockK_norm, blockK_ret, blockK_exit, blockK_pan, stepK_ite, stepK_none, stepK_ok, stepK_pan, drawK_ite, drawK_none, drawK_ok, drawK_pan, opK_ite, opK_none, opK_val, opK_pan, wantK_true, wantK_false, wantK_some, afterRegion_ite, afterDraw_ite, fromBody_ite, ite_bool, ite_int, stepA_K, doOp, noOp, lexA_nil, lexA_cons, lexF_nil, lexF_cons, afterDraw, noClash, panIn, lostF, FP.clash, wantedA, evOp, rho, rhoL, ofC0, ofC, argsA, upd, afterRegion, putA, goOp, evBin_add, evBin_sub, evBin_mul, evBin_quo, evBin_rem, evBin_eql, evBin_neq, evBin_lss, evBin_leq, evBin_gtr, evBin_geq, evBin_eqlB, evBin_neqB, evBin_addS, evBin_eqlS, evBin_neqS, evBin_lssS, evBin_leqS, evUn, evConv, evIndex, evBuiltin, evLen, evMin2, evMax2, evCallee, evBox, evLoad, evStore, evFieldAddr, evField, evIndexAddr, evBuild, evBuildSlice, evElems, evSlice, nth, rdc, wrc, fromBody, resA, finRet, oneOf, AV.cells?, AV.isCell, fin_int, fin_bool, fin_str, Tryd.f29, E_esc, k24, c24, a24, k3, c3, a3, k2, c2, a2, k9, c9, a9, fq0, fq1, fq2, fq3, fq4, bq3, bq2, bq9, hks, -AV.isCell, hps, h0, hp]
  rw [h0] at hp
  cases h1 : (a == 0)
  · refine ⟨false, ?_, iff_of_false (by simp) fun f => by have := f.num (by omega) (by omega); subst this; simp at h1⟩
    subst hk; simp (disch := first | (simp only [List.length_append, List.length_cons, List.length_nil]; omega) | (simp; done) | assumption) [↓evOp_build, ↓evOp_bslice, evB2_int, evB2_bool, evB2_str, evB2_eqi, evB2_nei, evB2_eqn, evB2_nen, evB2_peq, evB2_pne, evB2_req, evB2_rne, evB2_zeq, evB2_zne, isC_c, isC_t, evAssert, Bool.or_true, Bool.true_or, rhoP_nil, rhoP_cons, evCode_skip, evCode_region, evCode_draw, evCode_seq, evCode_cond, evCode_block, evCode_loop, evCode_exit, evCode_ret, seqK_ite, seqK_none, seqK_norm, seqK_ret, seqK_exit, seqK_pan, condK_true, condK_false, condK_bool, blockK_ite, blockK_none, blockK_norm, blockK_ret, blockK_exit, blockK_pan, stepK_ite, stepK_none, stepK_ok, stepK_pan, drawK_ite, drawK_none, drawK_ok, drawK_pan, opK_ite, opK_none, opK_val, opK_pan, wantK_true, wantK_false, wantK_some, afterRegion_ite, afterDraw_ite, fromBody_ite, ite_bool, ite_int, stepA_K, doOp, noOp, lexA_nil, lexA_cons, lexF_nil, lexF_cons, afterDraw, noClash, panIn, lostF, FP.clash, wantedA, evOp, rho, rhoL, ofC0, ofC, argsA, upd, afterRegion, putA, goOp, evBin_add, evBin_sub, evBin_mul, evBin_quo, evBin_rem, evBin_eql, evBin_neq, evBin_lss, evBin_leq, evBin_gtr, evBin_geq, evBin_eqlB, evBin_neqB, evBin_addS, evBin_eqlS, evBin_neqS, evBin_lssS, evBin_leqS, evUn, evConv, evIndex, evBuiltin, evLen, evMin2, evMax2, evCallee, evBox, evLoad, evStore, evFieldAddr, evField, evIndexAddr, evBuild, evBuildSlice, evElems, evSlice, nth, rdc, wrc, fromBody, resA, finRet, oneOf, AV.cells?, AV.isCell, fin_int, fin_bool, fin_str, Tryd.f29, E_esc, k24, c24, a24, k3, c3, a3, k2, c2, a2, k9, c9, a9, fq0, fq1, fq2, fq3, fq4, bq3, bq2, bq9, hks, -AV.isCell, hps, h0, hp, h1]
  cases h2 : (lo == 0)
  · refine ⟨false, ?_, iff_of_false (by simp) fun f => by have := (f.times hk).1; subst this; simp at h2⟩
    subst hk; simp (disch := first | (simp only [List.length_append, List.length_cons, List.length_nil]; omega) | (simp; done) | assumption) [↓evOp_build, ↓evOp_bslice, evB2_int, evB2_bool, evB2_str, evB2_eqi, evB2_nei, evB2_eqn, evB2_nen, evB2_peq, evB2_pne, evB2_req, evB2_rne, evB2_zeq, evB2_zne, isC_c, isC_t, evAssert, Bool.or_true, Bool.true_or, rhoP_nil, rhoP_cons, evCode_skip, evCode_region, evCode_draw, evCode_seq, evCode_cond, evCode_block, evCode_loop, evCode_exit, evCode_ret, seqK_ite, seqK_none, seqK_norm, seqK_ret, seqK_exit, seqK_pan, condK_true, condK_false, condK_bool, blockK_ite, blockK_none, blockK_norm, blockK_ret, blockK_exit, blockK_pan, stepK_ite, stepK_none, stepK_ok, stepK_pan, drawK_ite, drawK_none, drawK_ok, drawK_pan, opK_ite, opK_none, opK_val, opK_pan, wantK_true, wantK_false, wantK_some, afterRegion_ite, afterDraw_ite, fromBody_ite, ite_bool, ite_int, stepA_K, doOp, noOp, lexA_nil, lexA_cons, lexF_nil, lexF_cons, afterDraw, noClash, panIn, lostF, FP.clash, wantedA, evOp, rho, rhoL, ofC0, ofC, argsA, upd, afterRegion, putA, goOp, evBin_add, evBin_sub, evBin_mul, evBin_quo, evBin_rem, evBin_eql, evBin_neq, evBin_lss, evBin_leq, evBin_gtr, evBin_geq, evBin_eqlB, evBin_neqB, evBin_addS, evBin_eqlS, evBin_neqS, evBin_lssS, evBin_leqS, evUn, evConv, evIndex, evBuiltin, evLen, evMin2, evMax2, evCallee, evBox, evLoad, evStore, evFieldAddr, evField, evIndexAddr, evBuild, evBuildSlice, evElems, evSlice, nth, rdc, wrc, fromBody, resA, finRet, oneOf, AV.cells?, AV.isCell, fin_int, fin_bool, fin_str, Tryd.f29, E_esc, k24, c24, a24, k3, c3, a3, k2, c2, a2, k9, c9, a9, fq0, fq1, fq2, fq3, fq4, bq3, bq2, bq9, hks, -AV.isCell, hps, h0, hp, h1, h2]
  refine ⟨decide (0 ≤ hi), ?_, fun h => ?_, fun f => by have := (f.times hk).2; simp [this]⟩
  · subst hk; simp (disch := first | (simp only [List.length_append, List.length_cons, List.length_nil]; omega) | (simp; done) | assumption) [↓evOp_build, ↓evOp_bslice, evB2_int, evB2_bool, evB2_str, evB2_eqi, evB2_nei, evB2_eqn, evB2_nen, evB2_peq, evB2_pne, evB2_req, evB2_rne, evB2_zeq, evB2_zne, isC_c, isC_t, evAssert, Bool.or_true, Bool.true_or, rhoP_nil, rhoP_cons, evCode_skip, evCode_region, evCode_draw, evCode_seq, evCode_cond, evCode_block, evCode_loop, evCode_exit, evCode_ret, seqK_ite, seqK_none, seqK_norm, seqK_ret, seqK_exit, seqK_pan, condK_true, condK_false, condK_bool, blockK_ite, blockK_none, blockK_norm, blockK_ret, blockK_exit, blockK_pan, stepK_ite, stepK_none, stepK_ok, stepK_pan, drawK_ite, drawK_none, drawK_ok, drawK_pan, opK_ite, opK_none, opK_val, opK_pan, wantK_true, wantK_false, wantK_some, afterRegion_ite, afterDraw_ite, fromBody_ite, ite_bool, ite_int, stepA_K, doOp, noOp, lexA_nil, lexA_cons, lexF_nil, lexF_cons, afterDraw, noClash, panIn, lostF, FP.clash, wantedA, evOp, rho, rhoL, ofC0, ofC, argsA, upd, afterRegion, putA, goOp, evBin_add, evBin_sub, evBin_mul, evBin_quo, evBin_rem, evBin_eql, evBin_neq, evBin_lss, evBin_leq, evBin_gtr, evBin_geq, evBin_eqlB, evBin_neqB, evBin_addS, evBin_eqlS, evBin_neqS, evBin_lssS, evBin_leqS, evUn, evConv, evIndex, evBuiltin, evLen, evMin2, evMax2, evCallee, evBox, evLoad, evStore, evFieldAddr, evField, evIndexAddr, evBuild, evBuildSlice, evElems, evSlice, nth, rdc, wrc, fromBody, resA, finRet, oneOf, AV.cells?, AV.isCell, fin_int, fin_bool, fin_str, Tryd.f29, E_esc, k24, c24, a24, k3, c3, a3, k2, c2, a2, k9, c9, a9, fq0, fq1, fq2, fq3, fq4, bq3, bq2, bq9, hks, -AV.isCell, hps, h0, hp, h1, h2]
  · have e2 : a = 0 := by simpa using h1
    have e3 : lo = 0 := by simpa using h2
    have e4 : 0 ≤ hi := by simpa using h
    exact ⟨by omega, fun _ => h0, by omega, by omega, by omega, fun _ _ => e2, by omega, fun _ => ⟨e3, e4⟩, by omega⟩

set_option maxHeartbeats 4000000 in
theorem own_int (n : Nat) (k : Int) (nm : List UInt8) (hl : nm.length ≤ 1048576) (hn : nm.length < n) (a lo hi : Int) (ks : AV) (hks : ks.isCell = true) (S : St)
    (hk : k = 1) : OwnOut n k nm a lo hi ks S := by
  unfold OwnOut
  have hps : E.ps 29 1 = [(1, 4), (1, 7), (4, 7), (1, 10), (4, 10), (7, 10)] := rfl
  rw [ev_enter (n := n + 3) (show E.ok 29 = true from rfl) Tryd.func29 (fn := Tryd.f29) rfl (Nat.le_of_ble_eq_true rfl) (by decide +kernel)]
  cases h0 : (nm == [])
  · refine ⟨false, ?_, iff_of_false (by simp) fun f => by have := f.none (by omega); subst this; simp at h0⟩
    subst hk; simp (disch := first | (simp only [List.length_append, List.length_cons, List.length_nil]; omega) | (simp; done) | assumption) [↓evOp_build, ↓evOp_bslice, evB2_int, evB2_bool, evB2_str, evB2_eqi, evB2_nei, evB2_eqn, evB2_nen, evB2_peq, evB2_pne, evB2_req, evB2_rne, evB2_zeq, evB2_zne, isC_c, isC_t, evAssert, Bool.or_true, Bool.true_or, rhoP_nil, rhoP_cons, evCode_skip, evCode_region, evCode_draw, evCode_seq, evCode_cond, evCode_block, evCode_loop, evCode_exit, evCode_ret, seqK_ite, seqK_none, seqK_norm, seqK_ret, seqK_exit, seqK_pan, condK_true, condK_false, condK_bool, blockK_ite, blockK_none, blockK_norm, blockK_ret, blockK_exit, blockK_pan, stepK_ite, stepK_none, stepK_ok, stepK_pan, drawK_ite, drawK_none, drawK_ok, drawK_pan, opK_ite, opK_none, opK_val, opK_pan, wantK_true, wantK_false, wantK_some, afterRegion_ite, afterDraw_ite, fromBody_ite, ite_bool, ite_int, stepA_K, doOp, noOp, lexA_nil, lexA_cons, lexF_nil, lexF_cons, afterDraw, noClash, panIn, lostF, FP.clash, wantedA, evOp, rho, rhoL, ofC0, ofC, argsA, upd, afterRegion, putA, goOp, evBin_add, evBin_sub, evBin_mul, evBin_quo, evBin_rem, evBin_eql, evBin_neq, evBin_lss, evBin_leq, evBin_gtr, evBin_geq, evBin_eqlB, evBin_neqB, evBin_addS, evBin_eqlS, evBin_neqS, evBin_lssS, evBin_leqS, evUn, evConv, evIndex, evBuiltin, evLen, evMin2, evMax2, evCallee, evBox, evLoad, evStore, evFieldAddr, evField, evIndexAddr, evBuild, evBuildSlice, evElems, evSlice, nth, rdc, wrc, fromBody, resA, finRet, oneOf, AV.cells?, AV.isCell, fin_int, fin_bool, fin_str, Tryd.f29, E_esc, k24, c24, a24, k3, c3, a3, k2, c2, a2, k9, c9, a9, fq0, fq1, fq2, fq3, fq4, bq3, bq2, bq9, hks, -AV.isCell, hps, h0]
  cases h1 : decide (0 ≤ a)
  · refine ⟨false, ?_, iff_of_false (by simp) fun f => by have := f.int (by omega); simp at h1; omega⟩
    subst hk; simp (disch := first | (simp only [List.length_append, List.length_cons, List.length_nil]; omega) | (simp; done) | assumption) [↓evOp_build, ↓evOp_bslice, evB2_int, evB2_bool, evB2_str, evB2_eqi, evB2_nei, evB2_eqn, evB2_nen, evB2_peq, evB2_pne, evB2_req, evB2_rne, evB2_zeq, evB2_zne, isC_c, isC_t, evAssert, Bool.or_true, Bool.true_or, rhoP_nil, rhoP_cons, evCode_skip, evCode_region, evCode_draw, evCode_seq, evCode_cond, evCode_block, evCode_loop, evCode_exit, evCode_ret, seqK_ite, seqK_none, seqK_norm, seqK_ret, seqK_exit, seqK_pan, condK_true, condK_false, condK_bool, blockK_ite, blockK_none, blockK_norm, blockK_ret, blockK_exit, blockK_pan, stepK_ite, stepK_none, stepK_ok, stepK_pan, drawK_ite, drawK_none, drawK_ok, drawK_pan, opK_ite, opK_none, opK_val, opK_pan, wantK_true, wantK_false, wantK_some, afterRegion_ite, afterDraw_ite, fromBody_ite, ite_bool, ite_int, stepA_K, doOp, noOp, lexA_nil, lexA_cons, lexF_nil, lexF_cons, afterDraw, noClash, panIn, lostF, FP.clash, wantedA, evOp, rho, rhoL, ofC0, ofC, argsA, upd, afterRegion, putA, goOp, evBin_add, evBin_sub, evBin_mul, evBin_quo, evBin_rem, evBin_eql, evBin_neq, evBin_lss, evBin_leq, evBin_gtr, evBin_geq, evBin_eqlB, evBin_neqB, evBin_addS, evBin_eqlS, evBin_neqS, evBin_lssS, evBin_leqS, evUn, evConv, evIndex, evBuiltin, evLen, evMin2, evMax2, evCallee, evBox, evLoad, evStore, evFieldAddr, evField, evIndexAddr, evBuild, evBuildSlice, evElems, evSlice, nth, rdc, wrc, fromBody, resA, finRet, oneOf, AV.cells?, AV.isCell, fin_int, fin_bool, fin_str, Tryd.f29, E_esc, k24, c24, a24, k3, c3, a3, k2, c2, a2, k9, c9, a9, fq0, fq1, fq2, fq3, fq4, bq3, bq2, bq9, hks, -AV.isCell, hps, h0, h1]
  cases h2 : (lo == 0)
  · refine ⟨false, ?_, iff_of_false (by simp) fun f => by have := (f.zero (by omega)).1; subst this; simp at h2⟩
    subst hk; simp (disch := first | (simp only [List.length_append, List.length_cons, List.length_nil]; omega) | (simp; done) | assumption) [↓evOp_build, ↓evOp_bslice, evB2_int, evB2_bool, evB2_str, evB2_eqi, evB2_nei, evB2_eqn, evB2_nen, evB2_peq, evB2_pne, evB2_req, evB2_rne, evB2_zeq, evB2_zne, isC_c, isC_t, evAssert, Bool.or_true, Bool.true_or, rhoP_nil, rhoP_cons, evCode_skip, evCode_region, evCode_draw, evCode_seq, evCode_cond, evCode_block, evCode_loop, evCode_exit, evCode_ret, seqK_ite, seqK_none, seqK_norm, seqK_ret, seqK_exit, seqK_pan, condK_true, condK_false, condK_bool, blockK_ite, blockK_none, blockK_norm, blockK_ret, blockK_exit, blockK_pan, stepK_ite, stepK_none, stepK_ok, stepK_pan, drawK_ite, drawK_none, drawK_ok, drawK_pan, opK_ite, opK_none, opK_val, opK_pan, wantK_true, wantK_false, wantK_some, afterRegion_ite, afterDraw_ite, fromBody_ite, ite_bool, ite_int, stepA_K, doOp, noOp, lexA_nil, lexA_cons, lexF_nil, lexF_cons, afterDraw, noClash, panIn, lostF, FP.clash, wantedA, evOp, rho, rhoL, ofC0, ofC, argsA, upd, afterRegion, putA, goOp, evBin_add, evBin_sub, evBin_mul, evBin_quo, evBin_rem, evBin_eql, evBin_neq, evBin_lss, evBin_leq, evBin_gtr, evBin_geq, evBin_eqlB, evBin_neqB, evBin_addS, evBin_eqlS, evBin_neqS, evBin_lssS, evBin_leqS, evUn, evConv, evIndex, evBuiltin, evLen, evMin2, evMax2, evCallee, evBox, evLoad, evStore, evFieldAddr, evField, evIndexAddr, evBuild, evBuildSlice, evElems, evSlice, nth, rdc, wrc, fromBody, resA, finRet, oneOf, AV.cells?, AV.isCell, fin_int, fin_bool, fin_str, Tryd.f29, E_esc, k24, c24, a24, k3, c3, a3, k2, c2, a2, k9, c9, a9, fq0, fq1, fq2, fq3, fq4, bq3, bq2, bq9, hks, -AV.isCell, hps, h0, h1, h2]
  refine ⟨hi == 0, ?_, fun h => ?_, fun f => by have := (f.zero (by omega)).2; simp [this]⟩
  · subst hk; simp (disch := first | (simp only [List.length_append, List.length_cons, List.length_nil]; omega) | (simp; done) | assumption) [↓evOp_build, ↓evOp_bslice, evB2_int, evB2_bool, evB2_str, evB2_eqi, evB2_nei, evB2_eqn, evB2_nen, evB2_peq, evB2_pne, evB2_req, evB2_rne, evB2_zeq, evB2_zne, isC_c, isC_t, evAssert, Bool.or_true, Bool.true_or, rhoP_nil, rhoP_cons, evCode_skip, evCode_region, evCode_draw, evCode_seq, evCode_cond, evCode_block, evCode_loop, evCode_exit, evCode_ret, seqK_ite, seqK_none, seqK_norm, seqK_ret, seqK_exit, seqK_pan, condK_true, condK_false, condK_bool, blockK_ite, blockK_none, blockK_norm, blockK_ret, blockK_exit, blockK_pan, stepK_ite, stepK_none, stepK_ok, stepK_pan, drawK_ite, drawK_none, drawK_ok, drawK_pan, opK_ite, opK_none, opK_val, opK_pan, wantK_true, wantK_false, wantK_some, afterRegion_ite, afterDraw_ite, fromBody_ite, ite_bool, ite_int, stepA_K, doOp, noOp, lexA_nil, lexA_cons, lexF_nil, lexF_cons, afterDraw, noClash, panIn, lostF, FP.clash, wantedA, evOp, rho, rhoL, ofC0, ofC, argsA, upd, afterRegion, putA, goOp, evBin_add, evBin_sub, evBin_mul, evBin_quo, evBin_rem, evBin_eql, evBin_neq, evBin_lss, evBin_leq, evBin_gtr, evBin_geq, evBin_eqlB, evBin_neqB, evBin_addS, evBin_eqlS, evBin_neqS, evBin_lssS, evBin_leqS, evUn, evConv, evIndex, evBuiltin, evLen, evMin2, evMax2, evCallee, evBox, evLoad, evStore, evFieldAddr, evField, evIndexAddr, evBuild, evBuildSlice, evElems, evSlice, nth, rdc, wrc, fromBody, resA, finRet, oneOf, AV.cells?, AV.isCell, fin_int, fin_bool, fin_str, Tryd.f29, E_esc, k24, c24, a24, k3, c3, a3, k2, c2, a2, k9, c9, a9, fq0, fq1, fq2, fq3, fq4, bq3, bq2, bq9, hks, -AV.isCell, hps, h0, h1, h2]
  · have e1 : nm = [] := by simpa using h0
    have e2 : 0 ≤ a := by simpa using h1
    have e3 : lo = 0 := by simpa using h2
    have e4 : hi = 0 := by simpa using h
    exact ⟨by omega, by omega, fun _ => e1, fun _ => e2, by omega, by omega, by omega, by omega, fun _ => ⟨e3, e4⟩⟩

set_option maxHeartbeats 4000000 in
theorem own_span (n : Nat) (k : Int) (nm : List UInt8) (hl : nm.length ≤ 1048576) (hn : nm.length < n) (a lo hi : Int) (ks : AV) (hks : ks.isCell = true) (S : St)
    (hk : k = 22 ∨ k = 23 ∨ k = 24) : OwnOut n k nm a lo hi ks S := by
  unfold OwnOut
  have hps : E.ps 29 1 = [(1, 4), (1, 7), (4, 7), (1, 10), (4, 10), (7, 10)] := rfl
  have hp : ev Tryd.prog E (n + 3) 47 [.agg [.int .i64 k, .str nm, .int .i64 a, .int .i64 lo, .int .i64 hi, ks]] S = some (.ret (.bool (spanB lo hi)), S) := ev_span (n + 2) k nm a lo hi ks hks S
  rw [ev_enter (n := n + 3) (show E.ok 29 = true from rfl) Tryd.func29 (fn := Tryd.f29) rfl (Nat.le_of_ble_eq_true rfl) (by decide +kernel)]
  cases h0 : (nm == [])
  · refine ⟨false, ?_, iff_of_false (by simp) fun f => by have := f.none (by omega); subst this; simp at h0⟩
    rcases hk with rfl | rfl | rfl <;> simp (disch := first | (simp only [List.length_append, List.length_cons, List.length_nil]; omega) | (simp; done) | assumption) [↓evOp_build, ↓evOp_bslice, evB2_int, evB2_bool, evB2_str, evB2_eqi, evB2_nei, evB2_eqn, evB2_nen, evB2_peq, evB2_pne, evB2_req, evB2_rne, evB2_zeq, evB2_zne, isC_c, isC_t, evAssert, Bool.or_true, Bool.true_or, rhoP_nil, rhoP_cons, evCode_skip, evCode_region, evCode_draw, evCode_seq, evCode_cond, evCode_block, evCode_loop, evCode_exit, evCode_ret, seqK_ite, seqK_none, seqK_norm, seqK_ret, seqK_exit, seqK_pan, condK_true, condK_false, condK_bool, blockK_ite, blockK_none, blockK_norm, blockK_ret, blockK_exit, blockK_pan, stepK_ite, stepK_none, stepK_ok, stepK_pan, drawK_ite, drawK_none, drawK_ok, drawK_pan, opK_ite, opK_none, opK_val, opK_pan, wantK_true, wantK_false, wantK_some, afterRegion_ite, afterDraw_ite, fromBody_ite, ite_bool, ite_int, stepA_K, doOp, noOp, lexA_nil, lexA_cons, lexF_nil, lexF_cons, afterDraw, noClash, panIn, lostF, FP.clash, wantedA, evOp, rho, rhoL, ofC0, ofC, argsA, upd, afterRegion, putA, goOp, evBin_add, evBin_sub, evBin_mul, evBin_quo, evBin_rem, evBin_eql, evBin_neq, evBin_lss, evBin_leq, evBin_gtr, evBin_geq, evBin_eqlB, evBin_neqB, evBin_addS, evBin_eqlS, evBin_neqS, evBin_lssS, evBin_leqS, evUn, evConv, evIndex, evBuiltin, evLen, evMin2, evMax2, evCallee, evBox, evLoad, evStore, evFieldAddr, evField, evIndexAddr, evBuild, evBuildSlice, evElems, evSlice, nth, rdc, wrc, fromBody, resA, finRet, oneOf, AV.cells?, AV.isCell, fin_int, fin_bool, fin_str, Tryd.f29, E_esc, k24, c24, a24, k3, c3, a3, k2, c2, a2, k9, c9, a9, fq0, fq1, fq2, fq3, fq4, bq3, bq2, bq9, hks, -AV.isCell, hps, hp, h0]
  cases h1 : (a == 0)
  · refine ⟨false, ?_, iff_of_false (by simp) fun f => by have := f.num (by omega) (by omega); subst this; simp at h1⟩
    rcases hk with rfl | rfl | rfl <;> simp (disch := first | (simp only [List.length_append, List.length_cons, List.length_nil]; omega) | (simp; done) | assumption) [↓evOp_build, ↓evOp_bslice, evB2_int, evB2_bool, evB2_str, evB2_eqi, evB2_nei, evB2_eqn, evB2_nen, evB2_peq, evB2_pne, evB2_req, evB2_rne, evB2_zeq, evB2_zne, isC_c, isC_t, evAssert, Bool.or_true, Bool.true_or, rhoP_nil, rhoP_cons, evCode_skip, evCode_region, evCode_draw, evCode_seq, evCode_cond, evCode_block, evCode_loop, evCode_exit, evCode_ret, seqK_ite, seqK_none, seqK_norm, seqK_ret, seqK_exit, seqK_pan, condK_true, condK_false, condK_bool, blockK_ite, blockK_none, blockK_norm, blockK_ret, blockK_exit, blockK_pan, stepK_ite, stepK_none, stepK_ok, stepK_pan, drawK_ite, drawK_none, drawK_ok, drawK_pan, opK_ite, opK_none, opK_val, opK_pan, wantK_true, wantK_false, wantK_some, afterRegion_ite, afterDraw_ite, fromBody_ite, ite_bool, ite_int, stepA_K, doOp, noOp, lexA_nil, lexA_cons, lexF_nil, lexF_cons, afterDraw, noClash, panIn, lostF, FP.clash, wantedA, evOp, rho, rhoL, ofC0, ofC, argsA, upd, afterRegion, putA, goOp, evBin_add, evBin_sub, evBin_mul, evBin_quo, evBin_rem, evBin_eql, evBin_neq, evBin_lss, evBin_leq, evBin_gtr, evBin_geq, evBin_eqlB, evBin_neqB, evBin_addS, evBin_eqlS, evBin_neqS, evBin_lssS, evBin_leqS, evUn, evConv, evIndex, evBuiltin, evLen, evMin2, evMax2, evCallee, evBox, evLoad, evStore, evFieldAddr, evField, evIndexAddr, evBuild, evBuildSlice, evElems, evSlice, nth, rdc, wrc, fromBody, resA, finRet, oneOf, AV.cells?, AV.isCell, fin_int, fin_bool, fin_str, Tryd.f29, E_esc, k24, c24, a24, k3, c3, a3, k2, c2, a2, k9, c9, a9, fq0, fq1, fq2, fq3, fq4, bq3, bq2, bq9, hks, -AV.isCell, hps, hp, h0, h1]
  refine ⟨spanB lo hi, ?_, fun h => ?_, fun f => by exact (spanB_iff lo hi).2 (f.span hk)⟩
  · cases h2 : spanB lo hi <;> rw [h2] at hp <;> rcases hk with rfl | rfl | rfl <;> simp (disch := first | (simp only [List.length_append, List.length_cons, List.length_nil]; omega) | (simp; done) | assumption) [↓evOp_build, ↓evOp_bslice, evB2_int, evB2_bool, evB2_str, evB2_eqi, evB2_nei, evB2_eqn, evB2_nen, evB2_peq, evB2_pne, evB2_req, evB2_rne, evB2_zeq, evB2_zne, isC_c, isC_t, evAssert, Bool.or_true, Bool.true_or, rhoP_nil, rhoP_cons, evCode_skip, evCode_region, evCode_draw, evCode_seq, evCode_cond, evCode_block, evCode_loop, evCode_exit, evCode_ret, seqK_ite, seqK_none, seqK_norm, seqK_ret, seqK_exit, seqK_pan, condK_true, condK_false, condK_bool, blockK_ite, blockK_none, blockK_norm, blockK_ret, blockK_exit, blockK_pan, stepK_ite, stepK_none, stepK_ok, stepK_pan, drawK_ite, drawK_none, drawK_ok, drawK_pan, opK_ite, opK_none, opK_val, opK_pan, wantK_true, wantK_false, wantK_some, afterRegion_ite, afterDraw_ite, fromBody_ite, ite_bool, ite_int, stepA_K, doOp, noOp, lexA_nil, lexA_cons, lexF_nil, lexF_cons, afterDraw, noClash, panIn, lostF, FP.clash, wantedA, evOp, rho, rhoL, ofC0, ofC, argsA, upd, afterRegion, putA, goOp, evBin_add, evBin_sub, evBin_mul, evBin_quo, evBin_rem, evBin_eql, evBin_neq, evBin_lss, evBin_leq, evBin_gtr, evBin_geq, evBin_eqlB, evBin_neqB, evBin_addS, evBin_eqlS, evBin_neqS, evBin_lssS, evBin_leqS, evUn, evConv, evIndex, evBuiltin, evLen, evMin2, evMax2, evCallee, evBox, evLoad, evStore, evFieldAddr, evField, evIndexAddr, evBuild, evBuildSlice, evElems, evSlice, nth, rdc, wrc, fromBody, resA, finRet, oneOf, AV.cells?, AV.isCell, fin_int, fin_bool, fin_str, Tryd.f29, E_esc, k24, c24, a24, k3, c3, a3, k2, c2, a2, k9, c9, a9, fq0, fq1, fq2, fq3, fq4, bq3, bq2, bq9, hks, -AV.isCell, hps, hp, h0, h1]
  · have e1 : nm = [] := by simpa using h0
    have e2 : a = 0 := by simpa using h1
    exact ⟨by omega, by omega, fun _ => e1, by omega, by omega, fun _ _ => e2, fun _ => (spanB_iff lo hi).1 h, by omega, by omega⟩

set_option maxHeartbeats 4000000 in
theorem own_bool (n : Nat) (k : Int) (nm : List UInt8) (hl : nm.length ≤ 1048576) (hn : nm.length < n) (a lo hi : Int) (ks : AV) (hks : ks.isCell = true) (S : St)
    (hk : k = 2) : OwnOut n k nm a lo hi ks S := by
  unfold OwnOut
  have hps : E.ps 29 1 = [(1, 4), (1, 7), (4, 7), (1, 10), (4, 10), (7, 10)] := rfl
  subst hk
  rw [ev_enter (n := n + 3) (show E.ok 29 = true from rfl) Tryd.func29 (fn := Tryd.f29) rfl (Nat.le_of_ble_eq_true rfl) (by decide +kernel)]
  by_cases hA : a = 0 ∨ a = 1
  · cases h0 : (nm == [])
    · refine ⟨false, ?_, iff_of_false (by simp) fun f => by have := f.none (by omega); subst this; simp at h0⟩
      rcases hA with rfl | rfl <;> simp (disch := first | (simp only [List.length_append, List.length_cons, List.length_nil]; omega) | (simp; done) | assumption) [↓evOp_build, ↓evOp_bslice, evB2_int, evB2_bool, evB2_str, evB2_eqi, evB2_nei, evB2_eqn, evB2_nen, evB2_peq, evB2_pne, evB2_req, evB2_rne, evB2_zeq, evB2_zne, isC_c, isC_t, evAssert, Bool.or_true, Bool.true_or, rhoP_nil, rhoP_cons, evCode_skip, evCode_region, evCode_draw, evCode_seq, evCode_cond, evCode_block, evCode_loop, evCode_exit, evCode_ret, seqK_ite, seqK_none, seqK_norm, seqK_ret, seqK_exit, seqK_pan, condK_true, condK_false, condK_bool, blockK_ite, blockK_none, blockK_norm, blockK_ret, blockK_exit, blockK_pan, stepK_ite, stepK_none, stepK_ok, stepK_pan, drawK_ite, drawK_none, drawK_ok, drawK_pan, opK_ite, opK_none, opK_val, opK_pan, wantK_true, wantK_false, wantK_some, afterRegion_ite, afterDraw_ite, fromBody_ite, ite_bool, ite_int, stepA_K, doOp, noOp, lexA_nil, lexA_cons, lexF_nil, lexF_cons, afterDraw, noClash, panIn, lostF, FP.clash, wantedA, evOp, rho, rhoL, ofC0, ofC, argsA, upd, afterRegion, putA, goOp, evBin_add, evBin_sub, evBin_mul, evBin_quo, evBin_rem, evBin_eql, evBin_neq, evBin_lss, evBin_leq, evBin_gtr, evBin_geq, evBin_eqlB, evBin_neqB, evBin_addS, evBin_eqlS, evBin_neqS, evBin_lssS, evBin_leqS, evUn, evConv, evIndex, evBuiltin, evLen, evMin2, evMax2, evCallee, evBox, evLoad, evStore, evFieldAddr, evField, evIndexAddr, evBuild, evBuildSlice, evElems, evSlice, nth, rdc, wrc, fromBody, resA, finRet, oneOf, AV.cells?, AV.isCell, fin_int, fin_bool, fin_str, Tryd.f29, E_esc, k24, c24, a24, k3, c3, a3, k2, c2, a2, k9, c9, a9, fq0, fq1, fq2, fq3, fq4, bq3, bq2, bq9, hks, -AV.isCell, hps, h0]
    cases h2 : (lo == 0)
    · refine ⟨false, ?_, iff_of_false (by simp) fun f => by have := (f.zero (by omega)).1; subst this; simp at h2⟩
      rcases hA with rfl | rfl <;> simp (disch := first | (simp only [List.length_append, List.length_cons, List.length_nil]; omega) | (simp; done) | assumption) [↓evOp_build, ↓evOp_bslice, evB2_int, evB2_bool, evB2_str, evB2_eqi, evB2_nei, evB2_eqn, evB2_nen, evB2_peq, evB2_pne, evB2_req, evB2_rne, evB2_zeq, evB2_zne, isC_c, isC_t, evAssert, Bool.or_true, Bool.true_or, rhoP_nil, rhoP_cons, evCode_skip, evCode_region, evCode_draw, evCode_seq, evCode_cond, evCode_block, evCode_loop, evCode_exit, evCode_ret, seqK_ite, seqK_none, seqK_norm, seqK_ret, seqK_exit, seqK_pan, condK_true, condK_false, condK_bool, blockK_ite, blockK_none, blockK_norm, blockK_ret, blockK_exit, blockK_pan, stepK_ite, stepK_none, stepK_ok, stepK_pan, drawK_ite, drawK_none, drawK_ok, drawK_pan, opK_ite, opK_none, opK_val, opK_pan, wantK_true, wantK_false, wantK_some, afterRegion_ite, afterDraw_ite, fromBody_ite, ite_bool, ite_int, stepA_K, doOp, noOp, lexA_nil, lexA_cons, lexF_nil, lexF_cons, afterDraw, noClash, panIn, lostF, FP.clash, wantedA, evOp, rho, rhoL, ofC0, ofC, argsA, upd, afterRegion, putA, goOp, evBin_add, evBin_sub, evBin_mul, evBin_quo, evBin_rem, evBin_eql, evBin_neq, evBin_lss, evBin_leq, evBin_gtr, evBin_geq, evBin_eqlB, evBin_neqB, evBin_addS, evBin_eqlS, evBin_neqS, evBin_lssS, evBin_leqS, evUn, evConv, evIndex, evBuiltin, evLen, evMin2, evMax2, evCallee, evBox, evLoad, evStore, evFieldAddr, evField, evIndexAddr, evBuild, evBuildSlice, evElems, evSlice, nth, rdc, wrc, fromBody, resA, finRet, oneOf, AV.cells?, AV.isCell, fin_int, fin_bool, fin_str, Tryd.f29, E_esc, k24, c24, a24, k3, c3, a3, k2, c2, a2, k9, c9, a9, fq0, fq1, fq2, fq3, fq4, bq3, bq2, bq9, hks, -AV.isCell, hps, h0, h2]
    refine ⟨hi == 0, ?_, fun h => ?_, fun f => by have := (f.zero (by omega)).2; simp [this]⟩
    · rcases hA with rfl | rfl <;> simp (disch := first | (simp only [List.length_append, List.length_cons, List.length_nil]; omega) | (simp; done) | assumption) [↓evOp_build, ↓evOp_bslice, evB2_int, evB2_bool, evB2_str, evB2_eqi, evB2_nei, evB2_eqn, evB2_nen, evB2_peq, evB2_pne, evB2_req, evB2_rne, evB2_zeq, evB2_zne, isC_c, isC_t, evAssert, Bool.or_true, Bool.true_or, rhoP_nil, rhoP_cons, evCode_skip, evCode_region, evCode_draw, evCode_seq, evCode_cond, evCode_block, evCode_loop, evCode_exit, evCode_ret, seqK_ite, seqK_none, seqK_norm, seqK_ret, seqK_exit, seqK_pan, condK_true, condK_false, condK_bool, blockK_ite, blockK_none, blockK_norm, blockK_ret, blockK_exit, blockK_pan, stepK_ite, stepK_none, stepK_ok, stepK_pan, drawK_ite, drawK_none, drawK_ok, drawK_pan, opK_ite, opK_none, opK_val, opK_pan, wantK_true, wantK_false, wantK_some, afterRegion_ite, afterDraw_ite, fromBody_ite, ite_bool, ite_int, stepA_K, doOp, noOp, lexA_nil, lexA_cons, lexF_nil, lexF_cons, afterDraw, noClash, panIn, lostF, FP.clash, wantedA, evOp, rho, rhoL, ofC0, ofC, argsA, upd, afterRegion, putA, goOp, evBin_add, evBin_sub, evBin_mul, evBin_quo, evBin_rem, evBin_eql, evBin_neq, evBin_lss, evBin_leq, evBin_gtr, evBin_geq, evBin_eqlB, evBin_neqB, evBin_addS, evBin_eqlS, evBin_neqS, evBin_lssS, evBin_leqS, evUn, evConv, evIndex, evBuiltin, evLen, evMin2, evMax2, evCallee, evBox, evLoad, evStore, evFieldAddr, evField, evIndexAddr, evBuild, evBuildSlice, evElems, evSlice, nth, rdc, wrc, fromBody, resA, finRet, oneOf, AV.cells?, AV.isCell, fin_int, fin_bool, fin_str, Tryd.f29, E_esc, k24, c24, a24, k3, c3, a3, k2, c2, a2, k9, c9, a9, fq0, fq1, fq2, fq3, fq4, bq3, bq2, bq9, hks, -AV.isCell, hps, h0, h2]
    · have e1 : nm = [] := by simpa using h0
      have e3 : lo = 0 := by simpa using h2
      have e4 : hi = 0 := by simpa using h
      exact ⟨by omega, by omega, fun _ => e1, by omega, fun _ => hA, by omega, by omega, by omega, fun _ => ⟨e3, e4⟩⟩
  · refine ⟨false, ?_, iff_of_false (by simp) fun f => by have := f.bool (by omega); omega⟩
    have g0 : (a == 0) = false := by simp; omega
    have g1 : (a == 1) = false := by simp; omega
    cases h0 : (nm == []) <;> simp (disch := first | (simp only [List.length_append, List.length_cons, List.length_nil]; omega) | (simp; done) | assumption) [↓evOp_build, ↓evOp_bslice, evB2_int, evB2_bool, evB2_str, evB2_eqi, evB2_nei, evB2_eqn, evB2_nen, evB2_peq, evB2_pne, evB2_req, evB2_rne, evB2_zeq, evB2_zne, isC_c, isC_t, evAssert, Bool.or_true, Bool.true_or, rhoP_nil, rhoP_cons, evCode_skip, evCode_region, evCode_draw, evCode_seq, evCode_cond, evCode_block, evCode_loop, evCode_exit, evCode_ret, seqK_ite, seqK_none, seqK_norm, seqK_ret, seqK_exit, seqK_pan, condK_true, condK_false, condK_bool, blockK_ite, blockK_none, blockK_norm, blockK_ret, blockK_exit, blockK_pan, stepK_ite, stepK_none, stepK_ok, stepK_pan, drawK_ite, drawK_none, drawK_ok, drawK_pan, opK_ite, opK_none, opK_val, opK_pan, wantK_true, wantK_false, wantK_some, afterRegion_ite, afterDraw_ite, fromBody_ite, ite_bool, ite_int, stepA_K, doOp, noOp, lexA_nil, lexA_cons, lexF_nil, lexF_cons, afterDraw, noClash, panIn, lostF, FP.clash, wantedA, evOp, rho, rhoL, ofC0, ofC, argsA, upd, afterRegion, putA, goOp, evBin_add, evBin_sub, evBin_mul, evBin_quo, evBin_rem, evBin_eql, evBin_neq, evBin_lss, evBin_leq, evBin_gtr, evBin_geq, evBin_eqlB, evBin_neqB, evBin_addS, evBin_eqlS, evBin_neqS, evBin_lssS, evBin_leqS, evUn, evConv, evIndex, evBuiltin, evLen, evMin2, evMax2, evCallee, evBox, evLoad, evStore, evFieldAddr, evField, evIndexAddr, evBuild, evBuildSlice, evElems, evSlice, nth, rdc, wrc, fromBody, resA, finRet, oneOf, AV.cells?, AV.isCell, fin_int, fin_bool, fin_str, Tryd.f29, E_esc, k24, c24, a24, k3, c3, a3, k2, c2, a2, k9, c9, a9, fq0, fq1, fq2, fq3, fq4, bq3, bq2, bq9, hks, -AV.isCell, hps, h0, g0, g1]

theorem ev_own (n : Nat) (k : Int) (nm : List UInt8) (hl : nm.length ≤ 1048576) (hn : nm.length + 5 ≤ n) (a lo hi : Int) (ks : AV) (hks : ks.isCell = true) (hk : kinds k) (S : St) :
    ∃ b, ev Tryd.prog E n 29 [.agg [.int .i64 k, .str nm, .int .i64 a, .int .i64 lo, .int .i64 hi, ks]] S = some (.ret (.bool b), S) ∧ (b = true ↔ Fits k nm a lo hi) := by
  obtain ⟨n, rfl⟩ : ∃ m, n = m + 4 := ⟨n - 4, by omega⟩
  have hk' := (kinds_iff k).1 hk
  by_cases c1 : k = 1
  · exact own_int n k nm hl (by omega) a lo hi ks hks S c1
  by_cases c2 : k = 2
  · exact own_bool n k nm hl (by omega) a lo hi ks hks S c2
  by_cases c3 : k = 3
  · exact own_text n k nm hl (by omega) a lo hi ks hks S c3
  by_cases c4 : k = 5 ∨ k = 6 ∨ k = 21
  · exact own_named n k nm hl (by omega) a lo hi ks hks S c4
  by_cases c5 : k = 13
  · exact own_times n k nm hl (by omega) a lo hi ks hks S c5
  by_cases c6 : k = 22 ∨ k = 23 ∨ k = 24
  · exact own_span n k nm hl (by omega) a lo hi ks hks S c6
  exact own_plain n k nm hl (by omega) a lo hi ks hks S (by omega)
end Go.Proofs.YtemggoaefohliaaDoor.NF

/- slices.ContainsFunc; sets of texts (ast), evaluated. No condition. -/
namespace Go.Proofs.YtemggoaefohliaaDoor.NF
set_option linter.unusedVariables false
set_option linter.unusedSimpArgs false
open Go AE EX PT
set_option maxRecDepth 100000

/-! ### slices.IndexFunc -/
noncomputable def ifLoop : Code := cutC (bodyOf Tryd.f48) [1, 0, 1, 0, 0]
noncomputable def if0 : Code := cutC (bodyOf Tryd.f48) [0]
noncomputable def if1 : Code := cutC (bodyOf Tryd.f48) [1, 0, 0]
noncomputable def if2 : Code := cutC (bodyOf Tryd.f48) [1, 1]
theorem f81b : Tryd.f48.body = some (.seq if0 (.seq (.seq if1 (.block 0 (.loop ifLoop))) if2)) := rfl

def IFI (kids : List X) (tok : Tok) (f : Nat) (p : X → Prop) (S0 : St) (m : Nat) (fs : FS) : Prop :=
  ∃ i, i + m = kids.length ∧ fs.t 0 = .slice (embL kids) tok ∧ fs.t 1 = .fn f [] [] ∧ fs.t 7 = .int .i64 kids.length ∧ fs.t 8 = .int .i64 i ∧ fs.S = S0 ∧ ∀ j x, j < i → kids[j]? = some x → ¬ p x
def IFQ (kids : List X) (p : X → Prop) (S0 : St) (r : Out × FS) : Prop :=
  r.2.S = S0 ∧ ((r.1 = .exit 0 ∧ ∀ x ∈ kids, ¬ p x) ∨ (r.1 = .ret ∧ (∃ i : Nat, r.2.t 4 = .int .i64 i) ∧ ∃ x ∈ kids, p x))

theorem if_round (n : Nat) (kids : List X) (tok : Tok) (f : Nat) (p : X → Prop) (S0 : St) (hs : kids.length ≤ 1048576)
    (hrec : ∀ x ∈ kids, ∀ S, ∃ b, ev Tryd.prog E n f [x.emb] S = some (.ret (.bool b), S) ∧ (b = true ↔ p x)) (m : Nat) (fs : FS) (h : IFI kids tok f p S0 m fs) :
    ∃ o fs', evCode ⟨Tryd.prog, E.esc 48, n⟩ (ev Tryd.prog E n) (E.ps 48) n ifLoop fs = some (o, fs') ∧ ((o = .norm ∧ ∃ m', m' < m ∧ IFI kids tok f p S0 m' fs') ∨ (o ≠ .norm ∧ IFQ kids p S0 (o, fs'))) := by
  obtain ⟨t, b, v, S⟩ := fs
  obtain ⟨i, hi, h0, h1, h2, h3, h4, h5⟩ := h
  simp only at h0 h1 h2 h3 h4
  subst h4
  have hlen := embL_length kids
  cases m with
  | zero =>
    have hi : i = kids.length := by omega
    subst hi
    refine ⟨.exit 0, _, by
      simp (disch := first | (simp only [List.length_append, List.length_cons, List.length_nil]; omega) | (simp; done) | assumption) [↓evOp_build, ↓evOp_bslice, evB2_int, evB2_bool, evB2_str, evB2_eqi, evB2_nei, evB2_eqn, evB2_nen, evB2_peq, evB2_pne, evB2_req, evB2_rne, evB2_zeq, evB2_zne, isC_c, isC_t, evAssert, Bool.or_true, Bool.true_or, rhoP_nil, rhoP_cons, evCode_skip, evCode_region, evCode_draw, evCode_seq, evCode_cond, evCode_block, evCode_loop, evCode_exit, evCode_ret, seqK_ite, seqK_none, seqK_norm, seqK_ret, seqK_exit, seqK_pan, condK_true, condK_false, condK_bool, blockK_ite, blockK_none, blockK_norm, blockK_ret, blockK_exit, blockK_pan, stepK_ite, stepK_none, stepK_ok, stepK_pan, drawK_ite, drawK_none, drawK_ok, drawK_pan, opK_ite, opK_none, opK_val, opK_pan, wantK_true, wantK_false, wantK_some, afterRegion_ite, afterDraw_ite, fromBody_ite, ite_bool, ite_int, stepA_K, doOp, noOp, lexA_nil, lexA_cons, lexF_nil, lexF_cons, afterDraw, noClash, panIn, lostF, FP.clash, wantedA, evOp, rho, rhoL, ofC0, ofC, argsA, upd, afterRegion, putA, goOp, evBin_add, evBin_sub, evBin_mul, evBin_quo, evBin_rem, evBin_eql, evBin_neq, evBin_lss, evBin_leq, evBin_gtr, evBin_geq, evBin_eqlB, evBin_neqB, evBin_addS, evBin_eqlS, evBin_neqS, evBin_lssS, evBin_leqS, evUn, evConv, evIndex, evBuiltin, evLen, evMin2, evMax2, evCallee, evBox, evLoad, evStore, evFieldAddr, evField, evIndexAddr, evBuild, evBuildSlice, evElems, evSlice, nth, rdc, wrc, fromBody, resA, finRet, oneOf, AV.cells?, AV.isCell, fin_int, fin_bool, fin_str, ifLoop, cutC, bodyOf, Tryd.f48, h0, h1, h2, h3, bq3]
      rfl, .inr ⟨by simp, rfl, .inl ⟨rfl, fun x hx => by
        obtain ⟨j, hj, rfl⟩ := List.getElem_of_mem hx
        exact h5 j _ hj (List.getElem?_eq_getElem hj)⟩⟩⟩
  | succ m =>
    have hlt : i < kids.length := by omega
    have hltz : (i : Int) < kids.length := by omega
    have hxe : kids[i]? = some kids[i] := List.getElem?_eq_getElem hlt
    have hxm : kids[i] ∈ kids := List.getElem_mem hlt
    obtain ⟨b', hr, hb⟩ := hrec kids[i] hxm S
    have hemb : (embL kids)[i]? = some kids[i].emb := by rw [embL_map, List.getElem?_map, hxe]; rfl
    have ha1 := cells_all kids[i]
    have hc1 := (cells_ok kids[i]).2
    have ht1 : List.take 6 kids[i].cells = kids[i].cells := List.take_of_length_le (by omega)
    have hw : IntKind.i64.wrap ((i : Int) + 1) = (i : Int) + 1 := wrap64 _ (by omega)
    rw [emb_cells] at hemb hr
    generalize kids[i] = x at *
    generalize x.cells = C1 at *
    obtain ⟨z, hz⟩ := ii24
    cases b'
    · refine ⟨.norm, _, by
        simp (disch := first | (simp only [List.length_append, List.length_cons, List.length_nil]; omega) | (simp; done) | assumption) [↓evOp_build, ↓evOp_bslice, evB2_int, evB2_bool, evB2_str, evB2_eqi, evB2_nei, evB2_eqn, evB2_nen, evB2_peq, evB2_pne, evB2_req, evB2_rne, evB2_zeq, evB2_zne, isC_c, isC_t, evAssert, Bool.or_true, Bool.true_or, rhoP_nil, rhoP_cons, evCode_skip, evCode_region, evCode_draw, evCode_seq, evCode_cond, evCode_block, evCode_loop, evCode_exit, evCode_ret, seqK_ite, seqK_none, seqK_norm, seqK_ret, seqK_exit, seqK_pan, condK_true, condK_false, condK_bool, blockK_ite, blockK_none, blockK_norm, blockK_ret, blockK_exit, blockK_pan, stepK_ite, stepK_none, stepK_ok, stepK_pan, drawK_ite, drawK_none, drawK_ok, drawK_pan, opK_ite, opK_none, opK_val, opK_pan, wantK_true, wantK_false, wantK_some, afterRegion_ite, afterDraw_ite, fromBody_ite, ite_bool, ite_int, stepA_K, doOp, noOp, lexA_nil, lexA_cons, lexF_nil, lexF_cons, afterDraw, noClash, panIn, lostF, FP.clash, wantedA, evOp, rho, rhoL, ofC0, ofC, argsA, upd, afterRegion, putA, goOp, evBin_add, evBin_sub, evBin_mul, evBin_quo, evBin_rem, evBin_eql, evBin_neq, evBin_lss, evBin_leq, evBin_gtr, evBin_geq, evBin_eqlB, evBin_neqB, evBin_addS, evBin_eqlS, evBin_neqS, evBin_lssS, evBin_leqS, evUn, evConv, evIndex, evBuiltin, evLen, evMin2, evMax2, evCallee, evBox, evLoad, evStore, evFieldAddr, evField, evIndexAddr, evBuild, evBuildSlice, evElems, evSlice, nth, rdc, wrc, fromBody, resA, finRet, oneOf, AV.cells?, AV.isCell, fin_int, fin_bool, fin_str, ifLoop, cutC, bodyOf, Tryd.f48, h0, h1, h2, h3, bq3, k24, c24, a24, i24, hz, sq22, hlen, hlt, hltz, hemb, hr, ha1, hc1, ht1]
        rfl, .inl ⟨rfl, m, by omega, i + 1, by omega, by simp [upd, h0], by simp [upd, h1], by simp [upd, h2], by simp [upd, hw], rfl, fun j y hj hy => by
          by_cases hji : j = i
          · subst hji; rw [hxe] at hy; cases hy; exact fun hp => by have := hb.2 hp; cases this
          · exact h5 j y (by omega) hy⟩⟩
    · refine ⟨.ret, _, by
        simp (disch := first | (simp only [List.length_append, List.length_cons, List.length_nil]; omega) | (simp; done) | assumption) [↓evOp_build, ↓evOp_bslice, evB2_int, evB2_bool, evB2_str, evB2_eqi, evB2_nei, evB2_eqn, evB2_nen, evB2_peq, evB2_pne, evB2_req, evB2_rne, evB2_zeq, evB2_zne, isC_c, isC_t, evAssert, Bool.or_true, Bool.true_or, rhoP_nil, rhoP_cons, evCode_skip, evCode_region, evCode_draw, evCode_seq, evCode_cond, evCode_block, evCode_loop, evCode_exit, evCode_ret, seqK_ite, seqK_none, seqK_norm, seqK_ret, seqK_exit, seqK_pan, condK_true, condK_false, condK_bool, blockK_ite, blockK_none, blockK_norm, blockK_ret, blockK_exit, blockK_pan, stepK_ite, stepK_none, stepK_ok, stepK_pan, drawK_ite, drawK_none, drawK_ok, drawK_pan, opK_ite, opK_none, opK_val, opK_pan, wantK_true, wantK_false, wantK_some, afterRegion_ite, afterDraw_ite, fromBody_ite, ite_bool, ite_int, stepA_K, doOp, noOp, lexA_nil, lexA_cons, lexF_nil, lexF_cons, afterDraw, noClash, panIn, lostF, FP.clash, wantedA, evOp, rho, rhoL, ofC0, ofC, argsA, upd, afterRegion, putA, goOp, evBin_add, evBin_sub, evBin_mul, evBin_quo, evBin_rem, evBin_eql, evBin_neq, evBin_lss, evBin_leq, evBin_gtr, evBin_geq, evBin_eqlB, evBin_neqB, evBin_addS, evBin_eqlS, evBin_neqS, evBin_lssS, evBin_leqS, evUn, evConv, evIndex, evBuiltin, evLen, evMin2, evMax2, evCallee, evBox, evLoad, evStore, evFieldAddr, evField, evIndexAddr, evBuild, evBuildSlice, evElems, evSlice, nth, rdc, wrc, fromBody, resA, finRet, oneOf, AV.cells?, AV.isCell, fin_int, fin_bool, fin_str, ifLoop, cutC, bodyOf, Tryd.f48, h0, h1, h2, h3, bq3, k24, c24, a24, i24, hz, sq22, hlen, hlt, hltz, hemb, hr, ha1, hc1, ht1]
        rfl, .inr ⟨by simp, rfl, .inr ⟨rfl, ⟨i, by simp [upd]⟩, x, hxm, hb.1 rfl⟩⟩⟩

theorem ev_IndexFunc (n : Nat) (kids : List X) (tok : Tok) (f : Nat) (p : X → Prop) (S : St) (hs : kids.length ≤ 1048576) (hn : kids.length < n)
    (hrec : ∀ x ∈ kids, ∀ S, ∃ b, ev Tryd.prog E n f [x.emb] S = some (.ret (.bool b), S) ∧ (b = true ↔ p x)) :
    ∃ r : Int, ev Tryd.prog E (n + 1) 48 [.slice (embL kids) tok, .fn f [] []] S = some (.ret (.int .i64 r), S) ∧ (0 ≤ r ↔ ∃ x ∈ kids, p x) := by
  have hlen := embL_length kids
  rw [ev_enter (n := n) (show E.ok 48 = true from rfl) Tryd.func48 f81b (Nat.le_of_ble_eq_true rfl) (by decide +kernel)]
  obtain ⟨⟨o, t, b, v, S'⟩, hr, hS, hq⟩ := iter_meas (fun m fs h => if_round n kids tok f p S hs hrec m fs h) kids.length n
    ⟨upd 8 (.int .i64 0) (upd 7 (.int .i64 kids.length) (upd 6 (.slice (embL kids) tok) (upd 4 (.int .i64 0) (argsA [.slice (embL kids) tok, .fn f [] []])))), fun _ => (0, []), 4, S⟩ hn
    ⟨0, by omega, by simp [upd, argsA], by simp [upd, argsA], by simp [upd], by simp [upd], rfl, fun j x hj => by omega⟩
  simp only at hS hq
  subst hS
  rcases hq with ⟨rfl, ha⟩ | ⟨rfl, ⟨i, h2⟩, hex⟩
  · refine ⟨-1, ?_, by simp; exact ha⟩
    simp (disch := first | (simp only [List.length_append, List.length_cons, List.length_nil]; omega) | (simp; done) | assumption) [↓evOp_build, ↓evOp_bslice, evB2_int, evB2_bool, evB2_str, evB2_eqi, evB2_nei, evB2_eqn, evB2_nen, evB2_peq, evB2_pne, evB2_req, evB2_rne, evB2_zeq, evB2_zne, isC_c, isC_t, evAssert, Bool.or_true, Bool.true_or, rhoP_nil, rhoP_cons, evCode_skip, evCode_region, evCode_draw, evCode_seq, evCode_cond, evCode_block, evCode_loop, evCode_exit, evCode_ret, seqK_ite, seqK_none, seqK_norm, seqK_ret, seqK_exit, seqK_pan, condK_true, condK_false, condK_bool, blockK_ite, blockK_none, blockK_norm, blockK_ret, blockK_exit, blockK_pan, stepK_ite, stepK_none, stepK_ok, stepK_pan, drawK_ite, drawK_none, drawK_ok, drawK_pan, opK_ite, opK_none, opK_val, opK_pan, wantK_true, wantK_false, wantK_some, afterRegion_ite, afterDraw_ite, fromBody_ite, ite_bool, ite_int, stepA_K, doOp, noOp, lexA_nil, lexA_cons, lexF_nil, lexF_cons, afterDraw, noClash, panIn, lostF, FP.clash, wantedA, evOp, rho, rhoL, ofC0, ofC, argsA, upd, afterRegion, putA, goOp, evBin_add, evBin_sub, evBin_mul, evBin_quo, evBin_rem, evBin_eql, evBin_neq, evBin_lss, evBin_leq, evBin_gtr, evBin_geq, evBin_eqlB, evBin_neqB, evBin_addS, evBin_eqlS, evBin_neqS, evBin_lssS, evBin_leqS, evUn, evConv, evIndex, evBuiltin, evLen, evMin2, evMax2, evCallee, evBox, evLoad, evStore, evFieldAddr, evField, evIndexAddr, evBuild, evBuildSlice, evElems, evSlice, nth, rdc, wrc, fromBody, resA, finRet, oneOf, AV.cells?, AV.isCell, fin_int, fin_bool, fin_str, if0, if1, if2, cutC, bodyOf, Tryd.f48, sq22, hlen, hr]
  · refine ⟨i, ?_, iff_of_true (by omega) hex⟩
    simp (disch := first | (simp only [List.length_append, List.length_cons, List.length_nil]; omega) | (simp; done) | assumption) [↓evOp_build, ↓evOp_bslice, evB2_int, evB2_bool, evB2_str, evB2_eqi, evB2_nei, evB2_eqn, evB2_nen, evB2_peq, evB2_pne, evB2_req, evB2_rne, evB2_zeq, evB2_zne, isC_c, isC_t, evAssert, Bool.or_true, Bool.true_or, rhoP_nil, rhoP_cons, evCode_skip, evCode_region, evCode_draw, evCode_seq, evCode_cond, evCode_block, evCode_loop, evCode_exit, evCode_ret, seqK_ite, seqK_none, seqK_norm, seqK_ret, seqK_exit, seqK_pan, condK_true, condK_false, condK_bool, blockK_ite, blockK_none, blockK_norm, blockK_ret, blockK_exit, blockK_pan, stepK_ite, stepK_none, stepK_ok, stepK_pan, drawK_ite, drawK_none, drawK_ok, drawK_pan, opK_ite, opK_none, opK_val, opK_pan, wantK_true, wantK_false, wantK_some, afterRegion_ite, afterDraw_ite, fromBody_ite, ite_bool, ite_int, stepA_K, doOp, noOp, lexA_nil, lexA_cons, lexF_nil, lexF_cons, afterDraw, noClash, panIn, lostF, FP.clash, wantedA, evOp, rho, rhoL, ofC0, ofC, argsA, upd, afterRegion, putA, goOp, evBin_add, evBin_sub, evBin_mul, evBin_quo, evBin_rem, evBin_eql, evBin_neq, evBin_lss, evBin_leq, evBin_gtr, evBin_geq, evBin_eqlB, evBin_neqB, evBin_addS, evBin_eqlS, evBin_neqS, evBin_lssS, evBin_leqS, evUn, evConv, evIndex, evBuiltin, evLen, evMin2, evMax2, evCallee, evBox, evLoad, evStore, evFieldAddr, evField, evIndexAddr, evBuild, evBuildSlice, evElems, evSlice, nth, rdc, wrc, fromBody, resA, finRet, oneOf, AV.cells?, AV.isCell, fin_int, fin_bool, fin_str, if0, if1, if2, cutC, bodyOf, Tryd.f48, sq22, hlen, hr, h2]

theorem ev_Contains (n : Nat) (kids : List X) (tok : Tok) (f : Nat) (p : X → Prop) (S : St) (hs : kids.length ≤ 1048576) (hn : kids.length < n)
    (hrec : ∀ x ∈ kids, ∀ S, ∃ b, ev Tryd.prog E n f [x.emb] S = some (.ret (.bool b), S) ∧ (b = true ↔ p x)) :
    ∃ b, ev Tryd.prog E (n + 2) 32 [.slice (embL kids) tok, .fn f [] []] S = some (.ret (.bool b), S) ∧ (b = true ↔ ∃ x ∈ kids, p x) := by
  obtain ⟨r, hr, hb⟩ := ev_IndexFunc n kids tok f p S hs hn hrec
  rw [show n + 2 = (n + 1) + 1 from rfl, ev_enter (n := n + 1) (show E.ok 32 = true from rfl) Tryd.func32 (fn := Tryd.f32) rfl (Nat.le_of_ble_eq_true rfl) (by decide +kernel)]
  refine ⟨decide (0 ≤ r), ?_, by simpa using hb⟩
  simp (disch := first | (simp only [List.length_append, List.length_cons, List.length_nil]; omega) | (simp; done) | assumption) [↓evOp_build, ↓evOp_bslice, evB2_int, evB2_bool, evB2_str, evB2_eqi, evB2_nei, evB2_eqn, evB2_nen, evB2_peq, evB2_pne, evB2_req, evB2_rne, evB2_zeq, evB2_zne, isC_c, isC_t, evAssert, Bool.or_true, Bool.true_or, rhoP_nil, rhoP_cons, evCode_skip, evCode_region, evCode_draw, evCode_seq, evCode_cond, evCode_block, evCode_loop, evCode_exit, evCode_ret, seqK_ite, seqK_none, seqK_norm, seqK_ret, seqK_exit, seqK_pan, condK_true, condK_false, condK_bool, blockK_ite, blockK_none, blockK_norm, blockK_ret, blockK_exit, blockK_pan, stepK_ite, stepK_none, stepK_ok, stepK_pan, drawK_ite, drawK_none, drawK_ok, drawK_pan, opK_ite, opK_none, opK_val, opK_pan, wantK_true, wantK_false, wantK_some, afterRegion_ite, afterDraw_ite, fromBody_ite, ite_bool, ite_int, stepA_K, doOp, noOp, lexA_nil, lexA_cons, lexF_nil, lexF_cons, afterDraw, noClash, panIn, lostF, FP.clash, wantedA, evOp, rho, rhoL, ofC0, ofC, argsA, upd, afterRegion, putA, goOp, evBin_add, evBin_sub, evBin_mul, evBin_quo, evBin_rem, evBin_eql, evBin_neq, evBin_lss, evBin_leq, evBin_gtr, evBin_geq, evBin_eqlB, evBin_neqB, evBin_addS, evBin_eqlS, evBin_neqS, evBin_lssS, evBin_leqS, evUn, evConv, evIndex, evBuiltin, evLen, evMin2, evMax2, evCallee, evBox, evLoad, evStore, evFieldAddr, evField, evIndexAddr, evBuild, evBuildSlice, evElems, evSlice, nth, rdc, wrc, fromBody, resA, finRet, oneOf, AV.cells?, AV.isCell, fin_int, fin_bool, fin_str, Tryd.f32, bq3, hr]

/-! ### a set's texts -/
/-- it may be, and all below it -/
def MayAll (x : X) : Prop := ∀ y ∈ x.nodes, PT.Good y
theorem may_text (nm : List UInt8) (a lo hi : Int) (tk : Bool) (ks : List X) : MayAll (.mk 3 nm a lo hi tk ks) ↔ ks = [] ∧ a = 0 ∧ lo = 0 ∧ hi = 0 ∧ plainB nm = true := by
  constructor
  · intro h
    obtain ⟨_, g2, _, g4⟩ := h _ (List.mem_cons_self ..)
    have g2 := g2 (by decide)
    rw [show kidsI 3 = 0 from by decide] at g2
    exact ⟨List.eq_nil_of_length_eq_zero (by omega), g4.num (by decide) (by decide), (g4.zero (by decide)).1, (g4.zero (by decide)).2, g4.text rfl⟩
  · rintro ⟨rfl, rfl, rfl, rfl, hp⟩ y hy
    simp [X.nodes, nodesL] at hy
    subst hy
    exact ⟨by simp [kinds], fun _ => by decide, fun h => by simp at h, fun _ => hp, by omega, by omega, by omega, by omega, by omega, by omega, by omega, by omega⟩

noncomputable def txLoop : Code := cutC (bodyOf Tryd.f30) [1, 0, 1, 0, 0]
noncomputable def tx0 : Code := cutC (bodyOf Tryd.f30) [0]
noncomputable def tx1 : Code := cutC (bodyOf Tryd.f30) [1, 0, 0]
noncomputable def tx2 : Code := cutC (bodyOf Tryd.f30) [1, 1]
theorem f71b : Tryd.f30.body = some (.seq tx0 (.seq (.seq tx1 (.block 0 (.loop txLoop))) tx2)) := rfl

def TXI (kids : List X) (tok : Tok) (S0 : St) (m : Nat) (fs : FS) : Prop :=
  ∃ i, i + m = kids.length ∧ fs.t 0 = .slice (embL kids) tok ∧ fs.t 5 = .slice (embL kids) tok ∧ fs.t 6 = .int .i64 kids.length ∧ fs.t 7 = .int .i64 i ∧ fs.S = S0 ∧ ∀ j, j < i → kidOK kids j
def TXQ (kids : List X) (tok : Tok) (S0 : St) (r : Out × FS) : Prop :=
  r.2.S = S0 ∧ ((r.1 = .exit 0 ∧ r.2.t 0 = .slice (embL kids) tok ∧ ∀ j, j < kids.length → kidOK kids j) ∨ (r.1 = .ret ∧ r.2.t 2 = .bool false ∧ ∃ j, j < kids.length ∧ ¬ kidOK kids j))

set_option maxHeartbeats 4000000 in
theorem tx_round (n : Nat) (kids : List X) (tok : Tok) (S0 : St) (hs : kids.length ≤ 1048576)
    (hrec : ∀ x ∈ kids, ∀ S, ∃ b, ev Tryd.prog E n 20 [x.emb] S = some (.ret (.bool b), S) ∧ (b = true ↔ MayAll x)) (m : Nat) (fs : FS) (h : TXI kids tok S0 m fs) :
    ∃ o fs', evCode ⟨Tryd.prog, E.esc 30, n⟩ (ev Tryd.prog E n) (E.ps 30) n txLoop fs = some (o, fs') ∧ ((o = .norm ∧ ∃ m', m' < m ∧ TXI kids tok S0 m' fs') ∨ (o ≠ .norm ∧ TXQ kids tok S0 (o, fs'))) := by
  obtain ⟨t, b, v, S⟩ := fs
  obtain ⟨i, hi, h0, h1, h2, h3, h4, h5⟩ := h
  simp only at h0 h1 h2 h3 h4
  subst h4
  have hlen := embL_length kids
  cases m with
  | zero =>
    have hi : i = kids.length := by omega
    subst hi
    refine ⟨.exit 0, _, by
      simp (disch := first | (simp only [List.length_append, List.length_cons, List.length_nil]; omega) | (simp; done) | assumption) [↓evOp_build, ↓evOp_bslice, evB2_int, evB2_bool, evB2_str, evB2_eqi, evB2_nei, evB2_eqn, evB2_nen, evB2_peq, evB2_pne, evB2_req, evB2_rne, evB2_zeq, evB2_zne, isC_c, isC_t, evAssert, Bool.or_true, Bool.true_or, rhoP_nil, rhoP_cons, evCode_skip, evCode_region, evCode_draw, evCode_seq, evCode_cond, evCode_block, evCode_loop, evCode_exit, evCode_ret, seqK_ite, seqK_none, seqK_norm, seqK_ret, seqK_exit, seqK_pan, condK_true, condK_false, condK_bool, blockK_ite, blockK_none, blockK_norm, blockK_ret, blockK_exit, blockK_pan, stepK_ite, stepK_none, stepK_ok, stepK_pan, drawK_ite, drawK_none, drawK_ok, drawK_pan, opK_ite, opK_none, opK_val, opK_pan, wantK_true, wantK_false, wantK_some, afterRegion_ite, afterDraw_ite, fromBody_ite, ite_bool, ite_int, stepA_K, doOp, noOp, lexA_nil, lexA_cons, lexF_nil, lexF_cons, afterDraw, noClash, panIn, lostF, FP.clash, wantedA, evOp, rho, rhoL, ofC0, ofC, argsA, upd, afterRegion, putA, goOp, evBin_add, evBin_sub, evBin_mul, evBin_quo, evBin_rem, evBin_eql, evBin_neq, evBin_lss, evBin_leq, evBin_gtr, evBin_geq, evBin_eqlB, evBin_neqB, evBin_addS, evBin_eqlS, evBin_neqS, evBin_lssS, evBin_leqS, evUn, evConv, evIndex, evBuiltin, evLen, evMin2, evMax2, evCallee, evBox, evLoad, evStore, evFieldAddr, evField, evIndexAddr, evBuild, evBuildSlice, evElems, evSlice, nth, rdc, wrc, fromBody, resA, finRet, oneOf, AV.cells?, AV.isCell, fin_int, fin_bool, fin_str, txLoop, cutC, bodyOf, Tryd.f30, h0, h1, h2, h3, bq3]
      rfl, .inr ⟨by simp, rfl, .inl ⟨rfl, by simp [upd, h0], h5⟩⟩⟩
  | succ m =>
    have hlt : i < kids.length := by omega
    have hltz : (i : Int) < kids.length := by omega
    have hxe : kids[i]? = some kids[i] := List.getElem?_eq_getElem hlt
    have hxm : kids[i] ∈ kids := List.getElem_mem hlt
    obtain ⟨b', hr, hb⟩ := hrec kids[i] hxm S
    have hemb : (embL kids)[i]? = some kids[i].emb := by rw [embL_map, List.getElem?_map, hxe]; rfl
    have hw : IntKind.i64.wrap ((i : Int) + 1) = (i : Int) + 1 := wrap64 _ (by omega)
    have hps : E.ps 30 4 = [(13, 19)] := rfl
    obtain ⟨z, hz⟩ := ii24
    generalize kids[i] = x at *
    obtain ⟨k, nm, a, lo, hi', tk', ks⟩ := x
    simp only [X.emb] at hemb hr
    generalize hK : AV.slice (embL ks) (tokOf tk') = kk at *
    have hkc : kk.isCell = true := by rw [← hK]; rfl
    cases g0 : (k == 3)
    · refine ⟨.ret, _, by
        simp (disch := first | (simp only [List.length_append, List.length_cons, List.length_nil]; omega) | (simp; done) | assumption) [↓evOp_build, ↓evOp_bslice, evB2_int, evB2_bool, evB2_str, evB2_eqi, evB2_nei, evB2_eqn, evB2_nen, evB2_peq, evB2_pne, evB2_req, evB2_rne, evB2_zeq, evB2_zne, isC_c, isC_t, evAssert, Bool.or_true, Bool.true_or, rhoP_nil, rhoP_cons, evCode_skip, evCode_region, evCode_draw, evCode_seq, evCode_cond, evCode_block, evCode_loop, evCode_exit, evCode_ret, seqK_ite, seqK_none, seqK_norm, seqK_ret, seqK_exit, seqK_pan, condK_true, condK_false, condK_bool, blockK_ite, blockK_none, blockK_norm, blockK_ret, blockK_exit, blockK_pan, stepK_ite, stepK_none, stepK_ok, stepK_pan, drawK_ite, drawK_none, drawK_ok, drawK_pan, opK_ite, opK_none, opK_val, opK_pan, wantK_true, wantK_false, wantK_some, afterRegion_ite, afterDraw_ite, fromBody_ite, ite_bool, ite_int, stepA_K, doOp, noOp, lexA_nil, lexA_cons, lexF_nil, lexF_cons, afterDraw, noClash, panIn, lostF, FP.clash, wantedA, evOp, rho, rhoL, ofC0, ofC, argsA, upd, afterRegion, putA, goOp, evBin_add, evBin_sub, evBin_mul, evBin_quo, evBin_rem, evBin_eql, evBin_neq, evBin_lss, evBin_leq, evBin_gtr, evBin_geq, evBin_eqlB, evBin_neqB, evBin_addS, evBin_eqlS, evBin_neqS, evBin_lssS, evBin_leqS, evUn, evConv, evIndex, evBuiltin, evLen, evMin2, evMax2, evCallee, evBox, evLoad, evStore, evFieldAddr, evField, evIndexAddr, evBuild, evBuildSlice, evElems, evSlice, nth, rdc, wrc, fromBody, resA, finRet, oneOf, AV.cells?, AV.isCell, fin_int, fin_bool, fin_str, -AV.isCell, hkc, txLoop, cutC, bodyOf, Tryd.f30, E_esc, h0, h1, h2, h3, fq0, fq1, k24, c24, a24, k3, c3, a3, k9, c9, a9, z24, i24, hz, sq22, bq3, hlen, hlt, hltz, hemb, bne, hps, g0]
        rfl, .inr ⟨by simp, rfl, .inr ⟨rfl, by simp [upd], i, hlt, fun ⟨_, _, he, _, _⟩ => by rw [hxe] at he; cases he; simp at g0⟩⟩⟩
    have e0 : k = 3 := by simpa using g0
    subst e0
    cases b'
    · refine ⟨.ret, _, by
        simp (disch := first | (simp only [List.length_append, List.length_cons, List.length_nil]; omega) | (simp; done) | assumption) [↓evOp_build, ↓evOp_bslice, evB2_int, evB2_bool, evB2_str, evB2_eqi, evB2_nei, evB2_eqn, evB2_nen, evB2_peq, evB2_pne, evB2_req, evB2_rne, evB2_zeq, evB2_zne, isC_c, isC_t, evAssert, Bool.or_true, Bool.true_or, rhoP_nil, rhoP_cons, evCode_skip, evCode_region, evCode_draw, evCode_seq, evCode_cond, evCode_block, evCode_loop, evCode_exit, evCode_ret, seqK_ite, seqK_none, seqK_norm, seqK_ret, seqK_exit, seqK_pan, condK_true, condK_false, condK_bool, blockK_ite, blockK_none, blockK_norm, blockK_ret, blockK_exit, blockK_pan, stepK_ite, stepK_none, stepK_ok, stepK_pan, drawK_ite, drawK_none, drawK_ok, drawK_pan, opK_ite, opK_none, opK_val, opK_pan, wantK_true, wantK_false, wantK_some, afterRegion_ite, afterDraw_ite, fromBody_ite, ite_bool, ite_int, stepA_K, doOp, noOp, lexA_nil, lexA_cons, lexF_nil, lexF_cons, afterDraw, noClash, panIn, lostF, FP.clash, wantedA, evOp, rho, rhoL, ofC0, ofC, argsA, upd, afterRegion, putA, goOp, evBin_add, evBin_sub, evBin_mul, evBin_quo, evBin_rem, evBin_eql, evBin_neq, evBin_lss, evBin_leq, evBin_gtr, evBin_geq, evBin_eqlB, evBin_neqB, evBin_addS, evBin_eqlS, evBin_neqS, evBin_lssS, evBin_leqS, evUn, evConv, evIndex, evBuiltin, evLen, evMin2, evMax2, evCallee, evBox, evLoad, evStore, evFieldAddr, evField, evIndexAddr, evBuild, evBuildSlice, evElems, evSlice, nth, rdc, wrc, fromBody, resA, finRet, oneOf, AV.cells?, AV.isCell, fin_int, fin_bool, fin_str, -AV.isCell, hkc, txLoop, cutC, bodyOf, Tryd.f30, E_esc, h0, h1, h2, h3, fq0, fq1, k24, c24, a24, k3, c3, a3, k9, c9, a9, z24, i24, hz, sq22, bq3, hlen, hlt, hltz, hemb, bne, hps, hr]
        rfl, .inr ⟨by simp, rfl, .inr ⟨rfl, by simp [upd], i, hlt, fun ⟨_, _, he, hp', _⟩ => by
          rw [hxe] at he; cases he
          have := hb.2 ((may_text _ _ _ _ _ _).2 ⟨rfl, rfl, rfl, rfl, hp'⟩)
          cases this⟩⟩⟩
    obtain ⟨e1, e2, e3, e4, hp⟩ := (may_text _ _ _ _ _ _).1 (hb.1 rfl)
    subst e1 e2 e3 e4
    have good : (0 < i → ∀ y, kids[i - 1]? = some y → (Op.bytesLess nm y.nm || nm == y.nm) = false) → ∀ j, j < i + 1 → kidOK kids j := fun hr j hj => by
      by_cases hji : j = i
      · subst hji; exact ⟨nm, tk', hxe, hp, hr⟩
      · exact h5 j (by omega)
    by_cases hi0 : i = 0
    · subst hi0
      refine ⟨.norm, _, by
        simp (disch := first | (simp only [List.length_append, List.length_cons, List.length_nil]; omega) | (simp; done) | assumption) [↓evOp_build, ↓evOp_bslice, evB2_int, evB2_bool, evB2_str, evB2_eqi, evB2_nei, evB2_eqn, evB2_nen, evB2_peq, evB2_pne, evB2_req, evB2_rne, evB2_zeq, evB2_zne, isC_c, isC_t, evAssert, Bool.or_true, Bool.true_or, rhoP_nil, rhoP_cons, evCode_skip, evCode_region, evCode_draw, evCode_seq, evCode_cond, evCode_block, evCode_loop, evCode_exit, evCode_ret, seqK_ite, seqK_none, seqK_norm, seqK_ret, seqK_exit, seqK_pan, condK_true, condK_false, condK_bool, blockK_ite, blockK_none, blockK_norm, blockK_ret, blockK_exit, blockK_pan, stepK_ite, stepK_none, stepK_ok, stepK_pan, drawK_ite, drawK_none, drawK_ok, drawK_pan, opK_ite, opK_none, opK_val, opK_pan, wantK_true, wantK_false, wantK_some, afterRegion_ite, afterDraw_ite, fromBody_ite, ite_bool, ite_int, stepA_K, doOp, noOp, lexA_nil, lexA_cons, lexF_nil, lexF_cons, afterDraw, noClash, panIn, lostF, FP.clash, wantedA, evOp, rho, rhoL, ofC0, ofC, argsA, upd, afterRegion, putA, goOp, evBin_add, evBin_sub, evBin_mul, evBin_quo, evBin_rem, evBin_eql, evBin_neq, evBin_lss, evBin_leq, evBin_gtr, evBin_geq, evBin_eqlB, evBin_neqB, evBin_addS, evBin_eqlS, evBin_neqS, evBin_lssS, evBin_leqS, evUn, evConv, evIndex, evBuiltin, evLen, evMin2, evMax2, evCallee, evBox, evLoad, evStore, evFieldAddr, evField, evIndexAddr, evBuild, evBuildSlice, evElems, evSlice, nth, rdc, wrc, fromBody, resA, finRet, oneOf, AV.cells?, AV.isCell, fin_int, fin_bool, fin_str, -AV.isCell, hkc, txLoop, cutC, bodyOf, Tryd.f30, E_esc, h0, h1, h2, h3, fq0, fq1, k24, c24, a24, k3, c3, a3, k9, c9, a9, z24, i24, hz, sq22, bq3, bq9, hlen, hlt, hltz, hemb, bne, hps, hr]
        rfl, .inl ⟨rfl, m, by omega, 1, by omega, by simp [upd, h0], by simp [upd, h1], by simp [upd, h2], by simp [upd, wrap64 1 (by omega)], rfl, good (fun h => absurd h (Nat.lt_irrefl 0))⟩⟩
    · have hpos : (0 : Int) < i := by omega
      have hpos' : 0 < i := by omega
      have hw2 : IntKind.i64.wrap ((i : Int) - 1) = ((i - 1 : Nat) : Int) := by rw [wrap64 _ (by omega)]; omega
      have hye : kids[i - 1]? = some kids[i - 1] := List.getElem?_eq_getElem (by omega)
      have hemb2 : (embL kids)[i - 1]? = some kids[i - 1].emb := by rw [embL_map, List.getElem?_map, hye]; rfl
      generalize kids[i - 1] = y at *
      obtain ⟨kk2, nm2, aa, lo2, hi2, tk2, ks2⟩ := y
      simp only [X.emb] at hemb2
      generalize hK2 : AV.slice (embL ks2) (tokOf tk2) = kc at *
      have hkc2 : kc.isCell = true := by rw [← hK2]; rfl
      cases g6 : (Op.bytesLess nm nm2 || nm == nm2)
      · refine ⟨.norm, _, by
          simp (disch := first | (simp only [List.length_append, List.length_cons, List.length_nil]; omega) | (simp; done) | assumption) [↓evOp_build, ↓evOp_bslice, evB2_int, evB2_bool, evB2_str, evB2_eqi, evB2_nei, evB2_eqn, evB2_nen, evB2_peq, evB2_pne, evB2_req, evB2_rne, evB2_zeq, evB2_zne, isC_c, isC_t, evAssert, Bool.or_true, Bool.true_or, rhoP_nil, rhoP_cons, evCode_skip, evCode_region, evCode_draw, evCode_seq, evCode_cond, evCode_block, evCode_loop, evCode_exit, evCode_ret, seqK_ite, seqK_none, seqK_norm, seqK_ret, seqK_exit, seqK_pan, condK_true, condK_false, condK_bool, blockK_ite, blockK_none, blockK_norm, blockK_ret, blockK_exit, blockK_pan, stepK_ite, stepK_none, stepK_ok, stepK_pan, drawK_ite, drawK_none, drawK_ok, drawK_pan, opK_ite, opK_none, opK_val, opK_pan, wantK_true, wantK_false, wantK_some, afterRegion_ite, afterDraw_ite, fromBody_ite, ite_bool, ite_int, stepA_K, doOp, noOp, lexA_nil, lexA_cons, lexF_nil, lexF_cons, afterDraw, noClash, panIn, lostF, FP.clash, wantedA, evOp, rho, rhoL, ofC0, ofC, argsA, upd, afterRegion, putA, goOp, evBin_add, evBin_sub, evBin_mul, evBin_quo, evBin_rem, evBin_eql, evBin_neq, evBin_lss, evBin_leq, evBin_gtr, evBin_geq, evBin_eqlB, evBin_neqB, evBin_addS, evBin_eqlS, evBin_neqS, evBin_lssS, evBin_leqS, evUn, evConv, evIndex, evBuiltin, evLen, evMin2, evMax2, evCallee, evBox, evLoad, evStore, evFieldAddr, evField, evIndexAddr, evBuild, evBuildSlice, evElems, evSlice, nth, rdc, wrc, fromBody, resA, finRet, oneOf, AV.cells?, AV.isCell, fin_int, fin_bool, fin_str, -AV.isCell, hkc, hkc2, txLoop, cutC, bodyOf, Tryd.f30, E_esc, h0, h1, h2, h3, fq0, fq1, k24, c24, a24, k3, c3, a3, k9, c9, a9, z24, i24, hz, sq22, bq3, bq9, hlen, hlt, hltz, hemb, hemb2, bne, hps, hr, hpos, hpos', hw2, g6, -Bool.or_eq_true, -Bool.or_eq_false_iff]
          rfl, .inl ⟨rfl, m, by omega, i + 1, by omega, by simp [upd, h0], by simp [upd, h1], by simp [upd, h2], by simp [upd, hw], rfl, good fun _ y hy => by rw [hye] at hy; cases hy; exact g6⟩⟩
      · refine ⟨.ret, _, by
          simp (disch := first | (simp only [List.length_append, List.length_cons, List.length_nil]; omega) | (simp; done) | assumption) [↓evOp_build, ↓evOp_bslice, evB2_int, evB2_bool, evB2_str, evB2_eqi, evB2_nei, evB2_eqn, evB2_nen, evB2_peq, evB2_pne, evB2_req, evB2_rne, evB2_zeq, evB2_zne, isC_c, isC_t, evAssert, Bool.or_true, Bool.true_or, rhoP_nil, rhoP_cons, evCode_skip, evCode_region, evCode_draw, evCode_seq, evCode_cond, evCode_block, evCode_loop, evCode_exit, evCode_ret, seqK_ite, seqK_none, seqK_norm, seqK_ret, seqK_exit, seqK_pan, condK_true, condK_false, condK_bool, blockK_ite, blockK_none, blockK_norm, blockK_ret, blockK_exit, blockK_pan, stepK_ite, stepK_none, stepK_ok, stepK_pan, drawK_ite, drawK_none, drawK_ok, drawK_pan, opK_ite, opK_none, opK_val, opK_pan, wantK_true, wantK_false, wantK_some, afterRegion_ite, afterDraw_ite, fromBody_ite, ite_bool, ite_int, stepA_K, doOp, noOp, lexA_nil, lexA_cons, lexF_nil, lexF_cons, afterDraw, noClash, panIn, lostF, FP.clash, wantedA, evOp, rho, rhoL, ofC0, ofC, argsA, upd, afterRegion, putA, goOp, evBin_add, evBin_sub, evBin_mul, evBin_quo, evBin_rem, evBin_eql, evBin_neq, evBin_lss, evBin_leq, evBin_gtr, evBin_geq, evBin_eqlB, evBin_neqB, evBin_addS, evBin_eqlS, evBin_neqS, evBin_lssS, evBin_leqS, evUn, evConv, evIndex, evBuiltin, evLen, evMin2, evMax2, evCallee, evBox, evLoad, evStore, evFieldAddr, evField, evIndexAddr, evBuild, evBuildSlice, evElems, evSlice, nth, rdc, wrc, fromBody, resA, finRet, oneOf, AV.cells?, AV.isCell, fin_int, fin_bool, fin_str, -AV.isCell, hkc, hkc2, txLoop, cutC, bodyOf, Tryd.f30, E_esc, h0, h1, h2, h3, fq0, fq1, k24, c24, a24, k3, c3, a3, k9, c9, a9, z24, i24, hz, sq22, bq3, bq9, hlen, hlt, hltz, hemb, hemb2, bne, hps, hr, hpos, hpos', hw2, g6, -Bool.or_eq_true, -Bool.or_eq_false_iff]
          rfl, .inr ⟨by simp, rfl, .inr ⟨rfl, by simp [upd], i, hlt, fun ⟨_, _, he, _, hr⟩ => by rw [hxe] at he; cases he; have := hr hpos' _ hye; simp only [X.nm] at this; rw [g6] at this; cases this⟩⟩⟩

theorem ev_texts (n : Nat) (kids : List X) (tok : Tok) (S : St) (hs : kids.length ≤ 1048576) (hn : kids.length < n)
    (hrec : ∀ x ∈ kids, ∀ S, ∃ b, ev Tryd.prog E n 20 [x.emb] S = some (.ret (.bool b), S) ∧ (b = true ↔ MayAll x)) :
    ∃ b, ev Tryd.prog E (n + 1) 30 [.slice (embL kids) tok] S = some (.ret (.bool b), S) ∧ (b = true ↔ SetOK kids) := by
  have hlen := embL_length kids
  rw [ev_enter (n := n) (show E.ok 30 = true from rfl) Tryd.func30 f71b (Nat.le_of_ble_eq_true rfl) (by decide +kernel)]
  obtain ⟨⟨o, t, b, v, S'⟩, hr, hS, hq⟩ := iter_meas (fun m fs h => tx_round n kids tok S hs hrec m fs h) kids.length n
    ⟨upd 7 (.int .i64 0) (upd 6 (.int .i64 kids.length) (upd 5 (.slice (embL kids) tok) (upd 2 (.bool false) (argsA [.slice (embL kids) tok])))), fun _ => (0, []), 4, S⟩ hn
    ⟨0, by omega, by simp [upd, argsA], by simp [upd], by simp [upd], by simp [upd], rfl, fun j hj => by omega⟩
  simp only at hS hq
  subst hS
  rcases hq with ⟨rfl, g0, ha⟩ | ⟨rfl, h2, j, hj, hno⟩
  · by_cases h8 : kids.length ≤ 8
    · have h8z : (kids.length : Int) ≤ 8 := by omega
      refine ⟨true, ?_, iff_of_true rfl ⟨h8, ha⟩⟩
      simp (disch := first | (simp only [List.length_append, List.length_cons, List.length_nil]; omega) | (simp; done) | assumption) [↓evOp_build, ↓evOp_bslice, evB2_int, evB2_bool, evB2_str, evB2_eqi, evB2_nei, evB2_eqn, evB2_nen, evB2_peq, evB2_pne, evB2_req, evB2_rne, evB2_zeq, evB2_zne, isC_c, isC_t, evAssert, Bool.or_true, Bool.true_or, rhoP_nil, rhoP_cons, evCode_skip, evCode_region, evCode_draw, evCode_seq, evCode_cond, evCode_block, evCode_loop, evCode_exit, evCode_ret, seqK_ite, seqK_none, seqK_norm, seqK_ret, seqK_exit, seqK_pan, condK_true, condK_false, condK_bool, blockK_ite, blockK_none, blockK_norm, blockK_ret, blockK_exit, blockK_pan, stepK_ite, stepK_none, stepK_ok, stepK_pan, drawK_ite, drawK_none, drawK_ok, drawK_pan, opK_ite, opK_none, opK_val, opK_pan, wantK_true, wantK_false, wantK_some, afterRegion_ite, afterDraw_ite, fromBody_ite, ite_bool, ite_int, stepA_K, doOp, noOp, lexA_nil, lexA_cons, lexF_nil, lexF_cons, afterDraw, noClash, panIn, lostF, FP.clash, wantedA, evOp, rho, rhoL, ofC0, ofC, argsA, upd, afterRegion, putA, goOp, evBin_add, evBin_sub, evBin_mul, evBin_quo, evBin_rem, evBin_eql, evBin_neq, evBin_lss, evBin_leq, evBin_gtr, evBin_geq, evBin_eqlB, evBin_neqB, evBin_addS, evBin_eqlS, evBin_neqS, evBin_lssS, evBin_leqS, evUn, evConv, evIndex, evBuiltin, evLen, evMin2, evMax2, evCallee, evBox, evLoad, evStore, evFieldAddr, evField, evIndexAddr, evBuild, evBuildSlice, evElems, evSlice, nth, rdc, wrc, fromBody, resA, finRet, oneOf, AV.cells?, AV.isCell, fin_int, fin_bool, fin_str, tx0, tx1, tx2, cutC, bodyOf, Tryd.f30, sq22, bq3, hlen, hr, g0, h8, h8z]
    · have h8z : ¬ (kids.length : Int) ≤ 8 := by omega
      refine ⟨false, ?_, iff_of_false (by simp) fun g => h8 g.1⟩
      simp (disch := first | (simp only [List.length_append, List.length_cons, List.length_nil]; omega) | (simp; done) | assumption) [↓evOp_build, ↓evOp_bslice, evB2_int, evB2_bool, evB2_str, evB2_eqi, evB2_nei, evB2_eqn, evB2_nen, evB2_peq, evB2_pne, evB2_req, evB2_rne, evB2_zeq, evB2_zne, isC_c, isC_t, evAssert, Bool.or_true, Bool.true_or, rhoP_nil, rhoP_cons, evCode_skip, evCode_region, evCode_draw, evCode_seq, evCode_cond, evCode_block, evCode_loop, evCode_exit, evCode_ret, seqK_ite, seqK_none, seqK_norm, seqK_ret, seqK_exit, seqK_pan, condK_true, condK_false, condK_bool, blockK_ite, blockK_none, blockK_norm, blockK_ret, blockK_exit, blockK_pan, stepK_ite, stepK_none, stepK_ok, stepK_pan, drawK_ite, drawK_none, drawK_ok, drawK_pan, opK_ite, opK_none, opK_val, opK_pan, wantK_true, wantK_false, wantK_some, afterRegion_ite, afterDraw_ite, fromBody_ite, ite_bool, ite_int, stepA_K, doOp, noOp, lexA_nil, lexA_cons, lexF_nil, lexF_cons, afterDraw, noClash, panIn, lostF, FP.clash, wantedA, evOp, rho, rhoL, ofC0, ofC, argsA, upd, afterRegion, putA, goOp, evBin_add, evBin_sub, evBin_mul, evBin_quo, evBin_rem, evBin_eql, evBin_neq, evBin_lss, evBin_leq, evBin_gtr, evBin_geq, evBin_eqlB, evBin_neqB, evBin_addS, evBin_eqlS, evBin_neqS, evBin_lssS, evBin_leqS, evUn, evConv, evIndex, evBuiltin, evLen, evMin2, evMax2, evCallee, evBox, evLoad, evStore, evFieldAddr, evField, evIndexAddr, evBuild, evBuildSlice, evElems, evSlice, nth, rdc, wrc, fromBody, resA, finRet, oneOf, AV.cells?, AV.isCell, fin_int, fin_bool, fin_str, tx0, tx1, tx2, cutC, bodyOf, Tryd.f30, sq22, bq3, hlen, hr, g0, h8, h8z]
  · refine ⟨false, ?_, iff_of_false (by simp) fun g => hno (g.2 j hj)⟩
    simp (disch := first | (simp only [List.length_append, List.length_cons, List.length_nil]; omega) | (simp; done) | assumption) [↓evOp_build, ↓evOp_bslice, evB2_int, evB2_bool, evB2_str, evB2_eqi, evB2_nei, evB2_eqn, evB2_nen, evB2_peq, evB2_pne, evB2_req, evB2_rne, evB2_zeq, evB2_zne, isC_c, isC_t, evAssert, Bool.or_true, Bool.true_or, rhoP_nil, rhoP_cons, evCode_skip, evCode_region, evCode_draw, evCode_seq, evCode_cond, evCode_block, evCode_loop, evCode_exit, evCode_ret, seqK_ite, seqK_none, seqK_norm, seqK_ret, seqK_exit, seqK_pan, condK_true, condK_false, condK_bool, blockK_ite, blockK_none, blockK_norm, blockK_ret, blockK_exit, blockK_pan, stepK_ite, stepK_none, stepK_ok, stepK_pan, drawK_ite, drawK_none, drawK_ok, drawK_pan, opK_ite, opK_none, opK_val, opK_pan, wantK_true, wantK_false, wantK_some, afterRegion_ite, afterDraw_ite, fromBody_ite, ite_bool, ite_int, stepA_K, doOp, noOp, lexA_nil, lexA_cons, lexF_nil, lexF_cons, afterDraw, noClash, panIn, lostF, FP.clash, wantedA, evOp, rho, rhoL, ofC0, ofC, argsA, upd, afterRegion, putA, goOp, evBin_add, evBin_sub, evBin_mul, evBin_quo, evBin_rem, evBin_eql, evBin_neq, evBin_lss, evBin_leq, evBin_gtr, evBin_geq, evBin_eqlB, evBin_neqB, evBin_addS, evBin_eqlS, evBin_neqS, evBin_lssS, evBin_leqS, evUn, evConv, evIndex, evBuiltin, evLen, evMin2, evMax2, evCallee, evBox, evLoad, evStore, evFieldAddr, evField, evIndexAddr, evBuild, evBuildSlice, evElems, evSlice, nth, rdc, wrc, fromBody, resA, finRet, oneOf, AV.cells?, AV.isCell, fin_int, fin_bool, fin_str, tx0, tx1, tx2, cutC, bodyOf, Tryd.f30, sq22, hlen, hr, h2]
end Go.Proofs.YtemggoaefohliaaDoor.NF

/- ast.Check, evaluated. No condition. -/
namespace Go.Proofs.YtemggoaefohliaaDoor.NF
set_option linter.unusedVariables false
set_option linter.unusedSimpArgs false
open Go AE EX PT
set_option maxRecDepth 100000

theorem nodesL_all {q : X → Prop} : ∀ l : List X, (∀ y ∈ nodesL l, q y) ↔ ∀ x ∈ l, ∀ y ∈ x.nodes, q y
  | [] => by simp [nodesL]
  | x :: l => by
    have := nodesL_all (q := q) l
    simp only [nodesL, List.mem_append, List.mem_cons]
    constructor
    · rintro h z (rfl | hz) y hy
      · exact h y (.inl hy)
      · exact this.1 (fun y hy => h y (.inr hy)) z hz y hy
    · rintro h y (hy | hy)
      · exact h x (.inl rfl) y hy
      · exact this.2 (fun z hz => h z (.inr hz)) y hy
theorem mayAll_set {k : Int} {nm : List UInt8} {a lo hi : Int} {tk : Bool} {kids : List X} (h4 : k = 4) :
    MayAll (.mk k nm a lo hi tk kids) ↔ Fits k nm a lo hi ∧ SetOK kids := by
  subst h4
  constructor
  · intro h
    obtain ⟨_, _, g3, g4⟩ := h _ (List.mem_cons_self ..)
    exact ⟨g4, g3 rfl⟩
  · rintro ⟨g4, g3⟩ y hy
    simp [X.nodes] at hy
    subst hy
    exact ⟨by simp [kinds], fun h => absurd rfl h, fun _ => g3, g4⟩
theorem mayAll_more {k : Int} {nm : List UInt8} {a lo hi : Int} {tk : Bool} {kids : List X} (h4 : k ≠ 4) :
    MayAll (.mk k nm a lo hi tk kids) ↔ kinds k ∧ (kids.length : Int) = kidsI k ∧ Fits k nm a lo hi ∧ ∀ x ∈ kids, MayAll x := by
  have h4' : (k == 4) = false := by simp [h4]
  have hn : (X.mk k nm a lo hi tk kids).nodes = X.mk k nm a lo hi tk kids :: nodesL kids := by simp [X.nodes, h4']
  unfold MayAll
  rw [hn]
  constructor
  · intro h
    obtain ⟨g1, g2, _, g4⟩ := h _ (List.mem_cons_self ..)
    exact ⟨g1, g2 h4, g4, (nodesL_all kids).1 fun y hy => h y (List.mem_cons_of_mem _ hy)⟩
  · rintro ⟨g1, g2, g4, hk⟩ y hy
    rcases List.mem_cons.1 hy with rfl | hy
    · exact ⟨g1, fun _ => g2, fun h => absurd h h4, g4⟩
    · exact (nodesL_all kids).2 hk y hy

theorem bulkL_mem {x : X} : ∀ {l : List X}, x ∈ l → x.bulk ≤ bulkL l
  | y :: l, h => by
    rcases List.mem_cons.1 h with rfl | h
    · simp [bulkL]
    · have := bulkL_mem h; simp [bulkL]; omega
theorem bulkL_length : ∀ l : List X, 7 * l.length ≤ bulkL l
  | [] => by simp [bulkL]
  | .mk k nm n lo hi tk kids :: l => by
    have := bulkL_length l
    simp [bulkL, X.bulk]; omega

theorem ev_mayKid (n : Nat) (x : X) (S : St) (b : Bool) (h : ev Tryd.prog E n 20 [x.emb] S = some (.ret (.bool b), S)) : ev Tryd.prog E (n + 1) 33 [x.emb] S = some (.ret (.bool (!b)), S) := by
  rw [ev_enter (n := n) (show E.ok 33 = true from rfl) Tryd.func33 (fn := Tryd.f33) rfl (Nat.le_of_ble_eq_true rfl) (by decide +kernel)]
  have ha1 := cells_all x
  have hc1 := (cells_ok x).2
  have ht1 : List.take 6 x.cells = x.cells := List.take_of_length_le (by omega)
  rw [emb_cells] at h ⊢
  generalize x.cells = C1 at *
  simp (disch := first | (simp only [List.length_append, List.length_cons, List.length_nil]; omega) | (simp; done) | assumption) [↓evOp_build, ↓evOp_bslice, evB2_int, evB2_bool, evB2_str, evB2_eqi, evB2_nei, evB2_eqn, evB2_nen, evB2_peq, evB2_pne, evB2_req, evB2_rne, evB2_zeq, evB2_zne, isC_c, isC_t, evAssert, Bool.or_true, Bool.true_or, rhoP_nil, rhoP_cons, evCode_skip, evCode_region, evCode_draw, evCode_seq, evCode_cond, evCode_block, evCode_loop, evCode_exit, evCode_ret, seqK_ite, seqK_none, seqK_norm, seqK_ret, seqK_exit, seqK_pan, condK_true, condK_false, condK_bool, blockK_ite, blockK_none, blockK_norm, blockK_ret, blockK_exit, blockK_pan, stepK_ite, stepK_none, stepK_ok, stepK_pan, drawK_ite, drawK_none, drawK_ok, drawK_pan, opK_ite, opK_none, opK_val, opK_pan, wantK_true, wantK_false, wantK_some, afterRegion_ite, afterDraw_ite, fromBody_ite, ite_bool, ite_int, stepA_K, doOp, noOp, lexA_nil, lexA_cons, lexF_nil, lexF_cons, afterDraw, noClash, panIn, lostF, FP.clash, wantedA, evOp, rho, rhoL, ofC0, ofC, argsA, upd, afterRegion, putA, goOp, evBin_add, evBin_sub, evBin_mul, evBin_quo, evBin_rem, evBin_eql, evBin_neq, evBin_lss, evBin_leq, evBin_gtr, evBin_geq, evBin_eqlB, evBin_neqB, evBin_addS, evBin_eqlS, evBin_neqS, evBin_lssS, evBin_leqS, evUn, evConv, evIndex, evBuiltin, evLen, evMin2, evMax2, evCallee, evBox, evLoad, evStore, evFieldAddr, evField, evIndexAddr, evBuild, evBuildSlice, evElems, evSlice, nth, rdc, wrc, fromBody, resA, finRet, oneOf, AV.cells?, AV.isCell, fin_int, fin_bool, fin_str, Tryd.f33, E_esc, k24, c24, a24, h, ha1, hc1, ht1]

set_option maxHeartbeats 4000000 in
theorem ev_may : ∀ (m : Nat) (x : X), x.bulk ≤ m → m ≤ 1048576 → ∀ n, m + 20 ≤ n → ∀ S, ∃ b, ev Tryd.prog E n 20 [x.emb] S = some (.ret (.bool b), S) ∧ (b = true ↔ MayAll x)
  | 0, x, hm, _, _, _, _ => absurd hm (by have := size_pos x; have := size_bulk x; omega)
  | m + 1, x, hm, hmm, n, hn, S => by
    obtain ⟨n, rfl⟩ : ∃ k, n = k + 4 := ⟨n - 4, by omega⟩
    obtain ⟨k, nm, a, lo, hi, tk, kids⟩ := x
    simp only [X.bulk] at hm
    have hl := bulkL_length kids
    have hlen := embL_length kids
    have hrec : ∀ q, m ≤ q + 6 → ∀ x ∈ kids, ∀ S, ∃ b, ev Tryd.prog E (q + 20) 20 [x.emb] S = some (.ret (.bool b), S) ∧ (b = true ↔ MayAll x) := fun q hq x hx S => by
      have := bulkL_mem hx
      exact ev_may (m - 6) x (by omega) (by omega) (q + 20) (by omega) S
    have hps : E.ps 20 3 = [(1, 4), (2, 4)] := rfl
    simp only [X.emb]
    rw [ev_enter (n := n + 3) (show E.ok 20 = true from rfl) Tryd.func20 (fn := Tryd.f20) rfl (Nat.le_of_ble_eq_true rfl) (by decide +kernel)]
    cases h4 : k == 4
    · have h4' : k ≠ 4 := by simpa using h4
      rw [mayAll_more h4']
      have hK := ev_aKids (n + 2) k S
      cases e1 : (kidsI k == (kids.length : Int))
      · refine ⟨false, ?_, iff_of_false (by simp) fun g => by have := g.2.1; rw [this] at e1; simp at e1⟩
        simp (disch := first | (simp only [List.length_append, List.length_cons, List.length_nil]; omega) | (simp; done) | assumption) [↓evOp_build, ↓evOp_bslice, evB2_int, evB2_bool, evB2_str, evB2_eqi, evB2_nei, evB2_eqn, evB2_nen, evB2_peq, evB2_pne, evB2_req, evB2_rne, evB2_zeq, evB2_zne, isC_c, isC_t, evAssert, Bool.or_true, Bool.true_or, rhoP_nil, rhoP_cons, evCode_skip, evCode_region, evCode_draw, evCode_seq, evCode_cond, evCode_block, evCode_loop, evCode_exit, evCode_ret, seqK_ite, seqK_none, seqK_norm, seqK_ret, seqK_exit, seqK_pan, condK_true, condK_false, condK_bool, blockK_ite, blockK_none, blockK_norm, blockK_ret, blockK_exit, blockK_pan, stepK_ite, stepK_none, stepK_ok, stepK_pan, drawK_ite, drawK_none, drawK_ok, drawK_pan, opK_ite, opK_none, opK_val, opK_pan, wantK_true, wantK_false, wantK_some, afterRegion_ite, afterDraw_ite, fromBody_ite, ite_bool, ite_int, stepA_K, doOp, noOp, lexA_nil, lexA_cons, lexF_nil, lexF_cons, afterDraw, noClash, panIn, lostF, FP.clash, wantedA, evOp, rho, rhoL, ofC0, ofC, argsA, upd, afterRegion, putA, goOp, evBin_add, evBin_sub, evBin_mul, evBin_quo, evBin_rem, evBin_eql, evBin_neq, evBin_lss, evBin_leq, evBin_gtr, evBin_geq, evBin_eqlB, evBin_neqB, evBin_addS, evBin_eqlS, evBin_neqS, evBin_lssS, evBin_leqS, evUn, evConv, evIndex, evBuiltin, evLen, evMin2, evMax2, evCallee, evBox, evLoad, evStore, evFieldAddr, evField, evIndexAddr, evBuild, evBuildSlice, evElems, evSlice, nth, rdc, wrc, fromBody, resA, finRet, oneOf, AV.cells?, AV.isCell, fin_int, fin_bool, fin_str, Tryd.f20, E_esc, k24, c24, a24, k3, c3, a3, k22, c22, a22, fq0, fq5, bq3, hlen, sq22, h4, hps, hK, e1]
      have e1' : (kids.length : Int) = kidsI k := by simp at e1; omega
      have hk : kinds k := by
        by_cases hk : kinds k
        · exact hk
        · rw [kidsI_out hk] at e1'; omega
      obtain ⟨b1, hO, hb1⟩ := ev_own (n + 3) k nm (by omega) (by omega) a lo hi (.slice (embL kids) (tokOf tk)) rfl hk S
      cases b1
      · refine ⟨false, ?_, iff_of_false (by simp) fun g => by have := hb1.2 g.2.2.1; cases this⟩
        simp (disch := first | (simp only [List.length_append, List.length_cons, List.length_nil]; omega) | (simp; done) | assumption) [↓evOp_build, ↓evOp_bslice, evB2_int, evB2_bool, evB2_str, evB2_eqi, evB2_nei, evB2_eqn, evB2_nen, evB2_peq, evB2_pne, evB2_req, evB2_rne, evB2_zeq, evB2_zne, isC_c, isC_t, evAssert, Bool.or_true, Bool.true_or, rhoP_nil, rhoP_cons, evCode_skip, evCode_region, evCode_draw, evCode_seq, evCode_cond, evCode_block, evCode_loop, evCode_exit, evCode_ret, seqK_ite, seqK_none, seqK_norm, seqK_ret, seqK_exit, seqK_pan, condK_true, condK_false, condK_bool, blockK_ite, blockK_none, blockK_norm, blockK_ret, blockK_exit, blockK_pan, stepK_ite, stepK_none, stepK_ok, stepK_pan, drawK_ite, drawK_none, drawK_ok, drawK_pan, opK_ite, opK_none, opK_val, opK_pan, wantK_true, wantK_false, wantK_some, afterRegion_ite, afterDraw_ite, fromBody_ite, ite_bool, ite_int, stepA_K, doOp, noOp, lexA_nil, lexA_cons, lexF_nil, lexF_cons, afterDraw, noClash, panIn, lostF, FP.clash, wantedA, evOp, rho, rhoL, ofC0, ofC, argsA, upd, afterRegion, putA, goOp, evBin_add, evBin_sub, evBin_mul, evBin_quo, evBin_rem, evBin_eql, evBin_neq, evBin_lss, evBin_leq, evBin_gtr, evBin_geq, evBin_eqlB, evBin_neqB, evBin_addS, evBin_eqlS, evBin_neqS, evBin_lssS, evBin_leqS, evUn, evConv, evIndex, evBuiltin, evLen, evMin2, evMax2, evCallee, evBox, evLoad, evStore, evFieldAddr, evField, evIndexAddr, evBuild, evBuildSlice, evElems, evSlice, nth, rdc, wrc, fromBody, resA, finRet, oneOf, AV.cells?, AV.isCell, fin_int, fin_bool, fin_str, Tryd.f20, E_esc, k24, c24, a24, k3, c3, a3, k22, c22, a22, fq0, fq5, bq3, hlen, sq22, h4, hps, hK, e1, hO]
      obtain ⟨b2, hC, hb2⟩ := ev_Contains (n + 1) kids (tokOf tk) 33 (fun x => ¬ MayAll x) S (by omega) (by omega) (fun x hx S => by
        obtain ⟨q, hq⟩ : ∃ q, n = q + 20 := ⟨n - 20, by omega⟩
        obtain ⟨b, h1, h2⟩ := hrec q (by omega) x hx S
        rw [← hq] at h1
        exact ⟨!b, ev_mayKid n x S b h1, by rw [← h2]; cases b <;> simp⟩)
      refine ⟨!b2, ?_, ?_⟩
      · cases b2 <;> simp (disch := first | (simp only [List.length_append, List.length_cons, List.length_nil]; omega) | (simp; done) | assumption) [↓evOp_build, ↓evOp_bslice, evB2_int, evB2_bool, evB2_str, evB2_eqi, evB2_nei, evB2_eqn, evB2_nen, evB2_peq, evB2_pne, evB2_req, evB2_rne, evB2_zeq, evB2_zne, isC_c, isC_t, evAssert, Bool.or_true, Bool.true_or, rhoP_nil, rhoP_cons, evCode_skip, evCode_region, evCode_draw, evCode_seq, evCode_cond, evCode_block, evCode_loop, evCode_exit, evCode_ret, seqK_ite, seqK_none, seqK_norm, seqK_ret, seqK_exit, seqK_pan, condK_true, condK_false, condK_bool, blockK_ite, blockK_none, blockK_norm, blockK_ret, blockK_exit, blockK_pan, stepK_ite, stepK_none, stepK_ok, stepK_pan, drawK_ite, drawK_none, drawK_ok, drawK_pan, opK_ite, opK_none, opK_val, opK_pan, wantK_true, wantK_false, wantK_some, afterRegion_ite, afterDraw_ite, fromBody_ite, ite_bool, ite_int, stepA_K, doOp, noOp, lexA_nil, lexA_cons, lexF_nil, lexF_cons, afterDraw, noClash, panIn, lostF, FP.clash, wantedA, evOp, rho, rhoL, ofC0, ofC, argsA, upd, afterRegion, putA, goOp, evBin_add, evBin_sub, evBin_mul, evBin_quo, evBin_rem, evBin_eql, evBin_neq, evBin_lss, evBin_leq, evBin_gtr, evBin_geq, evBin_eqlB, evBin_neqB, evBin_addS, evBin_eqlS, evBin_neqS, evBin_lssS, evBin_leqS, evUn, evConv, evIndex, evBuiltin, evLen, evMin2, evMax2, evCallee, evBox, evLoad, evStore, evFieldAddr, evField, evIndexAddr, evBuild, evBuildSlice, evElems, evSlice, nth, rdc, wrc, fromBody, resA, finRet, oneOf, AV.cells?, AV.isCell, fin_int, fin_bool, fin_str, Tryd.f20, E_esc, k24, c24, a24, k3, c3, a3, k22, c22, a22, fq0, fq5, bq3, hlen, sq22, h4, hps, hK, e1, hO, hC]
      · have : (b2 = true) ↔ ¬ ∀ x ∈ kids, MayAll x := by rw [hb2]; simp
        have h0 := hb1.1 rfl
        cases b2
        · simp at this
          exact iff_of_true rfl ⟨hk, e1', h0, this⟩
        · exact iff_of_false (by simp) fun g => this.1 rfl g.2.2.2
    · have h4' : k = 4 := by simpa using h4
      rw [mayAll_set h4']
      subst h4'
      obtain ⟨b1, hO, hb1⟩ := ev_own (n + 3) 4 nm (by omega) (by omega) a lo hi (.slice (embL kids) (tokOf tk)) rfl (by simp [kinds]) S
      cases b1
      · refine ⟨false, ?_, iff_of_false (by simp) fun g => by have := hb1.2 g.1; cases this⟩
        simp (disch := first | (simp only [List.length_append, List.length_cons, List.length_nil]; omega) | (simp; done) | assumption) [↓evOp_build, ↓evOp_bslice, evB2_int, evB2_bool, evB2_str, evB2_eqi, evB2_nei, evB2_eqn, evB2_nen, evB2_peq, evB2_pne, evB2_req, evB2_rne, evB2_zeq, evB2_zne, isC_c, isC_t, evAssert, Bool.or_true, Bool.true_or, rhoP_nil, rhoP_cons, evCode_skip, evCode_region, evCode_draw, evCode_seq, evCode_cond, evCode_block, evCode_loop, evCode_exit, evCode_ret, seqK_ite, seqK_none, seqK_norm, seqK_ret, seqK_exit, seqK_pan, condK_true, condK_false, condK_bool, blockK_ite, blockK_none, blockK_norm, blockK_ret, blockK_exit, blockK_pan, stepK_ite, stepK_none, stepK_ok, stepK_pan, drawK_ite, drawK_none, drawK_ok, drawK_pan, opK_ite, opK_none, opK_val, opK_pan, wantK_true, wantK_false, wantK_some, afterRegion_ite, afterDraw_ite, fromBody_ite, ite_bool, ite_int, stepA_K, doOp, noOp, lexA_nil, lexA_cons, lexF_nil, lexF_cons, afterDraw, noClash, panIn, lostF, FP.clash, wantedA, evOp, rho, rhoL, ofC0, ofC, argsA, upd, afterRegion, putA, goOp, evBin_add, evBin_sub, evBin_mul, evBin_quo, evBin_rem, evBin_eql, evBin_neq, evBin_lss, evBin_leq, evBin_gtr, evBin_geq, evBin_eqlB, evBin_neqB, evBin_addS, evBin_eqlS, evBin_neqS, evBin_lssS, evBin_leqS, evUn, evConv, evIndex, evBuiltin, evLen, evMin2, evMax2, evCallee, evBox, evLoad, evStore, evFieldAddr, evField, evIndexAddr, evBuild, evBuildSlice, evElems, evSlice, nth, rdc, wrc, fromBody, resA, finRet, oneOf, AV.cells?, AV.isCell, fin_int, fin_bool, fin_str, Tryd.f20, E_esc, k24, c24, a24, k3, c3, a3, k22, c22, a22, fq0, fq5, bq3, hlen, sq22, hO]
      obtain ⟨b2, hC, hb2⟩ := ev_texts (n + 2) kids (tokOf tk) S (by omega) (by omega) (fun x hx S => by
        obtain ⟨q, hq⟩ : ∃ q, n + 2 = q + 20 := ⟨n - 18, by omega⟩
        obtain ⟨b, h1, h2⟩ := hrec q (by omega) x hx S
        rw [← hq] at h1
        exact ⟨b, h1, h2⟩)
      refine ⟨b2, ?_, ?_⟩
      · cases b2 <;> simp (disch := first | (simp only [List.length_append, List.length_cons, List.length_nil]; omega) | (simp; done) | assumption) [↓evOp_build, ↓evOp_bslice, evB2_int, evB2_bool, evB2_str, evB2_eqi, evB2_nei, evB2_eqn, evB2_nen, evB2_peq, evB2_pne, evB2_req, evB2_rne, evB2_zeq, evB2_zne, isC_c, isC_t, evAssert, Bool.or_true, Bool.true_or, rhoP_nil, rhoP_cons, evCode_skip, evCode_region, evCode_draw, evCode_seq, evCode_cond, evCode_block, evCode_loop, evCode_exit, evCode_ret, seqK_ite, seqK_none, seqK_norm, seqK_ret, seqK_exit, seqK_pan, condK_true, condK_false, condK_bool, blockK_ite, blockK_none, blockK_norm, blockK_ret, blockK_exit, blockK_pan, stepK_ite, stepK_none, stepK_ok, stepK_pan, drawK_ite, drawK_none, drawK_ok, drawK_pan, opK_ite, opK_none, opK_val, opK_pan, wantK_true, wantK_false, wantK_some, afterRegion_ite, afterDraw_ite, fromBody_ite, ite_bool, ite_int, stepA_K, doOp, noOp, lexA_nil, lexA_cons, lexF_nil, lexF_cons, afterDraw, noClash, panIn, lostF, FP.clash, wantedA, evOp, rho, rhoL, ofC0, ofC, argsA, upd, afterRegion, putA, goOp, evBin_add, evBin_sub, evBin_mul, evBin_quo, evBin_rem, evBin_eql, evBin_neq, evBin_lss, evBin_leq, evBin_gtr, evBin_geq, evBin_eqlB, evBin_neqB, evBin_addS, evBin_eqlS, evBin_neqS, evBin_lssS, evBin_leqS, evUn, evConv, evIndex, evBuiltin, evLen, evMin2, evMax2, evCallee, evBox, evLoad, evStore, evFieldAddr, evField, evIndexAddr, evBuild, evBuildSlice, evElems, evSlice, nth, rdc, wrc, fromBody, resA, finRet, oneOf, AV.cells?, AV.isCell, fin_int, fin_bool, fin_str, Tryd.f20, E_esc, k24, c24, a24, k3, c3, a3, k22, c22, a22, fq0, fq5, bq3, hlen, sq22, hO, hC]
      · rw [hb2]
        exact ⟨fun h => ⟨hb1.1 rfl, h⟩, fun h => h.2⟩

open Classical in
/-- what Check answers -/
noncomputable def chkX (x : X) : Int := if 12 < x.dep then 32 else if 64 < x.nodes.length then 3 else if MayAll x then 0 else 12
theorem chkX_ok (x : X) : chkX x = 0 ↔ OKx x := by
  unfold chkX OKx
  by_cases h1 : 12 < x.dep
  · rw [if_pos h1]
    exact iff_of_false (by decide) fun h => by have := h.1; omega
  · rw [if_neg h1]
    by_cases h2 : 64 < x.nodes.length
    · rw [if_pos h2]
      exact iff_of_false (by decide) fun h => by have := h.2.1; omega
    · rw [if_neg h2]
      by_cases h3 : MayAll x
      · rw [if_pos h3]
        exact iff_of_true rfl ⟨by omega, by omega, h3⟩
      · rw [if_neg h3]
        exact iff_of_false (by decide) fun h => h3 h.2.2
theorem ev_aCheckC (n : Nat) (x : X) (hx : x.bulk + 22 ≤ n) (hs : x.bulk ≤ 1048576) (S : St) :
    ev Tryd.prog E (n + 1) 8 [x.emb] S = some (.ret (.int .i64 (chkX x)), S) := by
  have hsz := size_bulk x
  have hsz7 := size7 x
  have hD := ev_aDepth x.size x (Nat.le_refl _) (by omega) n (by omega) S
  have hA := ev_aSize x.size x (Nat.le_refl _) (by omega) n (by omega) S
  obtain ⟨b, hM, hb⟩ := ev_may x.bulk x (Nat.le_refl _) hs n (by omega) S
  have ha1 := cells_all x
  have hc1 := (cells_ok x).2
  have ht1 : List.take 6 x.cells = x.cells := List.take_of_length_le (by omega)
  rw [ev_enter (n := n) (show E.ok 8 = true from rfl) Tryd.func8 (fn := Tryd.f8) rfl (Nat.le_of_ble_eq_true rfl) (by decide +kernel)]
  rw [emb_cells] at hD hA hM ⊢
  by_cases h12 : 12 < x.dep
  · have h12z : (12 : Int) < x.dep := by omega
    have hk : chkX x = 32 := by unfold chkX; rw [if_pos h12]
    rw [hk]
    clear hk
    generalize x.cells = C1 at *
    simp (disch := first | (simp only [List.length_append, List.length_cons, List.length_nil]; omega) | (simp; done) | assumption) [↓evOp_build, ↓evOp_bslice, evB2_int, evB2_bool, evB2_str, evB2_eqi, evB2_nei, evB2_eqn, evB2_nen, evB2_peq, evB2_pne, evB2_req, evB2_rne, evB2_zeq, evB2_zne, isC_c, isC_t, evAssert, Bool.or_true, Bool.true_or, rhoP_nil, rhoP_cons, evCode_skip, evCode_region, evCode_draw, evCode_seq, evCode_cond, evCode_block, evCode_loop, evCode_exit, evCode_ret, seqK_ite, seqK_none, seqK_norm, seqK_ret, seqK_exit, seqK_pan, condK_true, condK_false, condK_bool, blockK_ite, blockK_none, blockK_norm, blockK_ret, blockK_exit, blockK_pan, stepK_ite, stepK_none, stepK_ok, stepK_pan, drawK_ite, drawK_none, drawK_ok, drawK_pan, opK_ite, opK_none, opK_val, opK_pan, wantK_true, wantK_false, wantK_some, afterRegion_ite, afterDraw_ite, fromBody_ite, ite_bool, ite_int, stepA_K, doOp, noOp, lexA_nil, lexA_cons, lexF_nil, lexF_cons, afterDraw, noClash, panIn, lostF, FP.clash, wantedA, evOp, rho, rhoL, ofC0, ofC, argsA, upd, afterRegion, putA, goOp, evBin_add, evBin_sub, evBin_mul, evBin_quo, evBin_rem, evBin_eql, evBin_neq, evBin_lss, evBin_leq, evBin_gtr, evBin_geq, evBin_eqlB, evBin_neqB, evBin_addS, evBin_eqlS, evBin_neqS, evBin_lssS, evBin_leqS, evUn, evConv, evIndex, evBuiltin, evLen, evMin2, evMax2, evCallee, evBox, evLoad, evStore, evFieldAddr, evField, evIndexAddr, evBuild, evBuildSlice, evElems, evSlice, nth, rdc, wrc, fromBody, resA, finRet, oneOf, AV.cells?, AV.isCell, fin_int, fin_bool, fin_str, Tryd.f8, E_esc, k24, c24, a24, bq3, ha1, hc1, ht1, hD, h12, h12z]
  have h12z : ¬ (12 : Int) < x.dep := by omega
  by_cases h64 : 64 < x.nodes.length
  · have h64z : (64 : Int) < x.nodes.length := by omega
    have hk : chkX x = 3 := by unfold chkX; rw [if_neg h12, if_pos h64]
    rw [hk]
    clear hk
    generalize x.cells = C1 at *
    simp (disch := first | (simp only [List.length_append, List.length_cons, List.length_nil]; omega) | (simp; done) | assumption) [↓evOp_build, ↓evOp_bslice, evB2_int, evB2_bool, evB2_str, evB2_eqi, evB2_nei, evB2_eqn, evB2_nen, evB2_peq, evB2_pne, evB2_req, evB2_rne, evB2_zeq, evB2_zne, isC_c, isC_t, evAssert, Bool.or_true, Bool.true_or, rhoP_nil, rhoP_cons, evCode_skip, evCode_region, evCode_draw, evCode_seq, evCode_cond, evCode_block, evCode_loop, evCode_exit, evCode_ret, seqK_ite, seqK_none, seqK_norm, seqK_ret, seqK_exit, seqK_pan, condK_true, condK_false, condK_bool, blockK_ite, blockK_none, blockK_norm, blockK_ret, blockK_exit, blockK_pan, stepK_ite, stepK_none, stepK_ok, stepK_pan, drawK_ite, drawK_none, drawK_ok, drawK_pan, opK_ite, opK_none, opK_val, opK_pan, wantK_true, wantK_false, wantK_some, afterRegion_ite, afterDraw_ite, fromBody_ite, ite_bool, ite_int, stepA_K, doOp, noOp, lexA_nil, lexA_cons, lexF_nil, lexF_cons, afterDraw, noClash, panIn, lostF, FP.clash, wantedA, evOp, rho, rhoL, ofC0, ofC, argsA, upd, afterRegion, putA, goOp, evBin_add, evBin_sub, evBin_mul, evBin_quo, evBin_rem, evBin_eql, evBin_neq, evBin_lss, evBin_leq, evBin_gtr, evBin_geq, evBin_eqlB, evBin_neqB, evBin_addS, evBin_eqlS, evBin_neqS, evBin_lssS, evBin_leqS, evUn, evConv, evIndex, evBuiltin, evLen, evMin2, evMax2, evCallee, evBox, evLoad, evStore, evFieldAddr, evField, evIndexAddr, evBuild, evBuildSlice, evElems, evSlice, nth, rdc, wrc, fromBody, resA, finRet, oneOf, AV.cells?, AV.isCell, fin_int, fin_bool, fin_str, Tryd.f8, E_esc, k24, c24, a24, bq3, ha1, hc1, ht1, hD, hA, h12, h12z, h64, h64z]
  have h64z : ¬ (64 : Int) < x.nodes.length := by omega
  cases b
  · have hk : chkX x = 12 := by unfold chkX; rw [if_neg h12, if_neg h64, if_neg fun h => by have := hb.2 h; cases this]
    rw [hk]
    clear hk
    generalize x.cells = C1 at *
    simp (disch := first | (simp only [List.length_append, List.length_cons, List.length_nil]; omega) | (simp; done) | assumption) [↓evOp_build, ↓evOp_bslice, evB2_int, evB2_bool, evB2_str, evB2_eqi, evB2_nei, evB2_eqn, evB2_nen, evB2_peq, evB2_pne, evB2_req, evB2_rne, evB2_zeq, evB2_zne, isC_c, isC_t, evAssert, Bool.or_true, Bool.true_or, rhoP_nil, rhoP_cons, evCode_skip, evCode_region, evCode_draw, evCode_seq, evCode_cond, evCode_block, evCode_loop, evCode_exit, evCode_ret, seqK_ite, seqK_none, seqK_norm, seqK_ret, seqK_exit, seqK_pan, condK_true, condK_false, condK_bool, blockK_ite, blockK_none, blockK_norm, blockK_ret, blockK_exit, blockK_pan, stepK_ite, stepK_none, stepK_ok, stepK_pan, drawK_ite, drawK_none, drawK_ok, drawK_pan, opK_ite, opK_none, opK_val, opK_pan, wantK_true, wantK_false, wantK_some, afterRegion_ite, afterDraw_ite, fromBody_ite, ite_bool, ite_int, stepA_K, doOp, noOp, lexA_nil, lexA_cons, lexF_nil, lexF_cons, afterDraw, noClash, panIn, lostF, FP.clash, wantedA, evOp, rho, rhoL, ofC0, ofC, argsA, upd, afterRegion, putA, goOp, evBin_add, evBin_sub, evBin_mul, evBin_quo, evBin_rem, evBin_eql, evBin_neq, evBin_lss, evBin_leq, evBin_gtr, evBin_geq, evBin_eqlB, evBin_neqB, evBin_addS, evBin_eqlS, evBin_neqS, evBin_lssS, evBin_leqS, evUn, evConv, evIndex, evBuiltin, evLen, evMin2, evMax2, evCallee, evBox, evLoad, evStore, evFieldAddr, evField, evIndexAddr, evBuild, evBuildSlice, evElems, evSlice, nth, rdc, wrc, fromBody, resA, finRet, oneOf, AV.cells?, AV.isCell, fin_int, fin_bool, fin_str, Tryd.f8, E_esc, k24, c24, a24, bq3, ha1, hc1, ht1, hD, hA, hM, h12, h12z, h64, h64z]
  · have hk : chkX x = 0 := by unfold chkX; rw [if_neg h12, if_neg h64, if_pos (hb.1 rfl)]
    rw [hk]
    clear hk
    generalize x.cells = C1 at *
    simp (disch := first | (simp only [List.length_append, List.length_cons, List.length_nil]; omega) | (simp; done) | assumption) [↓evOp_build, ↓evOp_bslice, evB2_int, evB2_bool, evB2_str, evB2_eqi, evB2_nei, evB2_eqn, evB2_nen, evB2_peq, evB2_pne, evB2_req, evB2_rne, evB2_zeq, evB2_zne, isC_c, isC_t, evAssert, Bool.or_true, Bool.true_or, rhoP_nil, rhoP_cons, evCode_skip, evCode_region, evCode_draw, evCode_seq, evCode_cond, evCode_block, evCode_loop, evCode_exit, evCode_ret, seqK_ite, seqK_none, seqK_norm, seqK_ret, seqK_exit, seqK_pan, condK_true, condK_false, condK_bool, blockK_ite, blockK_none, blockK_norm, blockK_ret, blockK_exit, blockK_pan, stepK_ite, stepK_none, stepK_ok, stepK_pan, drawK_ite, drawK_none, drawK_ok, drawK_pan, opK_ite, opK_none, opK_val, opK_pan, wantK_true, wantK_false, wantK_some, afterRegion_ite, afterDraw_ite, fromBody_ite, ite_bool, ite_int, stepA_K, doOp, noOp, lexA_nil, lexA_cons, lexF_nil, lexF_cons, afterDraw, noClash, panIn, lostF, FP.clash, wantedA, evOp, rho, rhoL, ofC0, ofC, argsA, upd, afterRegion, putA, goOp, evBin_add, evBin_sub, evBin_mul, evBin_quo, evBin_rem, evBin_eql, evBin_neq, evBin_lss, evBin_leq, evBin_gtr, evBin_geq, evBin_eqlB, evBin_neqB, evBin_addS, evBin_eqlS, evBin_neqS, evBin_lssS, evBin_leqS, evUn, evConv, evIndex, evBuiltin, evLen, evMin2, evMax2, evCallee, evBox, evLoad, evStore, evFieldAddr, evField, evIndexAddr, evBuild, evBuildSlice, evElems, evSlice, nth, rdc, wrc, fromBody, resA, finRet, oneOf, AV.cells?, AV.isCell, fin_int, fin_bool, fin_str, Tryd.f8, E_esc, k24, c24, a24, bq3, ha1, hc1, ht1, hD, hA, hM, h12, h12z, h64, h64z]
theorem ev_aCheck (n : Nat) (x : X) (hx : x.bulk + 22 ≤ n) (hs : x.bulk ≤ 1048576) (S : St) :
    ∃ c : Int, ev Tryd.prog E (n + 1) 8 [x.emb] S = some (.ret (.int .i64 c), S) ∧ (c = 0 ↔ OKx x) := ⟨_, ev_aCheckC n x hx hs S, chkX_ok x⟩
end Go.Proofs.YtemggoaefohliaaDoor.NF

