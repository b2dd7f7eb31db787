/- Joined: DlC, DlD, DlE, DlF, DlG. No condition beyond those of its lemmas. -/
import Derived.Test.YtemggoaefohliaaDoorLxA
/- The lexer: names, numbers, texts, evaluated. No condition. -/
namespace Go.Proofs.YtemggoaefohliaaDoor.LX
set_option linter.unusedVariables false
set_option linter.unusedSimpArgs false
open Go AE EX PT NF
set_option maxRecDepth 100000

theorem LSt_get (S0 : St) (s : List UInt8) (p : Nat) (out : List Tk) : (LSt S0 s p out).H[S0.H.length]? = some ⟨61, [.str s, .int .i64 p, lv S0 out]⟩ := HS_get _ _
/-- behind an error in a word -/
def ErrSt (S0 : St) (s : List UInt8) (p : Nat) (out : List Tk) (c : Int) : St := ⟨HS S0 ⟨61, [.str s, .int .i64 p, lv S0 out]⟩ ++ [⟨58, [.int .i64 c, .int .i64 p, .nilif]⟩], S0.T ++ lT out⟩
def errV (S0 : St) : AV := .iface 55 (.ptr (S0.H.length + 1) 0)
theorem ev_NewL (n : Nat) (c : Int) (S0 : St) (s : List UInt8) (p : Nat) (out : List Tk) : ev Tryd.prog E (n + 1) 17 [.int .i64 c, .int .i64 (p : Int)] (LSt S0 s p out) = some (.ret (errV S0), ErrSt S0 s p out c) := by
  rw [ev_New]
  simp [LSt, HS_len, errV, ErrSt]
theorem fin_err (S0 : St) (s : List UInt8) (p : Nat) (out : List Tk) (c : Int) : finish (LSt S0 s p out) (errV S0) (ErrSt S0 s p out c) = some (errV S0, ErrSt S0 s p out c) := by
  unfold finish
  simp [errV, AV.sealed, AV.strip, AV.low, LSt, HS_len]
theorem bT1 (k : Int) (s : List UInt8) : evBuild Tryd.prog 46 [(0, .int .i64 k), (1, .str s)] = some (Tk.emb ⟨k, s, 0, 0⟩) := by
  have : Tk.emb ⟨k, s, 0, 0⟩ = .agg [.int .i64 k, .str s, .int .i64 0, .int .i64 0] := rfl
  rw [this]
  simp [evBuild, tp46, tz46, fillA, tl46_0, tl46_1, AV.cells?, wrc]
theorem bT2 (k : Int) (s : List UInt8) (v : Int) : evBuild Tryd.prog 46 [(0, .int .i64 k), (1, .str s), (2, .int .i64 v)] = some (Tk.emb ⟨k, s, v, 0⟩) := by
  have : Tk.emb ⟨k, s, v, 0⟩ = .agg [.int .i64 k, .str s, .int .i64 v, .int .i64 0] := rfl
  rw [this]
  simp [evBuild, tp46, tz46, fillA, tl46_0, tl46_1, tl46_2, AV.cells?, wrc]
def sub (s : List UInt8) (p q : Nat) : List UInt8 := (s.take q).drop p
theorem sl2 (s : List UInt8) (p q : Nat) (h1 : p ≤ q) (h2 : q ≤ s.length) : evSlice Tryd.prog 9 (.str s) (some (.int .i64 (p : Int))) (some (.int .i64 (q : Int))) = some (.str (sub s p q)) := by
  simp [evSlice, sq9, sub]
  omega
theorem sl1 (s : List UInt8) (p : Nat) (h1 : p ≤ s.length) : evSlice Tryd.prog 9 (.str s) (some (.int .i64 (p : Int))) none = some (.str (s.drop p)) := by
  simp [evSlice, sq9]
  omega

/-- what a step of the lexer gives: an error's code, or a word and where it ends -/
inductive LR where
  | err (c : Int)
  | word (t : Tk) (to : Nat)
def LR.put (p : Nat) : LR → LR
  | .err c => .err c
  | .word t to => .word { t with p := p } to
/-- the answer's shape -/
def ans (S0 : St) (s : List UInt8) (p : Nat) (out : List Tk) : LR → Option (Res × St)
  | .err c => some (.ret (errV S0), ErrSt S0 s p out c)
  | .word t to => some (.ret .nilif, LSt S0 s to (out ++ [t]))

theorem ans_err (S0 : St) (s : List UInt8) (p : Nat) (out : List Tk) (c : Int) : ans S0 s p out (.err c) = some (.ret (errV S0), ErrSt S0 s p out c) := rfl
theorem ans_word (S0 : St) (s : List UInt8) (p : Nat) (out : List Tk) (t : Tk) (to : Nat) : ans S0 s p out (.word t to) = some (.ret .nilif, LSt S0 s to (out ++ [t])) := rfl

def namedR (s : List UInt8) (p : Nat) : LR := if 16 < far s p - p then .err 5 else .word ⟨1, sub s p (far s p), 0, p⟩ (far s p)
theorem ev_named (n : Nat) (S0 : St) (s : List UInt8) (p : Nat) (out : List Tk) (hs : s.length ≤ 1048576) (hp : p ≤ s.length) (hn : s.length < n) (hl : out.length ≤ 1048576) :
    ev Tryd.prog E (n + 3) 39 [.ptr S0.H.length 0] (LSt S0 s p out) = ans S0 s p out (namedR s p) := by
  have hL := LSt_get S0 s p out
  have hW := ev_word n S0.H.length s p _ _ hL hs hp hn
  have hg := far_ge s p
  have hle := far_le hp
  have hE := ev_NewL (n + 1) 5 S0 s p out
  have hP := ev_put (n + 1) S0 s p out ⟨1, sub s p (far s p), 0, 0⟩ (far s p) hl
  have hf1 := fin_err S0 s p out 5
  have hf2 := fin_putv S0 s p (far s p) out ⟨1, sub s p (far s p), 0, p⟩ .nilif rfl
  have hsl := sl2 s p (far s p) hg hle
  have hbd := bT1 1 (sub s p (far s p))
  have hps : E.ps 39 4 = [(4, 8)] := rfl
  have hw : IntKind.i64.wrap ((far s p : Int) - p) = ((far s p - p : Nat) : Int) := by rw [wrap64 _ (by omega)]; omega
  simp only at hP hf2
  by_cases h16 : 16 < far s p - p
  · have h16z : (16 : Int) < ((far s p - p : Nat) : Int) := by omega
    rw [show namedR s p = .err 5 from if_pos h16]
    rw [ans_err]
    generalize LSt S0 s p out = L at *
    generalize ErrSt S0 s p out 5 = LE at *
    generalize errV S0 = eV at *
    generalize far s p - p = d at *
    generalize far s p = q at *
    rw [show n + 3 = (n + 2) + 1 from rfl, ev_enter (n := n + 2) (show E.ok 39 = true from rfl) Tryd.func39 (fn := Tryd.f39) rfl (Nat.le_of_ble_eq_true rfl) (by decide +kernel)]
    simp (disch := first | (simp only [List.length_append, List.length_cons, List.length_nil]; omega) | (simp; done) | assumption) [↓evOp_build, ↓evOp_bslice, evB2_int, evB2_bool, evB2_str, evB2_eqi, evB2_nei, evB2_eqn, evB2_nen, evB2_peq, evB2_pne, evB2_req, evB2_rne, evB2_zeq, evB2_zne, isC_c, isC_t, evAssert, Bool.or_true, Bool.true_or, rhoP_nil, rhoP_cons, evCode_skip, evCode_region, evCode_draw, evCode_seq, evCode_cond, evCode_block, evCode_loop, evCode_exit, evCode_ret, seqK_ite, seqK_none, seqK_norm, seqK_ret, seqK_exit, seqK_pan, condK_true, condK_false, condK_bool, blockK_ite, blockK_none, blockK_norm, blockK_ret, blockK_exit, blockK_pan, stepK_ite, stepK_none, stepK_ok, stepK_pan, drawK_ite, drawK_none, drawK_ok, drawK_pan, opK_ite, opK_none, opK_val, opK_pan, wantK_true, wantK_false, wantK_some, afterRegion_ite, afterDraw_ite, fromBody_ite, ite_bool, ite_int, stepA_K, doOp, noOp, lexA_nil, lexA_cons, lexF_nil, lexF_cons, afterDraw, noClash, panIn, lostF, FP.clash, wantedA, evOp, rho, rhoL, ofC0, ofC, argsA, upd, afterRegion, putA, goOp, evBin_add, evBin_sub, evBin_mul, evBin_quo, evBin_rem, evBin_eql, evBin_neq, evBin_lss, evBin_leq, evBin_gtr, evBin_geq, evBin_eqlB, evBin_neqB, evBin_addS, evBin_eqlS, evBin_neqS, evBin_lssS, evBin_leqS, evUn, evConv, evIndex, evBuiltin, evLen, evMin2, evMax2, evCallee, evBox, evLoad, evStore, evFieldAddr, evField, evIndexAddr, evBuild, evBuildSlice, evElems, evSlice, nth, rdc, wrc, fromBody, resA, finRet, oneOf, AV.cells?, AV.isCell, fin_int, fin_bool, fin_str, -evBuild, -evSlice, Tryd.f39, E_esc, hL, tq61_0, tq61_1, tk61, k9, c9, a9, k3, c3, a3, sq9, bq3, hW, hw, h16, h16z, hE, hf1]
  · have h16z : ¬ (16 : Int) < ((far s p - p : Nat) : Int) := by omega
    rw [show namedR s p = .word ⟨1, sub s p (far s p), 0, p⟩ (far s p) from if_neg h16]
    rw [ans_word]
    generalize LSt S0 s (far s p) _ = L2 at *
    generalize LSt S0 s p out = L at *
    generalize sub s p (far s p) = sb at *
    generalize Tk.emb ⟨1, sb, 0, 0⟩ = te at *
    generalize far s p - p = d at *
    generalize far s p = q at *
    rw [show n + 3 = (n + 2) + 1 from rfl, ev_enter (n := n + 2) (show E.ok 39 = true from rfl) Tryd.func39 (fn := Tryd.f39) rfl (Nat.le_of_ble_eq_true rfl) (by decide +kernel)]
    simp (disch := first | (simp only [List.length_append, List.length_cons, List.length_nil]; omega) | (simp; done) | assumption) [↓evOp_build, ↓evOp_bslice, evB2_int, evB2_bool, evB2_str, evB2_eqi, evB2_nei, evB2_eqn, evB2_nen, evB2_peq, evB2_pne, evB2_req, evB2_rne, evB2_zeq, evB2_zne, isC_c, isC_t, evAssert, Bool.or_true, Bool.true_or, rhoP_nil, rhoP_cons, evCode_skip, evCode_region, evCode_draw, evCode_seq, evCode_cond, evCode_block, evCode_loop, evCode_exit, evCode_ret, seqK_ite, seqK_none, seqK_norm, seqK_ret, seqK_exit, seqK_pan, condK_true, condK_false, condK_bool, blockK_ite, blockK_none, blockK_norm, blockK_ret, blockK_exit, blockK_pan, stepK_ite, stepK_none, stepK_ok, stepK_pan, drawK_ite, drawK_none, drawK_ok, drawK_pan, opK_ite, opK_none, opK_val, opK_pan, wantK_true, wantK_false, wantK_some, afterRegion_ite, afterDraw_ite, fromBody_ite, ite_bool, ite_int, stepA_K, doOp, noOp, lexA_nil, lexA_cons, lexF_nil, lexF_cons, afterDraw, noClash, panIn, lostF, FP.clash, wantedA, evOp, rho, rhoL, ofC0, ofC, argsA, upd, afterRegion, putA, goOp, evBin_add, evBin_sub, evBin_mul, evBin_quo, evBin_rem, evBin_eql, evBin_neq, evBin_lss, evBin_leq, evBin_gtr, evBin_geq, evBin_eqlB, evBin_neqB, evBin_addS, evBin_eqlS, evBin_neqS, evBin_lssS, evBin_leqS, evUn, evConv, evIndex, evBuiltin, evLen, evMin2, evMax2, evCallee, evBox, evLoad, evStore, evFieldAddr, evField, evIndexAddr, evBuild, evBuildSlice, evElems, evSlice, nth, rdc, wrc, fromBody, resA, finRet, oneOf, AV.cells?, AV.isCell, fin_int, fin_bool, fin_str, -evBuild, -evSlice, Tryd.f39, E_esc, hL, tq61_0, tq61_1, tk61, k9, c9, a9, k3, c3, a3, sq9, bq3, hW, hw, h16, h16z, hsl, hbd, hP, hf2, hps]

/-! ### numbers -/
def numberedR (s : List UInt8) (p : Nat) : LR := match parseN (sub s p (far s p)) with
  | some v => .word ⟨2, sub s p (far s p), v, p⟩ (far s p)
  | none => .err 16
theorem sub_len (s : List UInt8) (p q : Nat) : (sub s p q).length ≤ s.length := by
  simp [sub]; omega
theorem ev_numbered (n : Nat) (S0 : St) (s : List UInt8) (p : Nat) (out : List Tk) (hs : s.length ≤ 1048576) (hp : p ≤ s.length) (hn : s.length + 40 < n) (hl : out.length ≤ 1048576) :
    ev Tryd.prog E (n + 4) 40 [.ptr S0.H.length 0] (LSt S0 s p out) = ans S0 s p out (numberedR s p) := by
  have hL := LSt_get S0 s p out
  have hW := ev_word (n + 1) S0.H.length s p _ _ hL hs hp (by omega)
  have hg := far_ge s p
  have hle := far_le hp
  have hE := ev_NewL (n + 2) 16 S0 s p out
  have hf1 := fin_err S0 s p out 16
  have hsl := sl2 s p (far s p) hg hle
  have hps2 : E.ps 40 2 = [(3, 7)] := rfl
  have hps5 : E.ps 40 5 = [(4, 8)] := rfl
  have hN := ev_Parse n (sub s p (far s p)) (by have := sub_len s p (far s p); omega) (by have := sub_len s p (far s p); omega) (by omega) (LSt S0 s p out)
  cases hv : parseN (sub s p (far s p)) with
  | none =>
    rw [hv] at hN
    rw [show numberedR s p = .err 16 by unfold numberedR; rw [hv]]
    rw [ans_err]
    simp only at hN
    generalize LSt S0 s p out = L at *
    generalize ErrSt S0 s p out 16 = LE at *
    generalize errV S0 = eV at *
    generalize sub s p (far s p) = sb at *
    generalize far s p = q at *
    rw [show n + 4 = (n + 3) + 1 from rfl, ev_enter (n := n + 3) (show E.ok 40 = true from rfl) Tryd.func40 (fn := Tryd.f40) rfl (Nat.le_of_ble_eq_true rfl) (by decide +kernel)]
    simp (disch := first | (simp only [List.length_append, List.length_cons, List.length_nil]; omega) | (simp; done) | assumption) [↓evOp_build, ↓evOp_bslice, evB2_int, evB2_bool, evB2_str, evB2_eqi, evB2_nei, evB2_eqn, evB2_nen, evB2_peq, evB2_pne, evB2_req, evB2_rne, evB2_zeq, evB2_zne, isC_c, isC_t, evAssert, Bool.or_true, Bool.true_or, rhoP_nil, rhoP_cons, evCode_skip, evCode_region, evCode_draw, evCode_seq, evCode_cond, evCode_block, evCode_loop, evCode_exit, evCode_ret, seqK_ite, seqK_none, seqK_norm, seqK_ret, seqK_exit, seqK_pan, condK_true, condK_false, condK_bool, blockK_ite, blockK_none, blockK_norm, blockK_ret, blockK_exit, blockK_pan, stepK_ite, stepK_none, stepK_ok, stepK_pan, drawK_ite, drawK_none, drawK_ok, drawK_pan, opK_ite, opK_none, opK_val, opK_pan, wantK_true, wantK_false, wantK_some, afterRegion_ite, afterDraw_ite, fromBody_ite, ite_bool, ite_int, stepA_K, doOp, noOp, lexA_nil, lexA_cons, lexF_nil, lexF_cons, afterDraw, noClash, panIn, lostF, FP.clash, wantedA, evOp, rho, rhoL, ofC0, ofC, argsA, upd, afterRegion, putA, goOp, evBin_add, evBin_sub, evBin_mul, evBin_quo, evBin_rem, evBin_eql, evBin_neq, evBin_lss, evBin_leq, evBin_gtr, evBin_geq, evBin_eqlB, evBin_neqB, evBin_addS, evBin_eqlS, evBin_neqS, evBin_lssS, evBin_leqS, evUn, evConv, evIndex, evBuiltin, evLen, evMin2, evMax2, evCallee, evBox, evLoad, evStore, evFieldAddr, evField, evIndexAddr, evBuild, evBuildSlice, evElems, evSlice, nth, rdc, wrc, fromBody, resA, finRet, oneOf, AV.cells?, AV.isCell, fin_int, fin_bool, fin_str, -evBuild, -evSlice, Tryd.f40, E_esc, hL, tq61_0, tq61_1, tk61, k9, c9, a9, k3, c3, a3, sq9, bq3, hW, hsl, hN, hE, hf1, hps2]
  | some v =>
    rw [hv] at hN
    have hP := ev_put (n + 2) S0 s p out ⟨2, sub s p (far s p), v, 0⟩ (far s p) hl
    have hf2 := fin_putv S0 s p (far s p) out ⟨2, sub s p (far s p), v, p⟩ .nilif rfl
    have hbd := bT2 2 (sub s p (far s p)) v
    simp only at hP hf2 hN
    rw [show numberedR s p = .word ⟨2, sub s p (far s p), v, p⟩ (far s p) by unfold numberedR; rw [hv]]
    rw [ans_word]
    generalize LSt S0 s (far s p) _ = L2 at *
    generalize LSt S0 s p out = L at *
    generalize sub s p (far s p) = sb at *
    generalize Tk.emb ⟨2, sb, v, 0⟩ = te at *
    generalize far s p = q at *
    rw [show n + 4 = (n + 3) + 1 from rfl, ev_enter (n := n + 3) (show E.ok 40 = true from rfl) Tryd.func40 (fn := Tryd.f40) rfl (Nat.le_of_ble_eq_true rfl) (by decide +kernel)]
    simp (disch := first | (simp only [List.length_append, List.length_cons, List.length_nil]; omega) | (simp; done) | assumption) [↓evOp_build, ↓evOp_bslice, evB2_int, evB2_bool, evB2_str, evB2_eqi, evB2_nei, evB2_eqn, evB2_nen, evB2_peq, evB2_pne, evB2_req, evB2_rne, evB2_zeq, evB2_zne, isC_c, isC_t, evAssert, Bool.or_true, Bool.true_or, rhoP_nil, rhoP_cons, evCode_skip, evCode_region, evCode_draw, evCode_seq, evCode_cond, evCode_block, evCode_loop, evCode_exit, evCode_ret, seqK_ite, seqK_none, seqK_norm, seqK_ret, seqK_exit, seqK_pan, condK_true, condK_false, condK_bool, blockK_ite, blockK_none, blockK_norm, blockK_ret, blockK_exit, blockK_pan, stepK_ite, stepK_none, stepK_ok, stepK_pan, drawK_ite, drawK_none, drawK_ok, drawK_pan, opK_ite, opK_none, opK_val, opK_pan, wantK_true, wantK_false, wantK_some, afterRegion_ite, afterDraw_ite, fromBody_ite, ite_bool, ite_int, stepA_K, doOp, noOp, lexA_nil, lexA_cons, lexF_nil, lexF_cons, afterDraw, noClash, panIn, lostF, FP.clash, wantedA, evOp, rho, rhoL, ofC0, ofC, argsA, upd, afterRegion, putA, goOp, evBin_add, evBin_sub, evBin_mul, evBin_quo, evBin_rem, evBin_eql, evBin_neq, evBin_lss, evBin_leq, evBin_gtr, evBin_geq, evBin_eqlB, evBin_neqB, evBin_addS, evBin_eqlS, evBin_neqS, evBin_lssS, evBin_leqS, evUn, evConv, evIndex, evBuiltin, evLen, evMin2, evMax2, evCallee, evBox, evLoad, evStore, evFieldAddr, evField, evIndexAddr, evBuild, evBuildSlice, evElems, evSlice, nth, rdc, wrc, fromBody, resA, finRet, oneOf, AV.cells?, AV.isCell, fin_int, fin_bool, fin_str, -evBuild, -evSlice, Tryd.f40, E_esc, hL, tq61_0, tq61_1, tk61, k9, c9, a9, k3, c3, a3, sq9, bq3, hW, hsl, hN, hbd, hP, hf2, hps2, hps5]
end Go.Proofs.YtemggoaefohliaaDoor.LX

/- The lexer: texts and signs, evaluated. No condition. -/
namespace Go.Proofs.YtemggoaefohliaaDoor.LX
set_option linter.unusedVariables false
set_option linter.unusedSimpArgs false
open Go AE EX PT NF
set_option maxRecDepth 100000

theorem indexByte_lt : ∀ (l : List UInt8) (c : UInt8) (k : Nat), Lib.indexByte l c = (k : Int) → k < l.length
  | [], c, k, h => by simp [Lib.indexByte] at h
  | b :: l, c, k, h => by
    have hg := Lib.indexByte_ge l c
    cases e : (b == c)
    · have h1 : Lib.indexByte (b :: l) c = if Lib.indexByte l c = -1 then -1 else Lib.indexByte l c + 1 := by simp [Lib.indexByte, e]
      rw [h1] at h
      split at h
      · omega
      · have := indexByte_lt l c (k - 1) (by omega)
        simp; omega
    · simp [Lib.indexByte, e] at h
      simp; omega

def quotedR (s : List UInt8) (p : Nat) : LR :=
  if Lib.indexByte (s.drop (p + 1)) 34 < 0 then .err 16
  else if 0 ≤ Lib.indexByte (sub s (p + 1) (p + 1 + (Lib.indexByte (s.drop (p + 1)) 34).toNat)) 10 then .err 16
  else if plainB (sub s (p + 1) (p + 1 + (Lib.indexByte (s.drop (p + 1)) 34).toNat)) = true then .word ⟨3, sub s (p + 1) (p + 1 + (Lib.indexByte (s.drop (p + 1)) 34).toNat), 0, p⟩ (p + (Lib.indexByte (s.drop (p + 1)) 34).toNat + 2)
  else .err 5

set_option maxHeartbeats 4000000 in
theorem ev_quoted (n : Nat) (S0 : St) (s : List UInt8) (p : Nat) (out : List Tk) (hs : s.length ≤ 1048576) (hp : p < s.length) (hl : out.length ≤ 1048576) :
    ev Tryd.prog E (n + 3) 41 [.ptr S0.H.length 0] (LSt S0 s p out) = ans S0 s p out (quotedR s p) := by
  have hL := LSt_get S0 s p out
  have hE16 := ev_NewL (n + 1) 16 S0 s p out
  have hE5 := ev_NewL (n + 1) 5 S0 s p out
  have hf16 := fin_err S0 s p out 16
  have hf5 := fin_err S0 s p out 5
  have hps1 : E.ps 41 1 = [(3, 7)] := rfl
  have hps2 : E.ps 41 2 = [(6, 10), (6, 15), (10, 15)] := rfl
  have hps4 : E.ps 41 4 = [(3, 7), (3, 12), (7, 12)] := rfl
  have hs1 := sl1 s (p + 1) (by omega)
  have hi34 : ev Tryd.prog E (n + 2) 38 [.str (s.drop (p + 1)), .int .u8 34] (LSt S0 s p out) = some (.ret (.int .i64 (Lib.indexByte (s.drop (p + 1)) 34)), LSt S0 s p out) := ev_indexByte (n + 1) _ 34 _
  have hw1 : IntKind.i64.wrap ((p : Int) + 1) = ((p + 1 : Nat) : Int) := by rw [wrap64 _ (by omega)]; omega
  by_cases h34 : Lib.indexByte (s.drop (p + 1)) 34 < 0
  · rw [show quotedR s p = .err 16 from if_pos h34, ans_err]
    generalize Lib.indexByte (s.drop (p + 1)) 34 = i34 at *
    generalize s.drop (p + 1) = sd at *
    generalize LSt S0 s p out = L at *
    generalize ErrSt S0 s p out 16 = LE at *
    generalize errV S0 = eV at *
    generalize p + 1 = P1 at *
    rw [show n + 3 = (n + 2) + 1 from rfl, ev_enter (n := n + 2) (show E.ok 41 = true from rfl) Tryd.func41 (fn := Tryd.f41) rfl (Nat.le_of_ble_eq_true rfl) (by decide +kernel)]
    simp (disch := first | (simp only [List.length_append, List.length_cons, List.length_nil]; omega) | (simp; done) | assumption) [↓evOp_build, ↓evOp_bslice, evB2_int, evB2_bool, evB2_str, evB2_eqi, evB2_nei, evB2_eqn, evB2_nen, evB2_peq, evB2_pne, evB2_req, evB2_rne, evB2_zeq, evB2_zne, isC_c, isC_t, evAssert, Bool.or_true, Bool.true_or, rhoP_nil, rhoP_cons, evCode_skip, evCode_region, evCode_draw, evCode_seq, evCode_cond, evCode_block, evCode_loop, evCode_exit, evCode_ret, seqK_ite, seqK_none, seqK_norm, seqK_ret, seqK_exit, seqK_pan, condK_true, condK_false, condK_bool, blockK_ite, blockK_none, blockK_norm, blockK_ret, blockK_exit, blockK_pan, stepK_ite, stepK_none, stepK_ok, stepK_pan, drawK_ite, drawK_none, drawK_ok, drawK_pan, opK_ite, opK_none, opK_val, opK_pan, wantK_true, wantK_false, wantK_some, afterRegion_ite, afterDraw_ite, fromBody_ite, ite_bool, ite_int, stepA_K, doOp, noOp, lexA_nil, lexA_cons, lexF_nil, lexF_cons, afterDraw, noClash, panIn, lostF, FP.clash, wantedA, evOp, rho, rhoL, ofC0, ofC, argsA, upd, afterRegion, putA, goOp, evBin_add, evBin_sub, evBin_mul, evBin_quo, evBin_rem, evBin_eql, evBin_neq, evBin_lss, evBin_leq, evBin_gtr, evBin_geq, evBin_eqlB, evBin_neqB, evBin_addS, evBin_eqlS, evBin_neqS, evBin_lssS, evBin_leqS, evUn, evConv, evIndex, evBuiltin, evLen, evMin2, evMax2, evCallee, evBox, evLoad, evStore, evFieldAddr, evField, evIndexAddr, evBuild, evBuildSlice, evElems, evSlice, nth, rdc, wrc, fromBody, resA, finRet, oneOf, AV.cells?, AV.isCell, fin_int, fin_bool, fin_str, -evBuild, -evSlice, Tryd.f41, E_esc, hL, tq61_0, tq61_1, tk61, k9, c9, a9, k3, c3, a3, sq9, bq3, hw1, hs1, hi34, h34, hE16, hf16, hps1, hps2]
  obtain ⟨k, hk⟩ : ∃ k : Nat, Lib.indexByte (s.drop (p + 1)) 34 = (k : Int) := ⟨(Lib.indexByte (s.drop (p + 1)) 34).toNat, by omega⟩
  have hkl := indexByte_lt _ _ _ hk
  simp only [List.length_drop] at hkl
  have hkt : (Lib.indexByte (s.drop (p + 1)) 34).toNat = k := by omega
  have hs2 := sl2 s (p + 1) (p + 1 + k) (by omega) (by omega)
  have hi10 : ev Tryd.prog E (n + 2) 38 [.str (sub s (p + 1) (p + 1 + k)), .int .u8 10] (LSt S0 s p out) = some (.ret (.int .i64 (Lib.indexByte (sub s (p + 1) (p + 1 + k)) 10)), LSt S0 s p out) := ev_indexByte (n + 1) _ 10 _
  have hPl := ev_lPlain n (sub s (p + 1) (p + 1 + k)) (LSt S0 s p out)
  have hw2 : IntKind.i64.wrap (((p + 1 : Nat) : Int) + (k : Int)) = ((p + 1 + k : Nat) : Int) := by rw [wrap64 _ (by omega)]; omega
  have hw3 : IntKind.i64.wrap ((p : Int) + (k : Int)) = ((p + k : Nat) : Int) := by rw [wrap64 _ (by omega)]; omega
  have hw4 : IntKind.i64.wrap (((p + k : Nat) : Int) + 2) = ((p + k + 2 : Nat) : Int) := by rw [wrap64 _ (by omega)]; omega
  have hP := ev_put (n + 1) S0 s p out ⟨3, sub s (p + 1) (p + 1 + k), 0, 0⟩ (p + k + 2) hl
  have hf2 := fin_putv S0 s p (p + k + 2) out ⟨3, sub s (p + 1) (p + 1 + k), 0, p⟩ .nilif rfl
  have hbd := bT1 3 (sub s (p + 1) (p + 1 + k))
  have hk0 : ¬ (k : Int) < 0 := by omega
  simp only at hP hf2
  have hQ : quotedR s p = if 0 ≤ Lib.indexByte (sub s (p + 1) (p + 1 + k)) 10 then .err 16 else if plainB (sub s (p + 1) (p + 1 + k)) = true then .word ⟨3, sub s (p + 1) (p + 1 + k), 0, p⟩ (p + k + 2) else .err 5 := by
    unfold quotedR
    rw [if_neg h34, hkt]
  rw [hQ]
  rw [hk] at hi34
  clear hQ h34 hkl hkt
  by_cases h10 : 0 ≤ Lib.indexByte (sub s (p + 1) (p + 1 + k)) 10
  · rw [if_pos h10, ans_err]
    generalize Lib.indexByte (sub s (p + 1) (p + 1 + k)) 10 = i10 at *
    generalize sub s (p + 1) (p + 1 + k) = sb at *
    clear hk
    generalize s.drop (p + 1) = sd at *
    generalize LSt S0 s p out = L at *
    generalize ErrSt S0 s p out 16 = LE at *
    generalize errV S0 = eV at *
    generalize p + 1 + k = Q1 at *
    generalize p + 1 = P1 at *
    rw [show n + 3 = (n + 2) + 1 from rfl, ev_enter (n := n + 2) (show E.ok 41 = true from rfl) Tryd.func41 (fn := Tryd.f41) rfl (Nat.le_of_ble_eq_true rfl) (by decide +kernel)]
    simp (disch := first | (simp only [List.length_append, List.length_cons, List.length_nil]; omega) | (simp; done) | assumption) [↓evOp_build, ↓evOp_bslice, evB2_int, evB2_bool, evB2_str, evB2_eqi, evB2_nei, evB2_eqn, evB2_nen, evB2_peq, evB2_pne, evB2_req, evB2_rne, evB2_zeq, evB2_zne, isC_c, isC_t, evAssert, Bool.or_true, Bool.true_or, rhoP_nil, rhoP_cons, evCode_skip, evCode_region, evCode_draw, evCode_seq, evCode_cond, evCode_block, evCode_loop, evCode_exit, evCode_ret, seqK_ite, seqK_none, seqK_norm, seqK_ret, seqK_exit, seqK_pan, condK_true, condK_false, condK_bool, blockK_ite, blockK_none, blockK_norm, blockK_ret, blockK_exit, blockK_pan, stepK_ite, stepK_none, stepK_ok, stepK_pan, drawK_ite, drawK_none, drawK_ok, drawK_pan, opK_ite, opK_none, opK_val, opK_pan, wantK_true, wantK_false, wantK_some, afterRegion_ite, afterDraw_ite, fromBody_ite, ite_bool, ite_int, stepA_K, doOp, noOp, lexA_nil, lexA_cons, lexF_nil, lexF_cons, afterDraw, noClash, panIn, lostF, FP.clash, wantedA, evOp, rho, rhoL, ofC0, ofC, argsA, upd, afterRegion, putA, goOp, evBin_add, evBin_sub, evBin_mul, evBin_quo, evBin_rem, evBin_eql, evBin_neq, evBin_lss, evBin_leq, evBin_gtr, evBin_geq, evBin_eqlB, evBin_neqB, evBin_addS, evBin_eqlS, evBin_neqS, evBin_lssS, evBin_leqS, evUn, evConv, evIndex, evBuiltin, evLen, evMin2, evMax2, evCallee, evBox, evLoad, evStore, evFieldAddr, evField, evIndexAddr, evBuild, evBuildSlice, evElems, evSlice, nth, rdc, wrc, fromBody, resA, finRet, oneOf, AV.cells?, AV.isCell, fin_int, fin_bool, fin_str, -evBuild, -evSlice, Tryd.f41, E_esc, hL, tq61_0, tq61_1, tk61, k9, c9, a9, k3, c3, a3, sq9, bq3, hw1, hw2, hs1, hs2, hi34, hi10, hk0, h10, hE16, hf16, hps1, hps2]
  rw [if_neg h10]
  cases hpl : plainB (sub s (p + 1) (p + 1 + k))
  · rw [hpl] at hPl
    rw [if_neg (by simp), ans_err]
    generalize Lib.indexByte (sub s (p + 1) (p + 1 + k)) 10 = i10 at *
    clear hpl
    generalize sub s (p + 1) (p + 1 + k) = sb at *
    clear hk
    generalize s.drop (p + 1) = sd at *
    generalize LSt S0 s p out = L at *
    generalize ErrSt S0 s p out 5 = LE at *
    generalize errV S0 = eV at *
    generalize p + 1 + k = Q1 at *
    generalize p + 1 = P1 at *
    rw [show n + 3 = (n + 2) + 1 from rfl, ev_enter (n := n + 2) (show E.ok 41 = true from rfl) Tryd.func41 (fn := Tryd.f41) rfl (Nat.le_of_ble_eq_true rfl) (by decide +kernel)]
    simp (disch := first | (simp only [List.length_append, List.length_cons, List.length_nil]; omega) | (simp; done) | assumption) [↓evOp_build, ↓evOp_bslice, evB2_int, evB2_bool, evB2_str, evB2_eqi, evB2_nei, evB2_eqn, evB2_nen, evB2_peq, evB2_pne, evB2_req, evB2_rne, evB2_zeq, evB2_zne, isC_c, isC_t, evAssert, Bool.or_true, Bool.true_or, rhoP_nil, rhoP_cons, evCode_skip, evCode_region, evCode_draw, evCode_seq, evCode_cond, evCode_block, evCode_loop, evCode_exit, evCode_ret, seqK_ite, seqK_none, seqK_norm, seqK_ret, seqK_exit, seqK_pan, condK_true, condK_false, condK_bool, blockK_ite, blockK_none, blockK_norm, blockK_ret, blockK_exit, blockK_pan, stepK_ite, stepK_none, stepK_ok, stepK_pan, drawK_ite, drawK_none, drawK_ok, drawK_pan, opK_ite, opK_none, opK_val, opK_pan, wantK_true, wantK_false, wantK_some, afterRegion_ite, afterDraw_ite, fromBody_ite, ite_bool, ite_int, stepA_K, doOp, noOp, lexA_nil, lexA_cons, lexF_nil, lexF_cons, afterDraw, noClash, panIn, lostF, FP.clash, wantedA, evOp, rho, rhoL, ofC0, ofC, argsA, upd, afterRegion, putA, goOp, evBin_add, evBin_sub, evBin_mul, evBin_quo, evBin_rem, evBin_eql, evBin_neq, evBin_lss, evBin_leq, evBin_gtr, evBin_geq, evBin_eqlB, evBin_neqB, evBin_addS, evBin_eqlS, evBin_neqS, evBin_lssS, evBin_leqS, evUn, evConv, evIndex, evBuiltin, evLen, evMin2, evMax2, evCallee, evBox, evLoad, evStore, evFieldAddr, evField, evIndexAddr, evBuild, evBuildSlice, evElems, evSlice, nth, rdc, wrc, fromBody, resA, finRet, oneOf, AV.cells?, AV.isCell, fin_int, fin_bool, fin_str, -evBuild, -evSlice, Tryd.f41, E_esc, hL, tq61_0, tq61_1, tk61, k9, c9, a9, k3, c3, a3, sq9, bq3, hw1, hw2, hs1, hs2, hi34, hi10, hk0, h10, hPl, hE5, hf5, hps1, hps2, hps4]
  · rw [hpl] at hPl
    rw [if_pos rfl, ans_word]
    generalize Lib.indexByte (sub s (p + 1) (p + 1 + k)) 10 = i10 at *
    clear hpl
    generalize LSt S0 s (p + k + 2) _ = L2 at *
    generalize sub s (p + 1) (p + 1 + k) = sb at *
    generalize Tk.emb ⟨3, sb, 0, 0⟩ = te at *
    clear hk
    generalize s.drop (p + 1) = sd at *
    generalize LSt S0 s p out = L at *
    generalize p + 1 + k = Q1 at *
    generalize p + 1 = P1 at *
    generalize p + k + 2 = R2 at *
    generalize p + k = R1 at *
    rw [show n + 3 = (n + 2) + 1 from rfl, ev_enter (n := n + 2) (show E.ok 41 = true from rfl) Tryd.func41 (fn := Tryd.f41) rfl (Nat.le_of_ble_eq_true rfl) (by decide +kernel)]
    simp (disch := first | (simp only [List.length_append, List.length_cons, List.length_nil]; omega) | (simp; done) | assumption) [↓evOp_build, ↓evOp_bslice, evB2_int, evB2_bool, evB2_str, evB2_eqi, evB2_nei, evB2_eqn, evB2_nen, evB2_peq, evB2_pne, evB2_req, evB2_rne, evB2_zeq, evB2_zne, isC_c, isC_t, evAssert, Bool.or_true, Bool.true_or, rhoP_nil, rhoP_cons, evCode_skip, evCode_region, evCode_draw, evCode_seq, evCode_cond, evCode_block, evCode_loop, evCode_exit, evCode_ret, seqK_ite, seqK_none, seqK_norm, seqK_ret, seqK_exit, seqK_pan, condK_true, condK_false, condK_bool, blockK_ite, blockK_none, blockK_norm, blockK_ret, blockK_exit, blockK_pan, stepK_ite, stepK_none, stepK_ok, stepK_pan, drawK_ite, drawK_none, drawK_ok, drawK_pan, opK_ite, opK_none, opK_val, opK_pan, wantK_true, wantK_false, wantK_some, afterRegion_ite, afterDraw_ite, fromBody_ite, ite_bool, ite_int, stepA_K, doOp, noOp, lexA_nil, lexA_cons, lexF_nil, lexF_cons, afterDraw, noClash, panIn, lostF, FP.clash, wantedA, evOp, rho, rhoL, ofC0, ofC, argsA, upd, afterRegion, putA, goOp, evBin_add, evBin_sub, evBin_mul, evBin_quo, evBin_rem, evBin_eql, evBin_neq, evBin_lss, evBin_leq, evBin_gtr, evBin_geq, evBin_eqlB, evBin_neqB, evBin_addS, evBin_eqlS, evBin_neqS, evBin_lssS, evBin_leqS, evUn, evConv, evIndex, evBuiltin, evLen, evMin2, evMax2, evCallee, evBox, evLoad, evStore, evFieldAddr, evField, evIndexAddr, evBuild, evBuildSlice, evElems, evSlice, nth, rdc, wrc, fromBody, resA, finRet, oneOf, AV.cells?, AV.isCell, fin_int, fin_bool, fin_str, -evBuild, -evSlice, Tryd.f41, E_esc, hL, tq61_0, tq61_1, tk61, k9, c9, a9, k3, c3, a3, sq9, bq3, hw1, hw2, hw3, hw4, hs1, hs2, hi34, hi10, hk0, h10, hPl, hbd, hP, hf2, hps1, hps2, hps4]
end Go.Proofs.YtemggoaefohliaaDoor.LX

/- The lexer: signs, evaluated. No condition. -/
namespace Go.Proofs.YtemggoaefohliaaDoor.LX
set_option linter.unusedVariables false
set_option linter.unusedSimpArgs false
open Go AE EX PT NF
set_option maxRecDepth 100000

def pre (s q : List UInt8) : Bool := decide (q.length ≤ s.length) && (s.take q.length == q)
theorem ev_pre0 (n : Nat) (s q : List UInt8) (S : St) : ev Tryd.prog E (n + 1) 63 [.str s, .str q] S = some (.ret (.bool (pre s q)), S) := by
  rw [ev_enter (n := n) (show E.ok 63 = true from rfl) Tryd.func63 (fn := Tryd.f63) rfl (Nat.le_of_ble_eq_true rfl) (by decide +kernel)]
  by_cases h : q.length ≤ s.length
  · have hz : (q.length : Int) ≤ (s.length : Int) := by omega
    have hsl : evSlice Tryd.prog 9 (.str s) none (some (.int .i64 (q.length : Int))) = some (.str (s.take q.length)) := by
      simp [evSlice, sq9]; omega
    have hp : pre s q = (s.take q.length == q) := by simp [pre, h]
    rw [hp]
    generalize s.take q.length = st at *
    simp (disch := first | (simp only [List.length_append, List.length_cons, List.length_nil]; omega) | (simp; done) | assumption) [↓evOp_build, ↓evOp_bslice, evB2_int, evB2_bool, evB2_str, evB2_eqi, evB2_nei, evB2_eqn, evB2_nen, evB2_peq, evB2_pne, evB2_req, evB2_rne, evB2_zeq, evB2_zne, isC_c, isC_t, evAssert, Bool.or_true, Bool.true_or, rhoP_nil, rhoP_cons, evCode_skip, evCode_region, evCode_draw, evCode_seq, evCode_cond, evCode_block, evCode_loop, evCode_exit, evCode_ret, seqK_ite, seqK_none, seqK_norm, seqK_ret, seqK_exit, seqK_pan, condK_true, condK_false, condK_bool, blockK_ite, blockK_none, blockK_norm, blockK_ret, blockK_exit, blockK_pan, stepK_ite, stepK_none, stepK_ok, stepK_pan, drawK_ite, drawK_none, drawK_ok, drawK_pan, opK_ite, opK_none, opK_val, opK_pan, wantK_true, wantK_false, wantK_some, afterRegion_ite, afterDraw_ite, fromBody_ite, ite_bool, ite_int, stepA_K, doOp, noOp, lexA_nil, lexA_cons, lexF_nil, lexF_cons, afterDraw, noClash, panIn, lostF, FP.clash, wantedA, evOp, rho, rhoL, ofC0, ofC, argsA, upd, afterRegion, putA, goOp, evBin_add, evBin_sub, evBin_mul, evBin_quo, evBin_rem, evBin_eql, evBin_neq, evBin_lss, evBin_leq, evBin_gtr, evBin_geq, evBin_eqlB, evBin_neqB, evBin_addS, evBin_eqlS, evBin_neqS, evBin_lssS, evBin_leqS, evUn, evConv, evIndex, evBuiltin, evLen, evMin2, evMax2, evCallee, evBox, evLoad, evStore, evFieldAddr, evField, evIndexAddr, evBuild, evBuildSlice, evElems, evSlice, nth, rdc, wrc, fromBody, resA, finRet, oneOf, AV.cells?, AV.isCell, fin_int, fin_bool, fin_str, -evSlice, Tryd.f63, bq3, bq9, sq9, h, hz, hsl]
  · have hz : ¬ (q.length : Int) ≤ (s.length : Int) := by omega
    have hp : pre s q = false := by simp [pre, h]
    rw [hp]
    simp (disch := first | (simp only [List.length_append, List.length_cons, List.length_nil]; omega) | (simp; done) | assumption) [↓evOp_build, ↓evOp_bslice, evB2_int, evB2_bool, evB2_str, evB2_eqi, evB2_nei, evB2_eqn, evB2_nen, evB2_peq, evB2_pne, evB2_req, evB2_rne, evB2_zeq, evB2_zne, isC_c, isC_t, evAssert, Bool.or_true, Bool.true_or, rhoP_nil, rhoP_cons, evCode_skip, evCode_region, evCode_draw, evCode_seq, evCode_cond, evCode_block, evCode_loop, evCode_exit, evCode_ret, seqK_ite, seqK_none, seqK_norm, seqK_ret, seqK_exit, seqK_pan, condK_true, condK_false, condK_bool, blockK_ite, blockK_none, blockK_norm, blockK_ret, blockK_exit, blockK_pan, stepK_ite, stepK_none, stepK_ok, stepK_pan, drawK_ite, drawK_none, drawK_ok, drawK_pan, opK_ite, opK_none, opK_val, opK_pan, wantK_true, wantK_false, wantK_some, afterRegion_ite, afterDraw_ite, fromBody_ite, ite_bool, ite_int, stepA_K, doOp, noOp, lexA_nil, lexA_cons, lexF_nil, lexF_cons, afterDraw, noClash, panIn, lostF, FP.clash, wantedA, evOp, rho, rhoL, ofC0, ofC, argsA, upd, afterRegion, putA, goOp, evBin_add, evBin_sub, evBin_mul, evBin_quo, evBin_rem, evBin_eql, evBin_neq, evBin_lss, evBin_leq, evBin_gtr, evBin_geq, evBin_eqlB, evBin_neqB, evBin_addS, evBin_eqlS, evBin_neqS, evBin_lssS, evBin_leqS, evUn, evConv, evIndex, evBuiltin, evLen, evMin2, evMax2, evCallee, evBox, evLoad, evStore, evFieldAddr, evField, evIndexAddr, evBuild, evBuildSlice, evElems, evSlice, nth, rdc, wrc, fromBody, resA, finRet, oneOf, AV.cells?, AV.isCell, fin_int, fin_bool, fin_str, -evSlice, Tryd.f63, bq3, bq9, sq9, h, hz]
theorem ev_pre (n : Nat) (s q : List UInt8) (S : St) : ev Tryd.prog E (n + 2) 55 [.str s, .str q] S = some (.ret (.bool (pre s q)), S) := by
  have := ev_pre0 n s q S
  rw [show n + 2 = (n + 1) + 1 from rfl, ev_enter (n := n + 1) (show E.ok 55 = true from rfl) Tryd.func55 (fn := Tryd.f55) rfl (Nat.le_of_ble_eq_true rfl) (by decide +kernel)]
  simp (disch := first | (simp only [List.length_append, List.length_cons, List.length_nil]; omega) | (simp; done) | assumption) [↓evOp_build, ↓evOp_bslice, evB2_int, evB2_bool, evB2_str, evB2_eqi, evB2_nei, evB2_eqn, evB2_nen, evB2_peq, evB2_pne, evB2_req, evB2_rne, evB2_zeq, evB2_zne, isC_c, isC_t, evAssert, Bool.or_true, Bool.true_or, rhoP_nil, rhoP_cons, evCode_skip, evCode_region, evCode_draw, evCode_seq, evCode_cond, evCode_block, evCode_loop, evCode_exit, evCode_ret, seqK_ite, seqK_none, seqK_norm, seqK_ret, seqK_exit, seqK_pan, condK_true, condK_false, condK_bool, blockK_ite, blockK_none, blockK_norm, blockK_ret, blockK_exit, blockK_pan, stepK_ite, stepK_none, stepK_ok, stepK_pan, drawK_ite, drawK_none, drawK_ok, drawK_pan, opK_ite, opK_none, opK_val, opK_pan, wantK_true, wantK_false, wantK_some, afterRegion_ite, afterDraw_ite, fromBody_ite, ite_bool, ite_int, stepA_K, doOp, noOp, lexA_nil, lexA_cons, lexF_nil, lexF_cons, afterDraw, noClash, panIn, lostF, FP.clash, wantedA, evOp, rho, rhoL, ofC0, ofC, argsA, upd, afterRegion, putA, goOp, evBin_add, evBin_sub, evBin_mul, evBin_quo, evBin_rem, evBin_eql, evBin_neq, evBin_lss, evBin_leq, evBin_gtr, evBin_geq, evBin_eqlB, evBin_neqB, evBin_addS, evBin_eqlS, evBin_neqS, evBin_lssS, evBin_leqS, evUn, evConv, evIndex, evBuiltin, evLen, evMin2, evMax2, evCallee, evBox, evLoad, evStore, evFieldAddr, evField, evIndexAddr, evBuild, evBuildSlice, evElems, evSlice, nth, rdc, wrc, fromBody, resA, finRet, oneOf, AV.cells?, AV.isCell, fin_int, fin_bool, fin_str, Tryd.f55, this]

def sgL : List (List UInt8) := [[58, 61], [33, 61], [60, 61]]
def signsT : List UInt8 := [40, 41, 91, 93, 123, 125, 44, 59, 46, 43, 45, 42, 61, 60]
theorem z106 : zeroQ Tryd.prog 106 = some [.str [], .str [], .str []] := by kernel_rfl
theorem p106 : partsQ Tryd.prog 106 = true := by kernel_rfl
theorem q106 : arrQ Tryd.prog 106 = some (3, 9) := by kernel_rfl
theorem u106 : Tryd.prog.underlying 106 = some (.array 3 9) := by kernel_rfl
theorem kn9 : (Tryd.prog.underlying 9).isSome = true := by kernel_rfl
theorem sgB : evBuild Tryd.prog 106 [(0, .str [58, 61]), (1, .str [33, 61]), (2, .str [60, 61])] = some (.agg [.str [58, 61], .str [33, 61], .str [60, 61]]) := by
  simp [evBuild, p106, z106, fillA, placeQ, u106, c9, AV.cells?, wrc]
theorem sgI (i : Nat) (q : List UInt8) (h : sgL[i]? = some q) : evIndex Tryd.prog 106 (.agg [.str [58, 61], .str [33, 61], .str [60, 61]]) (.int .i64 (i : Int)) = some (.str q) := by
  match i, h with
  | 0, h => simp [sgL] at h; subst h; simp [evIndex, q106, kn9, c9, a9, rdc]
  | 1, h => simp [sgL] at h; subst h; simp [evIndex, q106, kn9, c9, a9, rdc]
  | 2, h => simp [sgL] at h; subst h; simp [evIndex, q106, kn9, c9, a9, rdc]
  | i + 3, h => simp [sgL] at h

noncomputable def sgLoop : Code := cutC (bodyOf Tryd.f42) [1, 0, 1, 0, 0]
noncomputable def sg0 : Code := cutC (bodyOf Tryd.f42) [0]
noncomputable def sg1 : Code := cutC (bodyOf Tryd.f42) [1, 0, 0]
noncomputable def sg2 : Code := cutC (bodyOf Tryd.f42) [1, 1]
theorem f42b : Tryd.f42.body = some (.seq sg0 (.seq (.seq sg1 (.block 0 (.loop sgLoop))) sg2)) := rfl

/-- the first of the signs of two letters that stands here -/
def sgAt (s : List UInt8) (p : Nat) : Option (List UInt8) := sgL.find? fun q => pre (s.drop p) q
def SGI (S0 : St) (s : List UInt8) (p : Nat) (out : List Tk) (m : Nat) (fs : FS) : Prop :=
  ∃ i, i + m = 3 ∧ fs.t 0 = .ptr S0.H.length 0 ∧ fs.t 5 = .agg [.str [58, 61], .str [33, 61], .str [60, 61]] ∧ fs.t 6 = .int .i64 i ∧ fs.S = LSt S0 s p out ∧ ∀ j q, j < i → sgL[j]? = some q → pre (s.drop p) q = false
def SGQ (S0 : St) (s : List UInt8) (p : Nat) (out : List Tk) (r : Out × FS) : Prop :=
  (r.1 = .exit 0 ∧ r.2.t 0 = .ptr S0.H.length 0 ∧ r.2.S = LSt S0 s p out ∧ sgAt s p = none) ∨ (r.1 = .ret ∧ r.2.t 2 = .nilif ∧ ∃ q, sgAt s p = some q ∧ r.2.S = LSt S0 s (p + 2) (out ++ [⟨4, q, 0, p⟩]))

set_option maxHeartbeats 2000000 in
theorem sg_round (n : Nat) (S0 : St) (s : List UInt8) (p : Nat) (out : List Tk) (hs : s.length ≤ 1048576) (hp : p < s.length) (hl : out.length ≤ 1048576) (m : Nat) (fs : FS) (h : SGI S0 s p out m fs) :
    ∃ o fs', evCode ⟨Tryd.prog, E.esc 42, n + 2⟩ (ev Tryd.prog E (n + 2)) (E.ps 42) (n + 2) sgLoop fs = some (o, fs') ∧ ((o = .norm ∧ ∃ m', m' < m ∧ SGI S0 s p out m' fs') ∨ (o ≠ .norm ∧ SGQ S0 s p out (o, fs'))) := by
  obtain ⟨t, b, v, S⟩ := fs
  obtain ⟨i, hi, h0, h5, h6, hS, hno⟩ := h
  simp only at h0 h5 h6 hS
  subst hS
  cases m with
  | zero =>
    have hi' : i = 3 := by omega
    subst hi'
    have hn : sgAt s p = none := by
      unfold sgAt
      rw [List.find?_eq_none]
      intro q hq
      obtain ⟨j, hj, rfl⟩ := List.getElem_of_mem hq
      have : j < 3 := hj
      simp [hno j _ this (List.getElem?_eq_getElem hj)]
    refine ⟨.exit 0, _, by
      simp (disch := first | (simp only [List.length_append, List.length_cons, List.length_nil]; omega) | (simp; done) | assumption) [↓evOp_build, ↓evOp_bslice, evB2_int, evB2_bool, evB2_str, evB2_eqi, evB2_nei, evB2_eqn, evB2_nen, evB2_peq, evB2_pne, evB2_req, evB2_rne, evB2_zeq, evB2_zne, isC_c, isC_t, evAssert, Bool.or_true, Bool.true_or, rhoP_nil, rhoP_cons, evCode_skip, evCode_region, evCode_draw, evCode_seq, evCode_cond, evCode_block, evCode_loop, evCode_exit, evCode_ret, seqK_ite, seqK_none, seqK_norm, seqK_ret, seqK_exit, seqK_pan, condK_true, condK_false, condK_bool, blockK_ite, blockK_none, blockK_norm, blockK_ret, blockK_exit, blockK_pan, stepK_ite, stepK_none, stepK_ok, stepK_pan, drawK_ite, drawK_none, drawK_ok, drawK_pan, opK_ite, opK_none, opK_val, opK_pan, wantK_true, wantK_false, wantK_some, afterRegion_ite, afterDraw_ite, fromBody_ite, ite_bool, ite_int, stepA_K, doOp, noOp, lexA_nil, lexA_cons, lexF_nil, lexF_cons, afterDraw, noClash, panIn, lostF, FP.clash, wantedA, evOp, rho, rhoL, ofC0, ofC, argsA, upd, afterRegion, putA, goOp, evBin_add, evBin_sub, evBin_mul, evBin_quo, evBin_rem, evBin_eql, evBin_neq, evBin_lss, evBin_leq, evBin_gtr, evBin_geq, evBin_eqlB, evBin_neqB, evBin_addS, evBin_eqlS, evBin_neqS, evBin_lssS, evBin_leqS, evUn, evConv, evIndex, evBuiltin, evLen, evMin2, evMax2, evCallee, evBox, evLoad, evStore, evFieldAddr, evField, evIndexAddr, evBuild, evBuildSlice, evElems, evSlice, nth, rdc, wrc, fromBody, resA, finRet, oneOf, AV.cells?, AV.isCell, fin_int, fin_bool, fin_str, sgLoop, cutC, bodyOf, Tryd.f42, h6, bq3]
      rfl, .inr ⟨by simp, .inl ⟨rfl, by simp [upd, h0], rfl, hn⟩⟩⟩
  | succ m =>
    have hlt : i < 3 := by omega
    obtain ⟨q, hq⟩ : ∃ q, sgL[i]? = some q := ⟨sgL[i]'(show i < sgL.length from hlt), List.getElem?_eq_getElem _⟩
    have hq2 : q.length = 2 := by
      match i, hq with
      | 0, h => simp [sgL] at h; subst h; rfl
      | 1, h => simp [sgL] at h; subst h; rfl
      | 2, h => simp [sgL] at h; subst h; rfl
      | i + 3, h => simp [sgL] at h
    have hIx := sgI i q hq
    have hL := LSt_get S0 s p out
    have hs1 := sl1 s p (by omega)
    have hPr := ev_pre n (s.drop p) q (LSt S0 s p out)
    have hw : IntKind.i64.wrap ((i : Int) + 1) = (i : Int) + 1 := wrap64 _ (by omega)
    have hltz : (i : Int) < 3 := by omega
    have hps4 : E.ps 42 4 = [(3, 7)] := rfl
    have hw2 : IntKind.i64.wrap ((p : Int) + 2) = ((p + 2 : Nat) : Int) := by rw [wrap64 _ (by omega)]; omega
    have hP := ev_put (n + 1) S0 s p out ⟨4, q, 0, 0⟩ (p + 2) hl
    have hbd := bT1 4 q
    simp only at hP
    generalize hA : AV.agg [.str [58, 61], .str [33, 61], .str [60, 61]] = arr at *
    cases hpr : pre (s.drop p) q
    · rw [hpr] at hPr
      generalize hLL : LSt S0 s p out = L at *
      refine ⟨.norm, _, by
        simp (disch := first | (simp only [List.length_append, List.length_cons, List.length_nil]; omega) | (simp; done) | assumption) [↓evOp_build, ↓evOp_bslice, evB2_int, evB2_bool, evB2_str, evB2_eqi, evB2_nei, evB2_eqn, evB2_nen, evB2_peq, evB2_pne, evB2_req, evB2_rne, evB2_zeq, evB2_zne, isC_c, isC_t, evAssert, Bool.or_true, Bool.true_or, rhoP_nil, rhoP_cons, evCode_skip, evCode_region, evCode_draw, evCode_seq, evCode_cond, evCode_block, evCode_loop, evCode_exit, evCode_ret, seqK_ite, seqK_none, seqK_norm, seqK_ret, seqK_exit, seqK_pan, condK_true, condK_false, condK_bool, blockK_ite, blockK_none, blockK_norm, blockK_ret, blockK_exit, blockK_pan, stepK_ite, stepK_none, stepK_ok, stepK_pan, drawK_ite, drawK_none, drawK_ok, drawK_pan, opK_ite, opK_none, opK_val, opK_pan, wantK_true, wantK_false, wantK_some, afterRegion_ite, afterDraw_ite, fromBody_ite, ite_bool, ite_int, stepA_K, doOp, noOp, lexA_nil, lexA_cons, lexF_nil, lexF_cons, afterDraw, noClash, panIn, lostF, FP.clash, wantedA, evOp, rho, rhoL, ofC0, ofC, argsA, upd, afterRegion, putA, goOp, evBin_add, evBin_sub, evBin_mul, evBin_quo, evBin_rem, evBin_eql, evBin_neq, evBin_lss, evBin_leq, evBin_gtr, evBin_geq, evBin_eqlB, evBin_neqB, evBin_addS, evBin_eqlS, evBin_neqS, evBin_lssS, evBin_leqS, evUn, evConv, evIndex, evBuiltin, evLen, evMin2, evMax2, evCallee, evBox, evLoad, evStore, evFieldAddr, evField, evIndexAddr, evBuild, evBuildSlice, evElems, evSlice, nth, rdc, wrc, fromBody, resA, finRet, oneOf, AV.cells?, AV.isCell, fin_int, fin_bool, fin_str, -evBuild, -evSlice, -evIndex, sgLoop, cutC, bodyOf, Tryd.f42, E_esc, h0, h5, h6, hL, hIx, tq61_0, tq61_1, tk61, k9, c9, a9, k3, c3, a3, sq9, bq3, hlt, hltz, hs1, hPr, hps4]
        rfl, .inl ⟨rfl, m, by omega, i + 1, by omega, by simp [upd, h0], by simp [upd, h5, hA], by simp [upd, hw], by rw [hLL], fun j q' hj hq' => by
          by_cases hji : j = i
          · subst hji; rw [hq] at hq'; cases hq'; exact hpr
          · exact hno j q' (by omega) hq'⟩⟩
    · rw [hpr] at hPr
      have hfind : sgAt s p = some q := by
        unfold sgAt
        match i, hq, hno with
        | 0, hq, hno => simp [sgL] at hq; subst hq; simp [sgL, hpr]
        | 1, hq, hno =>
          have k0 := hno 0 [58, 61] (by omega) rfl
          simp [sgL] at hq; subst hq; simp [sgL, List.find?, k0, hpr]
        | 2, hq, hno =>
          have k0 := hno 0 [58, 61] (by omega) rfl
          have k1 := hno 1 [33, 61] (by omega) rfl
          simp [sgL] at hq; subst hq; simp [sgL, List.find?, k0, k1, hpr]
        | i + 3, hq, _ => simp [sgL] at hq
      generalize hL2 : LSt S0 s (p + 2) _ = L2 at *
      generalize LSt S0 s p out = L at *
      generalize hP2 : p + 2 = P2 at *
      generalize Tk.emb ⟨4, q, 0, 0⟩ = te at *
      refine ⟨.ret, _, by
        simp (disch := first | (simp only [List.length_append, List.length_cons, List.length_nil]; omega) | (simp; done) | assumption) [↓evOp_build, ↓evOp_bslice, evB2_int, evB2_bool, evB2_str, evB2_eqi, evB2_nei, evB2_eqn, evB2_nen, evB2_peq, evB2_pne, evB2_req, evB2_rne, evB2_zeq, evB2_zne, isC_c, isC_t, evAssert, Bool.or_true, Bool.true_or, rhoP_nil, rhoP_cons, evCode_skip, evCode_region, evCode_draw, evCode_seq, evCode_cond, evCode_block, evCode_loop, evCode_exit, evCode_ret, seqK_ite, seqK_none, seqK_norm, seqK_ret, seqK_exit, seqK_pan, condK_true, condK_false, condK_bool, blockK_ite, blockK_none, blockK_norm, blockK_ret, blockK_exit, blockK_pan, stepK_ite, stepK_none, stepK_ok, stepK_pan, drawK_ite, drawK_none, drawK_ok, drawK_pan, opK_ite, opK_none, opK_val, opK_pan, wantK_true, wantK_false, wantK_some, afterRegion_ite, afterDraw_ite, fromBody_ite, ite_bool, ite_int, stepA_K, doOp, noOp, lexA_nil, lexA_cons, lexF_nil, lexF_cons, afterDraw, noClash, panIn, lostF, FP.clash, wantedA, evOp, rho, rhoL, ofC0, ofC, argsA, upd, afterRegion, putA, goOp, evBin_add, evBin_sub, evBin_mul, evBin_quo, evBin_rem, evBin_eql, evBin_neq, evBin_lss, evBin_leq, evBin_gtr, evBin_geq, evBin_eqlB, evBin_neqB, evBin_addS, evBin_eqlS, evBin_neqS, evBin_lssS, evBin_leqS, evUn, evConv, evIndex, evBuiltin, evLen, evMin2, evMax2, evCallee, evBox, evLoad, evStore, evFieldAddr, evField, evIndexAddr, evBuild, evBuildSlice, evElems, evSlice, nth, rdc, wrc, fromBody, resA, finRet, oneOf, AV.cells?, AV.isCell, fin_int, fin_bool, fin_str, -evBuild, -evSlice, -evIndex, sgLoop, cutC, bodyOf, Tryd.f42, E_esc, h0, h5, h6, hL, hIx, tq61_0, tq61_1, tk61, k9, c9, a9, k3, c3, a3, sq9, bq3, hlt, hltz, hs1, hPr, hps4, hq2, hw2, hbd, hP]
        rfl, .inr ⟨by simp, .inr ⟨rfl, by simp [upd], q, hfind, by rw [hP2, hL2]⟩⟩⟩

def signedR (s : List UInt8) (p : Nat) : LR :=
  match sgAt s p with
  | some q => .word ⟨4, q, 0, p⟩ (p + 2)
  | none => match s[p]? with
    | some c => if signsT.contains c then .word ⟨4, sub s p (p + 1), 0, p⟩ (p + 1) else .err 16
    | none => .err 16
theorem contains_index : ∀ (l : List UInt8) (c : UInt8), l.contains c = decide (0 ≤ Lib.indexByte l c)
  | [], c => by simp [Lib.indexByte]
  | b :: l, c => by
    have ih := contains_index l c
    have hg := Lib.indexByte_ge l c
    cases e : (b == c)
    · have h1 : Lib.indexByte (b :: l) c = if Lib.indexByte l c = -1 then -1 else Lib.indexByte l c + 1 := by simp [Lib.indexByte, e]
      have e' : (c == b) = false := by rw [← e]; exact Bool.beq_comm
      rw [List.contains_cons, e', Bool.false_or, ih, h1]
      split <;> simp <;> omega
    · have e' : (c == b) = true := by rw [← e]; exact Bool.beq_comm
      rw [List.contains_cons, e']
      simp [Lib.indexByte, e]

set_option maxHeartbeats 2000000 in
theorem ev_signed (n : Nat) (hn : 5 ≤ n) (S0 : St) (s : List UInt8) (p : Nat) (out : List Tk) (hs : s.length ≤ 1048576) (hp : p < s.length) (hl : out.length ≤ 1048576) :
    ev Tryd.prog E (n + 3) 42 [.ptr S0.H.length 0] (LSt S0 s p out) = ans S0 s p out (signedR s p) := by
  have hgb := sgB
  rw [show n + 3 = (n + 2) + 1 from rfl, ev_enter (n := n + 2) (show E.ok 42 = true from rfl) Tryd.func42 f42b (Nat.le_of_ble_eq_true rfl) (by decide +kernel)]
  obtain ⟨fs1, e1, p1⟩ : ∃ fs', evCode ⟨Tryd.prog, E.esc 42, n + 2⟩ (ev Tryd.prog E (n + 2)) (E.ps 42) (n + 2) (.seq sg0 sg1) ⟨argsA [.ptr S0.H.length 0], fun _ => (0, []), 0, LSt S0 s p out⟩ = some (.norm, fs') ∧ SGI S0 s p out 3 fs' := by
    generalize hA : AV.agg [.str [58, 61], .str [33, 61], .str [60, 61]] = arr at *
    refine ⟨_, by
      simp (disch := first | (simp only [List.length_append, List.length_cons, List.length_nil]; omega) | (simp; done) | assumption) [↓evOp_build, ↓evOp_bslice, evB2_int, evB2_bool, evB2_str, evB2_eqi, evB2_nei, evB2_eqn, evB2_nen, evB2_peq, evB2_pne, evB2_req, evB2_rne, evB2_zeq, evB2_zne, isC_c, isC_t, evAssert, Bool.or_true, Bool.true_or, rhoP_nil, rhoP_cons, evCode_skip, evCode_region, evCode_draw, evCode_seq, evCode_cond, evCode_block, evCode_loop, evCode_exit, evCode_ret, seqK_ite, seqK_none, seqK_norm, seqK_ret, seqK_exit, seqK_pan, condK_true, condK_false, condK_bool, blockK_ite, blockK_none, blockK_norm, blockK_ret, blockK_exit, blockK_pan, stepK_ite, stepK_none, stepK_ok, stepK_pan, drawK_ite, drawK_none, drawK_ok, drawK_pan, opK_ite, opK_none, opK_val, opK_pan, wantK_true, wantK_false, wantK_some, afterRegion_ite, afterDraw_ite, fromBody_ite, ite_bool, ite_int, stepA_K, doOp, noOp, lexA_nil, lexA_cons, lexF_nil, lexF_cons, afterDraw, noClash, panIn, lostF, FP.clash, wantedA, evOp, rho, rhoL, ofC0, ofC, argsA, upd, afterRegion, putA, goOp, evBin_add, evBin_sub, evBin_mul, evBin_quo, evBin_rem, evBin_eql, evBin_neq, evBin_lss, evBin_leq, evBin_gtr, evBin_geq, evBin_eqlB, evBin_neqB, evBin_addS, evBin_eqlS, evBin_neqS, evBin_lssS, evBin_leqS, evUn, evConv, evIndex, evBuiltin, evLen, evMin2, evMax2, evCallee, evBox, evLoad, evStore, evFieldAddr, evField, evIndexAddr, evBuild, evBuildSlice, evElems, evSlice, nth, rdc, wrc, fromBody, resA, finRet, oneOf, AV.cells?, AV.isCell, fin_int, fin_bool, fin_str, -evBuild, sg0, sg1, cutC, bodyOf, Tryd.f42, E_esc, hgb]
      rfl, 0, by omega, by simp [upd, argsA], by rw [hA]; simp [upd], by simp [upd], rfl, fun j q hj => by omega⟩
  obtain ⟨⟨o, fs2⟩, r1, r2⟩ := iter_meas (fun m' fs h => sg_round n S0 s p out hs hp hl m' fs h) 3 (n + 2) fs1 (by omega) p1
  rw [evCode_assoc, evCode_seq, evCode_assoc, evCode_seq, e1, seqK_norm, evCode_block, evCode_loop, r1]
  obtain ⟨t, b, c, S⟩ := fs2
  rcases r2 with ⟨rfl, h0, rfl, hn⟩ | ⟨rfl, h2, q, hq, rfl⟩
  · have hL := LSt_get S0 s p out
    have hxe : s[p]? = some s[p] := List.getElem?_eq_getElem hp
    have hidx : evIndex Tryd.prog 9 (.str s) (.int .i64 (p : Int)) = some (.int .u8 (s[p].toNat : Int)) := by simp [evIndex, sq9, hp]
    have hR : signedR s p = if signsT.contains s[p] then .word ⟨4, sub s p (p + 1), 0, p⟩ (p + 1) else .err 16 := by
      unfold signedR; rw [hn, hxe]
    rw [hR, contains_index]
    have hI : ev Tryd.prog E (n + 2) 38 [.str [40, 41, 91, 93, 123, 125, 44, 59, 46, 43, 45, 42, 61, 60], .int .u8 (s[p].toNat : Int)] (LSt S0 s p out) = some (.ret (.int .i64 (Lib.indexByte signsT s[p])), LSt S0 s p out) := by
      have := ev_indexByte (n + 1) signsT (s[p].toNat : Int) (LSt S0 s p out)
      have e : (s[p].toNat : Int).toNat.toUInt8 = s[p] := by simp
      rw [e] at this
      exact this
    have hps8 : E.ps 42 8 = [(3, 7)] := rfl
    have hps10 : E.ps 42 10 = [(4, 8), (4, 12), (8, 12), (4, 19), (8, 19), (12, 19)] := rfl
    have hE := ev_NewL (n + 1) 16 S0 s p out
    have hf1 := fin_err S0 s p out 16
    have hsl := sl2 s p (p + 1) (by omega) (by omega)
    have hbd := bT1 4 (sub s p (p + 1))
    have hP := ev_put (n + 1) S0 s p out ⟨4, sub s p (p + 1), 0, 0⟩ (p + 1) hl
    have hf2 := fin_putv S0 s p (p + 1) out ⟨4, sub s p (p + 1), 0, p⟩ .nilif rfl
    have hw1 : IntKind.i64.wrap ((p : Int) + 1) = ((p + 1 : Nat) : Int) := by rw [wrap64 _ (by omega)]; omega
    simp only at hP hf2 h0
    generalize Lib.indexByte signsT s[p] = ix at *
    generalize s[p] = x at *
    by_cases hx : 0 ≤ ix
    · have hx' : ¬ ix < 0 := by omega
      rw [decide_eq_true hx, if_pos rfl, ans_word]
      generalize LSt S0 s (p + 1) _ = L2 at *
      generalize LSt S0 s p out = L at *
      generalize sub s p (p + 1) = sb at *
      generalize Tk.emb ⟨4, sb, 0, 0⟩ = te at *
      generalize p + 1 = P1 at *
      simp (disch := first | (simp only [List.length_append, List.length_cons, List.length_nil]; omega) | (simp; done) | assumption) [↓evOp_build, ↓evOp_bslice, evB2_int, evB2_bool, evB2_str, evB2_eqi, evB2_nei, evB2_eqn, evB2_nen, evB2_peq, evB2_pne, evB2_req, evB2_rne, evB2_zeq, evB2_zne, isC_c, isC_t, evAssert, Bool.or_true, Bool.true_or, rhoP_nil, rhoP_cons, evCode_skip, evCode_region, evCode_draw, evCode_seq, evCode_cond, evCode_block, evCode_loop, evCode_exit, evCode_ret, seqK_ite, seqK_none, seqK_norm, seqK_ret, seqK_exit, seqK_pan, condK_true, condK_false, condK_bool, blockK_ite, blockK_none, blockK_norm, blockK_ret, blockK_exit, blockK_pan, stepK_ite, stepK_none, stepK_ok, stepK_pan, drawK_ite, drawK_none, drawK_ok, drawK_pan, opK_ite, opK_none, opK_val, opK_pan, wantK_true, wantK_false, wantK_some, afterRegion_ite, afterDraw_ite, fromBody_ite, ite_bool, ite_int, stepA_K, doOp, noOp, lexA_nil, lexA_cons, lexF_nil, lexF_cons, afterDraw, noClash, panIn, lostF, FP.clash, wantedA, evOp, rho, rhoL, ofC0, ofC, argsA, upd, afterRegion, putA, goOp, evBin_add, evBin_sub, evBin_mul, evBin_quo, evBin_rem, evBin_eql, evBin_neq, evBin_lss, evBin_leq, evBin_gtr, evBin_geq, evBin_eqlB, evBin_neqB, evBin_addS, evBin_eqlS, evBin_neqS, evBin_lssS, evBin_leqS, evUn, evConv, evIndex, evBuiltin, evLen, evMin2, evMax2, evCallee, evBox, evLoad, evStore, evFieldAddr, evField, evIndexAddr, evBuild, evBuildSlice, evElems, evSlice, nth, rdc, wrc, fromBody, resA, finRet, oneOf, AV.cells?, AV.isCell, fin_int, fin_bool, fin_str, -evBuild, -evSlice, -evIndex, sg2, cutC, bodyOf, Tryd.f42, E_esc, h0, hL, hidx, tq61_0, tq61_1, tk61, k9, c9, a9, k3, c3, a3, sq9, bq3, hI, hx', hsl, hbd, hP, hf2, hw1, hps8, hps10]
    · have hx' : ix < 0 := by omega
      rw [decide_eq_false hx, if_neg (by simp), ans_err]
      generalize LSt S0 s p out = L at *
      generalize ErrSt S0 s p out 16 = LE at *
      generalize errV S0 = eV at *
      simp (disch := first | (simp only [List.length_append, List.length_cons, List.length_nil]; omega) | (simp; done) | assumption) [↓evOp_build, ↓evOp_bslice, evB2_int, evB2_bool, evB2_str, evB2_eqi, evB2_nei, evB2_eqn, evB2_nen, evB2_peq, evB2_pne, evB2_req, evB2_rne, evB2_zeq, evB2_zne, isC_c, isC_t, evAssert, Bool.or_true, Bool.true_or, rhoP_nil, rhoP_cons, evCode_skip, evCode_region, evCode_draw, evCode_seq, evCode_cond, evCode_block, evCode_loop, evCode_exit, evCode_ret, seqK_ite, seqK_none, seqK_norm, seqK_ret, seqK_exit, seqK_pan, condK_true, condK_false, condK_bool, blockK_ite, blockK_none, blockK_norm, blockK_ret, blockK_exit, blockK_pan, stepK_ite, stepK_none, stepK_ok, stepK_pan, drawK_ite, drawK_none, drawK_ok, drawK_pan, opK_ite, opK_none, opK_val, opK_pan, wantK_true, wantK_false, wantK_some, afterRegion_ite, afterDraw_ite, fromBody_ite, ite_bool, ite_int, stepA_K, doOp, noOp, lexA_nil, lexA_cons, lexF_nil, lexF_cons, afterDraw, noClash, panIn, lostF, FP.clash, wantedA, evOp, rho, rhoL, ofC0, ofC, argsA, upd, afterRegion, putA, goOp, evBin_add, evBin_sub, evBin_mul, evBin_quo, evBin_rem, evBin_eql, evBin_neq, evBin_lss, evBin_leq, evBin_gtr, evBin_geq, evBin_eqlB, evBin_neqB, evBin_addS, evBin_eqlS, evBin_neqS, evBin_lssS, evBin_leqS, evUn, evConv, evIndex, evBuiltin, evLen, evMin2, evMax2, evCallee, evBox, evLoad, evStore, evFieldAddr, evField, evIndexAddr, evBuild, evBuildSlice, evElems, evSlice, nth, rdc, wrc, fromBody, resA, finRet, oneOf, AV.cells?, AV.isCell, fin_int, fin_bool, fin_str, -evBuild, -evSlice, -evIndex, sg2, cutC, bodyOf, Tryd.f42, E_esc, h0, hL, hidx, tq61_0, tq61_1, tk61, k9, c9, a9, k3, c3, a3, sq9, bq3, hI, hx', hE, hf1, hps8]
  · have hR : signedR s p = .word ⟨4, q, 0, p⟩ (p + 2) := by unfold signedR; rw [hq]
    have hf2 := fin_putv S0 s p (p + 2) out ⟨4, q, 0, p⟩ .nilif rfl
    simp only at hf2 h2
    rw [hR, ans_word]
    generalize LSt S0 s (p + 2) _ = L2 at *
    generalize LSt S0 s p out = L at *
    simp (disch := first | (simp only [List.length_append, List.length_cons, List.length_nil]; omega) | (simp; done) | assumption) [↓evOp_build, ↓evOp_bslice, evB2_int, evB2_bool, evB2_str, evB2_eqi, evB2_nei, evB2_eqn, evB2_nen, evB2_peq, evB2_pne, evB2_req, evB2_rne, evB2_zeq, evB2_zne, isC_c, isC_t, evAssert, Bool.or_true, Bool.true_or, rhoP_nil, rhoP_cons, evCode_skip, evCode_region, evCode_draw, evCode_seq, evCode_cond, evCode_block, evCode_loop, evCode_exit, evCode_ret, seqK_ite, seqK_none, seqK_norm, seqK_ret, seqK_exit, seqK_pan, condK_true, condK_false, condK_bool, blockK_ite, blockK_none, blockK_norm, blockK_ret, blockK_exit, blockK_pan, stepK_ite, stepK_none, stepK_ok, stepK_pan, drawK_ite, drawK_none, drawK_ok, drawK_pan, opK_ite, opK_none, opK_val, opK_pan, wantK_true, wantK_false, wantK_some, afterRegion_ite, afterDraw_ite, fromBody_ite, ite_bool, ite_int, stepA_K, doOp, noOp, lexA_nil, lexA_cons, lexF_nil, lexF_cons, afterDraw, noClash, panIn, lostF, FP.clash, wantedA, evOp, rho, rhoL, ofC0, ofC, argsA, upd, afterRegion, putA, goOp, evBin_add, evBin_sub, evBin_mul, evBin_quo, evBin_rem, evBin_eql, evBin_neq, evBin_lss, evBin_leq, evBin_gtr, evBin_geq, evBin_eqlB, evBin_neqB, evBin_addS, evBin_eqlS, evBin_neqS, evBin_lssS, evBin_leqS, evUn, evConv, evIndex, evBuiltin, evLen, evMin2, evMax2, evCallee, evBox, evLoad, evStore, evFieldAddr, evField, evIndexAddr, evBuild, evBuildSlice, evElems, evSlice, nth, rdc, wrc, fromBody, resA, finRet, oneOf, AV.cells?, AV.isCell, fin_int, fin_bool, fin_str, Tryd.f42, h2, hf2]
end Go.Proofs.YtemggoaefohliaaDoor.LX

/- The lexer: a step; all words, evaluated. No condition. -/
namespace Go.Proofs.YtemggoaefohliaaDoor.LX
set_option linter.unusedVariables false
set_option linter.unusedSimpArgs false
open Go AE EX PT NF
set_option maxRecDepth 100000

def spaces : List UInt8 := [32, 9, 10, 13]
/-- a step: nothing but a blank, or a word, or an error -/
def nextR (s : List UInt8) (p : Nat) (c : UInt8) : Option LR :=
  if spaces.contains c then none
  else some (if headB c.toNat then namedR s p else if digB c.toNat then numberedR s p else if (c.toNat : Int) == 34 then quotedR s p else signedR s p)

theorem ans_fin (S0 : St) (s : List UInt8) (p : Nat) (out : List Tk) (r : LR) : ∃ v L2, ans S0 s p out r = some (.ret v, L2) ∧ finish (LSt S0 s p out) v L2 = some (v, L2) := by
  cases r with
  | err c => exact ⟨_, _, rfl, fin_err S0 s p out c⟩
  | word t to => exact ⟨_, _, rfl, fin_putv S0 s p to out t .nilif rfl⟩
theorem fin_skip (S0 : St) (s : List UInt8) (p q : Nat) (out : List Tk) : finish (LSt S0 s p out) .nilif (LSt S0 s q out) = some (.nilif, LSt S0 s q out) :=
  finish_same rfl rfl rfl (by simp [LSt, HS_len]) rfl

set_option maxHeartbeats 2000000 in
theorem ev_next (n : Nat) (S0 : St) (s : List UInt8) (p : Nat) (out : List Tk) (c : UInt8) (hc : s[p]? = some c) (hs : s.length ≤ 1048576) (hn : s.length + 40 < n) (hl : out.length ≤ 1048576) :
    ev Tryd.prog E (n + 5) 24 [.ptr S0.H.length 0] (LSt S0 s p out) = (match nextR s p c with | none => some (.ret .nilif, LSt S0 s (p + 1) out) | some r => ans S0 s p out r) := by
  have hp : p < s.length := (List.getElem?_eq_some_iff.1 hc).1
  have hL := LSt_get S0 s p out
  have hidx : evIndex Tryd.prog 9 (.str s) (.int .i64 (p : Int)) = some (.int .u8 (c.toNat : Int)) := by simp [evIndex, sq9, hc]
  have hps1 : E.ps 24 1 = [(3, 7)] := rfl
  have hI : ev Tryd.prog E (n + 4) 38 [.str [32, 9, 10, 13], .int .u8 (c.toNat : Int)] (LSt S0 s p out) = some (.ret (.int .i64 (Lib.indexByte spaces c)), LSt S0 s p out) := by
    have := ev_indexByte (n + 3) spaces (c.toNat : Int) (LSt S0 s p out)
    have e : (c.toNat : Int).toNat.toUInt8 = c := by simp
    rw [e] at this
    exact this
  have hw1 : IntKind.i64.wrap ((p : Int) + 1) = ((p + 1 : Nat) : Int) := by rw [wrap64 _ (by omega)]; omega
  have hLe := ev_letter (n + 3) c (LSt S0 s p out)
  have hDi := ev_digit (n + 3) (c.toNat : Int) (LSt S0 s p out)
  unfold nextR
  rw [contains_index]
  generalize Lib.indexByte spaces c = ix at *
  rw [show n + 5 = (n + 4) + 1 from rfl, ev_enter (n := n + 4) (show E.ok 24 = true from rfl) Tryd.func24 (fn := Tryd.f24) rfl (Nat.le_of_ble_eq_true rfl) (by decide +kernel)]
  by_cases hx : 0 ≤ ix
  · rw [decide_eq_true hx, if_pos rfl]
    have hset : (LSt S0 s p out).H.set S0.H.length ⟨61, [.str s, .int .i64 ((p + 1 : Nat) : Int), lv S0 out]⟩ = (LSt S0 s (p + 1) out).H := HS_set _ _ _
    have hT : (LSt S0 s p out).T = (LSt S0 s (p + 1) out).T := rfl
    have hf := fin_skip S0 s p (p + 1) out
    have heta : (⟨(LSt S0 s (p + 1) out).H, (LSt S0 s (p + 1) out).T⟩ : St) = LSt S0 s (p + 1) out := rfl
    generalize hL2 : LSt S0 s (p + 1) out = L2 at *
    generalize LSt S0 s p out = L at *
    generalize p + 1 = P1 at *
    have hcl : (lv S0 out).cells? = some [lv S0 out] := by unfold lv; split <;> rfl
    generalize lv S0 out = vv at *
    simp (disch := first | (simp only [List.length_append, List.length_cons, List.length_nil]; omega) | (simp; done) | assumption) [↓evOp_build, ↓evOp_bslice, evB2_int, evB2_bool, evB2_str, evB2_eqi, evB2_nei, evB2_eqn, evB2_nen, evB2_peq, evB2_pne, evB2_req, evB2_rne, evB2_zeq, evB2_zne, isC_c, isC_t, evAssert, Bool.or_true, Bool.true_or, rhoP_nil, rhoP_cons, evCode_skip, evCode_region, evCode_draw, evCode_seq, evCode_cond, evCode_block, evCode_loop, evCode_exit, evCode_ret, seqK_ite, seqK_none, seqK_norm, seqK_ret, seqK_exit, seqK_pan, condK_true, condK_false, condK_bool, blockK_ite, blockK_none, blockK_norm, blockK_ret, blockK_exit, blockK_pan, stepK_ite, stepK_none, stepK_ok, stepK_pan, drawK_ite, drawK_none, drawK_ok, drawK_pan, opK_ite, opK_none, opK_val, opK_pan, wantK_true, wantK_false, wantK_some, afterRegion_ite, afterDraw_ite, fromBody_ite, ite_bool, ite_int, stepA_K, doOp, noOp, lexA_nil, lexA_cons, lexF_nil, lexF_cons, afterDraw, noClash, panIn, lostF, FP.clash, wantedA, evOp, rho, rhoL, ofC0, ofC, argsA, upd, afterRegion, putA, goOp, evBin_add, evBin_sub, evBin_mul, evBin_quo, evBin_rem, evBin_eql, evBin_neq, evBin_lss, evBin_leq, evBin_gtr, evBin_geq, evBin_eqlB, evBin_neqB, evBin_addS, evBin_eqlS, evBin_neqS, evBin_lssS, evBin_leqS, evUn, evConv, evIndex, evBuiltin, evLen, evMin2, evMax2, evCallee, evBox, evLoad, evStore, evFieldAddr, evField, evIndexAddr, evBuild, evBuildSlice, evElems, evSlice, nth, rdc, wrc, fromBody, resA, finRet, oneOf, AV.cells?, AV.isCell, fin_int, fin_bool, fin_str, -evIndex, AV.sealed, AV.sealedL, wrc, Tryd.f24, E_esc, hL, hidx, tq61_0, tq61_1, tk61, k9, c9, a9, k3, c3, a3, i3, sq9, bq3, hI, hx, hw1, hps1, hset, hT, heta, hf]
  · rw [decide_eq_false hx, if_neg (by simp)]
    cases h1 : headB (c.toNat : Int)
    · rw [h1] at hLe
      rw [if_neg (by simp)]
      cases h2 : digB (c.toNat : Int)
      · rw [h2] at hDi
        rw [if_neg (by simp)]
        cases h3 : ((c.toNat : Int) == 34)
        · rw [if_neg (by simp)]
          have hS := ev_signed (n + 1) (by omega) S0 s p out hs hp hl
          obtain ⟨v, L2, e1, e2⟩ := ans_fin S0 s p out (signedR s p)
          simp only [e1] at hS ⊢
          generalize LSt S0 s p out = L at *
          simp (disch := first | (simp only [List.length_append, List.length_cons, List.length_nil]; omega) | (simp; done) | assumption) [↓evOp_build, ↓evOp_bslice, evB2_int, evB2_bool, evB2_str, evB2_eqi, evB2_nei, evB2_eqn, evB2_nen, evB2_peq, evB2_pne, evB2_req, evB2_rne, evB2_zeq, evB2_zne, isC_c, isC_t, evAssert, Bool.or_true, Bool.true_or, rhoP_nil, rhoP_cons, evCode_skip, evCode_region, evCode_draw, evCode_seq, evCode_cond, evCode_block, evCode_loop, evCode_exit, evCode_ret, seqK_ite, seqK_none, seqK_norm, seqK_ret, seqK_exit, seqK_pan, condK_true, condK_false, condK_bool, blockK_ite, blockK_none, blockK_norm, blockK_ret, blockK_exit, blockK_pan, stepK_ite, stepK_none, stepK_ok, stepK_pan, drawK_ite, drawK_none, drawK_ok, drawK_pan, opK_ite, opK_none, opK_val, opK_pan, wantK_true, wantK_false, wantK_some, afterRegion_ite, afterDraw_ite, fromBody_ite, ite_bool, ite_int, stepA_K, doOp, noOp, lexA_nil, lexA_cons, lexF_nil, lexF_cons, afterDraw, noClash, panIn, lostF, FP.clash, wantedA, evOp, rho, rhoL, ofC0, ofC, argsA, upd, afterRegion, putA, goOp, evBin_add, evBin_sub, evBin_mul, evBin_quo, evBin_rem, evBin_eql, evBin_neq, evBin_lss, evBin_leq, evBin_gtr, evBin_geq, evBin_eqlB, evBin_neqB, evBin_addS, evBin_eqlS, evBin_neqS, evBin_lssS, evBin_leqS, evUn, evConv, evIndex, evBuiltin, evLen, evMin2, evMax2, evCallee, evBox, evLoad, evStore, evFieldAddr, evField, evIndexAddr, evBuild, evBuildSlice, evElems, evSlice, nth, rdc, wrc, fromBody, resA, finRet, oneOf, AV.cells?, AV.isCell, fin_int, fin_bool, fin_str, -evIndex, Tryd.f24, E_esc, hL, hidx, tq61_0, tq61_1, tk61, k9, c9, a9, k3, c3, a3, sq9, bq3, bq5, hI, hx, hps1, hLe, hDi, h3, hS, e2]
        · rw [if_pos rfl]
          have hS := ev_quoted (n + 1) S0 s p out hs hp hl
          obtain ⟨v, L2, e1, e2⟩ := ans_fin S0 s p out (quotedR s p)
          simp only [e1] at hS ⊢
          generalize LSt S0 s p out = L at *
          simp (disch := first | (simp only [List.length_append, List.length_cons, List.length_nil]; omega) | (simp; done) | assumption) [↓evOp_build, ↓evOp_bslice, evB2_int, evB2_bool, evB2_str, evB2_eqi, evB2_nei, evB2_eqn, evB2_nen, evB2_peq, evB2_pne, evB2_req, evB2_rne, evB2_zeq, evB2_zne, isC_c, isC_t, evAssert, Bool.or_true, Bool.true_or, rhoP_nil, rhoP_cons, evCode_skip, evCode_region, evCode_draw, evCode_seq, evCode_cond, evCode_block, evCode_loop, evCode_exit, evCode_ret, seqK_ite, seqK_none, seqK_norm, seqK_ret, seqK_exit, seqK_pan, condK_true, condK_false, condK_bool, blockK_ite, blockK_none, blockK_norm, blockK_ret, blockK_exit, blockK_pan, stepK_ite, stepK_none, stepK_ok, stepK_pan, drawK_ite, drawK_none, drawK_ok, drawK_pan, opK_ite, opK_none, opK_val, opK_pan, wantK_true, wantK_false, wantK_some, afterRegion_ite, afterDraw_ite, fromBody_ite, ite_bool, ite_int, stepA_K, doOp, noOp, lexA_nil, lexA_cons, lexF_nil, lexF_cons, afterDraw, noClash, panIn, lostF, FP.clash, wantedA, evOp, rho, rhoL, ofC0, ofC, argsA, upd, afterRegion, putA, goOp, evBin_add, evBin_sub, evBin_mul, evBin_quo, evBin_rem, evBin_eql, evBin_neq, evBin_lss, evBin_leq, evBin_gtr, evBin_geq, evBin_eqlB, evBin_neqB, evBin_addS, evBin_eqlS, evBin_neqS, evBin_lssS, evBin_leqS, evUn, evConv, evIndex, evBuiltin, evLen, evMin2, evMax2, evCallee, evBox, evLoad, evStore, evFieldAddr, evField, evIndexAddr, evBuild, evBuildSlice, evElems, evSlice, nth, rdc, wrc, fromBody, resA, finRet, oneOf, AV.cells?, AV.isCell, fin_int, fin_bool, fin_str, -evIndex, Tryd.f24, E_esc, hL, hidx, tq61_0, tq61_1, tk61, k9, c9, a9, k3, c3, a3, sq9, bq3, bq5, hI, hx, hps1, hLe, hDi, h3, hS, e2]
      · rw [h2] at hDi
        rw [if_pos rfl]
        have hS := ev_numbered n S0 s p out hs (by omega) (by omega) hl
        obtain ⟨v, L2, e1, e2⟩ := ans_fin S0 s p out (numberedR s p)
        simp only [e1] at hS ⊢
        generalize LSt S0 s p out = L at *
        simp (disch := first | (simp only [List.length_append, List.length_cons, List.length_nil]; omega) | (simp; done) | assumption) [↓evOp_build, ↓evOp_bslice, evB2_int, evB2_bool, evB2_str, evB2_eqi, evB2_nei, evB2_eqn, evB2_nen, evB2_peq, evB2_pne, evB2_req, evB2_rne, evB2_zeq, evB2_zne, isC_c, isC_t, evAssert, Bool.or_true, Bool.true_or, rhoP_nil, rhoP_cons, evCode_skip, evCode_region, evCode_draw, evCode_seq, evCode_cond, evCode_block, evCode_loop, evCode_exit, evCode_ret, seqK_ite, seqK_none, seqK_norm, seqK_ret, seqK_exit, seqK_pan, condK_true, condK_false, condK_bool, blockK_ite, blockK_none, blockK_norm, blockK_ret, blockK_exit, blockK_pan, stepK_ite, stepK_none, stepK_ok, stepK_pan, drawK_ite, drawK_none, drawK_ok, drawK_pan, opK_ite, opK_none, opK_val, opK_pan, wantK_true, wantK_false, wantK_some, afterRegion_ite, afterDraw_ite, fromBody_ite, ite_bool, ite_int, stepA_K, doOp, noOp, lexA_nil, lexA_cons, lexF_nil, lexF_cons, afterDraw, noClash, panIn, lostF, FP.clash, wantedA, evOp, rho, rhoL, ofC0, ofC, argsA, upd, afterRegion, putA, goOp, evBin_add, evBin_sub, evBin_mul, evBin_quo, evBin_rem, evBin_eql, evBin_neq, evBin_lss, evBin_leq, evBin_gtr, evBin_geq, evBin_eqlB, evBin_neqB, evBin_addS, evBin_eqlS, evBin_neqS, evBin_lssS, evBin_leqS, evUn, evConv, evIndex, evBuiltin, evLen, evMin2, evMax2, evCallee, evBox, evLoad, evStore, evFieldAddr, evField, evIndexAddr, evBuild, evBuildSlice, evElems, evSlice, nth, rdc, wrc, fromBody, resA, finRet, oneOf, AV.cells?, AV.isCell, fin_int, fin_bool, fin_str, -evIndex, Tryd.f24, E_esc, hL, hidx, tq61_0, tq61_1, tk61, k9, c9, a9, k3, c3, a3, sq9, bq3, bq5, hI, hx, hps1, hLe, hDi, hS, e2]
    · rw [h1] at hLe
      rw [if_pos rfl]
      have hS := ev_named (n + 1) S0 s p out hs (by omega) (by omega) hl
      obtain ⟨v, L2, e1, e2⟩ := ans_fin S0 s p out (namedR s p)
      simp only [e1] at hS ⊢
      generalize LSt S0 s p out = L at *
      simp (disch := first | (simp only [List.length_append, List.length_cons, List.length_nil]; omega) | (simp; done) | assumption) [↓evOp_build, ↓evOp_bslice, evB2_int, evB2_bool, evB2_str, evB2_eqi, evB2_nei, evB2_eqn, evB2_nen, evB2_peq, evB2_pne, evB2_req, evB2_rne, evB2_zeq, evB2_zne, isC_c, isC_t, evAssert, Bool.or_true, Bool.true_or, rhoP_nil, rhoP_cons, evCode_skip, evCode_region, evCode_draw, evCode_seq, evCode_cond, evCode_block, evCode_loop, evCode_exit, evCode_ret, seqK_ite, seqK_none, seqK_norm, seqK_ret, seqK_exit, seqK_pan, condK_true, condK_false, condK_bool, blockK_ite, blockK_none, blockK_norm, blockK_ret, blockK_exit, blockK_pan, stepK_ite, stepK_none, stepK_ok, stepK_pan, drawK_ite, drawK_none, drawK_ok, drawK_pan, opK_ite, opK_none, opK_val, opK_pan, wantK_true, wantK_false, wantK_some, afterRegion_ite, afterDraw_ite, fromBody_ite, ite_bool, ite_int, stepA_K, doOp, noOp, lexA_nil, lexA_cons, lexF_nil, lexF_cons, afterDraw, noClash, panIn, lostF, FP.clash, wantedA, evOp, rho, rhoL, ofC0, ofC, argsA, upd, afterRegion, putA, goOp, evBin_add, evBin_sub, evBin_mul, evBin_quo, evBin_rem, evBin_eql, evBin_neq, evBin_lss, evBin_leq, evBin_gtr, evBin_geq, evBin_eqlB, evBin_neqB, evBin_addS, evBin_eqlS, evBin_neqS, evBin_lssS, evBin_leqS, evUn, evConv, evIndex, evBuiltin, evLen, evMin2, evMax2, evCallee, evBox, evLoad, evStore, evFieldAddr, evField, evIndexAddr, evBuild, evBuildSlice, evElems, evSlice, nth, rdc, wrc, fromBody, resA, finRet, oneOf, AV.cells?, AV.isCell, fin_int, fin_bool, fin_str, -evIndex, Tryd.f24, E_esc, hL, hidx, tq61_0, tq61_1, tk61, k9, c9, a9, k3, c3, a3, sq9, bq3, bq5, hI, hx, hps1, hLe, hS, e2]
end Go.Proofs.YtemggoaefohliaaDoor.LX

/- The lexer: all words, evaluated. No condition. -/
namespace Go.Proofs.YtemggoaefohliaaDoor.LX
set_option linter.unusedVariables false
set_option linter.unusedSimpArgs false
open Go AE EX PT NF
set_option maxRecDepth 100000

theorem far_gt {s : List UInt8} {p : Nat} {c : UInt8} (hc : s[p]? = some c) (ht : tl c = true) : p < far s p := by
  unfold far
  have hp := (List.getElem?_eq_some_iff.1 hc).1
  have : s.drop p = c :: s.drop (p + 1) := by
    rw [List.drop_eq_getElem_cons hp]
    simp [(List.getElem?_eq_some_iff.1 hc).2]
  rw [this]
  simp [List.takeWhile, ht]
theorem sgL_len : ∀ q ∈ sgL, q.length = 2 := by simp [sgL]
theorem next_far {s : List UInt8} {p : Nat} {c : UInt8} {t : Tk} {to : Nat} (hc : s[p]? = some c) (h : nextR s p c = some (.word t to)) : p < to ∧ to ≤ s.length ∧ t.p = p := by
  have hp := (List.getElem?_eq_some_iff.1 hc).1
  unfold nextR at h
  split at h
  · cases h
  · rename_i hsp
    simp only [Option.some.injEq] at h
    split at h
    · rename_i hh
      unfold namedR at h
      split at h
      · cases h
      · cases h
        exact ⟨far_gt hc (by simp [tl, tailB, hh]), far_le (by omega), rfl⟩
    · split at h
      · rename_i hh
        unfold numberedR at h
        split at h
        · cases h
          exact ⟨far_gt hc (by simp only [digB] at hh; simp [tl, tailB, hh]), far_le (by omega), rfl⟩
        · cases h
      · split at h
        · unfold quotedR at h
          split at h
          · cases h
          · rename_i h34
            split at h
            · cases h
            · split at h
              · cases h
                obtain ⟨k, hk⟩ : ∃ k : Nat, Lib.indexByte (s.drop (p + 1)) 34 = (k : Int) := ⟨(Lib.indexByte (s.drop (p + 1)) 34).toNat, by omega⟩
                have hkl := indexByte_lt _ _ _ hk
                simp only [List.length_drop] at hkl
                rw [hk]
                simp only [Int.toNat_natCast]
                refine ⟨by omega, by omega, trivial⟩
              · cases h
        · unfold signedR at h
          split at h
          · rename_i q hq
            cases h
            have hm := List.mem_of_find?_eq_some hq
            have hpre := List.find?_some hq
            have h2 := sgL_len q hm
            simp only [pre, Bool.and_eq_true, decide_eq_true_eq, List.length_drop] at hpre
            exact ⟨by omega, by omega, rfl⟩
          · split at h
            · split at h
              · cases h
                exact ⟨by omega, by omega, rfl⟩
              · cases h
            · cases h

/-- all words from here on, by fuel; or an error's code and place -/
def lexF (s : List UInt8) : Nat → Nat → List Tk → Except (Int × Nat) (List Tk)
  | 0, p, out => .ok out
  | f + 1, p, out => match s[p]? with
    | none => .ok (out ++ [⟨5, [], 0, p⟩])
    | some c => match nextR s p c with
      | none => lexF s f (p + 1) out
      | some (.err e) => .error (e, p)
      | some (.word t to) => lexF s f to (out ++ [t])
def lexAll (s : List UInt8) : Except (Int × Nat) (List Tk) := if 4096 < s.length then .error (5, 0) else lexF s (s.length + 1) 0 []

noncomputable def alLoop : Code := cutC (bodyOf Tryd.f14) [1, 1, 1, 0, 0, 0]
noncomputable def al0 : Code := cutC (bodyOf Tryd.f14) [0]
noncomputable def al1 : Code := cutC (bodyOf Tryd.f14) [1, 0]
noncomputable def al2 : Code := cutC (bodyOf Tryd.f14) [1, 1, 0]
noncomputable def al3 : Code := cutC (bodyOf Tryd.f14) [1, 1, 1, 1]
theorem f14b : Tryd.f14.body = some (.seq al0 (.seq al1 (.seq al2 (.seq (.block 0 (.loop alLoop)) al3)))) := rfl
theorem esc14 (d : Nat) : E.esc 14 d = (d == 12) := by simp [E]

def ALI (S0 : St) (s : List UInt8) (R : Except (Int × Nat) (List Tk)) (m : Nat) (fs : FS) : Prop :=
  ∃ p out f, p + m = s.length ∧ out.length ≤ p ∧ m < f ∧ fs.t 0 = .str s ∧ fs.t 4 = .ptr S0.H.length 0 ∧ fs.S = LSt S0 s p out ∧ lexF s f p out = R
def ALQ (S0 : St) (s : List UInt8) (R : Except (Int × Nat) (List Tk)) (r : Out × FS) : Prop :=
  (r.1 = .exit 0 ∧ ∃ p out, out.length ≤ p ∧ p ≤ s.length ∧ r.2.t 4 = .ptr S0.H.length 0 ∧ r.2.S = LSt S0 s p out ∧ R = .ok (out ++ [⟨5, [], 0, p⟩])) ∨
  (r.1 = .ret ∧ ∃ p out c, r.2.t 2 = .slice [] .clip ∧ r.2.t 3 = errV S0 ∧ r.2.S = ErrSt S0 s p out c ∧ R = .error (c, p))

set_option maxHeartbeats 2000000 in
theorem al_round (n : Nat) (S0 : St) (s : List UInt8) (R : Except (Int × Nat) (List Tk)) (hs : s.length ≤ 1048576) (hn : s.length + 40 < n) (m : Nat) (fs : FS) (h : ALI S0 s R m fs) :
    ∃ o fs', evCode ⟨Tryd.prog, E.esc 14, n + 5⟩ (ev Tryd.prog E (n + 5)) (E.ps 14) (n + 5) alLoop fs = some (o, fs') ∧ ((o = .norm ∧ ∃ m', m' < m ∧ ALI S0 s R m' fs') ∨ (o ≠ .norm ∧ ALQ S0 s R (o, fs'))) := by
  obtain ⟨t, b, c, S⟩ := fs
  obtain ⟨p, out, f, hpm, hol, hmf, h0, h4, hS, hR⟩ := h
  simp only at h0 h4 hS
  subst hS
  obtain ⟨f, rfl⟩ : ∃ g, f = g + 1 := ⟨f - 1, by omega⟩
  have hL := LSt_get S0 s p out
  cases hc : s[p]? with
  | none =>
    have hge : s.length ≤ p := by simpa using hc
    have hlt : ¬ p < s.length := by omega
    have hltz : ¬ (p : Int) < s.length := by omega
    have hR' : R = .ok (out ++ [⟨5, [], 0, p⟩]) := by rw [← hR, lexF, hc]
    refine ⟨.exit 0, _, by
      simp (disch := first | (simp only [List.length_append, List.length_cons, List.length_nil]; omega) | (simp; done) | assumption) [↓evOp_build, ↓evOp_bslice, evB2_int, evB2_bool, evB2_str, evB2_eqi, evB2_nei, evB2_eqn, evB2_nen, evB2_peq, evB2_pne, evB2_req, evB2_rne, evB2_zeq, evB2_zne, isC_c, isC_t, evAssert, Bool.or_true, Bool.true_or, rhoP_nil, rhoP_cons, evCode_skip, evCode_region, evCode_draw, evCode_seq, evCode_cond, evCode_block, evCode_loop, evCode_exit, evCode_ret, seqK_ite, seqK_none, seqK_norm, seqK_ret, seqK_exit, seqK_pan, condK_true, condK_false, condK_bool, blockK_ite, blockK_none, blockK_norm, blockK_ret, blockK_exit, blockK_pan, stepK_ite, stepK_none, stepK_ok, stepK_pan, drawK_ite, drawK_none, drawK_ok, drawK_pan, opK_ite, opK_none, opK_val, opK_pan, wantK_true, wantK_false, wantK_some, afterRegion_ite, afterDraw_ite, fromBody_ite, ite_bool, ite_int, stepA_K, doOp, noOp, lexA_nil, lexA_cons, lexF_nil, lexF_cons, afterDraw, noClash, panIn, lostF, FP.clash, wantedA, evOp, rho, rhoL, ofC0, ofC, argsA, upd, afterRegion, putA, goOp, evBin_add, evBin_sub, evBin_mul, evBin_quo, evBin_rem, evBin_eql, evBin_neq, evBin_lss, evBin_leq, evBin_gtr, evBin_geq, evBin_eqlB, evBin_neqB, evBin_addS, evBin_eqlS, evBin_neqS, evBin_lssS, evBin_leqS, evUn, evConv, evIndex, evBuiltin, evLen, evMin2, evMax2, evCallee, evBox, evLoad, evStore, evFieldAddr, evField, evIndexAddr, evBuild, evBuildSlice, evElems, evSlice, nth, rdc, wrc, fromBody, resA, finRet, oneOf, AV.cells?, AV.isCell, fin_int, fin_bool, fin_str, alLoop, cutC, bodyOf, Tryd.f14, esc14, h0, h4, hL, tq61_1, tk61, k3, c3, a3, k9, sq9, bq3, hlt, hltz]
      rfl, .inr ⟨by simp, .inl ⟨rfl, p, out, hol, by omega, by simp [upd, putA, h4], rfl, hR'⟩⟩⟩
  | some c0 =>
    have hlt : p < s.length := (List.getElem?_eq_some_iff.1 hc).1
    have hltz : (p : Int) < s.length := by omega
    have hN := ev_next n S0 s p out c0 hc hs hn (by omega)
    rw [lexF, hc] at hR
    simp only at hR
    cases hx : nextR s p c0 with
    | none =>
      rw [hx] at hR hN
      simp only at hR hN
      refine ⟨.norm, ?_⟩
      have hS2 : (LSt S0 s (p + 1) out) = LSt S0 s (p + 1) out := rfl
      generalize hL2 : LSt S0 s (p + 1) out = L2 at hN
      generalize hL1 : LSt S0 s p out = L1 at *
      refine ⟨_, by
        simp (disch := first | (simp only [List.length_append, List.length_cons, List.length_nil]; omega) | (simp; done) | assumption) [↓evOp_build, ↓evOp_bslice, evB2_int, evB2_bool, evB2_str, evB2_eqi, evB2_nei, evB2_eqn, evB2_nen, evB2_peq, evB2_pne, evB2_req, evB2_rne, evB2_zeq, evB2_zne, isC_c, isC_t, evAssert, Bool.or_true, Bool.true_or, rhoP_nil, rhoP_cons, evCode_skip, evCode_region, evCode_draw, evCode_seq, evCode_cond, evCode_block, evCode_loop, evCode_exit, evCode_ret, seqK_ite, seqK_none, seqK_norm, seqK_ret, seqK_exit, seqK_pan, condK_true, condK_false, condK_bool, blockK_ite, blockK_none, blockK_norm, blockK_ret, blockK_exit, blockK_pan, stepK_ite, stepK_none, stepK_ok, stepK_pan, drawK_ite, drawK_none, drawK_ok, drawK_pan, opK_ite, opK_none, opK_val, opK_pan, wantK_true, wantK_false, wantK_some, afterRegion_ite, afterDraw_ite, fromBody_ite, ite_bool, ite_int, stepA_K, doOp, noOp, lexA_nil, lexA_cons, lexF_nil, lexF_cons, afterDraw, noClash, panIn, lostF, FP.clash, wantedA, evOp, rho, rhoL, ofC0, ofC, argsA, upd, afterRegion, putA, goOp, evBin_add, evBin_sub, evBin_mul, evBin_quo, evBin_rem, evBin_eql, evBin_neq, evBin_lss, evBin_leq, evBin_gtr, evBin_geq, evBin_eqlB, evBin_neqB, evBin_addS, evBin_eqlS, evBin_neqS, evBin_lssS, evBin_leqS, evUn, evConv, evIndex, evBuiltin, evLen, evMin2, evMax2, evCallee, evBox, evLoad, evStore, evFieldAddr, evField, evIndexAddr, evBuild, evBuildSlice, evElems, evSlice, nth, rdc, wrc, fromBody, resA, finRet, oneOf, AV.cells?, AV.isCell, fin_int, fin_bool, fin_str, alLoop, cutC, bodyOf, Tryd.f14, esc14, h0, h4, hL, tq61_1, tk61, k3, c3, a3, k9, sq9, bq3, tf27, hlt, hltz, hN]
        rfl, .inl ⟨rfl, m - 1, by omega, p + 1, out, f, by omega, by omega, by omega, by simp [upd, putA, h0], by simp [upd, putA, h4], hL2.symm, hR⟩⟩
    | some r =>
      rw [hx] at hR hN
      cases r with
      | err e =>
        simp only [ans_err] at hR hN
        refine ⟨.ret, ?_⟩
        generalize hL2 : ErrSt S0 s p out e = L2 at hN
        generalize hL1 : LSt S0 s p out = L1 at *
        obtain ⟨ea, eb, hev⟩ : ∃ ea eb, errV S0 = .iface ea (.ptr eb 0) := ⟨_, _, rfl⟩
        rw [hev] at hN
        refine ⟨_, by
          simp (disch := first | (simp only [List.length_append, List.length_cons, List.length_nil]; omega) | (simp; done) | assumption) [↓evOp_build, ↓evOp_bslice, evB2_int, evB2_bool, evB2_str, evB2_eqi, evB2_nei, evB2_eqn, evB2_nen, evB2_peq, evB2_pne, evB2_req, evB2_rne, evB2_zeq, evB2_zne, isC_c, isC_t, evAssert, Bool.or_true, Bool.true_or, rhoP_nil, rhoP_cons, evCode_skip, evCode_region, evCode_draw, evCode_seq, evCode_cond, evCode_block, evCode_loop, evCode_exit, evCode_ret, seqK_ite, seqK_none, seqK_norm, seqK_ret, seqK_exit, seqK_pan, condK_true, condK_false, condK_bool, blockK_ite, blockK_none, blockK_norm, blockK_ret, blockK_exit, blockK_pan, stepK_ite, stepK_none, stepK_ok, stepK_pan, drawK_ite, drawK_none, drawK_ok, drawK_pan, opK_ite, opK_none, opK_val, opK_pan, wantK_true, wantK_false, wantK_some, afterRegion_ite, afterDraw_ite, fromBody_ite, ite_bool, ite_int, stepA_K, doOp, noOp, lexA_nil, lexA_cons, lexF_nil, lexF_cons, afterDraw, noClash, panIn, lostF, FP.clash, wantedA, evOp, rho, rhoL, ofC0, ofC, argsA, upd, afterRegion, putA, goOp, evBin_add, evBin_sub, evBin_mul, evBin_quo, evBin_rem, evBin_eql, evBin_neq, evBin_lss, evBin_leq, evBin_gtr, evBin_geq, evBin_eqlB, evBin_neqB, evBin_addS, evBin_eqlS, evBin_neqS, evBin_lssS, evBin_leqS, evUn, evConv, evIndex, evBuiltin, evLen, evMin2, evMax2, evCallee, evBox, evLoad, evStore, evFieldAddr, evField, evIndexAddr, evBuild, evBuildSlice, evElems, evSlice, nth, rdc, wrc, fromBody, resA, finRet, oneOf, AV.cells?, AV.isCell, fin_int, fin_bool, fin_str, alLoop, cutC, bodyOf, Tryd.f14, esc14, h0, h4, hL, tq61_1, tk61, k3, c3, a3, k9, sq9, bq3, tf27, hlt, hltz, hN]
          rfl, .inr ⟨by simp, .inr ⟨rfl, p, out, e, by simp [upd, putA, rho, ofC, ofC0], by simp [upd, putA, rho, hev], hL2.symm, hR.symm⟩⟩⟩
      | word w to =>
        simp only [ans_word] at hR hN
        obtain ⟨g1, g2, g3⟩ := next_far hc hx
        refine ⟨.norm, ?_⟩
        generalize hL2 : LSt S0 s to (out ++ [w]) = L2 at hN
        generalize hL1 : LSt S0 s p out = L1 at *
        refine ⟨_, by
          simp (disch := first | (simp only [List.length_append, List.length_cons, List.length_nil]; omega) | (simp; done) | assumption) [↓evOp_build, ↓evOp_bslice, evB2_int, evB2_bool, evB2_str, evB2_eqi, evB2_nei, evB2_eqn, evB2_nen, evB2_peq, evB2_pne, evB2_req, evB2_rne, evB2_zeq, evB2_zne, isC_c, isC_t, evAssert, Bool.or_true, Bool.true_or, rhoP_nil, rhoP_cons, evCode_skip, evCode_region, evCode_draw, evCode_seq, evCode_cond, evCode_block, evCode_loop, evCode_exit, evCode_ret, seqK_ite, seqK_none, seqK_norm, seqK_ret, seqK_exit, seqK_pan, condK_true, condK_false, condK_bool, blockK_ite, blockK_none, blockK_norm, blockK_ret, blockK_exit, blockK_pan, stepK_ite, stepK_none, stepK_ok, stepK_pan, drawK_ite, drawK_none, drawK_ok, drawK_pan, opK_ite, opK_none, opK_val, opK_pan, wantK_true, wantK_false, wantK_some, afterRegion_ite, afterDraw_ite, fromBody_ite, ite_bool, ite_int, stepA_K, doOp, noOp, lexA_nil, lexA_cons, lexF_nil, lexF_cons, afterDraw, noClash, panIn, lostF, FP.clash, wantedA, evOp, rho, rhoL, ofC0, ofC, argsA, upd, afterRegion, putA, goOp, evBin_add, evBin_sub, evBin_mul, evBin_quo, evBin_rem, evBin_eql, evBin_neq, evBin_lss, evBin_leq, evBin_gtr, evBin_geq, evBin_eqlB, evBin_neqB, evBin_addS, evBin_eqlS, evBin_neqS, evBin_lssS, evBin_leqS, evUn, evConv, evIndex, evBuiltin, evLen, evMin2, evMax2, evCallee, evBox, evLoad, evStore, evFieldAddr, evField, evIndexAddr, evBuild, evBuildSlice, evElems, evSlice, nth, rdc, wrc, fromBody, resA, finRet, oneOf, AV.cells?, AV.isCell, fin_int, fin_bool, fin_str, alLoop, cutC, bodyOf, Tryd.f14, esc14, h0, h4, hL, tq61_1, tk61, k3, c3, a3, k9, sq9, bq3, tf27, hlt, hltz, hN]
          rfl, .inl ⟨rfl, s.length - to, by omega, to, out ++ [w], f, by omega, by simp; omega, by omega, by simp [upd, putA, h0], by simp [upd, putA, h4], hL2.symm, hR⟩⟩

theorem strip_tkL (t0 : Nat) : ∀ l : List Tk, AV.stripL t0 (tkL l) = tkL l
  | [] => rfl
  | t :: l => by
    have := strip_tkL t0 l
    simp only [tkL] at this
    simp [tkL, AV.stripL, Tk.emb, Tk.cells, AV.strip, this]
theorem low_tkL (h0 t0 : Nat) : ∀ l : List Tk, AV.lowL h0 t0 (tkL l) = true
  | [] => rfl
  | t :: l => by
    have := low_tkL h0 t0 l
    simp only [tkL] at this
    simp [tkL, AV.lowL, Tk.emb, Tk.cells, AV.low, this]
theorem sealed_tkL : ∀ l : List Tk, AV.sealedL (tkL l) = true
  | [] => rfl
  | t :: l => by
    have := sealed_tkL l
    simp only [tkL] at this
    simp [tkL, AV.sealedL, Tk.emb, Tk.cells, AV.sealed, this]
theorem fin_all (S0 : St) (s : List UInt8) (p : Nat) (out : List Tk) (t : Tk) : finish S0 (.tup [lv S0 (out ++ [t]), .nilif]) (LSt S0 s p (out ++ [t])) = some (.tup [.slice (tkL (out ++ [t])) .non, .nilif], S0) := by
  have hne : out ++ [t] ≠ [] := by simp
  unfold finish
  simp [lv, hne, AV.sealed, AV.sealedL, AV.strip, AV.stripL, AV.low, AV.lowL, sealed_tkL, strip_tkL, low_tkL, LSt, HS, boxEqL_refl]
theorem fin_hi {S S' : St} {id : Nat} (h : S.H.length ≤ id) (w : AV) (h1 : w.sealed = true) : finish S (.tup [w, .iface 55 (.ptr id 0)]) S' = some (.tup [w, .iface 55 (.ptr id 0)], S') := by
  unfold finish
  have : ¬ id < S.H.length := by omega
  simp [AV.sealed, AV.sealedL, AV.strip, AV.stripL, AV.low, AV.lowL, this, h1]

set_option maxHeartbeats 2000000 in
theorem ev_All (n : Nat) (S0 : St) (s : List UInt8) (hs : s.length ≤ 1048576) (hn : s.length + 40 < n) :
    (∀ l, lexAll s = .ok l → ev Tryd.prog E (n + 6) 14 [.str s] S0 = some (.ret (.tup [.slice (tkL l) .non, .nilif]), S0)) ∧
    (∀ c p, lexAll s = .error (c, p) → ∃ id S', S0.H.length ≤ id ∧ ev Tryd.prog E (n + 6) 14 [.str s] S0 = some (.ret (.tup [.slice [] .clip, .iface 55 (.ptr id 0)]), S') ∧ S'.H[id]? = some ⟨58, [.int .i64 c, .int .i64 (p : Int), .nilif]⟩ ∧ Grows S0 S') := by
  by_cases hlong : 4096 < s.length
  · have hlz : (4096 : Int) < s.length := by omega
    refine ⟨fun l h => by simp [lexAll, hlong] at h, fun c p h => ?_⟩
    simp [lexAll, hlong] at h
    obtain ⟨rfl, rfl⟩ := h
    have hE : ev Tryd.prog E (n + 5) 17 [.int .i64 5, .int .i64 0] S0 = _ := ev_New (n + 4) 5 0 S0
    have hid : S0.H.length ≤ S0.H.length := Nat.le_refl _
    have hg : (S0.H ++ [⟨58, [.int .i64 5, .int .i64 ((0 : Nat) : Int), .nilif]⟩])[S0.H.length]? = some (⟨58, [.int .i64 5, .int .i64 ((0 : Nat) : Int), .nilif]⟩ : HBox) := by simp
    refine ⟨S0.H.length, ⟨S0.H ++ [⟨58, [.int .i64 5, .int .i64 ((0 : Nat) : Int), .nilif]⟩], S0.T⟩, hid, ?_, hg, ⟨by simp, by simp⟩⟩
    have hf := fin_hi (S := S0) (S' := ⟨S0.H ++ [⟨58, [.int .i64 5, .int .i64 ((0 : Nat) : Int), .nilif]⟩], S0.T⟩) hid (.slice [] .clip) rfl
    simp only [Int.ofNat_zero, Int.natCast_zero] at hf hE ⊢
    generalize (⟨S0.H ++ [⟨58, [.int .i64 5, .int .i64 0, .nilif]⟩], S0.T⟩ : St) = L2 at *
    rw [show n + 6 = (n + 5) + 1 from rfl, ev_enter (n := n + 5) (show E.ok 14 = true from rfl) Tryd.func14 (fn := Tryd.f14) rfl (Nat.le_of_ble_eq_true rfl) (by decide +kernel)]
    simp (disch := first | (simp only [List.length_append, List.length_cons, List.length_nil]; omega) | (simp; done) | assumption) [↓evOp_build, ↓evOp_bslice, evB2_int, evB2_bool, evB2_str, evB2_eqi, evB2_nei, evB2_eqn, evB2_nen, evB2_peq, evB2_pne, evB2_req, evB2_rne, evB2_zeq, evB2_zne, isC_c, isC_t, evAssert, Bool.or_true, Bool.true_or, rhoP_nil, rhoP_cons, evCode_skip, evCode_region, evCode_draw, evCode_seq, evCode_cond, evCode_block, evCode_loop, evCode_exit, evCode_ret, seqK_ite, seqK_none, seqK_norm, seqK_ret, seqK_exit, seqK_pan, condK_true, condK_false, condK_bool, blockK_ite, blockK_none, blockK_norm, blockK_ret, blockK_exit, blockK_pan, stepK_ite, stepK_none, stepK_ok, stepK_pan, drawK_ite, drawK_none, drawK_ok, drawK_pan, opK_ite, opK_none, opK_val, opK_pan, wantK_true, wantK_false, wantK_some, afterRegion_ite, afterDraw_ite, fromBody_ite, ite_bool, ite_int, stepA_K, doOp, noOp, lexA_nil, lexA_cons, lexF_nil, lexF_cons, afterDraw, noClash, panIn, lostF, FP.clash, wantedA, evOp, rho, rhoL, ofC0, ofC, argsA, upd, afterRegion, putA, goOp, evBin_add, evBin_sub, evBin_mul, evBin_quo, evBin_rem, evBin_eql, evBin_neq, evBin_lss, evBin_leq, evBin_gtr, evBin_geq, evBin_eqlB, evBin_neqB, evBin_addS, evBin_eqlS, evBin_neqS, evBin_lssS, evBin_leqS, evUn, evConv, evIndex, evBuiltin, evLen, evMin2, evMax2, evCallee, evBox, evLoad, evStore, evFieldAddr, evField, evIndexAddr, evBuild, evBuildSlice, evElems, evSlice, nth, rdc, wrc, fromBody, resA, finRet, oneOf, AV.cells?, AV.isCell, fin_int, fin_bool, fin_str, Tryd.f14, esc14, k9, sq9, bq3, hlong, hlz, hE, hf, ofC]
  · have hlz : ¬ (4096 : Int) < s.length := by omega
    have hR : lexAll s = lexF s (s.length + 1) 0 [] := if_neg hlong
    rw [hR]
    generalize hRR : lexF s (s.length + 1) 0 [] = R
    have hL0 : (⟨S0.H ++ [⟨61, [.str s, .int .i64 0, .slice [] .clip]⟩], S0.T⟩ : St) = LSt S0 s 0 [] := by simp [LSt, HS, lv, lT, tkL]
    have hbd : evBuild Tryd.prog 61 [(0, .str s)] = some (.agg [.str s, .int .i64 0, .slice [] .clip]) := by simp [evBuild, tp61, tz61, fillA, tl61_0, AV.cells?, wrc]
    obtain ⟨fs1, e1, p1⟩ : ∃ fs', evCode ⟨Tryd.prog, E.esc 14, n + 5⟩ (ev Tryd.prog E (n + 5)) (E.ps 14) (n + 5) (.seq al0 (.seq al1 al2)) ⟨argsA [.str s], fun _ => (0, []), 0, S0⟩ = some (.norm, fs') ∧ ALI S0 s R s.length fs' := by
      refine ⟨_, by
        simp (disch := first | (simp only [List.length_append, List.length_cons, List.length_nil]; omega) | (simp; done) | assumption) [↓evOp_build, ↓evOp_bslice, evB2_int, evB2_bool, evB2_str, evB2_eqi, evB2_nei, evB2_eqn, evB2_nen, evB2_peq, evB2_pne, evB2_req, evB2_rne, evB2_zeq, evB2_zne, isC_c, isC_t, evAssert, Bool.or_true, Bool.true_or, rhoP_nil, rhoP_cons, evCode_skip, evCode_region, evCode_draw, evCode_seq, evCode_cond, evCode_block, evCode_loop, evCode_exit, evCode_ret, seqK_ite, seqK_none, seqK_norm, seqK_ret, seqK_exit, seqK_pan, condK_true, condK_false, condK_bool, blockK_ite, blockK_none, blockK_norm, blockK_ret, blockK_exit, blockK_pan, stepK_ite, stepK_none, stepK_ok, stepK_pan, drawK_ite, drawK_none, drawK_ok, drawK_pan, opK_ite, opK_none, opK_val, opK_pan, wantK_true, wantK_false, wantK_some, afterRegion_ite, afterDraw_ite, fromBody_ite, ite_bool, ite_int, stepA_K, doOp, noOp, lexA_nil, lexA_cons, lexF_nil, lexF_cons, afterDraw, noClash, panIn, lostF, FP.clash, wantedA, evOp, rho, rhoL, ofC0, ofC, argsA, upd, afterRegion, putA, goOp, evBin_add, evBin_sub, evBin_mul, evBin_quo, evBin_rem, evBin_eql, evBin_neq, evBin_lss, evBin_leq, evBin_gtr, evBin_geq, evBin_eqlB, evBin_neqB, evBin_addS, evBin_eqlS, evBin_neqS, evBin_lssS, evBin_leqS, evUn, evConv, evIndex, evBuiltin, evLen, evMin2, evMax2, evCallee, evBox, evLoad, evStore, evFieldAddr, evField, evIndexAddr, evBuild, evBuildSlice, evElems, evSlice, nth, rdc, wrc, fromBody, resA, finRet, oneOf, AV.cells?, AV.isCell, fin_int, fin_bool, fin_str, -evBuild, al0, al1, al2, cutC, bodyOf, Tryd.f14, esc14, k9, sq9, bq3, hlong, hlz, hbd, tn55, tc61, tk61, ta61, AV.sealed, AV.sealedL]
        rfl, 0, [], s.length + 1, by omega, by simp, by omega, by simp [upd, putA, argsA], by simp [upd, putA], hL0, hRR⟩
    obtain ⟨⟨o, fs2⟩, r1, r2⟩ := iter_meas (fun m' fs h => al_round n S0 s R hs hn m' fs h) s.length (n + 5) fs1 (by omega) p1
    have main : ∀ res, (match o with | .ret => fromBody Tryd.prog ⟨Tryd.prog, E.esc 14, n + 5⟩ S0 Tryd.f14.results.toList (some (.ret, fs2)) | _ => fromBody Tryd.prog ⟨Tryd.prog, E.esc 14, n + 5⟩ S0 Tryd.f14.results.toList (evCode ⟨Tryd.prog, E.esc 14, n + 5⟩ (ev Tryd.prog E (n + 5)) (E.ps 14) (n + 5) al3 fs2)) = res → (o = .ret ∨ o = .exit 0) → ev Tryd.prog E (n + 6) 14 [.str s] S0 = res := by
      intro res h ho
      rw [show n + 6 = (n + 5) + 1 from rfl, ev_enter (n := n + 5) (show E.ok 14 = true from rfl) Tryd.func14 f14b (Nat.le_of_ble_eq_true rfl) (by decide +kernel)]
      rw [evCode_assoc] at e1
      rw [evCode_assoc, evCode_assoc, evCode_seq, e1, seqK_norm, evCode_seq, evCode_block, evCode_loop, r1]
      rcases ho with rfl | rfl
      · rw [← h]; rfl
      · rw [blockK_exit, if_pos rfl, seqK_norm, ← h]
    obtain ⟨t, b, c, S⟩ := fs2
    rcases r2 with ⟨q1, p, out, q2, q3, q4, q5, q6⟩ | ⟨q1, p, out, c', q2, q3, q4, q5⟩
    · simp only at q1 q4 q5
      subst q1 q5 q6
      refine ⟨fun l hl => ?_, fun c p h => by cases h⟩
      cases hl
      refine main _ ?_ (.inr rfl)
      simp only
      clear main r1 e1 p1
      have hL := LSt_get S0 s p out
      have hP := ev_put (n + 4) S0 s p out ⟨5, [], 0, 0⟩ p (by omega)
      have hf := fin_all S0 s p out ⟨5, [], 0, p⟩
      have hL' := LSt_get S0 s p (out ++ [⟨5, [], 0, p⟩])
      have hbT : evBuild Tryd.prog 46 [(0, .int .i64 5)] = some (Tk.emb ⟨5, [], 0, 0⟩) := by
        have : Tk.emb ⟨5, [], 0, 0⟩ = .agg [.int .i64 5, .str [], .int .i64 0, .int .i64 0] := rfl
        rw [this]
        simp [evBuild, tp46, tz46, fillA, tl46_0, AV.cells?, wrc]
      have hcl : ∀ o, (lv S0 o).cells? = some [lv S0 o] := fun o => by unfold lv; split <;> rfl
      have hcl' : ∀ o, (lv S0 o).isCell = true := fun o => by unfold lv; split <;> rfl
      simp only at hP
      generalize LSt S0 s p (out ++ [⟨5, [], 0, p⟩]) = L2 at *
      generalize LSt S0 s p out = L1 at *
      have hcl1 := hcl (out ++ [⟨5, [], 0, p⟩])
      have hcl2 := hcl' (out ++ [⟨5, [], 0, p⟩])
      generalize lv S0 (out ++ [⟨5, [], 0, p⟩]) = l2 at *
      generalize tkL (out ++ [⟨5, [], 0, p⟩]) = tl2 at *
      generalize Tk.emb ⟨5, [], 0, 0⟩ = te at *
      simp (disch := first | (simp only [List.length_append, List.length_cons, List.length_nil]; omega) | (simp; done) | assumption) [↓evOp_build, ↓evOp_bslice, evB2_int, evB2_bool, evB2_str, evB2_eqi, evB2_nei, evB2_eqn, evB2_nen, evB2_peq, evB2_pne, evB2_req, evB2_rne, evB2_zeq, evB2_zne, isC_c, isC_t, evAssert, Bool.or_true, Bool.true_or, rhoP_nil, rhoP_cons, evCode_skip, evCode_region, evCode_draw, evCode_seq, evCode_cond, evCode_block, evCode_loop, evCode_exit, evCode_ret, seqK_ite, seqK_none, seqK_norm, seqK_ret, seqK_exit, seqK_pan, condK_true, condK_false, condK_bool, blockK_ite, blockK_none, blockK_norm, blockK_ret, blockK_exit, blockK_pan, stepK_ite, stepK_none, stepK_ok, stepK_pan, drawK_ite, drawK_none, drawK_ok, drawK_pan, opK_ite, opK_none, opK_val, opK_pan, wantK_true, wantK_false, wantK_some, afterRegion_ite, afterDraw_ite, fromBody_ite, ite_bool, ite_int, stepA_K, doOp, noOp, lexA_nil, lexA_cons, lexF_nil, lexF_cons, afterDraw, noClash, panIn, lostF, FP.clash, wantedA, evOp, rho, rhoL, ofC0, ofC, argsA, upd, afterRegion, putA, goOp, evBin_add, evBin_sub, evBin_mul, evBin_quo, evBin_rem, evBin_eql, evBin_neq, evBin_lss, evBin_leq, evBin_gtr, evBin_geq, evBin_eqlB, evBin_neqB, evBin_addS, evBin_eqlS, evBin_neqS, evBin_lssS, evBin_leqS, evUn, evConv, evIndex, evBuiltin, evLen, evMin2, evMax2, evCallee, evBox, evLoad, evStore, evFieldAddr, evField, evIndexAddr, evBuild, evBuildSlice, evElems, evSlice, nth, rdc, wrc, fromBody, resA, finRet, oneOf, AV.cells?, AV.isCell, fin_int, fin_bool, fin_str, -evBuild, al3, cutC, bodyOf, Tryd.f14, esc14, q4, hL, hL', tq61_1, tq61_2, tk61, k3, c3, a3, tk39, tc39, ta39, hbT, hP, hf, hcl1, hcl2]
    · simp only at q1 q2 q3 q4
      subst q1 q4 q5
      refine ⟨fun l hl => (by cases hl), fun c p h => ?_⟩
      cases h
      have hid : S0.H.length ≤ S0.H.length + 1 := by omega
      refine ⟨S0.H.length + 1, ErrSt S0 s p out c', hid, ?_, by simp [ErrSt, HS], ⟨by simp [ErrSt, HS], by simp [ErrSt]⟩⟩
      refine main _ ?_ (.inl rfl)
      simp only
      clear main r1 e1 p1
      have hf := fin_hi (S := S0) (S' := ErrSt S0 s p out c') hid (.slice [] .clip) rfl
      simp only [errV] at q3
      generalize ErrSt S0 s p out c' = L2 at *
      simp (disch := first | (simp only [List.length_append, List.length_cons, List.length_nil]; omega) | (simp; done) | assumption) [↓evOp_build, ↓evOp_bslice, evB2_int, evB2_bool, evB2_str, evB2_eqi, evB2_nei, evB2_eqn, evB2_nen, evB2_peq, evB2_pne, evB2_req, evB2_rne, evB2_zeq, evB2_zne, isC_c, isC_t, evAssert, Bool.or_true, Bool.true_or, rhoP_nil, rhoP_cons, evCode_skip, evCode_region, evCode_draw, evCode_seq, evCode_cond, evCode_block, evCode_loop, evCode_exit, evCode_ret, seqK_ite, seqK_none, seqK_norm, seqK_ret, seqK_exit, seqK_pan, condK_true, condK_false, condK_bool, blockK_ite, blockK_none, blockK_norm, blockK_ret, blockK_exit, blockK_pan, stepK_ite, stepK_none, stepK_ok, stepK_pan, drawK_ite, drawK_none, drawK_ok, drawK_pan, opK_ite, opK_none, opK_val, opK_pan, wantK_true, wantK_false, wantK_some, afterRegion_ite, afterDraw_ite, fromBody_ite, ite_bool, ite_int, stepA_K, doOp, noOp, lexA_nil, lexA_cons, lexF_nil, lexF_cons, afterDraw, noClash, panIn, lostF, FP.clash, wantedA, evOp, rho, rhoL, ofC0, ofC, argsA, upd, afterRegion, putA, goOp, evBin_add, evBin_sub, evBin_mul, evBin_quo, evBin_rem, evBin_eql, evBin_neq, evBin_lss, evBin_leq, evBin_gtr, evBin_geq, evBin_eqlB, evBin_neqB, evBin_addS, evBin_eqlS, evBin_neqS, evBin_lssS, evBin_leqS, evUn, evConv, evIndex, evBuiltin, evLen, evMin2, evMax2, evCallee, evBox, evLoad, evStore, evFieldAddr, evField, evIndexAddr, evBuild, evBuildSlice, evElems, evSlice, nth, rdc, wrc, fromBody, resA, finRet, oneOf, AV.cells?, AV.isCell, fin_int, fin_bool, fin_str, Tryd.f14, q2, q3, hf]
end Go.Proofs.YtemggoaefohliaaDoor.LX

