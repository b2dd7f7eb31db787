/- Sets that may be, evaluated. No condition. -/
import Derived.Test.YtemggoaefohliaaPtM
namespace Go.Proofs.Ytemggoaefohliaa.PT
set_option linter.unusedVariables false
set_option linter.unusedSimpArgs false
open Go AE EX
set_option maxRecDepth 100000

noncomputable def sLoop : Code := cutC (bodyOf Try.f35) [1, 1, 0, 1, 0, 0]
noncomputable def sl0 : Code := cutC (bodyOf Try.f35) [0]
noncomputable def sl1 : Code := cutC (bodyOf Try.f35) [1, 0]
noncomputable def sl2 : Code := cutC (bodyOf Try.f35) [1, 1, 0, 0]
noncomputable def sl3 : Code := cutC (bodyOf Try.f35) [1, 1, 1]
theorem f35b : Try.f35.body = some (.seq sl0 (.seq sl1 (.seq (.seq sl2 (.block 0 (.loop sLoop))) sl3))) := rfl

def SetKid (x : X) : Prop := ∃ nm tk, x = .mk 3 nm 0 0 0 tk [] ∧ plainB nm = true

def SI (n : Nat) (C : List AV) (kids : List X) (S0 : St) (m : Nat) (fs : FS) : Prop :=
  ∃ i, i + m = kids.length ∧ fs.t 1 = .loc n 1 1 0 ∧ fs.b 1 = (1, C) ∧ fs.t 3 = .int .i64 i ∧ fs.S = S0 ∧ ∀ x ∈ kids.take i, SetKid x
def SQ (kids : List X) (S0 : St) (r : Out × FS) : Prop :=
  r.2.S = S0 ∧ ((r.1 = .exit 0 ∧ ∀ x ∈ kids, SetKid x) ∨ (r.1 = .ret ∧ r.2.t 2 = .bool false))

set_option maxHeartbeats 4000000 in
theorem set_round (n : Nat) (hn : 40 ≤ n) (c0 c1' c2' c3' c4' : AV) (tk : Bool) (kids : List X) (S0 : St) (hs : kids.length ≤ 8) (m : Nat) (fs : FS) (h : SI n [c0, c1', c2', c3', c4', .slice (embL kids) (tokOf tk)] kids S0 m fs) :
    ∃ o fs', evCode ⟨Try.prog, E.esc 35, n⟩ (ev Try.prog E n) (E.ps 35) n sLoop fs = some (o, fs') ∧
      ((o = .norm ∧ ∃ m', m' < m ∧ SI n [c0, c1', c2', c3', c4', .slice (embL kids) (tokOf tk)] kids S0 m' fs') ∨ (o ≠ .norm ∧ SQ kids S0 (o, fs'))) := by
  obtain ⟨t, b, v, S⟩ := fs
  obtain ⟨i, hi, h1, h2, h3, h4, h5⟩ := h
  simp only at h1 h2 h3 h4
  subst h4
  have hlen : (embL kids).length = kids.length := by rw [embL_map]; simp
  cases m with
  | zero =>
    have hi : i = kids.length := by omega
    subst hi
    refine ⟨.exit 0, _, by
      simp (disch := first | (simp only [List.length_append, List.length_cons, List.length_nil]; omega) | (simp; done) | assumption) [evCode_skip, evCode_region, evCode_draw, evCode_seq, evCode_cond, evCode_block, evCode_loop, evCode_exit, evCode_ret, seqK_ite, seqK_none, seqK_norm, seqK_ret, seqK_exit, seqK_pan, condK_true, condK_false, condK_bool, blockK_ite, blockK_none, blockK_norm, blockK_ret, blockK_exit, blockK_pan, stepK_ite, stepK_none, stepK_ok, stepK_pan, drawK_ite, drawK_none, drawK_ok, drawK_pan, opK_ite, opK_none, opK_val, opK_pan, wantK_true, wantK_false, wantK_some, afterRegion_ite, afterDraw_ite, fromBody_ite, ite_bool, ite_int, stepA_K, doOp, noOp, lexA_nil, lexA_cons, lexF_nil, lexF_cons, afterDraw, noClash, FP.clash, wantedA, evOp, rho, rhoL, ofC0, ofC, argsA, upd, afterRegion, putA, goOp, evBin_add, evBin_sub, evBin_mul, evBin_quo, evBin_rem, evBin_eql, evBin_neq, evBin_lss, evBin_leq, evBin_gtr, evBin_geq, evBin_eqlB, evBin_neqB, evBin_addS, evBin_eqlS, evBin_neqS, evBin_lssS, evBin_leqS, evUn, evConv, evIndex, evBuiltin, evLen, evMin2, evMax2, evCallee, evBox, evLoad, evStore, evFieldAddr, evField, evIndexAddr, evBuild, evBuildSlice, evElems, evSlice, nth, rdc, wrc, fromBody, resA, finRet, oneOf, AV.cells?, AV.isCell, fin_int, fin_bool, fin_str, sLoop, cutC, bodyOf, Try.f35, h1, h2, h3, fq5, k22, c22, a22, sq22, bq3, hlen]
      rfl, .inr ⟨by simp, rfl, .inl ⟨rfl, by simpa using h5⟩⟩⟩
  | succ m =>
    have hlt : i < kids.length := by omega
    have hltz : (i : Int) < kids.length := by omega
    have hxe : kids[i]? = some kids[i] := List.getElem?_eq_getElem hlt
    have htake : kids.take (i + 1) = kids.take i ++ [kids[i]] := by rw [List.take_add_one, hxe]; rfl
    have hemb : (embL kids)[i]? = some kids[i].emb := by rw [embL_map, List.getElem?_map, hxe]; rfl
    have hw : IntKind.i64.wrap ((i : Int) + 1) = (i : Int) + 1 := wrap64 _ (by omega)
    have hp := ev_Plain (n - 1) (by omega)
    rw [show n - 1 + 1 = n by omega] at hp
    have hps : E.ps 35 9 = [(4, 6), (4, 11)] := rfl
    obtain ⟨z, hz⟩ := ii24
    generalize kids[i] = x at *
    obtain ⟨k, nm, a, lo, hi', tk', ks⟩ := x
    have hp := hp nm S
    have hks : ((embL ks).length : Int) = ks.length := by rw [embL_map]; simp
    have hks' : (embL ks).length = ks.length := by rw [embL_map]; simp
    simp only [X.emb] at hemb
    cases g0 : (k == 3)
    · refine ⟨.ret, _, by
        simp (disch := first | (simp only [List.length_append, List.length_cons, List.length_nil]; omega) | (simp; done) | assumption) [evCode_skip, evCode_region, evCode_draw, evCode_seq, evCode_cond, evCode_block, evCode_loop, evCode_exit, evCode_ret, seqK_ite, seqK_none, seqK_norm, seqK_ret, seqK_exit, seqK_pan, condK_true, condK_false, condK_bool, blockK_ite, blockK_none, blockK_norm, blockK_ret, blockK_exit, blockK_pan, stepK_ite, stepK_none, stepK_ok, stepK_pan, drawK_ite, drawK_none, drawK_ok, drawK_pan, opK_ite, opK_none, opK_val, opK_pan, wantK_true, wantK_false, wantK_some, afterRegion_ite, afterDraw_ite, fromBody_ite, ite_bool, ite_int, stepA_K, doOp, noOp, lexA_nil, lexA_cons, lexF_nil, lexF_cons, afterDraw, noClash, FP.clash, wantedA, evOp, rho, rhoL, ofC0, ofC, argsA, upd, afterRegion, putA, goOp, evBin_add, evBin_sub, evBin_mul, evBin_quo, evBin_rem, evBin_eql, evBin_neq, evBin_lss, evBin_leq, evBin_gtr, evBin_geq, evBin_eqlB, evBin_neqB, evBin_addS, evBin_eqlS, evBin_neqS, evBin_lssS, evBin_leqS, evUn, evConv, evIndex, evBuiltin, evLen, evMin2, evMax2, evCallee, evBox, evLoad, evStore, evFieldAddr, evField, evIndexAddr, evBuild, evBuildSlice, evElems, evSlice, nth, rdc, wrc, fromBody, resA, finRet, oneOf, AV.cells?, AV.isCell, fin_int, fin_bool, fin_str, sLoop, cutC, bodyOf, Try.f35, E_esc, h1, h2, h3, fq0, fq1, fq2, fq3, fq4, fq5, k22, c22, a22, k24, c24, a24, k3, c3, a3, k2, c2, a2, k9, c9, a9, z24, i24, hz, sq22, bq3, bq2, hlen, hlt, hltz, hemb, bne, g0]
        rfl, .inr ⟨by simp, rfl, .inr ⟨rfl, by simp [upd]⟩⟩⟩
    cases g1 : decide ((0 : Int) < ks.length)
    rotate_left 1
    · have g1' : 0 < ks.length := by simpa using g1
      refine ⟨.ret, _, by
        simp (disch := first | (simp only [List.length_append, List.length_cons, List.length_nil]; omega) | (simp; done) | assumption) [evCode_skip, evCode_region, evCode_draw, evCode_seq, evCode_cond, evCode_block, evCode_loop, evCode_exit, evCode_ret, seqK_ite, seqK_none, seqK_norm, seqK_ret, seqK_exit, seqK_pan, condK_true, condK_false, condK_bool, blockK_ite, blockK_none, blockK_norm, blockK_ret, blockK_exit, blockK_pan, stepK_ite, stepK_none, stepK_ok, stepK_pan, drawK_ite, drawK_none, drawK_ok, drawK_pan, opK_ite, opK_none, opK_val, opK_pan, wantK_true, wantK_false, wantK_some, afterRegion_ite, afterDraw_ite, fromBody_ite, ite_bool, ite_int, stepA_K, doOp, noOp, lexA_nil, lexA_cons, lexF_nil, lexF_cons, afterDraw, noClash, FP.clash, wantedA, evOp, rho, rhoL, ofC0, ofC, argsA, upd, afterRegion, putA, goOp, evBin_add, evBin_sub, evBin_mul, evBin_quo, evBin_rem, evBin_eql, evBin_neq, evBin_lss, evBin_leq, evBin_gtr, evBin_geq, evBin_eqlB, evBin_neqB, evBin_addS, evBin_eqlS, evBin_neqS, evBin_lssS, evBin_leqS, evUn, evConv, evIndex, evBuiltin, evLen, evMin2, evMax2, evCallee, evBox, evLoad, evStore, evFieldAddr, evField, evIndexAddr, evBuild, evBuildSlice, evElems, evSlice, nth, rdc, wrc, fromBody, resA, finRet, oneOf, AV.cells?, AV.isCell, fin_int, fin_bool, fin_str, sLoop, cutC, bodyOf, Try.f35, E_esc, h1, h2, h3, fq0, fq1, fq2, fq3, fq4, fq5, k22, c22, a22, k24, c24, a24, k3, c3, a3, k2, c2, a2, k9, c9, a9, z24, i24, hz, sq22, bq3, bq2, hlen, hlt, hltz, hemb, bne, g0, hks, hks', g1']
        rfl, .inr ⟨by simp, rfl, .inr ⟨rfl, by simp [upd]⟩⟩⟩
    have g1' : ks = [] := by
      cases ks with
      | nil => rfl
      | cons y l => simp at g1
    subst g1'
    simp only [embL] at hemb
    cases g2 : (a == 0)
    · refine ⟨.ret, _, by
        simp (disch := first | (simp only [List.length_append, List.length_cons, List.length_nil]; omega) | (simp; done) | assumption) [evCode_skip, evCode_region, evCode_draw, evCode_seq, evCode_cond, evCode_block, evCode_loop, evCode_exit, evCode_ret, seqK_ite, seqK_none, seqK_norm, seqK_ret, seqK_exit, seqK_pan, condK_true, condK_false, condK_bool, blockK_ite, blockK_none, blockK_norm, blockK_ret, blockK_exit, blockK_pan, stepK_ite, stepK_none, stepK_ok, stepK_pan, drawK_ite, drawK_none, drawK_ok, drawK_pan, opK_ite, opK_none, opK_val, opK_pan, wantK_true, wantK_false, wantK_some, afterRegion_ite, afterDraw_ite, fromBody_ite, ite_bool, ite_int, stepA_K, doOp, noOp, lexA_nil, lexA_cons, lexF_nil, lexF_cons, afterDraw, noClash, FP.clash, wantedA, evOp, rho, rhoL, ofC0, ofC, argsA, upd, afterRegion, putA, goOp, evBin_add, evBin_sub, evBin_mul, evBin_quo, evBin_rem, evBin_eql, evBin_neq, evBin_lss, evBin_leq, evBin_gtr, evBin_geq, evBin_eqlB, evBin_neqB, evBin_addS, evBin_eqlS, evBin_neqS, evBin_lssS, evBin_leqS, evUn, evConv, evIndex, evBuiltin, evLen, evMin2, evMax2, evCallee, evBox, evLoad, evStore, evFieldAddr, evField, evIndexAddr, evBuild, evBuildSlice, evElems, evSlice, nth, rdc, wrc, fromBody, resA, finRet, oneOf, AV.cells?, AV.isCell, fin_int, fin_bool, fin_str, sLoop, cutC, bodyOf, Try.f35, E_esc, h1, h2, h3, fq0, fq1, fq2, fq3, fq4, fq5, k22, c22, a22, k24, c24, a24, k3, c3, a3, k2, c2, a2, k9, c9, a9, z24, i24, hz, sq22, bq3, bq2, hlen, hlt, hltz, hemb, bne, g0, g2]
        rfl, .inr ⟨by simp, rfl, .inr ⟨rfl, by simp [upd]⟩⟩⟩
    cases g3 : (lo == 0)
    · refine ⟨.ret, _, by
        simp (disch := first | (simp only [List.length_append, List.length_cons, List.length_nil]; omega) | (simp; done) | assumption) [evCode_skip, evCode_region, evCode_draw, evCode_seq, evCode_cond, evCode_block, evCode_loop, evCode_exit, evCode_ret, seqK_ite, seqK_none, seqK_norm, seqK_ret, seqK_exit, seqK_pan, condK_true, condK_false, condK_bool, blockK_ite, blockK_none, blockK_norm, blockK_ret, blockK_exit, blockK_pan, stepK_ite, stepK_none, stepK_ok, stepK_pan, drawK_ite, drawK_none, drawK_ok, drawK_pan, opK_ite, opK_none, opK_val, opK_pan, wantK_true, wantK_false, wantK_some, afterRegion_ite, afterDraw_ite, fromBody_ite, ite_bool, ite_int, stepA_K, doOp, noOp, lexA_nil, lexA_cons, lexF_nil, lexF_cons, afterDraw, noClash, FP.clash, wantedA, evOp, rho, rhoL, ofC0, ofC, argsA, upd, afterRegion, putA, goOp, evBin_add, evBin_sub, evBin_mul, evBin_quo, evBin_rem, evBin_eql, evBin_neq, evBin_lss, evBin_leq, evBin_gtr, evBin_geq, evBin_eqlB, evBin_neqB, evBin_addS, evBin_eqlS, evBin_neqS, evBin_lssS, evBin_leqS, evUn, evConv, evIndex, evBuiltin, evLen, evMin2, evMax2, evCallee, evBox, evLoad, evStore, evFieldAddr, evField, evIndexAddr, evBuild, evBuildSlice, evElems, evSlice, nth, rdc, wrc, fromBody, resA, finRet, oneOf, AV.cells?, AV.isCell, fin_int, fin_bool, fin_str, sLoop, cutC, bodyOf, Try.f35, E_esc, h1, h2, h3, fq0, fq1, fq2, fq3, fq4, fq5, k22, c22, a22, k24, c24, a24, k3, c3, a3, k2, c2, a2, k9, c9, a9, z24, i24, hz, sq22, bq3, bq2, hlen, hlt, hltz, hemb, bne, g0, g2, g3]
        rfl, .inr ⟨by simp, rfl, .inr ⟨rfl, by simp [upd]⟩⟩⟩
    cases g4 : (hi' == 0)
    · refine ⟨.ret, _, by
        simp (disch := first | (simp only [List.length_append, List.length_cons, List.length_nil]; omega) | (simp; done) | assumption) [evCode_skip, evCode_region, evCode_draw, evCode_seq, evCode_cond, evCode_block, evCode_loop, evCode_exit, evCode_ret, seqK_ite, seqK_none, seqK_norm, seqK_ret, seqK_exit, seqK_pan, condK_true, condK_false, condK_bool, blockK_ite, blockK_none, blockK_norm, blockK_ret, blockK_exit, blockK_pan, stepK_ite, stepK_none, stepK_ok, stepK_pan, drawK_ite, drawK_none, drawK_ok, drawK_pan, opK_ite, opK_none, opK_val, opK_pan, wantK_true, wantK_false, wantK_some, afterRegion_ite, afterDraw_ite, fromBody_ite, ite_bool, ite_int, stepA_K, doOp, noOp, lexA_nil, lexA_cons, lexF_nil, lexF_cons, afterDraw, noClash, FP.clash, wantedA, evOp, rho, rhoL, ofC0, ofC, argsA, upd, afterRegion, putA, goOp, evBin_add, evBin_sub, evBin_mul, evBin_quo, evBin_rem, evBin_eql, evBin_neq, evBin_lss, evBin_leq, evBin_gtr, evBin_geq, evBin_eqlB, evBin_neqB, evBin_addS, evBin_eqlS, evBin_neqS, evBin_lssS, evBin_leqS, evUn, evConv, evIndex, evBuiltin, evLen, evMin2, evMax2, evCallee, evBox, evLoad, evStore, evFieldAddr, evField, evIndexAddr, evBuild, evBuildSlice, evElems, evSlice, nth, rdc, wrc, fromBody, resA, finRet, oneOf, AV.cells?, AV.isCell, fin_int, fin_bool, fin_str, sLoop, cutC, bodyOf, Try.f35, E_esc, h1, h2, h3, fq0, fq1, fq2, fq3, fq4, fq5, k22, c22, a22, k24, c24, a24, k3, c3, a3, k2, c2, a2, k9, c9, a9, z24, i24, hz, sq22, bq3, bq2, hlen, hlt, hltz, hemb, bne, g0, g2, g3, g4]
        rfl, .inr ⟨by simp, rfl, .inr ⟨rfl, by simp [upd]⟩⟩⟩
    cases g5 : plainB nm
    · rw [g5] at hp
      refine ⟨.ret, _, by
        simp (disch := first | (simp only [List.length_append, List.length_cons, List.length_nil]; omega) | (simp; done) | assumption) [evCode_skip, evCode_region, evCode_draw, evCode_seq, evCode_cond, evCode_block, evCode_loop, evCode_exit, evCode_ret, seqK_ite, seqK_none, seqK_norm, seqK_ret, seqK_exit, seqK_pan, condK_true, condK_false, condK_bool, blockK_ite, blockK_none, blockK_norm, blockK_ret, blockK_exit, blockK_pan, stepK_ite, stepK_none, stepK_ok, stepK_pan, drawK_ite, drawK_none, drawK_ok, drawK_pan, opK_ite, opK_none, opK_val, opK_pan, wantK_true, wantK_false, wantK_some, afterRegion_ite, afterDraw_ite, fromBody_ite, ite_bool, ite_int, stepA_K, doOp, noOp, lexA_nil, lexA_cons, lexF_nil, lexF_cons, afterDraw, noClash, FP.clash, wantedA, evOp, rho, rhoL, ofC0, ofC, argsA, upd, afterRegion, putA, goOp, evBin_add, evBin_sub, evBin_mul, evBin_quo, evBin_rem, evBin_eql, evBin_neq, evBin_lss, evBin_leq, evBin_gtr, evBin_geq, evBin_eqlB, evBin_neqB, evBin_addS, evBin_eqlS, evBin_neqS, evBin_lssS, evBin_leqS, evUn, evConv, evIndex, evBuiltin, evLen, evMin2, evMax2, evCallee, evBox, evLoad, evStore, evFieldAddr, evField, evIndexAddr, evBuild, evBuildSlice, evElems, evSlice, nth, rdc, wrc, fromBody, resA, finRet, oneOf, AV.cells?, AV.isCell, fin_int, fin_bool, fin_str, sLoop, cutC, bodyOf, Try.f35, E_esc, h1, h2, h3, fq0, fq1, fq2, fq3, fq4, fq5, k22, c22, a22, k24, c24, a24, k3, c3, a3, k2, c2, a2, k9, c9, a9, z24, i24, hz, sq22, bq3, bq2, hlen, hlt, hltz, hemb, bne, g0, g2, g3, g4, hp]
        rfl, .inr ⟨by simp, rfl, .inr ⟨rfl, by simp [upd]⟩⟩⟩
    rw [g5] at hp
    have e0 : k = 3 := by simpa using g0
    have e2 : a = 0 := by simpa using g2
    have e3 : lo = 0 := by simpa using g3
    have e4 : hi' = 0 := by simpa using g4
    subst e0 e2 e3 e4
    have good : ∀ y ∈ kids.take (i + 1), SetKid y := fun y hy => by
      rw [htake] at hy
      rcases List.mem_append.1 hy with hy | hy
      · exact h5 y hy
      · simp at hy; subst hy; exact ⟨nm, tk', rfl, g5⟩
    by_cases h0 : i = 0
    · subst h0
      refine ⟨.norm, _, by
        simp (disch := first | (simp only [List.length_append, List.length_cons, List.length_nil]; omega) | (simp; done) | assumption) [evCode_skip, evCode_region, evCode_draw, evCode_seq, evCode_cond, evCode_block, evCode_loop, evCode_exit, evCode_ret, seqK_ite, seqK_none, seqK_norm, seqK_ret, seqK_exit, seqK_pan, condK_true, condK_false, condK_bool, blockK_ite, blockK_none, blockK_norm, blockK_ret, blockK_exit, blockK_pan, stepK_ite, stepK_none, stepK_ok, stepK_pan, drawK_ite, drawK_none, drawK_ok, drawK_pan, opK_ite, opK_none, opK_val, opK_pan, wantK_true, wantK_false, wantK_some, afterRegion_ite, afterDraw_ite, fromBody_ite, ite_bool, ite_int, stepA_K, doOp, noOp, lexA_nil, lexA_cons, lexF_nil, lexF_cons, afterDraw, noClash, FP.clash, wantedA, evOp, rho, rhoL, ofC0, ofC, argsA, upd, afterRegion, putA, goOp, evBin_add, evBin_sub, evBin_mul, evBin_quo, evBin_rem, evBin_eql, evBin_neq, evBin_lss, evBin_leq, evBin_gtr, evBin_geq, evBin_eqlB, evBin_neqB, evBin_addS, evBin_eqlS, evBin_neqS, evBin_lssS, evBin_leqS, evUn, evConv, evIndex, evBuiltin, evLen, evMin2, evMax2, evCallee, evBox, evLoad, evStore, evFieldAddr, evField, evIndexAddr, evBuild, evBuildSlice, evElems, evSlice, nth, rdc, wrc, fromBody, resA, finRet, oneOf, AV.cells?, AV.isCell, fin_int, fin_bool, fin_str, sLoop, cutC, bodyOf, Try.f35, E_esc, h1, h2, h3, fq0, fq1, fq2, fq3, fq4, fq5, k22, c22, a22, k24, c24, a24, k3, c3, a3, k2, c2, a2, k9, c9, a9, z24, i24, hz, sq22, bq3, bq2, bq9, hlen, hlt, hltz, hemb, bne, hp, hps]
        rfl, .inl ⟨rfl, m, by omega, 1, by omega, by simp [upd, h1], by simp [upd, h2], by simp [upd, wrap64 1 (by omega)], rfl, good⟩⟩
    · have hpos : (0 : Int) < i := by omega
      have hpos' : 0 < i := by omega
      have hw2 : IntKind.i64.wrap ((i : Int) - 1) = ((i - 1 : Nat) : Int) := by rw [wrap64 _ (by omega)]; omega
      have hye : kids[i - 1]? = some kids[i - 1] := List.getElem?_eq_getElem (by omega)
      have hemb2 : (embL kids)[i - 1]? = some kids[i - 1].emb := by rw [embL_map, List.getElem?_map, hye]; rfl
      generalize kids[i - 1] = y at *
      obtain ⟨kk, nm2, aa, lo2, hi2, tk2, ks2⟩ := y
      simp only [X.emb] at hemb2
      cases g6 : (Op.bytesLess nm nm2 || nm == nm2)
      · refine ⟨.norm, _, by
          simp (disch := first | (simp only [List.length_append, List.length_cons, List.length_nil]; omega) | (simp; done) | assumption) [evCode_skip, evCode_region, evCode_draw, evCode_seq, evCode_cond, evCode_block, evCode_loop, evCode_exit, evCode_ret, seqK_ite, seqK_none, seqK_norm, seqK_ret, seqK_exit, seqK_pan, condK_true, condK_false, condK_bool, blockK_ite, blockK_none, blockK_norm, blockK_ret, blockK_exit, blockK_pan, stepK_ite, stepK_none, stepK_ok, stepK_pan, drawK_ite, drawK_none, drawK_ok, drawK_pan, opK_ite, opK_none, opK_val, opK_pan, wantK_true, wantK_false, wantK_some, afterRegion_ite, afterDraw_ite, fromBody_ite, ite_bool, ite_int, stepA_K, doOp, noOp, lexA_nil, lexA_cons, lexF_nil, lexF_cons, afterDraw, noClash, FP.clash, wantedA, evOp, rho, rhoL, ofC0, ofC, argsA, upd, afterRegion, putA, goOp, evBin_add, evBin_sub, evBin_mul, evBin_quo, evBin_rem, evBin_eql, evBin_neq, evBin_lss, evBin_leq, evBin_gtr, evBin_geq, evBin_eqlB, evBin_neqB, evBin_addS, evBin_eqlS, evBin_neqS, evBin_lssS, evBin_leqS, evUn, evConv, evIndex, evBuiltin, evLen, evMin2, evMax2, evCallee, evBox, evLoad, evStore, evFieldAddr, evField, evIndexAddr, evBuild, evBuildSlice, evElems, evSlice, nth, rdc, wrc, fromBody, resA, finRet, oneOf, AV.cells?, AV.isCell, fin_int, fin_bool, fin_str, sLoop, cutC, bodyOf, Try.f35, E_esc, h1, h2, h3, fq0, fq1, fq2, fq3, fq4, fq5, k22, c22, a22, k24, c24, a24, k3, c3, a3, k2, c2, a2, k9, c9, a9, z24, i24, hz, sq22, bq3, bq2, bq9, hlen, hlt, hltz, hemb, bne, hp, hps, hpos, hpos', hw2, hemb2, g6, -Bool.or_eq_true, -Bool.or_eq_false_iff]
          rfl, .inl ⟨rfl, m, by omega, i + 1, by omega, by simp [upd, h1], by simp [upd, h2], by simp [upd, hw], rfl, good⟩⟩
      · refine ⟨.ret, _, by
          simp (disch := first | (simp only [List.length_append, List.length_cons, List.length_nil]; omega) | (simp; done) | assumption) [evCode_skip, evCode_region, evCode_draw, evCode_seq, evCode_cond, evCode_block, evCode_loop, evCode_exit, evCode_ret, seqK_ite, seqK_none, seqK_norm, seqK_ret, seqK_exit, seqK_pan, condK_true, condK_false, condK_bool, blockK_ite, blockK_none, blockK_norm, blockK_ret, blockK_exit, blockK_pan, stepK_ite, stepK_none, stepK_ok, stepK_pan, drawK_ite, drawK_none, drawK_ok, drawK_pan, opK_ite, opK_none, opK_val, opK_pan, wantK_true, wantK_false, wantK_some, afterRegion_ite, afterDraw_ite, fromBody_ite, ite_bool, ite_int, stepA_K, doOp, noOp, lexA_nil, lexA_cons, lexF_nil, lexF_cons, afterDraw, noClash, FP.clash, wantedA, evOp, rho, rhoL, ofC0, ofC, argsA, upd, afterRegion, putA, goOp, evBin_add, evBin_sub, evBin_mul, evBin_quo, evBin_rem, evBin_eql, evBin_neq, evBin_lss, evBin_leq, evBin_gtr, evBin_geq, evBin_eqlB, evBin_neqB, evBin_addS, evBin_eqlS, evBin_neqS, evBin_lssS, evBin_leqS, evUn, evConv, evIndex, evBuiltin, evLen, evMin2, evMax2, evCallee, evBox, evLoad, evStore, evFieldAddr, evField, evIndexAddr, evBuild, evBuildSlice, evElems, evSlice, nth, rdc, wrc, fromBody, resA, finRet, oneOf, AV.cells?, AV.isCell, fin_int, fin_bool, fin_str, sLoop, cutC, bodyOf, Try.f35, E_esc, h1, h2, h3, fq0, fq1, fq2, fq3, fq4, fq5, k22, c22, a22, k24, c24, a24, k3, c3, a3, k2, c2, a2, k9, c9, a9, z24, i24, hz, sq22, bq3, bq2, bq9, hlen, hlt, hltz, hemb, bne, hp, hps, hpos, hpos', hw2, hemb2, g6, -Bool.or_eq_true, -Bool.or_eq_false_iff]
          rfl, .inr ⟨by simp, rfl, .inr ⟨rfl, by simp [upd]⟩⟩⟩
end Go.Proofs.Ytemggoaefohliaa.PT
