/- Whether an expression may be, evaluated (2). No condition. -/
import Derived.Test.YtemggoaefohliaaPtQ
namespace Go.Proofs.Ytemggoaefohliaa.PT
set_option linter.unusedVariables false
set_option linter.unusedSimpArgs false
open Go AE EX
set_option maxRecDepth 100000

theorem ev_Check (n : Nat) (x : X) (hx : x.size + 3 ≤ n) (hn : 44 ≤ n) (hs : x.size ≤ 1048000) (S : St) :
    ∃ c : Int, ev Try.prog E (n + 1) 16 [x.emb] S = some (.ret (.int .i64 c), S) ∧ (c = 0 → ∀ y ∈ x.nodes, Good y) := by
  have hD := ev_Depth x.size x (Nat.le_refl _) (by omega) n (by omega) S
  have hA := ev_All x.size x (Nat.le_refl _) (by omega) n (by omega) S
  have hns := nodes_size x
  have hlen := embL_length x.nodes
  have ha1 := cells_all x
  have hc1 := (cells_ok x).2
  have ht1 : List.take 6 x.cells = x.cells := List.take_of_length_le (by omega)
  have key : ∀ fs, CI x.nodes (allTok x) S x.nodes.length fs → ∃ r, iter n (evCode ⟨Try.prog, E.esc 16, n⟩ (ev Try.prog E n) (E.ps 16) n cLoop) fs = some r ∧ CQ x.nodes S r := fun fs h =>
    iter_meas (fun m fs h => check_round n hn x.nodes (allTok x) S (by omega) m fs h) x.nodes.length n fs (by omega) h
  rw [ev_enter (n := n) (show E.ok 16 = true from rfl) Try.func16 f16b (Nat.le_of_ble_eq_true rfl) (by decide +kernel)]
  rw [emb_cells] at hD hA ⊢
  by_cases h12 : 12 < x.dep
  · have h12z : (12 : Int) < x.dep := by omega
    refine ⟨32, ?_, by simp⟩
    generalize x.cells = C1 at *
    simp (disch := first | (simp only [List.length_append, List.length_cons, List.length_nil]; omega) | (simp; done) | assumption) [evCode_skip, evCode_region, evCode_draw, evCode_seq, evCode_cond, evCode_block, evCode_loop, evCode_exit, evCode_ret, seqK_ite, seqK_none, seqK_norm, seqK_ret, seqK_exit, seqK_pan, condK_true, condK_false, condK_bool, blockK_ite, blockK_none, blockK_norm, blockK_ret, blockK_exit, blockK_pan, stepK_ite, stepK_none, stepK_ok, stepK_pan, drawK_ite, drawK_none, drawK_ok, drawK_pan, opK_ite, opK_none, opK_val, opK_pan, wantK_true, wantK_false, wantK_some, afterRegion_ite, afterDraw_ite, fromBody_ite, ite_bool, ite_int, stepA_K, doOp, noOp, lexA_nil, lexA_cons, lexF_nil, lexF_cons, afterDraw, noClash, FP.clash, wantedA, evOp, rho, rhoL, ofC0, ofC, argsA, upd, afterRegion, putA, goOp, evBin_add, evBin_sub, evBin_mul, evBin_quo, evBin_rem, evBin_eql, evBin_neq, evBin_lss, evBin_leq, evBin_gtr, evBin_geq, evBin_eqlB, evBin_neqB, evBin_addS, evBin_eqlS, evBin_neqS, evBin_lssS, evBin_leqS, evUn, evConv, evIndex, evBuiltin, evLen, evMin2, evMax2, evCallee, evBox, evLoad, evStore, evFieldAddr, evField, evIndexAddr, evBuild, evBuildSlice, evElems, evSlice, nth, rdc, wrc, fromBody, resA, finRet, oneOf, AV.cells?, AV.isCell, fin_int, fin_bool, fin_str, cl0, cl1, cl2, cl3, cl4, cl5, cutC, bodyOf, Try.f16, E_esc, k24, c24, a24, bq3, ha1, hc1, ht1, hD, h12, h12z]
  have h12z : ¬ (12 : Int) < x.dep := by omega
  by_cases h64 : 64 < x.nodes.length
  · have h64z : (64 : Int) < x.nodes.length := by omega
    refine ⟨3, ?_, by simp⟩
    generalize x.cells = C1 at *
    simp (disch := first | (simp only [List.length_append, List.length_cons, List.length_nil]; omega) | (simp; done) | assumption) [evCode_skip, evCode_region, evCode_draw, evCode_seq, evCode_cond, evCode_block, evCode_loop, evCode_exit, evCode_ret, seqK_ite, seqK_none, seqK_norm, seqK_ret, seqK_exit, seqK_pan, condK_true, condK_false, condK_bool, blockK_ite, blockK_none, blockK_norm, blockK_ret, blockK_exit, blockK_pan, stepK_ite, stepK_none, stepK_ok, stepK_pan, drawK_ite, drawK_none, drawK_ok, drawK_pan, opK_ite, opK_none, opK_val, opK_pan, wantK_true, wantK_false, wantK_some, afterRegion_ite, afterDraw_ite, fromBody_ite, ite_bool, ite_int, stepA_K, doOp, noOp, lexA_nil, lexA_cons, lexF_nil, lexF_cons, afterDraw, noClash, FP.clash, wantedA, evOp, rho, rhoL, ofC0, ofC, argsA, upd, afterRegion, putA, goOp, evBin_add, evBin_sub, evBin_mul, evBin_quo, evBin_rem, evBin_eql, evBin_neq, evBin_lss, evBin_leq, evBin_gtr, evBin_geq, evBin_eqlB, evBin_neqB, evBin_addS, evBin_eqlS, evBin_neqS, evBin_lssS, evBin_leqS, evUn, evConv, evIndex, evBuiltin, evLen, evMin2, evMax2, evCallee, evBox, evLoad, evStore, evFieldAddr, evField, evIndexAddr, evBuild, evBuildSlice, evElems, evSlice, nth, rdc, wrc, fromBody, resA, finRet, oneOf, AV.cells?, AV.isCell, fin_int, fin_bool, fin_str, cl0, cl1, cl2, cl3, cl4, cl5, cutC, bodyOf, Try.f16, E_esc, k24, c24, a24, bq3, sq22, ha1, hc1, ht1, hD, hA, hlen, h12, h12z, h64, h64z]
  have h64z : ¬ (64 : Int) < x.nodes.length := by omega
  obtain ⟨⟨o, t, b, v, S'⟩, hr, hS, hq⟩ := key ⟨upd 4 (.int .i64 0) (upd 13 (.bool false) (upd 12 (.int .i64 x.nodes.length) (upd 11 (.slice (embL x.nodes) (allTok x)) (upd 3 (.slice (embL x.nodes) (allTok x)) (upd 10 (.slice (embL x.nodes) (allTok x)) (upd 9 (.agg x.cells)
    (upd 8 (.bool false) (upd 7 (.int .i64 x.dep) (upd 6 (.agg x.cells) (upd 2 (.int .i64 0) (upd 1 (.loc n 1 1 0) (argsA [.agg x.cells])))))))))))), upd 1 (1, x.cells) (fun _ => (0, [])), 12, S⟩
    ⟨0, by omega, by simp [upd], by simp [upd], rfl, by simp⟩
  simp only at hS hq
  subst hS
  rcases hq with ⟨rfl, ha⟩ | ⟨rfl, h2⟩
  · refine ⟨0, ?_, fun _ => ha⟩
    generalize x.cells = C1 at *
    simp (disch := first | (simp only [List.length_append, List.length_cons, List.length_nil]; omega) | (simp; done) | assumption) [evCode_skip, evCode_region, evCode_draw, evCode_seq, evCode_cond, evCode_block, evCode_loop, evCode_exit, evCode_ret, seqK_ite, seqK_none, seqK_norm, seqK_ret, seqK_exit, seqK_pan, condK_true, condK_false, condK_bool, blockK_ite, blockK_none, blockK_norm, blockK_ret, blockK_exit, blockK_pan, stepK_ite, stepK_none, stepK_ok, stepK_pan, drawK_ite, drawK_none, drawK_ok, drawK_pan, opK_ite, opK_none, opK_val, opK_pan, wantK_true, wantK_false, wantK_some, afterRegion_ite, afterDraw_ite, fromBody_ite, ite_bool, ite_int, stepA_K, doOp, noOp, lexA_nil, lexA_cons, lexF_nil, lexF_cons, afterDraw, noClash, FP.clash, wantedA, evOp, rho, rhoL, ofC0, ofC, argsA, upd, afterRegion, putA, goOp, evBin_add, evBin_sub, evBin_mul, evBin_quo, evBin_rem, evBin_eql, evBin_neq, evBin_lss, evBin_leq, evBin_gtr, evBin_geq, evBin_eqlB, evBin_neqB, evBin_addS, evBin_eqlS, evBin_neqS, evBin_lssS, evBin_leqS, evUn, evConv, evIndex, evBuiltin, evLen, evMin2, evMax2, evCallee, evBox, evLoad, evStore, evFieldAddr, evField, evIndexAddr, evBuild, evBuildSlice, evElems, evSlice, nth, rdc, wrc, fromBody, resA, finRet, oneOf, AV.cells?, AV.isCell, fin_int, fin_bool, fin_str, cl0, cl1, cl2, cl3, cl4, cl5, cutC, bodyOf, Try.f16, E_esc, k24, c24, a24, bq3, sq22, ha1, hc1, ht1, hD, hA, hlen, h12, h12z, h64, h64z, hr]
  · refine ⟨12, ?_, by simp⟩
    generalize x.cells = C1 at *
    simp (disch := first | (simp only [List.length_append, List.length_cons, List.length_nil]; omega) | (simp; done) | assumption) [evCode_skip, evCode_region, evCode_draw, evCode_seq, evCode_cond, evCode_block, evCode_loop, evCode_exit, evCode_ret, seqK_ite, seqK_none, seqK_norm, seqK_ret, seqK_exit, seqK_pan, condK_true, condK_false, condK_bool, blockK_ite, blockK_none, blockK_norm, blockK_ret, blockK_exit, blockK_pan, stepK_ite, stepK_none, stepK_ok, stepK_pan, drawK_ite, drawK_none, drawK_ok, drawK_pan, opK_ite, opK_none, opK_val, opK_pan, wantK_true, wantK_false, wantK_some, afterRegion_ite, afterDraw_ite, fromBody_ite, ite_bool, ite_int, stepA_K, doOp, noOp, lexA_nil, lexA_cons, lexF_nil, lexF_cons, afterDraw, noClash, FP.clash, wantedA, evOp, rho, rhoL, ofC0, ofC, argsA, upd, afterRegion, putA, goOp, evBin_add, evBin_sub, evBin_mul, evBin_quo, evBin_rem, evBin_eql, evBin_neq, evBin_lss, evBin_leq, evBin_gtr, evBin_geq, evBin_eqlB, evBin_neqB, evBin_addS, evBin_eqlS, evBin_neqS, evBin_lssS, evBin_leqS, evUn, evConv, evIndex, evBuiltin, evLen, evMin2, evMax2, evCallee, evBox, evLoad, evStore, evFieldAddr, evField, evIndexAddr, evBuild, evBuildSlice, evElems, evSlice, nth, rdc, wrc, fromBody, resA, finRet, oneOf, AV.cells?, AV.isCell, fin_int, fin_bool, fin_str, cl0, cl1, cl2, cl3, cl4, cl5, cutC, bodyOf, Try.f16, E_esc, k24, c24, a24, bq3, sq22, ha1, hc1, ht1, hD, hA, hlen, h12, h12z, h64, h64z, hr, h2]

mutual
theorem size7 : ∀ x : X, 7 * x.size ≤ x.bulk
  | .mk _ nm _ _ _ _ kids => by have := size7L kids; simp only [X.size, X.bulk]; omega
theorem size7L : ∀ l : List X, 7 * sizeL l ≤ bulkL l
  | [] => by simp [sizeL]
  | x :: l => by have := size7 x; have := size7L l; simp only [sizeL, bulkL]; omega
end

theorem ev_alive : ev Try.prog E 3000000 12 [] st0 = some (.ret (.bool true), st0) := by kernel_rfl
end Go.Proofs.Ytemggoaefohliaa.PT
