/- PrintShows: the law, evaluated, by what is left to show: one text just where they are alike. No condition. -/
import Derived.Test.YtemggoaefohliaaPuA
namespace Go.Proofs.Ytemggoaefohliaa.PT
set_option linter.unusedVariables false
set_option linter.unusedSimpArgs false
open Go AE EX
set_option maxRecDepth 100000

theorem ev_shows (inj : ∀ a b : X, a.fit → b.fit → (∀ y ∈ a.nodes, Good y) → (∀ y ∈ b.nodes, Good y) → (a.txt == b.txt) = a.same b) (n : Nat) (hn : 2200000 ≤ n) (hal : ev Try.prog E n 12 [] st0 = some (.ret (.bool true), st0))
    (x y : X) (hb : x.bulk ≤ 1048576) (hf : x.fit) (hb' : y.bulk ≤ 1048576) (hf' : y.fit) :
    ev Try.prog E (n + 1) 5 [x.emb, y.emb] st0 = some (.ret (.bool true), st0) := by
  have hsz7 := size7 x
  have hsz7' := size7 y
  obtain ⟨c, d4, hc⟩ : ∃ c : Int, ev Try.prog E n 16 [x.emb] st0 = some (.ret (.int .i64 c), st0) ∧ (c = 0 → ∀ y ∈ x.nodes, Good y) := by
    have := ev_Check (n - 1) x (by omega) (by omega) (by omega) st0
    rwa [show n - 1 + 1 = n by omega] at this
  obtain ⟨c', d5, hc'⟩ : ∃ c : Int, ev Try.prog E n 16 [y.emb] st0 = some (.ret (.int .i64 c), st0) ∧ (c = 0 → ∀ z ∈ y.nodes, Good z) := by
    have := ev_Check (n - 1) y (by omega) (by omega) (by omega) st0
    rwa [show n - 1 + 1 = n by omega] at this
  have hp : E.ps 5 5 = [(0, 2), (1, 2), (0, 5), (1, 5), (2, 5), (3, 5), (0, 6), (1, 6), (2, 6), (3, 6), (5, 6)] := rfl
  have ha1 := cells_all x
  have hc1 := (cells_ok x).2
  have ht1 : List.take 6 x.cells = x.cells := List.take_of_length_le (by omega)
  have ha2 := cells_all y
  have hc2 := (cells_ok y).2
  have ht2 : List.take 6 y.cells = y.cells := List.take_of_length_le (by omega)
  have hsame := ev_same x.size x y (Nat.le_refl _) (by omega) (by omega) n (by omega) st0
  rw [ev_enter (n := n) (show E.ok 5 = true from rfl) Try.func5 (fn := Try.f5) rfl (Nat.le_of_ble_eq_true rfl) (by decide +kernel)]
  by_cases h0 : c = 0
  rotate_left 1
  · have h0' : (c == 0) = false := by simp [h0]
    rw [emb_cells] at d4
    rw [emb_cells, emb_cells]
    generalize x.cells = C1 at *
    generalize y.cells = C2 at *
    simp (disch := first | (simp only [List.length_append, List.length_cons, List.length_nil]; omega) | (simp; done) | assumption) [evCode_skip, evCode_region, evCode_draw, evCode_seq, evCode_cond, evCode_block, evCode_loop, evCode_exit, evCode_ret, seqK_ite, seqK_none, seqK_norm, seqK_ret, seqK_exit, seqK_pan, condK_true, condK_false, condK_bool, blockK_ite, blockK_none, blockK_norm, blockK_ret, blockK_exit, blockK_pan, stepK_ite, stepK_none, stepK_ok, stepK_pan, drawK_ite, drawK_none, drawK_ok, drawK_pan, opK_ite, opK_none, opK_val, opK_pan, wantK_true, wantK_false, wantK_some, afterRegion_ite, afterDraw_ite, fromBody_ite, ite_bool, ite_int, stepA_K, doOp, noOp, lexA_nil, lexA_cons, lexF_nil, lexF_cons, afterDraw, noClash, FP.clash, wantedA, evOp, rho, rhoL, ofC0, ofC, argsA, upd, afterRegion, putA, goOp, evBin_add, evBin_sub, evBin_mul, evBin_quo, evBin_rem, evBin_eql, evBin_neq, evBin_lss, evBin_leq, evBin_gtr, evBin_geq, evBin_eqlB, evBin_neqB, evBin_addS, evBin_eqlS, evBin_neqS, evBin_lssS, evBin_leqS, evUn, evConv, evIndex, evBuiltin, evLen, evMin2, evMax2, evCallee, evBox, evLoad, evStore, evFieldAddr, evField, evIndexAddr, evBuild, evBuildSlice, evElems, evSlice, nth, rdc, wrc, fromBody, resA, finRet, oneOf, AV.cells?, AV.isCell, fin_int, fin_bool, fin_str, Try.f5, E_esc, k24, c24, a24, bq3, bq4, bq9, ha1, hc1, ht1, ha2, hc2, ht2, hal, d4, h0', bne]
  subst h0
  by_cases h1 : c' = 0
  rotate_left 1
  · have h1' : (c' == 0) = false := by simp [h1]
    rw [emb_cells] at d4 d5
    rw [emb_cells, emb_cells]
    generalize x.cells = C1 at *
    generalize y.cells = C2 at *
    simp (disch := first | (simp only [List.length_append, List.length_cons, List.length_nil]; omega) | (simp; done) | assumption) [evCode_skip, evCode_region, evCode_draw, evCode_seq, evCode_cond, evCode_block, evCode_loop, evCode_exit, evCode_ret, seqK_ite, seqK_none, seqK_norm, seqK_ret, seqK_exit, seqK_pan, condK_true, condK_false, condK_bool, blockK_ite, blockK_none, blockK_norm, blockK_ret, blockK_exit, blockK_pan, stepK_ite, stepK_none, stepK_ok, stepK_pan, drawK_ite, drawK_none, drawK_ok, drawK_pan, opK_ite, opK_none, opK_val, opK_pan, wantK_true, wantK_false, wantK_some, afterRegion_ite, afterDraw_ite, fromBody_ite, ite_bool, ite_int, stepA_K, doOp, noOp, lexA_nil, lexA_cons, lexF_nil, lexF_cons, afterDraw, noClash, FP.clash, wantedA, evOp, rho, rhoL, ofC0, ofC, argsA, upd, afterRegion, putA, goOp, evBin_add, evBin_sub, evBin_mul, evBin_quo, evBin_rem, evBin_eql, evBin_neq, evBin_lss, evBin_leq, evBin_gtr, evBin_geq, evBin_eqlB, evBin_neqB, evBin_addS, evBin_eqlS, evBin_neqS, evBin_lssS, evBin_leqS, evUn, evConv, evIndex, evBuiltin, evLen, evMin2, evMax2, evCallee, evBox, evLoad, evStore, evFieldAddr, evField, evIndexAddr, evBuild, evBuildSlice, evElems, evSlice, nth, rdc, wrc, fromBody, resA, finRet, oneOf, AV.cells?, AV.isCell, fin_int, fin_bool, fin_str, Try.f5, E_esc, k24, c24, a24, bq3, bq4, bq9, ha1, hc1, ht1, ha2, hc2, ht2, hal, d4, d5, h1', bne]
  subst h1
  have hi := inj x y hf hf' (hc rfl) (hc' rfl)
  have hmay := may_of_good x.size x (Nat.le_refl _) (hc rfl)
  have hmay' := may_of_good y.size y (Nat.le_refl _) (hc' rfl)
  have e1 := ev_Expr x.bulk x (Nat.le_refl _) hmay hf hb n (by omega) st0
  have e2 := ev_Expr y.bulk y (Nat.le_refl _) hmay' hf' hb' n (by omega) st0
  have e3 := ev_rExpr x.bulk x (Nat.le_refl _) hmay hf hb n (by omega) st0
  rw [emb_cells] at d4 d5 e1 e2 e3
  rw [emb_cells, emb_cells] at hsame ⊢
  generalize x.cells = C1 at *
  generalize y.cells = C2 at *
  generalize x.same y = sm at *
  by_cases h2 : 4096 < x.txt.length
  · have h2z : (4096 : Int) < x.txt.length := by omega
    simp (disch := first | (simp only [List.length_append, List.length_cons, List.length_nil]; omega) | (simp; done) | assumption) [evCode_skip, evCode_region, evCode_draw, evCode_seq, evCode_cond, evCode_block, evCode_loop, evCode_exit, evCode_ret, seqK_ite, seqK_none, seqK_norm, seqK_ret, seqK_exit, seqK_pan, condK_true, condK_false, condK_bool, blockK_ite, blockK_none, blockK_norm, blockK_ret, blockK_exit, blockK_pan, stepK_ite, stepK_none, stepK_ok, stepK_pan, drawK_ite, drawK_none, drawK_ok, drawK_pan, opK_ite, opK_none, opK_val, opK_pan, wantK_true, wantK_false, wantK_some, afterRegion_ite, afterDraw_ite, fromBody_ite, ite_bool, ite_int, stepA_K, doOp, noOp, lexA_nil, lexA_cons, lexF_nil, lexF_cons, afterDraw, noClash, FP.clash, wantedA, evOp, rho, rhoL, ofC0, ofC, argsA, upd, afterRegion, putA, goOp, evBin_add, evBin_sub, evBin_mul, evBin_quo, evBin_rem, evBin_eql, evBin_neq, evBin_lss, evBin_leq, evBin_gtr, evBin_geq, evBin_eqlB, evBin_neqB, evBin_addS, evBin_eqlS, evBin_neqS, evBin_lssS, evBin_leqS, evUn, evConv, evIndex, evBuiltin, evLen, evMin2, evMax2, evCallee, evBox, evLoad, evStore, evFieldAddr, evField, evIndexAddr, evBuild, evBuildSlice, evElems, evSlice, nth, rdc, wrc, fromBody, resA, finRet, oneOf, AV.cells?, AV.isCell, fin_int, fin_bool, fin_str, Try.f5, E_esc, k24, c24, a24, bq3, bq4, bq9, sq9, ha1, hc1, ht1, ha2, hc2, ht2, hal, d4, d5, e3, h2, h2z, bne]
  · have h2z : ¬ (4096 : Int) < x.txt.length := by omega
    simp (disch := first | (simp only [List.length_append, List.length_cons, List.length_nil]; omega) | (simp; done) | assumption) [evCode_skip, evCode_region, evCode_draw, evCode_seq, evCode_cond, evCode_block, evCode_loop, evCode_exit, evCode_ret, seqK_ite, seqK_none, seqK_norm, seqK_ret, seqK_exit, seqK_pan, condK_true, condK_false, condK_bool, blockK_ite, blockK_none, blockK_norm, blockK_ret, blockK_exit, blockK_pan, stepK_ite, stepK_none, stepK_ok, stepK_pan, drawK_ite, drawK_none, drawK_ok, drawK_pan, opK_ite, opK_none, opK_val, opK_pan, wantK_true, wantK_false, wantK_some, afterRegion_ite, afterDraw_ite, fromBody_ite, ite_bool, ite_int, stepA_K, doOp, noOp, lexA_nil, lexA_cons, lexF_nil, lexF_cons, afterDraw, noClash, FP.clash, wantedA, evOp, rho, rhoL, ofC0, ofC, argsA, upd, afterRegion, putA, goOp, evBin_add, evBin_sub, evBin_mul, evBin_quo, evBin_rem, evBin_eql, evBin_neq, evBin_lss, evBin_leq, evBin_gtr, evBin_geq, evBin_eqlB, evBin_neqB, evBin_addS, evBin_eqlS, evBin_neqS, evBin_lssS, evBin_leqS, evUn, evConv, evIndex, evBuiltin, evLen, evMin2, evMax2, evCallee, evBox, evLoad, evStore, evFieldAddr, evField, evIndexAddr, evBuild, evBuildSlice, evElems, evSlice, nth, rdc, wrc, fromBody, resA, finRet, oneOf, AV.cells?, AV.isCell, fin_int, fin_bool, fin_str, Try.f5, E_esc, k24, c24, a24, bq3, bq4, bq9, sq9, ha1, hc1, ht1, ha2, hc2, ht2, hal, d4, d5, e1, e2, e3, h2, h2z, hsame, hi, hp, bne]
end Go.Proofs.Ytemggoaefohliaa.PT
