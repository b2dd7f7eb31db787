/- PrintTells: the law, evaluated; the environment is as it says. No condition. -/
import Derived.Test.YtemggoaefohliaaPtR
namespace Go.Proofs.Ytemggoaefohliaa.PT
set_option linter.unusedVariables false
set_option linter.unusedSimpArgs false
open Go AE EX
set_option maxRecDepth 100000

theorem ev_tells (n : Nat) (hn : 2200000 ≤ n) (hal : ev Try.prog E n 12 [] st0 = some (.ret (.bool true), st0)) (x : X) (lo hi : Int) (s : List UInt8) (hb : x.bulk ≤ 1048576) (hf : x.fit) (h1 : in64 lo) (h2 : in64 hi) (hs : s.length ≤ 1048576) :
    ev Try.prog E (n + 1) 4 [x.emb, .int .i64 lo, .int .i64 hi, .str s] st0 = some (.ret (.bool true), st0) := by
  have hsz := size_bulk x
  have hsz7 : 7 * x.size ≤ x.bulk := size7 x
  have d1 : ev Try.prog E n 13 [.int .i64 lo, .int .i64 hi] st0 = some (.ret (.str (spanT lo hi)), st0) := by
    have := ev_Span (n - 1) (by omega) lo hi h1 h2 st0
    rwa [show n - 1 + 1 = n by omega] at this
  have d2 : ev Try.prog E n 14 [.int .i64 lo, .int .i64 hi] st0 = some (.ret (.str (spanT lo hi)), st0) := by
    have := ev_rSpan (n - 1) (by omega) lo hi h1 h2 st0
    rwa [show n - 1 + 1 = n by omega] at this
  have d3 : ev Try.prog E n 15 [.str s] st0 = some (.ret (.str (quoteT s)), st0) := by
    have := ev_Quote (n - 1) s (by omega) st0
    rwa [show n - 1 + 1 = n by omega] at this
  obtain ⟨c, d4, hc⟩ : ∃ c : Int, ev Try.prog E n 16 [x.emb] st0 = some (.ret (.int .i64 c), st0) ∧ (c = 0 → ∀ y ∈ x.nodes, Good y) := by
    have := ev_Check (n - 1) x (by omega) (by omega) (by omega) st0
    rwa [show n - 1 + 1 = n by omega] at this
  have hp : E.ps 4 5 = [(4, 6), (5, 6)] := rfl
  have ha1 := cells_all x
  have hc1 := (cells_ok x).2
  have ht1 : List.take 6 x.cells = x.cells := List.take_of_length_le (by omega)
  have hq : (quoteT s == 34 :: (s ++ [34])) = true := by simp [quoteT]
  rw [ev_enter (n := n) (show E.ok 4 = true from rfl) Try.func4 (fn := Try.f4) rfl (Nat.le_of_ble_eq_true rfl) (by decide +kernel)]
  by_cases h0 : c = 0
  · subst h0
    have hmay := may_of_good x.size x (Nat.le_refl _) (hc rfl)
    have e1 := ev_Expr x.bulk x (Nat.le_refl _) hmay hf hb n (by omega) st0
    have e2 := ev_rExpr x.bulk x (Nat.le_refl _) hmay hf hb n (by omega) st0
    rw [emb_cells] at d4 e1 e2 ⊢
    generalize x.cells = C1 at *
    generalize x.txt = t1 at *
    generalize spanT lo hi = t2 at *
    simp (disch := first | (simp only [List.length_append, List.length_cons, List.length_nil]; omega) | (simp; done) | assumption) [evCode_skip, evCode_region, evCode_draw, evCode_seq, evCode_cond, evCode_block, evCode_loop, evCode_exit, evCode_ret, seqK_ite, seqK_none, seqK_norm, seqK_ret, seqK_exit, seqK_pan, condK_true, condK_false, condK_bool, blockK_ite, blockK_none, blockK_norm, blockK_ret, blockK_exit, blockK_pan, stepK_ite, stepK_none, stepK_ok, stepK_pan, drawK_ite, drawK_none, drawK_ok, drawK_pan, opK_ite, opK_none, opK_val, opK_pan, wantK_true, wantK_false, wantK_some, afterRegion_ite, afterDraw_ite, fromBody_ite, ite_bool, ite_int, stepA_K, doOp, noOp, lexA_nil, lexA_cons, lexF_nil, lexF_cons, afterDraw, noClash, FP.clash, wantedA, evOp, rho, rhoL, ofC0, ofC, argsA, upd, afterRegion, putA, goOp, evBin_add, evBin_sub, evBin_mul, evBin_quo, evBin_rem, evBin_eql, evBin_neq, evBin_lss, evBin_leq, evBin_gtr, evBin_geq, evBin_eqlB, evBin_neqB, evBin_addS, evBin_eqlS, evBin_neqS, evBin_lssS, evBin_leqS, evUn, evConv, evIndex, evBuiltin, evLen, evMin2, evMax2, evCallee, evBox, evLoad, evStore, evFieldAddr, evField, evIndexAddr, evBuild, evBuildSlice, evElems, evSlice, nth, rdc, wrc, fromBody, resA, finRet, oneOf, AV.cells?, AV.isCell, fin_int, fin_bool, fin_str, Try.f4, E_esc, k24, c24, a24, bq3, bq4, bq9, ha1, hc1, ht1, hal, d1, d2, d3, d4, e1, e2, hp, bne, quoteT]
  · have h0' : (c == 0) = false := by simp [h0]
    rw [emb_cells] at d4 ⊢
    generalize x.cells = C1 at *
    generalize spanT lo hi = t2 at *
    simp (disch := first | (simp only [List.length_append, List.length_cons, List.length_nil]; omega) | (simp; done) | assumption) [evCode_skip, evCode_region, evCode_draw, evCode_seq, evCode_cond, evCode_block, evCode_loop, evCode_exit, evCode_ret, seqK_ite, seqK_none, seqK_norm, seqK_ret, seqK_exit, seqK_pan, condK_true, condK_false, condK_bool, blockK_ite, blockK_none, blockK_norm, blockK_ret, blockK_exit, blockK_pan, stepK_ite, stepK_none, stepK_ok, stepK_pan, drawK_ite, drawK_none, drawK_ok, drawK_pan, opK_ite, opK_none, opK_val, opK_pan, wantK_true, wantK_false, wantK_some, afterRegion_ite, afterDraw_ite, fromBody_ite, ite_bool, ite_int, stepA_K, doOp, noOp, lexA_nil, lexA_cons, lexF_nil, lexF_cons, afterDraw, noClash, FP.clash, wantedA, evOp, rho, rhoL, ofC0, ofC, argsA, upd, afterRegion, putA, goOp, evBin_add, evBin_sub, evBin_mul, evBin_quo, evBin_rem, evBin_eql, evBin_neq, evBin_lss, evBin_leq, evBin_gtr, evBin_geq, evBin_eqlB, evBin_neqB, evBin_addS, evBin_eqlS, evBin_neqS, evBin_lssS, evBin_leqS, evUn, evConv, evIndex, evBuiltin, evLen, evMin2, evMax2, evCallee, evBox, evLoad, evStore, evFieldAddr, evField, evIndexAddr, evBuild, evBuildSlice, evElems, evSlice, nth, rdc, wrc, fromBody, resA, finRet, oneOf, AV.cells?, AV.isCell, fin_int, fin_bool, fin_str, Try.f4, E_esc, k24, c24, a24, bq3, bq4, bq9, ha1, hc1, ht1, hal, d1, d2, d3, d4, h0', hp, bne, quoteT]

theorem env : EnvOK Try.prog E where
  mixed := by kernel_rfl
  code := fun f fn c hok hf hb => by
    have : f ∈ [4, 5, 12, 13, 14, 15, 16, 17, 18, 19, 30, 31, 32, 33, 34, 35, 36, 37, 38, 39, 40, 41, 42, 43, 44, 53, 54, 55, 64, 65] := by simpa [E] using hok
    simp only [List.mem_cons, List.not_mem_nil, or_false] at this
    rcases this with rfl | rfl | rfl | rfl | rfl | rfl | rfl | rfl | rfl | rfl | rfl | rfl | rfl | rfl | rfl | rfl | rfl | rfl | rfl | rfl | rfl | rfl | rfl | rfl | rfl | rfl | rfl | rfl | rfl | rfl
    · exact codeOk_body (Try.func4.symm.trans hf) hb (by kernel_rfl)
    · exact codeOk_body (Try.func5.symm.trans hf) hb (by kernel_rfl)
    · exact codeOk_body (Try.func12.symm.trans hf) hb (by kernel_rfl)
    · exact codeOk_body (Try.func13.symm.trans hf) hb (by kernel_rfl)
    · exact codeOk_body (Try.func14.symm.trans hf) hb (by kernel_rfl)
    · exact codeOk_body (Try.func15.symm.trans hf) hb (by kernel_rfl)
    · exact codeOk_body (Try.func16.symm.trans hf) hb (by kernel_rfl)
    · exact codeOk_body (Try.func17.symm.trans hf) hb (by kernel_rfl)
    · exact codeOk_body (Try.func18.symm.trans hf) hb (by kernel_rfl)
    · exact codeOk_body (Try.func19.symm.trans hf) hb (by kernel_rfl)
    · exact codeOk_body (Try.func30.symm.trans hf) hb (by kernel_rfl)
    · exact codeOk_body (Try.func31.symm.trans hf) hb (by kernel_rfl)
    · exact codeOk_body (Try.func32.symm.trans hf) hb (by kernel_rfl)
    · exact codeOk_body (Try.func33.symm.trans hf) hb (by kernel_rfl)
    · exact codeOk_body (Try.func34.symm.trans hf) hb (by kernel_rfl)
    · exact codeOk_body (Try.func35.symm.trans hf) hb (by kernel_rfl)
    · exact codeOk_body (Try.func36.symm.trans hf) hb (by kernel_rfl)
    · exact codeOk_body (Try.func37.symm.trans hf) hb (by kernel_rfl)
    · exact codeOk_body (Try.func38.symm.trans hf) hb (by kernel_rfl)
    · exact codeOk_body (Try.func39.symm.trans hf) hb (by kernel_rfl)
    · exact codeOk_body (Try.func40.symm.trans hf) hb (by kernel_rfl)
    · exact codeOk_body (Try.func41.symm.trans hf) hb (by kernel_rfl)
    · exact codeOk_body (Try.func42.symm.trans hf) hb (by kernel_rfl)
    · exact codeOk_body (Try.func43.symm.trans hf) hb (by kernel_rfl)
    · exact codeOk_body (Try.func44.symm.trans hf) hb (by kernel_rfl)
    · exact codeOk_body (Try.func53.symm.trans hf) hb (by kernel_rfl)
    · exact codeOk_body (Try.func54.symm.trans hf) hb (by kernel_rfl)
    · exact codeOk_body (Try.func55.symm.trans hf) hb (by kernel_rfl)
    · exact codeOk_body (Try.func64.symm.trans hf) hb (by kernel_rfl)
    · exact codeOk_body (Try.func65.symm.trans hf) hb (by kernel_rfl)
  ext := fun f args S r S' _ h => by
    have h' : (if f = 56 then joinX args S else none) = some (r, S') := h
    split at h'
    · rename_i e; subst e; exact joinX_ok h'
    · cases h'
end Go.Proofs.Ytemggoaefohliaa.PT
