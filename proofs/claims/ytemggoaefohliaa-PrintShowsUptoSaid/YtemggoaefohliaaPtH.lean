/- print.Expr, evaluated where the expression may be (2). No condition. -/
import Derived.Test.YtemggoaefohliaaPtG
namespace Go.Proofs.Ytemggoaefohliaa.PT
set_option linter.unusedVariables false
set_option linter.unusedSimpArgs false
open Go AE EX
set_option maxRecDepth 100000

theorem bulkL_mem {x : X} : ∀ {l : List X}, x ∈ l → x.bulk ≤ bulkL l
  | y :: l, h => by
    rcases List.mem_cons.1 h with rfl | h
    · simp [bulkL]
    · have := bulkL_mem h; simp [bulkL]; omega
theorem fitL_mem {x : X} : ∀ {l : List X}, x ∈ l → fitL l → x.fit
  | y :: l, h, hf => by
    rcases List.mem_cons.1 h with rfl | h
    · exact hf.1
    · exact fitL_mem h hf.2

theorem cells_all (x : X) : x.cells.all AV.isCell = true := by
  cases x; simp [X.cells, AV.isCell]

theorem join_bulk {kids : List X} (hf : fitL kids) : (joinT (txtL kids)).length ≤ 64 * bulkL kids := by
  have h1 := txtL_len kids hf
  have h2 := join_len (txtL kids)
  omega

set_option maxHeartbeats 4000000 in
theorem ev_Expr : ∀ (m : Nat) (x : X), x.bulk ≤ m → May x → x.fit → m ≤ 1048576 → ∀ n, 2 * m + 40 ≤ n → ∀ S, ev Try.prog E n 17 [x.emb] S = some (.ret (.str x.txt), S)
  | 0, x, hm, _, _, _, _, _, _ => by cases x; simp [X.bulk] at hm
  | m + 1, x, hm, hmay, hfit, hmm, n, hn, S => by
    obtain ⟨n, rfl⟩ : ∃ k, n = k + 3 := ⟨n - 3, by omega⟩
    obtain ⟨k, nm, a, lo, hi, tk, kids⟩ := x
    obtain ⟨f1, f2, f3, f4, f5, f6⟩ := hfit
    simp only [X.bulk] at hm
    have hsz := size_bulkL kids
    have hlen := sizeL_length kids
    have hrec : ∀ x ∈ kids, May x → ∀ S, ev Try.prog E (n + 1) 17 [x.emb] S = some (.ret (.str x.txt), S) := fun x hx hx' S =>
      ev_Expr m x (by have := bulkL_mem hx; omega) hx' (fitL_mem hx f6) (by omega) (n + 1) (by omega) S
    have hrec2 : ∀ x ∈ kids, May x → ∀ S, ev Try.prog E (n + 2) 17 [x.emb] S = some (.ret (.str x.txt), S) := fun x hx hx' S =>
      ev_Expr m x (by have := bulkL_mem hx; omega) hx' (fitL_mem hx f6) (by omega) (n + 2) (by omega) S
    have hj := join_bulk f6
    have hall : (∀ x ∈ kids, May x) → ∀ S, ev Try.prog E (n + 2) 37 [.slice (embL kids) (tokOf tk)] S = some (.ret (.str (joinT (txtL kids))), S) := fun h S =>
      ev_all (n + 1) (by omega) kids tk S (by omega) (by omega) (by omega) fun x hx S => hrec x hx (h x hx) S
    have hspan : ev Try.prog E (n + 2) 13 [.int .i64 lo, .int .i64 hi] S = some (.ret (.str (spanT lo hi)), S) := ev_Span (n + 1) (by omega) lo hi f3 f4 S
    have hsl := spanT_len f3 f4
    have hword := word_len k
    have hE2 : (embL kids).length = kids.length := by rw [embL_map]; simp
    have p1 : E.ps 17 9 = [(1, 5), (2, 5)] := rfl
    have p2 : E.ps 17 11 = [(1, 4), (2, 4), (1, 6), (2, 6), (4, 6), (1, 11), (2, 11), (4, 11), (6, 11), (7, 11)] := rfl
    have p3 : E.ps 17 13 = [(1, 8), (3, 8), (4, 8), (1, 13), (3, 13), (4, 13), (8, 13), (9, 13), (1, 15), (3, 15), (4, 15), (8, 15), (9, 15)] := rfl
    simp only [X.emb]
    rw [ev_enter (n := n + 2) (show E.ok 17 = true from rfl) Try.func17 (fn := Try.f17) rfl (Nat.le_of_ble_eq_true rfl) (by decide +kernel)]
    cases hmay with
    | set _ _ _ _ _ _ hk =>
      have ha := hall (fun x hx => by obtain ⟨_, _, _, _, _, rfl⟩ := hk x hx; exact .leaf _ _ _ _ _ _ (.inr (.inr (.inl rfl))) (by simp)) S
      generalize hJ : joinT (txtL kids) = J at *
      simp (disch := first | (simp only [List.length_append, List.length_cons, List.length_nil]; omega) | (simp; done) | assumption) [evCode_skip, evCode_region, evCode_draw, evCode_seq, evCode_cond, evCode_block, evCode_loop, evCode_exit, evCode_ret, seqK_ite, seqK_none, seqK_norm, seqK_ret, seqK_exit, seqK_pan, condK_true, condK_false, condK_bool, blockK_ite, blockK_none, blockK_norm, blockK_ret, blockK_exit, blockK_pan, stepK_ite, stepK_none, stepK_ok, stepK_pan, drawK_ite, drawK_none, drawK_ok, drawK_pan, opK_ite, opK_none, opK_val, opK_pan, wantK_true, wantK_false, wantK_some, afterRegion_ite, afterDraw_ite, fromBody_ite, ite_bool, ite_int, stepA_K, doOp, noOp, lexA_nil, lexA_cons, lexF_nil, lexF_cons, afterDraw, noClash, FP.clash, wantedA, evOp, rho, rhoL, ofC0, ofC, argsA, upd, afterRegion, putA, goOp, evBin_add, evBin_sub, evBin_mul, evBin_quo, evBin_rem, evBin_eql, evBin_neq, evBin_lss, evBin_leq, evBin_gtr, evBin_geq, evBin_eqlB, evBin_neqB, evBin_addS, evBin_eqlS, evBin_neqS, evBin_lssS, evBin_leqS, evUn, evConv, evIndex, evBuiltin, evLen, evMin2, evMax2, evCallee, evBox, evLoad, evStore, evFieldAddr, evField, evIndexAddr, evBuild, evBuildSlice, evElems, evSlice, nth, rdc, wrc, fromBody, resA, finRet, oneOf, AV.cells?, AV.isCell, fin_int, fin_bool, fin_str, Try.f17, E_esc, k24, c24, a24, k3, c3, a3, k22, c22, a22, fq0, fq5, ha, X.txt, hJ]
    | leaf _ _ _ _ _ _ hk hb =>
      have hl : ev Try.prog E (n + 2) 40 [.agg [.int .i64 k, .str nm, .int .i64 a, .int .i64 lo, .int .i64 hi, .slice [] (tokOf tk)]] S = some (.ret (.str (leafT k nm a hi)), S) := ev_leaf (n + 1) (by omega) k nm a lo hi (.slice [] (tokOf tk)) rfl hk f2 f4 (by omega) S
      rcases hk with rfl | rfl | rfl | rfl | rfl | rfl | rfl | rfl <;>
        simp (disch := first | (simp only [List.length_append, List.length_cons, List.length_nil]; omega) | (simp; done) | assumption) [evCode_skip, evCode_region, evCode_draw, evCode_seq, evCode_cond, evCode_block, evCode_loop, evCode_exit, evCode_ret, seqK_ite, seqK_none, seqK_norm, seqK_ret, seqK_exit, seqK_pan, condK_true, condK_false, condK_bool, blockK_ite, blockK_none, blockK_norm, blockK_ret, blockK_exit, blockK_pan, stepK_ite, stepK_none, stepK_ok, stepK_pan, drawK_ite, drawK_none, drawK_ok, drawK_pan, opK_ite, opK_none, opK_val, opK_pan, wantK_true, wantK_false, wantK_some, afterRegion_ite, afterDraw_ite, fromBody_ite, ite_bool, ite_int, stepA_K, doOp, noOp, lexA_nil, lexA_cons, lexF_nil, lexF_cons, afterDraw, noClash, FP.clash, wantedA, evOp, rho, rhoL, ofC0, ofC, argsA, upd, afterRegion, putA, goOp, evBin_add, evBin_sub, evBin_mul, evBin_quo, evBin_rem, evBin_eql, evBin_neq, evBin_lss, evBin_leq, evBin_gtr, evBin_geq, evBin_eqlB, evBin_neqB, evBin_addS, evBin_eqlS, evBin_neqS, evBin_lssS, evBin_leqS, evUn, evConv, evIndex, evBuiltin, evLen, evMin2, evMax2, evCallee, evBox, evLoad, evStore, evFieldAddr, evField, evIndexAddr, evBuild, evBuildSlice, evElems, evSlice, nth, rdc, wrc, fromBody, resA, finRet, oneOf, AV.cells?, AV.isCell, fin_int, fin_bool, fin_str, Try.f17, E_esc, k24, c24, a24, k3, c3, a3, k22, c22, a22, fq0, fq5, sq22, hl, X.txt, embL]
    | one _ _ _ _ _ _ x hk hx =>
      have ha := hall (fun y hy => by simp at hy; subst hy; exact hx) S
      have hw : ∀ k, (k = 12 ∨ k = 25 ∨ k = 22 ∨ k = 23 ∨ k = 24) → ev Try.prog E (n + 2) 38 [.int .i64 k] S = some (.ret (.str (wordT k)), S) := fun k hk => ev_word (n + 1) k hk S
      generalize hJ : joinT (txtL [x]) = J at *
      generalize embL [x] = es at *
      rcases hk with rfl | rfl | rfl | rfl | rfl | rfl <;>
        simp (disch := first | (simp only [List.length_append, List.length_cons, List.length_nil]; omega) | (simp; done) | assumption) [evCode_skip, evCode_region, evCode_draw, evCode_seq, evCode_cond, evCode_block, evCode_loop, evCode_exit, evCode_ret, seqK_ite, seqK_none, seqK_norm, seqK_ret, seqK_exit, seqK_pan, condK_true, condK_false, condK_bool, blockK_ite, blockK_none, blockK_norm, blockK_ret, blockK_exit, blockK_pan, stepK_ite, stepK_none, stepK_ok, stepK_pan, drawK_ite, drawK_none, drawK_ok, drawK_pan, opK_ite, opK_none, opK_val, opK_pan, wantK_true, wantK_false, wantK_some, afterRegion_ite, afterDraw_ite, fromBody_ite, ite_bool, ite_int, stepA_K, doOp, noOp, lexA_nil, lexA_cons, lexF_nil, lexF_cons, afterDraw, noClash, FP.clash, wantedA, evOp, rho, rhoL, ofC0, ofC, argsA, upd, afterRegion, putA, goOp, evBin_add, evBin_sub, evBin_mul, evBin_quo, evBin_rem, evBin_eql, evBin_neq, evBin_lss, evBin_leq, evBin_gtr, evBin_geq, evBin_eqlB, evBin_neqB, evBin_addS, evBin_eqlS, evBin_neqS, evBin_lssS, evBin_leqS, evUn, evConv, evIndex, evBuiltin, evLen, evMin2, evMax2, evCallee, evBox, evLoad, evStore, evFieldAddr, evField, evIndexAddr, evBuild, evBuildSlice, evElems, evSlice, nth, rdc, wrc, fromBody, resA, finRet, oneOf, AV.cells?, AV.isCell, fin_int, fin_bool, fin_str, Try.f17, E_esc, k24, c24, a24, k3, c3, a3, k2, c2, a2, k22, c22, a22, fq0, fq3, fq4, fq5, sq22, ha, hw, hspan, hJ, X.txt, p1, p2, frontT, wordT]
    | two _ _ _ _ _ _ x y hk hx hy =>
      have ha := hall (fun z hz => by simp at hz; rcases hz with rfl | rfl <;> assumption) S
      have hw : ∀ k, (k = 12 ∨ k = 25 ∨ k = 22 ∨ k = 23 ∨ k = 24) → ev Try.prog E (n + 2) 38 [.int .i64 k] S = some (.ret (.str (wordT k)), S) := fun k hk => ev_word (n + 1) k hk S
      have hs : ∀ k, (k = 8 ∨ k = 9 ∨ k = 10 ∨ k = 14 ∨ k = 15 ∨ k = 16 ∨ k = 17 ∨ k = 19 ∨ k = 20) → ev Try.prog E (n + 2) 39 [.int .i64 k] S = some (.ret (.str (signT k)), S) := fun k hk => ev_sign (n + 1) k hk S
      have e1 := hrec2 x (by simp) hx S
      have e2 := hrec2 y (by simp) hy S
      have l1 := txt_len x (fitL_mem (l := [x, y]) (by simp) f6)
      have l2 := txt_len y (fitL_mem (l := [x, y]) (by simp) f6)
      have l3 : x.bulk ≤ 1048576 := by have := bulkL_mem (x := x) (l := [x, y]) (by simp); omega
      have l4 : y.bulk ≤ 1048576 := by have := bulkL_mem (x := y) (l := [x, y]) (by simp); omega
      obtain ⟨z, hz⟩ := ii24
      have ha1 := cells_all x
      have ha2 := cells_all y
      have hc1 := (cells_ok x).2
      have hc2 := (cells_ok y).2
      have ht1 : List.take 6 x.cells = x.cells := List.take_of_length_le (by omega)
      have ht2 : List.take 6 y.cells = y.cells := List.take_of_length_le (by omega)
      simp only [emb_cells, embL] at e1 e2 ha ⊢
      rcases hk with rfl | rfl | rfl | rfl | rfl | rfl | rfl | rfl | rfl | rfl
      rotate_right 1
      · generalize hJ : joinT (txtL [x, y]) = J at *
        simp (disch := first | (simp only [List.length_append, List.length_cons, List.length_nil]; omega) | (simp; done) | assumption) [evCode_skip, evCode_region, evCode_draw, evCode_seq, evCode_cond, evCode_block, evCode_loop, evCode_exit, evCode_ret, seqK_ite, seqK_none, seqK_norm, seqK_ret, seqK_exit, seqK_pan, condK_true, condK_false, condK_bool, blockK_ite, blockK_none, blockK_norm, blockK_ret, blockK_exit, blockK_pan, stepK_ite, stepK_none, stepK_ok, stepK_pan, drawK_ite, drawK_none, drawK_ok, drawK_pan, opK_ite, opK_none, opK_val, opK_pan, wantK_true, wantK_false, wantK_some, afterRegion_ite, afterDraw_ite, fromBody_ite, ite_bool, ite_int, stepA_K, doOp, noOp, lexA_nil, lexA_cons, lexF_nil, lexF_cons, afterDraw, noClash, FP.clash, wantedA, evOp, rho, rhoL, ofC0, ofC, argsA, upd, afterRegion, putA, goOp, evBin_add, evBin_sub, evBin_mul, evBin_quo, evBin_rem, evBin_eql, evBin_neq, evBin_lss, evBin_leq, evBin_gtr, evBin_geq, evBin_eqlB, evBin_neqB, evBin_addS, evBin_eqlS, evBin_neqS, evBin_lssS, evBin_leqS, evUn, evConv, evIndex, evBuiltin, evLen, evMin2, evMax2, evCallee, evBox, evLoad, evStore, evFieldAddr, evField, evIndexAddr, evBuild, evBuildSlice, evElems, evSlice, nth, rdc, wrc, fromBody, resA, finRet, oneOf, AV.cells?, AV.isCell, fin_int, fin_bool, fin_str, Try.f17, E_esc, k24, c24, a24, k3, c3, a3, k2, c2, a2, k22, c22, a22, fq0, fq3, fq4, fq5, sq22, ha, hw, hspan, hJ, X.txt, p1, p2, frontT, wordT]
      all_goals
        simp only [X.txt, txtL]
        generalize x.txt = t1 at *
        generalize y.txt = t2 at *
        generalize x.cells = C1 at *
        generalize y.cells = C2 at *
        simp (disch := first | (simp only [List.length_append, List.length_cons, List.length_nil]; omega) | (simp; done) | assumption) [evCode_skip, evCode_region, evCode_draw, evCode_seq, evCode_cond, evCode_block, evCode_loop, evCode_exit, evCode_ret, seqK_ite, seqK_none, seqK_norm, seqK_ret, seqK_exit, seqK_pan, condK_true, condK_false, condK_bool, blockK_ite, blockK_none, blockK_norm, blockK_ret, blockK_exit, blockK_pan, stepK_ite, stepK_none, stepK_ok, stepK_pan, drawK_ite, drawK_none, drawK_ok, drawK_pan, opK_ite, opK_none, opK_val, opK_pan, wantK_true, wantK_false, wantK_some, afterRegion_ite, afterDraw_ite, fromBody_ite, ite_bool, ite_int, stepA_K, doOp, noOp, lexA_nil, lexA_cons, lexF_nil, lexF_cons, afterDraw, noClash, FP.clash, wantedA, evOp, rho, rhoL, ofC0, ofC, argsA, upd, afterRegion, putA, goOp, evBin_add, evBin_sub, evBin_mul, evBin_quo, evBin_rem, evBin_eql, evBin_neq, evBin_lss, evBin_leq, evBin_gtr, evBin_geq, evBin_eqlB, evBin_neqB, evBin_addS, evBin_eqlS, evBin_neqS, evBin_lssS, evBin_leqS, evUn, evConv, evIndex, evBuiltin, evLen, evMin2, evMax2, evCallee, evBox, evLoad, evStore, evFieldAddr, evField, evIndexAddr, evBuild, evBuildSlice, evElems, evSlice, nth, rdc, wrc, fromBody, resA, finRet, oneOf, AV.cells?, AV.isCell, fin_int, fin_bool, fin_str, Try.f17, E_esc, k24, c24, a24, k3, c3, a3, k22, c22, a22, fq0, fq5, sq22, hs, e1, e2, i24, hz, p3, binT, signT, ha1, ha2, hc1, hc2, ht1, ht2]
end Go.Proofs.Ytemggoaefohliaa.PT
