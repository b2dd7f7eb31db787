/- print.Expr, evaluated where the expression may be. No condition. -/
import Derived.Test.YtemggoaefohliaaPtF
namespace Go.Proofs.Ytemggoaefohliaa.PT
set_option linter.unusedVariables false
set_option linter.unusedSimpArgs false
open Go AE EX
set_option maxRecDepth 100000

theorem k56 : (Try.prog.info? 24).isSome = true := by kernel_rfl

noncomputable def aLoop : Code := cutC (bodyOf Try.f37) [1, 1, 0, 1, 0, 0]
noncomputable def al0 : Code := cutC (bodyOf Try.f37) [0]
noncomputable def al1 : Code := cutC (bodyOf Try.f37) [1, 0]
noncomputable def al2 : Code := cutC (bodyOf Try.f37) [1, 1, 0, 0]
noncomputable def al3 : Code := cutC (bodyOf Try.f37) [1, 1, 1]
theorem f37b : Try.f37.body = some (.seq al0 (.seq al1 (.seq (.seq al2 (.block 0 (.loop aLoop))) al3))) := rfl

def AI (kids : List X) (tk : Bool) (S0 : St) (i : Nat) (fs : FS) : Prop :=
  fs.t 6 = .slice (embL kids) (tokOf tk) ∧ fs.t 7 = .int .i64 kids.length ∧ fs.t 8 = .int .i64 i ∧
    (if i = 0 then fs.t 3 = .slice [] .clip ∧ fs.S = S0 else fs.t 3 = .slice ((txtL (kids.take i)).map AV.str) (.own S0.T.length i) ∧ fs.S = ⟨S0.H, S0.T ++ [i]⟩)

theorem txtL_append (a b : List X) : txtL (a ++ b) = txtL a ++ txtL b := by simp [txtL_map]
theorem txtL_length (l : List X) : (txtL l).length = l.length := by simp [txtL_map]

theorem all_round (n : Nat) (kids : List X) (tk : Bool) (S0 : St) (hlen : kids.length ≤ 1099511627776)
    (hrec : ∀ x ∈ kids, ∀ S, ev Try.prog E n 17 [x.emb] S = some (.ret (.str x.txt), S)) (i : Nat) (hi : i < kids.length) (fs : FS) (h : AI kids tk S0 i fs) :
    ∃ fs', evCode ⟨Try.prog, E.esc 37, n⟩ (ev Try.prog E n) (E.ps 37) n aLoop fs = some (.norm, fs') ∧ AI kids tk S0 (i + 1) fs' := by
  obtain ⟨t, b, v, S⟩ := fs
  obtain ⟨h1, h2, h3, h4⟩ := h
  simp at h1 h2 h3 h4
  have hxe : kids[i]? = some kids[i] := List.getElem?_eq_getElem hi
  have hr := hrec kids[i] (List.getElem_mem hi) S
  have hsplit : kids.take (i + 1) = kids.take i ++ [kids[i]] := by rw [List.take_add_one, hxe]; rfl
  have htx : txtL (kids.take (i + 1)) = txtL (kids.take i) ++ [kids[i].txt] := by rw [hsplit, txtL_append]; rfl
  have hemb : (embL kids)[i]? = some kids[i].emb := by rw [embL_map, List.getElem?_map, hxe]; rfl
  have htl : (txtL (kids.take i)).length = i := by rw [txtL_length]; simp; omega
  generalize kids[i] = x at *
  obtain ⟨k, nm, a, lo, hi', tk', ks⟩ := x
  generalize (X.mk k nm a lo hi' tk' ks).txt = xt at *
  simp only [X.emb] at hemb hr
  have hw : IntKind.i64.wrap ((i : Int) + 1) = (i : Int) + 1 := wrap64 _ (by omega)
  have hlt : (i : Int) < kids.length := by omega
  obtain ⟨z, hz⟩ := ii24
  by_cases h0 : i = 0
  · subst h0
    simp only [if_pos] at h4
    obtain ⟨h4, rfl⟩ := h4
    have ha := app0 xt S
    refine ⟨_, by
      simp (disch := first | (simp only [List.length_append, List.length_cons, List.length_nil]; omega) | (simp; done) | assumption) [evCode_skip, evCode_region, evCode_draw, evCode_seq, evCode_cond, evCode_block, evCode_loop, evCode_exit, evCode_ret, seqK_ite, seqK_none, seqK_norm, seqK_ret, seqK_exit, seqK_pan, condK_true, condK_false, condK_bool, blockK_ite, blockK_none, blockK_norm, blockK_ret, blockK_exit, blockK_pan, stepK_ite, stepK_none, stepK_ok, stepK_pan, drawK_ite, drawK_none, drawK_ok, drawK_pan, opK_ite, opK_none, opK_val, opK_pan, wantK_true, wantK_false, wantK_some, afterRegion_ite, afterDraw_ite, fromBody_ite, ite_bool, ite_int, stepA_K, doOp, noOp, lexA_nil, lexA_cons, lexF_nil, lexF_cons, afterDraw, noClash, FP.clash, wantedA, evOp, rho, rhoL, ofC0, ofC, argsA, upd, afterRegion, putA, goOp, evBin_add, evBin_sub, evBin_mul, evBin_quo, evBin_rem, evBin_eql, evBin_neq, evBin_lss, evBin_leq, evBin_gtr, evBin_geq, evBin_eqlB, evBin_neqB, evBin_addS, evBin_eqlS, evBin_neqS, evBin_lssS, evBin_leqS, evUn, evConv, evIndex, evBuiltin, evLen, evMin2, evMax2, evCallee, evBox, evLoad, evStore, evFieldAddr, evField, evIndexAddr, evBuild, evBuildSlice, evElems, evSlice, nth, rdc, wrc, fromBody, resA, finRet, oneOf, AV.cells?, AV.isCell, fin_int, fin_bool, fin_str, -evBuildSlice, aLoop, cutC, bodyOf, Try.f37, E_esc, k24, c24, a24, z24, i24, hz, sq22, h1, h2, h3, h4, hemb, hr, hlt, hi, bq3, evBuildSlice, evElems, sq56, z9, c9, a9, ha]
      rfl, by simp [upd, h1], by simp [upd, h2], by simp [upd, wrap64 1 (by omega)], ?_⟩
    rw [if_neg (by omega), htx]
    exact ⟨by simp [upd, txtL], rfl⟩
  · rw [if_neg h0] at h4
    obtain ⟨h4, rfl⟩ := h4
    have ha := app1 (txtL (kids.take i)) xt S0 (by omega)
    rw [htl] at ha
    refine ⟨_, by
      simp (disch := first | (simp only [List.length_append, List.length_cons, List.length_nil]; omega) | (simp; done) | assumption) [evCode_skip, evCode_region, evCode_draw, evCode_seq, evCode_cond, evCode_block, evCode_loop, evCode_exit, evCode_ret, seqK_ite, seqK_none, seqK_norm, seqK_ret, seqK_exit, seqK_pan, condK_true, condK_false, condK_bool, blockK_ite, blockK_none, blockK_norm, blockK_ret, blockK_exit, blockK_pan, stepK_ite, stepK_none, stepK_ok, stepK_pan, drawK_ite, drawK_none, drawK_ok, drawK_pan, opK_ite, opK_none, opK_val, opK_pan, wantK_true, wantK_false, wantK_some, afterRegion_ite, afterDraw_ite, fromBody_ite, ite_bool, ite_int, stepA_K, doOp, noOp, lexA_nil, lexA_cons, lexF_nil, lexF_cons, afterDraw, noClash, FP.clash, wantedA, evOp, rho, rhoL, ofC0, ofC, argsA, upd, afterRegion, putA, goOp, evBin_add, evBin_sub, evBin_mul, evBin_quo, evBin_rem, evBin_eql, evBin_neq, evBin_lss, evBin_leq, evBin_gtr, evBin_geq, evBin_eqlB, evBin_neqB, evBin_addS, evBin_eqlS, evBin_neqS, evBin_lssS, evBin_leqS, evUn, evConv, evIndex, evBuiltin, evLen, evMin2, evMax2, evCallee, evBox, evLoad, evStore, evFieldAddr, evField, evIndexAddr, evBuild, evBuildSlice, evElems, evSlice, nth, rdc, wrc, fromBody, resA, finRet, oneOf, AV.cells?, AV.isCell, fin_int, fin_bool, fin_str, aLoop, cutC, bodyOf, Try.f37, E_esc, k24, c24, a24, z24, i24, hz, sq22, h1, h2, h3, h4, hemb, hr, hlt, bq3, evBuildSlice, evElems, sq56, z9, c9, a9, ha, -List.map_append]
      rfl, by simp [upd, h1], by simp [upd, h2], by simp [upd, hw], ?_⟩
    rw [if_neg (by omega), htx]
    exact ⟨by simp [upd], rfl⟩

theorem ev_all (n : Nat) (hn : 2 ≤ n) (kids : List X) (tk : Bool) (S : St) (hl : kids.length < n) (hlen : kids.length ≤ 1099511627776) (hj : (joinT (txtL kids)).length ≤ 1099511627776)
    (hrec : ∀ x ∈ kids, ∀ S, ev Try.prog E n 17 [x.emb] S = some (.ret (.str x.txt), S)) :
    ev Try.prog E (n + 1) 37 [.slice (embL kids) (tokOf tk)] S = some (.ret (.str (joinT (txtL kids))), S) := by
  have key : ∀ fs, AI kids tk S 0 fs → ∃ fs', iter n (evCode ⟨Try.prog, E.esc 37, n⟩ (ev Try.prog E n) (E.ps 37) n aLoop) fs = some (.exit 0, fs') ∧ AI kids tk S kids.length fs' := fun fs h => by
    obtain ⟨⟨o, fs'⟩, r1, r2, r3⟩ := iter_range (Q := fun r => r.1 = .exit 0 ∧ AI kids tk S kids.length r.2) (len := kids.length) (fun i hi fs h => all_round n kids tk S hlen hrec i hi fs h)
      (fun fs h => by
        obtain ⟨t, b, v, S'⟩ := fs
        obtain ⟨h1, h2, h3, h4⟩ := h
        simp at h1 h2 h3 h4
        refine ⟨.exit 0, _, by
          simp (disch := first | (simp only [List.length_append, List.length_cons, List.length_nil]; omega) | (simp; done) | assumption) [evCode_skip, evCode_region, evCode_draw, evCode_seq, evCode_cond, evCode_block, evCode_loop, evCode_exit, evCode_ret, seqK_ite, seqK_none, seqK_norm, seqK_ret, seqK_exit, seqK_pan, condK_true, condK_false, condK_bool, blockK_ite, blockK_none, blockK_norm, blockK_ret, blockK_exit, blockK_pan, stepK_ite, stepK_none, stepK_ok, stepK_pan, drawK_ite, drawK_none, drawK_ok, drawK_pan, opK_ite, opK_none, opK_val, opK_pan, wantK_true, wantK_false, wantK_some, afterRegion_ite, afterDraw_ite, fromBody_ite, ite_bool, ite_int, stepA_K, doOp, noOp, lexA_nil, lexA_cons, lexF_nil, lexF_cons, afterDraw, noClash, FP.clash, wantedA, evOp, rho, rhoL, ofC0, ofC, argsA, upd, afterRegion, putA, goOp, evBin_add, evBin_sub, evBin_mul, evBin_quo, evBin_rem, evBin_eql, evBin_neq, evBin_lss, evBin_leq, evBin_gtr, evBin_geq, evBin_eqlB, evBin_neqB, evBin_addS, evBin_eqlS, evBin_neqS, evBin_lssS, evBin_leqS, evUn, evConv, evIndex, evBuiltin, evLen, evMin2, evMax2, evCallee, evBox, evLoad, evStore, evFieldAddr, evField, evIndexAddr, evBuild, evBuildSlice, evElems, evSlice, nth, rdc, wrc, fromBody, resA, finRet, oneOf, AV.cells?, AV.isCell, fin_int, fin_bool, fin_str, aLoop, cutC, bodyOf, Try.f37, h2, h3, bq3]
          rfl, by simp, rfl, by simp [upd, h1], by simp [upd, h2], by simp [upd, h3], by simpa [upd] using h4⟩) kids.length 0 n fs (by omega) hl h
    simp only at r2
    subst r2
    exact ⟨fs', r1, r3⟩
  have hlen2 : (embL kids).length = kids.length := by rw [embL_map]; simp
  obtain ⟨⟨t, b, v, S'⟩, hr, g1, g2, g3, g4⟩ := key ⟨upd 8 (.int .i64 0) (upd 7 (.int .i64 kids.length) (upd 6 (.slice (embL kids) (tokOf tk)) (upd 3 (.slice [] .clip) (upd 2 (.str []) (argsA [.slice (embL kids) (tokOf tk)]))))), fun _ => (0, []), 5, S⟩
    ⟨by simp [upd], by simp [upd], by simp [upd], by simp [upd]⟩
  simp at g1 g2 g3 g4
  obtain ⟨n, rfl⟩ : ∃ k, n = k + 1 := ⟨n - 1, by omega⟩
  rw [ev_enter (n := n + 1) (show E.ok 37 = true from rfl) Try.func37 f37b (Nat.le_of_ble_eq_true rfl) (by decide +kernel)]
  obtain ⟨l, tok, ex, hl1, hl2, hl3⟩ : ∃ (l : List (List UInt8)) (tok : Tok) (ex : List Nat), l = txtL kids ∧ t 3 = .slice (l.map AV.str) tok ∧ S' = ⟨S.H, S.T ++ ex⟩ := by
    by_cases h0 : kids.length = 0
    · rw [if_pos (by simpa using h0)] at g4
      have : kids = [] := List.eq_nil_of_length_eq_zero h0
      subst this
      exact ⟨[], .clip, [], rfl, g4.1, by rw [g4.2]; simp⟩
    · rw [if_neg (by simpa using h0)] at g4
      exact ⟨txtL kids, _, _, rfl, by simpa using g4.1, g4.2⟩
  subst hl3
  have hjn := ev_join n l tok ⟨S.H, S.T ++ ex⟩ (by rw [hl1, txtL_length]; exact hlen) (by rw [hl1]; exact hj)
  have hf := fin_strT (joinT l) S ex
  rw [← hl1]
  simp (disch := first | (simp only [List.length_append, List.length_cons, List.length_nil]; omega) | (simp; done) | assumption) [evCode_skip, evCode_region, evCode_draw, evCode_seq, evCode_cond, evCode_block, evCode_loop, evCode_exit, evCode_ret, seqK_ite, seqK_none, seqK_norm, seqK_ret, seqK_exit, seqK_pan, condK_true, condK_false, condK_bool, blockK_ite, blockK_none, blockK_norm, blockK_ret, blockK_exit, blockK_pan, stepK_ite, stepK_none, stepK_ok, stepK_pan, drawK_ite, drawK_none, drawK_ok, drawK_pan, opK_ite, opK_none, opK_val, opK_pan, wantK_true, wantK_false, wantK_some, afterRegion_ite, afterDraw_ite, fromBody_ite, ite_bool, ite_int, stepA_K, doOp, noOp, lexA_nil, lexA_cons, lexF_nil, lexF_cons, afterDraw, noClash, FP.clash, wantedA, evOp, rho, rhoL, ofC0, ofC, argsA, upd, afterRegion, putA, goOp, evBin_add, evBin_sub, evBin_mul, evBin_quo, evBin_rem, evBin_eql, evBin_neq, evBin_lss, evBin_leq, evBin_gtr, evBin_geq, evBin_eqlB, evBin_neqB, evBin_addS, evBin_eqlS, evBin_neqS, evBin_lssS, evBin_leqS, evUn, evConv, evIndex, evBuiltin, evLen, evMin2, evMax2, evCallee, evBox, evLoad, evStore, evFieldAddr, evField, evIndexAddr, evBuild, evBuildSlice, evElems, evSlice, nth, rdc, wrc, fromBody, resA, finRet, oneOf, AV.cells?, AV.isCell, fin_int, fin_bool, fin_str, al0, al1, al2, al3, cutC, bodyOf, Try.f37, hlen2, sq22, hr, hl2, hjn, hf]
end Go.Proofs.Ytemggoaefohliaa.PT
