/- Joined: NfA, NfB, NfC, NfD, NfE, NfF, NfG, NfH, NfI, NfJ, NfK. No condition beyond those of its lemmas. -/
import Derived.Test.YtemggoaefohliaaPxB
/- ast's small functions, evaluated. No condition. -/
namespace Go.Proofs.Ytemggoaefohliaa.NF
set_option linter.unusedVariables false
set_option linter.unusedSimpArgs false
open Go AE EX PT
set_option maxRecDepth 100000

theorem ev_inner (n : Nat) (k : Int) (nm : List UInt8) (a lo hi : Int) (tk : Bool) (kids : List X) (S : St) :
    ev Try.prog E (n + 1) 69 [(X.mk k nm a lo hi tk kids).emb] S = some (.ret (if k == 4 then .slice [] .clip else .slice (embL kids) (tokOf tk)), S) := by
  simp only [X.emb]
  have hf : finish S (.slice [] .clip) S = some (.slice [] .clip, S) := fin_clip [] S
  have hf2 : finish S (.slice (embL kids) (tokOf tk)) S = some (.slice (embL kids) (tokOf tk), S) :=
    finish_same (by simp [AV.sealed, sealed_embL]) (by cases tk <;> simp [AV.strip, strip_embL, tokOf]) (by cases tk <;> simp [AV.low, low_embL, tokOf]) rfl rfl
  rw [ev_enter (n := n) (show E.ok 69 = true from rfl) Try.func69 (fn := Try.f69) rfl (Nat.le_of_ble_eq_true rfl) (by decide +kernel)]
  cases h4 : k == 4
  · simp (disch := first | (simp only [List.length_append, List.length_cons, List.length_nil]; omega) | (simp; done) | assumption) [↓evOp_build, ↓evOp_bslice, rhoP_nil, rhoP_cons, evCode_skip, evCode_region, evCode_draw, evCode_seq, evCode_cond, evCode_block, evCode_loop, evCode_exit, evCode_ret, seqK_ite, seqK_none, seqK_norm, seqK_ret, seqK_exit, seqK_pan, condK_true, condK_false, condK_bool, blockK_ite, blockK_none, blockK_norm, blockK_ret, blockK_exit, blockK_pan, stepK_ite, stepK_none, stepK_ok, stepK_pan, drawK_ite, drawK_none, drawK_ok, drawK_pan, opK_ite, opK_none, opK_val, opK_pan, wantK_true, wantK_false, wantK_some, afterRegion_ite, afterDraw_ite, fromBody_ite, ite_bool, ite_int, stepA_K, doOp, noOp, lexA_nil, lexA_cons, lexF_nil, lexF_cons, afterDraw, noClash, FP.clash, wantedA, evOp, rho, rhoL, ofC0, ofC, argsA, upd, afterRegion, putA, goOp, evBin_add, evBin_sub, evBin_mul, evBin_quo, evBin_rem, evBin_eql, evBin_neq, evBin_lss, evBin_leq, evBin_gtr, evBin_geq, evBin_eqlB, evBin_neqB, evBin_addS, evBin_eqlS, evBin_neqS, evBin_lssS, evBin_leqS, evUn, evConv, evIndex, evBuiltin, evLen, evMin2, evMax2, evCallee, evBox, evLoad, evStore, evFieldAddr, evField, evIndexAddr, evBuild, evBuildSlice, evElems, evSlice, nth, rdc, wrc, fromBody, resA, finRet, oneOf, AV.cells?, AV.isCell, fin_int, fin_bool, fin_str, Try.f69, E_esc, k24, c24, a24, k3, c3, a3, k22, c22, a22, fq0, fq5, bq3, h4, hf2]
  · simp (disch := first | (simp only [List.length_append, List.length_cons, List.length_nil]; omega) | (simp; done) | assumption) [↓evOp_build, ↓evOp_bslice, rhoP_nil, rhoP_cons, evCode_skip, evCode_region, evCode_draw, evCode_seq, evCode_cond, evCode_block, evCode_loop, evCode_exit, evCode_ret, seqK_ite, seqK_none, seqK_norm, seqK_ret, seqK_exit, seqK_pan, condK_true, condK_false, condK_bool, blockK_ite, blockK_none, blockK_norm, blockK_ret, blockK_exit, blockK_pan, stepK_ite, stepK_none, stepK_ok, stepK_pan, drawK_ite, drawK_none, drawK_ok, drawK_pan, opK_ite, opK_none, opK_val, opK_pan, wantK_true, wantK_false, wantK_some, afterRegion_ite, afterDraw_ite, fromBody_ite, ite_bool, ite_int, stepA_K, doOp, noOp, lexA_nil, lexA_cons, lexF_nil, lexF_cons, afterDraw, noClash, FP.clash, wantedA, evOp, rho, rhoL, ofC0, ofC, argsA, upd, afterRegion, putA, goOp, evBin_add, evBin_sub, evBin_mul, evBin_quo, evBin_rem, evBin_eql, evBin_neq, evBin_lss, evBin_leq, evBin_gtr, evBin_geq, evBin_eqlB, evBin_neqB, evBin_addS, evBin_eqlS, evBin_neqS, evBin_lssS, evBin_leqS, evUn, evConv, evIndex, evBuiltin, evLen, evMin2, evMax2, evCallee, evBox, evLoad, evStore, evFieldAddr, evField, evIndexAddr, evBuild, evBuildSlice, evElems, evSlice, nth, rdc, wrc, fromBody, resA, finRet, oneOf, AV.cells?, AV.isCell, fin_int, fin_bool, fin_str, Try.f69, E_esc, k24, c24, a24, k3, c3, a3, k22, c22, a22, fq0, fq5, bq3, h4, hf]
end Go.Proofs.Ytemggoaefohliaa.NF

/- ast's depth and size, evaluated. No condition. -/
namespace Go.Proofs.Ytemggoaefohliaa.NF
set_option linter.unusedVariables false
set_option linter.unusedSimpArgs false
open Go AE EX PT
set_option maxRecDepth 100000

noncomputable def adLoop : Code := cutC (bodyOf Try.f57) [1, 1, 0, 1, 0, 0]
noncomputable def ad0 : Code := cutC (bodyOf Try.f57) [0]
noncomputable def ad1 : Code := cutC (bodyOf Try.f57) [1, 0]
noncomputable def ad2 : Code := cutC (bodyOf Try.f57) [1, 1, 0, 0]
noncomputable def ad3 : Code := cutC (bodyOf Try.f57) [1, 1, 1]
theorem f57b : Try.f57.body = some (.seq ad0 (.seq ad1 (.seq (.seq ad2 (.block 0 (.loop adLoop))) ad3))) := rfl

def ADI (kids : List X) (tok : Tok) (S0 : St) (i : Nat) (fs : FS) : Prop :=
  fs.t 7 = .slice (embL kids) tok ∧ fs.t 8 = .int .i64 kids.length ∧ fs.t 9 = .int .i64 i ∧ fs.t 3 = .int .i64 (depF (kids.take i)) ∧ fs.S = S0

theorem ad_round (n : Nat) (kids : List X) (tok : Tok) (S0 : St) (hs : kids.length ≤ 1099511627776)
    (hrec : ∀ x ∈ kids, ∀ S, ev Try.prog E n 57 [x.emb] S = some (.ret (.int .i64 x.dep), S)) (i : Nat) (hi : i < kids.length) (fs : FS) (h : ADI kids tok S0 i fs) :
    ∃ fs', evCode ⟨Try.prog, E.esc 57, n⟩ (ev Try.prog E n) (E.ps 57) n adLoop fs = some (.norm, fs') ∧ ADI kids tok S0 (i + 1) fs' := by
  obtain ⟨t, b, v, S⟩ := fs
  obtain ⟨h1, h2, h3, h4, h5⟩ := h
  simp only at h1 h2 h3 h4 h5
  subst h5
  have hltz : (i : Int) < kids.length := by omega
  have hxe : kids[i]? = some kids[i] := List.getElem?_eq_getElem hi
  have hr := hrec kids[i] (List.getElem_mem hi) S
  have hsplit : kids.take (i + 1) = kids.take i ++ [kids[i]] := by rw [List.take_add_one, hxe]; rfl
  have hd : depF (kids.take (i + 1)) = if depF (kids.take i) < kids[i].dep then kids[i].dep else depF (kids.take i) := by rw [hsplit, depF_snoc]
  have hemb : (embL kids)[i]? = some kids[i].emb := by rw [embL_map, List.getElem?_map, hxe]; rfl
  have ha1 := cells_all kids[i]
  have hc1 := (cells_ok kids[i]).2
  have ht1 : List.take 6 kids[i].cells = kids[i].cells := List.take_of_length_le (by omega)
  rw [emb_cells] at hemb hr
  generalize kids[i].dep = d at *
  generalize kids[i].cells = C1 at *
  generalize depF (kids.take i) = e at *
  have hw : IntKind.i64.wrap ((i : Int) + 1) = (i : Int) + 1 := wrap64 _ (by omega)
  obtain ⟨z, hz⟩ := ii24
  by_cases hlt : e < d
  · have hltz' : (e : Int) < d := by omega
    refine ⟨_, by
      simp (disch := first | (simp only [List.length_append, List.length_cons, List.length_nil]; omega) | (simp; done) | assumption) [↓evOp_build, ↓evOp_bslice, rhoP_nil, rhoP_cons, evCode_skip, evCode_region, evCode_draw, evCode_seq, evCode_cond, evCode_block, evCode_loop, evCode_exit, evCode_ret, seqK_ite, seqK_none, seqK_norm, seqK_ret, seqK_exit, seqK_pan, condK_true, condK_false, condK_bool, blockK_ite, blockK_none, blockK_norm, blockK_ret, blockK_exit, blockK_pan, stepK_ite, stepK_none, stepK_ok, stepK_pan, drawK_ite, drawK_none, drawK_ok, drawK_pan, opK_ite, opK_none, opK_val, opK_pan, wantK_true, wantK_false, wantK_some, afterRegion_ite, afterDraw_ite, fromBody_ite, ite_bool, ite_int, stepA_K, doOp, noOp, lexA_nil, lexA_cons, lexF_nil, lexF_cons, afterDraw, noClash, FP.clash, wantedA, evOp, rho, rhoL, ofC0, ofC, argsA, upd, afterRegion, putA, goOp, evBin_add, evBin_sub, evBin_mul, evBin_quo, evBin_rem, evBin_eql, evBin_neq, evBin_lss, evBin_leq, evBin_gtr, evBin_geq, evBin_eqlB, evBin_neqB, evBin_addS, evBin_eqlS, evBin_neqS, evBin_lssS, evBin_leqS, evUn, evConv, evIndex, evBuiltin, evLen, evMin2, evMax2, evCallee, evBox, evLoad, evStore, evFieldAddr, evField, evIndexAddr, evBuild, evBuildSlice, evElems, evSlice, nth, rdc, wrc, fromBody, resA, finRet, oneOf, AV.cells?, AV.isCell, fin_int, fin_bool, fin_str, adLoop, cutC, bodyOf, Try.f57, E_esc, h1, h2, h3, h4, k24, c24, a24, z24, i24, hz, sq22, bq3, hi, hltz, hemb, hr, ha1, hc1, ht1, hlt, hltz']
      rfl, by simp [upd, h1], by simp [upd, h2], by simp [upd, hw], by rw [hd, if_pos hlt]; simp [upd], rfl⟩
  · have hltz' : ¬ (e : Int) < d := by omega
    refine ⟨_, by
      simp (disch := first | (simp only [List.length_append, List.length_cons, List.length_nil]; omega) | (simp; done) | assumption) [↓evOp_build, ↓evOp_bslice, rhoP_nil, rhoP_cons, evCode_skip, evCode_region, evCode_draw, evCode_seq, evCode_cond, evCode_block, evCode_loop, evCode_exit, evCode_ret, seqK_ite, seqK_none, seqK_norm, seqK_ret, seqK_exit, seqK_pan, condK_true, condK_false, condK_bool, blockK_ite, blockK_none, blockK_norm, blockK_ret, blockK_exit, blockK_pan, stepK_ite, stepK_none, stepK_ok, stepK_pan, drawK_ite, drawK_none, drawK_ok, drawK_pan, opK_ite, opK_none, opK_val, opK_pan, wantK_true, wantK_false, wantK_some, afterRegion_ite, afterDraw_ite, fromBody_ite, ite_bool, ite_int, stepA_K, doOp, noOp, lexA_nil, lexA_cons, lexF_nil, lexF_cons, afterDraw, noClash, FP.clash, wantedA, evOp, rho, rhoL, ofC0, ofC, argsA, upd, afterRegion, putA, goOp, evBin_add, evBin_sub, evBin_mul, evBin_quo, evBin_rem, evBin_eql, evBin_neq, evBin_lss, evBin_leq, evBin_gtr, evBin_geq, evBin_eqlB, evBin_neqB, evBin_addS, evBin_eqlS, evBin_neqS, evBin_lssS, evBin_leqS, evUn, evConv, evIndex, evBuiltin, evLen, evMin2, evMax2, evCallee, evBox, evLoad, evStore, evFieldAddr, evField, evIndexAddr, evBuild, evBuildSlice, evElems, evSlice, nth, rdc, wrc, fromBody, resA, finRet, oneOf, AV.cells?, AV.isCell, fin_int, fin_bool, fin_str, adLoop, cutC, bodyOf, Try.f57, E_esc, h1, h2, h3, h4, k24, c24, a24, z24, i24, hz, sq22, bq3, hi, hltz, hemb, hr, ha1, hc1, ht1, hlt, hltz']
      rfl, by simp [upd, h1], by simp [upd, h2], by simp [upd, hw], by rw [hd, if_neg hlt]; simp [upd, h4], rfl⟩

theorem ad_all (n : Nat) (kids : List X) (tok : Tok) (S : St) (hs : kids.length ≤ 1048576) (hl : kids.length < n)
    (hrec : ∀ x ∈ kids, ∀ S, ev Try.prog E n 57 [x.emb] S = some (.ret (.int .i64 x.dep), S)) (fs : FS) (h : ADI kids tok S 0 fs) :
    ∃ fs', iter n (evCode ⟨Try.prog, E.esc 57, n⟩ (ev Try.prog E n) (E.ps 57) n adLoop) fs = some (.exit 0, fs') ∧ fs'.t 3 = .int .i64 (depL kids) ∧ fs'.S = S := by
  obtain ⟨⟨o, fs'⟩, r1, r2, r3⟩ := iter_range (Q := fun r => r.1 = .exit 0 ∧ ADI kids tok S kids.length r.2) (len := kids.length)
    (fun i hi fs h => ad_round n kids tok S (by omega) hrec i hi fs h)
    (fun fs h => by
      obtain ⟨t, b, v, S'⟩ := fs
      obtain ⟨h1, h2, h3, h4, h5⟩ := h
      simp only at h1 h2 h3 h4 h5
      refine ⟨.exit 0, _, by
        simp (disch := first | (simp only [List.length_append, List.length_cons, List.length_nil]; omega) | (simp; done) | assumption) [↓evOp_build, ↓evOp_bslice, rhoP_nil, rhoP_cons, evCode_skip, evCode_region, evCode_draw, evCode_seq, evCode_cond, evCode_block, evCode_loop, evCode_exit, evCode_ret, seqK_ite, seqK_none, seqK_norm, seqK_ret, seqK_exit, seqK_pan, condK_true, condK_false, condK_bool, blockK_ite, blockK_none, blockK_norm, blockK_ret, blockK_exit, blockK_pan, stepK_ite, stepK_none, stepK_ok, stepK_pan, drawK_ite, drawK_none, drawK_ok, drawK_pan, opK_ite, opK_none, opK_val, opK_pan, wantK_true, wantK_false, wantK_some, afterRegion_ite, afterDraw_ite, fromBody_ite, ite_bool, ite_int, stepA_K, doOp, noOp, lexA_nil, lexA_cons, lexF_nil, lexF_cons, afterDraw, noClash, FP.clash, wantedA, evOp, rho, rhoL, ofC0, ofC, argsA, upd, afterRegion, putA, goOp, evBin_add, evBin_sub, evBin_mul, evBin_quo, evBin_rem, evBin_eql, evBin_neq, evBin_lss, evBin_leq, evBin_gtr, evBin_geq, evBin_eqlB, evBin_neqB, evBin_addS, evBin_eqlS, evBin_neqS, evBin_lssS, evBin_leqS, evUn, evConv, evIndex, evBuiltin, evLen, evMin2, evMax2, evCallee, evBox, evLoad, evStore, evFieldAddr, evField, evIndexAddr, evBuild, evBuildSlice, evElems, evSlice, nth, rdc, wrc, fromBody, resA, finRet, oneOf, AV.cells?, AV.isCell, fin_int, fin_bool, fin_str, adLoop, cutC, bodyOf, Try.f57, h1, h2, h3, bq3]
        rfl, by simp, rfl, by simp [upd, h1], by simp [upd, h2], by simp [upd, h3], by simp [upd, h4], h5⟩) kids.length 0 n fs (by omega) hl h
  simp only at r2
  subst r2
  obtain ⟨_, _, _, q4, q5⟩ := r3
  rw [List.take_length, depF_eq] at q4
  exact ⟨fs', r1, q4, q5⟩

theorem ev_aDepth : ∀ (m : Nat) (x : X), x.size ≤ m → m ≤ 1048576 → ∀ n, m + 2 ≤ n → ∀ S, ev Try.prog E n 57 [x.emb] S = some (.ret (.int .i64 x.dep), S)
  | 0, x, hm, _, _, _, _ => absurd hm (by have := size_pos x; omega)
  | m + 1, x, hm, hmm, n, hn, S => by
    obtain ⟨n, rfl⟩ : ∃ k, n = k + 2 := ⟨n - 2, by omega⟩
    have hds := dep_size x
    obtain ⟨k, nm, a, lo, hi, tk, kids⟩ := x
    simp only [X.size] at hm hds
    have hl := sizeL_length kids
    have hin := ev_inner n k nm a lo hi tk kids S
    have hlen := embL_length kids
    simp only [X.emb] at hin ⊢
    rw [ev_enter (n := n + 1) (show E.ok 57 = true from rfl) Try.func57 f57b (Nat.le_of_ble_eq_true rfl) (by decide +kernel)]
    cases h4 : k == 4
    · rw [h4] at hin
      simp only [Bool.false_eq_true, if_false] at hin
      obtain ⟨⟨t, b, v, S'⟩, hr, g3, g5⟩ := ad_all (n + 1) kids (tokOf tk) S (by omega) (by omega) (fun x hx S => ev_aDepth m x (by have := sizeL_mem hx; omega) (by omega) (n + 1) (by omega) S)
        ⟨upd 9 (.int .i64 0) (upd 8 (.int .i64 kids.length) (upd 7 (.slice (embL kids) (tokOf tk)) (upd 6 (.agg [.int .i64 k, .str nm, .int .i64 a, .int .i64 lo, .int .i64 hi, .slice (embL kids) (tokOf tk)]) (upd 3 (.int .i64 0) (upd 2 (.int .i64 0) (upd 1 (.loc (n + 1) 1 1 0) (argsA [.agg [.int .i64 k, .str nm, .int .i64 a, .int .i64 lo, .int .i64 hi, .slice (embL kids) (tokOf tk)]]))))))),
          upd 1 (1, [.int .i64 k, .str nm, .int .i64 a, .int .i64 lo, .int .i64 hi, .slice (embL kids) (tokOf tk)]) (fun _ => (0, [])), 7, S⟩
        ⟨by simp [upd], by simp [upd], by simp [upd], by simp [upd, depF], rfl⟩
      simp only at g3 g5
      subst g5
      have w1 : IntKind.i64.wrap ((depL kids : Int) + 1) = (depL kids : Int) + 1 := wrap64 _ (by have := depL_size kids; omega)
      simp (disch := first | (simp only [List.length_append, List.length_cons, List.length_nil]; omega) | (simp; done) | assumption) [↓evOp_build, ↓evOp_bslice, rhoP_nil, rhoP_cons, evCode_skip, evCode_region, evCode_draw, evCode_seq, evCode_cond, evCode_block, evCode_loop, evCode_exit, evCode_ret, seqK_ite, seqK_none, seqK_norm, seqK_ret, seqK_exit, seqK_pan, condK_true, condK_false, condK_bool, blockK_ite, blockK_none, blockK_norm, blockK_ret, blockK_exit, blockK_pan, stepK_ite, stepK_none, stepK_ok, stepK_pan, drawK_ite, drawK_none, drawK_ok, drawK_pan, opK_ite, opK_none, opK_val, opK_pan, wantK_true, wantK_false, wantK_some, afterRegion_ite, afterDraw_ite, fromBody_ite, ite_bool, ite_int, stepA_K, doOp, noOp, lexA_nil, lexA_cons, lexF_nil, lexF_cons, afterDraw, noClash, FP.clash, wantedA, evOp, rho, rhoL, ofC0, ofC, argsA, upd, afterRegion, putA, goOp, evBin_add, evBin_sub, evBin_mul, evBin_quo, evBin_rem, evBin_eql, evBin_neq, evBin_lss, evBin_leq, evBin_gtr, evBin_geq, evBin_eqlB, evBin_neqB, evBin_addS, evBin_eqlS, evBin_neqS, evBin_lssS, evBin_leqS, evUn, evConv, evIndex, evBuiltin, evLen, evMin2, evMax2, evCallee, evBox, evLoad, evStore, evFieldAddr, evField, evIndexAddr, evBuild, evBuildSlice, evElems, evSlice, nth, rdc, wrc, fromBody, resA, finRet, oneOf, AV.cells?, AV.isCell, fin_int, fin_bool, fin_str, ad0, ad1, ad2, ad3, cutC, bodyOf, Try.f57, E_esc, k24, c24, a24, sq22, bq3, hin, hlen, hr, g3, w1, X.dep, h4]
    · rw [h4] at hin
      simp only [if_true] at hin
      obtain ⟨⟨t, b, v, S'⟩, hr, g3, g5⟩ := ad_all (n + 1) [] .clip S (by simp) (by simp) (fun x hx S => by cases hx)
        ⟨upd 9 (.int .i64 0) (upd 8 (.int .i64 0) (upd 7 (.slice [] .clip) (upd 6 (.agg [.int .i64 k, .str nm, .int .i64 a, .int .i64 lo, .int .i64 hi, .slice (embL kids) (tokOf tk)]) (upd 3 (.int .i64 0) (upd 2 (.int .i64 0) (upd 1 (.loc (n + 1) 1 1 0) (argsA [.agg [.int .i64 k, .str nm, .int .i64 a, .int .i64 lo, .int .i64 hi, .slice (embL kids) (tokOf tk)]]))))))),
          upd 1 (1, [.int .i64 k, .str nm, .int .i64 a, .int .i64 lo, .int .i64 hi, .slice (embL kids) (tokOf tk)]) (fun _ => (0, [])), 7, S⟩
        ⟨by simp [upd, embL], by simp [upd], by simp [upd], by simp [upd, depF], rfl⟩
      simp only at g3 g5
      subst g5
      have w1 : IntKind.i64.wrap 1 = 1 := wrap64 _ (by omega)
      simp (disch := first | (simp only [List.length_append, List.length_cons, List.length_nil]; omega) | (simp; done) | assumption) [↓evOp_build, ↓evOp_bslice, rhoP_nil, rhoP_cons, evCode_skip, evCode_region, evCode_draw, evCode_seq, evCode_cond, evCode_block, evCode_loop, evCode_exit, evCode_ret, seqK_ite, seqK_none, seqK_norm, seqK_ret, seqK_exit, seqK_pan, condK_true, condK_false, condK_bool, blockK_ite, blockK_none, blockK_norm, blockK_ret, blockK_exit, blockK_pan, stepK_ite, stepK_none, stepK_ok, stepK_pan, drawK_ite, drawK_none, drawK_ok, drawK_pan, opK_ite, opK_none, opK_val, opK_pan, wantK_true, wantK_false, wantK_some, afterRegion_ite, afterDraw_ite, fromBody_ite, ite_bool, ite_int, stepA_K, doOp, noOp, lexA_nil, lexA_cons, lexF_nil, lexF_cons, afterDraw, noClash, FP.clash, wantedA, evOp, rho, rhoL, ofC0, ofC, argsA, upd, afterRegion, putA, goOp, evBin_add, evBin_sub, evBin_mul, evBin_quo, evBin_rem, evBin_eql, evBin_neq, evBin_lss, evBin_leq, evBin_gtr, evBin_geq, evBin_eqlB, evBin_neqB, evBin_addS, evBin_eqlS, evBin_neqS, evBin_lssS, evBin_leqS, evUn, evConv, evIndex, evBuiltin, evLen, evMin2, evMax2, evCallee, evBox, evLoad, evStore, evFieldAddr, evField, evIndexAddr, evBuild, evBuildSlice, evElems, evSlice, nth, rdc, wrc, fromBody, resA, finRet, oneOf, AV.cells?, AV.isCell, fin_int, fin_bool, fin_str, ad0, ad1, ad2, ad3, cutC, bodyOf, Try.f57, E_esc, k24, c24, a24, sq22, bq3, hin, hr, g3, w1, X.dep, h4, depL]
end Go.Proofs.Ytemggoaefohliaa.NF

/- ast's size, evaluated. No condition. -/
namespace Go.Proofs.Ytemggoaefohliaa.NF
set_option linter.unusedVariables false
set_option linter.unusedSimpArgs false
open Go AE EX PT
set_option maxRecDepth 100000

noncomputable def szLoop : Code := cutC (bodyOf Try.f58) [1, 1, 0, 1, 0, 0]
noncomputable def sz0 : Code := cutC (bodyOf Try.f58) [0]
noncomputable def sz1 : Code := cutC (bodyOf Try.f58) [1, 0]
noncomputable def sz2 : Code := cutC (bodyOf Try.f58) [1, 1, 0, 0]
noncomputable def sz3 : Code := cutC (bodyOf Try.f58) [1, 1, 1]
theorem f58b : Try.f58.body = some (.seq sz0 (.seq sz1 (.seq (.seq sz2 (.block 0 (.loop szLoop))) sz3))) := rfl

def SZI (kids : List X) (tok : Tok) (S0 : St) (i : Nat) (fs : FS) : Prop :=
  fs.t 7 = .slice (embL kids) tok ∧ fs.t 8 = .int .i64 kids.length ∧ fs.t 9 = .int .i64 i ∧ fs.t 3 = .int .i64 (((nodesL (kids.take i)).length : Int) + 1) ∧ fs.S = S0

theorem sz_round (n : Nat) (kids : List X) (tok : Tok) (S0 : St) (hs : sizeL kids ≤ 1048576)
    (hrec : ∀ x ∈ kids, ∀ S, ev Try.prog E n 58 [x.emb] S = some (.ret (.int .i64 x.nodes.length), S)) (i : Nat) (hi : i < kids.length) (fs : FS) (h : SZI kids tok S0 i fs) :
    ∃ fs', evCode ⟨Try.prog, E.esc 58, n⟩ (ev Try.prog E n) (E.ps 58) n szLoop fs = some (.norm, fs') ∧ SZI kids tok S0 (i + 1) fs' := by
  obtain ⟨t, b, v, S⟩ := fs
  obtain ⟨h1, h2, h3, h4, h5⟩ := h
  simp only at h1 h2 h3 h4 h5
  subst h5
  have hlk := sizeL_length kids
  have hltz : (i : Int) < kids.length := by omega
  have hxe : kids[i]? = some kids[i] := List.getElem?_eq_getElem hi
  have hr := hrec kids[i] (List.getElem_mem hi) S
  have hsplit : kids.take (i + 1) = kids.take i ++ [kids[i]] := by rw [List.take_add_one, hxe]; rfl
  have hd : (nodesL (kids.take (i + 1))).length = (nodesL (kids.take i)).length + kids[i].nodes.length := by rw [hsplit, nodesL_append]; simp [nodesL]
  have hb1 := nodesL_size (kids.take (i + 1))
  have hb2 := take_size kids (i + 1)
  have hemb : (embL kids)[i]? = some kids[i].emb := by rw [embL_map, List.getElem?_map, hxe]; rfl
  have ha1 := cells_all kids[i]
  have hc1 := (cells_ok kids[i]).2
  have ht1 : List.take 6 kids[i].cells = kids[i].cells := List.take_of_length_le (by omega)
  rw [emb_cells] at hemb hr
  generalize kids[i].nodes.length = d at *
  generalize kids[i].cells = C1 at *
  generalize (nodesL (kids.take i)).length = e at *
  have hw : IntKind.i64.wrap ((i : Int) + 1) = (i : Int) + 1 := wrap64 _ (by omega)
  have hw2 : IntKind.i64.wrap ((e : Int) + 1 + d) = (e : Int) + 1 + d := wrap64 _ (by omega)
  obtain ⟨z, hz⟩ := ii24
  refine ⟨_, by
    simp (disch := first | (simp only [List.length_append, List.length_cons, List.length_nil]; omega) | (simp; done) | assumption) [↓evOp_build, ↓evOp_bslice, rhoP_nil, rhoP_cons, evCode_skip, evCode_region, evCode_draw, evCode_seq, evCode_cond, evCode_block, evCode_loop, evCode_exit, evCode_ret, seqK_ite, seqK_none, seqK_norm, seqK_ret, seqK_exit, seqK_pan, condK_true, condK_false, condK_bool, blockK_ite, blockK_none, blockK_norm, blockK_ret, blockK_exit, blockK_pan, stepK_ite, stepK_none, stepK_ok, stepK_pan, drawK_ite, drawK_none, drawK_ok, drawK_pan, opK_ite, opK_none, opK_val, opK_pan, wantK_true, wantK_false, wantK_some, afterRegion_ite, afterDraw_ite, fromBody_ite, ite_bool, ite_int, stepA_K, doOp, noOp, lexA_nil, lexA_cons, lexF_nil, lexF_cons, afterDraw, noClash, FP.clash, wantedA, evOp, rho, rhoL, ofC0, ofC, argsA, upd, afterRegion, putA, goOp, evBin_add, evBin_sub, evBin_mul, evBin_quo, evBin_rem, evBin_eql, evBin_neq, evBin_lss, evBin_leq, evBin_gtr, evBin_geq, evBin_eqlB, evBin_neqB, evBin_addS, evBin_eqlS, evBin_neqS, evBin_lssS, evBin_leqS, evUn, evConv, evIndex, evBuiltin, evLen, evMin2, evMax2, evCallee, evBox, evLoad, evStore, evFieldAddr, evField, evIndexAddr, evBuild, evBuildSlice, evElems, evSlice, nth, rdc, wrc, fromBody, resA, finRet, oneOf, AV.cells?, AV.isCell, fin_int, fin_bool, fin_str, szLoop, cutC, bodyOf, Try.f58, E_esc, h1, h2, h3, h4, k24, c24, a24, z24, i24, hz, sq22, bq3, hi, hltz, hemb, hr, ha1, hc1, ht1, hw2]
    rfl, by simp [upd, h1], by simp [upd, h2], by simp [upd, hw], by rw [hd]; simp [upd]; omega, rfl⟩

theorem sz_all (n : Nat) (kids : List X) (tok : Tok) (S : St) (hs : sizeL kids ≤ 1048576) (hl : kids.length < n)
    (hrec : ∀ x ∈ kids, ∀ S, ev Try.prog E n 58 [x.emb] S = some (.ret (.int .i64 x.nodes.length), S)) (fs : FS) (h : SZI kids tok S 0 fs) :
    ∃ fs', iter n (evCode ⟨Try.prog, E.esc 58, n⟩ (ev Try.prog E n) (E.ps 58) n szLoop) fs = some (.exit 0, fs') ∧ fs'.t 3 = .int .i64 (((nodesL kids).length : Int) + 1) ∧ fs'.S = S := by
  obtain ⟨⟨o, fs'⟩, r1, r2, r3⟩ := iter_range (Q := fun r => r.1 = .exit 0 ∧ SZI kids tok S kids.length r.2) (len := kids.length)
    (fun i hi fs h => sz_round n kids tok S hs hrec i hi fs h)
    (fun fs h => by
      obtain ⟨t, b, v, S'⟩ := fs
      obtain ⟨h1, h2, h3, h4, h5⟩ := h
      simp only at h1 h2 h3 h4 h5
      refine ⟨.exit 0, _, by
        simp (disch := first | (simp only [List.length_append, List.length_cons, List.length_nil]; omega) | (simp; done) | assumption) [↓evOp_build, ↓evOp_bslice, rhoP_nil, rhoP_cons, evCode_skip, evCode_region, evCode_draw, evCode_seq, evCode_cond, evCode_block, evCode_loop, evCode_exit, evCode_ret, seqK_ite, seqK_none, seqK_norm, seqK_ret, seqK_exit, seqK_pan, condK_true, condK_false, condK_bool, blockK_ite, blockK_none, blockK_norm, blockK_ret, blockK_exit, blockK_pan, stepK_ite, stepK_none, stepK_ok, stepK_pan, drawK_ite, drawK_none, drawK_ok, drawK_pan, opK_ite, opK_none, opK_val, opK_pan, wantK_true, wantK_false, wantK_some, afterRegion_ite, afterDraw_ite, fromBody_ite, ite_bool, ite_int, stepA_K, doOp, noOp, lexA_nil, lexA_cons, lexF_nil, lexF_cons, afterDraw, noClash, FP.clash, wantedA, evOp, rho, rhoL, ofC0, ofC, argsA, upd, afterRegion, putA, goOp, evBin_add, evBin_sub, evBin_mul, evBin_quo, evBin_rem, evBin_eql, evBin_neq, evBin_lss, evBin_leq, evBin_gtr, evBin_geq, evBin_eqlB, evBin_neqB, evBin_addS, evBin_eqlS, evBin_neqS, evBin_lssS, evBin_leqS, evUn, evConv, evIndex, evBuiltin, evLen, evMin2, evMax2, evCallee, evBox, evLoad, evStore, evFieldAddr, evField, evIndexAddr, evBuild, evBuildSlice, evElems, evSlice, nth, rdc, wrc, fromBody, resA, finRet, oneOf, AV.cells?, AV.isCell, fin_int, fin_bool, fin_str, szLoop, cutC, bodyOf, Try.f58, h1, h2, h3, bq3]
        rfl, by simp, rfl, by simp [upd, h1], by simp [upd, h2], by simp [upd, h3], by simp [upd, h4], h5⟩) kids.length 0 n fs (by omega) hl h
  simp only at r2
  subst r2
  obtain ⟨_, _, _, q4, q5⟩ := r3
  rw [List.take_length] at q4
  exact ⟨fs', r1, q4, q5⟩

theorem ev_aSize : ∀ (m : Nat) (x : X), x.size ≤ m → m ≤ 1048576 → ∀ n, m + 2 ≤ n → ∀ S, ev Try.prog E n 58 [x.emb] S = some (.ret (.int .i64 x.nodes.length), S)
  | 0, x, hm, _, _, _, _ => absurd hm (by have := size_pos x; omega)
  | m + 1, x, hm, hmm, n, hn, S => by
    obtain ⟨n, rfl⟩ : ∃ k, n = k + 2 := ⟨n - 2, by omega⟩
    have hds := nodes_size x
    obtain ⟨k, nm, a, lo, hi, tk, kids⟩ := x
    simp only [X.size] at hm hds
    have hl := sizeL_length kids
    have hin := ev_inner n k nm a lo hi tk kids S
    have hlen := embL_length kids
    simp only [X.emb] at hin ⊢
    rw [ev_enter (n := n + 1) (show E.ok 58 = true from rfl) Try.func58 f58b (Nat.le_of_ble_eq_true rfl) (by decide +kernel)]
    cases h4 : k == 4
    · rw [h4] at hin
      simp only [Bool.false_eq_true, if_false] at hin
      obtain ⟨⟨t, b, v, S'⟩, hr, g3, g5⟩ := sz_all (n + 1) kids (tokOf tk) S (by omega) (by omega) (fun x hx S => ev_aSize m x (by have := sizeL_mem hx; omega) (by omega) (n + 1) (by omega) S)
        ⟨upd 9 (.int .i64 0) (upd 8 (.int .i64 kids.length) (upd 7 (.slice (embL kids) (tokOf tk)) (upd 6 (.agg [.int .i64 k, .str nm, .int .i64 a, .int .i64 lo, .int .i64 hi, .slice (embL kids) (tokOf tk)]) (upd 3 (.int .i64 1) (upd 2 (.int .i64 0) (upd 1 (.loc (n + 1) 1 1 0) (argsA [.agg [.int .i64 k, .str nm, .int .i64 a, .int .i64 lo, .int .i64 hi, .slice (embL kids) (tokOf tk)]]))))))),
          upd 1 (1, [.int .i64 k, .str nm, .int .i64 a, .int .i64 lo, .int .i64 hi, .slice (embL kids) (tokOf tk)]) (fun _ => (0, [])), 7, S⟩
        ⟨by simp [upd], by simp [upd], by simp [upd], by simp [upd, nodesL], rfl⟩
      simp only at g3 g5
      subst g5
      simp (disch := first | (simp only [List.length_append, List.length_cons, List.length_nil]; omega) | (simp; done) | assumption) [↓evOp_build, ↓evOp_bslice, rhoP_nil, rhoP_cons, evCode_skip, evCode_region, evCode_draw, evCode_seq, evCode_cond, evCode_block, evCode_loop, evCode_exit, evCode_ret, seqK_ite, seqK_none, seqK_norm, seqK_ret, seqK_exit, seqK_pan, condK_true, condK_false, condK_bool, blockK_ite, blockK_none, blockK_norm, blockK_ret, blockK_exit, blockK_pan, stepK_ite, stepK_none, stepK_ok, stepK_pan, drawK_ite, drawK_none, drawK_ok, drawK_pan, opK_ite, opK_none, opK_val, opK_pan, wantK_true, wantK_false, wantK_some, afterRegion_ite, afterDraw_ite, fromBody_ite, ite_bool, ite_int, stepA_K, doOp, noOp, lexA_nil, lexA_cons, lexF_nil, lexF_cons, afterDraw, noClash, FP.clash, wantedA, evOp, rho, rhoL, ofC0, ofC, argsA, upd, afterRegion, putA, goOp, evBin_add, evBin_sub, evBin_mul, evBin_quo, evBin_rem, evBin_eql, evBin_neq, evBin_lss, evBin_leq, evBin_gtr, evBin_geq, evBin_eqlB, evBin_neqB, evBin_addS, evBin_eqlS, evBin_neqS, evBin_lssS, evBin_leqS, evUn, evConv, evIndex, evBuiltin, evLen, evMin2, evMax2, evCallee, evBox, evLoad, evStore, evFieldAddr, evField, evIndexAddr, evBuild, evBuildSlice, evElems, evSlice, nth, rdc, wrc, fromBody, resA, finRet, oneOf, AV.cells?, AV.isCell, fin_int, fin_bool, fin_str, sz0, sz1, sz2, sz3, cutC, bodyOf, Try.f58, E_esc, k24, c24, a24, sq22, bq3, hin, hlen, hr, g3, X.nodes, h4]
    · rw [h4] at hin
      simp only [if_true] at hin
      obtain ⟨⟨t, b, v, S'⟩, hr, g3, g5⟩ := sz_all (n + 1) [] .clip S (by simp [sizeL]) (by simp) (fun x hx S => by cases hx)
        ⟨upd 9 (.int .i64 0) (upd 8 (.int .i64 0) (upd 7 (.slice [] .clip) (upd 6 (.agg [.int .i64 k, .str nm, .int .i64 a, .int .i64 lo, .int .i64 hi, .slice (embL kids) (tokOf tk)]) (upd 3 (.int .i64 1) (upd 2 (.int .i64 0) (upd 1 (.loc (n + 1) 1 1 0) (argsA [.agg [.int .i64 k, .str nm, .int .i64 a, .int .i64 lo, .int .i64 hi, .slice (embL kids) (tokOf tk)]]))))))),
          upd 1 (1, [.int .i64 k, .str nm, .int .i64 a, .int .i64 lo, .int .i64 hi, .slice (embL kids) (tokOf tk)]) (fun _ => (0, [])), 7, S⟩
        ⟨by simp [upd, embL], by simp [upd], by simp [upd], by simp [upd, nodesL], rfl⟩
      simp only at g3 g5
      subst g5
      simp (disch := first | (simp only [List.length_append, List.length_cons, List.length_nil]; omega) | (simp; done) | assumption) [↓evOp_build, ↓evOp_bslice, rhoP_nil, rhoP_cons, evCode_skip, evCode_region, evCode_draw, evCode_seq, evCode_cond, evCode_block, evCode_loop, evCode_exit, evCode_ret, seqK_ite, seqK_none, seqK_norm, seqK_ret, seqK_exit, seqK_pan, condK_true, condK_false, condK_bool, blockK_ite, blockK_none, blockK_norm, blockK_ret, blockK_exit, blockK_pan, stepK_ite, stepK_none, stepK_ok, stepK_pan, drawK_ite, drawK_none, drawK_ok, drawK_pan, opK_ite, opK_none, opK_val, opK_pan, wantK_true, wantK_false, wantK_some, afterRegion_ite, afterDraw_ite, fromBody_ite, ite_bool, ite_int, stepA_K, doOp, noOp, lexA_nil, lexA_cons, lexF_nil, lexF_cons, afterDraw, noClash, FP.clash, wantedA, evOp, rho, rhoL, ofC0, ofC, argsA, upd, afterRegion, putA, goOp, evBin_add, evBin_sub, evBin_mul, evBin_quo, evBin_rem, evBin_eql, evBin_neq, evBin_lss, evBin_leq, evBin_gtr, evBin_geq, evBin_eqlB, evBin_neqB, evBin_addS, evBin_eqlS, evBin_neqS, evBin_lssS, evBin_leqS, evUn, evConv, evIndex, evBuiltin, evLen, evMin2, evMax2, evCallee, evBox, evLoad, evStore, evFieldAddr, evField, evIndexAddr, evBuild, evBuildSlice, evElems, evSlice, nth, rdc, wrc, fromBody, resA, finRet, oneOf, AV.cells?, AV.isCell, fin_int, fin_bool, fin_str, sz0, sz1, sz2, sz3, cutC, bodyOf, Try.f58, E_esc, k24, c24, a24, sq22, bq3, hin, hr, g3, X.nodes, h4, nodesL]
end Go.Proofs.Ytemggoaefohliaa.NF

/- lex's names and texts, evaluated. No condition. -/
namespace Go.Proofs.Ytemggoaefohliaa.NF
set_option linter.unusedVariables false
set_option linter.unusedSimpArgs false
open Go AE EX PT
set_option maxRecDepth 100000

def low5 (c : Int) : Int := IntKind.u8.wrap (BitVec.ofInt IntKind.u8.bits c ||| BitVec.ofInt IntKind.u8.bits 32).toNat
theorem evBin_or {bq : Bool} {a : Int} : evBin bq .or (.int .u8 a) (.int .u8 32) = some (.int .u8 (low5 a)) := by rw [evBin]; rfl
theorem letter256 : ∀ i : Fin 256, ((decide (97 ≤ low5 i.val) && decide (low5 i.val ≤ 122)) || ((i.val : Int) == 95)) = headB i.val := by decide +kernel
theorem letter_head (c : UInt8) : ((decide (97 ≤ low5 c.toNat) && decide (low5 c.toNat ≤ 122)) || ((c.toNat : Int) == 95)) = headB c.toNat := letter256 ⟨c.toNat, c.toNat_lt⟩

theorem ev_letter (n : Nat) (c : UInt8) (S : St) : ev Try.prog E (n + 1) 85 [.int .u8 (c.toNat : Int)] S = some (.ret (.bool (headB c.toNat)), S) := by
  rw [ev_enter (n := n) (show E.ok 85 = true from rfl) Try.func85 (fn := Try.f85) rfl (Nat.le_of_ble_eq_true rfl) (by decide +kernel)]
  rw [← letter_head]
  cases h1 : decide (97 ≤ low5 c.toNat) <;> cases h2 : decide (low5 c.toNat ≤ 122) <;> cases h3 : ((c.toNat : Int) == 95) <;>
    simp (disch := first | (simp only [List.length_append, List.length_cons, List.length_nil]; omega) | (simp; done) | assumption) [↓evOp_build, ↓evOp_bslice, rhoP_nil, rhoP_cons, evCode_skip, evCode_region, evCode_draw, evCode_seq, evCode_cond, evCode_block, evCode_loop, evCode_exit, evCode_ret, seqK_ite, seqK_none, seqK_norm, seqK_ret, seqK_exit, seqK_pan, condK_true, condK_false, condK_bool, blockK_ite, blockK_none, blockK_norm, blockK_ret, blockK_exit, blockK_pan, stepK_ite, stepK_none, stepK_ok, stepK_pan, drawK_ite, drawK_none, drawK_ok, drawK_pan, opK_ite, opK_none, opK_val, opK_pan, wantK_true, wantK_false, wantK_some, afterRegion_ite, afterDraw_ite, fromBody_ite, ite_bool, ite_int, stepA_K, doOp, noOp, lexA_nil, lexA_cons, lexF_nil, lexF_cons, afterDraw, noClash, FP.clash, wantedA, evOp, rho, rhoL, ofC0, ofC, argsA, upd, afterRegion, putA, goOp, evBin_add, evBin_sub, evBin_mul, evBin_quo, evBin_rem, evBin_eql, evBin_neq, evBin_lss, evBin_leq, evBin_gtr, evBin_geq, evBin_eqlB, evBin_neqB, evBin_addS, evBin_eqlS, evBin_neqS, evBin_lssS, evBin_leqS, evUn, evConv, evIndex, evBuiltin, evLen, evMin2, evMax2, evCallee, evBox, evLoad, evStore, evFieldAddr, evField, evIndexAddr, evBuild, evBuildSlice, evElems, evSlice, nth, rdc, wrc, fromBody, resA, finRet, oneOf, AV.cells?, AV.isCell, fin_int, fin_bool, fin_str, evBin_or, Try.f85, bq5, h1, h2, h3]

def digB (c : Int) : Bool := decide (48 ≤ c) && decide (c ≤ 57)
theorem ev_digit (n : Nat) (c : Int) (S : St) : ev Try.prog E (n + 1) 86 [.int .u8 c] S = some (.ret (.bool (digB c)), S) := by
  rw [ev_enter (n := n) (show E.ok 86 = true from rfl) Try.func86 (fn := Try.f86) rfl (Nat.le_of_ble_eq_true rfl) (by decide +kernel)]
  cases h1 : decide (48 ≤ c) <;> cases h2 : decide (c ≤ 57) <;>
    simp (disch := first | (simp only [List.length_append, List.length_cons, List.length_nil]; omega) | (simp; done) | assumption) [↓evOp_build, ↓evOp_bslice, rhoP_nil, rhoP_cons, evCode_skip, evCode_region, evCode_draw, evCode_seq, evCode_cond, evCode_block, evCode_loop, evCode_exit, evCode_ret, seqK_ite, seqK_none, seqK_norm, seqK_ret, seqK_exit, seqK_pan, condK_true, condK_false, condK_bool, blockK_ite, blockK_none, blockK_norm, blockK_ret, blockK_exit, blockK_pan, stepK_ite, stepK_none, stepK_ok, stepK_pan, drawK_ite, drawK_none, drawK_ok, drawK_pan, opK_ite, opK_none, opK_val, opK_pan, wantK_true, wantK_false, wantK_some, afterRegion_ite, afterDraw_ite, fromBody_ite, ite_bool, ite_int, stepA_K, doOp, noOp, lexA_nil, lexA_cons, lexF_nil, lexF_cons, afterDraw, noClash, FP.clash, wantedA, evOp, rho, rhoL, ofC0, ofC, argsA, upd, afterRegion, putA, goOp, evBin_add, evBin_sub, evBin_mul, evBin_quo, evBin_rem, evBin_eql, evBin_neq, evBin_lss, evBin_leq, evBin_gtr, evBin_geq, evBin_eqlB, evBin_neqB, evBin_addS, evBin_eqlS, evBin_neqS, evBin_lssS, evBin_leqS, evUn, evConv, evIndex, evBuiltin, evLen, evMin2, evMax2, evCallee, evBox, evLoad, evStore, evFieldAddr, evField, evIndexAddr, evBuild, evBuildSlice, evElems, evSlice, nth, rdc, wrc, fromBody, resA, finRet, oneOf, AV.cells?, AV.isCell, fin_int, fin_bool, fin_str, Try.f86, bq5, digB, h1, h2]

/-! ### names -/
noncomputable def nmLoop : Code := cutC (bodyOf Try.f79) [1, 0, 1, 0, 0]
noncomputable def nm0 : Code := cutC (bodyOf Try.f79) [0]
noncomputable def nm1 : Code := cutC (bodyOf Try.f79) [1, 0, 0]
noncomputable def nm2 : Code := cutC (bodyOf Try.f79) [1, 1]
theorem f79b : Try.f79.body = some (.seq nm0 (.seq (.seq nm1 (.block 0 (.loop nmLoop))) nm2)) := rfl

def nmOK (s : List UInt8) (j : Nat) : Prop := ∀ c, s[j]? = some c → (headB c.toNat || (j != 0 && digB c.toNat)) = true
def NMI (s : List UInt8) (S0 : St) (m : Nat) (fs : FS) : Prop :=
  ∃ i, i + m = s.length ∧ fs.t 0 = .str s ∧ fs.t 5 = .int .i64 s.length ∧ fs.t 6 = .int .i64 i ∧ fs.S = S0 ∧ ∀ j, j < i → nmOK s j
def NMQ (s : List UInt8) (S0 : St) (r : Out × FS) : Prop :=
  r.2.S = S0 ∧ ((r.1 = .exit 0 ∧ r.2.t 0 = .str s ∧ ∀ j, j < s.length → nmOK s j) ∨ (r.1 = .ret ∧ r.2.t 2 = .bool false ∧ ∃ j, ¬ nmOK s j))

theorem nm_round (n : Nat) (s : List UInt8) (S0 : St) (hs : s.length ≤ 1048576) (m : Nat) (fs : FS) (h : NMI s S0 m fs) :
    ∃ o fs', evCode ⟨Try.prog, E.esc 79, n + 1⟩ (ev Try.prog E (n + 1)) (E.ps 79) (n + 1) nmLoop fs = some (o, fs') ∧ ((o = .norm ∧ ∃ m', m' < m ∧ NMI s S0 m' fs') ∨ (o ≠ .norm ∧ NMQ s S0 (o, fs'))) := by
  obtain ⟨t, b, v, S⟩ := fs
  obtain ⟨i, hi, h1, h2, h3, h4, h5⟩ := h
  simp only at h1 h2 h3 h4
  subst h4
  cases m with
  | zero =>
    have hi : i = s.length := by omega
    subst hi
    refine ⟨.exit 0, _, by
      simp (disch := first | (simp only [List.length_append, List.length_cons, List.length_nil]; omega) | (simp; done) | assumption) [↓evOp_build, ↓evOp_bslice, rhoP_nil, rhoP_cons, evCode_skip, evCode_region, evCode_draw, evCode_seq, evCode_cond, evCode_block, evCode_loop, evCode_exit, evCode_ret, seqK_ite, seqK_none, seqK_norm, seqK_ret, seqK_exit, seqK_pan, condK_true, condK_false, condK_bool, blockK_ite, blockK_none, blockK_norm, blockK_ret, blockK_exit, blockK_pan, stepK_ite, stepK_none, stepK_ok, stepK_pan, drawK_ite, drawK_none, drawK_ok, drawK_pan, opK_ite, opK_none, opK_val, opK_pan, wantK_true, wantK_false, wantK_some, afterRegion_ite, afterDraw_ite, fromBody_ite, ite_bool, ite_int, stepA_K, doOp, noOp, lexA_nil, lexA_cons, lexF_nil, lexF_cons, afterDraw, noClash, FP.clash, wantedA, evOp, rho, rhoL, ofC0, ofC, argsA, upd, afterRegion, putA, goOp, evBin_add, evBin_sub, evBin_mul, evBin_quo, evBin_rem, evBin_eql, evBin_neq, evBin_lss, evBin_leq, evBin_gtr, evBin_geq, evBin_eqlB, evBin_neqB, evBin_addS, evBin_eqlS, evBin_neqS, evBin_lssS, evBin_leqS, evUn, evConv, evIndex, evBuiltin, evLen, evMin2, evMax2, evCallee, evBox, evLoad, evStore, evFieldAddr, evField, evIndexAddr, evBuild, evBuildSlice, evElems, evSlice, nth, rdc, wrc, fromBody, resA, finRet, oneOf, AV.cells?, AV.isCell, fin_int, fin_bool, fin_str, nmLoop, cutC, bodyOf, Try.f79, h1, h2, h3, bq3, sq9]
      rfl, .inr ⟨by simp, rfl, .inl ⟨rfl, by simp [upd, h1], h5⟩⟩⟩
  | succ m =>
    have hlt : i < s.length := by omega
    have hltz : (i : Int) < s.length := by omega
    have hxe : s[i]? = some s[i] := List.getElem?_eq_getElem hlt
    have hw : IntKind.i64.wrap ((i : Int) + 1) = (i : Int) + 1 := wrap64 _ (by omega)
    have hL := ev_letter n s[i] S
    have hD := ev_digit n (s[i].toNat : Int) S
    have hidx : evIndex Try.prog 9 (.str s) (.int .i64 (i : Int)) = some (.int .u8 (s[i].toNat : Int)) := by simp [evIndex, sq9, hlt]
    generalize s[i] = c at *
    have good : (headB c.toNat || (i != 0 && digB c.toNat)) = true → ∀ j, j < i + 1 → nmOK s j := fun hg j hj => by
      by_cases hji : j = i
      · subst hji; intro c' hc'; rw [hxe] at hc'; cases hc'; exact hg
      · exact h5 j (by omega)
    cases e1 : headB c.toNat
    · rw [e1] at hL
      cases e0 : ((i : Int) == 0)
      · have i0 : (i != 0) = true := by simp at e0; simp; omega
        cases e2 : digB c.toNat
        · rw [e2] at hD
          refine ⟨.ret, _, by
            simp (disch := first | (simp only [List.length_append, List.length_cons, List.length_nil]; omega) | (simp; done) | assumption) [↓evOp_build, ↓evOp_bslice, rhoP_nil, rhoP_cons, evCode_skip, evCode_region, evCode_draw, evCode_seq, evCode_cond, evCode_block, evCode_loop, evCode_exit, evCode_ret, seqK_ite, seqK_none, seqK_norm, seqK_ret, seqK_exit, seqK_pan, condK_true, condK_false, condK_bool, blockK_ite, blockK_none, blockK_norm, blockK_ret, blockK_exit, blockK_pan, stepK_ite, stepK_none, stepK_ok, stepK_pan, drawK_ite, drawK_none, drawK_ok, drawK_pan, opK_ite, opK_none, opK_val, opK_pan, wantK_true, wantK_false, wantK_some, afterRegion_ite, afterDraw_ite, fromBody_ite, ite_bool, ite_int, stepA_K, doOp, noOp, lexA_nil, lexA_cons, lexF_nil, lexF_cons, afterDraw, noClash, FP.clash, wantedA, evOp, rho, rhoL, ofC0, ofC, argsA, upd, afterRegion, putA, goOp, evBin_add, evBin_sub, evBin_mul, evBin_quo, evBin_rem, evBin_eql, evBin_neq, evBin_lss, evBin_leq, evBin_gtr, evBin_geq, evBin_eqlB, evBin_neqB, evBin_addS, evBin_eqlS, evBin_neqS, evBin_lssS, evBin_leqS, evUn, evConv, evIndex, evBuiltin, evLen, evMin2, evMax2, evCallee, evBox, evLoad, evStore, evFieldAddr, evField, evIndexAddr, evBuild, evBuildSlice, evElems, evSlice, nth, rdc, wrc, fromBody, resA, finRet, oneOf, AV.cells?, AV.isCell, fin_int, fin_bool, fin_str, -evIndex, nmLoop, cutC, bodyOf, Try.f79, h1, h2, h3, bq3, sq9, hidx, hlt, hltz, hL, hD, e0]
            rfl, .inr ⟨by simp, rfl, .inr ⟨rfl, by simp [upd], i, fun g => by have := g c hxe; rw [e1, e2, i0] at this; simp at this⟩⟩⟩
        · rw [e2] at hD
          refine ⟨.norm, _, by
            simp (disch := first | (simp only [List.length_append, List.length_cons, List.length_nil]; omega) | (simp; done) | assumption) [↓evOp_build, ↓evOp_bslice, rhoP_nil, rhoP_cons, evCode_skip, evCode_region, evCode_draw, evCode_seq, evCode_cond, evCode_block, evCode_loop, evCode_exit, evCode_ret, seqK_ite, seqK_none, seqK_norm, seqK_ret, seqK_exit, seqK_pan, condK_true, condK_false, condK_bool, blockK_ite, blockK_none, blockK_norm, blockK_ret, blockK_exit, blockK_pan, stepK_ite, stepK_none, stepK_ok, stepK_pan, drawK_ite, drawK_none, drawK_ok, drawK_pan, opK_ite, opK_none, opK_val, opK_pan, wantK_true, wantK_false, wantK_some, afterRegion_ite, afterDraw_ite, fromBody_ite, ite_bool, ite_int, stepA_K, doOp, noOp, lexA_nil, lexA_cons, lexF_nil, lexF_cons, afterDraw, noClash, FP.clash, wantedA, evOp, rho, rhoL, ofC0, ofC, argsA, upd, afterRegion, putA, goOp, evBin_add, evBin_sub, evBin_mul, evBin_quo, evBin_rem, evBin_eql, evBin_neq, evBin_lss, evBin_leq, evBin_gtr, evBin_geq, evBin_eqlB, evBin_neqB, evBin_addS, evBin_eqlS, evBin_neqS, evBin_lssS, evBin_leqS, evUn, evConv, evIndex, evBuiltin, evLen, evMin2, evMax2, evCallee, evBox, evLoad, evStore, evFieldAddr, evField, evIndexAddr, evBuild, evBuildSlice, evElems, evSlice, nth, rdc, wrc, fromBody, resA, finRet, oneOf, AV.cells?, AV.isCell, fin_int, fin_bool, fin_str, -evIndex, nmLoop, cutC, bodyOf, Try.f79, h1, h2, h3, bq3, sq9, hidx, hlt, hltz, hL, hD, e0]
            rfl, .inl ⟨rfl, m, by omega, i + 1, by omega, by simp [upd, h1], by simp [upd, h2], by simp [upd, hw], rfl, good (by rw [e1, e2, i0]; rfl)⟩⟩
      · have i0 : i = 0 := by simp at e0; omega
        refine ⟨.ret, _, by
          simp (disch := first | (simp only [List.length_append, List.length_cons, List.length_nil]; omega) | (simp; done) | assumption) [↓evOp_build, ↓evOp_bslice, rhoP_nil, rhoP_cons, evCode_skip, evCode_region, evCode_draw, evCode_seq, evCode_cond, evCode_block, evCode_loop, evCode_exit, evCode_ret, seqK_ite, seqK_none, seqK_norm, seqK_ret, seqK_exit, seqK_pan, condK_true, condK_false, condK_bool, blockK_ite, blockK_none, blockK_norm, blockK_ret, blockK_exit, blockK_pan, stepK_ite, stepK_none, stepK_ok, stepK_pan, drawK_ite, drawK_none, drawK_ok, drawK_pan, opK_ite, opK_none, opK_val, opK_pan, wantK_true, wantK_false, wantK_some, afterRegion_ite, afterDraw_ite, fromBody_ite, ite_bool, ite_int, stepA_K, doOp, noOp, lexA_nil, lexA_cons, lexF_nil, lexF_cons, afterDraw, noClash, FP.clash, wantedA, evOp, rho, rhoL, ofC0, ofC, argsA, upd, afterRegion, putA, goOp, evBin_add, evBin_sub, evBin_mul, evBin_quo, evBin_rem, evBin_eql, evBin_neq, evBin_lss, evBin_leq, evBin_gtr, evBin_geq, evBin_eqlB, evBin_neqB, evBin_addS, evBin_eqlS, evBin_neqS, evBin_lssS, evBin_leqS, evUn, evConv, evIndex, evBuiltin, evLen, evMin2, evMax2, evCallee, evBox, evLoad, evStore, evFieldAddr, evField, evIndexAddr, evBuild, evBuildSlice, evElems, evSlice, nth, rdc, wrc, fromBody, resA, finRet, oneOf, AV.cells?, AV.isCell, fin_int, fin_bool, fin_str, -evIndex, nmLoop, cutC, bodyOf, Try.f79, h1, h2, h3, bq3, sq9, hidx, hlt, hltz, hL, e0]
          rfl, .inr ⟨by simp, rfl, .inr ⟨rfl, by simp [upd], i, fun g => by have := g c hxe; rw [e1, i0] at this; simp at this⟩⟩⟩
    · rw [e1] at hL
      refine ⟨.norm, _, by
        simp (disch := first | (simp only [List.length_append, List.length_cons, List.length_nil]; omega) | (simp; done) | assumption) [↓evOp_build, ↓evOp_bslice, rhoP_nil, rhoP_cons, evCode_skip, evCode_region, evCode_draw, evCode_seq, evCode_cond, evCode_block, evCode_loop, evCode_exit, evCode_ret, seqK_ite, seqK_none, seqK_norm, seqK_ret, seqK_exit, seqK_pan, condK_true, condK_false, condK_bool, blockK_ite, blockK_none, blockK_norm, blockK_ret, blockK_exit, blockK_pan, stepK_ite, stepK_none, stepK_ok, stepK_pan, drawK_ite, drawK_none, drawK_ok, drawK_pan, opK_ite, opK_none, opK_val, opK_pan, wantK_true, wantK_false, wantK_some, afterRegion_ite, afterDraw_ite, fromBody_ite, ite_bool, ite_int, stepA_K, doOp, noOp, lexA_nil, lexA_cons, lexF_nil, lexF_cons, afterDraw, noClash, FP.clash, wantedA, evOp, rho, rhoL, ofC0, ofC, argsA, upd, afterRegion, putA, goOp, evBin_add, evBin_sub, evBin_mul, evBin_quo, evBin_rem, evBin_eql, evBin_neq, evBin_lss, evBin_leq, evBin_gtr, evBin_geq, evBin_eqlB, evBin_neqB, evBin_addS, evBin_eqlS, evBin_neqS, evBin_lssS, evBin_leqS, evUn, evConv, evIndex, evBuiltin, evLen, evMin2, evMax2, evCallee, evBox, evLoad, evStore, evFieldAddr, evField, evIndexAddr, evBuild, evBuildSlice, evElems, evSlice, nth, rdc, wrc, fromBody, resA, finRet, oneOf, AV.cells?, AV.isCell, fin_int, fin_bool, fin_str, -evIndex, nmLoop, cutC, bodyOf, Try.f79, h1, h2, h3, bq3, sq9, hidx, hlt, hltz, hL]
        rfl, .inl ⟨rfl, m, by omega, i + 1, by omega, by simp [upd, h1], by simp [upd, h2], by simp [upd, hw], rfl, good (by rw [e1]; rfl)⟩⟩

theorem tl_eq (c : UInt8) : tl c = (headB c.toNat || digB c.toNat) := rfl
theorem nmOK_all (c : UInt8) (r : List UInt8) : (∀ j, j < (c :: r).length → nmOK (c :: r) j) ↔ headB c.toNat = true ∧ r.all tl = true := by
  constructor
  · intro h
    refine ⟨by simpa using h 0 (by simp) c rfl, ?_⟩
    rw [List.all_eq_true]
    intro x hx
    obtain ⟨i, hi, rfl⟩ := List.getElem_of_mem hx
    have := h (i + 1) (by simpa using hi) r[i] (by simp)
    rw [tl_eq]
    simpa using this
  · intro ⟨h1, h2⟩ j hj c' hc'
    cases j with
    | zero => simp at hc'; subst hc'; simp [h1]
    | succ j =>
      simp at hc'
      have := List.all_eq_true.1 h2 c' (List.mem_of_getElem? hc')
      rw [tl_eq] at this
      simpa using this
theorem nameB_iff (s : List UInt8) : nameB s = true ↔ s ≠ [] ∧ s.length ≤ 16 ∧ ∀ j, j < s.length → nmOK s j := by
  cases s with
  | nil => simp [nameB]
  | cons c r =>
    rw [nmOK_all]
    simp [nameB, and_assoc]

theorem ev_lName (n : Nat) (s : List UInt8) (hs : s.length ≤ 1048576) (hn : s.length < n) (S : St) : ev Try.prog E (n + 2) 79 [.str s] S = some (.ret (.bool (nameB s)), S) := by
  rw [show n + 2 = (n + 1) + 1 from rfl, ev_enter (n := n + 1) (show E.ok 79 = true from rfl) Try.func79 f79b (Nat.le_of_ble_eq_true rfl) (by decide +kernel)]
  obtain ⟨⟨o, t, b, v, S'⟩, hr, hS, hq⟩ := iter_meas (fun m fs h => nm_round n s S hs m fs h) s.length (n + 1)
    ⟨upd 6 (.int .i64 0) (upd 5 (.int .i64 s.length) (upd 4 (.str s) (upd 2 (.bool false) (argsA [.str s])))), fun _ => (0, []), 4, S⟩ (by omega)
    ⟨0, by omega, by simp [upd, argsA], by simp [upd], by simp [upd], rfl, fun j hj => by omega⟩
  simp only at hS hq
  subst hS
  rcases hq with ⟨rfl, g0, ha⟩ | ⟨rfl, h2, j, hno⟩
  · cases e0 : (s == [])
    · have e0' : s ≠ [] := fun h => by subst h; simp at e0
      cases e1 : decide ((s.length : Int) ≤ 16)
      · have hp : nameB s = false := by
          rw [Bool.eq_false_iff]; intro h
          have := ((nameB_iff s).1 h).2.1
          simp at e1; omega
        have e1' : ¬ s.length ≤ 16 := by simp at e1; omega
        simp (disch := first | (simp only [List.length_append, List.length_cons, List.length_nil]; omega) | (simp; done) | assumption) [↓evOp_build, ↓evOp_bslice, rhoP_nil, rhoP_cons, evCode_skip, evCode_region, evCode_draw, evCode_seq, evCode_cond, evCode_block, evCode_loop, evCode_exit, evCode_ret, seqK_ite, seqK_none, seqK_norm, seqK_ret, seqK_exit, seqK_pan, condK_true, condK_false, condK_bool, blockK_ite, blockK_none, blockK_norm, blockK_ret, blockK_exit, blockK_pan, stepK_ite, stepK_none, stepK_ok, stepK_pan, drawK_ite, drawK_none, drawK_ok, drawK_pan, opK_ite, opK_none, opK_val, opK_pan, wantK_true, wantK_false, wantK_some, afterRegion_ite, afterDraw_ite, fromBody_ite, ite_bool, ite_int, stepA_K, doOp, noOp, lexA_nil, lexA_cons, lexF_nil, lexF_cons, afterDraw, noClash, FP.clash, wantedA, evOp, rho, rhoL, ofC0, ofC, argsA, upd, afterRegion, putA, goOp, evBin_add, evBin_sub, evBin_mul, evBin_quo, evBin_rem, evBin_eql, evBin_neq, evBin_lss, evBin_leq, evBin_gtr, evBin_geq, evBin_eqlB, evBin_neqB, evBin_addS, evBin_eqlS, evBin_neqS, evBin_lssS, evBin_leqS, evUn, evConv, evIndex, evBuiltin, evLen, evMin2, evMax2, evCallee, evBox, evLoad, evStore, evFieldAddr, evField, evIndexAddr, evBuild, evBuildSlice, evElems, evSlice, nth, rdc, wrc, fromBody, resA, finRet, oneOf, AV.cells?, AV.isCell, fin_int, fin_bool, fin_str, nm0, nm1, nm2, cutC, bodyOf, Try.f79, bq3, bq9, sq9, hr, g0, hp, bne, e0, e1, e1']
      · have e1' : s.length ≤ 16 := by simp at e1; omega
        have hp : nameB s = true := (nameB_iff s).2 ⟨e0', e1', ha⟩
        simp (disch := first | (simp only [List.length_append, List.length_cons, List.length_nil]; omega) | (simp; done) | assumption) [↓evOp_build, ↓evOp_bslice, rhoP_nil, rhoP_cons, evCode_skip, evCode_region, evCode_draw, evCode_seq, evCode_cond, evCode_block, evCode_loop, evCode_exit, evCode_ret, seqK_ite, seqK_none, seqK_norm, seqK_ret, seqK_exit, seqK_pan, condK_true, condK_false, condK_bool, blockK_ite, blockK_none, blockK_norm, blockK_ret, blockK_exit, blockK_pan, stepK_ite, stepK_none, stepK_ok, stepK_pan, drawK_ite, drawK_none, drawK_ok, drawK_pan, opK_ite, opK_none, opK_val, opK_pan, wantK_true, wantK_false, wantK_some, afterRegion_ite, afterDraw_ite, fromBody_ite, ite_bool, ite_int, stepA_K, doOp, noOp, lexA_nil, lexA_cons, lexF_nil, lexF_cons, afterDraw, noClash, FP.clash, wantedA, evOp, rho, rhoL, ofC0, ofC, argsA, upd, afterRegion, putA, goOp, evBin_add, evBin_sub, evBin_mul, evBin_quo, evBin_rem, evBin_eql, evBin_neq, evBin_lss, evBin_leq, evBin_gtr, evBin_geq, evBin_eqlB, evBin_neqB, evBin_addS, evBin_eqlS, evBin_neqS, evBin_lssS, evBin_leqS, evUn, evConv, evIndex, evBuiltin, evLen, evMin2, evMax2, evCallee, evBox, evLoad, evStore, evFieldAddr, evField, evIndexAddr, evBuild, evBuildSlice, evElems, evSlice, nth, rdc, wrc, fromBody, resA, finRet, oneOf, AV.cells?, AV.isCell, fin_int, fin_bool, fin_str, nm0, nm1, nm2, cutC, bodyOf, Try.f79, bq3, bq9, sq9, hr, g0, hp, bne, e0, e1, e1']
    · have e0' : s = [] := by simpa using e0
      have hp : nameB s = false := by rw [e0']; rfl
      simp (disch := first | (simp only [List.length_append, List.length_cons, List.length_nil]; omega) | (simp; done) | assumption) [↓evOp_build, ↓evOp_bslice, rhoP_nil, rhoP_cons, evCode_skip, evCode_region, evCode_draw, evCode_seq, evCode_cond, evCode_block, evCode_loop, evCode_exit, evCode_ret, seqK_ite, seqK_none, seqK_norm, seqK_ret, seqK_exit, seqK_pan, condK_true, condK_false, condK_bool, blockK_ite, blockK_none, blockK_norm, blockK_ret, blockK_exit, blockK_pan, stepK_ite, stepK_none, stepK_ok, stepK_pan, drawK_ite, drawK_none, drawK_ok, drawK_pan, opK_ite, opK_none, opK_val, opK_pan, wantK_true, wantK_false, wantK_some, afterRegion_ite, afterDraw_ite, fromBody_ite, ite_bool, ite_int, stepA_K, doOp, noOp, lexA_nil, lexA_cons, lexF_nil, lexF_cons, afterDraw, noClash, FP.clash, wantedA, evOp, rho, rhoL, ofC0, ofC, argsA, upd, afterRegion, putA, goOp, evBin_add, evBin_sub, evBin_mul, evBin_quo, evBin_rem, evBin_eql, evBin_neq, evBin_lss, evBin_leq, evBin_gtr, evBin_geq, evBin_eqlB, evBin_neqB, evBin_addS, evBin_eqlS, evBin_neqS, evBin_lssS, evBin_leqS, evUn, evConv, evIndex, evBuiltin, evLen, evMin2, evMax2, evCallee, evBox, evLoad, evStore, evFieldAddr, evField, evIndexAddr, evBuild, evBuildSlice, evElems, evSlice, nth, rdc, wrc, fromBody, resA, finRet, oneOf, AV.cells?, AV.isCell, fin_int, fin_bool, fin_str, nm0, nm1, nm2, cutC, bodyOf, Try.f79, bq3, bq9, sq9, hr, g0, hp, bne, e0]
  · have hp : nameB s = false := by
      rw [Bool.eq_false_iff]; intro h
      obtain ⟨_, _, h3⟩ := (nameB_iff s).1 h
      by_cases hj : j < s.length
      · exact hno (h3 j hj)
      · exact hno fun c hc => by rw [List.getElem?_eq_none (by omega)] at hc; cases hc
    simp (disch := first | (simp only [List.length_append, List.length_cons, List.length_nil]; omega) | (simp; done) | assumption) [↓evOp_build, ↓evOp_bslice, rhoP_nil, rhoP_cons, evCode_skip, evCode_region, evCode_draw, evCode_seq, evCode_cond, evCode_block, evCode_loop, evCode_exit, evCode_ret, seqK_ite, seqK_none, seqK_norm, seqK_ret, seqK_exit, seqK_pan, condK_true, condK_false, condK_bool, blockK_ite, blockK_none, blockK_norm, blockK_ret, blockK_exit, blockK_pan, stepK_ite, stepK_none, stepK_ok, stepK_pan, drawK_ite, drawK_none, drawK_ok, drawK_pan, opK_ite, opK_none, opK_val, opK_pan, wantK_true, wantK_false, wantK_some, afterRegion_ite, afterDraw_ite, fromBody_ite, ite_bool, ite_int, stepA_K, doOp, noOp, lexA_nil, lexA_cons, lexF_nil, lexF_cons, afterDraw, noClash, FP.clash, wantedA, evOp, rho, rhoL, ofC0, ofC, argsA, upd, afterRegion, putA, goOp, evBin_add, evBin_sub, evBin_mul, evBin_quo, evBin_rem, evBin_eql, evBin_neq, evBin_lss, evBin_leq, evBin_gtr, evBin_geq, evBin_eqlB, evBin_neqB, evBin_addS, evBin_eqlS, evBin_neqS, evBin_lssS, evBin_leqS, evUn, evConv, evIndex, evBuiltin, evLen, evMin2, evMax2, evCallee, evBox, evLoad, evStore, evFieldAddr, evField, evIndexAddr, evBuild, evBuildSlice, evElems, evSlice, nth, rdc, wrc, fromBody, resA, finRet, oneOf, AV.cells?, AV.isCell, fin_int, fin_bool, fin_str, nm0, nm1, nm2, cutC, bodyOf, Try.f79, bq3, bq9, sq9, hr, hp, h2]
end Go.Proofs.Ytemggoaefohliaa.NF

/- lex.Plain, ast.Kids, ast.span, evaluated. No condition. -/
namespace Go.Proofs.Ytemggoaefohliaa.NF
set_option linter.unusedVariables false
set_option linter.unusedSimpArgs false
open Go AE EX PT
set_option maxRecDepth 100000

theorem indexByte_lt0 : ∀ (l : List UInt8) (c : UInt8), decide (Lib.indexByte l c < 0) = l.all fun b => !(b == c)
  | [], c => by simp [Lib.indexByte]
  | b :: l, c => by
    have ih := indexByte_lt0 l c
    have hg := Lib.indexByte_ge l c
    cases e : (b == c)
    · have h1 : Lib.indexByte (b :: l) c = if Lib.indexByte l c = -1 then -1 else Lib.indexByte l c + 1 := by simp [Lib.indexByte, e]
      rw [h1, List.all_cons, e, ← ih]
      split
      · rename_i h
        simp [h]
      · simp; omega
    · simp [Lib.indexByte, e]

theorem badB_eq (c : UInt8) : badB c = ((c == 34) || (c == 10)) := by
  unfold badB
  congr 1
  · rw [Bool.eq_iff_iff]; simp only [beq_iff_eq]
    constructor
    · intro h; exact UInt8.toNat_inj.1 (by simp; omega)
    · intro h; subst h; rfl
  · rw [Bool.eq_iff_iff]; simp only [beq_iff_eq]
    constructor
    · intro h; exact UInt8.toNat_inj.1 (by simp; omega)
    · intro h; subst h; rfl
theorem plain_index (s : List UInt8) : (s.all fun c => !badB c) = (decide (Lib.indexByte s 34 < 0) && decide (Lib.indexByte s 10 < 0)) := by
  rw [indexByte_lt0, indexByte_lt0]
  induction s with
  | nil => rfl
  | cons c l ih =>
    rw [List.all_cons, List.all_cons, List.all_cons, ih, badB_eq, Bool.not_or]
    cases (!(c == 34)) <;> cases (!(c == 10)) <;> cases l.all (fun b => !(b == 34)) <;> cases l.all (fun b => !(b == 10)) <;> rfl

theorem ev_indexByte (n : Nat) (s : List UInt8) (c : Int) (S : St) : ev Try.prog E (n + 1) 84 [.str s, .int .u8 c] S = some (.ret (.int .i64 (Lib.indexByte s c.toNat.toUInt8)), S) := rfl

theorem ev_lPlain (n : Nat) (s : List UInt8) (S : St) : ev Try.prog E (n + 2) 78 [.str s] S = some (.ret (.bool (plainB s)), S) := by
  have h34 : ev Try.prog E (n + 1) 84 [.str s, .int .u8 34] S = some (.ret (.int .i64 (Lib.indexByte s 34)), S) := ev_indexByte n s 34 S
  have h10 : ev Try.prog E (n + 1) 84 [.str s, .int .u8 10] S = some (.ret (.int .i64 (Lib.indexByte s 10)), S) := ev_indexByte n s 10 S
  have hp : plainB s = (decide (s.length ≤ 32) && (decide (Lib.indexByte s 34 < 0) && decide (Lib.indexByte s 10 < 0))) := by rw [← plain_index]; rfl
  rw [hp, show n + 2 = (n + 1) + 1 from rfl, ev_enter (n := n + 1) (show E.ok 78 = true from rfl) Try.func78 (fn := Try.f78) rfl (Nat.le_of_ble_eq_true rfl) (by decide +kernel)]
  generalize Lib.indexByte s 34 = i34 at *
  generalize Lib.indexByte s 10 = i10 at *
  by_cases hs : s.length ≤ 32
  · have hz : (s.length : Int) ≤ 32 := by omega
    cases h2 : decide (i34 < 0) <;> cases h3 : decide (i10 < 0) <;>
      simp (disch := first | (simp only [List.length_append, List.length_cons, List.length_nil]; omega) | (simp; done) | assumption) [↓evOp_build, ↓evOp_bslice, rhoP_nil, rhoP_cons, evCode_skip, evCode_region, evCode_draw, evCode_seq, evCode_cond, evCode_block, evCode_loop, evCode_exit, evCode_ret, seqK_ite, seqK_none, seqK_norm, seqK_ret, seqK_exit, seqK_pan, condK_true, condK_false, condK_bool, blockK_ite, blockK_none, blockK_norm, blockK_ret, blockK_exit, blockK_pan, stepK_ite, stepK_none, stepK_ok, stepK_pan, drawK_ite, drawK_none, drawK_ok, drawK_pan, opK_ite, opK_none, opK_val, opK_pan, wantK_true, wantK_false, wantK_some, afterRegion_ite, afterDraw_ite, fromBody_ite, ite_bool, ite_int, stepA_K, doOp, noOp, lexA_nil, lexA_cons, lexF_nil, lexF_cons, afterDraw, noClash, FP.clash, wantedA, evOp, rho, rhoL, ofC0, ofC, argsA, upd, afterRegion, putA, goOp, evBin_add, evBin_sub, evBin_mul, evBin_quo, evBin_rem, evBin_eql, evBin_neq, evBin_lss, evBin_leq, evBin_gtr, evBin_geq, evBin_eqlB, evBin_neqB, evBin_addS, evBin_eqlS, evBin_neqS, evBin_lssS, evBin_leqS, evUn, evConv, evIndex, evBuiltin, evLen, evMin2, evMax2, evCallee, evBox, evLoad, evStore, evFieldAddr, evField, evIndexAddr, evBuild, evBuildSlice, evElems, evSlice, nth, rdc, wrc, fromBody, resA, finRet, oneOf, AV.cells?, AV.isCell, fin_int, fin_bool, fin_str, Try.f78, bq3, sq9, h34, h10, h2, h3, hs, hz]
  · have hz : ¬ (s.length : Int) ≤ 32 := by omega
    simp (disch := first | (simp only [List.length_append, List.length_cons, List.length_nil]; omega) | (simp; done) | assumption) [↓evOp_build, ↓evOp_bslice, rhoP_nil, rhoP_cons, evCode_skip, evCode_region, evCode_draw, evCode_seq, evCode_cond, evCode_block, evCode_loop, evCode_exit, evCode_ret, seqK_ite, seqK_none, seqK_norm, seqK_ret, seqK_exit, seqK_pan, condK_true, condK_false, condK_bool, blockK_ite, blockK_none, blockK_norm, blockK_ret, blockK_exit, blockK_pan, stepK_ite, stepK_none, stepK_ok, stepK_pan, drawK_ite, drawK_none, drawK_ok, drawK_pan, opK_ite, opK_none, opK_val, opK_pan, wantK_true, wantK_false, wantK_some, afterRegion_ite, afterDraw_ite, fromBody_ite, ite_bool, ite_int, stepA_K, doOp, noOp, lexA_nil, lexA_cons, lexF_nil, lexF_cons, afterDraw, noClash, FP.clash, wantedA, evOp, rho, rhoL, ofC0, ofC, argsA, upd, afterRegion, putA, goOp, evBin_add, evBin_sub, evBin_mul, evBin_quo, evBin_rem, evBin_eql, evBin_neq, evBin_lss, evBin_leq, evBin_gtr, evBin_geq, evBin_eqlB, evBin_neqB, evBin_addS, evBin_eqlS, evBin_neqS, evBin_lssS, evBin_leqS, evUn, evConv, evIndex, evBuiltin, evLen, evMin2, evMax2, evCallee, evBox, evLoad, evStore, evFieldAddr, evField, evIndexAddr, evBuild, evBuildSlice, evElems, evSlice, nth, rdc, wrc, fromBody, resA, finRet, oneOf, AV.cells?, AV.isCell, fin_int, fin_bool, fin_str, Try.f78, bq3, sq9, h34, h10, hs, hz]

theorem ev_aKids (n : Nat) (k : Int) (S : St) : ev Try.prog E (n + 1) 72 [.int .i64 k] S = some (.ret (.int .i64 (kidsI k)), S) := by
  rw [ev_enter (n := n) (show E.ok 72 = true from rfl) Try.func72 (fn := Try.f72) rfl (Nat.le_of_ble_eq_true rfl) (by decide +kernel)]
  by_cases hk : kinds k
  · rcases hk with rfl | rfl | rfl | rfl | rfl | rfl | rfl | rfl | rfl | rfl | rfl | rfl | rfl | rfl | rfl | rfl | rfl | rfl | rfl | rfl | rfl | rfl | rfl | rfl | rfl <;>
      simp (disch := first | (simp only [List.length_append, List.length_cons, List.length_nil]; omega) | (simp; done) | assumption) [↓evOp_build, ↓evOp_bslice, rhoP_nil, rhoP_cons, evCode_skip, evCode_region, evCode_draw, evCode_seq, evCode_cond, evCode_block, evCode_loop, evCode_exit, evCode_ret, seqK_ite, seqK_none, seqK_norm, seqK_ret, seqK_exit, seqK_pan, condK_true, condK_false, condK_bool, blockK_ite, blockK_none, blockK_norm, blockK_ret, blockK_exit, blockK_pan, stepK_ite, stepK_none, stepK_ok, stepK_pan, drawK_ite, drawK_none, drawK_ok, drawK_pan, opK_ite, opK_none, opK_val, opK_pan, wantK_true, wantK_false, wantK_some, afterRegion_ite, afterDraw_ite, fromBody_ite, ite_bool, ite_int, stepA_K, doOp, noOp, lexA_nil, lexA_cons, lexF_nil, lexF_cons, afterDraw, noClash, FP.clash, wantedA, evOp, rho, rhoL, ofC0, ofC, argsA, upd, afterRegion, putA, goOp, evBin_add, evBin_sub, evBin_mul, evBin_quo, evBin_rem, evBin_eql, evBin_neq, evBin_lss, evBin_leq, evBin_gtr, evBin_geq, evBin_eqlB, evBin_neqB, evBin_addS, evBin_eqlS, evBin_neqS, evBin_lssS, evBin_leqS, evUn, evConv, evIndex, evBuiltin, evLen, evMin2, evMax2, evCallee, evBox, evLoad, evStore, evFieldAddr, evField, evIndexAddr, evBuild, evBuildSlice, evElems, evSlice, nth, rdc, wrc, fromBody, resA, finRet, oneOf, AV.cells?, AV.isCell, fin_int, fin_bool, fin_str, Try.f72, bq3, kidsI]
  · have hk' := hk
    rw [kinds_iff] at hk'
    have q : ∀ j : Int, 1 ≤ j → j ≤ 25 → (k == j) = false := fun j h1 h2 => by simp; omega
    rw [kidsI_out hk]
    simp (disch := first | (simp only [List.length_append, List.length_cons, List.length_nil]; omega) | (simp; done) | assumption) [↓evOp_build, ↓evOp_bslice, rhoP_nil, rhoP_cons, evCode_skip, evCode_region, evCode_draw, evCode_seq, evCode_cond, evCode_block, evCode_loop, evCode_exit, evCode_ret, seqK_ite, seqK_none, seqK_norm, seqK_ret, seqK_exit, seqK_pan, condK_true, condK_false, condK_bool, blockK_ite, blockK_none, blockK_norm, blockK_ret, blockK_exit, blockK_pan, stepK_ite, stepK_none, stepK_ok, stepK_pan, drawK_ite, drawK_none, drawK_ok, drawK_pan, opK_ite, opK_none, opK_val, opK_pan, wantK_true, wantK_false, wantK_some, afterRegion_ite, afterDraw_ite, fromBody_ite, ite_bool, ite_int, stepA_K, doOp, noOp, lexA_nil, lexA_cons, lexF_nil, lexF_cons, afterDraw, noClash, FP.clash, wantedA, evOp, rho, rhoL, ofC0, ofC, argsA, upd, afterRegion, putA, goOp, evBin_add, evBin_sub, evBin_mul, evBin_quo, evBin_rem, evBin_eql, evBin_neq, evBin_lss, evBin_leq, evBin_gtr, evBin_geq, evBin_eqlB, evBin_neqB, evBin_addS, evBin_eqlS, evBin_neqS, evBin_lssS, evBin_leqS, evUn, evConv, evIndex, evBuiltin, evLen, evMin2, evMax2, evCallee, evBox, evLoad, evStore, evFieldAddr, evField, evIndexAddr, evBuild, evBuildSlice, evElems, evSlice, nth, rdc, wrc, fromBody, resA, finRet, oneOf, AV.cells?, AV.isCell, fin_int, fin_bool, fin_str, Try.f72, bq3, q 1 (by omega) (by omega), q 2 (by omega) (by omega), q 3 (by omega) (by omega), q 4 (by omega) (by omega), q 5 (by omega) (by omega), q 6 (by omega) (by omega), q 7 (by omega) (by omega), q 8 (by omega) (by omega), q 9 (by omega) (by omega), q 10 (by omega) (by omega), q 11 (by omega) (by omega), q 12 (by omega) (by omega), q 13 (by omega) (by omega), q 14 (by omega) (by omega), q 15 (by omega) (by omega), q 16 (by omega) (by omega), q 17 (by omega) (by omega), q 18 (by omega) (by omega), q 19 (by omega) (by omega), q 20 (by omega) (by omega), q 21 (by omega) (by omega), q 22 (by omega) (by omega), q 23 (by omega) (by omega), q 24 (by omega) (by omega), q 25 (by omega) (by omega)]

def spanB (lo hi : Int) : Bool := decide (0 ≤ lo) && (decide (lo ≤ hi) || hi == -1)
theorem spanB_iff (lo hi : Int) : spanB lo hi = true ↔ 0 ≤ lo ∧ (hi = -1 ∨ lo ≤ hi) := by
  simp [spanB]; omega
theorem ev_span (n : Nat) (k : Int) (nm : List UInt8) (a lo hi : Int) (ks : AV) (hks : ks.isCell = true) (S : St) :
    ev Try.prog E (n + 1) 80 [.agg [.int .i64 k, .str nm, .int .i64 a, .int .i64 lo, .int .i64 hi, ks]] S = some (.ret (.bool (spanB lo hi)), S) := by
  rw [ev_enter (n := n) (show E.ok 80 = true from rfl) Try.func80 (fn := Try.f80) rfl (Nat.le_of_ble_eq_true rfl) (by decide +kernel)]
  cases h1 : decide (0 ≤ lo) <;> cases h2 : decide (lo ≤ hi) <;> cases h3 : (hi == -1) <;>
    simp (disch := first | (simp only [List.length_append, List.length_cons, List.length_nil]; omega) | (simp; done) | assumption) [↓evOp_build, ↓evOp_bslice, rhoP_nil, rhoP_cons, evCode_skip, evCode_region, evCode_draw, evCode_seq, evCode_cond, evCode_block, evCode_loop, evCode_exit, evCode_ret, seqK_ite, seqK_none, seqK_norm, seqK_ret, seqK_exit, seqK_pan, condK_true, condK_false, condK_bool, blockK_ite, blockK_none, blockK_norm, blockK_ret, blockK_exit, blockK_pan, stepK_ite, stepK_none, stepK_ok, stepK_pan, drawK_ite, drawK_none, drawK_ok, drawK_pan, opK_ite, opK_none, opK_val, opK_pan, wantK_true, wantK_false, wantK_some, afterRegion_ite, afterDraw_ite, fromBody_ite, ite_bool, ite_int, stepA_K, doOp, noOp, lexA_nil, lexA_cons, lexF_nil, lexF_cons, afterDraw, noClash, FP.clash, wantedA, evOp, rho, rhoL, ofC0, ofC, argsA, upd, afterRegion, putA, goOp, evBin_add, evBin_sub, evBin_mul, evBin_quo, evBin_rem, evBin_eql, evBin_neq, evBin_lss, evBin_leq, evBin_gtr, evBin_geq, evBin_eqlB, evBin_neqB, evBin_addS, evBin_eqlS, evBin_neqS, evBin_lssS, evBin_leqS, evUn, evConv, evIndex, evBuiltin, evLen, evMin2, evMax2, evCallee, evBox, evLoad, evStore, evFieldAddr, evField, evIndexAddr, evBuild, evBuildSlice, evElems, evSlice, nth, rdc, wrc, fromBody, resA, finRet, oneOf, AV.cells?, AV.isCell, fin_int, fin_bool, fin_str, Try.f80, E_esc, k24, c24, a24, k2, c2, a2, fq3, fq4, bq2, hks, -AV.isCell, h1, h2, h3, spanB]
end Go.Proofs.Ytemggoaefohliaa.NF

/- What an expression has of its own (ast), evaluated. No condition. -/
namespace Go.Proofs.Ytemggoaefohliaa.NF
set_option linter.unusedVariables false
set_option linter.unusedSimpArgs false
open Go AE EX PT
set_option maxRecDepth 100000

def OwnOut (n : Nat) (k : Int) (nm : List UInt8) (a lo hi : Int) (ks : AV) (S : St) : Prop :=
  ∃ b, ev Try.prog E (n + 4) 70 [.agg [.int .i64 k, .str nm, .int .i64 a, .int .i64 lo, .int .i64 hi, ks]] S = some (.ret (.bool b), S) ∧ (b = true ↔ Fits k nm a lo hi)

set_option maxHeartbeats 4000000 in
theorem own_plain (n : Nat) (k : Int) (nm : List UInt8) (hl : nm.length ≤ 1048576) (hn : nm.length < n) (a lo hi : Int) (ks : AV) (hks : ks.isCell = true) (S : St)
    (hk : (k = 4 ∨ k = 7 ∨ k = 8 ∨ k = 9 ∨ k = 10 ∨ k = 11 ∨ k = 12 ∨ k = 14 ∨ k = 15 ∨ k = 16 ∨ k = 17 ∨ k = 18 ∨ k = 19 ∨ k = 20 ∨ k = 25)) : OwnOut n k nm a lo hi ks S := by
  unfold OwnOut
  have hps : E.ps 70 1 = [(1, 4), (1, 7), (4, 7), (1, 10), (4, 10), (7, 10)] := rfl
  have q1 : (k == 1) = false := by simp; omega
  have q2 : (k == 2) = false := by simp; omega
  have q3 : (k == 3) = false := by simp; omega
  have q13 : (k == 13) = false := by simp; omega
  have q5 : (k == 5) = false := by simp; omega
  have q6 : (k == 6) = false := by simp; omega
  have q21 : (k == 21) = false := by simp; omega
  have q22 : (k == 22) = false := by simp; omega
  have q23 : (k == 23) = false := by simp; omega
  have q24 : (k == 24) = false := by simp; omega
  rw [ev_enter (n := n + 3) (show E.ok 70 = true from rfl) Try.func70 (fn := Try.f70) rfl (Nat.le_of_ble_eq_true rfl) (by decide +kernel)]
  cases h0 : (nm == [])
  · refine ⟨false, ?_, iff_of_false (by simp) fun f => by have := f.none (by omega); subst this; simp at h0⟩
    simp (disch := first | (simp only [List.length_append, List.length_cons, List.length_nil]; omega) | (simp; done) | assumption) [↓evOp_build, ↓evOp_bslice, rhoP_nil, rhoP_cons, evCode_skip, evCode_region, evCode_draw, evCode_seq, evCode_cond, evCode_block, evCode_loop, evCode_exit, evCode_ret, seqK_ite, seqK_none, seqK_norm, seqK_ret, seqK_exit, seqK_pan, condK_true, condK_false, condK_bool, blockK_ite, blockK_none, blockK_norm, blockK_ret, blockK_exit, blockK_pan, stepK_ite, stepK_none, stepK_ok, stepK_pan, drawK_ite, drawK_none, drawK_ok, drawK_pan, opK_ite, opK_none, opK_val, opK_pan, wantK_true, wantK_false, wantK_some, afterRegion_ite, afterDraw_ite, fromBody_ite, ite_bool, ite_int, stepA_K, doOp, noOp, lexA_nil, lexA_cons, lexF_nil, lexF_cons, afterDraw, noClash, FP.clash, wantedA, evOp, rho, rhoL, ofC0, ofC, argsA, upd, afterRegion, putA, goOp, evBin_add, evBin_sub, evBin_mul, evBin_quo, evBin_rem, evBin_eql, evBin_neq, evBin_lss, evBin_leq, evBin_gtr, evBin_geq, evBin_eqlB, evBin_neqB, evBin_addS, evBin_eqlS, evBin_neqS, evBin_lssS, evBin_leqS, evUn, evConv, evIndex, evBuiltin, evLen, evMin2, evMax2, evCallee, evBox, evLoad, evStore, evFieldAddr, evField, evIndexAddr, evBuild, evBuildSlice, evElems, evSlice, nth, rdc, wrc, fromBody, resA, finRet, oneOf, AV.cells?, AV.isCell, fin_int, fin_bool, fin_str, Try.f70, E_esc, k24, c24, a24, k3, c3, a3, k2, c2, a2, k9, c9, a9, fq0, fq1, fq2, fq3, fq4, bq3, bq2, bq9, hks, -AV.isCell, hps, q1, q2, q3, q13, q5, q6, q21, q22, q23, q24, h0]
  cases h1 : (a == 0)
  · refine ⟨false, ?_, iff_of_false (by simp) fun f => by have := f.num (by omega) (by omega); subst this; simp at h1⟩
    simp (disch := first | (simp only [List.length_append, List.length_cons, List.length_nil]; omega) | (simp; done) | assumption) [↓evOp_build, ↓evOp_bslice, rhoP_nil, rhoP_cons, evCode_skip, evCode_region, evCode_draw, evCode_seq, evCode_cond, evCode_block, evCode_loop, evCode_exit, evCode_ret, seqK_ite, seqK_none, seqK_norm, seqK_ret, seqK_exit, seqK_pan, condK_true, condK_false, condK_bool, blockK_ite, blockK_none, blockK_norm, blockK_ret, blockK_exit, blockK_pan, stepK_ite, stepK_none, stepK_ok, stepK_pan, drawK_ite, drawK_none, drawK_ok, drawK_pan, opK_ite, opK_none, opK_val, opK_pan, wantK_true, wantK_false, wantK_some, afterRegion_ite, afterDraw_ite, fromBody_ite, ite_bool, ite_int, stepA_K, doOp, noOp, lexA_nil, lexA_cons, lexF_nil, lexF_cons, afterDraw, noClash, FP.clash, wantedA, evOp, rho, rhoL, ofC0, ofC, argsA, upd, afterRegion, putA, goOp, evBin_add, evBin_sub, evBin_mul, evBin_quo, evBin_rem, evBin_eql, evBin_neq, evBin_lss, evBin_leq, evBin_gtr, evBin_geq, evBin_eqlB, evBin_neqB, evBin_addS, evBin_eqlS, evBin_neqS, evBin_lssS, evBin_leqS, evUn, evConv, evIndex, evBuiltin, evLen, evMin2, evMax2, evCallee, evBox, evLoad, evStore, evFieldAddr, evField, evIndexAddr, evBuild, evBuildSlice, evElems, evSlice, nth, rdc, wrc, fromBody, resA, finRet, oneOf, AV.cells?, AV.isCell, fin_int, fin_bool, fin_str, Try.f70, E_esc, k24, c24, a24, k3, c3, a3, k2, c2, a2, k9, c9, a9, fq0, fq1, fq2, fq3, fq4, bq3, bq2, bq9, hks, -AV.isCell, hps, q1, q2, q3, q13, q5, q6, q21, q22, q23, q24, h0, h1]
  cases h2 : (lo == 0)
  · refine ⟨false, ?_, iff_of_false (by simp) fun f => by have := (f.zero (by omega)).1; subst this; simp at h2⟩
    simp (disch := first | (simp only [List.length_append, List.length_cons, List.length_nil]; omega) | (simp; done) | assumption) [↓evOp_build, ↓evOp_bslice, rhoP_nil, rhoP_cons, evCode_skip, evCode_region, evCode_draw, evCode_seq, evCode_cond, evCode_block, evCode_loop, evCode_exit, evCode_ret, seqK_ite, seqK_none, seqK_norm, seqK_ret, seqK_exit, seqK_pan, condK_true, condK_false, condK_bool, blockK_ite, blockK_none, blockK_norm, blockK_ret, blockK_exit, blockK_pan, stepK_ite, stepK_none, stepK_ok, stepK_pan, drawK_ite, drawK_none, drawK_ok, drawK_pan, opK_ite, opK_none, opK_val, opK_pan, wantK_true, wantK_false, wantK_some, afterRegion_ite, afterDraw_ite, fromBody_ite, ite_bool, ite_int, stepA_K, doOp, noOp, lexA_nil, lexA_cons, lexF_nil, lexF_cons, afterDraw, noClash, FP.clash, wantedA, evOp, rho, rhoL, ofC0, ofC, argsA, upd, afterRegion, putA, goOp, evBin_add, evBin_sub, evBin_mul, evBin_quo, evBin_rem, evBin_eql, evBin_neq, evBin_lss, evBin_leq, evBin_gtr, evBin_geq, evBin_eqlB, evBin_neqB, evBin_addS, evBin_eqlS, evBin_neqS, evBin_lssS, evBin_leqS, evUn, evConv, evIndex, evBuiltin, evLen, evMin2, evMax2, evCallee, evBox, evLoad, evStore, evFieldAddr, evField, evIndexAddr, evBuild, evBuildSlice, evElems, evSlice, nth, rdc, wrc, fromBody, resA, finRet, oneOf, AV.cells?, AV.isCell, fin_int, fin_bool, fin_str, Try.f70, E_esc, k24, c24, a24, k3, c3, a3, k2, c2, a2, k9, c9, a9, fq0, fq1, fq2, fq3, fq4, bq3, bq2, bq9, hks, -AV.isCell, hps, q1, q2, q3, q13, q5, q6, q21, q22, q23, q24, h0, h1, h2]
  refine ⟨hi == 0, ?_, fun h => ?_, fun f => by have := (f.zero (by omega)).2; simp [this]⟩
  · simp (disch := first | (simp only [List.length_append, List.length_cons, List.length_nil]; omega) | (simp; done) | assumption) [↓evOp_build, ↓evOp_bslice, rhoP_nil, rhoP_cons, evCode_skip, evCode_region, evCode_draw, evCode_seq, evCode_cond, evCode_block, evCode_loop, evCode_exit, evCode_ret, seqK_ite, seqK_none, seqK_norm, seqK_ret, seqK_exit, seqK_pan, condK_true, condK_false, condK_bool, blockK_ite, blockK_none, blockK_norm, blockK_ret, blockK_exit, blockK_pan, stepK_ite, stepK_none, stepK_ok, stepK_pan, drawK_ite, drawK_none, drawK_ok, drawK_pan, opK_ite, opK_none, opK_val, opK_pan, wantK_true, wantK_false, wantK_some, afterRegion_ite, afterDraw_ite, fromBody_ite, ite_bool, ite_int, stepA_K, doOp, noOp, lexA_nil, lexA_cons, lexF_nil, lexF_cons, afterDraw, noClash, FP.clash, wantedA, evOp, rho, rhoL, ofC0, ofC, argsA, upd, afterRegion, putA, goOp, evBin_add, evBin_sub, evBin_mul, evBin_quo, evBin_rem, evBin_eql, evBin_neq, evBin_lss, evBin_leq, evBin_gtr, evBin_geq, evBin_eqlB, evBin_neqB, evBin_addS, evBin_eqlS, evBin_neqS, evBin_lssS, evBin_leqS, evUn, evConv, evIndex, evBuiltin, evLen, evMin2, evMax2, evCallee, evBox, evLoad, evStore, evFieldAddr, evField, evIndexAddr, evBuild, evBuildSlice, evElems, evSlice, nth, rdc, wrc, fromBody, resA, finRet, oneOf, AV.cells?, AV.isCell, fin_int, fin_bool, fin_str, Try.f70, E_esc, k24, c24, a24, k3, c3, a3, k2, c2, a2, k9, c9, a9, fq0, fq1, fq2, fq3, fq4, bq3, bq2, bq9, hks, -AV.isCell, hps, q1, q2, q3, q13, q5, q6, q21, q22, q23, q24, h0, h1, h2]
  · have e1 : nm = [] := by simpa using h0
    have e2 : a = 0 := by simpa using h1
    have e3 : lo = 0 := by simpa using h2
    have e4 : hi = 0 := by simpa using h
    exact ⟨by omega, by omega, fun _ => e1, by omega, by omega, fun _ _ => e2, by omega, by omega, fun _ => ⟨e3, e4⟩⟩

set_option maxHeartbeats 4000000 in
theorem own_text (n : Nat) (k : Int) (nm : List UInt8) (hl : nm.length ≤ 1048576) (hn : nm.length < n) (a lo hi : Int) (ks : AV) (hks : ks.isCell = true) (S : St)
    (hk : k = 3) : OwnOut n k nm a lo hi ks S := by
  unfold OwnOut
  have hps : E.ps 70 1 = [(1, 4), (1, 7), (4, 7), (1, 10), (4, 10), (7, 10)] := rfl
  have hp : ev Try.prog E (n + 3) 78 [.str nm] S = some (.ret (.bool (plainB nm)), S) := ev_lPlain (n + 1) nm S
  rw [ev_enter (n := n + 3) (show E.ok 70 = true from rfl) Try.func70 (fn := Try.f70) rfl (Nat.le_of_ble_eq_true rfl) (by decide +kernel)]
  cases h0 : plainB nm
  · refine ⟨false, ?_, iff_of_false (by simp) fun f => by have := f.text (by omega); rw [h0] at this; cases this⟩
    rw [h0] at hp; subst hk; simp (disch := first | (simp only [List.length_append, List.length_cons, List.length_nil]; omega) | (simp; done) | assumption) [↓evOp_build, ↓evOp_bslice, rhoP_nil, rhoP_cons, evCode_skip, evCode_region, evCode_draw, evCode_seq, evCode_cond, evCode_block, evCode_loop, evCode_exit, evCode_ret, seqK_ite, seqK_none, seqK_norm, seqK_ret, seqK_exit, seqK_pan, condK_true, condK_false, condK_bool, blockK_ite, blockK_none, blockK_norm, blockK_ret, blockK_exit, blockK_pan, stepK_ite, stepK_none, stepK_ok, stepK_pan, drawK_ite, drawK_none, drawK_ok, drawK_pan, opK_ite, opK_none, opK_val, opK_pan, wantK_true, wantK_false, wantK_some, afterRegion_ite, afterDraw_ite, fromBody_ite, ite_bool, ite_int, stepA_K, doOp, noOp, lexA_nil, lexA_cons, lexF_nil, lexF_cons, afterDraw, noClash, FP.clash, wantedA, evOp, rho, rhoL, ofC0, ofC, argsA, upd, afterRegion, putA, goOp, evBin_add, evBin_sub, evBin_mul, evBin_quo, evBin_rem, evBin_eql, evBin_neq, evBin_lss, evBin_leq, evBin_gtr, evBin_geq, evBin_eqlB, evBin_neqB, evBin_addS, evBin_eqlS, evBin_neqS, evBin_lssS, evBin_leqS, evUn, evConv, evIndex, evBuiltin, evLen, evMin2, evMax2, evCallee, evBox, evLoad, evStore, evFieldAddr, evField, evIndexAddr, evBuild, evBuildSlice, evElems, evSlice, nth, rdc, wrc, fromBody, resA, finRet, oneOf, AV.cells?, AV.isCell, fin_int, fin_bool, fin_str, Try.f70, E_esc, k24, c24, a24, k3, c3, a3, k2, c2, a2, k9, c9, a9, fq0, fq1, fq2, fq3, fq4, bq3, bq2, bq9, hks, -AV.isCell, hps, h0, hp]
  rw [h0] at hp
  cases h1 : (a == 0)
  · refine ⟨false, ?_, iff_of_false (by simp) fun f => by have := f.num (by omega) (by omega); subst this; simp at h1⟩
    subst hk; simp (disch := first | (simp only [List.length_append, List.length_cons, List.length_nil]; omega) | (simp; done) | assumption) [↓evOp_build, ↓evOp_bslice, rhoP_nil, rhoP_cons, evCode_skip, evCode_region, evCode_draw, evCode_seq, evCode_cond, evCode_block, evCode_loop, evCode_exit, evCode_ret, seqK_ite, seqK_none, seqK_norm, seqK_ret, seqK_exit, seqK_pan, condK_true, condK_false, condK_bool, blockK_ite, blockK_none, blockK_norm, blockK_ret, blockK_exit, blockK_pan, stepK_ite, stepK_none, stepK_ok, stepK_pan, drawK_ite, drawK_none, drawK_ok, drawK_pan, opK_ite, opK_none, opK_val, opK_pan, wantK_true, wantK_false, wantK_some, afterRegion_ite, afterDraw_ite, fromBody_ite, ite_bool, ite_int, stepA_K, doOp, noOp, lexA_nil, lexA_cons, lexF_nil, lexF_cons, afterDraw, noClash, FP.clash, wantedA, evOp, rho, rhoL, ofC0, ofC, argsA, upd, afterRegion, putA, goOp, evBin_add, evBin_sub, evBin_mul, evBin_quo, evBin_rem, evBin_eql, evBin_neq, evBin_lss, evBin_leq, evBin_gtr, evBin_geq, evBin_eqlB, evBin_neqB, evBin_addS, evBin_eqlS, evBin_neqS, evBin_lssS, evBin_leqS, evUn, evConv, evIndex, evBuiltin, evLen, evMin2, evMax2, evCallee, evBox, evLoad, evStore, evFieldAddr, evField, evIndexAddr, evBuild, evBuildSlice, evElems, evSlice, nth, rdc, wrc, fromBody, resA, finRet, oneOf, AV.cells?, AV.isCell, fin_int, fin_bool, fin_str, Try.f70, E_esc, k24, c24, a24, k3, c3, a3, k2, c2, a2, k9, c9, a9, fq0, fq1, fq2, fq3, fq4, bq3, bq2, bq9, hks, -AV.isCell, hps, h0, hp, h1]
  cases h2 : (lo == 0)
  · refine ⟨false, ?_, iff_of_false (by simp) fun f => by have := (f.zero (by omega)).1; subst this; simp at h2⟩
    subst hk; simp (disch := first | (simp only [List.length_append, List.length_cons, List.length_nil]; omega) | (simp; done) | assumption) [↓evOp_build, ↓evOp_bslice, rhoP_nil, rhoP_cons, evCode_skip, evCode_region, evCode_draw, evCode_seq, evCode_cond, evCode_block, evCode_loop, evCode_exit, evCode_ret, seqK_ite, seqK_none, seqK_norm, seqK_ret, seqK_exit, seqK_pan, condK_true, condK_false, condK_bool, blockK_ite, blockK_none, blockK_norm, blockK_ret, blockK_exit, blockK_pan, stepK_ite, stepK_none, stepK_ok, stepK_pan, drawK_ite, drawK_none, drawK_ok, drawK_pan, opK_ite, opK_none, opK_val, opK_pan, wantK_true, wantK_false, wantK_some, afterRegion_ite, afterDraw_ite, fromBody_ite, ite_bool, ite_int, stepA_K, doOp, noOp, lexA_nil, lexA_cons, lexF_nil, lexF_cons, afterDraw, noClash, FP.clash, wantedA, evOp, rho, rhoL, ofC0, ofC, argsA, upd, afterRegion, putA, goOp, evBin_add, evBin_sub, evBin_mul, evBin_quo, evBin_rem, evBin_eql, evBin_neq, evBin_lss, evBin_leq, evBin_gtr, evBin_geq, evBin_eqlB, evBin_neqB, evBin_addS, evBin_eqlS, evBin_neqS, evBin_lssS, evBin_leqS, evUn, evConv, evIndex, evBuiltin, evLen, evMin2, evMax2, evCallee, evBox, evLoad, evStore, evFieldAddr, evField, evIndexAddr, evBuild, evBuildSlice, evElems, evSlice, nth, rdc, wrc, fromBody, resA, finRet, oneOf, AV.cells?, AV.isCell, fin_int, fin_bool, fin_str, Try.f70, E_esc, k24, c24, a24, k3, c3, a3, k2, c2, a2, k9, c9, a9, fq0, fq1, fq2, fq3, fq4, bq3, bq2, bq9, hks, -AV.isCell, hps, h0, hp, h1, h2]
  refine ⟨hi == 0, ?_, fun h => ?_, fun f => by have := (f.zero (by omega)).2; simp [this]⟩
  · subst hk; simp (disch := first | (simp only [List.length_append, List.length_cons, List.length_nil]; omega) | (simp; done) | assumption) [↓evOp_build, ↓evOp_bslice, rhoP_nil, rhoP_cons, evCode_skip, evCode_region, evCode_draw, evCode_seq, evCode_cond, evCode_block, evCode_loop, evCode_exit, evCode_ret, seqK_ite, seqK_none, seqK_norm, seqK_ret, seqK_exit, seqK_pan, condK_true, condK_false, condK_bool, blockK_ite, blockK_none, blockK_norm, blockK_ret, blockK_exit, blockK_pan, stepK_ite, stepK_none, stepK_ok, stepK_pan, drawK_ite, drawK_none, drawK_ok, drawK_pan, opK_ite, opK_none, opK_val, opK_pan, wantK_true, wantK_false, wantK_some, afterRegion_ite, afterDraw_ite, fromBody_ite, ite_bool, ite_int, stepA_K, doOp, noOp, lexA_nil, lexA_cons, lexF_nil, lexF_cons, afterDraw, noClash, FP.clash, wantedA, evOp, rho, rhoL, ofC0, ofC, argsA, upd, afterRegion, putA, goOp, evBin_add, evBin_sub, evBin_mul, evBin_quo, evBin_rem, evBin_eql, evBin_neq, evBin_lss, evBin_leq, evBin_gtr, evBin_geq, evBin_eqlB, evBin_neqB, evBin_addS, evBin_eqlS, evBin_neqS, evBin_lssS, evBin_leqS, evUn, evConv, evIndex, evBuiltin, evLen, evMin2, evMax2, evCallee, evBox, evLoad, evStore, evFieldAddr, evField, evIndexAddr, evBuild, evBuildSlice, evElems, evSlice, nth, rdc, wrc, fromBody, resA, finRet, oneOf, AV.cells?, AV.isCell, fin_int, fin_bool, fin_str, Try.f70, E_esc, k24, c24, a24, k3, c3, a3, k2, c2, a2, k9, c9, a9, fq0, fq1, fq2, fq3, fq4, bq3, bq2, bq9, hks, -AV.isCell, hps, h0, hp, h1, h2]
  · have e2 : a = 0 := by simpa using h1
    have e3 : lo = 0 := by simpa using h2
    have e4 : hi = 0 := by simpa using h
    exact ⟨fun _ => h0, by omega, fun hh => absurd (.inl hk) hh, by omega, by omega, fun _ _ => e2, by omega, by omega, fun _ => ⟨e3, e4⟩⟩

set_option maxHeartbeats 4000000 in
theorem own_named (n : Nat) (k : Int) (nm : List UInt8) (hl : nm.length ≤ 1048576) (hn : nm.length < n) (a lo hi : Int) (ks : AV) (hks : ks.isCell = true) (S : St)
    (hk : k = 5 ∨ k = 6 ∨ k = 21) : OwnOut n k nm a lo hi ks S := by
  unfold OwnOut
  have hps : E.ps 70 1 = [(1, 4), (1, 7), (4, 7), (1, 10), (4, 10), (7, 10)] := rfl
  have hp : ev Try.prog E (n + 3) 79 [.str nm] S = some (.ret (.bool (nameB nm)), S) := ev_lName (n + 1) nm hl (by omega) S
  rw [ev_enter (n := n + 3) (show E.ok 70 = true from rfl) Try.func70 (fn := Try.f70) rfl (Nat.le_of_ble_eq_true rfl) (by decide +kernel)]
  cases h0 : nameB nm
  · refine ⟨false, ?_, iff_of_false (by simp) fun f => by have := f.name (by omega); rw [h0] at this; cases this⟩
    rw [h0] at hp; rcases hk with rfl | rfl | rfl <;> simp (disch := first | (simp only [List.length_append, List.length_cons, List.length_nil]; omega) | (simp; done) | assumption) [↓evOp_build, ↓evOp_bslice, rhoP_nil, rhoP_cons, evCode_skip, evCode_region, evCode_draw, evCode_seq, evCode_cond, evCode_block, evCode_loop, evCode_exit, evCode_ret, seqK_ite, seqK_none, seqK_norm, seqK_ret, seqK_exit, seqK_pan, condK_true, condK_false, condK_bool, blockK_ite, blockK_none, blockK_norm, blockK_ret, blockK_exit, blockK_pan, stepK_ite, stepK_none, stepK_ok, stepK_pan, drawK_ite, drawK_none, drawK_ok, drawK_pan, opK_ite, opK_none, opK_val, opK_pan, wantK_true, wantK_false, wantK_some, afterRegion_ite, afterDraw_ite, fromBody_ite, ite_bool, ite_int, stepA_K, doOp, noOp, lexA_nil, lexA_cons, lexF_nil, lexF_cons, afterDraw, noClash, FP.clash, wantedA, evOp, rho, rhoL, ofC0, ofC, argsA, upd, afterRegion, putA, goOp, evBin_add, evBin_sub, evBin_mul, evBin_quo, evBin_rem, evBin_eql, evBin_neq, evBin_lss, evBin_leq, evBin_gtr, evBin_geq, evBin_eqlB, evBin_neqB, evBin_addS, evBin_eqlS, evBin_neqS, evBin_lssS, evBin_leqS, evUn, evConv, evIndex, evBuiltin, evLen, evMin2, evMax2, evCallee, evBox, evLoad, evStore, evFieldAddr, evField, evIndexAddr, evBuild, evBuildSlice, evElems, evSlice, nth, rdc, wrc, fromBody, resA, finRet, oneOf, AV.cells?, AV.isCell, fin_int, fin_bool, fin_str, Try.f70, E_esc, k24, c24, a24, k3, c3, a3, k2, c2, a2, k9, c9, a9, fq0, fq1, fq2, fq3, fq4, bq3, bq2, bq9, hks, -AV.isCell, hps, h0, hp]
  rw [h0] at hp
  cases h1 : (a == 0)
  · refine ⟨false, ?_, iff_of_false (by simp) fun f => by have := f.num (by omega) (by omega); subst this; simp at h1⟩
    rcases hk with rfl | rfl | rfl <;> simp (disch := first | (simp only [List.length_append, List.length_cons, List.length_nil]; omega) | (simp; done) | assumption) [↓evOp_build, ↓evOp_bslice, rhoP_nil, rhoP_cons, evCode_skip, evCode_region, evCode_draw, evCode_seq, evCode_cond, evCode_block, evCode_loop, evCode_exit, evCode_ret, seqK_ite, seqK_none, seqK_norm, seqK_ret, seqK_exit, seqK_pan, condK_true, condK_false, condK_bool, blockK_ite, blockK_none, blockK_norm, blockK_ret, blockK_exit, blockK_pan, stepK_ite, stepK_none, stepK_ok, stepK_pan, drawK_ite, drawK_none, drawK_ok, drawK_pan, opK_ite, opK_none, opK_val, opK_pan, wantK_true, wantK_false, wantK_some, afterRegion_ite, afterDraw_ite, fromBody_ite, ite_bool, ite_int, stepA_K, doOp, noOp, lexA_nil, lexA_cons, lexF_nil, lexF_cons, afterDraw, noClash, FP.clash, wantedA, evOp, rho, rhoL, ofC0, ofC, argsA, upd, afterRegion, putA, goOp, evBin_add, evBin_sub, evBin_mul, evBin_quo, evBin_rem, evBin_eql, evBin_neq, evBin_lss, evBin_leq, evBin_gtr, evBin_geq, evBin_eqlB, evBin_neqB, evBin_addS, evBin_eqlS, evBin_neqS, evBin_lssS, evBin_leqS, evUn, evConv, evIndex, evBuiltin, evLen, evMin2, evMax2, evCallee, evBox, evLoad, evStore, evFieldAddr, evField, evIndexAddr, evBuild, evBuildSlice, evElems, evSlice, nth, rdc, wrc, fromBody, resA, finRet, oneOf, AV.cells?, AV.isCell, fin_int, fin_bool, fin_str, Try.f70, E_esc, k24, c24, a24, k3, c3, a3, k2, c2, a2, k9, c9, a9, fq0, fq1, fq2, fq3, fq4, bq3, bq2, bq9, hks, -AV.isCell, hps, h0, hp, h1]
  cases h2 : (lo == 0)
  · refine ⟨false, ?_, iff_of_false (by simp) fun f => by have := (f.zero (by omega)).1; subst this; simp at h2⟩
    rcases hk with rfl | rfl | rfl <;> simp (disch := first | (simp only [List.length_append, List.length_cons, List.length_nil]; omega) | (simp; done) | assumption) [↓evOp_build, ↓evOp_bslice, rhoP_nil, rhoP_cons, evCode_skip, evCode_region, evCode_draw, evCode_seq, evCode_cond, evCode_block, evCode_loop, evCode_exit, evCode_ret, seqK_ite, seqK_none, seqK_norm, seqK_ret, seqK_exit, seqK_pan, condK_true, condK_false, condK_bool, blockK_ite, blockK_none, blockK_norm, blockK_ret, blockK_exit, blockK_pan, stepK_ite, stepK_none, stepK_ok, stepK_pan, drawK_ite, drawK_none, drawK_ok, drawK_pan, opK_ite, opK_none, opK_val, opK_pan, wantK_true, wantK_false, wantK_some, afterRegion_ite, afterDraw_ite, fromBody_ite, ite_bool, ite_int, stepA_K, doOp, noOp, lexA_nil, lexA_cons, lexF_nil, lexF_cons, afterDraw, noClash, FP.clash, wantedA, evOp, rho, rhoL, ofC0, ofC, argsA, upd, afterRegion, putA, goOp, evBin_add, evBin_sub, evBin_mul, evBin_quo, evBin_rem, evBin_eql, evBin_neq, evBin_lss, evBin_leq, evBin_gtr, evBin_geq, evBin_eqlB, evBin_neqB, evBin_addS, evBin_eqlS, evBin_neqS, evBin_lssS, evBin_leqS, evUn, evConv, evIndex, evBuiltin, evLen, evMin2, evMax2, evCallee, evBox, evLoad, evStore, evFieldAddr, evField, evIndexAddr, evBuild, evBuildSlice, evElems, evSlice, nth, rdc, wrc, fromBody, resA, finRet, oneOf, AV.cells?, AV.isCell, fin_int, fin_bool, fin_str, Try.f70, E_esc, k24, c24, a24, k3, c3, a3, k2, c2, a2, k9, c9, a9, fq0, fq1, fq2, fq3, fq4, bq3, bq2, bq9, hks, -AV.isCell, hps, h0, hp, h1, h2]
  refine ⟨hi == 0, ?_, fun h => ?_, fun f => by have := (f.zero (by omega)).2; simp [this]⟩
  · rcases hk with rfl | rfl | rfl <;> simp (disch := first | (simp only [List.length_append, List.length_cons, List.length_nil]; omega) | (simp; done) | assumption) [↓evOp_build, ↓evOp_bslice, rhoP_nil, rhoP_cons, evCode_skip, evCode_region, evCode_draw, evCode_seq, evCode_cond, evCode_block, evCode_loop, evCode_exit, evCode_ret, seqK_ite, seqK_none, seqK_norm, seqK_ret, seqK_exit, seqK_pan, condK_true, condK_false, condK_bool, blockK_ite, blockK_none, blockK_norm, blockK_ret, blockK_exit, blockK_pan, stepK_ite, stepK_none, stepK_ok, stepK_pan, drawK_ite, drawK_none, drawK_ok, drawK_pan, opK_ite, opK_none, opK_val, opK_pan, wantK_true, wantK_false, wantK_some, afterRegion_ite, afterDraw_ite, fromBody_ite, ite_bool, ite_int, stepA_K, doOp, noOp, lexA_nil, lexA_cons, lexF_nil, lexF_cons, afterDraw, noClash, FP.clash, wantedA, evOp, rho, rhoL, ofC0, ofC, argsA, upd, afterRegion, putA, goOp, evBin_add, evBin_sub, evBin_mul, evBin_quo, evBin_rem, evBin_eql, evBin_neq, evBin_lss, evBin_leq, evBin_gtr, evBin_geq, evBin_eqlB, evBin_neqB, evBin_addS, evBin_eqlS, evBin_neqS, evBin_lssS, evBin_leqS, evUn, evConv, evIndex, evBuiltin, evLen, evMin2, evMax2, evCallee, evBox, evLoad, evStore, evFieldAddr, evField, evIndexAddr, evBuild, evBuildSlice, evElems, evSlice, nth, rdc, wrc, fromBody, resA, finRet, oneOf, AV.cells?, AV.isCell, fin_int, fin_bool, fin_str, Try.f70, E_esc, k24, c24, a24, k3, c3, a3, k2, c2, a2, k9, c9, a9, fq0, fq1, fq2, fq3, fq4, bq3, bq2, bq9, hks, -AV.isCell, hps, h0, hp, h1, h2]
  · have e2 : a = 0 := by simpa using h1
    have e3 : lo = 0 := by simpa using h2
    have e4 : hi = 0 := by simpa using h
    exact ⟨by omega, fun _ => h0, by omega, by omega, by omega, fun _ _ => e2, by omega, by omega, fun _ => ⟨e3, e4⟩⟩

set_option maxHeartbeats 4000000 in
theorem own_times (n : Nat) (k : Int) (nm : List UInt8) (hl : nm.length ≤ 1048576) (hn : nm.length < n) (a lo hi : Int) (ks : AV) (hks : ks.isCell = true) (S : St)
    (hk : k = 13) : OwnOut n k nm a lo hi ks S := by
  unfold OwnOut
  have hps : E.ps 70 1 = [(1, 4), (1, 7), (4, 7), (1, 10), (4, 10), (7, 10)] := rfl
  have hp : ev Try.prog E (n + 3) 79 [.str nm] S = some (.ret (.bool (nameB nm)), S) := ev_lName (n + 1) nm hl (by omega) S
  rw [ev_enter (n := n + 3) (show E.ok 70 = true from rfl) Try.func70 (fn := Try.f70) rfl (Nat.le_of_ble_eq_true rfl) (by decide +kernel)]
  cases h0 : nameB nm
  · refine ⟨false, ?_, iff_of_false (by simp) fun f => by have := f.name (by omega); rw [h0] at this; cases this⟩
    rw [h0] at hp; subst hk; simp (disch := first | (simp only [List.length_append, List.length_cons, List.length_nil]; omega) | (simp; done) | assumption) [↓evOp_build, ↓evOp_bslice, rhoP_nil, rhoP_cons, evCode_skip, evCode_region, evCode_draw, evCode_seq, evCode_cond, evCode_block, evCode_loop, evCode_exit, evCode_ret, seqK_ite, seqK_none, seqK_norm, seqK_ret, seqK_exit, seqK_pan, condK_true, condK_false, condK_bool, blockK_ite, blockK_none, blockK_norm, blockK_ret, blockK_exit, blockK_pan, stepK_ite, stepK_none, stepK_ok, stepK_pan, drawK_ite, drawK_none, drawK_ok, drawK_pan, opK_ite, opK_none, opK_val, opK_pan, wantK_true, wantK_false, wantK_some, afterRegion_ite, afterDraw_ite, fromBody_ite, ite_bool, ite_int, stepA_K, doOp, noOp, lexA_nil, lexA_cons, lexF_nil, lexF_cons, afterDraw, noClash, FP.clash, wantedA, evOp, rho, rhoL, ofC0, ofC, argsA, upd, afterRegion, putA, goOp, evBin_add, evBin_sub, evBin_mul, evBin_quo, evBin_rem, evBin_eql, evBin_neq, evBin_lss, evBin_leq, evBin_gtr, evBin_geq, evBin_eqlB, evBin_neqB, evBin_addS, evBin_eqlS, evBin_neqS, evBin_lssS, evBin_leqS, evUn, evConv, evIndex, evBuiltin, evLen, evMin2, evMax2, evCallee, evBox, evLoad, evStore, evFieldAddr, evField, evIndexAddr, evBuild, evBuildSlice, evElems, evSlice, nth, rdc, wrc, fromBody, resA, finRet, oneOf, AV.cells?, AV.isCell, fin_int, fin_bool, fin_str, Try.f70, E_esc, k24, c24, a24, k3, c3, a3, k2, c2, a2, k9, c9, a9, fq0, fq1, fq2, fq3, fq4, bq3, bq2, bq9, hks, -AV.isCell, hps, h0, hp]
  rw [h0] at hp
  cases h1 : (a == 0)
  · refine ⟨false, ?_, iff_of_false (by simp) fun f => by have := f.num (by omega) (by omega); subst this; simp at h1⟩
    subst hk; simp (disch := first | (simp only [List.length_append, List.length_cons, List.length_nil]; omega) | (simp; done) | assumption) [↓evOp_build, ↓evOp_bslice, rhoP_nil, rhoP_cons, evCode_skip, evCode_region, evCode_draw, evCode_seq, evCode_cond, evCode_block, evCode_loop, evCode_exit, evCode_ret, seqK_ite, seqK_none, seqK_norm, seqK_ret, seqK_exit, seqK_pan, condK_true, condK_false, condK_bool, blockK_ite, blockK_none, blockK_norm, blockK_ret, blockK_exit, blockK_pan, stepK_ite, stepK_none, stepK_ok, stepK_pan, drawK_ite, drawK_none, drawK_ok, drawK_pan, opK_ite, opK_none, opK_val, opK_pan, wantK_true, wantK_false, wantK_some, afterRegion_ite, afterDraw_ite, fromBody_ite, ite_bool, ite_int, stepA_K, doOp, noOp, lexA_nil, lexA_cons, lexF_nil, lexF_cons, afterDraw, noClash, FP.clash, wantedA, evOp, rho, rhoL, ofC0, ofC, argsA, upd, afterRegion, putA, goOp, evBin_add, evBin_sub, evBin_mul, evBin_quo, evBin_rem, evBin_eql, evBin_neq, evBin_lss, evBin_leq, evBin_gtr, evBin_geq, evBin_eqlB, evBin_neqB, evBin_addS, evBin_eqlS, evBin_neqS, evBin_lssS, evBin_leqS, evUn, evConv, evIndex, evBuiltin, evLen, evMin2, evMax2, evCallee, evBox, evLoad, evStore, evFieldAddr, evField, evIndexAddr, evBuild, evBuildSlice, evElems, evSlice, nth, rdc, wrc, fromBody, resA, finRet, oneOf, AV.cells?, AV.isCell, fin_int, fin_bool, fin_str, Try.f70, E_esc, k24, c24, a24, k3, c3, a3, k2, c2, a2, k9, c9, a9, fq0, fq1, fq2, fq3, fq4, bq3, bq2, bq9, hks, -AV.isCell, hps, h0, hp, h1]
  cases h2 : (lo == 0)
  · refine ⟨false, ?_, iff_of_false (by simp) fun f => by have := (f.times hk).1; subst this; simp at h2⟩
    subst hk; simp (disch := first | (simp only [List.length_append, List.length_cons, List.length_nil]; omega) | (simp; done) | assumption) [↓evOp_build, ↓evOp_bslice, rhoP_nil, rhoP_cons, evCode_skip, evCode_region, evCode_draw, evCode_seq, evCode_cond, evCode_block, evCode_loop, evCode_exit, evCode_ret, seqK_ite, seqK_none, seqK_norm, seqK_ret, seqK_exit, seqK_pan, condK_true, condK_false, condK_bool, blockK_ite, blockK_none, blockK_norm, blockK_ret, blockK_exit, blockK_pan, stepK_ite, stepK_none, stepK_ok, stepK_pan, drawK_ite, drawK_none, drawK_ok, drawK_pan, opK_ite, opK_none, opK_val, opK_pan, wantK_true, wantK_false, wantK_some, afterRegion_ite, afterDraw_ite, fromBody_ite, ite_bool, ite_int, stepA_K, doOp, noOp, lexA_nil, lexA_cons, lexF_nil, lexF_cons, afterDraw, noClash, FP.clash, wantedA, evOp, rho, rhoL, ofC0, ofC, argsA, upd, afterRegion, putA, goOp, evBin_add, evBin_sub, evBin_mul, evBin_quo, evBin_rem, evBin_eql, evBin_neq, evBin_lss, evBin_leq, evBin_gtr, evBin_geq, evBin_eqlB, evBin_neqB, evBin_addS, evBin_eqlS, evBin_neqS, evBin_lssS, evBin_leqS, evUn, evConv, evIndex, evBuiltin, evLen, evMin2, evMax2, evCallee, evBox, evLoad, evStore, evFieldAddr, evField, evIndexAddr, evBuild, evBuildSlice, evElems, evSlice, nth, rdc, wrc, fromBody, resA, finRet, oneOf, AV.cells?, AV.isCell, fin_int, fin_bool, fin_str, Try.f70, E_esc, k24, c24, a24, k3, c3, a3, k2, c2, a2, k9, c9, a9, fq0, fq1, fq2, fq3, fq4, bq3, bq2, bq9, hks, -AV.isCell, hps, h0, hp, h1, h2]
  refine ⟨decide (0 ≤ hi), ?_, fun h => ?_, fun f => by have := (f.times hk).2; simp [this]⟩
  · subst hk; simp (disch := first | (simp only [List.length_append, List.length_cons, List.length_nil]; omega) | (simp; done) | assumption) [↓evOp_build, ↓evOp_bslice, rhoP_nil, rhoP_cons, evCode_skip, evCode_region, evCode_draw, evCode_seq, evCode_cond, evCode_block, evCode_loop, evCode_exit, evCode_ret, seqK_ite, seqK_none, seqK_norm, seqK_ret, seqK_exit, seqK_pan, condK_true, condK_false, condK_bool, blockK_ite, blockK_none, blockK_norm, blockK_ret, blockK_exit, blockK_pan, stepK_ite, stepK_none, stepK_ok, stepK_pan, drawK_ite, drawK_none, drawK_ok, drawK_pan, opK_ite, opK_none, opK_val, opK_pan, wantK_true, wantK_false, wantK_some, afterRegion_ite, afterDraw_ite, fromBody_ite, ite_bool, ite_int, stepA_K, doOp, noOp, lexA_nil, lexA_cons, lexF_nil, lexF_cons, afterDraw, noClash, FP.clash, wantedA, evOp, rho, rhoL, ofC0, ofC, argsA, upd, afterRegion, putA, goOp, evBin_add, evBin_sub, evBin_mul, evBin_quo, evBin_rem, evBin_eql, evBin_neq, evBin_lss, evBin_leq, evBin_gtr, evBin_geq, evBin_eqlB, evBin_neqB, evBin_addS, evBin_eqlS, evBin_neqS, evBin_lssS, evBin_leqS, evUn, evConv, evIndex, evBuiltin, evLen, evMin2, evMax2, evCallee, evBox, evLoad, evStore, evFieldAddr, evField, evIndexAddr, evBuild, evBuildSlice, evElems, evSlice, nth, rdc, wrc, fromBody, resA, finRet, oneOf, AV.cells?, AV.isCell, fin_int, fin_bool, fin_str, Try.f70, E_esc, k24, c24, a24, k3, c3, a3, k2, c2, a2, k9, c9, a9, fq0, fq1, fq2, fq3, fq4, bq3, bq2, bq9, hks, -AV.isCell, hps, h0, hp, h1, h2]
  · have e2 : a = 0 := by simpa using h1
    have e3 : lo = 0 := by simpa using h2
    have e4 : 0 ≤ hi := by simpa using h
    exact ⟨by omega, fun _ => h0, by omega, by omega, by omega, fun _ _ => e2, by omega, fun _ => ⟨e3, e4⟩, by omega⟩

set_option maxHeartbeats 4000000 in
theorem own_int (n : Nat) (k : Int) (nm : List UInt8) (hl : nm.length ≤ 1048576) (hn : nm.length < n) (a lo hi : Int) (ks : AV) (hks : ks.isCell = true) (S : St)
    (hk : k = 1) : OwnOut n k nm a lo hi ks S := by
  unfold OwnOut
  have hps : E.ps 70 1 = [(1, 4), (1, 7), (4, 7), (1, 10), (4, 10), (7, 10)] := rfl
  rw [ev_enter (n := n + 3) (show E.ok 70 = true from rfl) Try.func70 (fn := Try.f70) rfl (Nat.le_of_ble_eq_true rfl) (by decide +kernel)]
  cases h0 : (nm == [])
  · refine ⟨false, ?_, iff_of_false (by simp) fun f => by have := f.none (by omega); subst this; simp at h0⟩
    subst hk; simp (disch := first | (simp only [List.length_append, List.length_cons, List.length_nil]; omega) | (simp; done) | assumption) [↓evOp_build, ↓evOp_bslice, rhoP_nil, rhoP_cons, evCode_skip, evCode_region, evCode_draw, evCode_seq, evCode_cond, evCode_block, evCode_loop, evCode_exit, evCode_ret, seqK_ite, seqK_none, seqK_norm, seqK_ret, seqK_exit, seqK_pan, condK_true, condK_false, condK_bool, blockK_ite, blockK_none, blockK_norm, blockK_ret, blockK_exit, blockK_pan, stepK_ite, stepK_none, stepK_ok, stepK_pan, drawK_ite, drawK_none, drawK_ok, drawK_pan, opK_ite, opK_none, opK_val, opK_pan, wantK_true, wantK_false, wantK_some, afterRegion_ite, afterDraw_ite, fromBody_ite, ite_bool, ite_int, stepA_K, doOp, noOp, lexA_nil, lexA_cons, lexF_nil, lexF_cons, afterDraw, noClash, FP.clash, wantedA, evOp, rho, rhoL, ofC0, ofC, argsA, upd, afterRegion, putA, goOp, evBin_add, evBin_sub, evBin_mul, evBin_quo, evBin_rem, evBin_eql, evBin_neq, evBin_lss, evBin_leq, evBin_gtr, evBin_geq, evBin_eqlB, evBin_neqB, evBin_addS, evBin_eqlS, evBin_neqS, evBin_lssS, evBin_leqS, evUn, evConv, evIndex, evBuiltin, evLen, evMin2, evMax2, evCallee, evBox, evLoad, evStore, evFieldAddr, evField, evIndexAddr, evBuild, evBuildSlice, evElems, evSlice, nth, rdc, wrc, fromBody, resA, finRet, oneOf, AV.cells?, AV.isCell, fin_int, fin_bool, fin_str, Try.f70, E_esc, k24, c24, a24, k3, c3, a3, k2, c2, a2, k9, c9, a9, fq0, fq1, fq2, fq3, fq4, bq3, bq2, bq9, hks, -AV.isCell, hps, h0]
  cases h1 : decide (0 ≤ a)
  · refine ⟨false, ?_, iff_of_false (by simp) fun f => by have := f.int (by omega); simp at h1; omega⟩
    subst hk; simp (disch := first | (simp only [List.length_append, List.length_cons, List.length_nil]; omega) | (simp; done) | assumption) [↓evOp_build, ↓evOp_bslice, rhoP_nil, rhoP_cons, evCode_skip, evCode_region, evCode_draw, evCode_seq, evCode_cond, evCode_block, evCode_loop, evCode_exit, evCode_ret, seqK_ite, seqK_none, seqK_norm, seqK_ret, seqK_exit, seqK_pan, condK_true, condK_false, condK_bool, blockK_ite, blockK_none, blockK_norm, blockK_ret, blockK_exit, blockK_pan, stepK_ite, stepK_none, stepK_ok, stepK_pan, drawK_ite, drawK_none, drawK_ok, drawK_pan, opK_ite, opK_none, opK_val, opK_pan, wantK_true, wantK_false, wantK_some, afterRegion_ite, afterDraw_ite, fromBody_ite, ite_bool, ite_int, stepA_K, doOp, noOp, lexA_nil, lexA_cons, lexF_nil, lexF_cons, afterDraw, noClash, FP.clash, wantedA, evOp, rho, rhoL, ofC0, ofC, argsA, upd, afterRegion, putA, goOp, evBin_add, evBin_sub, evBin_mul, evBin_quo, evBin_rem, evBin_eql, evBin_neq, evBin_lss, evBin_leq, evBin_gtr, evBin_geq, evBin_eqlB, evBin_neqB, evBin_addS, evBin_eqlS, evBin_neqS, evBin_lssS, evBin_leqS, evUn, evConv, evIndex, evBuiltin, evLen, evMin2, evMax2, evCallee, evBox, evLoad, evStore, evFieldAddr, evField, evIndexAddr, evBuild, evBuildSlice, evElems, evSlice, nth, rdc, wrc, fromBody, resA, finRet, oneOf, AV.cells?, AV.isCell, fin_int, fin_bool, fin_str, Try.f70, E_esc, k24, c24, a24, k3, c3, a3, k2, c2, a2, k9, c9, a9, fq0, fq1, fq2, fq3, fq4, bq3, bq2, bq9, hks, -AV.isCell, hps, h0, h1]
  cases h2 : (lo == 0)
  · refine ⟨false, ?_, iff_of_false (by simp) fun f => by have := (f.zero (by omega)).1; subst this; simp at h2⟩
    subst hk; simp (disch := first | (simp only [List.length_append, List.length_cons, List.length_nil]; omega) | (simp; done) | assumption) [↓evOp_build, ↓evOp_bslice, rhoP_nil, rhoP_cons, evCode_skip, evCode_region, evCode_draw, evCode_seq, evCode_cond, evCode_block, evCode_loop, evCode_exit, evCode_ret, seqK_ite, seqK_none, seqK_norm, seqK_ret, seqK_exit, seqK_pan, condK_true, condK_false, condK_bool, blockK_ite, blockK_none, blockK_norm, blockK_ret, blockK_exit, blockK_pan, stepK_ite, stepK_none, stepK_ok, stepK_pan, drawK_ite, drawK_none, drawK_ok, drawK_pan, opK_ite, opK_none, opK_val, opK_pan, wantK_true, wantK_false, wantK_some, afterRegion_ite, afterDraw_ite, fromBody_ite, ite_bool, ite_int, stepA_K, doOp, noOp, lexA_nil, lexA_cons, lexF_nil, lexF_cons, afterDraw, noClash, FP.clash, wantedA, evOp, rho, rhoL, ofC0, ofC, argsA, upd, afterRegion, putA, goOp, evBin_add, evBin_sub, evBin_mul, evBin_quo, evBin_rem, evBin_eql, evBin_neq, evBin_lss, evBin_leq, evBin_gtr, evBin_geq, evBin_eqlB, evBin_neqB, evBin_addS, evBin_eqlS, evBin_neqS, evBin_lssS, evBin_leqS, evUn, evConv, evIndex, evBuiltin, evLen, evMin2, evMax2, evCallee, evBox, evLoad, evStore, evFieldAddr, evField, evIndexAddr, evBuild, evBuildSlice, evElems, evSlice, nth, rdc, wrc, fromBody, resA, finRet, oneOf, AV.cells?, AV.isCell, fin_int, fin_bool, fin_str, Try.f70, E_esc, k24, c24, a24, k3, c3, a3, k2, c2, a2, k9, c9, a9, fq0, fq1, fq2, fq3, fq4, bq3, bq2, bq9, hks, -AV.isCell, hps, h0, h1, h2]
  refine ⟨hi == 0, ?_, fun h => ?_, fun f => by have := (f.zero (by omega)).2; simp [this]⟩
  · subst hk; simp (disch := first | (simp only [List.length_append, List.length_cons, List.length_nil]; omega) | (simp; done) | assumption) [↓evOp_build, ↓evOp_bslice, rhoP_nil, rhoP_cons, evCode_skip, evCode_region, evCode_draw, evCode_seq, evCode_cond, evCode_block, evCode_loop, evCode_exit, evCode_ret, seqK_ite, seqK_none, seqK_norm, seqK_ret, seqK_exit, seqK_pan, condK_true, condK_false, condK_bool, blockK_ite, blockK_none, blockK_norm, blockK_ret, blockK_exit, blockK_pan, stepK_ite, stepK_none, stepK_ok, stepK_pan, drawK_ite, drawK_none, drawK_ok, drawK_pan, opK_ite, opK_none, opK_val, opK_pan, wantK_true, wantK_false, wantK_some, afterRegion_ite, afterDraw_ite, fromBody_ite, ite_bool, ite_int, stepA_K, doOp, noOp, lexA_nil, lexA_cons, lexF_nil, lexF_cons, afterDraw, noClash, FP.clash, wantedA, evOp, rho, rhoL, ofC0, ofC, argsA, upd, afterRegion, putA, goOp, evBin_add, evBin_sub, evBin_mul, evBin_quo, evBin_rem, evBin_eql, evBin_neq, evBin_lss, evBin_leq, evBin_gtr, evBin_geq, evBin_eqlB, evBin_neqB, evBin_addS, evBin_eqlS, evBin_neqS, evBin_lssS, evBin_leqS, evUn, evConv, evIndex, evBuiltin, evLen, evMin2, evMax2, evCallee, evBox, evLoad, evStore, evFieldAddr, evField, evIndexAddr, evBuild, evBuildSlice, evElems, evSlice, nth, rdc, wrc, fromBody, resA, finRet, oneOf, AV.cells?, AV.isCell, fin_int, fin_bool, fin_str, Try.f70, E_esc, k24, c24, a24, k3, c3, a3, k2, c2, a2, k9, c9, a9, fq0, fq1, fq2, fq3, fq4, bq3, bq2, bq9, hks, -AV.isCell, hps, h0, h1, h2]
  · have e1 : nm = [] := by simpa using h0
    have e2 : 0 ≤ a := by simpa using h1
    have e3 : lo = 0 := by simpa using h2
    have e4 : hi = 0 := by simpa using h
    exact ⟨by omega, by omega, fun _ => e1, fun _ => e2, by omega, by omega, by omega, by omega, fun _ => ⟨e3, e4⟩⟩

set_option maxHeartbeats 4000000 in
theorem own_span (n : Nat) (k : Int) (nm : List UInt8) (hl : nm.length ≤ 1048576) (hn : nm.length < n) (a lo hi : Int) (ks : AV) (hks : ks.isCell = true) (S : St)
    (hk : k = 22 ∨ k = 23 ∨ k = 24) : OwnOut n k nm a lo hi ks S := by
  unfold OwnOut
  have hps : E.ps 70 1 = [(1, 4), (1, 7), (4, 7), (1, 10), (4, 10), (7, 10)] := rfl
  have hp : ev Try.prog E (n + 3) 80 [.agg [.int .i64 k, .str nm, .int .i64 a, .int .i64 lo, .int .i64 hi, ks]] S = some (.ret (.bool (spanB lo hi)), S) := ev_span (n + 2) k nm a lo hi ks hks S
  rw [ev_enter (n := n + 3) (show E.ok 70 = true from rfl) Try.func70 (fn := Try.f70) rfl (Nat.le_of_ble_eq_true rfl) (by decide +kernel)]
  cases h0 : (nm == [])
  · refine ⟨false, ?_, iff_of_false (by simp) fun f => by have := f.none (by omega); subst this; simp at h0⟩
    rcases hk with rfl | rfl | rfl <;> simp (disch := first | (simp only [List.length_append, List.length_cons, List.length_nil]; omega) | (simp; done) | assumption) [↓evOp_build, ↓evOp_bslice, rhoP_nil, rhoP_cons, evCode_skip, evCode_region, evCode_draw, evCode_seq, evCode_cond, evCode_block, evCode_loop, evCode_exit, evCode_ret, seqK_ite, seqK_none, seqK_norm, seqK_ret, seqK_exit, seqK_pan, condK_true, condK_false, condK_bool, blockK_ite, blockK_none, blockK_norm, blockK_ret, blockK_exit, blockK_pan, stepK_ite, stepK_none, stepK_ok, stepK_pan, drawK_ite, drawK_none, drawK_ok, drawK_pan, opK_ite, opK_none, opK_val, opK_pan, wantK_true, wantK_false, wantK_some, afterRegion_ite, afterDraw_ite, fromBody_ite, ite_bool, ite_int, stepA_K, doOp, noOp, lexA_nil, lexA_cons, lexF_nil, lexF_cons, afterDraw, noClash, FP.clash, wantedA, evOp, rho, rhoL, ofC0, ofC, argsA, upd, afterRegion, putA, goOp, evBin_add, evBin_sub, evBin_mul, evBin_quo, evBin_rem, evBin_eql, evBin_neq, evBin_lss, evBin_leq, evBin_gtr, evBin_geq, evBin_eqlB, evBin_neqB, evBin_addS, evBin_eqlS, evBin_neqS, evBin_lssS, evBin_leqS, evUn, evConv, evIndex, evBuiltin, evLen, evMin2, evMax2, evCallee, evBox, evLoad, evStore, evFieldAddr, evField, evIndexAddr, evBuild, evBuildSlice, evElems, evSlice, nth, rdc, wrc, fromBody, resA, finRet, oneOf, AV.cells?, AV.isCell, fin_int, fin_bool, fin_str, Try.f70, E_esc, k24, c24, a24, k3, c3, a3, k2, c2, a2, k9, c9, a9, fq0, fq1, fq2, fq3, fq4, bq3, bq2, bq9, hks, -AV.isCell, hps, hp, h0]
  cases h1 : (a == 0)
  · refine ⟨false, ?_, iff_of_false (by simp) fun f => by have := f.num (by omega) (by omega); subst this; simp at h1⟩
    rcases hk with rfl | rfl | rfl <;> simp (disch := first | (simp only [List.length_append, List.length_cons, List.length_nil]; omega) | (simp; done) | assumption) [↓evOp_build, ↓evOp_bslice, rhoP_nil, rhoP_cons, evCode_skip, evCode_region, evCode_draw, evCode_seq, evCode_cond, evCode_block, evCode_loop, evCode_exit, evCode_ret, seqK_ite, seqK_none, seqK_norm, seqK_ret, seqK_exit, seqK_pan, condK_true, condK_false, condK_bool, blockK_ite, blockK_none, blockK_norm, blockK_ret, blockK_exit, blockK_pan, stepK_ite, stepK_none, stepK_ok, stepK_pan, drawK_ite, drawK_none, drawK_ok, drawK_pan, opK_ite, opK_none, opK_val, opK_pan, wantK_true, wantK_false, wantK_some, afterRegion_ite, afterDraw_ite, fromBody_ite, ite_bool, ite_int, stepA_K, doOp, noOp, lexA_nil, lexA_cons, lexF_nil, lexF_cons, afterDraw, noClash, FP.clash, wantedA, evOp, rho, rhoL, ofC0, ofC, argsA, upd, afterRegion, putA, goOp, evBin_add, evBin_sub, evBin_mul, evBin_quo, evBin_rem, evBin_eql, evBin_neq, evBin_lss, evBin_leq, evBin_gtr, evBin_geq, evBin_eqlB, evBin_neqB, evBin_addS, evBin_eqlS, evBin_neqS, evBin_lssS, evBin_leqS, evUn, evConv, evIndex, evBuiltin, evLen, evMin2, evMax2, evCallee, evBox, evLoad, evStore, evFieldAddr, evField, evIndexAddr, evBuild, evBuildSlice, evElems, evSlice, nth, rdc, wrc, fromBody, resA, finRet, oneOf, AV.cells?, AV.isCell, fin_int, fin_bool, fin_str, Try.f70, E_esc, k24, c24, a24, k3, c3, a3, k2, c2, a2, k9, c9, a9, fq0, fq1, fq2, fq3, fq4, bq3, bq2, bq9, hks, -AV.isCell, hps, hp, h0, h1]
  refine ⟨spanB lo hi, ?_, fun h => ?_, fun f => by exact (spanB_iff lo hi).2 (f.span hk)⟩
  · cases h2 : spanB lo hi <;> rw [h2] at hp <;> rcases hk with rfl | rfl | rfl <;> simp (disch := first | (simp only [List.length_append, List.length_cons, List.length_nil]; omega) | (simp; done) | assumption) [↓evOp_build, ↓evOp_bslice, rhoP_nil, rhoP_cons, evCode_skip, evCode_region, evCode_draw, evCode_seq, evCode_cond, evCode_block, evCode_loop, evCode_exit, evCode_ret, seqK_ite, seqK_none, seqK_norm, seqK_ret, seqK_exit, seqK_pan, condK_true, condK_false, condK_bool, blockK_ite, blockK_none, blockK_norm, blockK_ret, blockK_exit, blockK_pan, stepK_ite, stepK_none, stepK_ok, stepK_pan, drawK_ite, drawK_none, drawK_ok, drawK_pan, opK_ite, opK_none, opK_val, opK_pan, wantK_true, wantK_false, wantK_some, afterRegion_ite, afterDraw_ite, fromBody_ite, ite_bool, ite_int, stepA_K, doOp, noOp, lexA_nil, lexA_cons, lexF_nil, lexF_cons, afterDraw, noClash, FP.clash, wantedA, evOp, rho, rhoL, ofC0, ofC, argsA, upd, afterRegion, putA, goOp, evBin_add, evBin_sub, evBin_mul, evBin_quo, evBin_rem, evBin_eql, evBin_neq, evBin_lss, evBin_leq, evBin_gtr, evBin_geq, evBin_eqlB, evBin_neqB, evBin_addS, evBin_eqlS, evBin_neqS, evBin_lssS, evBin_leqS, evUn, evConv, evIndex, evBuiltin, evLen, evMin2, evMax2, evCallee, evBox, evLoad, evStore, evFieldAddr, evField, evIndexAddr, evBuild, evBuildSlice, evElems, evSlice, nth, rdc, wrc, fromBody, resA, finRet, oneOf, AV.cells?, AV.isCell, fin_int, fin_bool, fin_str, Try.f70, E_esc, k24, c24, a24, k3, c3, a3, k2, c2, a2, k9, c9, a9, fq0, fq1, fq2, fq3, fq4, bq3, bq2, bq9, hks, -AV.isCell, hps, hp, h0, h1]
  · have e1 : nm = [] := by simpa using h0
    have e2 : a = 0 := by simpa using h1
    exact ⟨by omega, by omega, fun _ => e1, by omega, by omega, fun _ _ => e2, fun _ => (spanB_iff lo hi).1 h, by omega, by omega⟩

set_option maxHeartbeats 4000000 in
theorem own_bool (n : Nat) (k : Int) (nm : List UInt8) (hl : nm.length ≤ 1048576) (hn : nm.length < n) (a lo hi : Int) (ks : AV) (hks : ks.isCell = true) (S : St)
    (hk : k = 2) : OwnOut n k nm a lo hi ks S := by
  unfold OwnOut
  have hps : E.ps 70 1 = [(1, 4), (1, 7), (4, 7), (1, 10), (4, 10), (7, 10)] := rfl
  subst hk
  rw [ev_enter (n := n + 3) (show E.ok 70 = true from rfl) Try.func70 (fn := Try.f70) rfl (Nat.le_of_ble_eq_true rfl) (by decide +kernel)]
  by_cases hA : a = 0 ∨ a = 1
  · cases h0 : (nm == [])
    · refine ⟨false, ?_, iff_of_false (by simp) fun f => by have := f.none (by omega); subst this; simp at h0⟩
      rcases hA with rfl | rfl <;> simp (disch := first | (simp only [List.length_append, List.length_cons, List.length_nil]; omega) | (simp; done) | assumption) [↓evOp_build, ↓evOp_bslice, rhoP_nil, rhoP_cons, evCode_skip, evCode_region, evCode_draw, evCode_seq, evCode_cond, evCode_block, evCode_loop, evCode_exit, evCode_ret, seqK_ite, seqK_none, seqK_norm, seqK_ret, seqK_exit, seqK_pan, condK_true, condK_false, condK_bool, blockK_ite, blockK_none, blockK_norm, blockK_ret, blockK_exit, blockK_pan, stepK_ite, stepK_none, stepK_ok, stepK_pan, drawK_ite, drawK_none, drawK_ok, drawK_pan, opK_ite, opK_none, opK_val, opK_pan, wantK_true, wantK_false, wantK_some, afterRegion_ite, afterDraw_ite, fromBody_ite, ite_bool, ite_int, stepA_K, doOp, noOp, lexA_nil, lexA_cons, lexF_nil, lexF_cons, afterDraw, noClash, FP.clash, wantedA, evOp, rho, rhoL, ofC0, ofC, argsA, upd, afterRegion, putA, goOp, evBin_add, evBin_sub, evBin_mul, evBin_quo, evBin_rem, evBin_eql, evBin_neq, evBin_lss, evBin_leq, evBin_gtr, evBin_geq, evBin_eqlB, evBin_neqB, evBin_addS, evBin_eqlS, evBin_neqS, evBin_lssS, evBin_leqS, evUn, evConv, evIndex, evBuiltin, evLen, evMin2, evMax2, evCallee, evBox, evLoad, evStore, evFieldAddr, evField, evIndexAddr, evBuild, evBuildSlice, evElems, evSlice, nth, rdc, wrc, fromBody, resA, finRet, oneOf, AV.cells?, AV.isCell, fin_int, fin_bool, fin_str, Try.f70, E_esc, k24, c24, a24, k3, c3, a3, k2, c2, a2, k9, c9, a9, fq0, fq1, fq2, fq3, fq4, bq3, bq2, bq9, hks, -AV.isCell, hps, h0]
    cases h2 : (lo == 0)
    · refine ⟨false, ?_, iff_of_false (by simp) fun f => by have := (f.zero (by omega)).1; subst this; simp at h2⟩
      rcases hA with rfl | rfl <;> simp (disch := first | (simp only [List.length_append, List.length_cons, List.length_nil]; omega) | (simp; done) | assumption) [↓evOp_build, ↓evOp_bslice, rhoP_nil, rhoP_cons, evCode_skip, evCode_region, evCode_draw, evCode_seq, evCode_cond, evCode_block, evCode_loop, evCode_exit, evCode_ret, seqK_ite, seqK_none, seqK_norm, seqK_ret, seqK_exit, seqK_pan, condK_true, condK_false, condK_bool, blockK_ite, blockK_none, blockK_norm, blockK_ret, blockK_exit, blockK_pan, stepK_ite, stepK_none, stepK_ok, stepK_pan, drawK_ite, drawK_none, drawK_ok, drawK_pan, opK_ite, opK_none, opK_val, opK_pan, wantK_true, wantK_false, wantK_some, afterRegion_ite, afterDraw_ite, fromBody_ite, ite_bool, ite_int, stepA_K, doOp, noOp, lexA_nil, lexA_cons, lexF_nil, lexF_cons, afterDraw, noClash, FP.clash, wantedA, evOp, rho, rhoL, ofC0, ofC, argsA, upd, afterRegion, putA, goOp, evBin_add, evBin_sub, evBin_mul, evBin_quo, evBin_rem, evBin_eql, evBin_neq, evBin_lss, evBin_leq, evBin_gtr, evBin_geq, evBin_eqlB, evBin_neqB, evBin_addS, evBin_eqlS, evBin_neqS, evBin_lssS, evBin_leqS, evUn, evConv, evIndex, evBuiltin, evLen, evMin2, evMax2, evCallee, evBox, evLoad, evStore, evFieldAddr, evField, evIndexAddr, evBuild, evBuildSlice, evElems, evSlice, nth, rdc, wrc, fromBody, resA, finRet, oneOf, AV.cells?, AV.isCell, fin_int, fin_bool, fin_str, Try.f70, E_esc, k24, c24, a24, k3, c3, a3, k2, c2, a2, k9, c9, a9, fq0, fq1, fq2, fq3, fq4, bq3, bq2, bq9, hks, -AV.isCell, hps, h0, h2]
    refine ⟨hi == 0, ?_, fun h => ?_, fun f => by have := (f.zero (by omega)).2; simp [this]⟩
    · rcases hA with rfl | rfl <;> simp (disch := first | (simp only [List.length_append, List.length_cons, List.length_nil]; omega) | (simp; done) | assumption) [↓evOp_build, ↓evOp_bslice, rhoP_nil, rhoP_cons, evCode_skip, evCode_region, evCode_draw, evCode_seq, evCode_cond, evCode_block, evCode_loop, evCode_exit, evCode_ret, seqK_ite, seqK_none, seqK_norm, seqK_ret, seqK_exit, seqK_pan, condK_true, condK_false, condK_bool, blockK_ite, blockK_none, blockK_norm, blockK_ret, blockK_exit, blockK_pan, stepK_ite, stepK_none, stepK_ok, stepK_pan, drawK_ite, drawK_none, drawK_ok, drawK_pan, opK_ite, opK_none, opK_val, opK_pan, wantK_true, wantK_false, wantK_some, afterRegion_ite, afterDraw_ite, fromBody_ite, ite_bool, ite_int, stepA_K, doOp, noOp, lexA_nil, lexA_cons, lexF_nil, lexF_cons, afterDraw, noClash, FP.clash, wantedA, evOp, rho, rhoL, ofC0, ofC, argsA, upd, afterRegion, putA, goOp, evBin_add, evBin_sub, evBin_mul, evBin_quo, evBin_rem, evBin_eql, evBin_neq, evBin_lss, evBin_leq, evBin_gtr, evBin_geq, evBin_eqlB, evBin_neqB, evBin_addS, evBin_eqlS, evBin_neqS, evBin_lssS, evBin_leqS, evUn, evConv, evIndex, evBuiltin, evLen, evMin2, evMax2, evCallee, evBox, evLoad, evStore, evFieldAddr, evField, evIndexAddr, evBuild, evBuildSlice, evElems, evSlice, nth, rdc, wrc, fromBody, resA, finRet, oneOf, AV.cells?, AV.isCell, fin_int, fin_bool, fin_str, Try.f70, E_esc, k24, c24, a24, k3, c3, a3, k2, c2, a2, k9, c9, a9, fq0, fq1, fq2, fq3, fq4, bq3, bq2, bq9, hks, -AV.isCell, hps, h0, h2]
    · have e1 : nm = [] := by simpa using h0
      have e3 : lo = 0 := by simpa using h2
      have e4 : hi = 0 := by simpa using h
      exact ⟨by omega, by omega, fun _ => e1, by omega, fun _ => hA, by omega, by omega, by omega, fun _ => ⟨e3, e4⟩⟩
  · refine ⟨false, ?_, iff_of_false (by simp) fun f => by have := f.bool (by omega); omega⟩
    have g0 : (a == 0) = false := by simp; omega
    have g1 : (a == 1) = false := by simp; omega
    cases h0 : (nm == []) <;> simp (disch := first | (simp only [List.length_append, List.length_cons, List.length_nil]; omega) | (simp; done) | assumption) [↓evOp_build, ↓evOp_bslice, rhoP_nil, rhoP_cons, evCode_skip, evCode_region, evCode_draw, evCode_seq, evCode_cond, evCode_block, evCode_loop, evCode_exit, evCode_ret, seqK_ite, seqK_none, seqK_norm, seqK_ret, seqK_exit, seqK_pan, condK_true, condK_false, condK_bool, blockK_ite, blockK_none, blockK_norm, blockK_ret, blockK_exit, blockK_pan, stepK_ite, stepK_none, stepK_ok, stepK_pan, drawK_ite, drawK_none, drawK_ok, drawK_pan, opK_ite, opK_none, opK_val, opK_pan, wantK_true, wantK_false, wantK_some, afterRegion_ite, afterDraw_ite, fromBody_ite, ite_bool, ite_int, stepA_K, doOp, noOp, lexA_nil, lexA_cons, lexF_nil, lexF_cons, afterDraw, noClash, FP.clash, wantedA, evOp, rho, rhoL, ofC0, ofC, argsA, upd, afterRegion, putA, goOp, evBin_add, evBin_sub, evBin_mul, evBin_quo, evBin_rem, evBin_eql, evBin_neq, evBin_lss, evBin_leq, evBin_gtr, evBin_geq, evBin_eqlB, evBin_neqB, evBin_addS, evBin_eqlS, evBin_neqS, evBin_lssS, evBin_leqS, evUn, evConv, evIndex, evBuiltin, evLen, evMin2, evMax2, evCallee, evBox, evLoad, evStore, evFieldAddr, evField, evIndexAddr, evBuild, evBuildSlice, evElems, evSlice, nth, rdc, wrc, fromBody, resA, finRet, oneOf, AV.cells?, AV.isCell, fin_int, fin_bool, fin_str, Try.f70, E_esc, k24, c24, a24, k3, c3, a3, k2, c2, a2, k9, c9, a9, fq0, fq1, fq2, fq3, fq4, bq3, bq2, bq9, hks, -AV.isCell, hps, h0, g0, g1]

theorem ev_own (n : Nat) (k : Int) (nm : List UInt8) (hl : nm.length ≤ 1048576) (hn : nm.length + 5 ≤ n) (a lo hi : Int) (ks : AV) (hks : ks.isCell = true) (hk : kinds k) (S : St) :
    ∃ b, ev Try.prog E n 70 [.agg [.int .i64 k, .str nm, .int .i64 a, .int .i64 lo, .int .i64 hi, ks]] S = some (.ret (.bool b), S) ∧ (b = true ↔ Fits k nm a lo hi) := by
  obtain ⟨n, rfl⟩ : ∃ m, n = m + 4 := ⟨n - 4, by omega⟩
  have hk' := (kinds_iff k).1 hk
  by_cases c1 : k = 1
  · exact own_int n k nm hl (by omega) a lo hi ks hks S c1
  by_cases c2 : k = 2
  · exact own_bool n k nm hl (by omega) a lo hi ks hks S c2
  by_cases c3 : k = 3
  · exact own_text n k nm hl (by omega) a lo hi ks hks S c3
  by_cases c4 : k = 5 ∨ k = 6 ∨ k = 21
  · exact own_named n k nm hl (by omega) a lo hi ks hks S c4
  by_cases c5 : k = 13
  · exact own_times n k nm hl (by omega) a lo hi ks hks S c5
  by_cases c6 : k = 22 ∨ k = 23 ∨ k = 24
  · exact own_span n k nm hl (by omega) a lo hi ks hks S c6
  exact own_plain n k nm hl (by omega) a lo hi ks hks S (by omega)
end Go.Proofs.Ytemggoaefohliaa.NF

/- slices.ContainsFunc; sets of texts (ast), evaluated. No condition. -/
namespace Go.Proofs.Ytemggoaefohliaa.NF
set_option linter.unusedVariables false
set_option linter.unusedSimpArgs false
open Go AE EX PT
set_option maxRecDepth 100000

/-! ### slices.IndexFunc -/
noncomputable def ifLoop : Code := cutC (bodyOf Try.f81) [1, 0, 1, 0, 0]
noncomputable def if0 : Code := cutC (bodyOf Try.f81) [0]
noncomputable def if1 : Code := cutC (bodyOf Try.f81) [1, 0, 0]
noncomputable def if2 : Code := cutC (bodyOf Try.f81) [1, 1]
theorem f81b : Try.f81.body = some (.seq if0 (.seq (.seq if1 (.block 0 (.loop ifLoop))) if2)) := rfl

def IFI (kids : List X) (tok : Tok) (f : Nat) (p : X → Prop) (S0 : St) (m : Nat) (fs : FS) : Prop :=
  ∃ i, i + m = kids.length ∧ fs.t 0 = .slice (embL kids) tok ∧ fs.t 1 = .fn f [] [] ∧ fs.t 7 = .int .i64 kids.length ∧ fs.t 8 = .int .i64 i ∧ fs.S = S0 ∧ ∀ j x, j < i → kids[j]? = some x → ¬ p x
def IFQ (kids : List X) (p : X → Prop) (S0 : St) (r : Out × FS) : Prop :=
  r.2.S = S0 ∧ ((r.1 = .exit 0 ∧ ∀ x ∈ kids, ¬ p x) ∨ (r.1 = .ret ∧ (∃ i : Nat, r.2.t 4 = .int .i64 i) ∧ ∃ x ∈ kids, p x))

theorem if_round (n : Nat) (kids : List X) (tok : Tok) (f : Nat) (p : X → Prop) (S0 : St) (hs : kids.length ≤ 1048576)
    (hrec : ∀ x ∈ kids, ∀ S, ∃ b, ev Try.prog E n f [x.emb] S = some (.ret (.bool b), S) ∧ (b = true ↔ p x)) (m : Nat) (fs : FS) (h : IFI kids tok f p S0 m fs) :
    ∃ o fs', evCode ⟨Try.prog, E.esc 81, n⟩ (ev Try.prog E n) (E.ps 81) n ifLoop fs = some (o, fs') ∧ ((o = .norm ∧ ∃ m', m' < m ∧ IFI kids tok f p S0 m' fs') ∨ (o ≠ .norm ∧ IFQ kids p S0 (o, fs'))) := by
  obtain ⟨t, b, v, S⟩ := fs
  obtain ⟨i, hi, h0, h1, h2, h3, h4, h5⟩ := h
  simp only at h0 h1 h2 h3 h4
  subst h4
  have hlen := embL_length kids
  cases m with
  | zero =>
    have hi : i = kids.length := by omega
    subst hi
    refine ⟨.exit 0, _, by
      simp (disch := first | (simp only [List.length_append, List.length_cons, List.length_nil]; omega) | (simp; done) | assumption) [↓evOp_build, ↓evOp_bslice, rhoP_nil, rhoP_cons, evCode_skip, evCode_region, evCode_draw, evCode_seq, evCode_cond, evCode_block, evCode_loop, evCode_exit, evCode_ret, seqK_ite, seqK_none, seqK_norm, seqK_ret, seqK_exit, seqK_pan, condK_true, condK_false, condK_bool, blockK_ite, blockK_none, blockK_norm, blockK_ret, blockK_exit, blockK_pan, stepK_ite, stepK_none, stepK_ok, stepK_pan, drawK_ite, drawK_none, drawK_ok, drawK_pan, opK_ite, opK_none, opK_val, opK_pan, wantK_true, wantK_false, wantK_some, afterRegion_ite, afterDraw_ite, fromBody_ite, ite_bool, ite_int, stepA_K, doOp, noOp, lexA_nil, lexA_cons, lexF_nil, lexF_cons, afterDraw, noClash, FP.clash, wantedA, evOp, rho, rhoL, ofC0, ofC, argsA, upd, afterRegion, putA, goOp, evBin_add, evBin_sub, evBin_mul, evBin_quo, evBin_rem, evBin_eql, evBin_neq, evBin_lss, evBin_leq, evBin_gtr, evBin_geq, evBin_eqlB, evBin_neqB, evBin_addS, evBin_eqlS, evBin_neqS, evBin_lssS, evBin_leqS, evUn, evConv, evIndex, evBuiltin, evLen, evMin2, evMax2, evCallee, evBox, evLoad, evStore, evFieldAddr, evField, evIndexAddr, evBuild, evBuildSlice, evElems, evSlice, nth, rdc, wrc, fromBody, resA, finRet, oneOf, AV.cells?, AV.isCell, fin_int, fin_bool, fin_str, ifLoop, cutC, bodyOf, Try.f81, h0, h1, h2, h3, bq3]
      rfl, .inr ⟨by simp, rfl, .inl ⟨rfl, fun x hx => by
        obtain ⟨j, hj, rfl⟩ := List.getElem_of_mem hx
        exact h5 j _ hj (List.getElem?_eq_getElem hj)⟩⟩⟩
  | succ m =>
    have hlt : i < kids.length := by omega
    have hltz : (i : Int) < kids.length := by omega
    have hxe : kids[i]? = some kids[i] := List.getElem?_eq_getElem hlt
    have hxm : kids[i] ∈ kids := List.getElem_mem hlt
    obtain ⟨b', hr, hb⟩ := hrec kids[i] hxm S
    have hemb : (embL kids)[i]? = some kids[i].emb := by rw [embL_map, List.getElem?_map, hxe]; rfl
    have ha1 := cells_all kids[i]
    have hc1 := (cells_ok kids[i]).2
    have ht1 : List.take 6 kids[i].cells = kids[i].cells := List.take_of_length_le (by omega)
    have hw : IntKind.i64.wrap ((i : Int) + 1) = (i : Int) + 1 := wrap64 _ (by omega)
    rw [emb_cells] at hemb hr
    generalize kids[i] = x at *
    generalize x.cells = C1 at *
    obtain ⟨z, hz⟩ := ii24
    cases b'
    · refine ⟨.norm, _, by
        simp (disch := first | (simp only [List.length_append, List.length_cons, List.length_nil]; omega) | (simp; done) | assumption) [↓evOp_build, ↓evOp_bslice, rhoP_nil, rhoP_cons, evCode_skip, evCode_region, evCode_draw, evCode_seq, evCode_cond, evCode_block, evCode_loop, evCode_exit, evCode_ret, seqK_ite, seqK_none, seqK_norm, seqK_ret, seqK_exit, seqK_pan, condK_true, condK_false, condK_bool, blockK_ite, blockK_none, blockK_norm, blockK_ret, blockK_exit, blockK_pan, stepK_ite, stepK_none, stepK_ok, stepK_pan, drawK_ite, drawK_none, drawK_ok, drawK_pan, opK_ite, opK_none, opK_val, opK_pan, wantK_true, wantK_false, wantK_some, afterRegion_ite, afterDraw_ite, fromBody_ite, ite_bool, ite_int, stepA_K, doOp, noOp, lexA_nil, lexA_cons, lexF_nil, lexF_cons, afterDraw, noClash, FP.clash, wantedA, evOp, rho, rhoL, ofC0, ofC, argsA, upd, afterRegion, putA, goOp, evBin_add, evBin_sub, evBin_mul, evBin_quo, evBin_rem, evBin_eql, evBin_neq, evBin_lss, evBin_leq, evBin_gtr, evBin_geq, evBin_eqlB, evBin_neqB, evBin_addS, evBin_eqlS, evBin_neqS, evBin_lssS, evBin_leqS, evUn, evConv, evIndex, evBuiltin, evLen, evMin2, evMax2, evCallee, evBox, evLoad, evStore, evFieldAddr, evField, evIndexAddr, evBuild, evBuildSlice, evElems, evSlice, nth, rdc, wrc, fromBody, resA, finRet, oneOf, AV.cells?, AV.isCell, fin_int, fin_bool, fin_str, ifLoop, cutC, bodyOf, Try.f81, h0, h1, h2, h3, bq3, k24, c24, a24, i24, hz, sq22, hlen, hlt, hltz, hemb, hr, ha1, hc1, ht1]
        rfl, .inl ⟨rfl, m, by omega, i + 1, by omega, by simp [upd, h0], by simp [upd, h1], by simp [upd, h2], by simp [upd, hw], rfl, fun j y hj hy => by
          by_cases hji : j = i
          · subst hji; rw [hxe] at hy; cases hy; exact fun hp => by have := hb.2 hp; cases this
          · exact h5 j y (by omega) hy⟩⟩
    · refine ⟨.ret, _, by
        simp (disch := first | (simp only [List.length_append, List.length_cons, List.length_nil]; omega) | (simp; done) | assumption) [↓evOp_build, ↓evOp_bslice, rhoP_nil, rhoP_cons, evCode_skip, evCode_region, evCode_draw, evCode_seq, evCode_cond, evCode_block, evCode_loop, evCode_exit, evCode_ret, seqK_ite, seqK_none, seqK_norm, seqK_ret, seqK_exit, seqK_pan, condK_true, condK_false, condK_bool, blockK_ite, blockK_none, blockK_norm, blockK_ret, blockK_exit, blockK_pan, stepK_ite, stepK_none, stepK_ok, stepK_pan, drawK_ite, drawK_none, drawK_ok, drawK_pan, opK_ite, opK_none, opK_val, opK_pan, wantK_true, wantK_false, wantK_some, afterRegion_ite, afterDraw_ite, fromBody_ite, ite_bool, ite_int, stepA_K, doOp, noOp, lexA_nil, lexA_cons, lexF_nil, lexF_cons, afterDraw, noClash, FP.clash, wantedA, evOp, rho, rhoL, ofC0, ofC, argsA, upd, afterRegion, putA, goOp, evBin_add, evBin_sub, evBin_mul, evBin_quo, evBin_rem, evBin_eql, evBin_neq, evBin_lss, evBin_leq, evBin_gtr, evBin_geq, evBin_eqlB, evBin_neqB, evBin_addS, evBin_eqlS, evBin_neqS, evBin_lssS, evBin_leqS, evUn, evConv, evIndex, evBuiltin, evLen, evMin2, evMax2, evCallee, evBox, evLoad, evStore, evFieldAddr, evField, evIndexAddr, evBuild, evBuildSlice, evElems, evSlice, nth, rdc, wrc, fromBody, resA, finRet, oneOf, AV.cells?, AV.isCell, fin_int, fin_bool, fin_str, ifLoop, cutC, bodyOf, Try.f81, h0, h1, h2, h3, bq3, k24, c24, a24, i24, hz, sq22, hlen, hlt, hltz, hemb, hr, ha1, hc1, ht1]
        rfl, .inr ⟨by simp, rfl, .inr ⟨rfl, ⟨i, by simp [upd]⟩, x, hxm, hb.1 rfl⟩⟩⟩

theorem ev_IndexFunc (n : Nat) (kids : List X) (tok : Tok) (f : Nat) (p : X → Prop) (S : St) (hs : kids.length ≤ 1048576) (hn : kids.length < n)
    (hrec : ∀ x ∈ kids, ∀ S, ∃ b, ev Try.prog E n f [x.emb] S = some (.ret (.bool b), S) ∧ (b = true ↔ p x)) :
    ∃ r : Int, ev Try.prog E (n + 1) 81 [.slice (embL kids) tok, .fn f [] []] S = some (.ret (.int .i64 r), S) ∧ (0 ≤ r ↔ ∃ x ∈ kids, p x) := by
  have hlen := embL_length kids
  rw [ev_enter (n := n) (show E.ok 81 = true from rfl) Try.func81 f81b (Nat.le_of_ble_eq_true rfl) (by decide +kernel)]
  obtain ⟨⟨o, t, b, v, S'⟩, hr, hS, hq⟩ := iter_meas (fun m fs h => if_round n kids tok f p S hs hrec m fs h) kids.length n
    ⟨upd 8 (.int .i64 0) (upd 7 (.int .i64 kids.length) (upd 6 (.slice (embL kids) tok) (upd 4 (.int .i64 0) (argsA [.slice (embL kids) tok, .fn f [] []])))), fun _ => (0, []), 4, S⟩ hn
    ⟨0, by omega, by simp [upd, argsA], by simp [upd, argsA], by simp [upd], by simp [upd], rfl, fun j x hj => by omega⟩
  simp only at hS hq
  subst hS
  rcases hq with ⟨rfl, ha⟩ | ⟨rfl, ⟨i, h2⟩, hex⟩
  · refine ⟨-1, ?_, by simp; exact ha⟩
    simp (disch := first | (simp only [List.length_append, List.length_cons, List.length_nil]; omega) | (simp; done) | assumption) [↓evOp_build, ↓evOp_bslice, rhoP_nil, rhoP_cons, evCode_skip, evCode_region, evCode_draw, evCode_seq, evCode_cond, evCode_block, evCode_loop, evCode_exit, evCode_ret, seqK_ite, seqK_none, seqK_norm, seqK_ret, seqK_exit, seqK_pan, condK_true, condK_false, condK_bool, blockK_ite, blockK_none, blockK_norm, blockK_ret, blockK_exit, blockK_pan, stepK_ite, stepK_none, stepK_ok, stepK_pan, drawK_ite, drawK_none, drawK_ok, drawK_pan, opK_ite, opK_none, opK_val, opK_pan, wantK_true, wantK_false, wantK_some, afterRegion_ite, afterDraw_ite, fromBody_ite, ite_bool, ite_int, stepA_K, doOp, noOp, lexA_nil, lexA_cons, lexF_nil, lexF_cons, afterDraw, noClash, FP.clash, wantedA, evOp, rho, rhoL, ofC0, ofC, argsA, upd, afterRegion, putA, goOp, evBin_add, evBin_sub, evBin_mul, evBin_quo, evBin_rem, evBin_eql, evBin_neq, evBin_lss, evBin_leq, evBin_gtr, evBin_geq, evBin_eqlB, evBin_neqB, evBin_addS, evBin_eqlS, evBin_neqS, evBin_lssS, evBin_leqS, evUn, evConv, evIndex, evBuiltin, evLen, evMin2, evMax2, evCallee, evBox, evLoad, evStore, evFieldAddr, evField, evIndexAddr, evBuild, evBuildSlice, evElems, evSlice, nth, rdc, wrc, fromBody, resA, finRet, oneOf, AV.cells?, AV.isCell, fin_int, fin_bool, fin_str, if0, if1, if2, cutC, bodyOf, Try.f81, sq22, hlen, hr]
  · refine ⟨i, ?_, iff_of_true (by omega) hex⟩
    simp (disch := first | (simp only [List.length_append, List.length_cons, List.length_nil]; omega) | (simp; done) | assumption) [↓evOp_build, ↓evOp_bslice, rhoP_nil, rhoP_cons, evCode_skip, evCode_region, evCode_draw, evCode_seq, evCode_cond, evCode_block, evCode_loop, evCode_exit, evCode_ret, seqK_ite, seqK_none, seqK_norm, seqK_ret, seqK_exit, seqK_pan, condK_true, condK_false, condK_bool, blockK_ite, blockK_none, blockK_norm, blockK_ret, blockK_exit, blockK_pan, stepK_ite, stepK_none, stepK_ok, stepK_pan, drawK_ite, drawK_none, drawK_ok, drawK_pan, opK_ite, opK_none, opK_val, opK_pan, wantK_true, wantK_false, wantK_some, afterRegion_ite, afterDraw_ite, fromBody_ite, ite_bool, ite_int, stepA_K, doOp, noOp, lexA_nil, lexA_cons, lexF_nil, lexF_cons, afterDraw, noClash, FP.clash, wantedA, evOp, rho, rhoL, ofC0, ofC, argsA, upd, afterRegion, putA, goOp, evBin_add, evBin_sub, evBin_mul, evBin_quo, evBin_rem, evBin_eql, evBin_neq, evBin_lss, evBin_leq, evBin_gtr, evBin_geq, evBin_eqlB, evBin_neqB, evBin_addS, evBin_eqlS, evBin_neqS, evBin_lssS, evBin_leqS, evUn, evConv, evIndex, evBuiltin, evLen, evMin2, evMax2, evCallee, evBox, evLoad, evStore, evFieldAddr, evField, evIndexAddr, evBuild, evBuildSlice, evElems, evSlice, nth, rdc, wrc, fromBody, resA, finRet, oneOf, AV.cells?, AV.isCell, fin_int, fin_bool, fin_str, if0, if1, if2, cutC, bodyOf, Try.f81, sq22, hlen, hr, h2]

theorem ev_Contains (n : Nat) (kids : List X) (tok : Tok) (f : Nat) (p : X → Prop) (S : St) (hs : kids.length ≤ 1048576) (hn : kids.length < n)
    (hrec : ∀ x ∈ kids, ∀ S, ∃ b, ev Try.prog E n f [x.emb] S = some (.ret (.bool b), S) ∧ (b = true ↔ p x)) :
    ∃ b, ev Try.prog E (n + 2) 73 [.slice (embL kids) tok, .fn f [] []] S = some (.ret (.bool b), S) ∧ (b = true ↔ ∃ x ∈ kids, p x) := by
  obtain ⟨r, hr, hb⟩ := ev_IndexFunc n kids tok f p S hs hn hrec
  rw [show n + 2 = (n + 1) + 1 from rfl, ev_enter (n := n + 1) (show E.ok 73 = true from rfl) Try.func73 (fn := Try.f73) rfl (Nat.le_of_ble_eq_true rfl) (by decide +kernel)]
  refine ⟨decide (0 ≤ r), ?_, by simpa using hb⟩
  simp (disch := first | (simp only [List.length_append, List.length_cons, List.length_nil]; omega) | (simp; done) | assumption) [↓evOp_build, ↓evOp_bslice, rhoP_nil, rhoP_cons, evCode_skip, evCode_region, evCode_draw, evCode_seq, evCode_cond, evCode_block, evCode_loop, evCode_exit, evCode_ret, seqK_ite, seqK_none, seqK_norm, seqK_ret, seqK_exit, seqK_pan, condK_true, condK_false, condK_bool, blockK_ite, blockK_none, blockK_norm, blockK_ret, blockK_exit, blockK_pan, stepK_ite, stepK_none, stepK_ok, stepK_pan, drawK_ite, drawK_none, drawK_ok, drawK_pan, opK_ite, opK_none, opK_val, opK_pan, wantK_true, wantK_false, wantK_some, afterRegion_ite, afterDraw_ite, fromBody_ite, ite_bool, ite_int, stepA_K, doOp, noOp, lexA_nil, lexA_cons, lexF_nil, lexF_cons, afterDraw, noClash, FP.clash, wantedA, evOp, rho, rhoL, ofC0, ofC, argsA, upd, afterRegion, putA, goOp, evBin_add, evBin_sub, evBin_mul, evBin_quo, evBin_rem, evBin_eql, evBin_neq, evBin_lss, evBin_leq, evBin_gtr, evBin_geq, evBin_eqlB, evBin_neqB, evBin_addS, evBin_eqlS, evBin_neqS, evBin_lssS, evBin_leqS, evUn, evConv, evIndex, evBuiltin, evLen, evMin2, evMax2, evCallee, evBox, evLoad, evStore, evFieldAddr, evField, evIndexAddr, evBuild, evBuildSlice, evElems, evSlice, nth, rdc, wrc, fromBody, resA, finRet, oneOf, AV.cells?, AV.isCell, fin_int, fin_bool, fin_str, Try.f73, bq3, hr]

/-! ### a set's texts -/
/-- it may be, and all below it -/
def MayAll (x : X) : Prop := ∀ y ∈ x.nodes, PT.Good y
theorem may_text (nm : List UInt8) (a lo hi : Int) (tk : Bool) (ks : List X) : MayAll (.mk 3 nm a lo hi tk ks) ↔ ks = [] ∧ a = 0 ∧ lo = 0 ∧ hi = 0 ∧ plainB nm = true := by
  constructor
  · intro h
    obtain ⟨_, g2, _, g4⟩ := h _ (List.mem_cons_self ..)
    have g2 := g2 (by decide)
    rw [show kidsI 3 = 0 from by decide] at g2
    exact ⟨List.eq_nil_of_length_eq_zero (by omega), g4.num (by decide) (by decide), (g4.zero (by decide)).1, (g4.zero (by decide)).2, g4.text rfl⟩
  · rintro ⟨rfl, rfl, rfl, rfl, hp⟩ y hy
    simp [X.nodes, nodesL] at hy
    subst hy
    exact ⟨by simp [kinds], fun _ => by decide, fun h => by simp at h, fun _ => hp, by omega, by omega, by omega, by omega, by omega, by omega, by omega, by omega⟩

noncomputable def txLoop : Code := cutC (bodyOf Try.f71) [1, 0, 1, 0, 0]
noncomputable def tx0 : Code := cutC (bodyOf Try.f71) [0]
noncomputable def tx1 : Code := cutC (bodyOf Try.f71) [1, 0, 0]
noncomputable def tx2 : Code := cutC (bodyOf Try.f71) [1, 1]
theorem f71b : Try.f71.body = some (.seq tx0 (.seq (.seq tx1 (.block 0 (.loop txLoop))) tx2)) := rfl

def TXI (kids : List X) (tok : Tok) (S0 : St) (m : Nat) (fs : FS) : Prop :=
  ∃ i, i + m = kids.length ∧ fs.t 0 = .slice (embL kids) tok ∧ fs.t 5 = .slice (embL kids) tok ∧ fs.t 6 = .int .i64 kids.length ∧ fs.t 7 = .int .i64 i ∧ fs.S = S0 ∧ ∀ j, j < i → kidOK kids j
def TXQ (kids : List X) (tok : Tok) (S0 : St) (r : Out × FS) : Prop :=
  r.2.S = S0 ∧ ((r.1 = .exit 0 ∧ r.2.t 0 = .slice (embL kids) tok ∧ ∀ j, j < kids.length → kidOK kids j) ∨ (r.1 = .ret ∧ r.2.t 2 = .bool false ∧ ∃ j, j < kids.length ∧ ¬ kidOK kids j))

set_option maxHeartbeats 4000000 in
theorem tx_round (n : Nat) (kids : List X) (tok : Tok) (S0 : St) (hs : kids.length ≤ 1048576)
    (hrec : ∀ x ∈ kids, ∀ S, ∃ b, ev Try.prog E n 59 [x.emb] S = some (.ret (.bool b), S) ∧ (b = true ↔ MayAll x)) (m : Nat) (fs : FS) (h : TXI kids tok S0 m fs) :
    ∃ o fs', evCode ⟨Try.prog, E.esc 71, n⟩ (ev Try.prog E n) (E.ps 71) n txLoop fs = some (o, fs') ∧ ((o = .norm ∧ ∃ m', m' < m ∧ TXI kids tok S0 m' fs') ∨ (o ≠ .norm ∧ TXQ kids tok S0 (o, fs'))) := by
  obtain ⟨t, b, v, S⟩ := fs
  obtain ⟨i, hi, h0, h1, h2, h3, h4, h5⟩ := h
  simp only at h0 h1 h2 h3 h4
  subst h4
  have hlen := embL_length kids
  cases m with
  | zero =>
    have hi : i = kids.length := by omega
    subst hi
    refine ⟨.exit 0, _, by
      simp (disch := first | (simp only [List.length_append, List.length_cons, List.length_nil]; omega) | (simp; done) | assumption) [↓evOp_build, ↓evOp_bslice, rhoP_nil, rhoP_cons, evCode_skip, evCode_region, evCode_draw, evCode_seq, evCode_cond, evCode_block, evCode_loop, evCode_exit, evCode_ret, seqK_ite, seqK_none, seqK_norm, seqK_ret, seqK_exit, seqK_pan, condK_true, condK_false, condK_bool, blockK_ite, blockK_none, blockK_norm, blockK_ret, blockK_exit, blockK_pan, stepK_ite, stepK_none, stepK_ok, stepK_pan, drawK_ite, drawK_none, drawK_ok, drawK_pan, opK_ite, opK_none, opK_val, opK_pan, wantK_true, wantK_false, wantK_some, afterRegion_ite, afterDraw_ite, fromBody_ite, ite_bool, ite_int, stepA_K, doOp, noOp, lexA_nil, lexA_cons, lexF_nil, lexF_cons, afterDraw, noClash, FP.clash, wantedA, evOp, rho, rhoL, ofC0, ofC, argsA, upd, afterRegion, putA, goOp, evBin_add, evBin_sub, evBin_mul, evBin_quo, evBin_rem, evBin_eql, evBin_neq, evBin_lss, evBin_leq, evBin_gtr, evBin_geq, evBin_eqlB, evBin_neqB, evBin_addS, evBin_eqlS, evBin_neqS, evBin_lssS, evBin_leqS, evUn, evConv, evIndex, evBuiltin, evLen, evMin2, evMax2, evCallee, evBox, evLoad, evStore, evFieldAddr, evField, evIndexAddr, evBuild, evBuildSlice, evElems, evSlice, nth, rdc, wrc, fromBody, resA, finRet, oneOf, AV.cells?, AV.isCell, fin_int, fin_bool, fin_str, txLoop, cutC, bodyOf, Try.f71, h0, h1, h2, h3, bq3]
      rfl, .inr ⟨by simp, rfl, .inl ⟨rfl, by simp [upd, h0], h5⟩⟩⟩
  | succ m =>
    have hlt : i < kids.length := by omega
    have hltz : (i : Int) < kids.length := by omega
    have hxe : kids[i]? = some kids[i] := List.getElem?_eq_getElem hlt
    have hxm : kids[i] ∈ kids := List.getElem_mem hlt
    obtain ⟨b', hr, hb⟩ := hrec kids[i] hxm S
    have hemb : (embL kids)[i]? = some kids[i].emb := by rw [embL_map, List.getElem?_map, hxe]; rfl
    have hw : IntKind.i64.wrap ((i : Int) + 1) = (i : Int) + 1 := wrap64 _ (by omega)
    have hps : E.ps 71 4 = [(13, 19)] := rfl
    obtain ⟨z, hz⟩ := ii24
    generalize kids[i] = x at *
    obtain ⟨k, nm, a, lo, hi', tk', ks⟩ := x
    simp only [X.emb] at hemb hr
    generalize hK : AV.slice (embL ks) (tokOf tk') = kk at *
    have hkc : kk.isCell = true := by rw [← hK]; rfl
    cases g0 : (k == 3)
    · refine ⟨.ret, _, by
        simp (disch := first | (simp only [List.length_append, List.length_cons, List.length_nil]; omega) | (simp; done) | assumption) [↓evOp_build, ↓evOp_bslice, rhoP_nil, rhoP_cons, evCode_skip, evCode_region, evCode_draw, evCode_seq, evCode_cond, evCode_block, evCode_loop, evCode_exit, evCode_ret, seqK_ite, seqK_none, seqK_norm, seqK_ret, seqK_exit, seqK_pan, condK_true, condK_false, condK_bool, blockK_ite, blockK_none, blockK_norm, blockK_ret, blockK_exit, blockK_pan, stepK_ite, stepK_none, stepK_ok, stepK_pan, drawK_ite, drawK_none, drawK_ok, drawK_pan, opK_ite, opK_none, opK_val, opK_pan, wantK_true, wantK_false, wantK_some, afterRegion_ite, afterDraw_ite, fromBody_ite, ite_bool, ite_int, stepA_K, doOp, noOp, lexA_nil, lexA_cons, lexF_nil, lexF_cons, afterDraw, noClash, FP.clash, wantedA, evOp, rho, rhoL, ofC0, ofC, argsA, upd, afterRegion, putA, goOp, evBin_add, evBin_sub, evBin_mul, evBin_quo, evBin_rem, evBin_eql, evBin_neq, evBin_lss, evBin_leq, evBin_gtr, evBin_geq, evBin_eqlB, evBin_neqB, evBin_addS, evBin_eqlS, evBin_neqS, evBin_lssS, evBin_leqS, evUn, evConv, evIndex, evBuiltin, evLen, evMin2, evMax2, evCallee, evBox, evLoad, evStore, evFieldAddr, evField, evIndexAddr, evBuild, evBuildSlice, evElems, evSlice, nth, rdc, wrc, fromBody, resA, finRet, oneOf, AV.cells?, AV.isCell, fin_int, fin_bool, fin_str, -AV.isCell, hkc, txLoop, cutC, bodyOf, Try.f71, E_esc, h0, h1, h2, h3, fq0, fq1, k24, c24, a24, k3, c3, a3, k9, c9, a9, z24, i24, hz, sq22, bq3, hlen, hlt, hltz, hemb, bne, hps, g0]
        rfl, .inr ⟨by simp, rfl, .inr ⟨rfl, by simp [upd], i, hlt, fun ⟨_, _, he, _, _⟩ => by rw [hxe] at he; cases he; simp at g0⟩⟩⟩
    have e0 : k = 3 := by simpa using g0
    subst e0
    cases b'
    · refine ⟨.ret, _, by
        simp (disch := first | (simp only [List.length_append, List.length_cons, List.length_nil]; omega) | (simp; done) | assumption) [↓evOp_build, ↓evOp_bslice, rhoP_nil, rhoP_cons, evCode_skip, evCode_region, evCode_draw, evCode_seq, evCode_cond, evCode_block, evCode_loop, evCode_exit, evCode_ret, seqK_ite, seqK_none, seqK_norm, seqK_ret, seqK_exit, seqK_pan, condK_true, condK_false, condK_bool, blockK_ite, blockK_none, blockK_norm, blockK_ret, blockK_exit, blockK_pan, stepK_ite, stepK_none, stepK_ok, stepK_pan, drawK_ite, drawK_none, drawK_ok, drawK_pan, opK_ite, opK_none, opK_val, opK_pan, wantK_true, wantK_false, wantK_some, afterRegion_ite, afterDraw_ite, fromBody_ite, ite_bool, ite_int, stepA_K, doOp, noOp, lexA_nil, lexA_cons, lexF_nil, lexF_cons, afterDraw, noClash, FP.clash, wantedA, evOp, rho, rhoL, ofC0, ofC, argsA, upd, afterRegion, putA, goOp, evBin_add, evBin_sub, evBin_mul, evBin_quo, evBin_rem, evBin_eql, evBin_neq, evBin_lss, evBin_leq, evBin_gtr, evBin_geq, evBin_eqlB, evBin_neqB, evBin_addS, evBin_eqlS, evBin_neqS, evBin_lssS, evBin_leqS, evUn, evConv, evIndex, evBuiltin, evLen, evMin2, evMax2, evCallee, evBox, evLoad, evStore, evFieldAddr, evField, evIndexAddr, evBuild, evBuildSlice, evElems, evSlice, nth, rdc, wrc, fromBody, resA, finRet, oneOf, AV.cells?, AV.isCell, fin_int, fin_bool, fin_str, -AV.isCell, hkc, txLoop, cutC, bodyOf, Try.f71, E_esc, h0, h1, h2, h3, fq0, fq1, k24, c24, a24, k3, c3, a3, k9, c9, a9, z24, i24, hz, sq22, bq3, hlen, hlt, hltz, hemb, bne, hps, hr]
        rfl, .inr ⟨by simp, rfl, .inr ⟨rfl, by simp [upd], i, hlt, fun ⟨_, _, he, hp', _⟩ => by
          rw [hxe] at he; cases he
          have := hb.2 ((may_text _ _ _ _ _ _).2 ⟨rfl, rfl, rfl, rfl, hp'⟩)
          cases this⟩⟩⟩
    obtain ⟨e1, e2, e3, e4, hp⟩ := (may_text _ _ _ _ _ _).1 (hb.1 rfl)
    subst e1 e2 e3 e4
    have good : (0 < i → ∀ y, kids[i - 1]? = some y → (Op.bytesLess nm y.nm || nm == y.nm) = false) → ∀ j, j < i + 1 → kidOK kids j := fun hr j hj => by
      by_cases hji : j = i
      · subst hji; exact ⟨nm, tk', hxe, hp, hr⟩
      · exact h5 j (by omega)
    by_cases hi0 : i = 0
    · subst hi0
      refine ⟨.norm, _, by
        simp (disch := first | (simp only [List.length_append, List.length_cons, List.length_nil]; omega) | (simp; done) | assumption) [↓evOp_build, ↓evOp_bslice, rhoP_nil, rhoP_cons, evCode_skip, evCode_region, evCode_draw, evCode_seq, evCode_cond, evCode_block, evCode_loop, evCode_exit, evCode_ret, seqK_ite, seqK_none, seqK_norm, seqK_ret, seqK_exit, seqK_pan, condK_true, condK_false, condK_bool, blockK_ite, blockK_none, blockK_norm, blockK_ret, blockK_exit, blockK_pan, stepK_ite, stepK_none, stepK_ok, stepK_pan, drawK_ite, drawK_none, drawK_ok, drawK_pan, opK_ite, opK_none, opK_val, opK_pan, wantK_true, wantK_false, wantK_some, afterRegion_ite, afterDraw_ite, fromBody_ite, ite_bool, ite_int, stepA_K, doOp, noOp, lexA_nil, lexA_cons, lexF_nil, lexF_cons, afterDraw, noClash, FP.clash, wantedA, evOp, rho, rhoL, ofC0, ofC, argsA, upd, afterRegion, putA, goOp, evBin_add, evBin_sub, evBin_mul, evBin_quo, evBin_rem, evBin_eql, evBin_neq, evBin_lss, evBin_leq, evBin_gtr, evBin_geq, evBin_eqlB, evBin_neqB, evBin_addS, evBin_eqlS, evBin_neqS, evBin_lssS, evBin_leqS, evUn, evConv, evIndex, evBuiltin, evLen, evMin2, evMax2, evCallee, evBox, evLoad, evStore, evFieldAddr, evField, evIndexAddr, evBuild, evBuildSlice, evElems, evSlice, nth, rdc, wrc, fromBody, resA, finRet, oneOf, AV.cells?, AV.isCell, fin_int, fin_bool, fin_str, -AV.isCell, hkc, txLoop, cutC, bodyOf, Try.f71, E_esc, h0, h1, h2, h3, fq0, fq1, k24, c24, a24, k3, c3, a3, k9, c9, a9, z24, i24, hz, sq22, bq3, bq9, hlen, hlt, hltz, hemb, bne, hps, hr]
        rfl, .inl ⟨rfl, m, by omega, 1, by omega, by simp [upd, h0], by simp [upd, h1], by simp [upd, h2], by simp [upd, wrap64 1 (by omega)], rfl, good (fun h => absurd h (Nat.lt_irrefl 0))⟩⟩
    · have hpos : (0 : Int) < i := by omega
      have hpos' : 0 < i := by omega
      have hw2 : IntKind.i64.wrap ((i : Int) - 1) = ((i - 1 : Nat) : Int) := by rw [wrap64 _ (by omega)]; omega
      have hye : kids[i - 1]? = some kids[i - 1] := List.getElem?_eq_getElem (by omega)
      have hemb2 : (embL kids)[i - 1]? = some kids[i - 1].emb := by rw [embL_map, List.getElem?_map, hye]; rfl
      generalize kids[i - 1] = y at *
      obtain ⟨kk2, nm2, aa, lo2, hi2, tk2, ks2⟩ := y
      simp only [X.emb] at hemb2
      generalize hK2 : AV.slice (embL ks2) (tokOf tk2) = kc at *
      have hkc2 : kc.isCell = true := by rw [← hK2]; rfl
      cases g6 : (Op.bytesLess nm nm2 || nm == nm2)
      · refine ⟨.norm, _, by
          simp (disch := first | (simp only [List.length_append, List.length_cons, List.length_nil]; omega) | (simp; done) | assumption) [↓evOp_build, ↓evOp_bslice, rhoP_nil, rhoP_cons, evCode_skip, evCode_region, evCode_draw, evCode_seq, evCode_cond, evCode_block, evCode_loop, evCode_exit, evCode_ret, seqK_ite, seqK_none, seqK_norm, seqK_ret, seqK_exit, seqK_pan, condK_true, condK_false, condK_bool, blockK_ite, blockK_none, blockK_norm, blockK_ret, blockK_exit, blockK_pan, stepK_ite, stepK_none, stepK_ok, stepK_pan, drawK_ite, drawK_none, drawK_ok, drawK_pan, opK_ite, opK_none, opK_val, opK_pan, wantK_true, wantK_false, wantK_some, afterRegion_ite, afterDraw_ite, fromBody_ite, ite_bool, ite_int, stepA_K, doOp, noOp, lexA_nil, lexA_cons, lexF_nil, lexF_cons, afterDraw, noClash, FP.clash, wantedA, evOp, rho, rhoL, ofC0, ofC, argsA, upd, afterRegion, putA, goOp, evBin_add, evBin_sub, evBin_mul, evBin_quo, evBin_rem, evBin_eql, evBin_neq, evBin_lss, evBin_leq, evBin_gtr, evBin_geq, evBin_eqlB, evBin_neqB, evBin_addS, evBin_eqlS, evBin_neqS, evBin_lssS, evBin_leqS, evUn, evConv, evIndex, evBuiltin, evLen, evMin2, evMax2, evCallee, evBox, evLoad, evStore, evFieldAddr, evField, evIndexAddr, evBuild, evBuildSlice, evElems, evSlice, nth, rdc, wrc, fromBody, resA, finRet, oneOf, AV.cells?, AV.isCell, fin_int, fin_bool, fin_str, -AV.isCell, hkc, hkc2, txLoop, cutC, bodyOf, Try.f71, E_esc, h0, h1, h2, h3, fq0, fq1, k24, c24, a24, k3, c3, a3, k9, c9, a9, z24, i24, hz, sq22, bq3, bq9, hlen, hlt, hltz, hemb, hemb2, bne, hps, hr, hpos, hpos', hw2, g6, -Bool.or_eq_true, -Bool.or_eq_false_iff]
          rfl, .inl ⟨rfl, m, by omega, i + 1, by omega, by simp [upd, h0], by simp [upd, h1], by simp [upd, h2], by simp [upd, hw], rfl, good fun _ y hy => by rw [hye] at hy; cases hy; exact g6⟩⟩
      · refine ⟨.ret, _, by
          simp (disch := first | (simp only [List.length_append, List.length_cons, List.length_nil]; omega) | (simp; done) | assumption) [↓evOp_build, ↓evOp_bslice, rhoP_nil, rhoP_cons, evCode_skip, evCode_region, evCode_draw, evCode_seq, evCode_cond, evCode_block, evCode_loop, evCode_exit, evCode_ret, seqK_ite, seqK_none, seqK_norm, seqK_ret, seqK_exit, seqK_pan, condK_true, condK_false, condK_bool, blockK_ite, blockK_none, blockK_norm, blockK_ret, blockK_exit, blockK_pan, stepK_ite, stepK_none, stepK_ok, stepK_pan, drawK_ite, drawK_none, drawK_ok, drawK_pan, opK_ite, opK_none, opK_val, opK_pan, wantK_true, wantK_false, wantK_some, afterRegion_ite, afterDraw_ite, fromBody_ite, ite_bool, ite_int, stepA_K, doOp, noOp, lexA_nil, lexA_cons, lexF_nil, lexF_cons, afterDraw, noClash, FP.clash, wantedA, evOp, rho, rhoL, ofC0, ofC, argsA, upd, afterRegion, putA, goOp, evBin_add, evBin_sub, evBin_mul, evBin_quo, evBin_rem, evBin_eql, evBin_neq, evBin_lss, evBin_leq, evBin_gtr, evBin_geq, evBin_eqlB, evBin_neqB, evBin_addS, evBin_eqlS, evBin_neqS, evBin_lssS, evBin_leqS, evUn, evConv, evIndex, evBuiltin, evLen, evMin2, evMax2, evCallee, evBox, evLoad, evStore, evFieldAddr, evField, evIndexAddr, evBuild, evBuildSlice, evElems, evSlice, nth, rdc, wrc, fromBody, resA, finRet, oneOf, AV.cells?, AV.isCell, fin_int, fin_bool, fin_str, -AV.isCell, hkc, hkc2, txLoop, cutC, bodyOf, Try.f71, E_esc, h0, h1, h2, h3, fq0, fq1, k24, c24, a24, k3, c3, a3, k9, c9, a9, z24, i24, hz, sq22, bq3, bq9, hlen, hlt, hltz, hemb, hemb2, bne, hps, hr, hpos, hpos', hw2, g6, -Bool.or_eq_true, -Bool.or_eq_false_iff]
          rfl, .inr ⟨by simp, rfl, .inr ⟨rfl, by simp [upd], i, hlt, fun ⟨_, _, he, _, hr⟩ => by rw [hxe] at he; cases he; have := hr hpos' _ hye; simp only [X.nm] at this; rw [g6] at this; cases this⟩⟩⟩

theorem ev_texts (n : Nat) (kids : List X) (tok : Tok) (S : St) (hs : kids.length ≤ 1048576) (hn : kids.length < n)
    (hrec : ∀ x ∈ kids, ∀ S, ∃ b, ev Try.prog E n 59 [x.emb] S = some (.ret (.bool b), S) ∧ (b = true ↔ MayAll x)) :
    ∃ b, ev Try.prog E (n + 1) 71 [.slice (embL kids) tok] S = some (.ret (.bool b), S) ∧ (b = true ↔ SetOK kids) := by
  have hlen := embL_length kids
  rw [ev_enter (n := n) (show E.ok 71 = true from rfl) Try.func71 f71b (Nat.le_of_ble_eq_true rfl) (by decide +kernel)]
  obtain ⟨⟨o, t, b, v, S'⟩, hr, hS, hq⟩ := iter_meas (fun m fs h => tx_round n kids tok S hs hrec m fs h) kids.length n
    ⟨upd 7 (.int .i64 0) (upd 6 (.int .i64 kids.length) (upd 5 (.slice (embL kids) tok) (upd 2 (.bool false) (argsA [.slice (embL kids) tok])))), fun _ => (0, []), 4, S⟩ hn
    ⟨0, by omega, by simp [upd, argsA], by simp [upd], by simp [upd], by simp [upd], rfl, fun j hj => by omega⟩
  simp only at hS hq
  subst hS
  rcases hq with ⟨rfl, g0, ha⟩ | ⟨rfl, h2, j, hj, hno⟩
  · by_cases h8 : kids.length ≤ 8
    · have h8z : (kids.length : Int) ≤ 8 := by omega
      refine ⟨true, ?_, iff_of_true rfl ⟨h8, ha⟩⟩
      simp (disch := first | (simp only [List.length_append, List.length_cons, List.length_nil]; omega) | (simp; done) | assumption) [↓evOp_build, ↓evOp_bslice, rhoP_nil, rhoP_cons, evCode_skip, evCode_region, evCode_draw, evCode_seq, evCode_cond, evCode_block, evCode_loop, evCode_exit, evCode_ret, seqK_ite, seqK_none, seqK_norm, seqK_ret, seqK_exit, seqK_pan, condK_true, condK_false, condK_bool, blockK_ite, blockK_none, blockK_norm, blockK_ret, blockK_exit, blockK_pan, stepK_ite, stepK_none, stepK_ok, stepK_pan, drawK_ite, drawK_none, drawK_ok, drawK_pan, opK_ite, opK_none, opK_val, opK_pan, wantK_true, wantK_false, wantK_some, afterRegion_ite, afterDraw_ite, fromBody_ite, ite_bool, ite_int, stepA_K, doOp, noOp, lexA_nil, lexA_cons, lexF_nil, lexF_cons, afterDraw, noClash, FP.clash, wantedA, evOp, rho, rhoL, ofC0, ofC, argsA, upd, afterRegion, putA, goOp, evBin_add, evBin_sub, evBin_mul, evBin_quo, evBin_rem, evBin_eql, evBin_neq, evBin_lss, evBin_leq, evBin_gtr, evBin_geq, evBin_eqlB, evBin_neqB, evBin_addS, evBin_eqlS, evBin_neqS, evBin_lssS, evBin_leqS, evUn, evConv, evIndex, evBuiltin, evLen, evMin2, evMax2, evCallee, evBox, evLoad, evStore, evFieldAddr, evField, evIndexAddr, evBuild, evBuildSlice, evElems, evSlice, nth, rdc, wrc, fromBody, resA, finRet, oneOf, AV.cells?, AV.isCell, fin_int, fin_bool, fin_str, tx0, tx1, tx2, cutC, bodyOf, Try.f71, sq22, bq3, hlen, hr, g0, h8, h8z]
    · have h8z : ¬ (kids.length : Int) ≤ 8 := by omega
      refine ⟨false, ?_, iff_of_false (by simp) fun g => h8 g.1⟩
      simp (disch := first | (simp only [List.length_append, List.length_cons, List.length_nil]; omega) | (simp; done) | assumption) [↓evOp_build, ↓evOp_bslice, rhoP_nil, rhoP_cons, evCode_skip, evCode_region, evCode_draw, evCode_seq, evCode_cond, evCode_block, evCode_loop, evCode_exit, evCode_ret, seqK_ite, seqK_none, seqK_norm, seqK_ret, seqK_exit, seqK_pan, condK_true, condK_false, condK_bool, blockK_ite, blockK_none, blockK_norm, blockK_ret, blockK_exit, blockK_pan, stepK_ite, stepK_none, stepK_ok, stepK_pan, drawK_ite, drawK_none, drawK_ok, drawK_pan, opK_ite, opK_none, opK_val, opK_pan, wantK_true, wantK_false, wantK_some, afterRegion_ite, afterDraw_ite, fromBody_ite, ite_bool, ite_int, stepA_K, doOp, noOp, lexA_nil, lexA_cons, lexF_nil, lexF_cons, afterDraw, noClash, FP.clash, wantedA, evOp, rho, rhoL, ofC0, ofC, argsA, upd, afterRegion, putA, goOp, evBin_add, evBin_sub, evBin_mul, evBin_quo, evBin_rem, evBin_eql, evBin_neq, evBin_lss, evBin_leq, evBin_gtr, evBin_geq, evBin_eqlB, evBin_neqB, evBin_addS, evBin_eqlS, evBin_neqS, evBin_lssS, evBin_leqS, evUn, evConv, evIndex, evBuiltin, evLen, evMin2, evMax2, evCallee, evBox, evLoad, evStore, evFieldAddr, evField, evIndexAddr, evBuild, evBuildSlice, evElems, evSlice, nth, rdc, wrc, fromBody, resA, finRet, oneOf, AV.cells?, AV.isCell, fin_int, fin_bool, fin_str, tx0, tx1, tx2, cutC, bodyOf, Try.f71, sq22, bq3, hlen, hr, g0, h8, h8z]
  · refine ⟨false, ?_, iff_of_false (by simp) fun g => hno (g.2 j hj)⟩
    simp (disch := first | (simp only [List.length_append, List.length_cons, List.length_nil]; omega) | (simp; done) | assumption) [↓evOp_build, ↓evOp_bslice, rhoP_nil, rhoP_cons, evCode_skip, evCode_region, evCode_draw, evCode_seq, evCode_cond, evCode_block, evCode_loop, evCode_exit, evCode_ret, seqK_ite, seqK_none, seqK_norm, seqK_ret, seqK_exit, seqK_pan, condK_true, condK_false, condK_bool, blockK_ite, blockK_none, blockK_norm, blockK_ret, blockK_exit, blockK_pan, stepK_ite, stepK_none, stepK_ok, stepK_pan, drawK_ite, drawK_none, drawK_ok, drawK_pan, opK_ite, opK_none, opK_val, opK_pan, wantK_true, wantK_false, wantK_some, afterRegion_ite, afterDraw_ite, fromBody_ite, ite_bool, ite_int, stepA_K, doOp, noOp, lexA_nil, lexA_cons, lexF_nil, lexF_cons, afterDraw, noClash, FP.clash, wantedA, evOp, rho, rhoL, ofC0, ofC, argsA, upd, afterRegion, putA, goOp, evBin_add, evBin_sub, evBin_mul, evBin_quo, evBin_rem, evBin_eql, evBin_neq, evBin_lss, evBin_leq, evBin_gtr, evBin_geq, evBin_eqlB, evBin_neqB, evBin_addS, evBin_eqlS, evBin_neqS, evBin_lssS, evBin_leqS, evUn, evConv, evIndex, evBuiltin, evLen, evMin2, evMax2, evCallee, evBox, evLoad, evStore, evFieldAddr, evField, evIndexAddr, evBuild, evBuildSlice, evElems, evSlice, nth, rdc, wrc, fromBody, resA, finRet, oneOf, AV.cells?, AV.isCell, fin_int, fin_bool, fin_str, tx0, tx1, tx2, cutC, bodyOf, Try.f71, sq22, hlen, hr, h2]
end Go.Proofs.Ytemggoaefohliaa.NF

/- ast.Check, evaluated. No condition. -/
namespace Go.Proofs.Ytemggoaefohliaa.NF
set_option linter.unusedVariables false
set_option linter.unusedSimpArgs false
open Go AE EX PT
set_option maxRecDepth 100000

theorem nodesL_all {q : X → Prop} : ∀ l : List X, (∀ y ∈ nodesL l, q y) ↔ ∀ x ∈ l, ∀ y ∈ x.nodes, q y
  | [] => by simp [nodesL]
  | x :: l => by
    have := nodesL_all (q := q) l
    simp only [nodesL, List.mem_append, List.mem_cons]
    constructor
    · rintro h z (rfl | hz) y hy
      · exact h y (.inl hy)
      · exact this.1 (fun y hy => h y (.inr hy)) z hz y hy
    · rintro h y (hy | hy)
      · exact h x (.inl rfl) y hy
      · exact this.2 (fun z hz => h z (.inr hz)) y hy
theorem mayAll_set {k : Int} {nm : List UInt8} {a lo hi : Int} {tk : Bool} {kids : List X} (h4 : k = 4) :
    MayAll (.mk k nm a lo hi tk kids) ↔ Fits k nm a lo hi ∧ SetOK kids := by
  subst h4
  constructor
  · intro h
    obtain ⟨_, _, g3, g4⟩ := h _ (List.mem_cons_self ..)
    exact ⟨g4, g3 rfl⟩
  · rintro ⟨g4, g3⟩ y hy
    simp [X.nodes] at hy
    subst hy
    exact ⟨by simp [kinds], fun h => absurd rfl h, fun _ => g3, g4⟩
theorem mayAll_more {k : Int} {nm : List UInt8} {a lo hi : Int} {tk : Bool} {kids : List X} (h4 : k ≠ 4) :
    MayAll (.mk k nm a lo hi tk kids) ↔ kinds k ∧ (kids.length : Int) = kidsI k ∧ Fits k nm a lo hi ∧ ∀ x ∈ kids, MayAll x := by
  have h4' : (k == 4) = false := by simp [h4]
  have hn : (X.mk k nm a lo hi tk kids).nodes = X.mk k nm a lo hi tk kids :: nodesL kids := by simp [X.nodes, h4']
  unfold MayAll
  rw [hn]
  constructor
  · intro h
    obtain ⟨g1, g2, _, g4⟩ := h _ (List.mem_cons_self ..)
    exact ⟨g1, g2 h4, g4, (nodesL_all kids).1 fun y hy => h y (List.mem_cons_of_mem _ hy)⟩
  · rintro ⟨g1, g2, g4, hk⟩ y hy
    rcases List.mem_cons.1 hy with rfl | hy
    · exact ⟨g1, fun _ => g2, fun h => absurd h h4, g4⟩
    · exact (nodesL_all kids).2 hk y hy

theorem bulkL_mem {x : X} : ∀ {l : List X}, x ∈ l → x.bulk ≤ bulkL l
  | y :: l, h => by
    rcases List.mem_cons.1 h with rfl | h
    · simp [bulkL]
    · have := bulkL_mem h; simp [bulkL]; omega
theorem bulkL_length : ∀ l : List X, 7 * l.length ≤ bulkL l
  | [] => by simp [bulkL]
  | .mk k nm n lo hi tk kids :: l => by
    have := bulkL_length l
    simp [bulkL, X.bulk]; omega

theorem ev_mayKid (n : Nat) (x : X) (S : St) (b : Bool) (h : ev Try.prog E n 59 [x.emb] S = some (.ret (.bool b), S)) : ev Try.prog E (n + 1) 74 [x.emb] S = some (.ret (.bool (!b)), S) := by
  rw [ev_enter (n := n) (show E.ok 74 = true from rfl) Try.func74 (fn := Try.f74) rfl (Nat.le_of_ble_eq_true rfl) (by decide +kernel)]
  have ha1 := cells_all x
  have hc1 := (cells_ok x).2
  have ht1 : List.take 6 x.cells = x.cells := List.take_of_length_le (by omega)
  rw [emb_cells] at h ⊢
  generalize x.cells = C1 at *
  simp (disch := first | (simp only [List.length_append, List.length_cons, List.length_nil]; omega) | (simp; done) | assumption) [↓evOp_build, ↓evOp_bslice, rhoP_nil, rhoP_cons, evCode_skip, evCode_region, evCode_draw, evCode_seq, evCode_cond, evCode_block, evCode_loop, evCode_exit, evCode_ret, seqK_ite, seqK_none, seqK_norm, seqK_ret, seqK_exit, seqK_pan, condK_true, condK_false, condK_bool, blockK_ite, blockK_none, blockK_norm, blockK_ret, blockK_exit, blockK_pan, stepK_ite, stepK_none, stepK_ok, stepK_pan, drawK_ite, drawK_none, drawK_ok, drawK_pan, opK_ite, opK_none, opK_val, opK_pan, wantK_true, wantK_false, wantK_some, afterRegion_ite, afterDraw_ite, fromBody_ite, ite_bool, ite_int, stepA_K, doOp, noOp, lexA_nil, lexA_cons, lexF_nil, lexF_cons, afterDraw, noClash, FP.clash, wantedA, evOp, rho, rhoL, ofC0, ofC, argsA, upd, afterRegion, putA, goOp, evBin_add, evBin_sub, evBin_mul, evBin_quo, evBin_rem, evBin_eql, evBin_neq, evBin_lss, evBin_leq, evBin_gtr, evBin_geq, evBin_eqlB, evBin_neqB, evBin_addS, evBin_eqlS, evBin_neqS, evBin_lssS, evBin_leqS, evUn, evConv, evIndex, evBuiltin, evLen, evMin2, evMax2, evCallee, evBox, evLoad, evStore, evFieldAddr, evField, evIndexAddr, evBuild, evBuildSlice, evElems, evSlice, nth, rdc, wrc, fromBody, resA, finRet, oneOf, AV.cells?, AV.isCell, fin_int, fin_bool, fin_str, Try.f74, E_esc, k24, c24, a24, h, ha1, hc1, ht1]

set_option maxHeartbeats 4000000 in
theorem ev_may : ∀ (m : Nat) (x : X), x.bulk ≤ m → m ≤ 1048576 → ∀ n, m + 20 ≤ n → ∀ S, ∃ b, ev Try.prog E n 59 [x.emb] S = some (.ret (.bool b), S) ∧ (b = true ↔ MayAll x)
  | 0, x, hm, _, _, _, _ => absurd hm (by have := size_pos x; have := size_bulk x; omega)
  | m + 1, x, hm, hmm, n, hn, S => by
    obtain ⟨n, rfl⟩ : ∃ k, n = k + 4 := ⟨n - 4, by omega⟩
    obtain ⟨k, nm, a, lo, hi, tk, kids⟩ := x
    simp only [X.bulk] at hm
    have hl := bulkL_length kids
    have hlen := embL_length kids
    have hrec : ∀ q, m ≤ q + 6 → ∀ x ∈ kids, ∀ S, ∃ b, ev Try.prog E (q + 20) 59 [x.emb] S = some (.ret (.bool b), S) ∧ (b = true ↔ MayAll x) := fun q hq x hx S => by
      have := bulkL_mem hx
      exact ev_may (m - 6) x (by omega) (by omega) (q + 20) (by omega) S
    have hps : E.ps 59 3 = [(1, 4), (2, 4)] := rfl
    simp only [X.emb]
    rw [ev_enter (n := n + 3) (show E.ok 59 = true from rfl) Try.func59 (fn := Try.f59) rfl (Nat.le_of_ble_eq_true rfl) (by decide +kernel)]
    cases h4 : k == 4
    · have h4' : k ≠ 4 := by simpa using h4
      rw [mayAll_more h4']
      have hK := ev_aKids (n + 2) k S
      cases e1 : (kidsI k == (kids.length : Int))
      · refine ⟨false, ?_, iff_of_false (by simp) fun g => by have := g.2.1; rw [this] at e1; simp at e1⟩
        simp (disch := first | (simp only [List.length_append, List.length_cons, List.length_nil]; omega) | (simp; done) | assumption) [↓evOp_build, ↓evOp_bslice, rhoP_nil, rhoP_cons, evCode_skip, evCode_region, evCode_draw, evCode_seq, evCode_cond, evCode_block, evCode_loop, evCode_exit, evCode_ret, seqK_ite, seqK_none, seqK_norm, seqK_ret, seqK_exit, seqK_pan, condK_true, condK_false, condK_bool, blockK_ite, blockK_none, blockK_norm, blockK_ret, blockK_exit, blockK_pan, stepK_ite, stepK_none, stepK_ok, stepK_pan, drawK_ite, drawK_none, drawK_ok, drawK_pan, opK_ite, opK_none, opK_val, opK_pan, wantK_true, wantK_false, wantK_some, afterRegion_ite, afterDraw_ite, fromBody_ite, ite_bool, ite_int, stepA_K, doOp, noOp, lexA_nil, lexA_cons, lexF_nil, lexF_cons, afterDraw, noClash, FP.clash, wantedA, evOp, rho, rhoL, ofC0, ofC, argsA, upd, afterRegion, putA, goOp, evBin_add, evBin_sub, evBin_mul, evBin_quo, evBin_rem, evBin_eql, evBin_neq, evBin_lss, evBin_leq, evBin_gtr, evBin_geq, evBin_eqlB, evBin_neqB, evBin_addS, evBin_eqlS, evBin_neqS, evBin_lssS, evBin_leqS, evUn, evConv, evIndex, evBuiltin, evLen, evMin2, evMax2, evCallee, evBox, evLoad, evStore, evFieldAddr, evField, evIndexAddr, evBuild, evBuildSlice, evElems, evSlice, nth, rdc, wrc, fromBody, resA, finRet, oneOf, AV.cells?, AV.isCell, fin_int, fin_bool, fin_str, Try.f59, E_esc, k24, c24, a24, k3, c3, a3, k22, c22, a22, fq0, fq5, bq3, hlen, sq22, h4, hps, hK, e1]
      have e1' : (kids.length : Int) = kidsI k := by simp at e1; omega
      have hk : kinds k := by
        by_cases hk : kinds k
        · exact hk
        · rw [kidsI_out hk] at e1'; omega
      obtain ⟨b1, hO, hb1⟩ := ev_own (n + 3) k nm (by omega) (by omega) a lo hi (.slice (embL kids) (tokOf tk)) rfl hk S
      cases b1
      · refine ⟨false, ?_, iff_of_false (by simp) fun g => by have := hb1.2 g.2.2.1; cases this⟩
        simp (disch := first | (simp only [List.length_append, List.length_cons, List.length_nil]; omega) | (simp; done) | assumption) [↓evOp_build, ↓evOp_bslice, rhoP_nil, rhoP_cons, evCode_skip, evCode_region, evCode_draw, evCode_seq, evCode_cond, evCode_block, evCode_loop, evCode_exit, evCode_ret, seqK_ite, seqK_none, seqK_norm, seqK_ret, seqK_exit, seqK_pan, condK_true, condK_false, condK_bool, blockK_ite, blockK_none, blockK_norm, blockK_ret, blockK_exit, blockK_pan, stepK_ite, stepK_none, stepK_ok, stepK_pan, drawK_ite, drawK_none, drawK_ok, drawK_pan, opK_ite, opK_none, opK_val, opK_pan, wantK_true, wantK_false, wantK_some, afterRegion_ite, afterDraw_ite, fromBody_ite, ite_bool, ite_int, stepA_K, doOp, noOp, lexA_nil, lexA_cons, lexF_nil, lexF_cons, afterDraw, noClash, FP.clash, wantedA, evOp, rho, rhoL, ofC0, ofC, argsA, upd, afterRegion, putA, goOp, evBin_add, evBin_sub, evBin_mul, evBin_quo, evBin_rem, evBin_eql, evBin_neq, evBin_lss, evBin_leq, evBin_gtr, evBin_geq, evBin_eqlB, evBin_neqB, evBin_addS, evBin_eqlS, evBin_neqS, evBin_lssS, evBin_leqS, evUn, evConv, evIndex, evBuiltin, evLen, evMin2, evMax2, evCallee, evBox, evLoad, evStore, evFieldAddr, evField, evIndexAddr, evBuild, evBuildSlice, evElems, evSlice, nth, rdc, wrc, fromBody, resA, finRet, oneOf, AV.cells?, AV.isCell, fin_int, fin_bool, fin_str, Try.f59, E_esc, k24, c24, a24, k3, c3, a3, k22, c22, a22, fq0, fq5, bq3, hlen, sq22, h4, hps, hK, e1, hO]
      obtain ⟨b2, hC, hb2⟩ := ev_Contains (n + 1) kids (tokOf tk) 74 (fun x => ¬ MayAll x) S (by omega) (by omega) (fun x hx S => by
        obtain ⟨q, hq⟩ : ∃ q, n = q + 20 := ⟨n - 20, by omega⟩
        obtain ⟨b, h1, h2⟩ := hrec q (by omega) x hx S
        rw [← hq] at h1
        exact ⟨!b, ev_mayKid n x S b h1, by rw [← h2]; cases b <;> simp⟩)
      refine ⟨!b2, ?_, ?_⟩
      · cases b2 <;> simp (disch := first | (simp only [List.length_append, List.length_cons, List.length_nil]; omega) | (simp; done) | assumption) [↓evOp_build, ↓evOp_bslice, rhoP_nil, rhoP_cons, evCode_skip, evCode_region, evCode_draw, evCode_seq, evCode_cond, evCode_block, evCode_loop, evCode_exit, evCode_ret, seqK_ite, seqK_none, seqK_norm, seqK_ret, seqK_exit, seqK_pan, condK_true, condK_false, condK_bool, blockK_ite, blockK_none, blockK_norm, blockK_ret, blockK_exit, blockK_pan, stepK_ite, stepK_none, stepK_ok, stepK_pan, drawK_ite, drawK_none, drawK_ok, drawK_pan, opK_ite, opK_none, opK_val, opK_pan, wantK_true, wantK_false, wantK_some, afterRegion_ite, afterDraw_ite, fromBody_ite, ite_bool, ite_int, stepA_K, doOp, noOp, lexA_nil, lexA_cons, lexF_nil, lexF_cons, afterDraw, noClash, FP.clash, wantedA, evOp, rho, rhoL, ofC0, ofC, argsA, upd, afterRegion, putA, goOp, evBin_add, evBin_sub, evBin_mul, evBin_quo, evBin_rem, evBin_eql, evBin_neq, evBin_lss, evBin_leq, evBin_gtr, evBin_geq, evBin_eqlB, evBin_neqB, evBin_addS, evBin_eqlS, evBin_neqS, evBin_lssS, evBin_leqS, evUn, evConv, evIndex, evBuiltin, evLen, evMin2, evMax2, evCallee, evBox, evLoad, evStore, evFieldAddr, evField, evIndexAddr, evBuild, evBuildSlice, evElems, evSlice, nth, rdc, wrc, fromBody, resA, finRet, oneOf, AV.cells?, AV.isCell, fin_int, fin_bool, fin_str, Try.f59, E_esc, k24, c24, a24, k3, c3, a3, k22, c22, a22, fq0, fq5, bq3, hlen, sq22, h4, hps, hK, e1, hO, hC]
      · have : (b2 = true) ↔ ¬ ∀ x ∈ kids, MayAll x := by rw [hb2]; simp
        have h0 := hb1.1 rfl
        cases b2
        · simp at this
          exact iff_of_true rfl ⟨hk, e1', h0, this⟩
        · exact iff_of_false (by simp) fun g => this.1 rfl g.2.2.2
    · have h4' : k = 4 := by simpa using h4
      rw [mayAll_set h4']
      subst h4'
      obtain ⟨b1, hO, hb1⟩ := ev_own (n + 3) 4 nm (by omega) (by omega) a lo hi (.slice (embL kids) (tokOf tk)) rfl (by simp [kinds]) S
      cases b1
      · refine ⟨false, ?_, iff_of_false (by simp) fun g => by have := hb1.2 g.1; cases this⟩
        simp (disch := first | (simp only [List.length_append, List.length_cons, List.length_nil]; omega) | (simp; done) | assumption) [↓evOp_build, ↓evOp_bslice, rhoP_nil, rhoP_cons, evCode_skip, evCode_region, evCode_draw, evCode_seq, evCode_cond, evCode_block, evCode_loop, evCode_exit, evCode_ret, seqK_ite, seqK_none, seqK_norm, seqK_ret, seqK_exit, seqK_pan, condK_true, condK_false, condK_bool, blockK_ite, blockK_none, blockK_norm, blockK_ret, blockK_exit, blockK_pan, stepK_ite, stepK_none, stepK_ok, stepK_pan, drawK_ite, drawK_none, drawK_ok, drawK_pan, opK_ite, opK_none, opK_val, opK_pan, wantK_true, wantK_false, wantK_some, afterRegion_ite, afterDraw_ite, fromBody_ite, ite_bool, ite_int, stepA_K, doOp, noOp, lexA_nil, lexA_cons, lexF_nil, lexF_cons, afterDraw, noClash, FP.clash, wantedA, evOp, rho, rhoL, ofC0, ofC, argsA, upd, afterRegion, putA, goOp, evBin_add, evBin_sub, evBin_mul, evBin_quo, evBin_rem, evBin_eql, evBin_neq, evBin_lss, evBin_leq, evBin_gtr, evBin_geq, evBin_eqlB, evBin_neqB, evBin_addS, evBin_eqlS, evBin_neqS, evBin_lssS, evBin_leqS, evUn, evConv, evIndex, evBuiltin, evLen, evMin2, evMax2, evCallee, evBox, evLoad, evStore, evFieldAddr, evField, evIndexAddr, evBuild, evBuildSlice, evElems, evSlice, nth, rdc, wrc, fromBody, resA, finRet, oneOf, AV.cells?, AV.isCell, fin_int, fin_bool, fin_str, Try.f59, E_esc, k24, c24, a24, k3, c3, a3, k22, c22, a22, fq0, fq5, bq3, hlen, sq22, hO]
      obtain ⟨b2, hC, hb2⟩ := ev_texts (n + 2) kids (tokOf tk) S (by omega) (by omega) (fun x hx S => by
        obtain ⟨q, hq⟩ : ∃ q, n + 2 = q + 20 := ⟨n - 18, by omega⟩
        obtain ⟨b, h1, h2⟩ := hrec q (by omega) x hx S
        rw [← hq] at h1
        exact ⟨b, h1, h2⟩)
      refine ⟨b2, ?_, ?_⟩
      · cases b2 <;> simp (disch := first | (simp only [List.length_append, List.length_cons, List.length_nil]; omega) | (simp; done) | assumption) [↓evOp_build, ↓evOp_bslice, rhoP_nil, rhoP_cons, evCode_skip, evCode_region, evCode_draw, evCode_seq, evCode_cond, evCode_block, evCode_loop, evCode_exit, evCode_ret, seqK_ite, seqK_none, seqK_norm, seqK_ret, seqK_exit, seqK_pan, condK_true, condK_false, condK_bool, blockK_ite, blockK_none, blockK_norm, blockK_ret, blockK_exit, blockK_pan, stepK_ite, stepK_none, stepK_ok, stepK_pan, drawK_ite, drawK_none, drawK_ok, drawK_pan, opK_ite, opK_none, opK_val, opK_pan, wantK_true, wantK_false, wantK_some, afterRegion_ite, afterDraw_ite, fromBody_ite, ite_bool, ite_int, stepA_K, doOp, noOp, lexA_nil, lexA_cons, lexF_nil, lexF_cons, afterDraw, noClash, FP.clash, wantedA, evOp, rho, rhoL, ofC0, ofC, argsA, upd, afterRegion, putA, goOp, evBin_add, evBin_sub, evBin_mul, evBin_quo, evBin_rem, evBin_eql, evBin_neq, evBin_lss, evBin_leq, evBin_gtr, evBin_geq, evBin_eqlB, evBin_neqB, evBin_addS, evBin_eqlS, evBin_neqS, evBin_lssS, evBin_leqS, evUn, evConv, evIndex, evBuiltin, evLen, evMin2, evMax2, evCallee, evBox, evLoad, evStore, evFieldAddr, evField, evIndexAddr, evBuild, evBuildSlice, evElems, evSlice, nth, rdc, wrc, fromBody, resA, finRet, oneOf, AV.cells?, AV.isCell, fin_int, fin_bool, fin_str, Try.f59, E_esc, k24, c24, a24, k3, c3, a3, k22, c22, a22, fq0, fq5, bq3, hlen, sq22, hO, hC]
      · rw [hb2]
        exact ⟨fun h => ⟨hb1.1 rfl, h⟩, fun h => h.2⟩

theorem ev_aCheck (n : Nat) (x : X) (hx : x.bulk + 22 ≤ n) (hs : x.bulk ≤ 1048576) (S : St) :
    ∃ c : Int, ev Try.prog E (n + 1) 46 [x.emb] S = some (.ret (.int .i64 c), S) ∧ (c = 0 ↔ OKx x) := by
  have hsz := size_bulk x
  have hsz7 := size7 x
  have hD := ev_aDepth x.size x (Nat.le_refl _) (by omega) n (by omega) S
  have hA := ev_aSize x.size x (Nat.le_refl _) (by omega) n (by omega) S
  obtain ⟨b, hM, hb⟩ := ev_may x.bulk x (Nat.le_refl _) hs n (by omega) S
  have ha1 := cells_all x
  have hc1 := (cells_ok x).2
  have ht1 : List.take 6 x.cells = x.cells := List.take_of_length_le (by omega)
  rw [ev_enter (n := n) (show E.ok 46 = true from rfl) Try.func46 (fn := Try.f46) rfl (Nat.le_of_ble_eq_true rfl) (by decide +kernel)]
  rw [emb_cells] at hD hA hM ⊢
  by_cases h12 : 12 < x.dep
  · have h12z : (12 : Int) < x.dep := by omega
    refine ⟨32, ?_, iff_of_false (by simp) fun f => by have := f.1; omega⟩
    generalize x.cells = C1 at *
    simp (disch := first | (simp only [List.length_append, List.length_cons, List.length_nil]; omega) | (simp; done) | assumption) [↓evOp_build, ↓evOp_bslice, rhoP_nil, rhoP_cons, evCode_skip, evCode_region, evCode_draw, evCode_seq, evCode_cond, evCode_block, evCode_loop, evCode_exit, evCode_ret, seqK_ite, seqK_none, seqK_norm, seqK_ret, seqK_exit, seqK_pan, condK_true, condK_false, condK_bool, blockK_ite, blockK_none, blockK_norm, blockK_ret, blockK_exit, blockK_pan, stepK_ite, stepK_none, stepK_ok, stepK_pan, drawK_ite, drawK_none, drawK_ok, drawK_pan, opK_ite, opK_none, opK_val, opK_pan, wantK_true, wantK_false, wantK_some, afterRegion_ite, afterDraw_ite, fromBody_ite, ite_bool, ite_int, stepA_K, doOp, noOp, lexA_nil, lexA_cons, lexF_nil, lexF_cons, afterDraw, noClash, FP.clash, wantedA, evOp, rho, rhoL, ofC0, ofC, argsA, upd, afterRegion, putA, goOp, evBin_add, evBin_sub, evBin_mul, evBin_quo, evBin_rem, evBin_eql, evBin_neq, evBin_lss, evBin_leq, evBin_gtr, evBin_geq, evBin_eqlB, evBin_neqB, evBin_addS, evBin_eqlS, evBin_neqS, evBin_lssS, evBin_leqS, evUn, evConv, evIndex, evBuiltin, evLen, evMin2, evMax2, evCallee, evBox, evLoad, evStore, evFieldAddr, evField, evIndexAddr, evBuild, evBuildSlice, evElems, evSlice, nth, rdc, wrc, fromBody, resA, finRet, oneOf, AV.cells?, AV.isCell, fin_int, fin_bool, fin_str, Try.f46, E_esc, k24, c24, a24, bq3, ha1, hc1, ht1, hD, h12, h12z]
  have h12z : ¬ (12 : Int) < x.dep := by omega
  by_cases h64 : 64 < x.nodes.length
  · have h64z : (64 : Int) < x.nodes.length := by omega
    refine ⟨3, ?_, iff_of_false (by simp) fun f => by have := f.2.1; omega⟩
    generalize x.cells = C1 at *
    simp (disch := first | (simp only [List.length_append, List.length_cons, List.length_nil]; omega) | (simp; done) | assumption) [↓evOp_build, ↓evOp_bslice, rhoP_nil, rhoP_cons, evCode_skip, evCode_region, evCode_draw, evCode_seq, evCode_cond, evCode_block, evCode_loop, evCode_exit, evCode_ret, seqK_ite, seqK_none, seqK_norm, seqK_ret, seqK_exit, seqK_pan, condK_true, condK_false, condK_bool, blockK_ite, blockK_none, blockK_norm, blockK_ret, blockK_exit, blockK_pan, stepK_ite, stepK_none, stepK_ok, stepK_pan, drawK_ite, drawK_none, drawK_ok, drawK_pan, opK_ite, opK_none, opK_val, opK_pan, wantK_true, wantK_false, wantK_some, afterRegion_ite, afterDraw_ite, fromBody_ite, ite_bool, ite_int, stepA_K, doOp, noOp, lexA_nil, lexA_cons, lexF_nil, lexF_cons, afterDraw, noClash, FP.clash, wantedA, evOp, rho, rhoL, ofC0, ofC, argsA, upd, afterRegion, putA, goOp, evBin_add, evBin_sub, evBin_mul, evBin_quo, evBin_rem, evBin_eql, evBin_neq, evBin_lss, evBin_leq, evBin_gtr, evBin_geq, evBin_eqlB, evBin_neqB, evBin_addS, evBin_eqlS, evBin_neqS, evBin_lssS, evBin_leqS, evUn, evConv, evIndex, evBuiltin, evLen, evMin2, evMax2, evCallee, evBox, evLoad, evStore, evFieldAddr, evField, evIndexAddr, evBuild, evBuildSlice, evElems, evSlice, nth, rdc, wrc, fromBody, resA, finRet, oneOf, AV.cells?, AV.isCell, fin_int, fin_bool, fin_str, Try.f46, E_esc, k24, c24, a24, bq3, ha1, hc1, ht1, hD, hA, h12, h12z, h64, h64z]
  have h64z : ¬ (64 : Int) < x.nodes.length := by omega
  cases b
  · refine ⟨12, ?_, iff_of_false (by simp) fun f => by have := hb.2 f.2.2; cases this⟩
    generalize x.cells = C1 at *
    simp (disch := first | (simp only [List.length_append, List.length_cons, List.length_nil]; omega) | (simp; done) | assumption) [↓evOp_build, ↓evOp_bslice, rhoP_nil, rhoP_cons, evCode_skip, evCode_region, evCode_draw, evCode_seq, evCode_cond, evCode_block, evCode_loop, evCode_exit, evCode_ret, seqK_ite, seqK_none, seqK_norm, seqK_ret, seqK_exit, seqK_pan, condK_true, condK_false, condK_bool, blockK_ite, blockK_none, blockK_norm, blockK_ret, blockK_exit, blockK_pan, stepK_ite, stepK_none, stepK_ok, stepK_pan, drawK_ite, drawK_none, drawK_ok, drawK_pan, opK_ite, opK_none, opK_val, opK_pan, wantK_true, wantK_false, wantK_some, afterRegion_ite, afterDraw_ite, fromBody_ite, ite_bool, ite_int, stepA_K, doOp, noOp, lexA_nil, lexA_cons, lexF_nil, lexF_cons, afterDraw, noClash, FP.clash, wantedA, evOp, rho, rhoL, ofC0, ofC, argsA, upd, afterRegion, putA, goOp, evBin_add, evBin_sub, evBin_mul, evBin_quo, evBin_rem, evBin_eql, evBin_neq, evBin_lss, evBin_leq, evBin_gtr, evBin_geq, evBin_eqlB, evBin_neqB, evBin_addS, evBin_eqlS, evBin_neqS, evBin_lssS, evBin_leqS, evUn, evConv, evIndex, evBuiltin, evLen, evMin2, evMax2, evCallee, evBox, evLoad, evStore, evFieldAddr, evField, evIndexAddr, evBuild, evBuildSlice, evElems, evSlice, nth, rdc, wrc, fromBody, resA, finRet, oneOf, AV.cells?, AV.isCell, fin_int, fin_bool, fin_str, Try.f46, E_esc, k24, c24, a24, bq3, ha1, hc1, ht1, hD, hA, hM, h12, h12z, h64, h64z]
  · refine ⟨0, ?_, iff_of_true rfl ⟨by omega, by omega, hb.1 rfl⟩⟩
    generalize x.cells = C1 at *
    simp (disch := first | (simp only [List.length_append, List.length_cons, List.length_nil]; omega) | (simp; done) | assumption) [↓evOp_build, ↓evOp_bslice, rhoP_nil, rhoP_cons, evCode_skip, evCode_region, evCode_draw, evCode_seq, evCode_cond, evCode_block, evCode_loop, evCode_exit, evCode_ret, seqK_ite, seqK_none, seqK_norm, seqK_ret, seqK_exit, seqK_pan, condK_true, condK_false, condK_bool, blockK_ite, blockK_none, blockK_norm, blockK_ret, blockK_exit, blockK_pan, stepK_ite, stepK_none, stepK_ok, stepK_pan, drawK_ite, drawK_none, drawK_ok, drawK_pan, opK_ite, opK_none, opK_val, opK_pan, wantK_true, wantK_false, wantK_some, afterRegion_ite, afterDraw_ite, fromBody_ite, ite_bool, ite_int, stepA_K, doOp, noOp, lexA_nil, lexA_cons, lexF_nil, lexF_cons, afterDraw, noClash, FP.clash, wantedA, evOp, rho, rhoL, ofC0, ofC, argsA, upd, afterRegion, putA, goOp, evBin_add, evBin_sub, evBin_mul, evBin_quo, evBin_rem, evBin_eql, evBin_neq, evBin_lss, evBin_leq, evBin_gtr, evBin_geq, evBin_eqlB, evBin_neqB, evBin_addS, evBin_eqlS, evBin_neqS, evBin_lssS, evBin_leqS, evUn, evConv, evIndex, evBuiltin, evLen, evMin2, evMax2, evCallee, evBox, evLoad, evStore, evFieldAddr, evField, evIndexAddr, evBuild, evBuildSlice, evElems, evSlice, nth, rdc, wrc, fromBody, resA, finRet, oneOf, AV.cells?, AV.isCell, fin_int, fin_bool, fin_str, Try.f46, E_esc, k24, c24, a24, bq3, ha1, hc1, ht1, hD, hA, hM, h12, h12z, h64, h64z]
end Go.Proofs.Ytemggoaefohliaa.NF

/- ast.Clone, ast.Same, evaluated. No condition. -/
namespace Go.Proofs.Ytemggoaefohliaa.NF
set_option linter.unusedVariables false
set_option linter.unusedSimpArgs false
open Go AE EX PT
set_option maxRecDepth 100000

mutual
def _root_.Go.Proofs.Ytemggoaefohliaa.EX.X.cl : X → X
  | .mk k nm n lo hi _ kids => .mk k nm n lo hi kids.isEmpty (clL kids)
def clL : List X → List X
  | [] => []
  | x :: l => x.cl :: clL l
end
theorem clL_map : ∀ l : List X, clL l = l.map X.cl
  | [] => rfl
  | x :: l => by simp [clL, clL_map l]

theorem i22 : (Try.prog.info? 22).isSome = true := by kernel_rfl
theorem fin_emb (x : X) (S : St) : finish S x.emb S = some (x.emb, S) := finish_same (sealed_emb x) (strip_emb _ x) (low_emb _ _ x) rfl rfl
theorem fin_agg (k : Int) (nm : List UInt8) (n lo hi : Int) (l : List X) (S : St) (p : Nat) :
    finish S (.agg [.int .i64 k, .str nm, .int .i64 n, .int .i64 lo, .int .i64 hi, .slice (embL l) (.own S.T.length p)]) ⟨S.H, S.T ++ [p]⟩ = some ((X.mk k nm n lo hi false l).emb, S) := by
  unfold finish
  simp [X.emb, tokOf, AV.sealed, AV.sealedL, AV.strip, AV.stripL, AV.low, AV.lowL, boxEqL_refl, sealed_embL, strip_embL, low_embL]

noncomputable def cnLoop : Code := cutC (bodyOf Try.f47) [1, 1, 0, 1, 0, 0]
noncomputable def cn0 : Code := cutC (bodyOf Try.f47) [0]
noncomputable def cn1 : Code := cutC (bodyOf Try.f47) [1, 0]
noncomputable def cn2 : Code := cutC (bodyOf Try.f47) [1, 1, 0, 0]
noncomputable def cn3 : Code := cutC (bodyOf Try.f47) [1, 1, 1]
theorem f47b : Try.f47.body = some (.seq cn0 (.seq cn1 (.seq (.seq cn2 (.block 0 (.loop cnLoop))) cn3))) := rfl

def CNI (n : Nat) (C D : List AV) (kids : List X) (tok : Tok) (S0 : St) (i : Nat) (fs : FS) : Prop :=
  fs.t 1 = .loc n 1 1 0 ∧ fs.b 1 = (1, C) ∧ fs.t 2 = .loc n 2 2 0 ∧ fs.b 2 = (2, D) ∧ fs.t 7 = .slice (embL kids) tok ∧ fs.t 8 = .int .i64 kids.length ∧ fs.t 9 = .int .i64 i ∧
    (if i = 0 then fs.t 3 = .slice (embL []) .clip ∧ fs.S = S0 else ∃ p, fs.t 3 = .slice (embL (clL (kids.take i))) (.own S0.T.length p) ∧ fs.S = ⟨S0.H, S0.T ++ [p]⟩)

theorem bs1 (y : X) : evBuildSlice Try.prog 22 1 [(0, .agg y.cells)] = some (.slice (embL [y]) .clip) := by
  obtain ⟨k, nm, a, lo, hi, tk, kids⟩ := y
  simp [X.cells, evBuildSlice, sq22, z24, c24, a24, evElems, AV.cells?, AV.isCell, embL, X.emb]

theorem cn_round (n : Nat) (C D : List AV) (kids : List X) (tok : Tok) (S0 : St) (hs : kids.length ≤ 1048576)
    (hrec : ∀ x ∈ kids, ∀ S, ev Try.prog E n 47 [x.emb] S = some (.ret x.cl.emb, S)) (i : Nat) (hi : i < kids.length) (fs : FS) (h : CNI n C D kids tok S0 i fs) :
    ∃ fs', evCode ⟨Try.prog, E.esc 47, n⟩ (ev Try.prog E n) (E.ps 47) n cnLoop fs = some (.norm, fs') ∧ CNI n C D kids tok S0 (i + 1) fs' := by
  obtain ⟨t, b, v, S⟩ := fs
  obtain ⟨h1, h2, h3, h4, h5, h6, h7, h8⟩ := h
  simp only at h1 h2 h3 h4 h5 h6 h7 h8
  have hlen := embL_length kids
  have hltz : (i : Int) < kids.length := by omega
  have hxe : kids[i]? = some kids[i] := List.getElem?_eq_getElem hi
  have hr := hrec kids[i] (List.getElem_mem hi) S
  have hcl : clL (kids.take (i + 1)) = clL (kids.take i) ++ [kids[i].cl] := by rw [clL_map, clL_map, List.take_add_one, hxe, List.map_append]; rfl
  have hclen : (clL (kids.take i)).length ≤ 1048576 := by rw [clL_map]; simp; omega
  have hemb : (embL kids)[i]? = some kids[i].emb := by rw [embL_map, List.getElem?_map, hxe]; rfl
  have ha1 := cells_all kids[i]
  have hc1 := (cells_ok kids[i]).2
  have ht1 : List.take 6 kids[i].cells = kids[i].cells := List.take_of_length_le (by omega)
  have hbs := bs1 kids[i].cl
  have hw : IntKind.i64.wrap ((i : Int) + 1) = (i : Int) + 1 := wrap64 _ (by omega)
  obtain ⟨z, hz⟩ := ii24
  rw [emb_cells] at hemb
  rw [emb_cells, emb_cells] at hr
  by_cases h0 : i = 0
  · subst h0
    rw [if_pos rfl] at h8
    obtain ⟨h8, rfl⟩ := h8
    have ha := appC [] [kids[0].cl] .clip S (by simp) (by simp) (by simp)
    generalize kids[0].cl = y at *
    generalize y.cells = C2 at *
    generalize kids[0].cells = C1 at *
    generalize hE : embL [] = ee at *
    generalize hE1 : embL [y] = e1 at *
    generalize hEN : embL ([] ++ [y]) = eN at *
    refine ⟨_, by
      simp (disch := first | (simp only [List.length_append, List.length_cons, List.length_nil]; omega) | (simp; done) | assumption) [↓evOp_build, ↓evOp_bslice, rhoP_nil, rhoP_cons, evCode_skip, evCode_region, evCode_draw, evCode_seq, evCode_cond, evCode_block, evCode_loop, evCode_exit, evCode_ret, seqK_ite, seqK_none, seqK_norm, seqK_ret, seqK_exit, seqK_pan, condK_true, condK_false, condK_bool, blockK_ite, blockK_none, blockK_norm, blockK_ret, blockK_exit, blockK_pan, stepK_ite, stepK_none, stepK_ok, stepK_pan, drawK_ite, drawK_none, drawK_ok, drawK_pan, opK_ite, opK_none, opK_val, opK_pan, wantK_true, wantK_false, wantK_some, afterRegion_ite, afterDraw_ite, fromBody_ite, ite_bool, ite_int, stepA_K, doOp, noOp, lexA_nil, lexA_cons, lexF_nil, lexF_cons, afterDraw, noClash, FP.clash, wantedA, evOp, rho, rhoL, ofC0, ofC, argsA, upd, afterRegion, putA, goOp, evBin_add, evBin_sub, evBin_mul, evBin_quo, evBin_rem, evBin_eql, evBin_neq, evBin_lss, evBin_leq, evBin_gtr, evBin_geq, evBin_eqlB, evBin_neqB, evBin_addS, evBin_eqlS, evBin_neqS, evBin_lssS, evBin_leqS, evUn, evConv, evIndex, evBuiltin, evLen, evMin2, evMax2, evCallee, evBox, evLoad, evStore, evFieldAddr, evField, evIndexAddr, evBuild, evBuildSlice, evElems, evSlice, nth, rdc, wrc, fromBody, resA, finRet, oneOf, AV.cells?, AV.isCell, fin_int, fin_bool, fin_str, -evBuildSlice, cnLoop, cutC, bodyOf, Try.f47, E_esc, h1, h2, h3, h4, h5, h6, h7, h8, k24, c24, a24, z24, i24, hz, sq22, bq3, hlen, hi, hltz, hemb, hr, ha1, hc1, ht1, hbs, ha]
      rfl, by simp [upd, h1], by simp [upd, h2], by simp [upd, h3], by simp [upd, h4], by simp [upd, h5], by simp [upd, h6], by simp [upd, wrap64 1 (by omega)], ?_⟩
    rw [if_neg (by omega), hcl]
    refine ⟨6, ?_, rfl⟩
    simp only [List.take_zero, clL]
    rw [hEN]
    simp [upd]
  · rw [if_neg h0] at h8
    obtain ⟨p, h8, rfl⟩ := h8
    have ha := appO (clL (kids.take i)) [kids[i].cl] .clip S0 p (by simp) hclen (by simp)
    generalize kids[i].cl = y at *
    generalize y.cells = C2 at *
    generalize kids[i].cells = C1 at *
    generalize hE : embL (clL (kids.take i)) = ee at *
    generalize hE1 : embL [y] = e1 at *
    generalize hEN : embL (clL (kids.take i) ++ [y]) = eN at *
    refine ⟨_, by
      simp (disch := first | (simp only [List.length_append, List.length_cons, List.length_nil]; omega) | (simp; done) | assumption) [↓evOp_build, ↓evOp_bslice, rhoP_nil, rhoP_cons, evCode_skip, evCode_region, evCode_draw, evCode_seq, evCode_cond, evCode_block, evCode_loop, evCode_exit, evCode_ret, seqK_ite, seqK_none, seqK_norm, seqK_ret, seqK_exit, seqK_pan, condK_true, condK_false, condK_bool, blockK_ite, blockK_none, blockK_norm, blockK_ret, blockK_exit, blockK_pan, stepK_ite, stepK_none, stepK_ok, stepK_pan, drawK_ite, drawK_none, drawK_ok, drawK_pan, opK_ite, opK_none, opK_val, opK_pan, wantK_true, wantK_false, wantK_some, afterRegion_ite, afterDraw_ite, fromBody_ite, ite_bool, ite_int, stepA_K, doOp, noOp, lexA_nil, lexA_cons, lexF_nil, lexF_cons, afterDraw, noClash, FP.clash, wantedA, evOp, rho, rhoL, ofC0, ofC, argsA, upd, afterRegion, putA, goOp, evBin_add, evBin_sub, evBin_mul, evBin_quo, evBin_rem, evBin_eql, evBin_neq, evBin_lss, evBin_leq, evBin_gtr, evBin_geq, evBin_eqlB, evBin_neqB, evBin_addS, evBin_eqlS, evBin_neqS, evBin_lssS, evBin_leqS, evUn, evConv, evIndex, evBuiltin, evLen, evMin2, evMax2, evCallee, evBox, evLoad, evStore, evFieldAddr, evField, evIndexAddr, evBuild, evBuildSlice, evElems, evSlice, nth, rdc, wrc, fromBody, resA, finRet, oneOf, AV.cells?, AV.isCell, fin_int, fin_bool, fin_str, -evBuildSlice, cnLoop, cutC, bodyOf, Try.f47, E_esc, h1, h2, h3, h4, h5, h6, h7, h8, k24, c24, a24, z24, i24, hz, sq22, bq3, hlen, hi, hltz, hemb, hr, ha1, hc1, ht1, hbs, ha]
      rfl, by simp [upd, h1], by simp [upd, h2], by simp [upd, h3], by simp [upd, h4], by simp [upd, h5], by simp [upd, h6], by simp [upd, hw], ?_⟩
    rw [if_neg (by omega), hcl]
    refine ⟨p + 6, ?_, rfl⟩
    rw [hEN]
    simp [upd]

theorem ev_Clone : ∀ (m : Nat) (x : X), x.size ≤ m → m ≤ 1048576 → ∀ n, m + 2 ≤ n → ∀ S, ev Try.prog E n 47 [x.emb] S = some (.ret x.cl.emb, S)
  | 0, x, hm, _, _, _, _ => absurd hm (by have := size_pos x; omega)
  | m + 1, x, hm, hmm, n, hn, S => by
    obtain ⟨n, rfl⟩ : ∃ k, n = k + 1 := ⟨n - 1, by omega⟩
    obtain ⟨k, nm, a, lo, hi, tk, kids⟩ := x
    simp only [X.size] at hm
    have hl := sizeL_length kids
    have hlen := embL_length kids
    simp only [X.emb]
    rw [ev_enter (n := n) (show E.ok 47 = true from rfl) Try.func47 f47b (Nat.le_of_ble_eq_true rfl) (by decide +kernel)]
    have key : ∀ D, ∀ fs, CNI n [.int .i64 k, .str nm, .int .i64 a, .int .i64 lo, .int .i64 hi, .slice (embL kids) (tokOf tk)] D kids (tokOf tk) S 0 fs → ∃ fs', iter n (evCode ⟨Try.prog, E.esc 47, n⟩ (ev Try.prog E n) (E.ps 47) n cnLoop) fs = some (.exit 0, fs') ∧
        CNI n [.int .i64 k, .str nm, .int .i64 a, .int .i64 lo, .int .i64 hi, .slice (embL kids) (tokOf tk)] D kids (tokOf tk) S kids.length fs' := fun D fs h => by
      obtain ⟨⟨o, fs'⟩, r1, r2, r3⟩ := iter_range (Q := fun r => r.1 = .exit 0 ∧ CNI n [.int .i64 k, .str nm, .int .i64 a, .int .i64 lo, .int .i64 hi, .slice (embL kids) (tokOf tk)] D kids (tokOf tk) S kids.length r.2) (len := kids.length)
        (fun i hi' fs h => cn_round n _ D kids (tokOf tk) S (by omega) (fun x hx S => ev_Clone m x (by have := sizeL_mem hx; omega) (by omega) n (by omega) S) i hi' fs h)
        (fun fs h => by
          obtain ⟨t, b, v, S'⟩ := fs
          obtain ⟨h1, h2, h3, h4, h5, h6, h7, h8⟩ := h
          simp only at h1 h2 h3 h4 h5 h6 h7 h8
          refine ⟨.exit 0, _, by
            simp (disch := first | (simp only [List.length_append, List.length_cons, List.length_nil]; omega) | (simp; done) | assumption) [↓evOp_build, ↓evOp_bslice, rhoP_nil, rhoP_cons, evCode_skip, evCode_region, evCode_draw, evCode_seq, evCode_cond, evCode_block, evCode_loop, evCode_exit, evCode_ret, seqK_ite, seqK_none, seqK_norm, seqK_ret, seqK_exit, seqK_pan, condK_true, condK_false, condK_bool, blockK_ite, blockK_none, blockK_norm, blockK_ret, blockK_exit, blockK_pan, stepK_ite, stepK_none, stepK_ok, stepK_pan, drawK_ite, drawK_none, drawK_ok, drawK_pan, opK_ite, opK_none, opK_val, opK_pan, wantK_true, wantK_false, wantK_some, afterRegion_ite, afterDraw_ite, fromBody_ite, ite_bool, ite_int, stepA_K, doOp, noOp, lexA_nil, lexA_cons, lexF_nil, lexF_cons, afterDraw, noClash, FP.clash, wantedA, evOp, rho, rhoL, ofC0, ofC, argsA, upd, afterRegion, putA, goOp, evBin_add, evBin_sub, evBin_mul, evBin_quo, evBin_rem, evBin_eql, evBin_neq, evBin_lss, evBin_leq, evBin_gtr, evBin_geq, evBin_eqlB, evBin_neqB, evBin_addS, evBin_eqlS, evBin_neqS, evBin_lssS, evBin_leqS, evUn, evConv, evIndex, evBuiltin, evLen, evMin2, evMax2, evCallee, evBox, evLoad, evStore, evFieldAddr, evField, evIndexAddr, evBuild, evBuildSlice, evElems, evSlice, nth, rdc, wrc, fromBody, resA, finRet, oneOf, AV.cells?, AV.isCell, fin_int, fin_bool, fin_str, cnLoop, cutC, bodyOf, Try.f47, h6, h7, bq3]
            rfl, by simp, rfl, by simp [upd, h1], by simp [upd, h2], by simp [upd, h3], by simp [upd, h4], by simp [upd, h5], by simp [upd, h6], by simp [upd, h7], by simpa [upd] using h8⟩) kids.length 0 n fs (by omega) (by omega) h
      simp only at r2
      subst r2
      exact ⟨fs', r1, r3⟩
    obtain ⟨⟨t, b, v, S'⟩, hr, g1, g2, g3, g4, g5, g6, g7, g8⟩ := key [.int .i64 0, .str [], .int .i64 0, .int .i64 0, .int .i64 0, .slice [] .clip]
      ⟨upd 9 (.int .i64 0) (upd 8 (.int .i64 kids.length) (upd 7 (.slice (embL kids) (tokOf tk)) (upd 6 (.loc n 1 1 5) (upd 3 (.slice [] .clip) (upd 2 (.loc n 2 2 0) (upd 1 (.loc n 1 1 0) (argsA [.agg [.int .i64 k, .str nm, .int .i64 a, .int .i64 lo, .int .i64 hi, .slice (embL kids) (tokOf tk)]]))))))),
      upd 2 (2, [.int .i64 0, .str [], .int .i64 0, .int .i64 0, .int .i64 0, .slice [] .clip]) (upd 1 (1, [.int .i64 k, .str nm, .int .i64 a, .int .i64 lo, .int .i64 hi, .slice (embL kids) (tokOf tk)]) (fun _ => (0, []))), 7, S⟩
      ⟨by simp [upd], by simp [upd], by simp [upd], by simp [upd], by simp [upd], by simp [upd], by simp [upd], by rw [if_pos rfl]; exact ⟨by simp [upd, embL], rfl⟩⟩
    simp only at g1 g2 g3 g4 g5 g6 g7 g8
    by_cases h0 : kids.length = 0
    · have : kids = [] := List.eq_nil_of_length_eq_zero h0
      subst this
      rw [if_pos (show ([] : List X).length = 0 from rfl)] at g8
      obtain ⟨g8, rfl⟩ := g8
      have hf := fin_emb (X.mk k nm a lo hi true []) S'
      have ht : tokOf true = .clip := rfl
      simp only [X.emb, ht, embL] at hf g8 hlen g2
      simp only [X.cl, clL, X.emb, List.isEmpty_nil, ht, embL]
      simp only [embL] at hr
      rw [show ((([] : List X).length : Nat) : Int) = 0 from rfl] at hr
      generalize tokOf tk = T0 at *
      simp (disch := first | (simp only [List.length_append, List.length_cons, List.length_nil]; omega) | (simp; done) | assumption) [↓evOp_build, ↓evOp_bslice, rhoP_nil, rhoP_cons, evCode_skip, evCode_region, evCode_draw, evCode_seq, evCode_cond, evCode_block, evCode_loop, evCode_exit, evCode_ret, seqK_ite, seqK_none, seqK_norm, seqK_ret, seqK_exit, seqK_pan, condK_true, condK_false, condK_bool, blockK_ite, blockK_none, blockK_norm, blockK_ret, blockK_exit, blockK_pan, stepK_ite, stepK_none, stepK_ok, stepK_pan, drawK_ite, drawK_none, drawK_ok, drawK_pan, opK_ite, opK_none, opK_val, opK_pan, wantK_true, wantK_false, wantK_some, afterRegion_ite, afterDraw_ite, fromBody_ite, ite_bool, ite_int, stepA_K, doOp, noOp, lexA_nil, lexA_cons, lexF_nil, lexF_cons, afterDraw, noClash, FP.clash, wantedA, evOp, rho, rhoL, ofC0, ofC, argsA, upd, afterRegion, putA, goOp, evBin_add, evBin_sub, evBin_mul, evBin_quo, evBin_rem, evBin_eql, evBin_neq, evBin_lss, evBin_leq, evBin_gtr, evBin_geq, evBin_eqlB, evBin_neqB, evBin_addS, evBin_eqlS, evBin_neqS, evBin_lssS, evBin_leqS, evUn, evConv, evIndex, evBuiltin, evLen, evMin2, evMax2, evCallee, evBox, evLoad, evStore, evFieldAddr, evField, evIndexAddr, evBuild, evBuildSlice, evElems, evSlice, nth, rdc, wrc, fromBody, resA, finRet, oneOf, AV.cells?, AV.isCell, fin_int, fin_bool, fin_str, -AV.isCell, cn0, cn1, cn2, cn3, cutC, bodyOf, Try.f47, E_esc, k24, c24, a24, z24, i24, k22, c22, a22, i22, fq5, sq22, hlen, hr, g1, g2, g3, g4, g8, hf, show ∀ e t, AV.isCell (.slice e t) = true from fun _ _ => rfl, show ∀ k n, AV.isCell (.int k n) = true from fun _ _ => rfl, show ∀ s, AV.isCell (.str s) = true from fun _ => rfl]
    · rw [if_neg h0] at g8
      obtain ⟨p, g8, rfl⟩ := g8
      rw [List.take_length] at g8
      have hf := fin_agg k nm a lo hi (clL kids) S p
      have he : kids.isEmpty = false := by cases kids <;> simp_all
      have ht : tokOf false = .non := rfl
      simp only [X.emb, ht] at hf
      simp only [X.cl, X.emb, he, ht]
      generalize embL (clL kids) = en at *
      simp (disch := first | (simp only [List.length_append, List.length_cons, List.length_nil]; omega) | (simp; done) | assumption) [↓evOp_build, ↓evOp_bslice, rhoP_nil, rhoP_cons, evCode_skip, evCode_region, evCode_draw, evCode_seq, evCode_cond, evCode_block, evCode_loop, evCode_exit, evCode_ret, seqK_ite, seqK_none, seqK_norm, seqK_ret, seqK_exit, seqK_pan, condK_true, condK_false, condK_bool, blockK_ite, blockK_none, blockK_norm, blockK_ret, blockK_exit, blockK_pan, stepK_ite, stepK_none, stepK_ok, stepK_pan, drawK_ite, drawK_none, drawK_ok, drawK_pan, opK_ite, opK_none, opK_val, opK_pan, wantK_true, wantK_false, wantK_some, afterRegion_ite, afterDraw_ite, fromBody_ite, ite_bool, ite_int, stepA_K, doOp, noOp, lexA_nil, lexA_cons, lexF_nil, lexF_cons, afterDraw, noClash, FP.clash, wantedA, evOp, rho, rhoL, ofC0, ofC, argsA, upd, afterRegion, putA, goOp, evBin_add, evBin_sub, evBin_mul, evBin_quo, evBin_rem, evBin_eql, evBin_neq, evBin_lss, evBin_leq, evBin_gtr, evBin_geq, evBin_eqlB, evBin_neqB, evBin_addS, evBin_eqlS, evBin_neqS, evBin_lssS, evBin_leqS, evUn, evConv, evIndex, evBuiltin, evLen, evMin2, evMax2, evCallee, evBox, evLoad, evStore, evFieldAddr, evField, evIndexAddr, evBuild, evBuildSlice, evElems, evSlice, nth, rdc, wrc, fromBody, resA, finRet, oneOf, AV.cells?, AV.isCell, fin_int, fin_bool, fin_str, -AV.isCell, cn0, cn1, cn2, cn3, cutC, bodyOf, Try.f47, E_esc, k24, c24, a24, z24, i24, k22, c22, a22, i22, fq5, sq22, hlen, hr, g1, g2, g3, g4, g8, hf, show ∀ e t, AV.isCell (.slice e t) = true from fun _ _ => rfl, show ∀ k n, AV.isCell (.int k n) = true from fun _ _ => rfl, show ∀ s, AV.isCell (.str s) = true from fun _ => rfl]
end Go.Proofs.Ytemggoaefohliaa.NF

/- ast.Same, evaluated. No condition. -/
namespace Go.Proofs.Ytemggoaefohliaa.NF
set_option linter.unusedVariables false
set_option linter.unusedSimpArgs false
open Go AE EX PT
set_option maxRecDepth 100000

noncomputable def efLoop : Code := cutC (bodyOf Try.f62) [1, 1, 0, 1, 0, 0]
noncomputable def ef0 : Code := cutC (bodyOf Try.f62) [0]
noncomputable def ef1 : Code := cutC (bodyOf Try.f62) [1, 0]
noncomputable def ef2 : Code := cutC (bodyOf Try.f62) [1, 1, 0, 0]
noncomputable def ef3 : Code := cutC (bodyOf Try.f62) [1, 1, 1]
theorem f62b : Try.f62.body = some (.seq ef0 (.seq ef1 (.seq (.seq ef2 (.block 0 (.loop efLoop))) ef3))) := rfl

def EFI (ks ks' : List X) (tok tok' : Tok) (S0 : St) (m : Nat) (fs : FS) : Prop :=
  ∃ i, i + m = ks.length ∧ fs.t 1 = .slice (embL ks') tok' ∧ fs.t 2 = .fn 50 [] [] ∧ fs.t 15 = .slice (embL ks) tok ∧ fs.t 16 = .int .i64 ks.length ∧ fs.t 17 = .int .i64 i ∧ fs.S = S0 ∧ sameL (ks.take i) (ks'.take i) = true
def EFQ (ks ks' : List X) (S0 : St) (r : Out × FS) : Prop :=
  r.2.S = S0 ∧ ((r.1 = .exit 0 ∧ sameL ks ks' = true) ∨ (r.1 = .ret ∧ r.2.t 6 = .bool false ∧ sameL ks ks' = false))

theorem ef_round (n : Nat) (ks ks' : List X) (tok tok' : Tok) (S0 : St) (hs : ks.length ≤ 1048576) (hl : ks'.length = ks.length)
    (hrec : ∀ x ∈ ks, ∀ y ∈ ks', ∀ S, ev Try.prog E n 50 [x.emb, y.emb] S = some (.ret (.bool (x.same y)), S)) (m : Nat) (fs : FS) (h : EFI ks ks' tok tok' S0 m fs) :
    ∃ o fs', evCode ⟨Try.prog, E.esc 62, n⟩ (ev Try.prog E n) (E.ps 62) n efLoop fs = some (o, fs') ∧ ((o = .norm ∧ ∃ m', m' < m ∧ EFI ks ks' tok tok' S0 m' fs') ∨ (o ≠ .norm ∧ EFQ ks ks' S0 (o, fs'))) := by
  obtain ⟨t, b, v, S⟩ := fs
  obtain ⟨i, hi, h1, h2, h3, h4, h5, h6, h7⟩ := h
  simp only at h1 h2 h3 h4 h5 h6
  subst h6
  have hlen := embL_length ks
  have hlen' := embL_length ks'
  cases m with
  | zero =>
    have hi : i = ks.length := by omega
    subst hi
    refine ⟨.exit 0, _, by
      simp (disch := first | (simp only [List.length_append, List.length_cons, List.length_nil]; omega) | (simp; done) | assumption) [↓evOp_build, ↓evOp_bslice, rhoP_nil, rhoP_cons, evCode_skip, evCode_region, evCode_draw, evCode_seq, evCode_cond, evCode_block, evCode_loop, evCode_exit, evCode_ret, seqK_ite, seqK_none, seqK_norm, seqK_ret, seqK_exit, seqK_pan, condK_true, condK_false, condK_bool, blockK_ite, blockK_none, blockK_norm, blockK_ret, blockK_exit, blockK_pan, stepK_ite, stepK_none, stepK_ok, stepK_pan, drawK_ite, drawK_none, drawK_ok, drawK_pan, opK_ite, opK_none, opK_val, opK_pan, wantK_true, wantK_false, wantK_some, afterRegion_ite, afterDraw_ite, fromBody_ite, ite_bool, ite_int, stepA_K, doOp, noOp, lexA_nil, lexA_cons, lexF_nil, lexF_cons, afterDraw, noClash, FP.clash, wantedA, evOp, rho, rhoL, ofC0, ofC, argsA, upd, afterRegion, putA, goOp, evBin_add, evBin_sub, evBin_mul, evBin_quo, evBin_rem, evBin_eql, evBin_neq, evBin_lss, evBin_leq, evBin_gtr, evBin_geq, evBin_eqlB, evBin_neqB, evBin_addS, evBin_eqlS, evBin_neqS, evBin_lssS, evBin_leqS, evUn, evConv, evIndex, evBuiltin, evLen, evMin2, evMax2, evCallee, evBox, evLoad, evStore, evFieldAddr, evField, evIndexAddr, evBuild, evBuildSlice, evElems, evSlice, nth, rdc, wrc, fromBody, resA, finRet, oneOf, AV.cells?, AV.isCell, fin_int, fin_bool, fin_str, efLoop, cutC, bodyOf, Try.f62, h1, h2, h3, h4, h5, bq3]
      rfl, .inr ⟨by simp, rfl, .inl ⟨rfl, by rw [List.take_length, ← hl, List.take_length] at h7; exact h7⟩⟩⟩
  | succ m =>
    have hlt : i < ks.length := by omega
    have hlt' : i < ks'.length := by omega
    have hltz : (i : Int) < ks.length := by omega
    have hxe : ks[i]? = some ks[i] := List.getElem?_eq_getElem hlt
    have hye : ks'[i]? = some ks'[i] := List.getElem?_eq_getElem hlt'
    have hr := hrec ks[i] (List.getElem_mem hlt) ks'[i] (List.getElem_mem hlt') S
    have hemb : (embL ks)[i]? = some ks[i].emb := by rw [embL_map, List.getElem?_map, hxe]; rfl
    have hemb' : (embL ks')[i]? = some ks'[i].emb := by rw [embL_map, List.getElem?_map, hye]; rfl
    have t1 : ks.take (i + 1) = ks.take i ++ [ks[i]] := by rw [List.take_add_one, hxe]; rfl
    have t2 : ks'.take (i + 1) = ks'.take i ++ [ks'[i]] := by rw [List.take_add_one, hye]; rfl
    have hw : IntKind.i64.wrap ((i : Int) + 1) = (i : Int) + 1 := wrap64 _ (by omega)
    have ha1 := cells_all ks[i]
    have hc1 := (cells_ok ks[i]).2
    have ht1 : List.take 6 ks[i].cells = ks[i].cells := List.take_of_length_le (by omega)
    have ha2 := cells_all ks'[i]
    have hc2 := (cells_ok ks'[i]).2
    have ht2 : List.take 6 ks'[i].cells = ks'[i].cells := List.take_of_length_le (by omega)
    have hsame : sameL (ks.take (i + 1)) (ks'.take (i + 1)) = ks[i].same ks'[i] := by
      rw [t1, t2, sameL_append _ _ _ _ (by simp; omega), h7]; simp [sameL]
    have hno : ks[i].same ks'[i] = false → sameL ks ks' = false := fun h => by
      have d1 : ks = ks.take (i + 1) ++ ks.drop (i + 1) := (List.take_append_drop _ _).symm
      have d2 : ks' = ks'.take (i + 1) ++ ks'.drop (i + 1) := (List.take_append_drop _ _).symm
      rw [d1, d2, sameL_append _ _ _ _ (by simp; omega), hsame, h]; rfl
    obtain ⟨z, hz⟩ := ii24
    rw [emb_cells] at hemb hemb'
    rw [emb_cells, emb_cells] at hr
    generalize hq : ks[i].same ks'[i] = q at *
    generalize ks[i].cells = C1 at *
    generalize ks'[i].cells = C2 at *
    cases q
    · refine ⟨.ret, _, by
        simp (disch := first | (simp only [List.length_append, List.length_cons, List.length_nil]; omega) | (simp; done) | assumption) [↓evOp_build, ↓evOp_bslice, rhoP_nil, rhoP_cons, evCode_skip, evCode_region, evCode_draw, evCode_seq, evCode_cond, evCode_block, evCode_loop, evCode_exit, evCode_ret, seqK_ite, seqK_none, seqK_norm, seqK_ret, seqK_exit, seqK_pan, condK_true, condK_false, condK_bool, blockK_ite, blockK_none, blockK_norm, blockK_ret, blockK_exit, blockK_pan, stepK_ite, stepK_none, stepK_ok, stepK_pan, drawK_ite, drawK_none, drawK_ok, drawK_pan, opK_ite, opK_none, opK_val, opK_pan, wantK_true, wantK_false, wantK_some, afterRegion_ite, afterDraw_ite, fromBody_ite, ite_bool, ite_int, stepA_K, doOp, noOp, lexA_nil, lexA_cons, lexF_nil, lexF_cons, afterDraw, noClash, FP.clash, wantedA, evOp, rho, rhoL, ofC0, ofC, argsA, upd, afterRegion, putA, goOp, evBin_add, evBin_sub, evBin_mul, evBin_quo, evBin_rem, evBin_eql, evBin_neq, evBin_lss, evBin_leq, evBin_gtr, evBin_geq, evBin_eqlB, evBin_neqB, evBin_addS, evBin_eqlS, evBin_neqS, evBin_lssS, evBin_leqS, evUn, evConv, evIndex, evBuiltin, evLen, evMin2, evMax2, evCallee, evBox, evLoad, evStore, evFieldAddr, evField, evIndexAddr, evBuild, evBuildSlice, evElems, evSlice, nth, rdc, wrc, fromBody, resA, finRet, oneOf, AV.cells?, AV.isCell, fin_int, fin_bool, fin_str, efLoop, cutC, bodyOf, Try.f62, E_esc, h1, h2, h3, h4, h5, k24, c24, a24, z24, i24, hz, sq22, bq3, hlen, hlen', hlt, hlt', hltz, hemb, hemb', hr, ha1, hc1, ht1, ha2, hc2, ht2]
        rfl, .inr ⟨by simp, rfl, .inr ⟨rfl, by simp [upd], hno rfl⟩⟩⟩
    · refine ⟨.norm, _, by
        simp (disch := first | (simp only [List.length_append, List.length_cons, List.length_nil]; omega) | (simp; done) | assumption) [↓evOp_build, ↓evOp_bslice, rhoP_nil, rhoP_cons, evCode_skip, evCode_region, evCode_draw, evCode_seq, evCode_cond, evCode_block, evCode_loop, evCode_exit, evCode_ret, seqK_ite, seqK_none, seqK_norm, seqK_ret, seqK_exit, seqK_pan, condK_true, condK_false, condK_bool, blockK_ite, blockK_none, blockK_norm, blockK_ret, blockK_exit, blockK_pan, stepK_ite, stepK_none, stepK_ok, stepK_pan, drawK_ite, drawK_none, drawK_ok, drawK_pan, opK_ite, opK_none, opK_val, opK_pan, wantK_true, wantK_false, wantK_some, afterRegion_ite, afterDraw_ite, fromBody_ite, ite_bool, ite_int, stepA_K, doOp, noOp, lexA_nil, lexA_cons, lexF_nil, lexF_cons, afterDraw, noClash, FP.clash, wantedA, evOp, rho, rhoL, ofC0, ofC, argsA, upd, afterRegion, putA, goOp, evBin_add, evBin_sub, evBin_mul, evBin_quo, evBin_rem, evBin_eql, evBin_neq, evBin_lss, evBin_leq, evBin_gtr, evBin_geq, evBin_eqlB, evBin_neqB, evBin_addS, evBin_eqlS, evBin_neqS, evBin_lssS, evBin_leqS, evUn, evConv, evIndex, evBuiltin, evLen, evMin2, evMax2, evCallee, evBox, evLoad, evStore, evFieldAddr, evField, evIndexAddr, evBuild, evBuildSlice, evElems, evSlice, nth, rdc, wrc, fromBody, resA, finRet, oneOf, AV.cells?, AV.isCell, fin_int, fin_bool, fin_str, efLoop, cutC, bodyOf, Try.f62, E_esc, h1, h2, h3, h4, h5, k24, c24, a24, z24, i24, hz, sq22, bq3, hlen, hlen', hlt, hlt', hltz, hemb, hemb', hr, ha1, hc1, ht1, ha2, hc2, ht2]
        rfl, .inl ⟨rfl, m, by omega, i + 1, by omega, by simp [upd, h1], by simp [upd, h2], by simp [upd, h3], by simp [upd, h4], by simp [upd, hw], rfl, hsame⟩⟩

theorem sameL_length : ∀ (l m : List X), sameL l m = true → l.length = m.length
  | [], [], _ => rfl
  | x :: l, y :: m, h => by
    simp only [sameL, Bool.and_eq_true] at h
    simp [sameL_length l m h.2]
  | [], _ :: _, h => by cases h
  | _ :: _, [], h => by cases h

theorem ev_EqualFunc (n : Nat) (ks ks' : List X) (tok tok' : Tok) (S : St) (hs : ks.length ≤ 1048576) (hs' : ks'.length ≤ 1048576) (hn : ks.length < n)
    (hrec : ∀ x ∈ ks, ∀ y ∈ ks', ∀ S, ev Try.prog E n 50 [x.emb, y.emb] S = some (.ret (.bool (x.same y)), S)) :
    ev Try.prog E (n + 1) 62 [.slice (embL ks) tok, .slice (embL ks') tok', .fn 50 [] []] S = some (.ret (.bool (sameL ks ks')), S) := by
  have hlen := embL_length ks
  have hlen' := embL_length ks'
  rw [ev_enter (n := n) (show E.ok 62 = true from rfl) Try.func62 f62b (Nat.le_of_ble_eq_true rfl) (by decide +kernel)]
  cases e : ((ks.length : Int) == (ks'.length : Int))
  · have hp : sameL ks ks' = false := by
      rw [Bool.eq_false_iff]; intro h
      have := sameL_length _ _ h
      simp at e; omega
    have e' : ¬ ks.length = ks'.length := by simp at e; omega
    simp (disch := first | (simp only [List.length_append, List.length_cons, List.length_nil]; omega) | (simp; done) | assumption) [↓evOp_build, ↓evOp_bslice, rhoP_nil, rhoP_cons, evCode_skip, evCode_region, evCode_draw, evCode_seq, evCode_cond, evCode_block, evCode_loop, evCode_exit, evCode_ret, seqK_ite, seqK_none, seqK_norm, seqK_ret, seqK_exit, seqK_pan, condK_true, condK_false, condK_bool, blockK_ite, blockK_none, blockK_norm, blockK_ret, blockK_exit, blockK_pan, stepK_ite, stepK_none, stepK_ok, stepK_pan, drawK_ite, drawK_none, drawK_ok, drawK_pan, opK_ite, opK_none, opK_val, opK_pan, wantK_true, wantK_false, wantK_some, afterRegion_ite, afterDraw_ite, fromBody_ite, ite_bool, ite_int, stepA_K, doOp, noOp, lexA_nil, lexA_cons, lexF_nil, lexF_cons, afterDraw, noClash, FP.clash, wantedA, evOp, rho, rhoL, ofC0, ofC, argsA, upd, afterRegion, putA, goOp, evBin_add, evBin_sub, evBin_mul, evBin_quo, evBin_rem, evBin_eql, evBin_neq, evBin_lss, evBin_leq, evBin_gtr, evBin_geq, evBin_eqlB, evBin_neqB, evBin_addS, evBin_eqlS, evBin_neqS, evBin_lssS, evBin_leqS, evUn, evConv, evIndex, evBuiltin, evLen, evMin2, evMax2, evCallee, evBox, evLoad, evStore, evFieldAddr, evField, evIndexAddr, evBuild, evBuildSlice, evElems, evSlice, nth, rdc, wrc, fromBody, resA, finRet, oneOf, AV.cells?, AV.isCell, fin_int, fin_bool, fin_str, ef0, ef1, ef2, ef3, cutC, bodyOf, Try.f62, sq22, bq3, hlen, hlen', hp, bne, e, e']
  · have e' : ks.length = ks'.length := by simp at e; omega
    obtain ⟨⟨o, t, b, v, S'⟩, hr, hS, hq⟩ := iter_meas (fun m fs h => ef_round n ks ks' tok tok' S hs (by omega) hrec m fs h) ks.length n
      ⟨upd 17 (.int .i64 0) (upd 16 (.int .i64 ks.length) (upd 15 (.slice (embL ks) tok) (upd 14 (.bool false) (upd 13 (.int .i64 ks'.length) (upd 12 (.slice (embL ks') tok') (upd 11 (.int .i64 ks.length) (upd 10 (.slice (embL ks) tok) (upd 6 (.bool false) (argsA [.slice (embL ks) tok, .slice (embL ks') tok', .fn 50 [] []]))))))))), fun _ => (0, []), 9, S⟩ hn
      ⟨0, by omega, by simp [upd, argsA], by simp [upd, argsA], by simp [upd], by simp [upd], by simp [upd], rfl, by simp [sameL]⟩
    simp only at hS hq
    subst hS
    rcases hq with ⟨rfl, ha⟩ | ⟨rfl, h2, ha⟩
    · simp (disch := first | (simp only [List.length_append, List.length_cons, List.length_nil]; omega) | (simp; done) | assumption) [↓evOp_build, ↓evOp_bslice, rhoP_nil, rhoP_cons, evCode_skip, evCode_region, evCode_draw, evCode_seq, evCode_cond, evCode_block, evCode_loop, evCode_exit, evCode_ret, seqK_ite, seqK_none, seqK_norm, seqK_ret, seqK_exit, seqK_pan, condK_true, condK_false, condK_bool, blockK_ite, blockK_none, blockK_norm, blockK_ret, blockK_exit, blockK_pan, stepK_ite, stepK_none, stepK_ok, stepK_pan, drawK_ite, drawK_none, drawK_ok, drawK_pan, opK_ite, opK_none, opK_val, opK_pan, wantK_true, wantK_false, wantK_some, afterRegion_ite, afterDraw_ite, fromBody_ite, ite_bool, ite_int, stepA_K, doOp, noOp, lexA_nil, lexA_cons, lexF_nil, lexF_cons, afterDraw, noClash, FP.clash, wantedA, evOp, rho, rhoL, ofC0, ofC, argsA, upd, afterRegion, putA, goOp, evBin_add, evBin_sub, evBin_mul, evBin_quo, evBin_rem, evBin_eql, evBin_neq, evBin_lss, evBin_leq, evBin_gtr, evBin_geq, evBin_eqlB, evBin_neqB, evBin_addS, evBin_eqlS, evBin_neqS, evBin_lssS, evBin_leqS, evUn, evConv, evIndex, evBuiltin, evLen, evMin2, evMax2, evCallee, evBox, evLoad, evStore, evFieldAddr, evField, evIndexAddr, evBuild, evBuildSlice, evElems, evSlice, nth, rdc, wrc, fromBody, resA, finRet, oneOf, AV.cells?, AV.isCell, fin_int, fin_bool, fin_str, ef0, ef1, ef2, ef3, cutC, bodyOf, Try.f62, sq22, bq3, hlen, hlen', bne, e, hr, ha]
    · simp (disch := first | (simp only [List.length_append, List.length_cons, List.length_nil]; omega) | (simp; done) | assumption) [↓evOp_build, ↓evOp_bslice, rhoP_nil, rhoP_cons, evCode_skip, evCode_region, evCode_draw, evCode_seq, evCode_cond, evCode_block, evCode_loop, evCode_exit, evCode_ret, seqK_ite, seqK_none, seqK_norm, seqK_ret, seqK_exit, seqK_pan, condK_true, condK_false, condK_bool, blockK_ite, blockK_none, blockK_norm, blockK_ret, blockK_exit, blockK_pan, stepK_ite, stepK_none, stepK_ok, stepK_pan, drawK_ite, drawK_none, drawK_ok, drawK_pan, opK_ite, opK_none, opK_val, opK_pan, wantK_true, wantK_false, wantK_some, afterRegion_ite, afterDraw_ite, fromBody_ite, ite_bool, ite_int, stepA_K, doOp, noOp, lexA_nil, lexA_cons, lexF_nil, lexF_cons, afterDraw, noClash, FP.clash, wantedA, evOp, rho, rhoL, ofC0, ofC, argsA, upd, afterRegion, putA, goOp, evBin_add, evBin_sub, evBin_mul, evBin_quo, evBin_rem, evBin_eql, evBin_neq, evBin_lss, evBin_leq, evBin_gtr, evBin_geq, evBin_eqlB, evBin_neqB, evBin_addS, evBin_eqlS, evBin_neqS, evBin_lssS, evBin_leqS, evUn, evConv, evIndex, evBuiltin, evLen, evMin2, evMax2, evCallee, evBox, evLoad, evStore, evFieldAddr, evField, evIndexAddr, evBuild, evBuildSlice, evElems, evSlice, nth, rdc, wrc, fromBody, resA, finRet, oneOf, AV.cells?, AV.isCell, fin_int, fin_bool, fin_str, ef0, ef1, ef2, ef3, cutC, bodyOf, Try.f62, sq22, bq3, hlen, hlen', bne, e, hr, ha, h2]

theorem same_len (k k' n n' lo lo' hi hi' : Int) (nm nm' : List UInt8) (tk tk' : Bool) (ks ks' : List X) :
    (X.mk k nm n lo hi tk ks).same (.mk k' nm' n' lo' hi' tk' ks') = (k == k' && nm == nm' && n == n' && lo == lo' && hi == hi' && sameL ks ks') := by
  simp only [X.same, Bool.and_assoc]
  congr 5
  cases h : sameL ks ks'
  · simp
  · simp [sameL_length _ _ h]

set_option maxHeartbeats 4000000 in
theorem ev_aSame : ∀ (m : Nat) (x y : X), x.size ≤ m → y.size ≤ 1048576 → m ≤ 1048576 → ∀ n, 2 * m + 2 ≤ n → ∀ S, ev Try.prog E n 50 [x.emb, y.emb] S = some (.ret (.bool (x.same y)), S)
  | 0, x, y, hm, _, _, _, _, _ => absurd hm (by have := size_pos x; omega)
  | m + 1, x, y, hm, hy, hmm, n, hn, S => by
    obtain ⟨n, rfl⟩ : ∃ k, n = k + 2 := ⟨n - 2, by omega⟩
    obtain ⟨k, nm, a, lo, hi, tk, ks⟩ := x
    obtain ⟨k', nm', a', lo', hi', tk', ks'⟩ := y
    simp only [X.size] at hm hy
    have hl := sizeL_length ks
    have hl' := sizeL_length ks'
    have hE := ev_EqualFunc n ks ks' (tokOf tk) (tokOf tk') S (by omega) (by omega) (by omega) (fun x hx y hy S => ev_aSame m x y (by have := sizeL_mem hx; omega) (by have := sizeL_mem hy; omega) (by omega) n (by omega) S)
    rw [same_len]
    simp only [X.emb]
    generalize sameL ks ks' = q at *
    generalize embL ks = e1 at *
    generalize embL ks' = e2 at *
    rw [ev_enter (n := n + 1) (show E.ok 50 = true from rfl) Try.func50 (fn := Try.f50) rfl (Nat.le_of_ble_eq_true rfl) (by decide +kernel)]
    cases g1 : (k == k')
    · simp (disch := first | (simp only [List.length_append, List.length_cons, List.length_nil]; omega) | (simp; done) | assumption) [↓evOp_build, ↓evOp_bslice, rhoP_nil, rhoP_cons, evCode_skip, evCode_region, evCode_draw, evCode_seq, evCode_cond, evCode_block, evCode_loop, evCode_exit, evCode_ret, seqK_ite, seqK_none, seqK_norm, seqK_ret, seqK_exit, seqK_pan, condK_true, condK_false, condK_bool, blockK_ite, blockK_none, blockK_norm, blockK_ret, blockK_exit, blockK_pan, stepK_ite, stepK_none, stepK_ok, stepK_pan, drawK_ite, drawK_none, drawK_ok, drawK_pan, opK_ite, opK_none, opK_val, opK_pan, wantK_true, wantK_false, wantK_some, afterRegion_ite, afterDraw_ite, fromBody_ite, ite_bool, ite_int, stepA_K, doOp, noOp, lexA_nil, lexA_cons, lexF_nil, lexF_cons, afterDraw, noClash, FP.clash, wantedA, evOp, rho, rhoL, ofC0, ofC, argsA, upd, afterRegion, putA, goOp, evBin_add, evBin_sub, evBin_mul, evBin_quo, evBin_rem, evBin_eql, evBin_neq, evBin_lss, evBin_leq, evBin_gtr, evBin_geq, evBin_eqlB, evBin_neqB, evBin_addS, evBin_eqlS, evBin_neqS, evBin_lssS, evBin_leqS, evUn, evConv, evIndex, evBuiltin, evLen, evMin2, evMax2, evCallee, evBox, evLoad, evStore, evFieldAddr, evField, evIndexAddr, evBuild, evBuildSlice, evElems, evSlice, nth, rdc, wrc, fromBody, resA, finRet, oneOf, AV.cells?, AV.isCell, fin_int, fin_bool, fin_str, Try.f50, E_esc, k24, c24, a24, k3, c3, a3, k2, c2, a2, k9, c9, a9, k22, c22, a22, fq0, fq1, fq2, fq3, fq4, fq5, bq3, bq2, bq9, g1]
    cases g2 : (nm == nm')
    · simp (disch := first | (simp only [List.length_append, List.length_cons, List.length_nil]; omega) | (simp; done) | assumption) [↓evOp_build, ↓evOp_bslice, rhoP_nil, rhoP_cons, evCode_skip, evCode_region, evCode_draw, evCode_seq, evCode_cond, evCode_block, evCode_loop, evCode_exit, evCode_ret, seqK_ite, seqK_none, seqK_norm, seqK_ret, seqK_exit, seqK_pan, condK_true, condK_false, condK_bool, blockK_ite, blockK_none, blockK_norm, blockK_ret, blockK_exit, blockK_pan, stepK_ite, stepK_none, stepK_ok, stepK_pan, drawK_ite, drawK_none, drawK_ok, drawK_pan, opK_ite, opK_none, opK_val, opK_pan, wantK_true, wantK_false, wantK_some, afterRegion_ite, afterDraw_ite, fromBody_ite, ite_bool, ite_int, stepA_K, doOp, noOp, lexA_nil, lexA_cons, lexF_nil, lexF_cons, afterDraw, noClash, FP.clash, wantedA, evOp, rho, rhoL, ofC0, ofC, argsA, upd, afterRegion, putA, goOp, evBin_add, evBin_sub, evBin_mul, evBin_quo, evBin_rem, evBin_eql, evBin_neq, evBin_lss, evBin_leq, evBin_gtr, evBin_geq, evBin_eqlB, evBin_neqB, evBin_addS, evBin_eqlS, evBin_neqS, evBin_lssS, evBin_leqS, evUn, evConv, evIndex, evBuiltin, evLen, evMin2, evMax2, evCallee, evBox, evLoad, evStore, evFieldAddr, evField, evIndexAddr, evBuild, evBuildSlice, evElems, evSlice, nth, rdc, wrc, fromBody, resA, finRet, oneOf, AV.cells?, AV.isCell, fin_int, fin_bool, fin_str, Try.f50, E_esc, k24, c24, a24, k3, c3, a3, k2, c2, a2, k9, c9, a9, k22, c22, a22, fq0, fq1, fq2, fq3, fq4, fq5, bq3, bq2, bq9, g1, g2]
    cases g3 : (a == a')
    · simp (disch := first | (simp only [List.length_append, List.length_cons, List.length_nil]; omega) | (simp; done) | assumption) [↓evOp_build, ↓evOp_bslice, rhoP_nil, rhoP_cons, evCode_skip, evCode_region, evCode_draw, evCode_seq, evCode_cond, evCode_block, evCode_loop, evCode_exit, evCode_ret, seqK_ite, seqK_none, seqK_norm, seqK_ret, seqK_exit, seqK_pan, condK_true, condK_false, condK_bool, blockK_ite, blockK_none, blockK_norm, blockK_ret, blockK_exit, blockK_pan, stepK_ite, stepK_none, stepK_ok, stepK_pan, drawK_ite, drawK_none, drawK_ok, drawK_pan, opK_ite, opK_none, opK_val, opK_pan, wantK_true, wantK_false, wantK_some, afterRegion_ite, afterDraw_ite, fromBody_ite, ite_bool, ite_int, stepA_K, doOp, noOp, lexA_nil, lexA_cons, lexF_nil, lexF_cons, afterDraw, noClash, FP.clash, wantedA, evOp, rho, rhoL, ofC0, ofC, argsA, upd, afterRegion, putA, goOp, evBin_add, evBin_sub, evBin_mul, evBin_quo, evBin_rem, evBin_eql, evBin_neq, evBin_lss, evBin_leq, evBin_gtr, evBin_geq, evBin_eqlB, evBin_neqB, evBin_addS, evBin_eqlS, evBin_neqS, evBin_lssS, evBin_leqS, evUn, evConv, evIndex, evBuiltin, evLen, evMin2, evMax2, evCallee, evBox, evLoad, evStore, evFieldAddr, evField, evIndexAddr, evBuild, evBuildSlice, evElems, evSlice, nth, rdc, wrc, fromBody, resA, finRet, oneOf, AV.cells?, AV.isCell, fin_int, fin_bool, fin_str, Try.f50, E_esc, k24, c24, a24, k3, c3, a3, k2, c2, a2, k9, c9, a9, k22, c22, a22, fq0, fq1, fq2, fq3, fq4, fq5, bq3, bq2, bq9, g1, g2, g3]
    cases g4 : (lo == lo')
    · simp (disch := first | (simp only [List.length_append, List.length_cons, List.length_nil]; omega) | (simp; done) | assumption) [↓evOp_build, ↓evOp_bslice, rhoP_nil, rhoP_cons, evCode_skip, evCode_region, evCode_draw, evCode_seq, evCode_cond, evCode_block, evCode_loop, evCode_exit, evCode_ret, seqK_ite, seqK_none, seqK_norm, seqK_ret, seqK_exit, seqK_pan, condK_true, condK_false, condK_bool, blockK_ite, blockK_none, blockK_norm, blockK_ret, blockK_exit, blockK_pan, stepK_ite, stepK_none, stepK_ok, stepK_pan, drawK_ite, drawK_none, drawK_ok, drawK_pan, opK_ite, opK_none, opK_val, opK_pan, wantK_true, wantK_false, wantK_some, afterRegion_ite, afterDraw_ite, fromBody_ite, ite_bool, ite_int, stepA_K, doOp, noOp, lexA_nil, lexA_cons, lexF_nil, lexF_cons, afterDraw, noClash, FP.clash, wantedA, evOp, rho, rhoL, ofC0, ofC, argsA, upd, afterRegion, putA, goOp, evBin_add, evBin_sub, evBin_mul, evBin_quo, evBin_rem, evBin_eql, evBin_neq, evBin_lss, evBin_leq, evBin_gtr, evBin_geq, evBin_eqlB, evBin_neqB, evBin_addS, evBin_eqlS, evBin_neqS, evBin_lssS, evBin_leqS, evUn, evConv, evIndex, evBuiltin, evLen, evMin2, evMax2, evCallee, evBox, evLoad, evStore, evFieldAddr, evField, evIndexAddr, evBuild, evBuildSlice, evElems, evSlice, nth, rdc, wrc, fromBody, resA, finRet, oneOf, AV.cells?, AV.isCell, fin_int, fin_bool, fin_str, Try.f50, E_esc, k24, c24, a24, k3, c3, a3, k2, c2, a2, k9, c9, a9, k22, c22, a22, fq0, fq1, fq2, fq3, fq4, fq5, bq3, bq2, bq9, g1, g2, g3, g4]
    cases g5 : (hi == hi')
    · simp (disch := first | (simp only [List.length_append, List.length_cons, List.length_nil]; omega) | (simp; done) | assumption) [↓evOp_build, ↓evOp_bslice, rhoP_nil, rhoP_cons, evCode_skip, evCode_region, evCode_draw, evCode_seq, evCode_cond, evCode_block, evCode_loop, evCode_exit, evCode_ret, seqK_ite, seqK_none, seqK_norm, seqK_ret, seqK_exit, seqK_pan, condK_true, condK_false, condK_bool, blockK_ite, blockK_none, blockK_norm, blockK_ret, blockK_exit, blockK_pan, stepK_ite, stepK_none, stepK_ok, stepK_pan, drawK_ite, drawK_none, drawK_ok, drawK_pan, opK_ite, opK_none, opK_val, opK_pan, wantK_true, wantK_false, wantK_some, afterRegion_ite, afterDraw_ite, fromBody_ite, ite_bool, ite_int, stepA_K, doOp, noOp, lexA_nil, lexA_cons, lexF_nil, lexF_cons, afterDraw, noClash, FP.clash, wantedA, evOp, rho, rhoL, ofC0, ofC, argsA, upd, afterRegion, putA, goOp, evBin_add, evBin_sub, evBin_mul, evBin_quo, evBin_rem, evBin_eql, evBin_neq, evBin_lss, evBin_leq, evBin_gtr, evBin_geq, evBin_eqlB, evBin_neqB, evBin_addS, evBin_eqlS, evBin_neqS, evBin_lssS, evBin_leqS, evUn, evConv, evIndex, evBuiltin, evLen, evMin2, evMax2, evCallee, evBox, evLoad, evStore, evFieldAddr, evField, evIndexAddr, evBuild, evBuildSlice, evElems, evSlice, nth, rdc, wrc, fromBody, resA, finRet, oneOf, AV.cells?, AV.isCell, fin_int, fin_bool, fin_str, Try.f50, E_esc, k24, c24, a24, k3, c3, a3, k2, c2, a2, k9, c9, a9, k22, c22, a22, fq0, fq1, fq2, fq3, fq4, fq5, bq3, bq2, bq9, g1, g2, g3, g4, g5]
    cases q <;> simp (disch := first | (simp only [List.length_append, List.length_cons, List.length_nil]; omega) | (simp; done) | assumption) [↓evOp_build, ↓evOp_bslice, rhoP_nil, rhoP_cons, evCode_skip, evCode_region, evCode_draw, evCode_seq, evCode_cond, evCode_block, evCode_loop, evCode_exit, evCode_ret, seqK_ite, seqK_none, seqK_norm, seqK_ret, seqK_exit, seqK_pan, condK_true, condK_false, condK_bool, blockK_ite, blockK_none, blockK_norm, blockK_ret, blockK_exit, blockK_pan, stepK_ite, stepK_none, stepK_ok, stepK_pan, drawK_ite, drawK_none, drawK_ok, drawK_pan, opK_ite, opK_none, opK_val, opK_pan, wantK_true, wantK_false, wantK_some, afterRegion_ite, afterDraw_ite, fromBody_ite, ite_bool, ite_int, stepA_K, doOp, noOp, lexA_nil, lexA_cons, lexF_nil, lexF_cons, afterDraw, noClash, FP.clash, wantedA, evOp, rho, rhoL, ofC0, ofC, argsA, upd, afterRegion, putA, goOp, evBin_add, evBin_sub, evBin_mul, evBin_quo, evBin_rem, evBin_eql, evBin_neq, evBin_lss, evBin_leq, evBin_gtr, evBin_geq, evBin_eqlB, evBin_neqB, evBin_addS, evBin_eqlS, evBin_neqS, evBin_lssS, evBin_leqS, evUn, evConv, evIndex, evBuiltin, evLen, evMin2, evMax2, evCallee, evBox, evLoad, evStore, evFieldAddr, evField, evIndexAddr, evBuild, evBuildSlice, evElems, evSlice, nth, rdc, wrc, fromBody, resA, finRet, oneOf, AV.cells?, AV.isCell, fin_int, fin_bool, fin_str, Try.f50, E_esc, k24, c24, a24, k3, c3, a3, k2, c2, a2, k9, c9, a9, k22, c22, a22, fq0, fq1, fq2, fq3, fq4, fq5, bq3, bq2, bq9, g1, g2, g3, g4, g5, hE]
end Go.Proofs.Ytemggoaefohliaa.NF

/- Expressions made simple: the plain law. No condition. -/
namespace Go.Proofs.Ytemggoaefohliaa.NF
set_option linter.unusedVariables false
set_option linter.unusedSimpArgs false

/-- an expression, plain -/
inductive Y where
  | mk (k : Int) (nm : List UInt8) (n lo hi : Int) (kids : List Y)
def Y.k : Y → Int | .mk k _ _ _ _ _ => k
def Y.n : Y → Int | .mk _ _ n _ _ _ => n
def Y.kids : Y → List Y | .mk _ _ _ _ _ l => l
def nul : Y := .mk 0 [] 0 0 0 []
def hd : List Y → Y | a :: _ => a | [] => nul
def hd2 : List Y → Y | _ :: a :: _ => a | _ => nul

def tr (a : Y) (v : Int) : Bool := a.k == 2 && a.n == v
def both (k : Int) (a b : Y) : Y :=
  if tr a (if k = 20 then 0 else 1) || tr b (1 - (if k = 20 then 0 else 1)) then b
  else if tr b (if k = 20 then 0 else 1) || tr a (1 - (if k = 20 then 0 else 1)) then a
  else .mk k [] 0 0 0 [a, b]
def turn (k : Int) : Int := if k = 19 then 20 else if k = 20 then 19 else if k = 22 then 23 else if k = 23 then 22 else k
mutual
def Y.neg : Y → Y
  | .mk k nm n lo hi l =>
    if k = 18 then hd l else if k = 19 ∨ k = 20 then both (turn k) (hd (negL l)) (hd2 (negL l))
    else if k = 22 ∨ k = 23 then .mk (turn k) [] 0 lo hi [hd (negL l)]
    else if k = 2 then .mk 2 [] (1 - n) 0 0 []
    else .mk 18 [] 0 0 0 [.mk k nm n lo hi l]
def negL : List Y → List Y
  | [] => []
  | a :: l => a.neg :: negL l
end
mutual
def Y.sim : Y → Y
  | .mk k nm n lo hi l =>
    if k = 4 then .mk k nm n lo hi l else if k = 18 then (hd (simL l)).neg else if k = 19 ∨ k = 20 then both k (hd (simL l)) (hd2 (simL l))
    else .mk k nm n lo hi (simL l)
def simL : List Y → List Y
  | [] => []
  | a :: l => a.sim :: simL l
end
mutual
def Y.ref : Y → Bool → Y
  | .mk k nm n lo hi l, b =>
    if k = 18 then hd (refL l (!b)) else if k = 19 ∨ k = 20 then both (if b then turn k else k) (hd (refL l b)) (hd2 (refL l b))
    else if k = 22 ∨ k = 23 then .mk (if b then turn k else k) [] 0 lo hi [hd (refL l b)]
    else if k = 2 ∧ b = true then .mk 2 [] (1 - n) 0 0 []
    else if b = true then .mk 18 [] 0 0 0 [if k = 4 then .mk k nm n lo hi l else .mk k nm n lo hi (refL l false)]
    else if k = 4 then .mk k nm n lo hi l else .mk k nm n lo hi (refL l false)
def refL : List Y → Bool → List Y
  | [], _ => []
  | a :: l, b => a.ref b :: refL l b
end
def tdKid (k j : Int) : Bool := !(k == 18 && (j == 18 || j == 19 || j == 20 || j == 22 || j == 23 || j == 2)) && !((k == 19 || k == 20) && j == 2)
mutual
def Y.tidy : Y → Bool
  | .mk k _ _ _ _ l => tidyL k l
def tidyL (k : Int) : List Y → Bool
  | [] => true
  | a :: l => tdKid k a.k && a.tidy && tidyL k l
end
mutual
def Y.size : Y → Nat
  | .mk _ nm _ _ _ l => 7 + nm.length + ysizeL l
def ysizeL : List Y → Nat
  | [] => 0
  | a :: l => a.size + ysizeL l
end

def lit (k : Int) : Prop := k ≠ 2 ∧ k ≠ 18 ∧ k ≠ 19 ∧ k ≠ 20 ∧ k ≠ 22 ∧ k ≠ 23
/-- simple -/
inductive Sm : Y → Prop
  | tru (n : Int) : n = 0 ∨ n = 1 → Sm (.mk 2 [] n 0 0 [])
  | two (k : Int) (a b : Y) : k = 19 ∨ k = 20 → a.k ≠ 2 → b.k ≠ 2 → Sm a → Sm b → Sm (.mk k [] 0 0 0 [a, b])
  | one (k lo hi : Int) (a : Y) : k = 22 ∨ k = 23 → Sm a → Sm (.mk k [] 0 lo hi [a])
  | non (a : Y) : lit a.k → Sm a → Sm (.mk 18 [] 0 0 0 [a])
  | set (nm : List UInt8) (n lo hi : Int) (l : List Y) : (∀ a, a ∈ l → a.kids = []) → Sm (.mk 4 nm n lo hi l)
  | oth (k : Int) (nm : List UInt8) (n lo hi : Int) (l : List Y) : lit k → k ≠ 4 → (∀ a, a ∈ l → Sm a) → Sm (.mk k nm n lo hi l)
/-- it may be -/
inductive Gd : Y → Prop
  | tru (n : Int) : n = 0 ∨ n = 1 → Gd (.mk 2 [] n 0 0 [])
  | two (k : Int) (a b : Y) : k = 19 ∨ k = 20 → Gd a → Gd b → Gd (.mk k [] 0 0 0 [a, b])
  | one (k lo hi : Int) (a : Y) : k = 22 ∨ k = 23 → Gd a → Gd (.mk k [] 0 lo hi [a])
  | non (a : Y) : Gd a → Gd (.mk 18 [] 0 0 0 [a])
  | set (nm : List UInt8) (n lo hi : Int) (l : List Y) : (∀ a, a ∈ l → a.kids = []) → Gd (.mk 4 nm n lo hi l)
  | oth (k : Int) (nm : List UInt8) (n lo hi : Int) (l : List Y) : lit k → k ≠ 4 → (∀ a, a ∈ l → Gd a) → Gd (.mk k nm n lo hi l)

theorem tr_no {a : Y} (h : a.k ≠ 2) (v : Int) : tr a v = false := by simp [tr, h]
theorem both_mk {k : Int} {a b : Y} (ha : a.k ≠ 2) (hb : b.k ≠ 2) : both k a b = .mk k [] 0 0 0 [a, b] := by simp [both, tr_no ha, tr_no hb]
theorem turn_19 : turn 19 = 20 := rfl
theorem turn_20 : turn 20 = 19 := rfl
theorem turn_22 : turn 22 = 23 := rfl
theorem turn_23 : turn 23 = 22 := rfl

theorem neg_sm {y : Y} (h : Sm y) : Sm y.neg ∧ y.neg.neg = y ∧ (y.k ≠ 2 → y.neg.k ≠ 2) := by
  induction h with
  | tru n hn =>
    have : (Y.mk 2 [] n 0 0 []).neg = .mk 2 [] (1 - n) 0 0 [] := by simp [Y.neg]
    rw [this]
    exact ⟨.tru _ (by omega), by simp [Y.neg]; omega, fun h => absurd rfl h⟩
  | two k a b hk ha hb _ _ iha ihb =>
    have h1 : (Y.mk k [] 0 0 0 [a, b]).neg = .mk (turn k) [] 0 0 0 [a.neg, b.neg] := by
      rw [← both_mk (k := turn k) (iha.2.2 ha) (ihb.2.2 hb)]
      rcases hk with rfl | rfl <;> simp [Y.neg, negL, hd, hd2]
    have h2 : (Y.mk (turn k) [] 0 0 0 [a.neg, b.neg]).neg = .mk k [] 0 0 0 [a, b] := by
      rw [← both_mk (k := k) ha hb]
      rcases hk with rfl | rfl <;> simp [Y.neg, negL, hd, hd2, iha.2.1, ihb.2.1, turn]
    rw [h1]
    refine ⟨.two _ _ _ (by rcases hk with rfl | rfl <;> simp [turn]) (iha.2.2 ha) (ihb.2.2 hb) iha.1 ihb.1, h2, fun _ => ?_⟩
    rcases hk with rfl | rfl <;> simp [turn, Y.k]
  | one k lo hi a hk _ iha =>
    have h1 : (Y.mk k [] 0 lo hi [a]).neg = .mk (turn k) [] 0 lo hi [a.neg] := by
      rcases hk with rfl | rfl <;> simp [Y.neg, negL, hd]
    have h2 : (Y.mk (turn k) [] 0 lo hi [a.neg]).neg = .mk k [] 0 lo hi [a] := by
      rcases hk with rfl | rfl <;> simp [Y.neg, negL, hd, iha.2.1, turn]
    rw [h1]
    refine ⟨.one _ _ _ _ (by rcases hk with rfl | rfl <;> simp [turn]) iha.1, h2, fun _ => ?_⟩
    rcases hk with rfl | rfl <;> simp [turn, Y.k]
  | non a hl ha _ =>
    have h1 : (Y.mk 18 [] 0 0 0 [a]).neg = a := by simp [Y.neg, hd]
    rw [h1]
    obtain ⟨k, nm, n, lo, hi, l⟩ := a
    obtain ⟨l1, l2, l3, l4, l5, l6⟩ := hl
    simp only [Y.k] at l1 l2 l3 l4 l5 l6
    exact ⟨ha, by simp [Y.neg, l1, l2, l3, l4, l5, l6], fun _ => l1⟩
  | set nm n lo hi l hl =>
    have h1 : (Y.mk 4 nm n lo hi l).neg = .mk 18 [] 0 0 0 [.mk 4 nm n lo hi l] := by simp [Y.neg]
    rw [h1]
    exact ⟨.non _ (by simp [lit, Y.k]) (.set _ _ _ _ _ hl), by simp [Y.neg, hd], fun _ => by simp [Y.k]⟩
  | oth k nm n lo hi l hl h4 hk _ =>
    have hl' := hl
    obtain ⟨l1, l2, l3, l4, l5, l6⟩ := hl
    have h1 : (Y.mk k nm n lo hi l).neg = .mk 18 [] 0 0 0 [.mk k nm n lo hi l] := by simp [Y.neg, l1, l2, l3, l4, l5, l6]
    rw [h1]
    exact ⟨.non _ hl' (.oth _ _ _ _ _ _ hl' h4 hk), by simp [Y.neg, hd], fun _ => by simp [Y.k]⟩

theorem sm_tru {y : Y} (h : Sm y) (hk : y.k = 2) : ∃ n, (n = 0 ∨ n = 1) ∧ y = .mk 2 [] n 0 0 [] := by
  cases h with
  | tru n hn => exact ⟨n, hn, rfl⟩
  | two k a b hk' => simp [Y.k] at hk; omega
  | one k lo hi a hk' => simp [Y.k] at hk; omega
  | non a => simp [Y.k] at hk
  | set => simp [Y.k] at hk
  | oth k nm n lo hi l hl => exact absurd hk hl.1
theorem tr_neg {y : Y} (h : Sm y) (v : Int) : tr y.neg v = tr y (1 - v) := by
  by_cases hk : y.k = 2
  · obtain ⟨n, hn, rfl⟩ := sm_tru h hk
    have : (Y.mk 2 [] n 0 0 []).neg = .mk 2 [] (1 - n) 0 0 [] := by simp [Y.neg]
    rw [this, Bool.eq_iff_iff]
    simp [tr, Y.k, Y.n]
    omega
  · rw [tr_no hk, tr_no ((neg_sm h).2.2 hk)]

theorem both_e (k : Int) (a b : Y) : ∃ e : Int, (e = 0 ∨ e = 1) ∧ both k a b = (if tr a e || tr b (1 - e) then b else if tr b e || tr a (1 - e) then a else .mk k [] 0 0 0 [a, b]) := by
  by_cases h : k = 20
  · exact ⟨0, .inl rfl, by unfold both; rw [if_pos h]⟩
  · exact ⟨1, .inr rfl, by unfold both; rw [if_neg h]⟩
theorem both_cases (k : Int) (a b : Y) : both k a b = a ∨ both k a b = b ∨ (both k a b = .mk k [] 0 0 0 [a, b] ∧ (∀ v, v = 0 ∨ v = 1 → tr a v = false ∧ tr b v = false)) := by
  obtain ⟨e, he, h⟩ := both_e k a b
  rw [h]
  cases c1 : (tr a e || tr b (1 - e))
  · cases c2 : (tr b e || tr a (1 - e))
    · simp only [Bool.or_eq_false_iff] at c1 c2
      refine .inr (.inr ⟨by simp, fun v hv => ?_⟩)
      rcases he with rfl | rfl <;> rcases hv with rfl | rfl
      · exact ⟨c1.1, c2.1⟩
      · exact ⟨c2.2, c1.2⟩
      · exact ⟨c2.2, c1.2⟩
      · exact ⟨c1.1, c2.1⟩
    · exact .inl (by simp)
  · exact .inr (.inl (by simp))
theorem sm_no {y : Y} (h : Sm y) (h0 : tr y 0 = false) (h1 : tr y 1 = false) : y.k ≠ 2 := fun hk => by
  obtain ⟨n, hn, rfl⟩ := sm_tru h hk
  rcases hn with rfl | rfl <;> simp [tr, Y.k, Y.n] at h0 h1
theorem both_sm {k : Int} {a b : Y} (hk : k = 19 ∨ k = 20) (ha : Sm a) (hb : Sm b) : Sm (both k a b) := by
  rcases both_cases k a b with h | h | ⟨h, hv⟩
  · rw [h]; exact ha
  · rw [h]; exact hb
  · rw [h]
    exact .two k a b hk (sm_no ha (hv 0 (.inl rfl)).1 (hv 1 (.inr rfl)).1) (sm_no hb (hv 0 (.inl rfl)).2 (hv 1 (.inr rfl)).2) ha hb
theorem both_neg {k : Int} {a b : Y} (hk : k = 19 ∨ k = 20) (ha : Sm a) (hb : Sm b) : (both k a b).neg = both (turn k) a.neg b.neg := by
  have ta := tr_neg ha
  have tb := tr_neg hb
  have key : ∀ e : Int, (e = 0 ∨ e = 1) → both k a b = (if tr a e || tr b (1 - e) then b else if tr b e || tr a (1 - e) then a else .mk k [] 0 0 0 [a, b]) →
      both (turn k) a.neg b.neg = (if tr a.neg (1 - e) || tr b.neg e then b.neg else if tr b.neg (1 - e) || tr a.neg e then a.neg else .mk (turn k) [] 0 0 0 [a.neg, b.neg]) →
      (both k a b).neg = both (turn k) a.neg b.neg := fun e he h1 h2 => by
    rw [h1, h2, ta, tb, tb, ta, show 1 - (1 - e) = e by omega]
    cases c1 : (tr a e || tr b (1 - e))
    · cases c2 : (tr b e || tr a (1 - e))
      · simp only [Bool.false_eq_true, if_false]
        simp only [Bool.or_eq_false_iff] at c1 c2
        have na : a.k ≠ 2 := by
          rcases he with rfl | rfl
          · exact sm_no ha c1.1 c2.2
          · exact sm_no ha c2.2 c1.1
        have nb : b.k ≠ 2 := by
          rcases he with rfl | rfl
          · exact sm_no hb c2.1 c1.2
          · exact sm_no hb c1.2 c2.1
        have na' := (neg_sm ha).2.2 na
        have nb' := (neg_sm hb).2.2 nb
        rcases hk with rfl | rfl
        · simp [Y.neg, negL, hd, hd2, both_mk na' nb']
        · simp [Y.neg, negL, hd, hd2, both_mk na' nb']
      · simp
    · simp
  rcases hk with rfl | rfl
  · exact key 1 (.inr rfl) (by simp [both]) (by simp [both, turn])
  · exact key 0 (.inl rfl) (by simp [both]) (by simp [both, turn])

theorem simL_map : ∀ l : List Y, simL l = l.map Y.sim
  | [] => rfl
  | a :: l => by simp [simL, simL_map l]
theorem refL_map (b : Bool) : ∀ l : List Y, refL l b = l.map fun a => a.ref b
  | [] => rfl
  | a :: l => by simp [refL, refL_map b l]

theorem sim_sm {y : Y} (h : Gd y) : Sm y.sim := by
  induction h with
  | tru n hn => simp only [Y.sim, simL]; simp; exact .tru n hn
  | two k a b hk _ _ iha ihb =>
    have : (Y.mk k [] 0 0 0 [a, b]).sim = both k a.sim b.sim := by rcases hk with rfl | rfl <;> simp [Y.sim, simL, hd, hd2]
    rw [this]; exact both_sm hk iha ihb
  | one k lo hi a hk _ iha =>
    have : (Y.mk k [] 0 lo hi [a]).sim = .mk k [] 0 lo hi [a.sim] := by rcases hk with rfl | rfl <;> simp [Y.sim, simL]
    rw [this]; exact .one k lo hi _ hk iha
  | non a _ iha =>
    have : (Y.mk 18 [] 0 0 0 [a]).sim = a.sim.neg := by simp [Y.sim, simL, hd]
    rw [this]; exact (neg_sm iha).1
  | set nm n lo hi l hl => simp [Y.sim]; exact .set _ _ _ _ _ hl
  | oth k nm n lo hi l hl h4 _ ih =>
    have hl' := hl
    obtain ⟨l1, l2, l3, l4, l5, l6⟩ := hl
    have : (Y.mk k nm n lo hi l).sim = .mk k nm n lo hi (simL l) := by simp [Y.sim, h4, l2, l3, l4]
    rw [this]
    refine .oth _ _ _ _ _ _ hl' h4 fun a ha => ?_
    rw [simL_map, List.mem_map] at ha
    obtain ⟨c, hc, rfl⟩ := ha
    exact ih c hc

theorem sm_sim {y : Y} (h : Sm y) : y.sim = y := by
  induction h with
  | tru n hn => simp [Y.sim, simL]
  | two k a b hk ha hb _ _ iha ihb =>
    have : (Y.mk k [] 0 0 0 [a, b]).sim = both k a.sim b.sim := by rcases hk with rfl | rfl <;> simp [Y.sim, simL, hd, hd2]
    rw [this, iha, ihb, both_mk ha hb]
  | one k lo hi a hk _ iha =>
    have : (Y.mk k [] 0 lo hi [a]).sim = .mk k [] 0 lo hi [a.sim] := by rcases hk with rfl | rfl <;> simp [Y.sim, simL]
    rw [this, iha]
  | non a hl _ iha =>
    have : (Y.mk 18 [] 0 0 0 [a]).sim = a.sim.neg := by simp [Y.sim, simL, hd]
    rw [this, iha]
    obtain ⟨k, nm, n, lo, hi, l⟩ := a
    obtain ⟨l1, l2, l3, l4, l5, l6⟩ := hl
    simp only [Y.k] at l1 l2 l3 l4 l5 l6
    simp [Y.neg, l1, l2, l3, l4, l5, l6]
  | set nm n lo hi l hl => simp [Y.sim]
  | oth k nm n lo hi l hl h4 _ ih =>
    obtain ⟨l1, l2, l3, l4, l5, l6⟩ := hl
    have : (Y.mk k nm n lo hi l).sim = .mk k nm n lo hi (simL l) := by simp [Y.sim, h4, l2, l3, l4]
    rw [this, simL_map]
    congr 1
    exact (List.map_congr_left ih).trans (List.map_id' l)

theorem ref_sim {y : Y} (h : Gd y) : y.ref false = y.sim ∧ y.ref true = y.sim.neg := by
  induction h with
  | tru n hn => simp [Y.ref, Y.sim, refL, simL, Y.neg]
  | two k a b hk ga gb iha ihb =>
    have h1 : (Y.mk k [] 0 0 0 [a, b]).sim = both k a.sim b.sim := by rcases hk with rfl | rfl <;> simp [Y.sim, simL, hd, hd2]
    rw [h1, both_neg hk (sim_sm ga) (sim_sm gb), ← iha.1, ← ihb.1, iha.1, ihb.1, ← iha.2, ← ihb.2]
    constructor
    · rw [← iha.1, ← ihb.1]; rcases hk with rfl | rfl <;> simp [Y.ref, refL, hd, hd2]
    · rcases hk with rfl | rfl <;> simp [Y.ref, refL, hd, hd2]
  | one k lo hi a hk _ iha =>
    have h1 : (Y.mk k [] 0 lo hi [a]).sim = .mk k [] 0 lo hi [a.sim] := by rcases hk with rfl | rfl <;> simp [Y.sim, simL]
    have h2 : (Y.mk k [] 0 lo hi [a.sim]).neg = .mk (turn k) [] 0 lo hi [a.sim.neg] := by rcases hk with rfl | rfl <;> simp [Y.neg, negL, hd]
    rw [h1, h2, ← iha.1, iha.1, ← iha.2]
    constructor
    · rw [← iha.1]; rcases hk with rfl | rfl <;> simp [Y.ref, refL, hd]
    · rcases hk with rfl | rfl <;> simp [Y.ref, refL, hd]
  | non a ga iha =>
    have h1 : (Y.mk 18 [] 0 0 0 [a]).sim = a.sim.neg := by simp [Y.sim, simL, hd]
    rw [h1, (neg_sm (sim_sm ga)).2.1, ← iha.2, ← iha.1]
    simp [Y.ref, refL, hd]
  | set nm n lo hi l hl => simp [Y.ref, Y.sim, Y.neg]
  | oth k nm n lo hi l hl h4 _ ih =>
    obtain ⟨l1, l2, l3, l4, l5, l6⟩ := hl
    have h1 : (Y.mk k nm n lo hi l).sim = .mk k nm n lo hi (simL l) := by simp [Y.sim, h4, l2, l3, l4]
    have h2 : refL l false = simL l := by
      rw [refL_map, simL_map]
      exact List.map_congr_left fun a ha => (ih a ha).1
    rw [h1, ← h2]
    constructor
    · simp [Y.ref, h4, l2, l3, l4, l5, l6]
    · simp [Y.ref, Y.neg, h4, l1, l2, l3, l4, l5, l6]

theorem tidyL_all (k : Int) : ∀ l : List Y, (∀ a, a ∈ l → tdKid k a.k = true ∧ a.tidy = true) → tidyL k l = true
  | [], _ => rfl
  | a :: l, h => by
    simp only [tidyL, Bool.and_eq_true]
    exact ⟨h a (List.mem_cons_self ..), tidyL_all k l fun b hb => h b (List.mem_cons_of_mem _ hb)⟩
theorem sm_tidy {y : Y} (h : Sm y) : y.tidy = true := by
  induction h with
  | tru n hn => rfl
  | two k a b hk ha hb _ _ iha ihb =>
    refine tidyL_all _ _ fun c hc => ?_
    simp at hc
    rcases hc with rfl | rfl
    · exact ⟨by rcases hk with rfl | rfl <;> simp [tdKid, ha], iha⟩
    · exact ⟨by rcases hk with rfl | rfl <;> simp [tdKid, hb], ihb⟩
  | one k lo hi a hk _ iha =>
    refine tidyL_all _ _ fun c hc => ?_
    simp at hc
    subst hc
    exact ⟨by rcases hk with rfl | rfl <;> simp [tdKid], iha⟩
  | non a hl _ iha =>
    refine tidyL_all _ _ fun c hc => ?_
    simp at hc
    subst hc
    obtain ⟨l1, l2, l3, l4, l5, l6⟩ := hl
    exact ⟨by simp [tdKid, l1, l2, l3, l4, l5, l6], iha⟩
  | set nm n lo hi l hl =>
    refine tidyL_all _ _ fun c hc => ⟨by simp [tdKid], ?_⟩
    have := hl c hc
    obtain ⟨k', nm', n', lo', hi', l'⟩ := c
    simp [Y.kids] at this
    subst this
    rfl
  | oth k nm n lo hi l hl h4 _ ih =>
    obtain ⟨l1, l2, l3, l4, l5, l6⟩ := hl
    exact tidyL_all _ _ fun c hc => ⟨by simp [tdKid, l2, l3, l4], ih c hc⟩

theorem both_size (k : Int) (a b : Y) : (both k a b).size ≤ 7 + a.size + b.size := by
  rcases both_cases k a b with h | h | ⟨h, _⟩
  · rw [h]; omega
  · rw [h]; omega
  · rw [h]; simp [Y.size, ysizeL]; omega
theorem ysize_pos (y : Y) : 7 ≤ y.size := by cases y; simp [Y.size]; omega
theorem sim_size {y : Y} (h : Gd y) : y.sim.size + 7 ≤ 2 * y.size ∧ y.sim.neg.size ≤ 2 * y.size := by
  induction h with
  | tru n hn => simp [Y.sim, simL, Y.size, ysizeL, Y.neg]
  | two k a b hk ga gb iha ihb =>
    have h1 : (Y.mk k [] 0 0 0 [a, b]).sim = both k a.sim b.sim := by rcases hk with rfl | rfl <;> simp [Y.sim, simL, hd, hd2]
    rw [h1, both_neg hk (sim_sm ga) (sim_sm gb)]
    have := both_size k a.sim b.sim
    have := both_size (turn k) a.sim.neg b.sim.neg
    simp only [Y.size, ysizeL, List.length_nil]
    omega
  | one k lo hi a hk _ iha =>
    have h1 : (Y.mk k [] 0 lo hi [a]).sim = .mk k [] 0 lo hi [a.sim] := by rcases hk with rfl | rfl <;> simp [Y.sim, simL]
    have h2 : (Y.mk k [] 0 lo hi [a.sim]).neg = .mk (turn k) [] 0 lo hi [a.sim.neg] := by rcases hk with rfl | rfl <;> simp [Y.neg, negL, hd]
    rw [h1, h2]
    simp only [Y.size, ysizeL, List.length_nil]
    omega
  | non a ga iha =>
    have h1 : (Y.mk 18 [] 0 0 0 [a]).sim = a.sim.neg := by simp [Y.sim, simL, hd]
    rw [h1, (neg_sm (sim_sm ga)).2.1]
    simp only [Y.size, ysizeL, List.length_nil]
    omega
  | set nm n lo hi l hl => simp [Y.sim, Y.neg, Y.size, ysizeL]; omega
  | oth k nm n lo hi l hl h4 _ ih =>
    obtain ⟨l1, l2, l3, l4, l5, l6⟩ := hl
    have h1 : (Y.mk k nm n lo hi l).sim = .mk k nm n lo hi (simL l) := by simp [Y.sim, h4, l2, l3, l4]
    have h2 : (Y.mk k nm n lo hi (simL l)).neg = .mk 18 [] 0 0 0 [.mk k nm n lo hi (simL l)] := by simp [Y.neg, l1, l2, l3, l4, l5, l6]
    have h3 : ∀ l : List Y, (∀ a, a ∈ l → a.sim.size + 7 ≤ 2 * a.size ∧ a.sim.neg.size ≤ 2 * a.size) → ysizeL (simL l) ≤ 2 * ysizeL l := fun l => by
      induction l with
      | nil => intro _; simp [simL, ysizeL]
      | cons a l ihl =>
        intro h
        have i1 := h a (List.mem_cons_self ..)
        have i2 := ihl fun b hb => h b (List.mem_cons_of_mem _ hb)
        simp only [simL, ysizeL]
        omega
    have := h3 l ih
    rw [h1, h2]
    simp only [Y.size, ysizeL, List.length_nil]
    omega
end Go.Proofs.Ytemggoaefohliaa.NF

