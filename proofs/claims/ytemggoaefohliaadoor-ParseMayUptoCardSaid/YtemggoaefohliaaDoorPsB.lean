/- Joined: DpH, DpI. No condition beyond those of its lemmas. -/
import Derived.Test.YtemggoaefohliaaDoorPsA
/- The parser: argument, attribute, counted, span, evaluated (printed by gendp3.py). No condition. -/
namespace Go.Proofs.YtemggoaefohliaaDoor.PS
set_option linter.unusedVariables false
set_option linter.unusedSimpArgs false
open Go AE EX PT NF LX
set_option maxRecDepth 100000
theorem fin_ii (H0 : List HBox) (T : List Nat) (a : Nat) (l : List Tk) (p d q : Nat) (x y : Int) : finish (PSt H0 T a l p d) (.tup [.int .i64 x, .int .i64 y]) (PSt H0 T a l q d) = some (.tup [.int .i64 x, .int .i64 y], PSt H0 T a l q d) :=
  PSt_fin T l p d q d rfl rfl rfl
theorem leaf_emb (k : Int) (s : List UInt8) (n hi : Int) : (leafX k s n hi).emb = .agg [.int .i64 k, .str s, .int .i64 n, .int .i64 0, .int .i64 hi, .slice [] .clip] := rfl
theorem bX1' (k : Int) (s : List UInt8) : evBuild Tryd.prog 25 [(0, .int .i64 k), (1, .str s)] = some (.agg [.int .i64 k, .str s, .int .i64 0, .int .i64 0, .int .i64 0, .slice [] .clip]) := bX1 k s
section
variable {H0 : List HBox} {a : Nat} (ha : a < H0.length) (T : List Nat) (l : List Tk) (hl : l.length ≤ 2000000)
include ha hl
set_option maxHeartbeats 4000000 in
theorem ev79 (n d : Nat) (any : Nat → PR X) (hs : Sub H0 T a l d (n + 4) 27 any) : Sub H0 T a l d (n + 5) 79 (argP (hereT l) any) := by
  intro p
  rw [show n + 5 = (n + 4) + 1 from rfl, ev_enter (n := n + 4) (show E.ok 79 = true from rfl) Tryd.func79 (fn := Tryd.f79) rfl (Nat.le_of_ble_eq_true rfl) (by decide +kernel)]
  unfold argP
  have h1 : ev Tryd.prog E (n + 4) 75 [.ptr a 0, .str [40]] (PSt H0 T a l (p) d) = _ := ev_need ha T l hl n (p) d _ _
  cases e1 : needP (hereT l) [40] (p) with
  | error z =>
    obtain ⟨c', w⟩ := z
    rw [e1, ansR_err] at h1
    rw [th_err, ansX_err]
    have hf := fin_stop H0 T a l p d w c' w
    generalize PSt H0 T a l (w) d = L0 at *
    generalize PSt H0 T a l (p) d = L1 at *
    generalize stopV (hereT l) c' w = sv at *
    simp (disch := first | (simp only [List.length_append, List.length_cons, List.length_nil]; omega) | (simp; done) | assumption) [↓evOp_build, ↓evOp_bslice, evB2_int, evB2_bool, evB2_str, evB2_eqi, evB2_nei, evB2_eqn, evB2_nen, evB2_peq, evB2_pne, evB2_req, evB2_rne, evB2_zeq, evB2_zne, isC_c, isC_t, evAssert, Bool.or_true, Bool.true_or, rhoP_nil, rhoP_cons, evCode_skip, evCode_region, evCode_draw, evCode_seq, evCode_cond, evCode_block, evCode_loop, evCode_exit, evCode_ret, seqK_ite, seqK_none, seqK_norm, seqK_ret, seqK_exit, seqK_pan, condK_true, condK_false, condK_bool, blockK_ite, blockK_none, blockK_norm, blockK_ret, blockK_exit, blockK_pan, stepK_ite, stepK_none, stepK_ok, stepK_pan, drawK_ite, drawK_none, drawK_ok, drawK_pan, opK_ite, opK_none, opK_val, opK_pan, wantK_true, wantK_false, wantK_some, afterRegion_ite, afterDraw_ite, fromBody_ite, ite_bool, ite_int, stepA_K, doOp, noOp, lexA_nil, lexA_cons, lexF_nil, lexF_cons, afterDraw, noClash, panIn, lostF, FP.clash, wantedA, evOp, rho, rhoL, ofC0, ofC, argsA, upd, afterRegion, putA, goOp, evBin_add, evBin_sub, evBin_mul, evBin_quo, evBin_rem, evBin_eql, evBin_neq, evBin_lss, evBin_leq, evBin_gtr, evBin_geq, evBin_eqlB, evBin_neqB, evBin_addS, evBin_eqlS, evBin_neqS, evBin_lssS, evBin_leqS, evUn, evConv, evIndex, evBuiltin, evLen, evMin2, evMax2, evCallee, evBox, evLoad, evStore, evFieldAddr, evField, evIndexAddr, evBuild, evBuildSlice, evElems, evSlice, nth, rdc, wrc, fromBody, resA, finRet, oneOf, AV.cells?, AV.isCell, fin_int, fin_bool, fin_str, -AV.cells?, cq_int, cq_str, cq_slice, cq_bool, -evBuild, -evBuildSlice, Tryd.f79, E_esc, h1, z24', z6_len, c24, a24, k24, i24, tq46_0, tq46_1, tq46_2, tc46, ta46, tk46, ti46, tz46, fq0, fq3, fq4, fq5, c3, a3, k3, i3, c2, a2, k2, i2, c22, a22, k22, bq3, bq2, finPan, hf]
  | ok z =>
    obtain ⟨_u1, r1⟩ := z
    rw [e1, ansR_ok] at h1
    rw [th_ok]
    have h2 := hs (r1)
    cases e2 : any (r1) with
    | error z =>
      obtain ⟨c', w⟩ := z
      rw [e2, ansX_err] at h2
      rw [th_err, ansX_err]
      have hf := fin_stop H0 T a l p d w c' w
      generalize PSt H0 T a l (w) d = L0 at *
      generalize PSt H0 T a l (r1) d = L1 at *
      generalize PSt H0 T a l (p) d = L2 at *
      generalize stopV (hereT l) c' w = sv at *
      simp (disch := first | (simp only [List.length_append, List.length_cons, List.length_nil]; omega) | (simp; done) | assumption) [↓evOp_build, ↓evOp_bslice, evB2_int, evB2_bool, evB2_str, evB2_eqi, evB2_nei, evB2_eqn, evB2_nen, evB2_peq, evB2_pne, evB2_req, evB2_rne, evB2_zeq, evB2_zne, isC_c, isC_t, evAssert, Bool.or_true, Bool.true_or, rhoP_nil, rhoP_cons, evCode_skip, evCode_region, evCode_draw, evCode_seq, evCode_cond, evCode_block, evCode_loop, evCode_exit, evCode_ret, seqK_ite, seqK_none, seqK_norm, seqK_ret, seqK_exit, seqK_pan, condK_true, condK_false, condK_bool, blockK_ite, blockK_none, blockK_norm, blockK_ret, blockK_exit, blockK_pan, stepK_ite, stepK_none, stepK_ok, stepK_pan, drawK_ite, drawK_none, drawK_ok, drawK_pan, opK_ite, opK_none, opK_val, opK_pan, wantK_true, wantK_false, wantK_some, afterRegion_ite, afterDraw_ite, fromBody_ite, ite_bool, ite_int, stepA_K, doOp, noOp, lexA_nil, lexA_cons, lexF_nil, lexF_cons, afterDraw, noClash, panIn, lostF, FP.clash, wantedA, evOp, rho, rhoL, ofC0, ofC, argsA, upd, afterRegion, putA, goOp, evBin_add, evBin_sub, evBin_mul, evBin_quo, evBin_rem, evBin_eql, evBin_neq, evBin_lss, evBin_leq, evBin_gtr, evBin_geq, evBin_eqlB, evBin_neqB, evBin_addS, evBin_eqlS, evBin_neqS, evBin_lssS, evBin_leqS, evUn, evConv, evIndex, evBuiltin, evLen, evMin2, evMax2, evCallee, evBox, evLoad, evStore, evFieldAddr, evField, evIndexAddr, evBuild, evBuildSlice, evElems, evSlice, nth, rdc, wrc, fromBody, resA, finRet, oneOf, AV.cells?, AV.isCell, fin_int, fin_bool, fin_str, -AV.cells?, cq_int, cq_str, cq_slice, cq_bool, -evBuild, -evBuildSlice, Tryd.f79, E_esc, h1, h2, z24', z6_len, c24, a24, k24, i24, tq46_0, tq46_1, tq46_2, tc46, ta46, tk46, ti46, tz46, fq0, fq3, fq4, fq5, c3, a3, k3, i3, c2, a2, k2, i2, c22, a22, k22, bq3, bq2, finPan, hf]
    | ok z =>
      obtain ⟨x, r2⟩ := z
      rw [e2, ansX_ok] at h2
      rw [th_ok]
      have hcx := xcells x
      have hlx := xlen x
      have htx := xtake x
      have hex := xemb x
      have h3 : ev Tryd.prog E (n + 4) 75 [.ptr a 0, .str [41]] (PSt H0 T a l (r2) d) = _ := ev_need ha T l hl n (r2) d _ _
      cases e3 : needP (hereT l) [41] (r2) with
      | error z =>
        obtain ⟨c', w⟩ := z
        rw [e3, ansR_err] at h3
        rw [th_err, ansX_err]
        have hf := fin_stop H0 T a l p d w c' w
        generalize PSt H0 T a l (w) d = L0 at *
        generalize PSt H0 T a l (r2) d = L1 at *
        generalize PSt H0 T a l (r1) d = L2 at *
        generalize PSt H0 T a l (p) d = L3 at *
        generalize stopV (hereT l) c' w = sv at *
        generalize x.cells = xc at *
        generalize x.emb = xe at *
        simp (disch := first | (simp only [List.length_append, List.length_cons, List.length_nil]; omega) | (simp; done) | assumption) [↓evOp_build, ↓evOp_bslice, evB2_int, evB2_bool, evB2_str, evB2_eqi, evB2_nei, evB2_eqn, evB2_nen, evB2_peq, evB2_pne, evB2_req, evB2_rne, evB2_zeq, evB2_zne, isC_c, isC_t, evAssert, Bool.or_true, Bool.true_or, rhoP_nil, rhoP_cons, evCode_skip, evCode_region, evCode_draw, evCode_seq, evCode_cond, evCode_block, evCode_loop, evCode_exit, evCode_ret, seqK_ite, seqK_none, seqK_norm, seqK_ret, seqK_exit, seqK_pan, condK_true, condK_false, condK_bool, blockK_ite, blockK_none, blockK_norm, blockK_ret, blockK_exit, blockK_pan, stepK_ite, stepK_none, stepK_ok, stepK_pan, drawK_ite, drawK_none, drawK_ok, drawK_pan, opK_ite, opK_none, opK_val, opK_pan, wantK_true, wantK_false, wantK_some, afterRegion_ite, afterDraw_ite, fromBody_ite, ite_bool, ite_int, stepA_K, doOp, noOp, lexA_nil, lexA_cons, lexF_nil, lexF_cons, afterDraw, noClash, panIn, lostF, FP.clash, wantedA, evOp, rho, rhoL, ofC0, ofC, argsA, upd, afterRegion, putA, goOp, evBin_add, evBin_sub, evBin_mul, evBin_quo, evBin_rem, evBin_eql, evBin_neq, evBin_lss, evBin_leq, evBin_gtr, evBin_geq, evBin_eqlB, evBin_neqB, evBin_addS, evBin_eqlS, evBin_neqS, evBin_lssS, evBin_leqS, evUn, evConv, evIndex, evBuiltin, evLen, evMin2, evMax2, evCallee, evBox, evLoad, evStore, evFieldAddr, evField, evIndexAddr, evBuild, evBuildSlice, evElems, evSlice, nth, rdc, wrc, fromBody, resA, finRet, oneOf, AV.cells?, AV.isCell, fin_int, fin_bool, fin_str, -AV.cells?, cq_int, cq_str, cq_slice, cq_bool, -evBuild, -evBuildSlice, Tryd.f79, E_esc, h1, h2, h3, hcx, hlx, htx, hex, z24', z6_len, c24, a24, k24, i24, tq46_0, tq46_1, tq46_2, tc46, ta46, tk46, ti46, tz46, fq0, fq3, fq4, fq5, c3, a3, k3, i3, c2, a2, k2, i2, c22, a22, k22, bq3, bq2, finPan, hf]
      | ok z =>
        obtain ⟨_u3, r3⟩ := z
        rw [e3, ansR_ok] at h3
        rw [th_ok]
        rw [ansX_ok]
        have hf := fin_X H0 T a l p d (r3) (x)
        generalize PSt H0 T a l (r3) d = L0 at *
        generalize PSt H0 T a l (r2) d = L1 at *
        generalize PSt H0 T a l (r1) d = L2 at *
        generalize PSt H0 T a l (p) d = L3 at *
        generalize x.cells = xc at *
        generalize x.emb = xe at *
        simp (disch := first | (simp only [List.length_append, List.length_cons, List.length_nil]; omega) | (simp; done) | assumption) [↓evOp_build, ↓evOp_bslice, evB2_int, evB2_bool, evB2_str, evB2_eqi, evB2_nei, evB2_eqn, evB2_nen, evB2_peq, evB2_pne, evB2_req, evB2_rne, evB2_zeq, evB2_zne, isC_c, isC_t, evAssert, Bool.or_true, Bool.true_or, rhoP_nil, rhoP_cons, evCode_skip, evCode_region, evCode_draw, evCode_seq, evCode_cond, evCode_block, evCode_loop, evCode_exit, evCode_ret, seqK_ite, seqK_none, seqK_norm, seqK_ret, seqK_exit, seqK_pan, condK_true, condK_false, condK_bool, blockK_ite, blockK_none, blockK_norm, blockK_ret, blockK_exit, blockK_pan, stepK_ite, stepK_none, stepK_ok, stepK_pan, drawK_ite, drawK_none, drawK_ok, drawK_pan, opK_ite, opK_none, opK_val, opK_pan, wantK_true, wantK_false, wantK_some, afterRegion_ite, afterDraw_ite, fromBody_ite, ite_bool, ite_int, stepA_K, doOp, noOp, lexA_nil, lexA_cons, lexF_nil, lexF_cons, afterDraw, noClash, panIn, lostF, FP.clash, wantedA, evOp, rho, rhoL, ofC0, ofC, argsA, upd, afterRegion, putA, goOp, evBin_add, evBin_sub, evBin_mul, evBin_quo, evBin_rem, evBin_eql, evBin_neq, evBin_lss, evBin_leq, evBin_gtr, evBin_geq, evBin_eqlB, evBin_neqB, evBin_addS, evBin_eqlS, evBin_neqS, evBin_lssS, evBin_leqS, evUn, evConv, evIndex, evBuiltin, evLen, evMin2, evMax2, evCallee, evBox, evLoad, evStore, evFieldAddr, evField, evIndexAddr, evBuild, evBuildSlice, evElems, evSlice, nth, rdc, wrc, fromBody, resA, finRet, oneOf, AV.cells?, AV.isCell, fin_int, fin_bool, fin_str, -AV.cells?, cq_int, cq_str, cq_slice, cq_bool, -evBuild, -evBuildSlice, Tryd.f79, E_esc, h1, h2, h3, hcx, hlx, htx, hex, z24', z6_len, c24, a24, k24, i24, tq46_0, tq46_1, tq46_2, tc46, ta46, tk46, ti46, tz46, fq0, fq3, fq4, fq5, c3, a3, k3, i3, c2, a2, k2, i2, c22, a22, k22, bq3, bq2, z6, hf]
set_option maxHeartbeats 4000000 in
theorem ev77 (n p d : Nat) (side : Int) : ev Tryd.prog E (n + 5) 77 [.ptr a 0, .int .i64 side] (PSt H0 T a l p d) = ansX H0 T a l d (attrP (hereT l) side p) := by
  rw [show n + 5 = (n + 4) + 1 from rfl, ev_enter (n := n + 4) (show E.ok 77 = true from rfl) Tryd.func77 (fn := Tryd.f77) rfl (Nat.le_of_ble_eq_true rfl) (by decide +kernel)]
  unfold attrP
  have h1 : ev Tryd.prog E (n + 4) 75 [.ptr a 0, .str [46]] (PSt H0 T a l (p) d) = _ := ev_need ha T l hl n (p) d _ _
  cases e1 : needP (hereT l) [46] (p) with
  | error z =>
    obtain ⟨c', w⟩ := z
    rw [e1, ansR_err] at h1
    rw [th_err, ansX_err]
    have hf := fin_stop H0 T a l p d w c' w
    generalize PSt H0 T a l (w) d = L0 at *
    generalize PSt H0 T a l (p) d = L1 at *
    generalize stopV (hereT l) c' w = sv at *
    simp (disch := first | (simp only [List.length_append, List.length_cons, List.length_nil]; omega) | (simp; done) | assumption) [↓evOp_build, ↓evOp_bslice, evB2_int, evB2_bool, evB2_str, evB2_eqi, evB2_nei, evB2_eqn, evB2_nen, evB2_peq, evB2_pne, evB2_req, evB2_rne, evB2_zeq, evB2_zne, isC_c, isC_t, evAssert, Bool.or_true, Bool.true_or, rhoP_nil, rhoP_cons, evCode_skip, evCode_region, evCode_draw, evCode_seq, evCode_cond, evCode_block, evCode_loop, evCode_exit, evCode_ret, seqK_ite, seqK_none, seqK_norm, seqK_ret, seqK_exit, seqK_pan, condK_true, condK_false, condK_bool, blockK_ite, blockK_none, blockK_norm, blockK_ret, blockK_exit, blockK_pan, stepK_ite, stepK_none, stepK_ok, stepK_pan, drawK_ite, drawK_none, drawK_ok, drawK_pan, opK_ite, opK_none, opK_val, opK_pan, wantK_true, wantK_false, wantK_some, afterRegion_ite, afterDraw_ite, fromBody_ite, ite_bool, ite_int, stepA_K, doOp, noOp, lexA_nil, lexA_cons, lexF_nil, lexF_cons, afterDraw, noClash, panIn, lostF, FP.clash, wantedA, evOp, rho, rhoL, ofC0, ofC, argsA, upd, afterRegion, putA, goOp, evBin_add, evBin_sub, evBin_mul, evBin_quo, evBin_rem, evBin_eql, evBin_neq, evBin_lss, evBin_leq, evBin_gtr, evBin_geq, evBin_eqlB, evBin_neqB, evBin_addS, evBin_eqlS, evBin_neqS, evBin_lssS, evBin_leqS, evUn, evConv, evIndex, evBuiltin, evLen, evMin2, evMax2, evCallee, evBox, evLoad, evStore, evFieldAddr, evField, evIndexAddr, evBuild, evBuildSlice, evElems, evSlice, nth, rdc, wrc, fromBody, resA, finRet, oneOf, AV.cells?, AV.isCell, fin_int, fin_bool, fin_str, -AV.cells?, cq_int, cq_str, cq_slice, cq_bool, -evBuild, -evBuildSlice, Tryd.f77, E_esc, h1, z24', z6_len, c24, a24, k24, i24, tq46_0, tq46_1, tq46_2, tc46, ta46, tk46, ti46, tz46, fq0, fq3, fq4, fq5, c3, a3, k3, i3, c2, a2, k2, i2, c22, a22, k22, bq3, bq2, finPan, hf]
  | ok z =>
    obtain ⟨_u1, r1⟩ := z
    rw [e1, ansR_ok] at h1
    rw [th_ok]
    have h2 : ev Tryd.prog E (n + 4) 81 [.ptr a 0, .int .i64 1] (PSt H0 T a l (r1) d) = _ := ev_take ha T l hl (n + 1) (r1) d 1 (by decide)
    cases e2 : takeP (hereT l) 1 (r1) with
    | error z =>
      obtain ⟨c', w⟩ := z
      rw [e2, ansR_err] at h2
      rw [th_err, ansX_err]
      have hf := fin_stop H0 T a l p d w c' w
      generalize PSt H0 T a l (w) d = L0 at *
      generalize PSt H0 T a l (r1) d = L1 at *
      generalize PSt H0 T a l (p) d = L2 at *
      generalize stopV (hereT l) c' w = sv at *
      simp (disch := first | (simp only [List.length_append, List.length_cons, List.length_nil]; omega) | (simp; done) | assumption) [↓evOp_build, ↓evOp_bslice, evB2_int, evB2_bool, evB2_str, evB2_eqi, evB2_nei, evB2_eqn, evB2_nen, evB2_peq, evB2_pne, evB2_req, evB2_rne, evB2_zeq, evB2_zne, isC_c, isC_t, evAssert, Bool.or_true, Bool.true_or, rhoP_nil, rhoP_cons, evCode_skip, evCode_region, evCode_draw, evCode_seq, evCode_cond, evCode_block, evCode_loop, evCode_exit, evCode_ret, seqK_ite, seqK_none, seqK_norm, seqK_ret, seqK_exit, seqK_pan, condK_true, condK_false, condK_bool, blockK_ite, blockK_none, blockK_norm, blockK_ret, blockK_exit, blockK_pan, stepK_ite, stepK_none, stepK_ok, stepK_pan, drawK_ite, drawK_none, drawK_ok, drawK_pan, opK_ite, opK_none, opK_val, opK_pan, wantK_true, wantK_false, wantK_some, afterRegion_ite, afterDraw_ite, fromBody_ite, ite_bool, ite_int, stepA_K, doOp, noOp, lexA_nil, lexA_cons, lexF_nil, lexF_cons, afterDraw, noClash, panIn, lostF, FP.clash, wantedA, evOp, rho, rhoL, ofC0, ofC, argsA, upd, afterRegion, putA, goOp, evBin_add, evBin_sub, evBin_mul, evBin_quo, evBin_rem, evBin_eql, evBin_neq, evBin_lss, evBin_leq, evBin_gtr, evBin_geq, evBin_eqlB, evBin_neqB, evBin_addS, evBin_eqlS, evBin_neqS, evBin_lssS, evBin_leqS, evUn, evConv, evIndex, evBuiltin, evLen, evMin2, evMax2, evCallee, evBox, evLoad, evStore, evFieldAddr, evField, evIndexAddr, evBuild, evBuildSlice, evElems, evSlice, nth, rdc, wrc, fromBody, resA, finRet, oneOf, AV.cells?, AV.isCell, fin_int, fin_bool, fin_str, -AV.cells?, cq_int, cq_str, cq_slice, cq_bool, -evBuild, -evBuildSlice, Tryd.f77, E_esc, h1, h2, z24', z6_len, c24, a24, k24, i24, tq46_0, tq46_1, tq46_2, tc46, ta46, tk46, ti46, tz46, fq0, fq3, fq4, fq5, c3, a3, k3, i3, c2, a2, k2, i2, c22, a22, k22, bq3, bq2, finPan, hf]
    | ok z =>
      obtain ⟨t, r2⟩ := z
      rw [e2, ansR_ok] at h2
      rw [th_ok]
      obtain ⟨tk, ts, tn, tp⟩ := t
      simp only [Tk.emb, Tk.cells] at h2
      rw [ansX_ok]
      have hf := fin_X H0 T a l p d (r2) (leafX side ts 0 0)
      simp only [leaf_emb] at hf ⊢
      generalize PSt H0 T a l (r2) d = L0 at *
      generalize PSt H0 T a l (r1) d = L1 at *
      generalize PSt H0 T a l (p) d = L2 at *
      simp (disch := first | (simp only [List.length_append, List.length_cons, List.length_nil]; omega) | (simp; done) | assumption) [↓evOp_build, ↓evOp_bslice, evB2_int, evB2_bool, evB2_str, evB2_eqi, evB2_nei, evB2_eqn, evB2_nen, evB2_peq, evB2_pne, evB2_req, evB2_rne, evB2_zeq, evB2_zne, isC_c, isC_t, evAssert, Bool.or_true, Bool.true_or, rhoP_nil, rhoP_cons, evCode_skip, evCode_region, evCode_draw, evCode_seq, evCode_cond, evCode_block, evCode_loop, evCode_exit, evCode_ret, seqK_ite, seqK_none, seqK_norm, seqK_ret, seqK_exit, seqK_pan, condK_true, condK_false, condK_bool, blockK_ite, blockK_none, blockK_norm, blockK_ret, blockK_exit, blockK_pan, stepK_ite, stepK_none, stepK_ok, stepK_pan, drawK_ite, drawK_none, drawK_ok, drawK_pan, opK_ite, opK_none, opK_val, opK_pan, wantK_true, wantK_false, wantK_some, afterRegion_ite, afterDraw_ite, fromBody_ite, ite_bool, ite_int, stepA_K, doOp, noOp, lexA_nil, lexA_cons, lexF_nil, lexF_cons, afterDraw, noClash, panIn, lostF, FP.clash, wantedA, evOp, rho, rhoL, ofC0, ofC, argsA, upd, afterRegion, putA, goOp, evBin_add, evBin_sub, evBin_mul, evBin_quo, evBin_rem, evBin_eql, evBin_neq, evBin_lss, evBin_leq, evBin_gtr, evBin_geq, evBin_eqlB, evBin_neqB, evBin_addS, evBin_eqlS, evBin_neqS, evBin_lssS, evBin_leqS, evUn, evConv, evIndex, evBuiltin, evLen, evMin2, evMax2, evCallee, evBox, evLoad, evStore, evFieldAddr, evField, evIndexAddr, evBuild, evBuildSlice, evElems, evSlice, nth, rdc, wrc, fromBody, resA, finRet, oneOf, AV.cells?, AV.isCell, fin_int, fin_bool, fin_str, -AV.cells?, cq_int, cq_str, cq_slice, cq_bool, -evBuild, -evBuildSlice, Tryd.f77, E_esc, h1, h2, z24', z6_len, c24, a24, k24, i24, tq46_0, tq46_1, tq46_2, tc46, ta46, tk46, ti46, tz46, fq0, fq3, fq4, fq5, c3, a3, k3, i3, c2, a2, k2, i2, c22, a22, k22, bq3, bq2, bX1', z6, hf]
set_option maxHeartbeats 4000000 in
theorem ev78a (n p d : Nat) : ev Tryd.prog E (n + 5) 78 [.ptr a 0, .bool false] (PSt H0 T a l p d) = ansX H0 T a l d (actP (hereT l) p) := by
  rw [show n + 5 = (n + 4) + 1 from rfl, ev_enter (n := n + 4) (show E.ok 78 = true from rfl) Tryd.func78 (fn := Tryd.f78) rfl (Nat.le_of_ble_eq_true rfl) (by decide +kernel)]
  unfold actP
  have h1 : ev Tryd.prog E (n + 4) 75 [.ptr a 0, .str [40]] (PSt H0 T a l (p) d) = _ := ev_need ha T l hl n (p) d _ _
  cases e1 : needP (hereT l) [40] (p) with
  | error z =>
    obtain ⟨c', w⟩ := z
    rw [e1, ansR_err] at h1
    rw [th_err, ansX_err]
    have hf := fin_stop H0 T a l p d w c' w
    generalize PSt H0 T a l (w) d = L0 at *
    generalize PSt H0 T a l (p) d = L1 at *
    generalize stopV (hereT l) c' w = sv at *
    simp (disch := first | (simp only [List.length_append, List.length_cons, List.length_nil]; omega) | (simp; done) | assumption) [↓evOp_build, ↓evOp_bslice, evB2_int, evB2_bool, evB2_str, evB2_eqi, evB2_nei, evB2_eqn, evB2_nen, evB2_peq, evB2_pne, evB2_req, evB2_rne, evB2_zeq, evB2_zne, isC_c, isC_t, evAssert, Bool.or_true, Bool.true_or, rhoP_nil, rhoP_cons, evCode_skip, evCode_region, evCode_draw, evCode_seq, evCode_cond, evCode_block, evCode_loop, evCode_exit, evCode_ret, seqK_ite, seqK_none, seqK_norm, seqK_ret, seqK_exit, seqK_pan, condK_true, condK_false, condK_bool, blockK_ite, blockK_none, blockK_norm, blockK_ret, blockK_exit, blockK_pan, stepK_ite, stepK_none, stepK_ok, stepK_pan, drawK_ite, drawK_none, drawK_ok, drawK_pan, opK_ite, opK_none, opK_val, opK_pan, wantK_true, wantK_false, wantK_some, afterRegion_ite, afterDraw_ite, fromBody_ite, ite_bool, ite_int, stepA_K, doOp, noOp, lexA_nil, lexA_cons, lexF_nil, lexF_cons, afterDraw, noClash, panIn, lostF, FP.clash, wantedA, evOp, rho, rhoL, ofC0, ofC, argsA, upd, afterRegion, putA, goOp, evBin_add, evBin_sub, evBin_mul, evBin_quo, evBin_rem, evBin_eql, evBin_neq, evBin_lss, evBin_leq, evBin_gtr, evBin_geq, evBin_eqlB, evBin_neqB, evBin_addS, evBin_eqlS, evBin_neqS, evBin_lssS, evBin_leqS, evUn, evConv, evIndex, evBuiltin, evLen, evMin2, evMax2, evCallee, evBox, evLoad, evStore, evFieldAddr, evField, evIndexAddr, evBuild, evBuildSlice, evElems, evSlice, nth, rdc, wrc, fromBody, resA, finRet, oneOf, AV.cells?, AV.isCell, fin_int, fin_bool, fin_str, -AV.cells?, cq_int, cq_str, cq_slice, cq_bool, -evBuild, -evBuildSlice, Tryd.f78, E_esc, bX1', h1, z24', z6_len, c24, a24, k24, i24, tq46_0, tq46_1, tq46_2, tc46, ta46, tk46, ti46, tz46, fq0, fq3, fq4, fq5, c3, a3, k3, i3, c2, a2, k2, i2, c22, a22, k22, bq3, bq2, finPan, hf]
  | ok z =>
    obtain ⟨_u1, r1⟩ := z
    rw [e1, ansR_ok] at h1
    rw [th_ok]
    have h2 : ev Tryd.prog E (n + 4) 81 [.ptr a 0, .int .i64 1] (PSt H0 T a l (r1) d) = _ := ev_take ha T l hl (n + 1) (r1) d 1 (by decide)
    cases e2 : takeP (hereT l) 1 (r1) with
    | error z =>
      obtain ⟨c', w⟩ := z
      rw [e2, ansR_err] at h2
      rw [th_err, ansX_err]
      have hf := fin_stop H0 T a l p d w c' w
      generalize PSt H0 T a l (w) d = L0 at *
      generalize PSt H0 T a l (r1) d = L1 at *
      generalize PSt H0 T a l (p) d = L2 at *
      generalize stopV (hereT l) c' w = sv at *
      simp (disch := first | (simp only [List.length_append, List.length_cons, List.length_nil]; omega) | (simp; done) | assumption) [↓evOp_build, ↓evOp_bslice, evB2_int, evB2_bool, evB2_str, evB2_eqi, evB2_nei, evB2_eqn, evB2_nen, evB2_peq, evB2_pne, evB2_req, evB2_rne, evB2_zeq, evB2_zne, isC_c, isC_t, evAssert, Bool.or_true, Bool.true_or, rhoP_nil, rhoP_cons, evCode_skip, evCode_region, evCode_draw, evCode_seq, evCode_cond, evCode_block, evCode_loop, evCode_exit, evCode_ret, seqK_ite, seqK_none, seqK_norm, seqK_ret, seqK_exit, seqK_pan, condK_true, condK_false, condK_bool, blockK_ite, blockK_none, blockK_norm, blockK_ret, blockK_exit, blockK_pan, stepK_ite, stepK_none, stepK_ok, stepK_pan, drawK_ite, drawK_none, drawK_ok, drawK_pan, opK_ite, opK_none, opK_val, opK_pan, wantK_true, wantK_false, wantK_some, afterRegion_ite, afterDraw_ite, fromBody_ite, ite_bool, ite_int, stepA_K, doOp, noOp, lexA_nil, lexA_cons, lexF_nil, lexF_cons, afterDraw, noClash, panIn, lostF, FP.clash, wantedA, evOp, rho, rhoL, ofC0, ofC, argsA, upd, afterRegion, putA, goOp, evBin_add, evBin_sub, evBin_mul, evBin_quo, evBin_rem, evBin_eql, evBin_neq, evBin_lss, evBin_leq, evBin_gtr, evBin_geq, evBin_eqlB, evBin_neqB, evBin_addS, evBin_eqlS, evBin_neqS, evBin_lssS, evBin_leqS, evUn, evConv, evIndex, evBuiltin, evLen, evMin2, evMax2, evCallee, evBox, evLoad, evStore, evFieldAddr, evField, evIndexAddr, evBuild, evBuildSlice, evElems, evSlice, nth, rdc, wrc, fromBody, resA, finRet, oneOf, AV.cells?, AV.isCell, fin_int, fin_bool, fin_str, -AV.cells?, cq_int, cq_str, cq_slice, cq_bool, -evBuild, -evBuildSlice, Tryd.f78, E_esc, bX1', h1, h2, z24', z6_len, c24, a24, k24, i24, tq46_0, tq46_1, tq46_2, tc46, ta46, tk46, ti46, tz46, fq0, fq3, fq4, fq5, c3, a3, k3, i3, c2, a2, k2, i2, c22, a22, k22, bq3, bq2, finPan, hf]
    | ok z =>
      obtain ⟨t, r2⟩ := z
      rw [e2, ansR_ok] at h2
      rw [th_ok]
      obtain ⟨tk, ts, tn, tp⟩ := t
      simp only [Tk.emb, Tk.cells] at h2
      have h3 : ev Tryd.prog E (n + 4) 75 [.ptr a 0, .str [41]] (PSt H0 T a l (r2) d) = _ := ev_need ha T l hl n (r2) d _ _
      cases e3 : needP (hereT l) [41] (r2) with
      | error z =>
        obtain ⟨c', w⟩ := z
        rw [e3, ansR_err] at h3
        rw [th_err, ansX_err]
        have hf := fin_stop H0 T a l p d w c' w
        generalize PSt H0 T a l (w) d = L0 at *
        generalize PSt H0 T a l (r2) d = L1 at *
        generalize PSt H0 T a l (r1) d = L2 at *
        generalize PSt H0 T a l (p) d = L3 at *
        generalize stopV (hereT l) c' w = sv at *
        simp (disch := first | (simp only [List.length_append, List.length_cons, List.length_nil]; omega) | (simp; done) | assumption) [↓evOp_build, ↓evOp_bslice, evB2_int, evB2_bool, evB2_str, evB2_eqi, evB2_nei, evB2_eqn, evB2_nen, evB2_peq, evB2_pne, evB2_req, evB2_rne, evB2_zeq, evB2_zne, isC_c, isC_t, evAssert, Bool.or_true, Bool.true_or, rhoP_nil, rhoP_cons, evCode_skip, evCode_region, evCode_draw, evCode_seq, evCode_cond, evCode_block, evCode_loop, evCode_exit, evCode_ret, seqK_ite, seqK_none, seqK_norm, seqK_ret, seqK_exit, seqK_pan, condK_true, condK_false, condK_bool, blockK_ite, blockK_none, blockK_norm, blockK_ret, blockK_exit, blockK_pan, stepK_ite, stepK_none, stepK_ok, stepK_pan, drawK_ite, drawK_none, drawK_ok, drawK_pan, opK_ite, opK_none, opK_val, opK_pan, wantK_true, wantK_false, wantK_some, afterRegion_ite, afterDraw_ite, fromBody_ite, ite_bool, ite_int, stepA_K, doOp, noOp, lexA_nil, lexA_cons, lexF_nil, lexF_cons, afterDraw, noClash, panIn, lostF, FP.clash, wantedA, evOp, rho, rhoL, ofC0, ofC, argsA, upd, afterRegion, putA, goOp, evBin_add, evBin_sub, evBin_mul, evBin_quo, evBin_rem, evBin_eql, evBin_neq, evBin_lss, evBin_leq, evBin_gtr, evBin_geq, evBin_eqlB, evBin_neqB, evBin_addS, evBin_eqlS, evBin_neqS, evBin_lssS, evBin_leqS, evUn, evConv, evIndex, evBuiltin, evLen, evMin2, evMax2, evCallee, evBox, evLoad, evStore, evFieldAddr, evField, evIndexAddr, evBuild, evBuildSlice, evElems, evSlice, nth, rdc, wrc, fromBody, resA, finRet, oneOf, AV.cells?, AV.isCell, fin_int, fin_bool, fin_str, -AV.cells?, cq_int, cq_str, cq_slice, cq_bool, -evBuild, -evBuildSlice, Tryd.f78, E_esc, bX1', h1, h2, h3, z24', z6_len, c24, a24, k24, i24, tq46_0, tq46_1, tq46_2, tc46, ta46, tk46, ti46, tz46, fq0, fq3, fq4, fq5, c3, a3, k3, i3, c2, a2, k2, i2, c22, a22, k22, bq3, bq2, finPan, hf]
      | ok z =>
        obtain ⟨_u3, r3⟩ := z
        rw [e3, ansR_ok] at h3
        rw [th_ok]
        rw [ansX_ok]
        have hf := fin_X H0 T a l p d (r3) (leafX 21 ts 0 0)
        simp only [leaf_emb] at hf ⊢
        generalize PSt H0 T a l (r3) d = L0 at *
        generalize PSt H0 T a l (r2) d = L1 at *
        generalize PSt H0 T a l (r1) d = L2 at *
        generalize PSt H0 T a l (p) d = L3 at *
        simp (disch := first | (simp only [List.length_append, List.length_cons, List.length_nil]; omega) | (simp; done) | assumption) [↓evOp_build, ↓evOp_bslice, evB2_int, evB2_bool, evB2_str, evB2_eqi, evB2_nei, evB2_eqn, evB2_nen, evB2_peq, evB2_pne, evB2_req, evB2_rne, evB2_zeq, evB2_zne, isC_c, isC_t, evAssert, Bool.or_true, Bool.true_or, rhoP_nil, rhoP_cons, evCode_skip, evCode_region, evCode_draw, evCode_seq, evCode_cond, evCode_block, evCode_loop, evCode_exit, evCode_ret, seqK_ite, seqK_none, seqK_norm, seqK_ret, seqK_exit, seqK_pan, condK_true, condK_false, condK_bool, blockK_ite, blockK_none, blockK_norm, blockK_ret, blockK_exit, blockK_pan, stepK_ite, stepK_none, stepK_ok, stepK_pan, drawK_ite, drawK_none, drawK_ok, drawK_pan, opK_ite, opK_none, opK_val, opK_pan, wantK_true, wantK_false, wantK_some, afterRegion_ite, afterDraw_ite, fromBody_ite, ite_bool, ite_int, stepA_K, doOp, noOp, lexA_nil, lexA_cons, lexF_nil, lexF_cons, afterDraw, noClash, panIn, lostF, FP.clash, wantedA, evOp, rho, rhoL, ofC0, ofC, argsA, upd, afterRegion, putA, goOp, evBin_add, evBin_sub, evBin_mul, evBin_quo, evBin_rem, evBin_eql, evBin_neq, evBin_lss, evBin_leq, evBin_gtr, evBin_geq, evBin_eqlB, evBin_neqB, evBin_addS, evBin_eqlS, evBin_neqS, evBin_lssS, evBin_leqS, evUn, evConv, evIndex, evBuiltin, evLen, evMin2, evMax2, evCallee, evBox, evLoad, evStore, evFieldAddr, evField, evIndexAddr, evBuild, evBuildSlice, evElems, evSlice, nth, rdc, wrc, fromBody, resA, finRet, oneOf, AV.cells?, AV.isCell, fin_int, fin_bool, fin_str, -AV.cells?, cq_int, cq_str, cq_slice, cq_bool, -evBuild, -evBuildSlice, Tryd.f78, E_esc, bX1', h1, h2, h3, z24', z6_len, c24, a24, k24, i24, tq46_0, tq46_1, tq46_2, tc46, ta46, tk46, ti46, tz46, fq0, fq3, fq4, fq5, c3, a3, k3, i3, c2, a2, k2, i2, c22, a22, k22, bq3, bq2, z6, hf]
set_option maxHeartbeats 4000000 in
theorem ev78b (n p d : Nat) : ev Tryd.prog E (n + 5) 78 [.ptr a 0, .bool true] (PSt H0 T a l p d) = ansX H0 T a l d (timesP (hereT l) p) := by
  rw [show n + 5 = (n + 4) + 1 from rfl, ev_enter (n := n + 4) (show E.ok 78 = true from rfl) Tryd.func78 (fn := Tryd.f78) rfl (Nat.le_of_ble_eq_true rfl) (by decide +kernel)]
  unfold timesP
  have h1 : ev Tryd.prog E (n + 4) 75 [.ptr a 0, .str [40]] (PSt H0 T a l (p) d) = _ := ev_need ha T l hl n (p) d _ _
  cases e1 : needP (hereT l) [40] (p) with
  | error z =>
    obtain ⟨c', w⟩ := z
    rw [e1, ansR_err] at h1
    rw [th_err, ansX_err]
    have hf := fin_stop H0 T a l p d w c' w
    generalize PSt H0 T a l (w) d = L0 at *
    generalize PSt H0 T a l (p) d = L1 at *
    generalize stopV (hereT l) c' w = sv at *
    simp (disch := first | (simp only [List.length_append, List.length_cons, List.length_nil]; omega) | (simp; done) | assumption) [↓evOp_build, ↓evOp_bslice, evB2_int, evB2_bool, evB2_str, evB2_eqi, evB2_nei, evB2_eqn, evB2_nen, evB2_peq, evB2_pne, evB2_req, evB2_rne, evB2_zeq, evB2_zne, isC_c, isC_t, evAssert, Bool.or_true, Bool.true_or, rhoP_nil, rhoP_cons, evCode_skip, evCode_region, evCode_draw, evCode_seq, evCode_cond, evCode_block, evCode_loop, evCode_exit, evCode_ret, seqK_ite, seqK_none, seqK_norm, seqK_ret, seqK_exit, seqK_pan, condK_true, condK_false, condK_bool, blockK_ite, blockK_none, blockK_norm, blockK_ret, blockK_exit, blockK_pan, stepK_ite, stepK_none, stepK_ok, stepK_pan, drawK_ite, drawK_none, drawK_ok, drawK_pan, opK_ite, opK_none, opK_val, opK_pan, wantK_true, wantK_false, wantK_some, afterRegion_ite, afterDraw_ite, fromBody_ite, ite_bool, ite_int, stepA_K, doOp, noOp, lexA_nil, lexA_cons, lexF_nil, lexF_cons, afterDraw, noClash, panIn, lostF, FP.clash, wantedA, evOp, rho, rhoL, ofC0, ofC, argsA, upd, afterRegion, putA, goOp, evBin_add, evBin_sub, evBin_mul, evBin_quo, evBin_rem, evBin_eql, evBin_neq, evBin_lss, evBin_leq, evBin_gtr, evBin_geq, evBin_eqlB, evBin_neqB, evBin_addS, evBin_eqlS, evBin_neqS, evBin_lssS, evBin_leqS, evUn, evConv, evIndex, evBuiltin, evLen, evMin2, evMax2, evCallee, evBox, evLoad, evStore, evFieldAddr, evField, evIndexAddr, evBuild, evBuildSlice, evElems, evSlice, nth, rdc, wrc, fromBody, resA, finRet, oneOf, AV.cells?, AV.isCell, fin_int, fin_bool, fin_str, -AV.cells?, cq_int, cq_str, cq_slice, cq_bool, -evBuild, -evBuildSlice, Tryd.f78, E_esc, bX1', h1, z24', z6_len, c24, a24, k24, i24, tq46_0, tq46_1, tq46_2, tc46, ta46, tk46, ti46, tz46, fq0, fq3, fq4, fq5, c3, a3, k3, i3, c2, a2, k2, i2, c22, a22, k22, bq3, bq2, finPan, hf]
  | ok z =>
    obtain ⟨_u1, r1⟩ := z
    rw [e1, ansR_ok] at h1
    rw [th_ok]
    have h2 : ev Tryd.prog E (n + 4) 81 [.ptr a 0, .int .i64 1] (PSt H0 T a l (r1) d) = _ := ev_take ha T l hl (n + 1) (r1) d 1 (by decide)
    cases e2 : takeP (hereT l) 1 (r1) with
    | error z =>
      obtain ⟨c', w⟩ := z
      rw [e2, ansR_err] at h2
      rw [th_err, ansX_err]
      have hf := fin_stop H0 T a l p d w c' w
      generalize PSt H0 T a l (w) d = L0 at *
      generalize PSt H0 T a l (r1) d = L1 at *
      generalize PSt H0 T a l (p) d = L2 at *
      generalize stopV (hereT l) c' w = sv at *
      simp (disch := first | (simp only [List.length_append, List.length_cons, List.length_nil]; omega) | (simp; done) | assumption) [↓evOp_build, ↓evOp_bslice, evB2_int, evB2_bool, evB2_str, evB2_eqi, evB2_nei, evB2_eqn, evB2_nen, evB2_peq, evB2_pne, evB2_req, evB2_rne, evB2_zeq, evB2_zne, isC_c, isC_t, evAssert, Bool.or_true, Bool.true_or, rhoP_nil, rhoP_cons, evCode_skip, evCode_region, evCode_draw, evCode_seq, evCode_cond, evCode_block, evCode_loop, evCode_exit, evCode_ret, seqK_ite, seqK_none, seqK_norm, seqK_ret, seqK_exit, seqK_pan, condK_true, condK_false, condK_bool, blockK_ite, blockK_none, blockK_norm, blockK_ret, blockK_exit, blockK_pan, stepK_ite, stepK_none, stepK_ok, stepK_pan, drawK_ite, drawK_none, drawK_ok, drawK_pan, opK_ite, opK_none, opK_val, opK_pan, wantK_true, wantK_false, wantK_some, afterRegion_ite, afterDraw_ite, fromBody_ite, ite_bool, ite_int, stepA_K, doOp, noOp, lexA_nil, lexA_cons, lexF_nil, lexF_cons, afterDraw, noClash, panIn, lostF, FP.clash, wantedA, evOp, rho, rhoL, ofC0, ofC, argsA, upd, afterRegion, putA, goOp, evBin_add, evBin_sub, evBin_mul, evBin_quo, evBin_rem, evBin_eql, evBin_neq, evBin_lss, evBin_leq, evBin_gtr, evBin_geq, evBin_eqlB, evBin_neqB, evBin_addS, evBin_eqlS, evBin_neqS, evBin_lssS, evBin_leqS, evUn, evConv, evIndex, evBuiltin, evLen, evMin2, evMax2, evCallee, evBox, evLoad, evStore, evFieldAddr, evField, evIndexAddr, evBuild, evBuildSlice, evElems, evSlice, nth, rdc, wrc, fromBody, resA, finRet, oneOf, AV.cells?, AV.isCell, fin_int, fin_bool, fin_str, -AV.cells?, cq_int, cq_str, cq_slice, cq_bool, -evBuild, -evBuildSlice, Tryd.f78, E_esc, bX1', h1, h2, z24', z6_len, c24, a24, k24, i24, tq46_0, tq46_1, tq46_2, tc46, ta46, tk46, ti46, tz46, fq0, fq3, fq4, fq5, c3, a3, k3, i3, c2, a2, k2, i2, c22, a22, k22, bq3, bq2, finPan, hf]
    | ok z =>
      obtain ⟨t, r2⟩ := z
      rw [e2, ansR_ok] at h2
      rw [th_ok]
      obtain ⟨tk, ts, tn, tp⟩ := t
      simp only [Tk.emb, Tk.cells] at h2
      have h3 : ev Tryd.prog E (n + 4) 75 [.ptr a 0, .str [44]] (PSt H0 T a l (r2) d) = _ := ev_need ha T l hl n (r2) d _ _
      cases e3 : needP (hereT l) [44] (r2) with
      | error z =>
        obtain ⟨c', w⟩ := z
        rw [e3, ansR_err] at h3
        rw [th_err, ansX_err]
        have hf := fin_stop H0 T a l p d w c' w
        generalize PSt H0 T a l (w) d = L0 at *
        generalize PSt H0 T a l (r2) d = L1 at *
        generalize PSt H0 T a l (r1) d = L2 at *
        generalize PSt H0 T a l (p) d = L3 at *
        generalize stopV (hereT l) c' w = sv at *
        simp (disch := first | (simp only [List.length_append, List.length_cons, List.length_nil]; omega) | (simp; done) | assumption) [↓evOp_build, ↓evOp_bslice, evB2_int, evB2_bool, evB2_str, evB2_eqi, evB2_nei, evB2_eqn, evB2_nen, evB2_peq, evB2_pne, evB2_req, evB2_rne, evB2_zeq, evB2_zne, isC_c, isC_t, evAssert, Bool.or_true, Bool.true_or, rhoP_nil, rhoP_cons, evCode_skip, evCode_region, evCode_draw, evCode_seq, evCode_cond, evCode_block, evCode_loop, evCode_exit, evCode_ret, seqK_ite, seqK_none, seqK_norm, seqK_ret, seqK_exit, seqK_pan, condK_true, condK_false, condK_bool, blockK_ite, blockK_none, blockK_norm, blockK_ret, blockK_exit, blockK_pan, stepK_ite, stepK_none, stepK_ok, stepK_pan, drawK_ite, drawK_none, drawK_ok, drawK_pan, opK_ite, opK_none, opK_val, opK_pan, wantK_true, wantK_false, wantK_some, afterRegion_ite, afterDraw_ite, fromBody_ite, ite_bool, ite_int, stepA_K, doOp, noOp, lexA_nil, lexA_cons, lexF_nil, lexF_cons, afterDraw, noClash, panIn, lostF, FP.clash, wantedA, evOp, rho, rhoL, ofC0, ofC, argsA, upd, afterRegion, putA, goOp, evBin_add, evBin_sub, evBin_mul, evBin_quo, evBin_rem, evBin_eql, evBin_neq, evBin_lss, evBin_leq, evBin_gtr, evBin_geq, evBin_eqlB, evBin_neqB, evBin_addS, evBin_eqlS, evBin_neqS, evBin_lssS, evBin_leqS, evUn, evConv, evIndex, evBuiltin, evLen, evMin2, evMax2, evCallee, evBox, evLoad, evStore, evFieldAddr, evField, evIndexAddr, evBuild, evBuildSlice, evElems, evSlice, nth, rdc, wrc, fromBody, resA, finRet, oneOf, AV.cells?, AV.isCell, fin_int, fin_bool, fin_str, -AV.cells?, cq_int, cq_str, cq_slice, cq_bool, -evBuild, -evBuildSlice, Tryd.f78, E_esc, bX1', h1, h2, h3, z24', z6_len, c24, a24, k24, i24, tq46_0, tq46_1, tq46_2, tc46, ta46, tk46, ti46, tz46, fq0, fq3, fq4, fq5, c3, a3, k3, i3, c2, a2, k2, i2, c22, a22, k22, bq3, bq2, finPan, hf]
      | ok z =>
        obtain ⟨_u3, r3⟩ := z
        rw [e3, ansR_ok] at h3
        rw [th_ok]
        have h4 : ev Tryd.prog E (n + 4) 81 [.ptr a 0, .int .i64 2] (PSt H0 T a l (r3) d) = _ := ev_take ha T l hl (n + 1) (r3) d 2 (by decide)
        cases e4 : takeP (hereT l) 2 (r3) with
        | error z =>
          obtain ⟨c', w⟩ := z
          rw [e4, ansR_err] at h4
          rw [th_err, ansX_err]
          have hf := fin_stop H0 T a l p d w c' w
          generalize PSt H0 T a l (w) d = L0 at *
          generalize PSt H0 T a l (r3) d = L1 at *
          generalize PSt H0 T a l (r2) d = L2 at *
          generalize PSt H0 T a l (r1) d = L3 at *
          generalize PSt H0 T a l (p) d = L4 at *
          generalize stopV (hereT l) c' w = sv at *
          simp (disch := first | (simp only [List.length_append, List.length_cons, List.length_nil]; omega) | (simp; done) | assumption) [↓evOp_build, ↓evOp_bslice, evB2_int, evB2_bool, evB2_str, evB2_eqi, evB2_nei, evB2_eqn, evB2_nen, evB2_peq, evB2_pne, evB2_req, evB2_rne, evB2_zeq, evB2_zne, isC_c, isC_t, evAssert, Bool.or_true, Bool.true_or, rhoP_nil, rhoP_cons, evCode_skip, evCode_region, evCode_draw, evCode_seq, evCode_cond, evCode_block, evCode_loop, evCode_exit, evCode_ret, seqK_ite, seqK_none, seqK_norm, seqK_ret, seqK_exit, seqK_pan, condK_true, condK_false, condK_bool, blockK_ite, blockK_none, blockK_norm, blockK_ret, blockK_exit, blockK_pan, stepK_ite, stepK_none, stepK_ok, stepK_pan, drawK_ite, drawK_none, drawK_ok, drawK_pan, opK_ite, opK_none, opK_val, opK_pan, wantK_true, wantK_false, wantK_some, afterRegion_ite, afterDraw_ite, fromBody_ite, ite_bool, ite_int, stepA_K, doOp, noOp, lexA_nil, lexA_cons, lexF_nil, lexF_cons, afterDraw, noClash, panIn, lostF, FP.clash, wantedA, evOp, rho, rhoL, ofC0, ofC, argsA, upd, afterRegion, putA, goOp, evBin_add, evBin_sub, evBin_mul, evBin_quo, evBin_rem, evBin_eql, evBin_neq, evBin_lss, evBin_leq, evBin_gtr, evBin_geq, evBin_eqlB, evBin_neqB, evBin_addS, evBin_eqlS, evBin_neqS, evBin_lssS, evBin_leqS, evUn, evConv, evIndex, evBuiltin, evLen, evMin2, evMax2, evCallee, evBox, evLoad, evStore, evFieldAddr, evField, evIndexAddr, evBuild, evBuildSlice, evElems, evSlice, nth, rdc, wrc, fromBody, resA, finRet, oneOf, AV.cells?, AV.isCell, fin_int, fin_bool, fin_str, -AV.cells?, cq_int, cq_str, cq_slice, cq_bool, -evBuild, -evBuildSlice, Tryd.f78, E_esc, bX1', h1, h2, h3, h4, z24', z6_len, c24, a24, k24, i24, tq46_0, tq46_1, tq46_2, tc46, ta46, tk46, ti46, tz46, fq0, fq3, fq4, fq5, c3, a3, k3, i3, c2, a2, k2, i2, c22, a22, k22, bq3, bq2, finPan, hf]
        | ok z =>
          obtain ⟨u, r4⟩ := z
          rw [e4, ansR_ok] at h4
          rw [th_ok]
          obtain ⟨uk, us, un, up⟩ := u
          simp only [Tk.emb, Tk.cells] at h4
          have h5 : ev Tryd.prog E (n + 4) 75 [.ptr a 0, .str [41]] (PSt H0 T a l (r4) d) = _ := ev_need ha T l hl n (r4) d _ _
          cases e5 : needP (hereT l) [41] (r4) with
          | error z =>
            obtain ⟨c', w⟩ := z
            rw [e5, ansR_err] at h5
            rw [th_err, ansX_err]
            have hf := fin_stop H0 T a l p d w c' w
            generalize PSt H0 T a l (w) d = L0 at *
            generalize PSt H0 T a l (r4) d = L1 at *
            generalize PSt H0 T a l (r3) d = L2 at *
            generalize PSt H0 T a l (r2) d = L3 at *
            generalize PSt H0 T a l (r1) d = L4 at *
            generalize PSt H0 T a l (p) d = L5 at *
            generalize stopV (hereT l) c' w = sv at *
            simp (disch := first | (simp only [List.length_append, List.length_cons, List.length_nil]; omega) | (simp; done) | assumption) [↓evOp_build, ↓evOp_bslice, evB2_int, evB2_bool, evB2_str, evB2_eqi, evB2_nei, evB2_eqn, evB2_nen, evB2_peq, evB2_pne, evB2_req, evB2_rne, evB2_zeq, evB2_zne, isC_c, isC_t, evAssert, Bool.or_true, Bool.true_or, rhoP_nil, rhoP_cons, evCode_skip, evCode_region, evCode_draw, evCode_seq, evCode_cond, evCode_block, evCode_loop, evCode_exit, evCode_ret, seqK_ite, seqK_none, seqK_norm, seqK_ret, seqK_exit, seqK_pan, condK_true, condK_false, condK_bool, blockK_ite, blockK_none, blockK_norm, blockK_ret, blockK_exit, blockK_pan, stepK_ite, stepK_none, stepK_ok, stepK_pan, drawK_ite, drawK_none, drawK_ok, drawK_pan, opK_ite, opK_none, opK_val, opK_pan, wantK_true, wantK_false, wantK_some, afterRegion_ite, afterDraw_ite, fromBody_ite, ite_bool, ite_int, stepA_K, doOp, noOp, lexA_nil, lexA_cons, lexF_nil, lexF_cons, afterDraw, noClash, panIn, lostF, FP.clash, wantedA, evOp, rho, rhoL, ofC0, ofC, argsA, upd, afterRegion, putA, goOp, evBin_add, evBin_sub, evBin_mul, evBin_quo, evBin_rem, evBin_eql, evBin_neq, evBin_lss, evBin_leq, evBin_gtr, evBin_geq, evBin_eqlB, evBin_neqB, evBin_addS, evBin_eqlS, evBin_neqS, evBin_lssS, evBin_leqS, evUn, evConv, evIndex, evBuiltin, evLen, evMin2, evMax2, evCallee, evBox, evLoad, evStore, evFieldAddr, evField, evIndexAddr, evBuild, evBuildSlice, evElems, evSlice, nth, rdc, wrc, fromBody, resA, finRet, oneOf, AV.cells?, AV.isCell, fin_int, fin_bool, fin_str, -AV.cells?, cq_int, cq_str, cq_slice, cq_bool, -evBuild, -evBuildSlice, Tryd.f78, E_esc, bX1', h1, h2, h3, h4, h5, z24', z6_len, c24, a24, k24, i24, tq46_0, tq46_1, tq46_2, tc46, ta46, tk46, ti46, tz46, fq0, fq3, fq4, fq5, c3, a3, k3, i3, c2, a2, k2, i2, c22, a22, k22, bq3, bq2, finPan, hf]
          | ok z =>
            obtain ⟨_u5, r5⟩ := z
            rw [e5, ansR_ok] at h5
            rw [th_ok]
            rw [ansX_ok]
            have hf := fin_X H0 T a l p d (r5) (leafX 13 ts 0 un)
            simp only [leaf_emb] at hf ⊢
            generalize PSt H0 T a l (r5) d = L0 at *
            generalize PSt H0 T a l (r4) d = L1 at *
            generalize PSt H0 T a l (r3) d = L2 at *
            generalize PSt H0 T a l (r2) d = L3 at *
            generalize PSt H0 T a l (r1) d = L4 at *
            generalize PSt H0 T a l (p) d = L5 at *
            simp (disch := first | (simp only [List.length_append, List.length_cons, List.length_nil]; omega) | (simp; done) | assumption) [↓evOp_build, ↓evOp_bslice, evB2_int, evB2_bool, evB2_str, evB2_eqi, evB2_nei, evB2_eqn, evB2_nen, evB2_peq, evB2_pne, evB2_req, evB2_rne, evB2_zeq, evB2_zne, isC_c, isC_t, evAssert, Bool.or_true, Bool.true_or, rhoP_nil, rhoP_cons, evCode_skip, evCode_region, evCode_draw, evCode_seq, evCode_cond, evCode_block, evCode_loop, evCode_exit, evCode_ret, seqK_ite, seqK_none, seqK_norm, seqK_ret, seqK_exit, seqK_pan, condK_true, condK_false, condK_bool, blockK_ite, blockK_none, blockK_norm, blockK_ret, blockK_exit, blockK_pan, stepK_ite, stepK_none, stepK_ok, stepK_pan, drawK_ite, drawK_none, drawK_ok, drawK_pan, opK_ite, opK_none, opK_val, opK_pan, wantK_true, wantK_false, wantK_some, afterRegion_ite, afterDraw_ite, fromBody_ite, ite_bool, ite_int, stepA_K, doOp, noOp, lexA_nil, lexA_cons, lexF_nil, lexF_cons, afterDraw, noClash, panIn, lostF, FP.clash, wantedA, evOp, rho, rhoL, ofC0, ofC, argsA, upd, afterRegion, putA, goOp, evBin_add, evBin_sub, evBin_mul, evBin_quo, evBin_rem, evBin_eql, evBin_neq, evBin_lss, evBin_leq, evBin_gtr, evBin_geq, evBin_eqlB, evBin_neqB, evBin_addS, evBin_eqlS, evBin_neqS, evBin_lssS, evBin_leqS, evUn, evConv, evIndex, evBuiltin, evLen, evMin2, evMax2, evCallee, evBox, evLoad, evStore, evFieldAddr, evField, evIndexAddr, evBuild, evBuildSlice, evElems, evSlice, nth, rdc, wrc, fromBody, resA, finRet, oneOf, AV.cells?, AV.isCell, fin_int, fin_bool, fin_str, -AV.cells?, cq_int, cq_str, cq_slice, cq_bool, -evBuild, -evBuildSlice, Tryd.f78, E_esc, bX1', h1, h2, h3, h4, h5, z24', z6_len, c24, a24, k24, i24, tq46_0, tq46_1, tq46_2, tc46, ta46, tk46, ti46, tz46, fq0, fq3, fq4, fq5, c3, a3, k3, i3, c2, a2, k2, i2, c22, a22, k22, bq3, bq2, z6, hf]
set_option maxHeartbeats 4000000 in
theorem ev82 (n p d : Nat) : ev Tryd.prog E (n + 5) 82 [.ptr a 0] (PSt H0 T a l p d) = ansR H0 T a l d (fun x : Int × Int => .tup [.int .i64 x.1, .int .i64 x.2]) (spanP (hereT l) p) := by
  rw [show n + 5 = (n + 4) + 1 from rfl, ev_enter (n := n + 4) (show E.ok 82 = true from rfl) Tryd.func82 (fn := Tryd.f82) rfl (Nat.le_of_ble_eq_true rfl) (by decide +kernel)]
  unfold spanP
  have h1 : ev Tryd.prog E (n + 4) 75 [.ptr a 0, .str [91]] (PSt H0 T a l (p) d) = _ := ev_need ha T l hl n (p) d _ _
  cases e1 : needP (hereT l) [91] (p) with
  | error z =>
    obtain ⟨c', w⟩ := z
    rw [e1, ansR_err] at h1
    rw [th_err, ansR_err]
    have hf := fin_stop H0 T a l p d w c' w
    generalize PSt H0 T a l (w) d = L0 at *
    generalize PSt H0 T a l (p) d = L1 at *
    generalize stopV (hereT l) c' w = sv at *
    simp (disch := first | (simp only [List.length_append, List.length_cons, List.length_nil]; omega) | (simp; done) | assumption) [↓evOp_build, ↓evOp_bslice, evB2_int, evB2_bool, evB2_str, evB2_eqi, evB2_nei, evB2_eqn, evB2_nen, evB2_peq, evB2_pne, evB2_req, evB2_rne, evB2_zeq, evB2_zne, isC_c, isC_t, evAssert, Bool.or_true, Bool.true_or, rhoP_nil, rhoP_cons, evCode_skip, evCode_region, evCode_draw, evCode_seq, evCode_cond, evCode_block, evCode_loop, evCode_exit, evCode_ret, seqK_ite, seqK_none, seqK_norm, seqK_ret, seqK_exit, seqK_pan, condK_true, condK_false, condK_bool, blockK_ite, blockK_none, blockK_norm, blockK_ret, blockK_exit, blockK_pan, stepK_ite, stepK_none, stepK_ok, stepK_pan, drawK_ite, drawK_none, drawK_ok, drawK_pan, opK_ite, opK_none, opK_val, opK_pan, wantK_true, wantK_false, wantK_some, afterRegion_ite, afterDraw_ite, fromBody_ite, ite_bool, ite_int, stepA_K, doOp, noOp, lexA_nil, lexA_cons, lexF_nil, lexF_cons, afterDraw, noClash, panIn, lostF, FP.clash, wantedA, evOp, rho, rhoL, ofC0, ofC, argsA, upd, afterRegion, putA, goOp, evBin_add, evBin_sub, evBin_mul, evBin_quo, evBin_rem, evBin_eql, evBin_neq, evBin_lss, evBin_leq, evBin_gtr, evBin_geq, evBin_eqlB, evBin_neqB, evBin_addS, evBin_eqlS, evBin_neqS, evBin_lssS, evBin_leqS, evUn, evConv, evIndex, evBuiltin, evLen, evMin2, evMax2, evCallee, evBox, evLoad, evStore, evFieldAddr, evField, evIndexAddr, evBuild, evBuildSlice, evElems, evSlice, nth, rdc, wrc, fromBody, resA, finRet, oneOf, AV.cells?, AV.isCell, fin_int, fin_bool, fin_str, -AV.cells?, cq_int, cq_str, cq_slice, cq_bool, -evBuild, -evBuildSlice, Tryd.f82, E_esc, h1, z24', z6_len, c24, a24, k24, i24, tq46_0, tq46_1, tq46_2, tc46, ta46, tk46, ti46, tz46, fq0, fq3, fq4, fq5, c3, a3, k3, i3, c2, a2, k2, i2, c22, a22, k22, bq3, bq2, finPan, hf]
  | ok z =>
    obtain ⟨_u1, r1⟩ := z
    rw [e1, ansR_ok] at h1
    rw [th_ok]
    have h2 : ev Tryd.prog E (n + 4) 81 [.ptr a 0, .int .i64 2] (PSt H0 T a l (r1) d) = _ := ev_take ha T l hl (n + 1) (r1) d 2 (by decide)
    cases e2 : takeP (hereT l) 2 (r1) with
    | error z =>
      obtain ⟨c', w⟩ := z
      rw [e2, ansR_err] at h2
      rw [th_err, ansR_err]
      have hf := fin_stop H0 T a l p d w c' w
      generalize PSt H0 T a l (w) d = L0 at *
      generalize PSt H0 T a l (r1) d = L1 at *
      generalize PSt H0 T a l (p) d = L2 at *
      generalize stopV (hereT l) c' w = sv at *
      simp (disch := first | (simp only [List.length_append, List.length_cons, List.length_nil]; omega) | (simp; done) | assumption) [↓evOp_build, ↓evOp_bslice, evB2_int, evB2_bool, evB2_str, evB2_eqi, evB2_nei, evB2_eqn, evB2_nen, evB2_peq, evB2_pne, evB2_req, evB2_rne, evB2_zeq, evB2_zne, isC_c, isC_t, evAssert, Bool.or_true, Bool.true_or, rhoP_nil, rhoP_cons, evCode_skip, evCode_region, evCode_draw, evCode_seq, evCode_cond, evCode_block, evCode_loop, evCode_exit, evCode_ret, seqK_ite, seqK_none, seqK_norm, seqK_ret, seqK_exit, seqK_pan, condK_true, condK_false, condK_bool, blockK_ite, blockK_none, blockK_norm, blockK_ret, blockK_exit, blockK_pan, stepK_ite, stepK_none, stepK_ok, stepK_pan, drawK_ite, drawK_none, drawK_ok, drawK_pan, opK_ite, opK_none, opK_val, opK_pan, wantK_true, wantK_false, wantK_some, afterRegion_ite, afterDraw_ite, fromBody_ite, ite_bool, ite_int, stepA_K, doOp, noOp, lexA_nil, lexA_cons, lexF_nil, lexF_cons, afterDraw, noClash, panIn, lostF, FP.clash, wantedA, evOp, rho, rhoL, ofC0, ofC, argsA, upd, afterRegion, putA, goOp, evBin_add, evBin_sub, evBin_mul, evBin_quo, evBin_rem, evBin_eql, evBin_neq, evBin_lss, evBin_leq, evBin_gtr, evBin_geq, evBin_eqlB, evBin_neqB, evBin_addS, evBin_eqlS, evBin_neqS, evBin_lssS, evBin_leqS, evUn, evConv, evIndex, evBuiltin, evLen, evMin2, evMax2, evCallee, evBox, evLoad, evStore, evFieldAddr, evField, evIndexAddr, evBuild, evBuildSlice, evElems, evSlice, nth, rdc, wrc, fromBody, resA, finRet, oneOf, AV.cells?, AV.isCell, fin_int, fin_bool, fin_str, -AV.cells?, cq_int, cq_str, cq_slice, cq_bool, -evBuild, -evBuildSlice, Tryd.f82, E_esc, h1, h2, z24', z6_len, c24, a24, k24, i24, tq46_0, tq46_1, tq46_2, tc46, ta46, tk46, ti46, tz46, fq0, fq3, fq4, fq5, c3, a3, k3, i3, c2, a2, k2, i2, c22, a22, k22, bq3, bq2, finPan, hf]
    | ok z =>
      obtain ⟨t, r2⟩ := z
      rw [e2, ansR_ok] at h2
      rw [th_ok]
      obtain ⟨tk, ts, tn, tp⟩ := t
      simp only [Tk.emb, Tk.cells] at h2
      have h3 : ev Tryd.prog E (n + 4) 75 [.ptr a 0, .str [44]] (PSt H0 T a l (r2) d) = _ := ev_need ha T l hl n (r2) d _ _
      cases e3 : needP (hereT l) [44] (r2) with
      | error z =>
        obtain ⟨c', w⟩ := z
        rw [e3, ansR_err] at h3
        rw [th_err, ansR_err]
        have hf := fin_stop H0 T a l p d w c' w
        generalize PSt H0 T a l (w) d = L0 at *
        generalize PSt H0 T a l (r2) d = L1 at *
        generalize PSt H0 T a l (r1) d = L2 at *
        generalize PSt H0 T a l (p) d = L3 at *
        generalize stopV (hereT l) c' w = sv at *
        simp (disch := first | (simp only [List.length_append, List.length_cons, List.length_nil]; omega) | (simp; done) | assumption) [↓evOp_build, ↓evOp_bslice, evB2_int, evB2_bool, evB2_str, evB2_eqi, evB2_nei, evB2_eqn, evB2_nen, evB2_peq, evB2_pne, evB2_req, evB2_rne, evB2_zeq, evB2_zne, isC_c, isC_t, evAssert, Bool.or_true, Bool.true_or, rhoP_nil, rhoP_cons, evCode_skip, evCode_region, evCode_draw, evCode_seq, evCode_cond, evCode_block, evCode_loop, evCode_exit, evCode_ret, seqK_ite, seqK_none, seqK_norm, seqK_ret, seqK_exit, seqK_pan, condK_true, condK_false, condK_bool, blockK_ite, blockK_none, blockK_norm, blockK_ret, blockK_exit, blockK_pan, stepK_ite, stepK_none, stepK_ok, stepK_pan, drawK_ite, drawK_none, drawK_ok, drawK_pan, opK_ite, opK_none, opK_val, opK_pan, wantK_true, wantK_false, wantK_some, afterRegion_ite, afterDraw_ite, fromBody_ite, ite_bool, ite_int, stepA_K, doOp, noOp, lexA_nil, lexA_cons, lexF_nil, lexF_cons, afterDraw, noClash, panIn, lostF, FP.clash, wantedA, evOp, rho, rhoL, ofC0, ofC, argsA, upd, afterRegion, putA, goOp, evBin_add, evBin_sub, evBin_mul, evBin_quo, evBin_rem, evBin_eql, evBin_neq, evBin_lss, evBin_leq, evBin_gtr, evBin_geq, evBin_eqlB, evBin_neqB, evBin_addS, evBin_eqlS, evBin_neqS, evBin_lssS, evBin_leqS, evUn, evConv, evIndex, evBuiltin, evLen, evMin2, evMax2, evCallee, evBox, evLoad, evStore, evFieldAddr, evField, evIndexAddr, evBuild, evBuildSlice, evElems, evSlice, nth, rdc, wrc, fromBody, resA, finRet, oneOf, AV.cells?, AV.isCell, fin_int, fin_bool, fin_str, -AV.cells?, cq_int, cq_str, cq_slice, cq_bool, -evBuild, -evBuildSlice, Tryd.f82, E_esc, h1, h2, h3, z24', z6_len, c24, a24, k24, i24, tq46_0, tq46_1, tq46_2, tc46, ta46, tk46, ti46, tz46, fq0, fq3, fq4, fq5, c3, a3, k3, i3, c2, a2, k2, i2, c22, a22, k22, bq3, bq2, finPan, hf]
      | ok z =>
        obtain ⟨_u3, r3⟩ := z
        rw [e3, ansR_ok] at h3
        rw [th_ok]
        have hi : ev Tryd.prog E (n + 4) 44 [.ptr a 0, .str [42]] (PSt H0 T a l (r3) d) = _ := ev_is ha T l hl (n + 2) (r3) d _ _
        by_cases hB : isB (hereT l) (r3) [42] = true
        · rw [if_pos hB]
          rw [hB] at hi
          simp only [if_true] at hi
          have h11 : ev Tryd.prog E (n + 4) 75 [.ptr a 0, .str [93]] (PSt H0 T a l (r3 + 1) d) = _ := ev_need ha T l hl n (r3 + 1) d _ _
          cases e11 : needP (hereT l) [93] (r3 + 1) with
          | error z =>
            obtain ⟨c', w⟩ := z
            rw [e11, ansR_err] at h11
            rw [th_err, ansR_err]
            have hf := fin_stop H0 T a l p d w c' w
            generalize PSt H0 T a l (w) d = L0 at *
            generalize PSt H0 T a l (r3 + 1) d = L1 at *
            generalize PSt H0 T a l (r3) d = L2 at *
            generalize PSt H0 T a l (r2) d = L3 at *
            generalize PSt H0 T a l (r1) d = L4 at *
            generalize PSt H0 T a l (p) d = L5 at *
            generalize stopV (hereT l) c' w = sv at *
            simp (disch := first | (simp only [List.length_append, List.length_cons, List.length_nil]; omega) | (simp; done) | assumption) [↓evOp_build, ↓evOp_bslice, evB2_int, evB2_bool, evB2_str, evB2_eqi, evB2_nei, evB2_eqn, evB2_nen, evB2_peq, evB2_pne, evB2_req, evB2_rne, evB2_zeq, evB2_zne, isC_c, isC_t, evAssert, Bool.or_true, Bool.true_or, rhoP_nil, rhoP_cons, evCode_skip, evCode_region, evCode_draw, evCode_seq, evCode_cond, evCode_block, evCode_loop, evCode_exit, evCode_ret, seqK_ite, seqK_none, seqK_norm, seqK_ret, seqK_exit, seqK_pan, condK_true, condK_false, condK_bool, blockK_ite, blockK_none, blockK_norm, blockK_ret, blockK_exit, blockK_pan, stepK_ite, stepK_none, stepK_ok, stepK_pan, drawK_ite, drawK_none, drawK_ok, drawK_pan, opK_ite, opK_none, opK_val, opK_pan, wantK_true, wantK_false, wantK_some, afterRegion_ite, afterDraw_ite, fromBody_ite, ite_bool, ite_int, stepA_K, doOp, noOp, lexA_nil, lexA_cons, lexF_nil, lexF_cons, afterDraw, noClash, panIn, lostF, FP.clash, wantedA, evOp, rho, rhoL, ofC0, ofC, argsA, upd, afterRegion, putA, goOp, evBin_add, evBin_sub, evBin_mul, evBin_quo, evBin_rem, evBin_eql, evBin_neq, evBin_lss, evBin_leq, evBin_gtr, evBin_geq, evBin_eqlB, evBin_neqB, evBin_addS, evBin_eqlS, evBin_neqS, evBin_lssS, evBin_leqS, evUn, evConv, evIndex, evBuiltin, evLen, evMin2, evMax2, evCallee, evBox, evLoad, evStore, evFieldAddr, evField, evIndexAddr, evBuild, evBuildSlice, evElems, evSlice, nth, rdc, wrc, fromBody, resA, finRet, oneOf, AV.cells?, AV.isCell, fin_int, fin_bool, fin_str, -AV.cells?, cq_int, cq_str, cq_slice, cq_bool, -evBuild, -evBuildSlice, Tryd.f82, E_esc, h1, h2, h3, hi, h11, z24', z6_len, c24, a24, k24, i24, tq46_0, tq46_1, tq46_2, tc46, ta46, tk46, ti46, tz46, fq0, fq3, fq4, fq5, c3, a3, k3, i3, c2, a2, k2, i2, c22, a22, k22, bq3, bq2, finPan, hf]
          | ok z =>
            obtain ⟨_u11, r11⟩ := z
            rw [e11, ansR_ok] at h11
            rw [th_ok]
            rw [ansR_ok]
            have hf := fin_ii H0 T a l p d (r11) (tn) (-1)
            generalize PSt H0 T a l (r11) d = L0 at *
            generalize PSt H0 T a l (r3 + 1) d = L1 at *
            generalize PSt H0 T a l (r3) d = L2 at *
            generalize PSt H0 T a l (r2) d = L3 at *
            generalize PSt H0 T a l (r1) d = L4 at *
            generalize PSt H0 T a l (p) d = L5 at *
            simp (disch := first | (simp only [List.length_append, List.length_cons, List.length_nil]; omega) | (simp; done) | assumption) [↓evOp_build, ↓evOp_bslice, evB2_int, evB2_bool, evB2_str, evB2_eqi, evB2_nei, evB2_eqn, evB2_nen, evB2_peq, evB2_pne, evB2_req, evB2_rne, evB2_zeq, evB2_zne, isC_c, isC_t, evAssert, Bool.or_true, Bool.true_or, rhoP_nil, rhoP_cons, evCode_skip, evCode_region, evCode_draw, evCode_seq, evCode_cond, evCode_block, evCode_loop, evCode_exit, evCode_ret, seqK_ite, seqK_none, seqK_norm, seqK_ret, seqK_exit, seqK_pan, condK_true, condK_false, condK_bool, blockK_ite, blockK_none, blockK_norm, blockK_ret, blockK_exit, blockK_pan, stepK_ite, stepK_none, stepK_ok, stepK_pan, drawK_ite, drawK_none, drawK_ok, drawK_pan, opK_ite, opK_none, opK_val, opK_pan, wantK_true, wantK_false, wantK_some, afterRegion_ite, afterDraw_ite, fromBody_ite, ite_bool, ite_int, stepA_K, doOp, noOp, lexA_nil, lexA_cons, lexF_nil, lexF_cons, afterDraw, noClash, panIn, lostF, FP.clash, wantedA, evOp, rho, rhoL, ofC0, ofC, argsA, upd, afterRegion, putA, goOp, evBin_add, evBin_sub, evBin_mul, evBin_quo, evBin_rem, evBin_eql, evBin_neq, evBin_lss, evBin_leq, evBin_gtr, evBin_geq, evBin_eqlB, evBin_neqB, evBin_addS, evBin_eqlS, evBin_neqS, evBin_lssS, evBin_leqS, evUn, evConv, evIndex, evBuiltin, evLen, evMin2, evMax2, evCallee, evBox, evLoad, evStore, evFieldAddr, evField, evIndexAddr, evBuild, evBuildSlice, evElems, evSlice, nth, rdc, wrc, fromBody, resA, finRet, oneOf, AV.cells?, AV.isCell, fin_int, fin_bool, fin_str, -AV.cells?, cq_int, cq_str, cq_slice, cq_bool, -evBuild, -evBuildSlice, Tryd.f82, E_esc, h1, h2, h3, hi, h11, z24', z6_len, c24, a24, k24, i24, tq46_0, tq46_1, tq46_2, tc46, ta46, tk46, ti46, tz46, fq0, fq3, fq4, fq5, c3, a3, k3, i3, c2, a2, k2, i2, c22, a22, k22, bq3, bq2, hf]
        · rw [if_neg hB]
          simp only [Bool.not_eq_true] at hB
          rw [hB] at hi
          simp only [Bool.false_eq_true, if_false] at hi
          have h21 : ev Tryd.prog E (n + 4) 81 [.ptr a 0, .int .i64 2] (PSt H0 T a l (r3) d) = _ := ev_take ha T l hl (n + 1) (r3) d 2 (by decide)
          cases e21 : takeP (hereT l) 2 (r3) with
          | error z =>
            obtain ⟨c', w⟩ := z
            rw [e21, ansR_err] at h21
            rw [th_err, ansR_err]
            have hf := fin_stop H0 T a l p d w c' w
            generalize PSt H0 T a l (w) d = L0 at *
            generalize PSt H0 T a l (r3) d = L1 at *
            generalize PSt H0 T a l (r2) d = L2 at *
            generalize PSt H0 T a l (r1) d = L3 at *
            generalize PSt H0 T a l (p) d = L4 at *
            generalize stopV (hereT l) c' w = sv at *
            simp (disch := first | (simp only [List.length_append, List.length_cons, List.length_nil]; omega) | (simp; done) | assumption) [↓evOp_build, ↓evOp_bslice, evB2_int, evB2_bool, evB2_str, evB2_eqi, evB2_nei, evB2_eqn, evB2_nen, evB2_peq, evB2_pne, evB2_req, evB2_rne, evB2_zeq, evB2_zne, isC_c, isC_t, evAssert, Bool.or_true, Bool.true_or, rhoP_nil, rhoP_cons, evCode_skip, evCode_region, evCode_draw, evCode_seq, evCode_cond, evCode_block, evCode_loop, evCode_exit, evCode_ret, seqK_ite, seqK_none, seqK_norm, seqK_ret, seqK_exit, seqK_pan, condK_true, condK_false, condK_bool, blockK_ite, blockK_none, blockK_norm, blockK_ret, blockK_exit, blockK_pan, stepK_ite, stepK_none, stepK_ok, stepK_pan, drawK_ite, drawK_none, drawK_ok, drawK_pan, opK_ite, opK_none, opK_val, opK_pan, wantK_true, wantK_false, wantK_some, afterRegion_ite, afterDraw_ite, fromBody_ite, ite_bool, ite_int, stepA_K, doOp, noOp, lexA_nil, lexA_cons, lexF_nil, lexF_cons, afterDraw, noClash, panIn, lostF, FP.clash, wantedA, evOp, rho, rhoL, ofC0, ofC, argsA, upd, afterRegion, putA, goOp, evBin_add, evBin_sub, evBin_mul, evBin_quo, evBin_rem, evBin_eql, evBin_neq, evBin_lss, evBin_leq, evBin_gtr, evBin_geq, evBin_eqlB, evBin_neqB, evBin_addS, evBin_eqlS, evBin_neqS, evBin_lssS, evBin_leqS, evUn, evConv, evIndex, evBuiltin, evLen, evMin2, evMax2, evCallee, evBox, evLoad, evStore, evFieldAddr, evField, evIndexAddr, evBuild, evBuildSlice, evElems, evSlice, nth, rdc, wrc, fromBody, resA, finRet, oneOf, AV.cells?, AV.isCell, fin_int, fin_bool, fin_str, -AV.cells?, cq_int, cq_str, cq_slice, cq_bool, -evBuild, -evBuildSlice, Tryd.f82, E_esc, h1, h2, h3, hi, h21, z24', z6_len, c24, a24, k24, i24, tq46_0, tq46_1, tq46_2, tc46, ta46, tk46, ti46, tz46, fq0, fq3, fq4, fq5, c3, a3, k3, i3, c2, a2, k2, i2, c22, a22, k22, bq3, bq2, finPan, hf]
          | ok z =>
            obtain ⟨u, r21⟩ := z
            rw [e21, ansR_ok] at h21
            rw [th_ok]
            obtain ⟨uk, us, un, up⟩ := u
            simp only [Tk.emb, Tk.cells] at h21
            by_cases hlt : un < tn
            · rw [if_pos (show (⟨uk, us, un, up⟩ : Tk).n < (⟨tk, ts, tn, tp⟩ : Tk).n from hlt), ansR_err]
              have hfl := ev_fail ha T l hl (n + 2) (r21) d 16
              have hf := fin_stop H0 T a l p d (r21) 16 (r21)
              generalize PSt H0 T a l (r21) d = L0 at *
              generalize PSt H0 T a l (r3) d = L1 at *
              generalize PSt H0 T a l (r2) d = L2 at *
              generalize PSt H0 T a l (r1) d = L3 at *
              generalize PSt H0 T a l (p) d = L4 at *
              generalize stopV (hereT l) 16 (r21) = sv at *
              simp (disch := first | (simp only [List.length_append, List.length_cons, List.length_nil]; omega) | (simp; done) | assumption) [↓evOp_build, ↓evOp_bslice, evB2_int, evB2_bool, evB2_str, evB2_eqi, evB2_nei, evB2_eqn, evB2_nen, evB2_peq, evB2_pne, evB2_req, evB2_rne, evB2_zeq, evB2_zne, isC_c, isC_t, evAssert, Bool.or_true, Bool.true_or, rhoP_nil, rhoP_cons, evCode_skip, evCode_region, evCode_draw, evCode_seq, evCode_cond, evCode_block, evCode_loop, evCode_exit, evCode_ret, seqK_ite, seqK_none, seqK_norm, seqK_ret, seqK_exit, seqK_pan, condK_true, condK_false, condK_bool, blockK_ite, blockK_none, blockK_norm, blockK_ret, blockK_exit, blockK_pan, stepK_ite, stepK_none, stepK_ok, stepK_pan, drawK_ite, drawK_none, drawK_ok, drawK_pan, opK_ite, opK_none, opK_val, opK_pan, wantK_true, wantK_false, wantK_some, afterRegion_ite, afterDraw_ite, fromBody_ite, ite_bool, ite_int, stepA_K, doOp, noOp, lexA_nil, lexA_cons, lexF_nil, lexF_cons, afterDraw, noClash, panIn, lostF, FP.clash, wantedA, evOp, rho, rhoL, ofC0, ofC, argsA, upd, afterRegion, putA, goOp, evBin_add, evBin_sub, evBin_mul, evBin_quo, evBin_rem, evBin_eql, evBin_neq, evBin_lss, evBin_leq, evBin_gtr, evBin_geq, evBin_eqlB, evBin_neqB, evBin_addS, evBin_eqlS, evBin_neqS, evBin_lssS, evBin_leqS, evUn, evConv, evIndex, evBuiltin, evLen, evMin2, evMax2, evCallee, evBox, evLoad, evStore, evFieldAddr, evField, evIndexAddr, evBuild, evBuildSlice, evElems, evSlice, nth, rdc, wrc, fromBody, resA, finRet, oneOf, AV.cells?, AV.isCell, fin_int, fin_bool, fin_str, -AV.cells?, cq_int, cq_str, cq_slice, cq_bool, -evBuild, -evBuildSlice, Tryd.f82, E_esc, h1, h2, h3, hi, h21, z24', z6_len, c24, a24, k24, i24, tq46_0, tq46_1, tq46_2, tc46, ta46, tk46, ti46, tz46, fq0, fq3, fq4, fq5, c3, a3, k3, i3, c2, a2, k2, i2, c22, a22, k22, bq3, bq2, hlt, hfl, finPan, hf]
            · rw [if_neg (show ¬ (⟨uk, us, un, up⟩ : Tk).n < (⟨tk, ts, tn, tp⟩ : Tk).n from hlt)]
              have h31 : ev Tryd.prog E (n + 4) 75 [.ptr a 0, .str [93]] (PSt H0 T a l (r21) d) = _ := ev_need ha T l hl n (r21) d _ _
              cases e31 : needP (hereT l) [93] (r21) with
              | error z =>
                obtain ⟨c', w⟩ := z
                rw [e31, ansR_err] at h31
                rw [th_err, ansR_err]
                have hf := fin_stop H0 T a l p d w c' w
                generalize PSt H0 T a l (w) d = L0 at *
                generalize PSt H0 T a l (r21) d = L1 at *
                generalize PSt H0 T a l (r3) d = L2 at *
                generalize PSt H0 T a l (r2) d = L3 at *
                generalize PSt H0 T a l (r1) d = L4 at *
                generalize PSt H0 T a l (p) d = L5 at *
                generalize stopV (hereT l) c' w = sv at *
                simp (disch := first | (simp only [List.length_append, List.length_cons, List.length_nil]; omega) | (simp; done) | assumption) [↓evOp_build, ↓evOp_bslice, evB2_int, evB2_bool, evB2_str, evB2_eqi, evB2_nei, evB2_eqn, evB2_nen, evB2_peq, evB2_pne, evB2_req, evB2_rne, evB2_zeq, evB2_zne, isC_c, isC_t, evAssert, Bool.or_true, Bool.true_or, rhoP_nil, rhoP_cons, evCode_skip, evCode_region, evCode_draw, evCode_seq, evCode_cond, evCode_block, evCode_loop, evCode_exit, evCode_ret, seqK_ite, seqK_none, seqK_norm, seqK_ret, seqK_exit, seqK_pan, condK_true, condK_false, condK_bool, blockK_ite, blockK_none, blockK_norm, blockK_ret, blockK_exit, blockK_pan, stepK_ite, stepK_none, stepK_ok, stepK_pan, drawK_ite, drawK_none, drawK_ok, drawK_pan, opK_ite, opK_none, opK_val, opK_pan, wantK_true, wantK_false, wantK_some, afterRegion_ite, afterDraw_ite, fromBody_ite, ite_bool, ite_int, stepA_K, doOp, noOp, lexA_nil, lexA_cons, lexF_nil, lexF_cons, afterDraw, noClash, panIn, lostF, FP.clash, wantedA, evOp, rho, rhoL, ofC0, ofC, argsA, upd, afterRegion, putA, goOp, evBin_add, evBin_sub, evBin_mul, evBin_quo, evBin_rem, evBin_eql, evBin_neq, evBin_lss, evBin_leq, evBin_gtr, evBin_geq, evBin_eqlB, evBin_neqB, evBin_addS, evBin_eqlS, evBin_neqS, evBin_lssS, evBin_leqS, evUn, evConv, evIndex, evBuiltin, evLen, evMin2, evMax2, evCallee, evBox, evLoad, evStore, evFieldAddr, evField, evIndexAddr, evBuild, evBuildSlice, evElems, evSlice, nth, rdc, wrc, fromBody, resA, finRet, oneOf, AV.cells?, AV.isCell, fin_int, fin_bool, fin_str, -AV.cells?, cq_int, cq_str, cq_slice, cq_bool, -evBuild, -evBuildSlice, Tryd.f82, E_esc, h1, h2, h3, hi, h21, hlt, h31, z24', z6_len, c24, a24, k24, i24, tq46_0, tq46_1, tq46_2, tc46, ta46, tk46, ti46, tz46, fq0, fq3, fq4, fq5, c3, a3, k3, i3, c2, a2, k2, i2, c22, a22, k22, bq3, bq2, finPan, hf]
              | ok z =>
                obtain ⟨_u31, r31⟩ := z
                rw [e31, ansR_ok] at h31
                rw [th_ok]
                rw [ansR_ok]
                have hf := fin_ii H0 T a l p d (r31) (tn) (un)
                generalize PSt H0 T a l (r31) d = L0 at *
                generalize PSt H0 T a l (r21) d = L1 at *
                generalize PSt H0 T a l (r3) d = L2 at *
                generalize PSt H0 T a l (r2) d = L3 at *
                generalize PSt H0 T a l (r1) d = L4 at *
                generalize PSt H0 T a l (p) d = L5 at *
                simp (disch := first | (simp only [List.length_append, List.length_cons, List.length_nil]; omega) | (simp; done) | assumption) [↓evOp_build, ↓evOp_bslice, evB2_int, evB2_bool, evB2_str, evB2_eqi, evB2_nei, evB2_eqn, evB2_nen, evB2_peq, evB2_pne, evB2_req, evB2_rne, evB2_zeq, evB2_zne, isC_c, isC_t, evAssert, Bool.or_true, Bool.true_or, rhoP_nil, rhoP_cons, evCode_skip, evCode_region, evCode_draw, evCode_seq, evCode_cond, evCode_block, evCode_loop, evCode_exit, evCode_ret, seqK_ite, seqK_none, seqK_norm, seqK_ret, seqK_exit, seqK_pan, condK_true, condK_false, condK_bool, blockK_ite, blockK_none, blockK_norm, blockK_ret, blockK_exit, blockK_pan, stepK_ite, stepK_none, stepK_ok, stepK_pan, drawK_ite, drawK_none, drawK_ok, drawK_pan, opK_ite, opK_none, opK_val, opK_pan, wantK_true, wantK_false, wantK_some, afterRegion_ite, afterDraw_ite, fromBody_ite, ite_bool, ite_int, stepA_K, doOp, noOp, lexA_nil, lexA_cons, lexF_nil, lexF_cons, afterDraw, noClash, panIn, lostF, FP.clash, wantedA, evOp, rho, rhoL, ofC0, ofC, argsA, upd, afterRegion, putA, goOp, evBin_add, evBin_sub, evBin_mul, evBin_quo, evBin_rem, evBin_eql, evBin_neq, evBin_lss, evBin_leq, evBin_gtr, evBin_geq, evBin_eqlB, evBin_neqB, evBin_addS, evBin_eqlS, evBin_neqS, evBin_lssS, evBin_leqS, evUn, evConv, evIndex, evBuiltin, evLen, evMin2, evMax2, evCallee, evBox, evLoad, evStore, evFieldAddr, evField, evIndexAddr, evBuild, evBuildSlice, evElems, evSlice, nth, rdc, wrc, fromBody, resA, finRet, oneOf, AV.cells?, AV.isCell, fin_int, fin_bool, fin_str, -AV.cells?, cq_int, cq_str, cq_slice, cq_bool, -evBuild, -evBuildSlice, Tryd.f82, E_esc, h1, h2, h3, hi, h21, hlt, h31, z24', z6_len, c24, a24, k24, i24, tq46_0, tq46_1, tq46_2, tc46, ta46, tk46, ti46, tz46, fq0, fq3, fq4, fq5, c3, a3, k3, i3, c2, a2, k2, i2, c22, a22, k22, bq3, bq2, hf]
end
end Go.Proofs.YtemggoaefohliaaDoor.PS

/- The parser: timed, signed, named, evaluated (printed by gendp4.py). No condition. -/
namespace Go.Proofs.YtemggoaefohliaaDoor.PS
set_option linter.unusedVariables false
set_option linter.unusedSimpArgs false
open Go AE EX PT NF LX
set_option maxRecDepth 100000
theorem i22 : (Tryd.prog.info? 23).isSome = true := by kernel_rfl
theorem embL1 (x : X) : embL [x] = [x.emb] := rfl
theorem embL2 (x y : X) : embL [x, y] = [x.emb, y.emb] := rfl
theorem bS1' (x : X) : evBuildSlice Tryd.prog 23 1 [(0, x.emb)] = some (.slice [x.emb] .clip) := bS1 x
theorem bS2' (x y : X) : evBuildSlice Tryd.prog 23 2 [(0, x.emb), (1, y.emb)] = some (.slice [x.emb, y.emb] .clip) := bS2 x y
theorem mk_emb (k : Int) (lo hi : Int) (ks : List X) : (X.mk k [] 0 lo hi true ks).emb = .agg [.int .i64 k, .str [], .int .i64 0, .int .i64 lo, .int .i64 hi, .slice (embL ks) .clip] := rfl
theorem bX0' (k : Int) : evBuild Tryd.prog 25 [(0, .int .i64 k)] = some (.agg [.int .i64 k, .str [], .int .i64 0, .int .i64 0, .int .i64 0, .slice [] .clip]) := bX0 k
section
variable {H0 : List HBox} {a : Nat} (ha : a < H0.length) (T : List Nat) (l : List Tk) (hl : l.length ≤ 2000000)
include ha hl
set_option maxHeartbeats 8000000 in
theorem ev80 (n d : Nat) (any : Nat → PR X) (hA : Sub H0 T a l d (n + 5) 79 (argP (hereT l) any)) (hs : Sub H0 T a l d (n + 5) 27 any) : Sub H0 T a l d (n + 6) 80 (timedP (hereT l) any) := by
  intro p
  rw [show n + 6 = (n + 5) + 1 from rfl, ev_enter (n := n + 5) (show E.ok 80 = true from rfl) Tryd.func80 (fn := Tryd.f80) rfl (Nat.le_of_ble_eq_true rfl) (by decide +kernel)]
  unfold timedP
  have i1 : ev Tryd.prog E (n + 5) 44 [.ptr a 0, .str [111, 110, 99, 101]] (PSt H0 T a l (p) d) = _ := ev_is ha T l hl (n + 3) (p) d _ _
  by_cases b1 : isB (hereT l) (p) [111, 110, 99, 101] = true
  · rw [if_pos b1]
    have ilt := is_lt b1
    have ib := b1
    rw [b1] at i1
    simp only [if_true] at i1
    unfold lookP
    have h2 := ev82 ha T l hl n (p + 1) d
    cases e2 : spanP (hereT l) (p + 1) with
    | error z =>
      obtain ⟨c', w⟩ := z
      rw [e2, ansR_err] at h2
      rw [th_err, ansX_err]
      have hf := fin_stop H0 T a l p d w c' w
      generalize PSt H0 T a l (w) d = L0 at *
      generalize PSt H0 T a l (p + 1) d = L1 at *
      generalize PSt H0 T a l (p) d = L2 at *
      generalize stopV (hereT l) c' w = sv at *
      simp (disch := first | (simp only [List.length_append, List.length_cons, List.length_nil]; omega) | (simp; done) | assumption) [↓evOp_build, ↓evOp_bslice, evB2_int, evB2_bool, evB2_str, evB2_eqi, evB2_nei, evB2_eqn, evB2_nen, evB2_peq, evB2_pne, evB2_req, evB2_rne, evB2_zeq, evB2_zne, isC_c, isC_t, evAssert, Bool.or_true, Bool.true_or, rhoP_nil, rhoP_cons, evCode_skip, evCode_region, evCode_draw, evCode_seq, evCode_cond, evCode_block, evCode_loop, evCode_exit, evCode_ret, seqK_ite, seqK_none, seqK_norm, seqK_ret, seqK_exit, seqK_pan, condK_true, condK_false, condK_bool, blockK_ite, blockK_none, blockK_norm, blockK_ret, blockK_exit, blockK_pan, stepK_ite, stepK_none, stepK_ok, stepK_pan, drawK_ite, drawK_none, drawK_ok, drawK_pan, opK_ite, opK_none, opK_val, opK_pan, wantK_true, wantK_false, wantK_some, afterRegion_ite, afterDraw_ite, fromBody_ite, ite_bool, ite_int, stepA_K, doOp, noOp, lexA_nil, lexA_cons, lexF_nil, lexF_cons, afterDraw, noClash, panIn, lostF, FP.clash, wantedA, evOp, rho, rhoL, ofC0, ofC, argsA, upd, afterRegion, putA, goOp, evBin_add, evBin_sub, evBin_mul, evBin_quo, evBin_rem, evBin_eql, evBin_neq, evBin_lss, evBin_leq, evBin_gtr, evBin_geq, evBin_eqlB, evBin_neqB, evBin_addS, evBin_eqlS, evBin_neqS, evBin_lssS, evBin_leqS, evUn, evConv, evIndex, evBuiltin, evLen, evMin2, evMax2, evCallee, evBox, evLoad, evStore, evFieldAddr, evField, evIndexAddr, evBuild, evBuildSlice, evElems, evSlice, nth, rdc, wrc, fromBody, resA, finRet, oneOf, AV.cells?, AV.isCell, fin_int, fin_bool, fin_str, -AV.cells?, cq_int, cq_str, cq_slice, cq_bool, -evBuild, -evBuildSlice, Tryd.f80, E_esc, i1, h2, finPan, hf, z24, c24, a24, k24, i24, tq46_0, tq46_1, tq46_2, tc46, ta46, tk46, ti46, tz46, fq0, fq3, fq4, fq5, c3, a3, k3, i3, c2, a2, k2, i2, c22, a22, k22, i22, bq3, bq2]
    | ok z =>
      obtain ⟨lh, r2⟩ := z
      rw [e2, ansR_ok] at h2
      rw [th_ok]
      obtain ⟨lo, hi⟩ := lh; simp only at h2
      have h3 := hA (r2)
      cases e3 : argP (hereT l) any (r2) with
      | error z =>
        obtain ⟨c', w⟩ := z
        rw [e3, ansX_err] at h3
        rw [th_err, ansX_err]
        have hf := fin_stop H0 T a l p d w c' w
        generalize PSt H0 T a l (w) d = L0 at *
        generalize PSt H0 T a l (r2) d = L1 at *
        generalize PSt H0 T a l (p + 1) d = L2 at *
        generalize PSt H0 T a l (p) d = L3 at *
        generalize stopV (hereT l) c' w = sv at *
        simp (disch := first | (simp only [List.length_append, List.length_cons, List.length_nil]; omega) | (simp; done) | assumption) [↓evOp_build, ↓evOp_bslice, evB2_int, evB2_bool, evB2_str, evB2_eqi, evB2_nei, evB2_eqn, evB2_nen, evB2_peq, evB2_pne, evB2_req, evB2_rne, evB2_zeq, evB2_zne, isC_c, isC_t, evAssert, Bool.or_true, Bool.true_or, rhoP_nil, rhoP_cons, evCode_skip, evCode_region, evCode_draw, evCode_seq, evCode_cond, evCode_block, evCode_loop, evCode_exit, evCode_ret, seqK_ite, seqK_none, seqK_norm, seqK_ret, seqK_exit, seqK_pan, condK_true, condK_false, condK_bool, blockK_ite, blockK_none, blockK_norm, blockK_ret, blockK_exit, blockK_pan, stepK_ite, stepK_none, stepK_ok, stepK_pan, drawK_ite, drawK_none, drawK_ok, drawK_pan, opK_ite, opK_none, opK_val, opK_pan, wantK_true, wantK_false, wantK_some, afterRegion_ite, afterDraw_ite, fromBody_ite, ite_bool, ite_int, stepA_K, doOp, noOp, lexA_nil, lexA_cons, lexF_nil, lexF_cons, afterDraw, noClash, panIn, lostF, FP.clash, wantedA, evOp, rho, rhoL, ofC0, ofC, argsA, upd, afterRegion, putA, goOp, evBin_add, evBin_sub, evBin_mul, evBin_quo, evBin_rem, evBin_eql, evBin_neq, evBin_lss, evBin_leq, evBin_gtr, evBin_geq, evBin_eqlB, evBin_neqB, evBin_addS, evBin_eqlS, evBin_neqS, evBin_lssS, evBin_leqS, evUn, evConv, evIndex, evBuiltin, evLen, evMin2, evMax2, evCallee, evBox, evLoad, evStore, evFieldAddr, evField, evIndexAddr, evBuild, evBuildSlice, evElems, evSlice, nth, rdc, wrc, fromBody, resA, finRet, oneOf, AV.cells?, AV.isCell, fin_int, fin_bool, fin_str, -AV.cells?, cq_int, cq_str, cq_slice, cq_bool, -evBuild, -evBuildSlice, Tryd.f80, E_esc, i1, h2, h3, finPan, hf, z24, c24, a24, k24, i24, tq46_0, tq46_1, tq46_2, tc46, ta46, tk46, ti46, tz46, fq0, fq3, fq4, fq5, c3, a3, k3, i3, c2, a2, k2, i2, c22, a22, k22, i22, bq3, bq2]
      | ok z =>
        obtain ⟨x, r3⟩ := z
        rw [e3, ansX_ok] at h3
        rw [th_ok]
        have hcx := xcells x
        have hlx := xlen x
        have htx := xtake x
        have hex := xemb x
        rw [ansX_ok]
        have hf := fin_X H0 T a l p d (r3) (X.mk 22 [] 0 lo hi true [x])
        have hbs := bS1' x
        simp only [mk_emb, embL1] at hf ⊢
        generalize PSt H0 T a l (r3) d = L0 at *
        generalize PSt H0 T a l (r2) d = L1 at *
        generalize PSt H0 T a l (p + 1) d = L2 at *
        generalize PSt H0 T a l (p) d = L3 at *
        generalize x.cells = xc at *
        generalize x.emb = xe at *
        simp (disch := first | (simp only [List.length_append, List.length_cons, List.length_nil]; omega) | (simp; done) | assumption) [↓evOp_build, ↓evOp_bslice, evB2_int, evB2_bool, evB2_str, evB2_eqi, evB2_nei, evB2_eqn, evB2_nen, evB2_peq, evB2_pne, evB2_req, evB2_rne, evB2_zeq, evB2_zne, isC_c, isC_t, evAssert, Bool.or_true, Bool.true_or, rhoP_nil, rhoP_cons, evCode_skip, evCode_region, evCode_draw, evCode_seq, evCode_cond, evCode_block, evCode_loop, evCode_exit, evCode_ret, seqK_ite, seqK_none, seqK_norm, seqK_ret, seqK_exit, seqK_pan, condK_true, condK_false, condK_bool, blockK_ite, blockK_none, blockK_norm, blockK_ret, blockK_exit, blockK_pan, stepK_ite, stepK_none, stepK_ok, stepK_pan, drawK_ite, drawK_none, drawK_ok, drawK_pan, opK_ite, opK_none, opK_val, opK_pan, wantK_true, wantK_false, wantK_some, afterRegion_ite, afterDraw_ite, fromBody_ite, ite_bool, ite_int, stepA_K, doOp, noOp, lexA_nil, lexA_cons, lexF_nil, lexF_cons, afterDraw, noClash, panIn, lostF, FP.clash, wantedA, evOp, rho, rhoL, ofC0, ofC, argsA, upd, afterRegion, putA, goOp, evBin_add, evBin_sub, evBin_mul, evBin_quo, evBin_rem, evBin_eql, evBin_neq, evBin_lss, evBin_leq, evBin_gtr, evBin_geq, evBin_eqlB, evBin_neqB, evBin_addS, evBin_eqlS, evBin_neqS, evBin_lssS, evBin_leqS, evUn, evConv, evIndex, evBuiltin, evLen, evMin2, evMax2, evCallee, evBox, evLoad, evStore, evFieldAddr, evField, evIndexAddr, evBuild, evBuildSlice, evElems, evSlice, nth, rdc, wrc, fromBody, resA, finRet, oneOf, AV.cells?, AV.isCell, fin_int, fin_bool, fin_str, -AV.cells?, cq_int, cq_str, cq_slice, cq_bool, -evBuild, -evBuildSlice, Tryd.f80, E_esc, i1, h2, h3, hcx, hlx, htx, hex, hbs, hf, z24, c24, a24, k24, i24, tq46_0, tq46_1, tq46_2, tc46, ta46, tk46, ti46, tz46, fq0, fq3, fq4, fq5, c3, a3, k3, i3, c2, a2, k2, i2, c22, a22, k22, i22, bq3, bq2]
  · rw [if_neg b1]
    simp only [Bool.not_eq_true] at b1
    rw [b1] at i1
    simp only [Bool.false_eq_true, if_false] at i1
    have i4 : ev Tryd.prog E (n + 5) 44 [.ptr a 0, .str [104, 105, 115, 116]] (PSt H0 T a l (p) d) = _ := ev_is ha T l hl (n + 3) (p) d _ _
    by_cases b4 : isB (hereT l) (p) [104, 105, 115, 116] = true
    · rw [if_pos b4]
      have ilt := is_lt b4
      have ib := b4
      rw [b4] at i4
      simp only [if_true] at i4
      unfold lookP
      have h5 := ev82 ha T l hl n (p + 1) d
      cases e5 : spanP (hereT l) (p + 1) with
      | error z =>
        obtain ⟨c', w⟩ := z
        rw [e5, ansR_err] at h5
        rw [th_err, ansX_err]
        have hf := fin_stop H0 T a l p d w c' w
        generalize PSt H0 T a l (w) d = L0 at *
        generalize PSt H0 T a l (p + 1) d = L1 at *
        generalize PSt H0 T a l (p) d = L2 at *
        generalize stopV (hereT l) c' w = sv at *
        simp (disch := first | (simp only [List.length_append, List.length_cons, List.length_nil]; omega) | (simp; done) | assumption) [↓evOp_build, ↓evOp_bslice, evB2_int, evB2_bool, evB2_str, evB2_eqi, evB2_nei, evB2_eqn, evB2_nen, evB2_peq, evB2_pne, evB2_req, evB2_rne, evB2_zeq, evB2_zne, isC_c, isC_t, evAssert, Bool.or_true, Bool.true_or, rhoP_nil, rhoP_cons, evCode_skip, evCode_region, evCode_draw, evCode_seq, evCode_cond, evCode_block, evCode_loop, evCode_exit, evCode_ret, seqK_ite, seqK_none, seqK_norm, seqK_ret, seqK_exit, seqK_pan, condK_true, condK_false, condK_bool, blockK_ite, blockK_none, blockK_norm, blockK_ret, blockK_exit, blockK_pan, stepK_ite, stepK_none, stepK_ok, stepK_pan, drawK_ite, drawK_none, drawK_ok, drawK_pan, opK_ite, opK_none, opK_val, opK_pan, wantK_true, wantK_false, wantK_some, afterRegion_ite, afterDraw_ite, fromBody_ite, ite_bool, ite_int, stepA_K, doOp, noOp, lexA_nil, lexA_cons, lexF_nil, lexF_cons, afterDraw, noClash, panIn, lostF, FP.clash, wantedA, evOp, rho, rhoL, ofC0, ofC, argsA, upd, afterRegion, putA, goOp, evBin_add, evBin_sub, evBin_mul, evBin_quo, evBin_rem, evBin_eql, evBin_neq, evBin_lss, evBin_leq, evBin_gtr, evBin_geq, evBin_eqlB, evBin_neqB, evBin_addS, evBin_eqlS, evBin_neqS, evBin_lssS, evBin_leqS, evUn, evConv, evIndex, evBuiltin, evLen, evMin2, evMax2, evCallee, evBox, evLoad, evStore, evFieldAddr, evField, evIndexAddr, evBuild, evBuildSlice, evElems, evSlice, nth, rdc, wrc, fromBody, resA, finRet, oneOf, AV.cells?, AV.isCell, fin_int, fin_bool, fin_str, -AV.cells?, cq_int, cq_str, cq_slice, cq_bool, -evBuild, -evBuildSlice, Tryd.f80, E_esc, i1, i4, h5, finPan, hf, z24, c24, a24, k24, i24, tq46_0, tq46_1, tq46_2, tc46, ta46, tk46, ti46, tz46, fq0, fq3, fq4, fq5, c3, a3, k3, i3, c2, a2, k2, i2, c22, a22, k22, i22, bq3, bq2]
      | ok z =>
        obtain ⟨lh, r5⟩ := z
        rw [e5, ansR_ok] at h5
        rw [th_ok]
        obtain ⟨lo, hi⟩ := lh; simp only at h5
        have h6 := hA (r5)
        cases e6 : argP (hereT l) any (r5) with
        | error z =>
          obtain ⟨c', w⟩ := z
          rw [e6, ansX_err] at h6
          rw [th_err, ansX_err]
          have hf := fin_stop H0 T a l p d w c' w
          generalize PSt H0 T a l (w) d = L0 at *
          generalize PSt H0 T a l (r5) d = L1 at *
          generalize PSt H0 T a l (p + 1) d = L2 at *
          generalize PSt H0 T a l (p) d = L3 at *
          generalize stopV (hereT l) c' w = sv at *
          simp (disch := first | (simp only [List.length_append, List.length_cons, List.length_nil]; omega) | (simp; done) | assumption) [↓evOp_build, ↓evOp_bslice, evB2_int, evB2_bool, evB2_str, evB2_eqi, evB2_nei, evB2_eqn, evB2_nen, evB2_peq, evB2_pne, evB2_req, evB2_rne, evB2_zeq, evB2_zne, isC_c, isC_t, evAssert, Bool.or_true, Bool.true_or, rhoP_nil, rhoP_cons, evCode_skip, evCode_region, evCode_draw, evCode_seq, evCode_cond, evCode_block, evCode_loop, evCode_exit, evCode_ret, seqK_ite, seqK_none, seqK_norm, seqK_ret, seqK_exit, seqK_pan, condK_true, condK_false, condK_bool, blockK_ite, blockK_none, blockK_norm, blockK_ret, blockK_exit, blockK_pan, stepK_ite, stepK_none, stepK_ok, stepK_pan, drawK_ite, drawK_none, drawK_ok, drawK_pan, opK_ite, opK_none, opK_val, opK_pan, wantK_true, wantK_false, wantK_some, afterRegion_ite, afterDraw_ite, fromBody_ite, ite_bool, ite_int, stepA_K, doOp, noOp, lexA_nil, lexA_cons, lexF_nil, lexF_cons, afterDraw, noClash, panIn, lostF, FP.clash, wantedA, evOp, rho, rhoL, ofC0, ofC, argsA, upd, afterRegion, putA, goOp, evBin_add, evBin_sub, evBin_mul, evBin_quo, evBin_rem, evBin_eql, evBin_neq, evBin_lss, evBin_leq, evBin_gtr, evBin_geq, evBin_eqlB, evBin_neqB, evBin_addS, evBin_eqlS, evBin_neqS, evBin_lssS, evBin_leqS, evUn, evConv, evIndex, evBuiltin, evLen, evMin2, evMax2, evCallee, evBox, evLoad, evStore, evFieldAddr, evField, evIndexAddr, evBuild, evBuildSlice, evElems, evSlice, nth, rdc, wrc, fromBody, resA, finRet, oneOf, AV.cells?, AV.isCell, fin_int, fin_bool, fin_str, -AV.cells?, cq_int, cq_str, cq_slice, cq_bool, -evBuild, -evBuildSlice, Tryd.f80, E_esc, i1, i4, h5, h6, finPan, hf, z24, c24, a24, k24, i24, tq46_0, tq46_1, tq46_2, tc46, ta46, tk46, ti46, tz46, fq0, fq3, fq4, fq5, c3, a3, k3, i3, c2, a2, k2, i2, c22, a22, k22, i22, bq3, bq2]
        | ok z =>
          obtain ⟨x, r6⟩ := z
          rw [e6, ansX_ok] at h6
          rw [th_ok]
          have hcx := xcells x
          have hlx := xlen x
          have htx := xtake x
          have hex := xemb x
          rw [ansX_ok]
          have hf := fin_X H0 T a l p d (r6) (X.mk 23 [] 0 lo hi true [x])
          have hbs := bS1' x
          simp only [mk_emb, embL1] at hf ⊢
          generalize PSt H0 T a l (r6) d = L0 at *
          generalize PSt H0 T a l (r5) d = L1 at *
          generalize PSt H0 T a l (p + 1) d = L2 at *
          generalize PSt H0 T a l (p) d = L3 at *
          generalize x.cells = xc at *
          generalize x.emb = xe at *
          simp (disch := first | (simp only [List.length_append, List.length_cons, List.length_nil]; omega) | (simp; done) | assumption) [↓evOp_build, ↓evOp_bslice, evB2_int, evB2_bool, evB2_str, evB2_eqi, evB2_nei, evB2_eqn, evB2_nen, evB2_peq, evB2_pne, evB2_req, evB2_rne, evB2_zeq, evB2_zne, isC_c, isC_t, evAssert, Bool.or_true, Bool.true_or, rhoP_nil, rhoP_cons, evCode_skip, evCode_region, evCode_draw, evCode_seq, evCode_cond, evCode_block, evCode_loop, evCode_exit, evCode_ret, seqK_ite, seqK_none, seqK_norm, seqK_ret, seqK_exit, seqK_pan, condK_true, condK_false, condK_bool, blockK_ite, blockK_none, blockK_norm, blockK_ret, blockK_exit, blockK_pan, stepK_ite, stepK_none, stepK_ok, stepK_pan, drawK_ite, drawK_none, drawK_ok, drawK_pan, opK_ite, opK_none, opK_val, opK_pan, wantK_true, wantK_false, wantK_some, afterRegion_ite, afterDraw_ite, fromBody_ite, ite_bool, ite_int, stepA_K, doOp, noOp, lexA_nil, lexA_cons, lexF_nil, lexF_cons, afterDraw, noClash, panIn, lostF, FP.clash, wantedA, evOp, rho, rhoL, ofC0, ofC, argsA, upd, afterRegion, putA, goOp, evBin_add, evBin_sub, evBin_mul, evBin_quo, evBin_rem, evBin_eql, evBin_neq, evBin_lss, evBin_leq, evBin_gtr, evBin_geq, evBin_eqlB, evBin_neqB, evBin_addS, evBin_eqlS, evBin_neqS, evBin_lssS, evBin_leqS, evUn, evConv, evIndex, evBuiltin, evLen, evMin2, evMax2, evCallee, evBox, evLoad, evStore, evFieldAddr, evField, evIndexAddr, evBuild, evBuildSlice, evElems, evSlice, nth, rdc, wrc, fromBody, resA, finRet, oneOf, AV.cells?, AV.isCell, fin_int, fin_bool, fin_str, -AV.cells?, cq_int, cq_str, cq_slice, cq_bool, -evBuild, -evBuildSlice, Tryd.f80, E_esc, i1, i4, h5, h6, hcx, hlx, htx, hex, hbs, hf, z24, c24, a24, k24, i24, tq46_0, tq46_1, tq46_2, tc46, ta46, tk46, ti46, tz46, fq0, fq3, fq4, fq5, c3, a3, k3, i3, c2, a2, k2, i2, c22, a22, k22, i22, bq3, bq2]
    · rw [if_neg b4]
      simp only [Bool.not_eq_true] at b4
      rw [b4] at i4
      simp only [Bool.false_eq_true, if_false] at i4
      have i7 : ev Tryd.prog E (n + 5) 44 [.ptr a 0, .str [115, 105, 110, 99, 101]] (PSt H0 T a l (p) d) = _ := ev_is ha T l hl (n + 3) (p) d _ _
      by_cases b7 : isB (hereT l) (p) [115, 105, 110, 99, 101] = true
      · rw [if_pos b7]
        have ilt := is_lt b7
        have ib := b7
        rw [b7] at i7
        simp only [if_true] at i7
        have hps : E.ps 80 16 = [(0, 2), (2, 2)] := rfl
        unfold sinceP
        have h8 := ev82 ha T l hl n (p + 1) d
        cases e8 : spanP (hereT l) (p + 1) with
        | error z =>
          obtain ⟨c', w⟩ := z
          rw [e8, ansR_err] at h8
          rw [th_err, ansX_err]
          have hf := fin_stop H0 T a l p d w c' w
          generalize PSt H0 T a l (w) d = L0 at *
          generalize PSt H0 T a l (p + 1) d = L1 at *
          generalize PSt H0 T a l (p) d = L2 at *
          generalize stopV (hereT l) c' w = sv at *
          simp (disch := first | (simp only [List.length_append, List.length_cons, List.length_nil]; omega) | (simp; done) | assumption) [↓evOp_build, ↓evOp_bslice, evB2_int, evB2_bool, evB2_str, evB2_eqi, evB2_nei, evB2_eqn, evB2_nen, evB2_peq, evB2_pne, evB2_req, evB2_rne, evB2_zeq, evB2_zne, isC_c, isC_t, evAssert, Bool.or_true, Bool.true_or, rhoP_nil, rhoP_cons, evCode_skip, evCode_region, evCode_draw, evCode_seq, evCode_cond, evCode_block, evCode_loop, evCode_exit, evCode_ret, seqK_ite, seqK_none, seqK_norm, seqK_ret, seqK_exit, seqK_pan, condK_true, condK_false, condK_bool, blockK_ite, blockK_none, blockK_norm, blockK_ret, blockK_exit, blockK_pan, stepK_ite, stepK_none, stepK_ok, stepK_pan, drawK_ite, drawK_none, drawK_ok, drawK_pan, opK_ite, opK_none, opK_val, opK_pan, wantK_true, wantK_false, wantK_some, afterRegion_ite, afterDraw_ite, fromBody_ite, ite_bool, ite_int, stepA_K, doOp, noOp, lexA_nil, lexA_cons, lexF_nil, lexF_cons, afterDraw, noClash, panIn, lostF, FP.clash, wantedA, evOp, rho, rhoL, ofC0, ofC, argsA, upd, afterRegion, putA, goOp, evBin_add, evBin_sub, evBin_mul, evBin_quo, evBin_rem, evBin_eql, evBin_neq, evBin_lss, evBin_leq, evBin_gtr, evBin_geq, evBin_eqlB, evBin_neqB, evBin_addS, evBin_eqlS, evBin_neqS, evBin_lssS, evBin_leqS, evUn, evConv, evIndex, evBuiltin, evLen, evMin2, evMax2, evCallee, evBox, evLoad, evStore, evFieldAddr, evField, evIndexAddr, evBuild, evBuildSlice, evElems, evSlice, nth, rdc, wrc, fromBody, resA, finRet, oneOf, AV.cells?, AV.isCell, fin_int, fin_bool, fin_str, -AV.cells?, cq_int, cq_str, cq_slice, cq_bool, -evBuild, -evBuildSlice, Tryd.f80, E_esc, i1, i4, i7, hps, h8, finPan, hf, z24, c24, a24, k24, i24, tq46_0, tq46_1, tq46_2, tc46, ta46, tk46, ti46, tz46, fq0, fq3, fq4, fq5, c3, a3, k3, i3, c2, a2, k2, i2, c22, a22, k22, i22, bq3, bq2]
        | ok z =>
          obtain ⟨lh, r8⟩ := z
          rw [e8, ansR_ok] at h8
          rw [th_ok]
          obtain ⟨lo, hi⟩ := lh; simp only at h8
          have h9 : ev Tryd.prog E (n + 5) 75 [.ptr a 0, .str [40]] (PSt H0 T a l (r8) d) = _ := ev_need ha T l hl (n + 1) (r8) d _ _
          cases e9 : needP (hereT l) [40] (r8) with
          | error z =>
            obtain ⟨c', w⟩ := z
            rw [e9, ansR_err] at h9
            rw [th_err, ansX_err]
            have hf := fin_stop H0 T a l p d w c' w
            generalize PSt H0 T a l (w) d = L0 at *
            generalize PSt H0 T a l (r8) d = L1 at *
            generalize PSt H0 T a l (p + 1) d = L2 at *
            generalize PSt H0 T a l (p) d = L3 at *
            generalize stopV (hereT l) c' w = sv at *
            simp (disch := first | (simp only [List.length_append, List.length_cons, List.length_nil]; omega) | (simp; done) | assumption) [↓evOp_build, ↓evOp_bslice, evB2_int, evB2_bool, evB2_str, evB2_eqi, evB2_nei, evB2_eqn, evB2_nen, evB2_peq, evB2_pne, evB2_req, evB2_rne, evB2_zeq, evB2_zne, isC_c, isC_t, evAssert, Bool.or_true, Bool.true_or, rhoP_nil, rhoP_cons, evCode_skip, evCode_region, evCode_draw, evCode_seq, evCode_cond, evCode_block, evCode_loop, evCode_exit, evCode_ret, seqK_ite, seqK_none, seqK_norm, seqK_ret, seqK_exit, seqK_pan, condK_true, condK_false, condK_bool, blockK_ite, blockK_none, blockK_norm, blockK_ret, blockK_exit, blockK_pan, stepK_ite, stepK_none, stepK_ok, stepK_pan, drawK_ite, drawK_none, drawK_ok, drawK_pan, opK_ite, opK_none, opK_val, opK_pan, wantK_true, wantK_false, wantK_some, afterRegion_ite, afterDraw_ite, fromBody_ite, ite_bool, ite_int, stepA_K, doOp, noOp, lexA_nil, lexA_cons, lexF_nil, lexF_cons, afterDraw, noClash, panIn, lostF, FP.clash, wantedA, evOp, rho, rhoL, ofC0, ofC, argsA, upd, afterRegion, putA, goOp, evBin_add, evBin_sub, evBin_mul, evBin_quo, evBin_rem, evBin_eql, evBin_neq, evBin_lss, evBin_leq, evBin_gtr, evBin_geq, evBin_eqlB, evBin_neqB, evBin_addS, evBin_eqlS, evBin_neqS, evBin_lssS, evBin_leqS, evUn, evConv, evIndex, evBuiltin, evLen, evMin2, evMax2, evCallee, evBox, evLoad, evStore, evFieldAddr, evField, evIndexAddr, evBuild, evBuildSlice, evElems, evSlice, nth, rdc, wrc, fromBody, resA, finRet, oneOf, AV.cells?, AV.isCell, fin_int, fin_bool, fin_str, -AV.cells?, cq_int, cq_str, cq_slice, cq_bool, -evBuild, -evBuildSlice, Tryd.f80, E_esc, i1, i4, i7, hps, h8, h9, finPan, hf, z24, c24, a24, k24, i24, tq46_0, tq46_1, tq46_2, tc46, ta46, tk46, ti46, tz46, fq0, fq3, fq4, fq5, c3, a3, k3, i3, c2, a2, k2, i2, c22, a22, k22, i22, bq3, bq2]
          | ok z =>
            obtain ⟨_u9, r9⟩ := z
            rw [e9, ansR_ok] at h9
            rw [th_ok]
            have h10 := hs (r9)
            cases e10 : any (r9) with
            | error z =>
              obtain ⟨c', w⟩ := z
              rw [e10, ansX_err] at h10
              rw [th_err, ansX_err]
              have hf := fin_stop H0 T a l p d w c' w
              generalize PSt H0 T a l (w) d = L0 at *
              generalize PSt H0 T a l (r9) d = L1 at *
              generalize PSt H0 T a l (r8) d = L2 at *
              generalize PSt H0 T a l (p + 1) d = L3 at *
              generalize PSt H0 T a l (p) d = L4 at *
              generalize stopV (hereT l) c' w = sv at *
              simp (disch := first | (simp only [List.length_append, List.length_cons, List.length_nil]; omega) | (simp; done) | assumption) [↓evOp_build, ↓evOp_bslice, evB2_int, evB2_bool, evB2_str, evB2_eqi, evB2_nei, evB2_eqn, evB2_nen, evB2_peq, evB2_pne, evB2_req, evB2_rne, evB2_zeq, evB2_zne, isC_c, isC_t, evAssert, Bool.or_true, Bool.true_or, rhoP_nil, rhoP_cons, evCode_skip, evCode_region, evCode_draw, evCode_seq, evCode_cond, evCode_block, evCode_loop, evCode_exit, evCode_ret, seqK_ite, seqK_none, seqK_norm, seqK_ret, seqK_exit, seqK_pan, condK_true, condK_false, condK_bool, blockK_ite, blockK_none, blockK_norm, blockK_ret, blockK_exit, blockK_pan, stepK_ite, stepK_none, stepK_ok, stepK_pan, drawK_ite, drawK_none, drawK_ok, drawK_pan, opK_ite, opK_none, opK_val, opK_pan, wantK_true, wantK_false, wantK_some, afterRegion_ite, afterDraw_ite, fromBody_ite, ite_bool, ite_int, stepA_K, doOp, noOp, lexA_nil, lexA_cons, lexF_nil, lexF_cons, afterDraw, noClash, panIn, lostF, FP.clash, wantedA, evOp, rho, rhoL, ofC0, ofC, argsA, upd, afterRegion, putA, goOp, evBin_add, evBin_sub, evBin_mul, evBin_quo, evBin_rem, evBin_eql, evBin_neq, evBin_lss, evBin_leq, evBin_gtr, evBin_geq, evBin_eqlB, evBin_neqB, evBin_addS, evBin_eqlS, evBin_neqS, evBin_lssS, evBin_leqS, evUn, evConv, evIndex, evBuiltin, evLen, evMin2, evMax2, evCallee, evBox, evLoad, evStore, evFieldAddr, evField, evIndexAddr, evBuild, evBuildSlice, evElems, evSlice, nth, rdc, wrc, fromBody, resA, finRet, oneOf, AV.cells?, AV.isCell, fin_int, fin_bool, fin_str, -AV.cells?, cq_int, cq_str, cq_slice, cq_bool, -evBuild, -evBuildSlice, Tryd.f80, E_esc, i1, i4, i7, hps, h8, h9, h10, finPan, hf, z24, c24, a24, k24, i24, tq46_0, tq46_1, tq46_2, tc46, ta46, tk46, ti46, tz46, fq0, fq3, fq4, fq5, c3, a3, k3, i3, c2, a2, k2, i2, c22, a22, k22, i22, bq3, bq2]
            | ok z =>
              obtain ⟨x, r10⟩ := z
              rw [e10, ansX_ok] at h10
              rw [th_ok]
              have hcx := xcells x
              have hlx := xlen x
              have htx := xtake x
              have hex := xemb x
              have h11 : ev Tryd.prog E (n + 5) 75 [.ptr a 0, .str [44]] (PSt H0 T a l (r10) d) = _ := ev_need ha T l hl (n + 1) (r10) d _ _
              cases e11 : needP (hereT l) [44] (r10) with
              | error z =>
                obtain ⟨c', w⟩ := z
                rw [e11, ansR_err] at h11
                rw [th_err, ansX_err]
                have hf := fin_stop H0 T a l p d w c' w
                generalize PSt H0 T a l (w) d = L0 at *
                generalize PSt H0 T a l (r10) d = L1 at *
                generalize PSt H0 T a l (r9) d = L2 at *
                generalize PSt H0 T a l (r8) d = L3 at *
                generalize PSt H0 T a l (p + 1) d = L4 at *
                generalize PSt H0 T a l (p) d = L5 at *
                generalize stopV (hereT l) c' w = sv at *
                generalize x.cells = xc at *
                generalize x.emb = xe at *
                simp (disch := first | (simp only [List.length_append, List.length_cons, List.length_nil]; omega) | (simp; done) | assumption) [↓evOp_build, ↓evOp_bslice, evB2_int, evB2_bool, evB2_str, evB2_eqi, evB2_nei, evB2_eqn, evB2_nen, evB2_peq, evB2_pne, evB2_req, evB2_rne, evB2_zeq, evB2_zne, isC_c, isC_t, evAssert, Bool.or_true, Bool.true_or, rhoP_nil, rhoP_cons, evCode_skip, evCode_region, evCode_draw, evCode_seq, evCode_cond, evCode_block, evCode_loop, evCode_exit, evCode_ret, seqK_ite, seqK_none, seqK_norm, seqK_ret, seqK_exit, seqK_pan, condK_true, condK_false, condK_bool, blockK_ite, blockK_none, blockK_norm, blockK_ret, blockK_exit, blockK_pan, stepK_ite, stepK_none, stepK_ok, stepK_pan, drawK_ite, drawK_none, drawK_ok, drawK_pan, opK_ite, opK_none, opK_val, opK_pan, wantK_true, wantK_false, wantK_some, afterRegion_ite, afterDraw_ite, fromBody_ite, ite_bool, ite_int, stepA_K, doOp, noOp, lexA_nil, lexA_cons, lexF_nil, lexF_cons, afterDraw, noClash, panIn, lostF, FP.clash, wantedA, evOp, rho, rhoL, ofC0, ofC, argsA, upd, afterRegion, putA, goOp, evBin_add, evBin_sub, evBin_mul, evBin_quo, evBin_rem, evBin_eql, evBin_neq, evBin_lss, evBin_leq, evBin_gtr, evBin_geq, evBin_eqlB, evBin_neqB, evBin_addS, evBin_eqlS, evBin_neqS, evBin_lssS, evBin_leqS, evUn, evConv, evIndex, evBuiltin, evLen, evMin2, evMax2, evCallee, evBox, evLoad, evStore, evFieldAddr, evField, evIndexAddr, evBuild, evBuildSlice, evElems, evSlice, nth, rdc, wrc, fromBody, resA, finRet, oneOf, AV.cells?, AV.isCell, fin_int, fin_bool, fin_str, -AV.cells?, cq_int, cq_str, cq_slice, cq_bool, -evBuild, -evBuildSlice, Tryd.f80, E_esc, i1, i4, i7, hps, h8, h9, h10, h11, hcx, hlx, htx, hex, finPan, hf, z24, c24, a24, k24, i24, tq46_0, tq46_1, tq46_2, tc46, ta46, tk46, ti46, tz46, fq0, fq3, fq4, fq5, c3, a3, k3, i3, c2, a2, k2, i2, c22, a22, k22, i22, bq3, bq2]
              | ok z =>
                obtain ⟨_u11, r11⟩ := z
                rw [e11, ansR_ok] at h11
                rw [th_ok]
                have h12 := hs (r11)
                cases e12 : any (r11) with
                | error z =>
                  obtain ⟨c', w⟩ := z
                  rw [e12, ansX_err] at h12
                  rw [th_err, ansX_err]
                  have hf := fin_stop H0 T a l p d w c' w
                  generalize PSt H0 T a l (w) d = L0 at *
                  generalize PSt H0 T a l (r11) d = L1 at *
                  generalize PSt H0 T a l (r10) d = L2 at *
                  generalize PSt H0 T a l (r9) d = L3 at *
                  generalize PSt H0 T a l (r8) d = L4 at *
                  generalize PSt H0 T a l (p + 1) d = L5 at *
                  generalize PSt H0 T a l (p) d = L6 at *
                  generalize stopV (hereT l) c' w = sv at *
                  generalize x.cells = xc at *
                  generalize x.emb = xe at *
                  simp (disch := first | (simp only [List.length_append, List.length_cons, List.length_nil]; omega) | (simp; done) | assumption) [↓evOp_build, ↓evOp_bslice, evB2_int, evB2_bool, evB2_str, evB2_eqi, evB2_nei, evB2_eqn, evB2_nen, evB2_peq, evB2_pne, evB2_req, evB2_rne, evB2_zeq, evB2_zne, isC_c, isC_t, evAssert, Bool.or_true, Bool.true_or, rhoP_nil, rhoP_cons, evCode_skip, evCode_region, evCode_draw, evCode_seq, evCode_cond, evCode_block, evCode_loop, evCode_exit, evCode_ret, seqK_ite, seqK_none, seqK_norm, seqK_ret, seqK_exit, seqK_pan, condK_true, condK_false, condK_bool, blockK_ite, blockK_none, blockK_norm, blockK_ret, blockK_exit, blockK_pan, stepK_ite, stepK_none, stepK_ok, stepK_pan, drawK_ite, drawK_none, drawK_ok, drawK_pan, opK_ite, opK_none, opK_val, opK_pan, wantK_true, wantK_false, wantK_some, afterRegion_ite, afterDraw_ite, fromBody_ite, ite_bool, ite_int, stepA_K, doOp, noOp, lexA_nil, lexA_cons, lexF_nil, lexF_cons, afterDraw, noClash, panIn, lostF, FP.clash, wantedA, evOp, rho, rhoL, ofC0, ofC, argsA, upd, afterRegion, putA, goOp, evBin_add, evBin_sub, evBin_mul, evBin_quo, evBin_rem, evBin_eql, evBin_neq, evBin_lss, evBin_leq, evBin_gtr, evBin_geq, evBin_eqlB, evBin_neqB, evBin_addS, evBin_eqlS, evBin_neqS, evBin_lssS, evBin_leqS, evUn, evConv, evIndex, evBuiltin, evLen, evMin2, evMax2, evCallee, evBox, evLoad, evStore, evFieldAddr, evField, evIndexAddr, evBuild, evBuildSlice, evElems, evSlice, nth, rdc, wrc, fromBody, resA, finRet, oneOf, AV.cells?, AV.isCell, fin_int, fin_bool, fin_str, -AV.cells?, cq_int, cq_str, cq_slice, cq_bool, -evBuild, -evBuildSlice, Tryd.f80, E_esc, i1, i4, i7, hps, h8, h9, h10, h11, h12, hcx, hlx, htx, hex, finPan, hf, z24, c24, a24, k24, i24, tq46_0, tq46_1, tq46_2, tc46, ta46, tk46, ti46, tz46, fq0, fq3, fq4, fq5, c3, a3, k3, i3, c2, a2, k2, i2, c22, a22, k22, i22, bq3, bq2]
                | ok z =>
                  obtain ⟨y, r12⟩ := z
                  rw [e12, ansX_ok] at h12
                  rw [th_ok]
                  have hbs := bS2' x y
                  have hcy := xcells y
                  have hly := xlen y
                  have hty := xtake y
                  have hey := xemb y
                  have h13 : ev Tryd.prog E (n + 5) 75 [.ptr a 0, .str [41]] (PSt H0 T a l (r12) d) = _ := ev_need ha T l hl (n + 1) (r12) d _ _
                  cases e13 : needP (hereT l) [41] (r12) with
                  | error z =>
                    obtain ⟨c', w⟩ := z
                    rw [e13, ansR_err] at h13
                    rw [th_err, ansX_err]
                    have hf := fin_stop H0 T a l p d w c' w
                    generalize PSt H0 T a l (w) d = L0 at *
                    generalize PSt H0 T a l (r12) d = L1 at *
                    generalize PSt H0 T a l (r11) d = L2 at *
                    generalize PSt H0 T a l (r10) d = L3 at *
                    generalize PSt H0 T a l (r9) d = L4 at *
                    generalize PSt H0 T a l (r8) d = L5 at *
                    generalize PSt H0 T a l (p + 1) d = L6 at *
                    generalize PSt H0 T a l (p) d = L7 at *
                    generalize stopV (hereT l) c' w = sv at *
                    generalize x.cells = xc at *
                    generalize x.emb = xe at *
                    generalize y.cells = yc at *
                    generalize y.emb = ye at *
                    simp (disch := first | (simp only [List.length_append, List.length_cons, List.length_nil]; omega) | (simp; done) | assumption) [↓evOp_build, ↓evOp_bslice, evB2_int, evB2_bool, evB2_str, evB2_eqi, evB2_nei, evB2_eqn, evB2_nen, evB2_peq, evB2_pne, evB2_req, evB2_rne, evB2_zeq, evB2_zne, isC_c, isC_t, evAssert, Bool.or_true, Bool.true_or, rhoP_nil, rhoP_cons, evCode_skip, evCode_region, evCode_draw, evCode_seq, evCode_cond, evCode_block, evCode_loop, evCode_exit, evCode_ret, seqK_ite, seqK_none, seqK_norm, seqK_ret, seqK_exit, seqK_pan, condK_true, condK_false, condK_bool, blockK_ite, blockK_none, blockK_norm, blockK_ret, blockK_exit, blockK_pan, stepK_ite, stepK_none, stepK_ok, stepK_pan, drawK_ite, drawK_none, drawK_ok, drawK_pan, opK_ite, opK_none, opK_val, opK_pan, wantK_true, wantK_false, wantK_some, afterRegion_ite, afterDraw_ite, fromBody_ite, ite_bool, ite_int, stepA_K, doOp, noOp, lexA_nil, lexA_cons, lexF_nil, lexF_cons, afterDraw, noClash, panIn, lostF, FP.clash, wantedA, evOp, rho, rhoL, ofC0, ofC, argsA, upd, afterRegion, putA, goOp, evBin_add, evBin_sub, evBin_mul, evBin_quo, evBin_rem, evBin_eql, evBin_neq, evBin_lss, evBin_leq, evBin_gtr, evBin_geq, evBin_eqlB, evBin_neqB, evBin_addS, evBin_eqlS, evBin_neqS, evBin_lssS, evBin_leqS, evUn, evConv, evIndex, evBuiltin, evLen, evMin2, evMax2, evCallee, evBox, evLoad, evStore, evFieldAddr, evField, evIndexAddr, evBuild, evBuildSlice, evElems, evSlice, nth, rdc, wrc, fromBody, resA, finRet, oneOf, AV.cells?, AV.isCell, fin_int, fin_bool, fin_str, -AV.cells?, cq_int, cq_str, cq_slice, cq_bool, -evBuild, -evBuildSlice, Tryd.f80, E_esc, i1, i4, i7, hps, h8, h9, h10, h11, h12, hbs, h13, hcx, hlx, htx, hex, hcy, hly, hty, hey, finPan, hf, z24, c24, a24, k24, i24, tq46_0, tq46_1, tq46_2, tc46, ta46, tk46, ti46, tz46, fq0, fq3, fq4, fq5, c3, a3, k3, i3, c2, a2, k2, i2, c22, a22, k22, i22, bq3, bq2]
                  | ok z =>
                    obtain ⟨_u13, r13⟩ := z
                    rw [e13, ansR_ok] at h13
                    rw [th_ok]
                    rw [ansX_ok]
                    have hf := fin_X H0 T a l p d (r13) (X.mk 24 [] 0 lo hi true [x, y])
                    simp only [mk_emb, embL2] at hf ⊢
                    generalize PSt H0 T a l (r13) d = L0 at *
                    generalize PSt H0 T a l (r12) d = L1 at *
                    generalize PSt H0 T a l (r11) d = L2 at *
                    generalize PSt H0 T a l (r10) d = L3 at *
                    generalize PSt H0 T a l (r9) d = L4 at *
                    generalize PSt H0 T a l (r8) d = L5 at *
                    generalize PSt H0 T a l (p + 1) d = L6 at *
                    generalize PSt H0 T a l (p) d = L7 at *
                    generalize x.cells = xc at *
                    generalize x.emb = xe at *
                    generalize y.cells = yc at *
                    generalize y.emb = ye at *
                    simp (disch := first | (simp only [List.length_append, List.length_cons, List.length_nil]; omega) | (simp; done) | assumption) [↓evOp_build, ↓evOp_bslice, evB2_int, evB2_bool, evB2_str, evB2_eqi, evB2_nei, evB2_eqn, evB2_nen, evB2_peq, evB2_pne, evB2_req, evB2_rne, evB2_zeq, evB2_zne, isC_c, isC_t, evAssert, Bool.or_true, Bool.true_or, rhoP_nil, rhoP_cons, evCode_skip, evCode_region, evCode_draw, evCode_seq, evCode_cond, evCode_block, evCode_loop, evCode_exit, evCode_ret, seqK_ite, seqK_none, seqK_norm, seqK_ret, seqK_exit, seqK_pan, condK_true, condK_false, condK_bool, blockK_ite, blockK_none, blockK_norm, blockK_ret, blockK_exit, blockK_pan, stepK_ite, stepK_none, stepK_ok, stepK_pan, drawK_ite, drawK_none, drawK_ok, drawK_pan, opK_ite, opK_none, opK_val, opK_pan, wantK_true, wantK_false, wantK_some, afterRegion_ite, afterDraw_ite, fromBody_ite, ite_bool, ite_int, stepA_K, doOp, noOp, lexA_nil, lexA_cons, lexF_nil, lexF_cons, afterDraw, noClash, panIn, lostF, FP.clash, wantedA, evOp, rho, rhoL, ofC0, ofC, argsA, upd, afterRegion, putA, goOp, evBin_add, evBin_sub, evBin_mul, evBin_quo, evBin_rem, evBin_eql, evBin_neq, evBin_lss, evBin_leq, evBin_gtr, evBin_geq, evBin_eqlB, evBin_neqB, evBin_addS, evBin_eqlS, evBin_neqS, evBin_lssS, evBin_leqS, evUn, evConv, evIndex, evBuiltin, evLen, evMin2, evMax2, evCallee, evBox, evLoad, evStore, evFieldAddr, evField, evIndexAddr, evBuild, evBuildSlice, evElems, evSlice, nth, rdc, wrc, fromBody, resA, finRet, oneOf, AV.cells?, AV.isCell, fin_int, fin_bool, fin_str, -AV.cells?, cq_int, cq_str, cq_slice, cq_bool, -evBuild, -evBuildSlice, Tryd.f80, E_esc, i1, i4, i7, hps, h8, h9, h10, h11, h12, hbs, h13, hcx, hlx, htx, hex, hcy, hly, hty, hey, hf, z24, c24, a24, k24, i24, tq46_0, tq46_1, tq46_2, tc46, ta46, tk46, ti46, tz46, fq0, fq3, fq4, fq5, c3, a3, k3, i3, c2, a2, k2, i2, c22, a22, k22, i22, bq3, bq2]
      · rw [if_neg b7]
        simp only [Bool.not_eq_true] at b7
        rw [b7] at i7
        simp only [Bool.false_eq_true, if_false] at i7
        rw [ansX_err]
        have hfl := ev_fail ha T l hl (n + 3) (p) d 16
        have hf := fin_stop H0 T a l p d (p) 16 (p)
        generalize PSt H0 T a l (p) d = L0 at *
        generalize stopV (hereT l) 16 (p) = sv at *
        simp (disch := first | (simp only [List.length_append, List.length_cons, List.length_nil]; omega) | (simp; done) | assumption) [↓evOp_build, ↓evOp_bslice, evB2_int, evB2_bool, evB2_str, evB2_eqi, evB2_nei, evB2_eqn, evB2_nen, evB2_peq, evB2_pne, evB2_req, evB2_rne, evB2_zeq, evB2_zne, isC_c, isC_t, evAssert, Bool.or_true, Bool.true_or, rhoP_nil, rhoP_cons, evCode_skip, evCode_region, evCode_draw, evCode_seq, evCode_cond, evCode_block, evCode_loop, evCode_exit, evCode_ret, seqK_ite, seqK_none, seqK_norm, seqK_ret, seqK_exit, seqK_pan, condK_true, condK_false, condK_bool, blockK_ite, blockK_none, blockK_norm, blockK_ret, blockK_exit, blockK_pan, stepK_ite, stepK_none, stepK_ok, stepK_pan, drawK_ite, drawK_none, drawK_ok, drawK_pan, opK_ite, opK_none, opK_val, opK_pan, wantK_true, wantK_false, wantK_some, afterRegion_ite, afterDraw_ite, fromBody_ite, ite_bool, ite_int, stepA_K, doOp, noOp, lexA_nil, lexA_cons, lexF_nil, lexF_cons, afterDraw, noClash, panIn, lostF, FP.clash, wantedA, evOp, rho, rhoL, ofC0, ofC, argsA, upd, afterRegion, putA, goOp, evBin_add, evBin_sub, evBin_mul, evBin_quo, evBin_rem, evBin_eql, evBin_neq, evBin_lss, evBin_leq, evBin_gtr, evBin_geq, evBin_eqlB, evBin_neqB, evBin_addS, evBin_eqlS, evBin_neqS, evBin_lssS, evBin_leqS, evUn, evConv, evIndex, evBuiltin, evLen, evMin2, evMax2, evCallee, evBox, evLoad, evStore, evFieldAddr, evField, evIndexAddr, evBuild, evBuildSlice, evElems, evSlice, nth, rdc, wrc, fromBody, resA, finRet, oneOf, AV.cells?, AV.isCell, fin_int, fin_bool, fin_str, -AV.cells?, cq_int, cq_str, cq_slice, cq_bool, -evBuild, -evBuildSlice, Tryd.f80, E_esc, i1, i4, i7, hfl, finPan, hf, z24, c24, a24, k24, i24, tq46_0, tq46_1, tq46_2, tc46, ta46, tk46, ti46, tz46, fq0, fq3, fq4, fq5, c3, a3, k3, i3, c2, a2, k2, i2, c22, a22, k22, i22, bq3, bq2]
set_option maxHeartbeats 8000000 in
theorem ev72 (n d F : Nat) (one any : Nat → PR X) (h1 : Sub H0 T a l d (n + 6) 69 one) (hs : Sub H0 T a l d (n + 6) 27 any) (hS : Sub H0 T a l d (n + 6) 74 (setP (hereT l) F)) : Sub H0 T a l d (n + 7) 72 (signedP (hereT l) F one any) := by
  intro p
  rw [show n + 7 = (n + 6) + 1 from rfl, ev_enter (n := n + 6) (show E.ok 72 = true from rfl) Tryd.func72 (fn := Tryd.f72) rfl (Nat.le_of_ble_eq_true rfl) (by decide +kernel)]
  unfold signedP
  have i1 : ev Tryd.prog E (n + 6) 44 [.ptr a 0, .str [45]] (PSt H0 T a l (p) d) = _ := ev_is ha T l hl (n + 4) (p) d _ _
  by_cases b1 : isB (hereT l) (p) [45] = true
  · rw [if_pos b1]
    have ilt := is_lt b1
    have ib := b1
    rw [b1] at i1
    simp only [if_true] at i1
    have h2 := h1 (p + 1)
    cases e2 : one (p + 1) with
    | error z =>
      obtain ⟨c', w⟩ := z
      rw [e2, ansX_err] at h2
      rw [th_err, ansX_err]
      have hf := fin_stop H0 T a l p d w c' w
      generalize PSt H0 T a l (w) d = L0 at *
      generalize PSt H0 T a l (p + 1) d = L1 at *
      generalize PSt H0 T a l (p) d = L2 at *
      generalize stopV (hereT l) c' w = sv at *
      simp (disch := first | (simp only [List.length_append, List.length_cons, List.length_nil]; omega) | (simp; done) | assumption) [↓evOp_build, ↓evOp_bslice, evB2_int, evB2_bool, evB2_str, evB2_eqi, evB2_nei, evB2_eqn, evB2_nen, evB2_peq, evB2_pne, evB2_req, evB2_rne, evB2_zeq, evB2_zne, isC_c, isC_t, evAssert, Bool.or_true, Bool.true_or, rhoP_nil, rhoP_cons, evCode_skip, evCode_region, evCode_draw, evCode_seq, evCode_cond, evCode_block, evCode_loop, evCode_exit, evCode_ret, seqK_ite, seqK_none, seqK_norm, seqK_ret, seqK_exit, seqK_pan, condK_true, condK_false, condK_bool, blockK_ite, blockK_none, blockK_norm, blockK_ret, blockK_exit, blockK_pan, stepK_ite, stepK_none, stepK_ok, stepK_pan, drawK_ite, drawK_none, drawK_ok, drawK_pan, opK_ite, opK_none, opK_val, opK_pan, wantK_true, wantK_false, wantK_some, afterRegion_ite, afterDraw_ite, fromBody_ite, ite_bool, ite_int, stepA_K, doOp, noOp, lexA_nil, lexA_cons, lexF_nil, lexF_cons, afterDraw, noClash, panIn, lostF, FP.clash, wantedA, evOp, rho, rhoL, ofC0, ofC, argsA, upd, afterRegion, putA, goOp, evBin_add, evBin_sub, evBin_mul, evBin_quo, evBin_rem, evBin_eql, evBin_neq, evBin_lss, evBin_leq, evBin_gtr, evBin_geq, evBin_eqlB, evBin_neqB, evBin_addS, evBin_eqlS, evBin_neqS, evBin_lssS, evBin_leqS, evUn, evConv, evIndex, evBuiltin, evLen, evMin2, evMax2, evCallee, evBox, evLoad, evStore, evFieldAddr, evField, evIndexAddr, evBuild, evBuildSlice, evElems, evSlice, nth, rdc, wrc, fromBody, resA, finRet, oneOf, AV.cells?, AV.isCell, fin_int, fin_bool, fin_str, -AV.cells?, cq_int, cq_str, cq_slice, cq_bool, -evBuild, -evBuildSlice, Tryd.f72, E_esc, i1, h2, finPan, hf, z24, c24, a24, k24, i24, tq46_0, tq46_1, tq46_2, tc46, ta46, tk46, ti46, tz46, fq0, fq3, fq4, fq5, c3, a3, k3, i3, c2, a2, k2, i2, c22, a22, k22, i22, bq3, bq2]
    | ok z =>
      obtain ⟨x, r2⟩ := z
      rw [e2, ansX_ok] at h2
      rw [th_ok]
      have hcx := xcells x
      have hlx := xlen x
      have htx := xtake x
      have hex := xemb x
      rw [ansX_ok]
      have hf := fin_X H0 T a l p d (r2) (oneX 11 x)
      have ho := fun S => ev_one1 (n + 5) 11 x S
      have hcz := xcells (oneX 11 x)
      have hlz := xlen (oneX 11 x)
      have htz := xtake (oneX 11 x)
      have hez := xemb (oneX 11 x)
      generalize (oneX 11 x).cells = zc at *
      generalize (oneX 11 x).emb = ze at *
      generalize PSt H0 T a l (r2) d = L0 at *
      generalize PSt H0 T a l (p + 1) d = L1 at *
      generalize PSt H0 T a l (p) d = L2 at *
      generalize x.cells = xc at *
      generalize x.emb = xe at *
      simp (disch := first | (simp only [List.length_append, List.length_cons, List.length_nil]; omega) | (simp; done) | assumption) [↓evOp_build, ↓evOp_bslice, evB2_int, evB2_bool, evB2_str, evB2_eqi, evB2_nei, evB2_eqn, evB2_nen, evB2_peq, evB2_pne, evB2_req, evB2_rne, evB2_zeq, evB2_zne, isC_c, isC_t, evAssert, Bool.or_true, Bool.true_or, rhoP_nil, rhoP_cons, evCode_skip, evCode_region, evCode_draw, evCode_seq, evCode_cond, evCode_block, evCode_loop, evCode_exit, evCode_ret, seqK_ite, seqK_none, seqK_norm, seqK_ret, seqK_exit, seqK_pan, condK_true, condK_false, condK_bool, blockK_ite, blockK_none, blockK_norm, blockK_ret, blockK_exit, blockK_pan, stepK_ite, stepK_none, stepK_ok, stepK_pan, drawK_ite, drawK_none, drawK_ok, drawK_pan, opK_ite, opK_none, opK_val, opK_pan, wantK_true, wantK_false, wantK_some, afterRegion_ite, afterDraw_ite, fromBody_ite, ite_bool, ite_int, stepA_K, doOp, noOp, lexA_nil, lexA_cons, lexF_nil, lexF_cons, afterDraw, noClash, panIn, lostF, FP.clash, wantedA, evOp, rho, rhoL, ofC0, ofC, argsA, upd, afterRegion, putA, goOp, evBin_add, evBin_sub, evBin_mul, evBin_quo, evBin_rem, evBin_eql, evBin_neq, evBin_lss, evBin_leq, evBin_gtr, evBin_geq, evBin_eqlB, evBin_neqB, evBin_addS, evBin_eqlS, evBin_neqS, evBin_lssS, evBin_leqS, evUn, evConv, evIndex, evBuiltin, evLen, evMin2, evMax2, evCallee, evBox, evLoad, evStore, evFieldAddr, evField, evIndexAddr, evBuild, evBuildSlice, evElems, evSlice, nth, rdc, wrc, fromBody, resA, finRet, oneOf, AV.cells?, AV.isCell, fin_int, fin_bool, fin_str, -AV.cells?, cq_int, cq_str, cq_slice, cq_bool, -evBuild, -evBuildSlice, Tryd.f72, E_esc, i1, h2, hcx, hlx, htx, hex, ho, hcz, hlz, htz, hez, hf, z24, c24, a24, k24, i24, tq46_0, tq46_1, tq46_2, tc46, ta46, tk46, ti46, tz46, fq0, fq3, fq4, fq5, c3, a3, k3, i3, c2, a2, k2, i2, c22, a22, k22, i22, bq3, bq2]
  · rw [if_neg b1]
    simp only [Bool.not_eq_true] at b1
    rw [b1] at i1
    simp only [Bool.false_eq_true, if_false] at i1
    have i3 : ev Tryd.prog E (n + 6) 44 [.ptr a 0, .str [123]] (PSt H0 T a l (p) d) = _ := ev_is ha T l hl (n + 4) (p) d _ _
    by_cases b3 : isB (hereT l) (p) [123] = true
    · rw [if_pos b3]
      have ilt := is_lt b3
      have ib := b3
      rw [b3] at i3
      simp only [if_true] at i3
      have h4 := hS (p + 1)
      cases e4 : setP (hereT l) F (p + 1) with
      | error z =>
        obtain ⟨c', w⟩ := z
        rw [e4, ansX_err] at h4
        rw [ansX_err]
        have hf := fin_stop H0 T a l p d w c' w
        generalize PSt H0 T a l (w) d = L0 at *
        generalize PSt H0 T a l (p + 1) d = L1 at *
        generalize PSt H0 T a l (p) d = L2 at *
        generalize stopV (hereT l) c' w = sv at *
        simp (disch := first | (simp only [List.length_append, List.length_cons, List.length_nil]; omega) | (simp; done) | assumption) [↓evOp_build, ↓evOp_bslice, evB2_int, evB2_bool, evB2_str, evB2_eqi, evB2_nei, evB2_eqn, evB2_nen, evB2_peq, evB2_pne, evB2_req, evB2_rne, evB2_zeq, evB2_zne, isC_c, isC_t, evAssert, Bool.or_true, Bool.true_or, rhoP_nil, rhoP_cons, evCode_skip, evCode_region, evCode_draw, evCode_seq, evCode_cond, evCode_block, evCode_loop, evCode_exit, evCode_ret, seqK_ite, seqK_none, seqK_norm, seqK_ret, seqK_exit, seqK_pan, condK_true, condK_false, condK_bool, blockK_ite, blockK_none, blockK_norm, blockK_ret, blockK_exit, blockK_pan, stepK_ite, stepK_none, stepK_ok, stepK_pan, drawK_ite, drawK_none, drawK_ok, drawK_pan, opK_ite, opK_none, opK_val, opK_pan, wantK_true, wantK_false, wantK_some, afterRegion_ite, afterDraw_ite, fromBody_ite, ite_bool, ite_int, stepA_K, doOp, noOp, lexA_nil, lexA_cons, lexF_nil, lexF_cons, afterDraw, noClash, panIn, lostF, FP.clash, wantedA, evOp, rho, rhoL, ofC0, ofC, argsA, upd, afterRegion, putA, goOp, evBin_add, evBin_sub, evBin_mul, evBin_quo, evBin_rem, evBin_eql, evBin_neq, evBin_lss, evBin_leq, evBin_gtr, evBin_geq, evBin_eqlB, evBin_neqB, evBin_addS, evBin_eqlS, evBin_neqS, evBin_lssS, evBin_leqS, evUn, evConv, evIndex, evBuiltin, evLen, evMin2, evMax2, evCallee, evBox, evLoad, evStore, evFieldAddr, evField, evIndexAddr, evBuild, evBuildSlice, evElems, evSlice, nth, rdc, wrc, fromBody, resA, finRet, oneOf, AV.cells?, AV.isCell, fin_int, fin_bool, fin_str, -AV.cells?, cq_int, cq_str, cq_slice, cq_bool, -evBuild, -evBuildSlice, Tryd.f72, E_esc, i1, i3, h4, finPan, hf, z24, c24, a24, k24, i24, tq46_0, tq46_1, tq46_2, tc46, ta46, tk46, ti46, tz46, fq0, fq3, fq4, fq5, c3, a3, k3, i3, c2, a2, k2, i2, c22, a22, k22, i22, bq3, bq2]
      | ok z =>
        obtain ⟨x, r4⟩ := z
        rw [e4, ansX_ok] at h4
        have hcx := xcells x
        have hlx := xlen x
        have htx := xtake x
        have hex := xemb x
        rw [ansX_ok]
        have hf := fin_X H0 T a l p d (r4) (x)
        generalize PSt H0 T a l (r4) d = L0 at *
        generalize PSt H0 T a l (p + 1) d = L1 at *
        generalize PSt H0 T a l (p) d = L2 at *
        generalize x.cells = xc at *
        generalize x.emb = xe at *
        simp (disch := first | (simp only [List.length_append, List.length_cons, List.length_nil]; omega) | (simp; done) | assumption) [↓evOp_build, ↓evOp_bslice, evB2_int, evB2_bool, evB2_str, evB2_eqi, evB2_nei, evB2_eqn, evB2_nen, evB2_peq, evB2_pne, evB2_req, evB2_rne, evB2_zeq, evB2_zne, isC_c, isC_t, evAssert, Bool.or_true, Bool.true_or, rhoP_nil, rhoP_cons, evCode_skip, evCode_region, evCode_draw, evCode_seq, evCode_cond, evCode_block, evCode_loop, evCode_exit, evCode_ret, seqK_ite, seqK_none, seqK_norm, seqK_ret, seqK_exit, seqK_pan, condK_true, condK_false, condK_bool, blockK_ite, blockK_none, blockK_norm, blockK_ret, blockK_exit, blockK_pan, stepK_ite, stepK_none, stepK_ok, stepK_pan, drawK_ite, drawK_none, drawK_ok, drawK_pan, opK_ite, opK_none, opK_val, opK_pan, wantK_true, wantK_false, wantK_some, afterRegion_ite, afterDraw_ite, fromBody_ite, ite_bool, ite_int, stepA_K, doOp, noOp, lexA_nil, lexA_cons, lexF_nil, lexF_cons, afterDraw, noClash, panIn, lostF, FP.clash, wantedA, evOp, rho, rhoL, ofC0, ofC, argsA, upd, afterRegion, putA, goOp, evBin_add, evBin_sub, evBin_mul, evBin_quo, evBin_rem, evBin_eql, evBin_neq, evBin_lss, evBin_leq, evBin_gtr, evBin_geq, evBin_eqlB, evBin_neqB, evBin_addS, evBin_eqlS, evBin_neqS, evBin_lssS, evBin_leqS, evUn, evConv, evIndex, evBuiltin, evLen, evMin2, evMax2, evCallee, evBox, evLoad, evStore, evFieldAddr, evField, evIndexAddr, evBuild, evBuildSlice, evElems, evSlice, nth, rdc, wrc, fromBody, resA, finRet, oneOf, AV.cells?, AV.isCell, fin_int, fin_bool, fin_str, -AV.cells?, cq_int, cq_str, cq_slice, cq_bool, -evBuild, -evBuildSlice, Tryd.f72, E_esc, i1, i3, h4, hcx, hlx, htx, hex, hf, z24, c24, a24, k24, i24, tq46_0, tq46_1, tq46_2, tc46, ta46, tk46, ti46, tz46, fq0, fq3, fq4, fq5, c3, a3, k3, i3, c2, a2, k2, i2, c22, a22, k22, i22, bq3, bq2]
    · rw [if_neg b3]
      simp only [Bool.not_eq_true] at b3
      rw [b3] at i3
      simp only [Bool.false_eq_true, if_false] at i3
      unfold argP
      have h5 : ev Tryd.prog E (n + 6) 75 [.ptr a 0, .str [40]] (PSt H0 T a l (p) d) = _ := ev_need ha T l hl (n + 2) (p) d _ _
      cases e5 : needP (hereT l) [40] (p) with
      | error z =>
        obtain ⟨c', w⟩ := z
        rw [e5, ansR_err] at h5
        rw [th_err, ansX_err]
        have hf := fin_stop H0 T a l p d w c' w
        generalize PSt H0 T a l (w) d = L0 at *
        generalize PSt H0 T a l (p) d = L1 at *
        generalize stopV (hereT l) c' w = sv at *
        simp (disch := first | (simp only [List.length_append, List.length_cons, List.length_nil]; omega) | (simp; done) | assumption) [↓evOp_build, ↓evOp_bslice, evB2_int, evB2_bool, evB2_str, evB2_eqi, evB2_nei, evB2_eqn, evB2_nen, evB2_peq, evB2_pne, evB2_req, evB2_rne, evB2_zeq, evB2_zne, isC_c, isC_t, evAssert, Bool.or_true, Bool.true_or, rhoP_nil, rhoP_cons, evCode_skip, evCode_region, evCode_draw, evCode_seq, evCode_cond, evCode_block, evCode_loop, evCode_exit, evCode_ret, seqK_ite, seqK_none, seqK_norm, seqK_ret, seqK_exit, seqK_pan, condK_true, condK_false, condK_bool, blockK_ite, blockK_none, blockK_norm, blockK_ret, blockK_exit, blockK_pan, stepK_ite, stepK_none, stepK_ok, stepK_pan, drawK_ite, drawK_none, drawK_ok, drawK_pan, opK_ite, opK_none, opK_val, opK_pan, wantK_true, wantK_false, wantK_some, afterRegion_ite, afterDraw_ite, fromBody_ite, ite_bool, ite_int, stepA_K, doOp, noOp, lexA_nil, lexA_cons, lexF_nil, lexF_cons, afterDraw, noClash, panIn, lostF, FP.clash, wantedA, evOp, rho, rhoL, ofC0, ofC, argsA, upd, afterRegion, putA, goOp, evBin_add, evBin_sub, evBin_mul, evBin_quo, evBin_rem, evBin_eql, evBin_neq, evBin_lss, evBin_leq, evBin_gtr, evBin_geq, evBin_eqlB, evBin_neqB, evBin_addS, evBin_eqlS, evBin_neqS, evBin_lssS, evBin_leqS, evUn, evConv, evIndex, evBuiltin, evLen, evMin2, evMax2, evCallee, evBox, evLoad, evStore, evFieldAddr, evField, evIndexAddr, evBuild, evBuildSlice, evElems, evSlice, nth, rdc, wrc, fromBody, resA, finRet, oneOf, AV.cells?, AV.isCell, fin_int, fin_bool, fin_str, -AV.cells?, cq_int, cq_str, cq_slice, cq_bool, -evBuild, -evBuildSlice, Tryd.f72, E_esc, i1, i3, h5, finPan, hf, z24, c24, a24, k24, i24, tq46_0, tq46_1, tq46_2, tc46, ta46, tk46, ti46, tz46, fq0, fq3, fq4, fq5, c3, a3, k3, i3, c2, a2, k2, i2, c22, a22, k22, i22, bq3, bq2]
      | ok z =>
        obtain ⟨_u5, r5⟩ := z
        rw [e5, ansR_ok] at h5
        rw [th_ok]
        have h6 := hs (r5)
        cases e6 : any (r5) with
        | error z =>
          obtain ⟨c', w⟩ := z
          rw [e6, ansX_err] at h6
          rw [th_err, ansX_err]
          have hf := fin_stop H0 T a l p d w c' w
          generalize PSt H0 T a l (w) d = L0 at *
          generalize PSt H0 T a l (r5) d = L1 at *
          generalize PSt H0 T a l (p) d = L2 at *
          generalize stopV (hereT l) c' w = sv at *
          simp (disch := first | (simp only [List.length_append, List.length_cons, List.length_nil]; omega) | (simp; done) | assumption) [↓evOp_build, ↓evOp_bslice, evB2_int, evB2_bool, evB2_str, evB2_eqi, evB2_nei, evB2_eqn, evB2_nen, evB2_peq, evB2_pne, evB2_req, evB2_rne, evB2_zeq, evB2_zne, isC_c, isC_t, evAssert, Bool.or_true, Bool.true_or, rhoP_nil, rhoP_cons, evCode_skip, evCode_region, evCode_draw, evCode_seq, evCode_cond, evCode_block, evCode_loop, evCode_exit, evCode_ret, seqK_ite, seqK_none, seqK_norm, seqK_ret, seqK_exit, seqK_pan, condK_true, condK_false, condK_bool, blockK_ite, blockK_none, blockK_norm, blockK_ret, blockK_exit, blockK_pan, stepK_ite, stepK_none, stepK_ok, stepK_pan, drawK_ite, drawK_none, drawK_ok, drawK_pan, opK_ite, opK_none, opK_val, opK_pan, wantK_true, wantK_false, wantK_some, afterRegion_ite, afterDraw_ite, fromBody_ite, ite_bool, ite_int, stepA_K, doOp, noOp, lexA_nil, lexA_cons, lexF_nil, lexF_cons, afterDraw, noClash, panIn, lostF, FP.clash, wantedA, evOp, rho, rhoL, ofC0, ofC, argsA, upd, afterRegion, putA, goOp, evBin_add, evBin_sub, evBin_mul, evBin_quo, evBin_rem, evBin_eql, evBin_neq, evBin_lss, evBin_leq, evBin_gtr, evBin_geq, evBin_eqlB, evBin_neqB, evBin_addS, evBin_eqlS, evBin_neqS, evBin_lssS, evBin_leqS, evUn, evConv, evIndex, evBuiltin, evLen, evMin2, evMax2, evCallee, evBox, evLoad, evStore, evFieldAddr, evField, evIndexAddr, evBuild, evBuildSlice, evElems, evSlice, nth, rdc, wrc, fromBody, resA, finRet, oneOf, AV.cells?, AV.isCell, fin_int, fin_bool, fin_str, -AV.cells?, cq_int, cq_str, cq_slice, cq_bool, -evBuild, -evBuildSlice, Tryd.f72, E_esc, i1, i3, h5, h6, finPan, hf, z24, c24, a24, k24, i24, tq46_0, tq46_1, tq46_2, tc46, ta46, tk46, ti46, tz46, fq0, fq3, fq4, fq5, c3, a3, k3, i3, c2, a2, k2, i2, c22, a22, k22, i22, bq3, bq2]
        | ok z =>
          obtain ⟨x, r6⟩ := z
          rw [e6, ansX_ok] at h6
          rw [th_ok]
          have hcx := xcells x
          have hlx := xlen x
          have htx := xtake x
          have hex := xemb x
          have h7 : ev Tryd.prog E (n + 6) 75 [.ptr a 0, .str [41]] (PSt H0 T a l (r6) d) = _ := ev_need ha T l hl (n + 2) (r6) d _ _
          cases e7 : needP (hereT l) [41] (r6) with
          | error z =>
            obtain ⟨c', w⟩ := z
            rw [e7, ansR_err] at h7
            rw [th_err, ansX_err]
            have hf := fin_stop H0 T a l p d w c' w
            generalize PSt H0 T a l (w) d = L0 at *
            generalize PSt H0 T a l (r6) d = L1 at *
            generalize PSt H0 T a l (r5) d = L2 at *
            generalize PSt H0 T a l (p) d = L3 at *
            generalize stopV (hereT l) c' w = sv at *
            generalize x.cells = xc at *
            generalize x.emb = xe at *
            simp (disch := first | (simp only [List.length_append, List.length_cons, List.length_nil]; omega) | (simp; done) | assumption) [↓evOp_build, ↓evOp_bslice, evB2_int, evB2_bool, evB2_str, evB2_eqi, evB2_nei, evB2_eqn, evB2_nen, evB2_peq, evB2_pne, evB2_req, evB2_rne, evB2_zeq, evB2_zne, isC_c, isC_t, evAssert, Bool.or_true, Bool.true_or, rhoP_nil, rhoP_cons, evCode_skip, evCode_region, evCode_draw, evCode_seq, evCode_cond, evCode_block, evCode_loop, evCode_exit, evCode_ret, seqK_ite, seqK_none, seqK_norm, seqK_ret, seqK_exit, seqK_pan, condK_true, condK_false, condK_bool, blockK_ite, blockK_none, blockK_norm, blockK_ret, blockK_exit, blockK_pan, stepK_ite, stepK_none, stepK_ok, stepK_pan, drawK_ite, drawK_none, drawK_ok, drawK_pan, opK_ite, opK_none, opK_val, opK_pan, wantK_true, wantK_false, wantK_some, afterRegion_ite, afterDraw_ite, fromBody_ite, ite_bool, ite_int, stepA_K, doOp, noOp, lexA_nil, lexA_cons, lexF_nil, lexF_cons, afterDraw, noClash, panIn, lostF, FP.clash, wantedA, evOp, rho, rhoL, ofC0, ofC, argsA, upd, afterRegion, putA, goOp, evBin_add, evBin_sub, evBin_mul, evBin_quo, evBin_rem, evBin_eql, evBin_neq, evBin_lss, evBin_leq, evBin_gtr, evBin_geq, evBin_eqlB, evBin_neqB, evBin_addS, evBin_eqlS, evBin_neqS, evBin_lssS, evBin_leqS, evUn, evConv, evIndex, evBuiltin, evLen, evMin2, evMax2, evCallee, evBox, evLoad, evStore, evFieldAddr, evField, evIndexAddr, evBuild, evBuildSlice, evElems, evSlice, nth, rdc, wrc, fromBody, resA, finRet, oneOf, AV.cells?, AV.isCell, fin_int, fin_bool, fin_str, -AV.cells?, cq_int, cq_str, cq_slice, cq_bool, -evBuild, -evBuildSlice, Tryd.f72, E_esc, i1, i3, h5, h6, h7, hcx, hlx, htx, hex, finPan, hf, z24, c24, a24, k24, i24, tq46_0, tq46_1, tq46_2, tc46, ta46, tk46, ti46, tz46, fq0, fq3, fq4, fq5, c3, a3, k3, i3, c2, a2, k2, i2, c22, a22, k22, i22, bq3, bq2]
          | ok z =>
            obtain ⟨_u7, r7⟩ := z
            rw [e7, ansR_ok] at h7
            rw [th_ok]
            rw [ansX_ok]
            have hf := fin_X H0 T a l p d (r7) (x)
            generalize PSt H0 T a l (r7) d = L0 at *
            generalize PSt H0 T a l (r6) d = L1 at *
            generalize PSt H0 T a l (r5) d = L2 at *
            generalize PSt H0 T a l (p) d = L3 at *
            generalize x.cells = xc at *
            generalize x.emb = xe at *
            simp (disch := first | (simp only [List.length_append, List.length_cons, List.length_nil]; omega) | (simp; done) | assumption) [↓evOp_build, ↓evOp_bslice, evB2_int, evB2_bool, evB2_str, evB2_eqi, evB2_nei, evB2_eqn, evB2_nen, evB2_peq, evB2_pne, evB2_req, evB2_rne, evB2_zeq, evB2_zne, isC_c, isC_t, evAssert, Bool.or_true, Bool.true_or, rhoP_nil, rhoP_cons, evCode_skip, evCode_region, evCode_draw, evCode_seq, evCode_cond, evCode_block, evCode_loop, evCode_exit, evCode_ret, seqK_ite, seqK_none, seqK_norm, seqK_ret, seqK_exit, seqK_pan, condK_true, condK_false, condK_bool, blockK_ite, blockK_none, blockK_norm, blockK_ret, blockK_exit, blockK_pan, stepK_ite, stepK_none, stepK_ok, stepK_pan, drawK_ite, drawK_none, drawK_ok, drawK_pan, opK_ite, opK_none, opK_val, opK_pan, wantK_true, wantK_false, wantK_some, afterRegion_ite, afterDraw_ite, fromBody_ite, ite_bool, ite_int, stepA_K, doOp, noOp, lexA_nil, lexA_cons, lexF_nil, lexF_cons, afterDraw, noClash, panIn, lostF, FP.clash, wantedA, evOp, rho, rhoL, ofC0, ofC, argsA, upd, afterRegion, putA, goOp, evBin_add, evBin_sub, evBin_mul, evBin_quo, evBin_rem, evBin_eql, evBin_neq, evBin_lss, evBin_leq, evBin_gtr, evBin_geq, evBin_eqlB, evBin_neqB, evBin_addS, evBin_eqlS, evBin_neqS, evBin_lssS, evBin_leqS, evUn, evConv, evIndex, evBuiltin, evLen, evMin2, evMax2, evCallee, evBox, evLoad, evStore, evFieldAddr, evField, evIndexAddr, evBuild, evBuildSlice, evElems, evSlice, nth, rdc, wrc, fromBody, resA, finRet, oneOf, AV.cells?, AV.isCell, fin_int, fin_bool, fin_str, -AV.cells?, cq_int, cq_str, cq_slice, cq_bool, -evBuild, -evBuildSlice, Tryd.f72, E_esc, i1, i3, h5, h6, h7, hcx, hlx, htx, hex, hf, z24, c24, a24, k24, i24, tq46_0, tq46_1, tq46_2, tc46, ta46, tk46, ti46, tz46, fq0, fq3, fq4, fq5, c3, a3, k3, i3, c2, a2, k2, i2, c22, a22, k22, i22, bq3, bq2]
set_option maxHeartbeats 16000000 in
theorem ev73 (n d : Nat) (one any : Nat → PR X) (h1 : Sub H0 T a l d (n + 6) 69 one) (hA : Sub H0 T a l d (n + 6) 79 (argP (hereT l) any)) (hT : Sub H0 T a l d (n + 6) 80 (timedP (hereT l) any)) : Sub H0 T a l d (n + 7) 73 (namedP (hereT l) one any) := by
  intro p
  rw [show n + 7 = (n + 6) + 1 from rfl, ev_enter (n := n + 6) (show E.ok 73 = true from rfl) Tryd.func73 (fn := Tryd.f73) rfl (Nat.le_of_ble_eq_true rfl) (by decide +kernel)]
  unfold namedP
  have i1 : ev Tryd.prog E (n + 6) 44 [.ptr a 0, .str [116, 114, 117, 101]] (PSt H0 T a l (p) d) = _ := ev_is ha T l hl (n + 4) (p) d _ _
  by_cases b1 : isB (hereT l) (p) [116, 114, 117, 101] = true
  · rw [if_pos b1]
    have ilt := is_lt b1
    have ib := b1
    rw [b1] at i1
    simp only [if_true] at i1
    rw [ansX_ok]
    have hf := fin_X H0 T a l p d (p + 1) (leafX 2 [] 1 0)
    have ht0 := ev_truth (n + 5) 1 (PSt H0 T a l (p + 1) d)
    have hcz := xcells (leafX 2 [] 1 0)
    have hlz := xlen (leafX 2 [] 1 0)
    have htz := xtake (leafX 2 [] 1 0)
    have hez := xemb (leafX 2 [] 1 0)
    generalize (leafX 2 [] 1 0).cells = zc at *
    generalize (leafX 2 [] 1 0).emb = ze at *
    generalize PSt H0 T a l (p + 1) d = L0 at *
    generalize PSt H0 T a l (p) d = L1 at *
    simp (disch := first | (simp only [List.length_append, List.length_cons, List.length_nil]; omega) | (simp; done) | assumption) [↓evOp_build, ↓evOp_bslice, evB2_int, evB2_bool, evB2_str, evB2_eqi, evB2_nei, evB2_eqn, evB2_nen, evB2_peq, evB2_pne, evB2_req, evB2_rne, evB2_zeq, evB2_zne, isC_c, isC_t, evAssert, Bool.or_true, Bool.true_or, rhoP_nil, rhoP_cons, evCode_skip, evCode_region, evCode_draw, evCode_seq, evCode_cond, evCode_block, evCode_loop, evCode_exit, evCode_ret, seqK_ite, seqK_none, seqK_norm, seqK_ret, seqK_exit, seqK_pan, condK_true, condK_false, condK_bool, blockK_ite, blockK_none, blockK_norm, blockK_ret, blockK_exit, blockK_pan, stepK_ite, stepK_none, stepK_ok, stepK_pan, drawK_ite, drawK_none, drawK_ok, drawK_pan, opK_ite, opK_none, opK_val, opK_pan, wantK_true, wantK_false, wantK_some, afterRegion_ite, afterDraw_ite, fromBody_ite, ite_bool, ite_int, stepA_K, doOp, noOp, lexA_nil, lexA_cons, lexF_nil, lexF_cons, afterDraw, noClash, panIn, lostF, FP.clash, wantedA, evOp, rho, rhoL, ofC0, ofC, argsA, upd, afterRegion, putA, goOp, evBin_add, evBin_sub, evBin_mul, evBin_quo, evBin_rem, evBin_eql, evBin_neq, evBin_lss, evBin_leq, evBin_gtr, evBin_geq, evBin_eqlB, evBin_neqB, evBin_addS, evBin_eqlS, evBin_neqS, evBin_lssS, evBin_leqS, evUn, evConv, evIndex, evBuiltin, evLen, evMin2, evMax2, evCallee, evBox, evLoad, evStore, evFieldAddr, evField, evIndexAddr, evBuild, evBuildSlice, evElems, evSlice, nth, rdc, wrc, fromBody, resA, finRet, oneOf, AV.cells?, AV.isCell, fin_int, fin_bool, fin_str, -AV.cells?, cq_int, cq_str, cq_slice, cq_bool, -evBuild, -evBuildSlice, Tryd.f73, E_esc, i1, ht0, hcz, hlz, htz, hez, hf, z24, c24, a24, k24, i24, tq46_0, tq46_1, tq46_2, tc46, ta46, tk46, ti46, tz46, fq0, fq3, fq4, fq5, c3, a3, k3, i3, c2, a2, k2, i2, c22, a22, k22, i22, bq3, bq2]
  · rw [if_neg b1]
    simp only [Bool.not_eq_true] at b1
    rw [b1] at i1
    simp only [Bool.false_eq_true, if_false] at i1
    have i2 : ev Tryd.prog E (n + 6) 44 [.ptr a 0, .str [102, 97, 108, 115, 101]] (PSt H0 T a l (p) d) = _ := ev_is ha T l hl (n + 4) (p) d _ _
    by_cases b2 : isB (hereT l) (p) [102, 97, 108, 115, 101] = true
    · rw [if_pos b2]
      have ilt := is_lt b2
      have ib := b2
      rw [b2] at i2
      simp only [if_true] at i2
      rw [ansX_ok]
      have hf := fin_X H0 T a l p d (p + 1) (leafX 2 [] 0 0)
      have ht0 := ev_truth (n + 5) 0 (PSt H0 T a l (p + 1) d)
      have hcz := xcells (leafX 2 [] 0 0)
      have hlz := xlen (leafX 2 [] 0 0)
      have htz := xtake (leafX 2 [] 0 0)
      have hez := xemb (leafX 2 [] 0 0)
      generalize (leafX 2 [] 0 0).cells = zc at *
      generalize (leafX 2 [] 0 0).emb = ze at *
      generalize PSt H0 T a l (p + 1) d = L0 at *
      generalize PSt H0 T a l (p) d = L1 at *
      simp (disch := first | (simp only [List.length_append, List.length_cons, List.length_nil]; omega) | (simp; done) | assumption) [↓evOp_build, ↓evOp_bslice, evB2_int, evB2_bool, evB2_str, evB2_eqi, evB2_nei, evB2_eqn, evB2_nen, evB2_peq, evB2_pne, evB2_req, evB2_rne, evB2_zeq, evB2_zne, isC_c, isC_t, evAssert, Bool.or_true, Bool.true_or, rhoP_nil, rhoP_cons, evCode_skip, evCode_region, evCode_draw, evCode_seq, evCode_cond, evCode_block, evCode_loop, evCode_exit, evCode_ret, seqK_ite, seqK_none, seqK_norm, seqK_ret, seqK_exit, seqK_pan, condK_true, condK_false, condK_bool, blockK_ite, blockK_none, blockK_norm, blockK_ret, blockK_exit, blockK_pan, stepK_ite, stepK_none, stepK_ok, stepK_pan, drawK_ite, drawK_none, drawK_ok, drawK_pan, opK_ite, opK_none, opK_val, opK_pan, wantK_true, wantK_false, wantK_some, afterRegion_ite, afterDraw_ite, fromBody_ite, ite_bool, ite_int, stepA_K, doOp, noOp, lexA_nil, lexA_cons, lexF_nil, lexF_cons, afterDraw, noClash, panIn, lostF, FP.clash, wantedA, evOp, rho, rhoL, ofC0, ofC, argsA, upd, afterRegion, putA, goOp, evBin_add, evBin_sub, evBin_mul, evBin_quo, evBin_rem, evBin_eql, evBin_neq, evBin_lss, evBin_leq, evBin_gtr, evBin_geq, evBin_eqlB, evBin_neqB, evBin_addS, evBin_eqlS, evBin_neqS, evBin_lssS, evBin_leqS, evUn, evConv, evIndex, evBuiltin, evLen, evMin2, evMax2, evCallee, evBox, evLoad, evStore, evFieldAddr, evField, evIndexAddr, evBuild, evBuildSlice, evElems, evSlice, nth, rdc, wrc, fromBody, resA, finRet, oneOf, AV.cells?, AV.isCell, fin_int, fin_bool, fin_str, -AV.cells?, cq_int, cq_str, cq_slice, cq_bool, -evBuild, -evBuildSlice, Tryd.f73, E_esc, i1, i2, ht0, hcz, hlz, htz, hez, hf, z24, c24, a24, k24, i24, tq46_0, tq46_1, tq46_2, tc46, ta46, tk46, ti46, tz46, fq0, fq3, fq4, fq5, c3, a3, k3, i3, c2, a2, k2, i2, c22, a22, k22, i22, bq3, bq2]
    · rw [if_neg b2]
      simp only [Bool.not_eq_true] at b2
      rw [b2] at i2
      simp only [Bool.false_eq_true, if_false] at i2
      have i3 : ev Tryd.prog E (n + 6) 44 [.ptr a 0, .str [110, 111, 119]] (PSt H0 T a l (p) d) = _ := ev_is ha T l hl (n + 4) (p) d _ _
      by_cases b3 : isB (hereT l) (p) [110, 111, 119] = true
      · rw [if_pos b3]
        have ilt := is_lt b3
        have ib := b3
        rw [b3] at i3
        simp only [if_true] at i3
        rw [ansX_ok]
        have hf := fin_X H0 T a l p d (p + 1) (leafX 7 [] 0 0)
        have hb0 := bX0 7
        have hcz := xcells (leafX 7 [] 0 0)
        have hlz := xlen (leafX 7 [] 0 0)
        have htz := xtake (leafX 7 [] 0 0)
        have hez := xemb (leafX 7 [] 0 0)
        generalize (leafX 7 [] 0 0).cells = zc at *
        generalize (leafX 7 [] 0 0).emb = ze at *
        generalize PSt H0 T a l (p + 1) d = L0 at *
        generalize PSt H0 T a l (p) d = L1 at *
        simp (disch := first | (simp only [List.length_append, List.length_cons, List.length_nil]; omega) | (simp; done) | assumption) [↓evOp_build, ↓evOp_bslice, evB2_int, evB2_bool, evB2_str, evB2_eqi, evB2_nei, evB2_eqn, evB2_nen, evB2_peq, evB2_pne, evB2_req, evB2_rne, evB2_zeq, evB2_zne, isC_c, isC_t, evAssert, Bool.or_true, Bool.true_or, rhoP_nil, rhoP_cons, evCode_skip, evCode_region, evCode_draw, evCode_seq, evCode_cond, evCode_block, evCode_loop, evCode_exit, evCode_ret, seqK_ite, seqK_none, seqK_norm, seqK_ret, seqK_exit, seqK_pan, condK_true, condK_false, condK_bool, blockK_ite, blockK_none, blockK_norm, blockK_ret, blockK_exit, blockK_pan, stepK_ite, stepK_none, stepK_ok, stepK_pan, drawK_ite, drawK_none, drawK_ok, drawK_pan, opK_ite, opK_none, opK_val, opK_pan, wantK_true, wantK_false, wantK_some, afterRegion_ite, afterDraw_ite, fromBody_ite, ite_bool, ite_int, stepA_K, doOp, noOp, lexA_nil, lexA_cons, lexF_nil, lexF_cons, afterDraw, noClash, panIn, lostF, FP.clash, wantedA, evOp, rho, rhoL, ofC0, ofC, argsA, upd, afterRegion, putA, goOp, evBin_add, evBin_sub, evBin_mul, evBin_quo, evBin_rem, evBin_eql, evBin_neq, evBin_lss, evBin_leq, evBin_gtr, evBin_geq, evBin_eqlB, evBin_neqB, evBin_addS, evBin_eqlS, evBin_neqS, evBin_lssS, evBin_leqS, evUn, evConv, evIndex, evBuiltin, evLen, evMin2, evMax2, evCallee, evBox, evLoad, evStore, evFieldAddr, evField, evIndexAddr, evBuild, evBuildSlice, evElems, evSlice, nth, rdc, wrc, fromBody, resA, finRet, oneOf, AV.cells?, AV.isCell, fin_int, fin_bool, fin_str, -AV.cells?, cq_int, cq_str, cq_slice, cq_bool, -evBuild, -evBuildSlice, Tryd.f73, E_esc, i1, i2, i3, hb0, hcz, hlz, htz, hez, hf, z24, c24, a24, k24, i24, tq46_0, tq46_1, tq46_2, tc46, ta46, tk46, ti46, tz46, fq0, fq3, fq4, fq5, c3, a3, k3, i3, c2, a2, k2, i2, c22, a22, k22, i22, bq3, bq2]
      · rw [if_neg b3]
        simp only [Bool.not_eq_true] at b3
        rw [b3] at i3
        simp only [Bool.false_eq_true, if_false] at i3
        have i4 : ev Tryd.prog E (n + 6) 44 [.ptr a 0, .str [110, 111, 116]] (PSt H0 T a l (p) d) = _ := ev_is ha T l hl (n + 4) (p) d _ _
        by_cases b4 : isB (hereT l) (p) [110, 111, 116] = true
        · rw [if_pos b4]
          have ilt := is_lt b4
          have ib := b4
          rw [b4] at i4
          simp only [if_true] at i4
          have h5 := h1 (p + 1)
          cases e5 : one (p + 1) with
          | error z =>
            obtain ⟨c', w⟩ := z
            rw [e5, ansX_err] at h5
            rw [th_err, ansX_err]
            have hf := fin_stop H0 T a l p d w c' w
            generalize PSt H0 T a l (w) d = L0 at *
            generalize PSt H0 T a l (p + 1) d = L1 at *
            generalize PSt H0 T a l (p) d = L2 at *
            generalize stopV (hereT l) c' w = sv at *
            simp (disch := first | (simp only [List.length_append, List.length_cons, List.length_nil]; omega) | (simp; done) | assumption) [↓evOp_build, ↓evOp_bslice, evB2_int, evB2_bool, evB2_str, evB2_eqi, evB2_nei, evB2_eqn, evB2_nen, evB2_peq, evB2_pne, evB2_req, evB2_rne, evB2_zeq, evB2_zne, isC_c, isC_t, evAssert, Bool.or_true, Bool.true_or, rhoP_nil, rhoP_cons, evCode_skip, evCode_region, evCode_draw, evCode_seq, evCode_cond, evCode_block, evCode_loop, evCode_exit, evCode_ret, seqK_ite, seqK_none, seqK_norm, seqK_ret, seqK_exit, seqK_pan, condK_true, condK_false, condK_bool, blockK_ite, blockK_none, blockK_norm, blockK_ret, blockK_exit, blockK_pan, stepK_ite, stepK_none, stepK_ok, stepK_pan, drawK_ite, drawK_none, drawK_ok, drawK_pan, opK_ite, opK_none, opK_val, opK_pan, wantK_true, wantK_false, wantK_some, afterRegion_ite, afterDraw_ite, fromBody_ite, ite_bool, ite_int, stepA_K, doOp, noOp, lexA_nil, lexA_cons, lexF_nil, lexF_cons, afterDraw, noClash, panIn, lostF, FP.clash, wantedA, evOp, rho, rhoL, ofC0, ofC, argsA, upd, afterRegion, putA, goOp, evBin_add, evBin_sub, evBin_mul, evBin_quo, evBin_rem, evBin_eql, evBin_neq, evBin_lss, evBin_leq, evBin_gtr, evBin_geq, evBin_eqlB, evBin_neqB, evBin_addS, evBin_eqlS, evBin_neqS, evBin_lssS, evBin_leqS, evUn, evConv, evIndex, evBuiltin, evLen, evMin2, evMax2, evCallee, evBox, evLoad, evStore, evFieldAddr, evField, evIndexAddr, evBuild, evBuildSlice, evElems, evSlice, nth, rdc, wrc, fromBody, resA, finRet, oneOf, AV.cells?, AV.isCell, fin_int, fin_bool, fin_str, -AV.cells?, cq_int, cq_str, cq_slice, cq_bool, -evBuild, -evBuildSlice, Tryd.f73, E_esc, i1, i2, i3, i4, h5, finPan, hf, z24, c24, a24, k24, i24, tq46_0, tq46_1, tq46_2, tc46, ta46, tk46, ti46, tz46, fq0, fq3, fq4, fq5, c3, a3, k3, i3, c2, a2, k2, i2, c22, a22, k22, i22, bq3, bq2]
          | ok z =>
            obtain ⟨x, r5⟩ := z
            rw [e5, ansX_ok] at h5
            rw [th_ok]
            have hcx := xcells x
            have hlx := xlen x
            have htx := xtake x
            have hex := xemb x
            rw [ansX_ok]
            have hf := fin_X H0 T a l p d (r5) (oneX 18 x)
            have ho := fun S => ev_one1 (n + 5) 18 x S
            have hcz := xcells (oneX 18 x)
            have hlz := xlen (oneX 18 x)
            have htz := xtake (oneX 18 x)
            have hez := xemb (oneX 18 x)
            generalize (oneX 18 x).cells = zc at *
            generalize (oneX 18 x).emb = ze at *
            generalize PSt H0 T a l (r5) d = L0 at *
            generalize PSt H0 T a l (p + 1) d = L1 at *
            generalize PSt H0 T a l (p) d = L2 at *
            generalize x.cells = xc at *
            generalize x.emb = xe at *
            simp (disch := first | (simp only [List.length_append, List.length_cons, List.length_nil]; omega) | (simp; done) | assumption) [↓evOp_build, ↓evOp_bslice, evB2_int, evB2_bool, evB2_str, evB2_eqi, evB2_nei, evB2_eqn, evB2_nen, evB2_peq, evB2_pne, evB2_req, evB2_rne, evB2_zeq, evB2_zne, isC_c, isC_t, evAssert, Bool.or_true, Bool.true_or, rhoP_nil, rhoP_cons, evCode_skip, evCode_region, evCode_draw, evCode_seq, evCode_cond, evCode_block, evCode_loop, evCode_exit, evCode_ret, seqK_ite, seqK_none, seqK_norm, seqK_ret, seqK_exit, seqK_pan, condK_true, condK_false, condK_bool, blockK_ite, blockK_none, blockK_norm, blockK_ret, blockK_exit, blockK_pan, stepK_ite, stepK_none, stepK_ok, stepK_pan, drawK_ite, drawK_none, drawK_ok, drawK_pan, opK_ite, opK_none, opK_val, opK_pan, wantK_true, wantK_false, wantK_some, afterRegion_ite, afterDraw_ite, fromBody_ite, ite_bool, ite_int, stepA_K, doOp, noOp, lexA_nil, lexA_cons, lexF_nil, lexF_cons, afterDraw, noClash, panIn, lostF, FP.clash, wantedA, evOp, rho, rhoL, ofC0, ofC, argsA, upd, afterRegion, putA, goOp, evBin_add, evBin_sub, evBin_mul, evBin_quo, evBin_rem, evBin_eql, evBin_neq, evBin_lss, evBin_leq, evBin_gtr, evBin_geq, evBin_eqlB, evBin_neqB, evBin_addS, evBin_eqlS, evBin_neqS, evBin_lssS, evBin_leqS, evUn, evConv, evIndex, evBuiltin, evLen, evMin2, evMax2, evCallee, evBox, evLoad, evStore, evFieldAddr, evField, evIndexAddr, evBuild, evBuildSlice, evElems, evSlice, nth, rdc, wrc, fromBody, resA, finRet, oneOf, AV.cells?, AV.isCell, fin_int, fin_bool, fin_str, -AV.cells?, cq_int, cq_str, cq_slice, cq_bool, -evBuild, -evBuildSlice, Tryd.f73, E_esc, i1, i2, i3, i4, h5, hcx, hlx, htx, hex, ho, hcz, hlz, htz, hez, hf, z24, c24, a24, k24, i24, tq46_0, tq46_1, tq46_2, tc46, ta46, tk46, ti46, tz46, fq0, fq3, fq4, fq5, c3, a3, k3, i3, c2, a2, k2, i2, c22, a22, k22, i22, bq3, bq2]
        · rw [if_neg b4]
          simp only [Bool.not_eq_true] at b4
          rw [b4] at i4
          simp only [Bool.false_eq_true, if_false] at i4
          have i6 : ev Tryd.prog E (n + 6) 44 [.ptr a 0, .str [115]] (PSt H0 T a l (p) d) = _ := ev_is ha T l hl (n + 4) (p) d _ _
          by_cases b6 : isB (hereT l) (p) [115] = true
          · rw [if_pos b6]
            have ilt := is_lt b6
            have ib := b6
            rw [b6] at i6
            simp only [if_true] at i6
            have h7 := ev77 ha T l hl (n + 1) (p + 1) d 5
            cases e7 : attrP (hereT l) 5 (p + 1) with
            | error z =>
              obtain ⟨c', w⟩ := z
              rw [e7, ansX_err] at h7
              rw [ansX_err]
              have hf := fin_stop H0 T a l p d w c' w
              generalize PSt H0 T a l (w) d = L0 at *
              generalize PSt H0 T a l (p + 1) d = L1 at *
              generalize PSt H0 T a l (p) d = L2 at *
              generalize stopV (hereT l) c' w = sv at *
              simp (disch := first | (simp only [List.length_append, List.length_cons, List.length_nil]; omega) | (simp; done) | assumption) [↓evOp_build, ↓evOp_bslice, evB2_int, evB2_bool, evB2_str, evB2_eqi, evB2_nei, evB2_eqn, evB2_nen, evB2_peq, evB2_pne, evB2_req, evB2_rne, evB2_zeq, evB2_zne, isC_c, isC_t, evAssert, Bool.or_true, Bool.true_or, rhoP_nil, rhoP_cons, evCode_skip, evCode_region, evCode_draw, evCode_seq, evCode_cond, evCode_block, evCode_loop, evCode_exit, evCode_ret, seqK_ite, seqK_none, seqK_norm, seqK_ret, seqK_exit, seqK_pan, condK_true, condK_false, condK_bool, blockK_ite, blockK_none, blockK_norm, blockK_ret, blockK_exit, blockK_pan, stepK_ite, stepK_none, stepK_ok, stepK_pan, drawK_ite, drawK_none, drawK_ok, drawK_pan, opK_ite, opK_none, opK_val, opK_pan, wantK_true, wantK_false, wantK_some, afterRegion_ite, afterDraw_ite, fromBody_ite, ite_bool, ite_int, stepA_K, doOp, noOp, lexA_nil, lexA_cons, lexF_nil, lexF_cons, afterDraw, noClash, panIn, lostF, FP.clash, wantedA, evOp, rho, rhoL, ofC0, ofC, argsA, upd, afterRegion, putA, goOp, evBin_add, evBin_sub, evBin_mul, evBin_quo, evBin_rem, evBin_eql, evBin_neq, evBin_lss, evBin_leq, evBin_gtr, evBin_geq, evBin_eqlB, evBin_neqB, evBin_addS, evBin_eqlS, evBin_neqS, evBin_lssS, evBin_leqS, evUn, evConv, evIndex, evBuiltin, evLen, evMin2, evMax2, evCallee, evBox, evLoad, evStore, evFieldAddr, evField, evIndexAddr, evBuild, evBuildSlice, evElems, evSlice, nth, rdc, wrc, fromBody, resA, finRet, oneOf, AV.cells?, AV.isCell, fin_int, fin_bool, fin_str, -AV.cells?, cq_int, cq_str, cq_slice, cq_bool, -evBuild, -evBuildSlice, Tryd.f73, E_esc, i1, i2, i3, i4, i6, h7, finPan, hf, z24, c24, a24, k24, i24, tq46_0, tq46_1, tq46_2, tc46, ta46, tk46, ti46, tz46, fq0, fq3, fq4, fq5, c3, a3, k3, i3, c2, a2, k2, i2, c22, a22, k22, i22, bq3, bq2]
            | ok z =>
              obtain ⟨x, r7⟩ := z
              rw [e7, ansX_ok] at h7
              have hcx := xcells x
              have hlx := xlen x
              have htx := xtake x
              have hex := xemb x
              rw [ansX_ok]
              have hf := fin_X H0 T a l p d (r7) (x)
              generalize PSt H0 T a l (r7) d = L0 at *
              generalize PSt H0 T a l (p + 1) d = L1 at *
              generalize PSt H0 T a l (p) d = L2 at *
              generalize x.cells = xc at *
              generalize x.emb = xe at *
              simp (disch := first | (simp only [List.length_append, List.length_cons, List.length_nil]; omega) | (simp; done) | assumption) [↓evOp_build, ↓evOp_bslice, evB2_int, evB2_bool, evB2_str, evB2_eqi, evB2_nei, evB2_eqn, evB2_nen, evB2_peq, evB2_pne, evB2_req, evB2_rne, evB2_zeq, evB2_zne, isC_c, isC_t, evAssert, Bool.or_true, Bool.true_or, rhoP_nil, rhoP_cons, evCode_skip, evCode_region, evCode_draw, evCode_seq, evCode_cond, evCode_block, evCode_loop, evCode_exit, evCode_ret, seqK_ite, seqK_none, seqK_norm, seqK_ret, seqK_exit, seqK_pan, condK_true, condK_false, condK_bool, blockK_ite, blockK_none, blockK_norm, blockK_ret, blockK_exit, blockK_pan, stepK_ite, stepK_none, stepK_ok, stepK_pan, drawK_ite, drawK_none, drawK_ok, drawK_pan, opK_ite, opK_none, opK_val, opK_pan, wantK_true, wantK_false, wantK_some, afterRegion_ite, afterDraw_ite, fromBody_ite, ite_bool, ite_int, stepA_K, doOp, noOp, lexA_nil, lexA_cons, lexF_nil, lexF_cons, afterDraw, noClash, panIn, lostF, FP.clash, wantedA, evOp, rho, rhoL, ofC0, ofC, argsA, upd, afterRegion, putA, goOp, evBin_add, evBin_sub, evBin_mul, evBin_quo, evBin_rem, evBin_eql, evBin_neq, evBin_lss, evBin_leq, evBin_gtr, evBin_geq, evBin_eqlB, evBin_neqB, evBin_addS, evBin_eqlS, evBin_neqS, evBin_lssS, evBin_leqS, evUn, evConv, evIndex, evBuiltin, evLen, evMin2, evMax2, evCallee, evBox, evLoad, evStore, evFieldAddr, evField, evIndexAddr, evBuild, evBuildSlice, evElems, evSlice, nth, rdc, wrc, fromBody, resA, finRet, oneOf, AV.cells?, AV.isCell, fin_int, fin_bool, fin_str, -AV.cells?, cq_int, cq_str, cq_slice, cq_bool, -evBuild, -evBuildSlice, Tryd.f73, E_esc, i1, i2, i3, i4, i6, h7, hcx, hlx, htx, hex, hf, z24, c24, a24, k24, i24, tq46_0, tq46_1, tq46_2, tc46, ta46, tk46, ti46, tz46, fq0, fq3, fq4, fq5, c3, a3, k3, i3, c2, a2, k2, i2, c22, a22, k22, i22, bq3, bq2]
          · rw [if_neg b6]
            simp only [Bool.not_eq_true] at b6
            rw [b6] at i6
            simp only [Bool.false_eq_true, if_false] at i6
            have i8 : ev Tryd.prog E (n + 6) 44 [.ptr a 0, .str [111]] (PSt H0 T a l (p) d) = _ := ev_is ha T l hl (n + 4) (p) d _ _
            by_cases b8 : isB (hereT l) (p) [111] = true
            · rw [if_pos b8]
              have ilt := is_lt b8
              have ib := b8
              rw [b8] at i8
              simp only [if_true] at i8
              have h9 := ev77 ha T l hl (n + 1) (p + 1) d 6
              cases e9 : attrP (hereT l) 6 (p + 1) with
              | error z =>
                obtain ⟨c', w⟩ := z
                rw [e9, ansX_err] at h9
                rw [ansX_err]
                have hf := fin_stop H0 T a l p d w c' w
                generalize PSt H0 T a l (w) d = L0 at *
                generalize PSt H0 T a l (p + 1) d = L1 at *
                generalize PSt H0 T a l (p) d = L2 at *
                generalize stopV (hereT l) c' w = sv at *
                simp (disch := first | (simp only [List.length_append, List.length_cons, List.length_nil]; omega) | (simp; done) | assumption) [↓evOp_build, ↓evOp_bslice, evB2_int, evB2_bool, evB2_str, evB2_eqi, evB2_nei, evB2_eqn, evB2_nen, evB2_peq, evB2_pne, evB2_req, evB2_rne, evB2_zeq, evB2_zne, isC_c, isC_t, evAssert, Bool.or_true, Bool.true_or, rhoP_nil, rhoP_cons, evCode_skip, evCode_region, evCode_draw, evCode_seq, evCode_cond, evCode_block, evCode_loop, evCode_exit, evCode_ret, seqK_ite, seqK_none, seqK_norm, seqK_ret, seqK_exit, seqK_pan, condK_true, condK_false, condK_bool, blockK_ite, blockK_none, blockK_norm, blockK_ret, blockK_exit, blockK_pan, stepK_ite, stepK_none, stepK_ok, stepK_pan, drawK_ite, drawK_none, drawK_ok, drawK_pan, opK_ite, opK_none, opK_val, opK_pan, wantK_true, wantK_false, wantK_some, afterRegion_ite, afterDraw_ite, fromBody_ite, ite_bool, ite_int, stepA_K, doOp, noOp, lexA_nil, lexA_cons, lexF_nil, lexF_cons, afterDraw, noClash, panIn, lostF, FP.clash, wantedA, evOp, rho, rhoL, ofC0, ofC, argsA, upd, afterRegion, putA, goOp, evBin_add, evBin_sub, evBin_mul, evBin_quo, evBin_rem, evBin_eql, evBin_neq, evBin_lss, evBin_leq, evBin_gtr, evBin_geq, evBin_eqlB, evBin_neqB, evBin_addS, evBin_eqlS, evBin_neqS, evBin_lssS, evBin_leqS, evUn, evConv, evIndex, evBuiltin, evLen, evMin2, evMax2, evCallee, evBox, evLoad, evStore, evFieldAddr, evField, evIndexAddr, evBuild, evBuildSlice, evElems, evSlice, nth, rdc, wrc, fromBody, resA, finRet, oneOf, AV.cells?, AV.isCell, fin_int, fin_bool, fin_str, -AV.cells?, cq_int, cq_str, cq_slice, cq_bool, -evBuild, -evBuildSlice, Tryd.f73, E_esc, i1, i2, i3, i4, i6, i8, h9, finPan, hf, z24, c24, a24, k24, i24, tq46_0, tq46_1, tq46_2, tc46, ta46, tk46, ti46, tz46, fq0, fq3, fq4, fq5, c3, a3, k3, i3, c2, a2, k2, i2, c22, a22, k22, i22, bq3, bq2]
              | ok z =>
                obtain ⟨x, r9⟩ := z
                rw [e9, ansX_ok] at h9
                have hcx := xcells x
                have hlx := xlen x
                have htx := xtake x
                have hex := xemb x
                rw [ansX_ok]
                have hf := fin_X H0 T a l p d (r9) (x)
                generalize PSt H0 T a l (r9) d = L0 at *
                generalize PSt H0 T a l (p + 1) d = L1 at *
                generalize PSt H0 T a l (p) d = L2 at *
                generalize x.cells = xc at *
                generalize x.emb = xe at *
                simp (disch := first | (simp only [List.length_append, List.length_cons, List.length_nil]; omega) | (simp; done) | assumption) [↓evOp_build, ↓evOp_bslice, evB2_int, evB2_bool, evB2_str, evB2_eqi, evB2_nei, evB2_eqn, evB2_nen, evB2_peq, evB2_pne, evB2_req, evB2_rne, evB2_zeq, evB2_zne, isC_c, isC_t, evAssert, Bool.or_true, Bool.true_or, rhoP_nil, rhoP_cons, evCode_skip, evCode_region, evCode_draw, evCode_seq, evCode_cond, evCode_block, evCode_loop, evCode_exit, evCode_ret, seqK_ite, seqK_none, seqK_norm, seqK_ret, seqK_exit, seqK_pan, condK_true, condK_false, condK_bool, blockK_ite, blockK_none, blockK_norm, blockK_ret, blockK_exit, blockK_pan, stepK_ite, stepK_none, stepK_ok, stepK_pan, drawK_ite, drawK_none, drawK_ok, drawK_pan, opK_ite, opK_none, opK_val, opK_pan, wantK_true, wantK_false, wantK_some, afterRegion_ite, afterDraw_ite, fromBody_ite, ite_bool, ite_int, stepA_K, doOp, noOp, lexA_nil, lexA_cons, lexF_nil, lexF_cons, afterDraw, noClash, panIn, lostF, FP.clash, wantedA, evOp, rho, rhoL, ofC0, ofC, argsA, upd, afterRegion, putA, goOp, evBin_add, evBin_sub, evBin_mul, evBin_quo, evBin_rem, evBin_eql, evBin_neq, evBin_lss, evBin_leq, evBin_gtr, evBin_geq, evBin_eqlB, evBin_neqB, evBin_addS, evBin_eqlS, evBin_neqS, evBin_lssS, evBin_leqS, evUn, evConv, evIndex, evBuiltin, evLen, evMin2, evMax2, evCallee, evBox, evLoad, evStore, evFieldAddr, evField, evIndexAddr, evBuild, evBuildSlice, evElems, evSlice, nth, rdc, wrc, fromBody, resA, finRet, oneOf, AV.cells?, AV.isCell, fin_int, fin_bool, fin_str, -AV.cells?, cq_int, cq_str, cq_slice, cq_bool, -evBuild, -evBuildSlice, Tryd.f73, E_esc, i1, i2, i3, i4, i6, i8, h9, hcx, hlx, htx, hex, hf, z24, c24, a24, k24, i24, tq46_0, tq46_1, tq46_2, tc46, ta46, tk46, ti46, tz46, fq0, fq3, fq4, fq5, c3, a3, k3, i3, c2, a2, k2, i2, c22, a22, k22, i22, bq3, bq2]
            · rw [if_neg b8]
              simp only [Bool.not_eq_true] at b8
              rw [b8] at i8
              simp only [Bool.false_eq_true, if_false] at i8
              have i10 : ev Tryd.prog E (n + 6) 44 [.ptr a 0, .str [97, 99, 116]] (PSt H0 T a l (p) d) = _ := ev_is ha T l hl (n + 4) (p) d _ _
              by_cases b10 : isB (hereT l) (p) [97, 99, 116] = true
              · rw [if_pos b10]
                have ilt := is_lt b10
                have ib := b10
                rw [b10] at i10
                simp only [if_true] at i10
                have hps : E.ps 73 15 = [(4, 8), (14, 14)] := rfl
                have hg := PSt_get ha T l (p + 1) d
                have hw : IntKind.i64.wrap (((p + 1 : Nat) : Int) - 1) = (p : Int) := by rw [wrap64 _ (by omega)]; omega
                have hx : l[p]? = some (hereT l p) := by
                  have e : l[p]? = some l[p] := List.getElem?_eq_getElem ilt
                  simp [hereT, e]
                have hia := ia l .non p _ hx
                have hcs : (hereT l p).cells = [.int .i64 (hereT l p).k, .str (hereT l p).s, .int .i64 (hereT l p).n, .int .i64 (hereT l p).p] := rfl
                have hss : (hereT l p).s = [97, 99, 116] := by
                  simp only [isB, Bool.and_eq_true, beq_iff_eq] at ib
                  exact ib.2
                rw [hcs, hss] at hia
                generalize tkL l = es at *
                clear ib
                generalize (hereT l p).k = zk at *
                generalize (hereT l p).n = zn at *
                generalize (hereT l p).p = zp at *
                generalize hP1 : p + 1 = P1 at *
                have h11 := ev78a ha T l hl (n + 1) (P1) d
                cases e11 : actP (hereT l) (P1) with
                | error z =>
                  obtain ⟨c', w⟩ := z
                  rw [e11, ansX_err] at h11
                  rw [ansX_err]
                  have hf := fin_stop H0 T a l p d w c' w
                  generalize PSt H0 T a l (w) d = L0 at *
                  generalize PSt H0 T a l (P1) d = L1 at *
                  generalize PSt H0 T a l (p) d = L2 at *
                  generalize stopV (hereT l) c' w = sv at *
                  simp (disch := first | (simp only [List.length_append, List.length_cons, List.length_nil]; omega) | (simp; done) | assumption) [↓evOp_build, ↓evOp_bslice, evB2_int, evB2_bool, evB2_str, evB2_eqi, evB2_nei, evB2_eqn, evB2_nen, evB2_peq, evB2_pne, evB2_req, evB2_rne, evB2_zeq, evB2_zne, isC_c, isC_t, evAssert, Bool.or_true, Bool.true_or, rhoP_nil, rhoP_cons, evCode_skip, evCode_region, evCode_draw, evCode_seq, evCode_cond, evCode_block, evCode_loop, evCode_exit, evCode_ret, seqK_ite, seqK_none, seqK_norm, seqK_ret, seqK_exit, seqK_pan, condK_true, condK_false, condK_bool, blockK_ite, blockK_none, blockK_norm, blockK_ret, blockK_exit, blockK_pan, stepK_ite, stepK_none, stepK_ok, stepK_pan, drawK_ite, drawK_none, drawK_ok, drawK_pan, opK_ite, opK_none, opK_val, opK_pan, wantK_true, wantK_false, wantK_some, afterRegion_ite, afterDraw_ite, fromBody_ite, ite_bool, ite_int, stepA_K, doOp, noOp, lexA_nil, lexA_cons, lexF_nil, lexF_cons, afterDraw, noClash, panIn, lostF, FP.clash, wantedA, evOp, rho, rhoL, ofC0, ofC, argsA, upd, afterRegion, putA, goOp, evBin_add, evBin_sub, evBin_mul, evBin_quo, evBin_rem, evBin_eql, evBin_neq, evBin_lss, evBin_leq, evBin_gtr, evBin_geq, evBin_eqlB, evBin_neqB, evBin_addS, evBin_eqlS, evBin_neqS, evBin_lssS, evBin_leqS, evUn, evConv, evIndex, evBuiltin, evLen, evMin2, evMax2, evCallee, evBox, evLoad, evStore, evFieldAddr, evField, evIndexAddr, evBuild, evBuildSlice, evElems, evSlice, nth, rdc, wrc, fromBody, resA, finRet, oneOf, AV.cells?, AV.isCell, fin_int, fin_bool, fin_str, -AV.cells?, cq_int, cq_str, cq_slice, cq_bool, -evBuild, -evBuildSlice, Tryd.f73, E_esc, i1, i2, i3, i4, i6, i8, i10, hps, hg, hw, hia, -evIndexAddr, tq66_0, tq66_1, tk66, tk39, tc39, ta39, k9, a9, c9, bq9, h11, finPan, hf, z24, c24, a24, k24, i24, tq46_0, tq46_1, tq46_2, tc46, ta46, tk46, ti46, tz46, fq0, fq3, fq4, fq5, c3, a3, k3, i3, c2, a2, k2, i2, c22, a22, k22, i22, bq3, bq2]
                | ok z =>
                  obtain ⟨x, r11⟩ := z
                  rw [e11, ansX_ok] at h11
                  have hcx := xcells x
                  have hlx := xlen x
                  have htx := xtake x
                  have hex := xemb x
                  rw [ansX_ok]
                  have hf := fin_X H0 T a l p d (r11) (x)
                  generalize PSt H0 T a l (r11) d = L0 at *
                  generalize PSt H0 T a l (P1) d = L1 at *
                  generalize PSt H0 T a l (p) d = L2 at *
                  generalize x.cells = xc at *
                  generalize x.emb = xe at *
                  simp (disch := first | (simp only [List.length_append, List.length_cons, List.length_nil]; omega) | (simp; done) | assumption) [↓evOp_build, ↓evOp_bslice, evB2_int, evB2_bool, evB2_str, evB2_eqi, evB2_nei, evB2_eqn, evB2_nen, evB2_peq, evB2_pne, evB2_req, evB2_rne, evB2_zeq, evB2_zne, isC_c, isC_t, evAssert, Bool.or_true, Bool.true_or, rhoP_nil, rhoP_cons, evCode_skip, evCode_region, evCode_draw, evCode_seq, evCode_cond, evCode_block, evCode_loop, evCode_exit, evCode_ret, seqK_ite, seqK_none, seqK_norm, seqK_ret, seqK_exit, seqK_pan, condK_true, condK_false, condK_bool, blockK_ite, blockK_none, blockK_norm, blockK_ret, blockK_exit, blockK_pan, stepK_ite, stepK_none, stepK_ok, stepK_pan, drawK_ite, drawK_none, drawK_ok, drawK_pan, opK_ite, opK_none, opK_val, opK_pan, wantK_true, wantK_false, wantK_some, afterRegion_ite, afterDraw_ite, fromBody_ite, ite_bool, ite_int, stepA_K, doOp, noOp, lexA_nil, lexA_cons, lexF_nil, lexF_cons, afterDraw, noClash, panIn, lostF, FP.clash, wantedA, evOp, rho, rhoL, ofC0, ofC, argsA, upd, afterRegion, putA, goOp, evBin_add, evBin_sub, evBin_mul, evBin_quo, evBin_rem, evBin_eql, evBin_neq, evBin_lss, evBin_leq, evBin_gtr, evBin_geq, evBin_eqlB, evBin_neqB, evBin_addS, evBin_eqlS, evBin_neqS, evBin_lssS, evBin_leqS, evUn, evConv, evIndex, evBuiltin, evLen, evMin2, evMax2, evCallee, evBox, evLoad, evStore, evFieldAddr, evField, evIndexAddr, evBuild, evBuildSlice, evElems, evSlice, nth, rdc, wrc, fromBody, resA, finRet, oneOf, AV.cells?, AV.isCell, fin_int, fin_bool, fin_str, -AV.cells?, cq_int, cq_str, cq_slice, cq_bool, -evBuild, -evBuildSlice, Tryd.f73, E_esc, i1, i2, i3, i4, i6, i8, i10, hps, hg, hw, hia, -evIndexAddr, tq66_0, tq66_1, tk66, tk39, tc39, ta39, k9, a9, c9, bq9, h11, hcx, hlx, htx, hex, hf, z24, c24, a24, k24, i24, tq46_0, tq46_1, tq46_2, tc46, ta46, tk46, ti46, tz46, fq0, fq3, fq4, fq5, c3, a3, k3, i3, c2, a2, k2, i2, c22, a22, k22, i22, bq3, bq2]
              · rw [if_neg b10]
                simp only [Bool.not_eq_true] at b10
                rw [b10] at i10
                simp only [Bool.false_eq_true, if_false] at i10
                have i12 : ev Tryd.prog E (n + 6) 44 [.ptr a 0, .str [116, 105, 109, 101, 115]] (PSt H0 T a l (p) d) = _ := ev_is ha T l hl (n + 4) (p) d _ _
                by_cases b12 : isB (hereT l) (p) [116, 105, 109, 101, 115] = true
                · rw [if_pos b12]
                  have ilt := is_lt b12
                  have ib := b12
                  rw [b12] at i12
                  simp only [if_true] at i12
                  have hps : E.ps 73 15 = [(4, 8), (14, 14)] := rfl
                  have hg := PSt_get ha T l (p + 1) d
                  have hw : IntKind.i64.wrap (((p + 1 : Nat) : Int) - 1) = (p : Int) := by rw [wrap64 _ (by omega)]; omega
                  have hx : l[p]? = some (hereT l p) := by
                    have e : l[p]? = some l[p] := List.getElem?_eq_getElem ilt
                    simp [hereT, e]
                  have hia := ia l .non p _ hx
                  have hcs : (hereT l p).cells = [.int .i64 (hereT l p).k, .str (hereT l p).s, .int .i64 (hereT l p).n, .int .i64 (hereT l p).p] := rfl
                  have hss : (hereT l p).s = [116, 105, 109, 101, 115] := by
                    simp only [isB, Bool.and_eq_true, beq_iff_eq] at ib
                    exact ib.2
                  rw [hcs, hss] at hia
                  generalize tkL l = es at *
                  clear ib
                  generalize (hereT l p).k = zk at *
                  generalize (hereT l p).n = zn at *
                  generalize (hereT l p).p = zp at *
                  generalize hP1 : p + 1 = P1 at *
                  have h13 := ev78b ha T l hl (n + 1) (P1) d
                  cases e13 : timesP (hereT l) (P1) with
                  | error z =>
                    obtain ⟨c', w⟩ := z
                    rw [e13, ansX_err] at h13
                    rw [ansX_err]
                    have hf := fin_stop H0 T a l p d w c' w
                    generalize PSt H0 T a l (w) d = L0 at *
                    generalize PSt H0 T a l (P1) d = L1 at *
                    generalize PSt H0 T a l (p) d = L2 at *
                    generalize stopV (hereT l) c' w = sv at *
                    simp (disch := first | (simp only [List.length_append, List.length_cons, List.length_nil]; omega) | (simp; done) | assumption) [↓evOp_build, ↓evOp_bslice, evB2_int, evB2_bool, evB2_str, evB2_eqi, evB2_nei, evB2_eqn, evB2_nen, evB2_peq, evB2_pne, evB2_req, evB2_rne, evB2_zeq, evB2_zne, isC_c, isC_t, evAssert, Bool.or_true, Bool.true_or, rhoP_nil, rhoP_cons, evCode_skip, evCode_region, evCode_draw, evCode_seq, evCode_cond, evCode_block, evCode_loop, evCode_exit, evCode_ret, seqK_ite, seqK_none, seqK_norm, seqK_ret, seqK_exit, seqK_pan, condK_true, condK_false, condK_bool, blockK_ite, blockK_none, blockK_norm, blockK_ret, blockK_exit, blockK_pan, stepK_ite, stepK_none, stepK_ok, stepK_pan, drawK_ite, drawK_none, drawK_ok, drawK_pan, opK_ite, opK_none, opK_val, opK_pan, wantK_true, wantK_false, wantK_some, afterRegion_ite, afterDraw_ite, fromBody_ite, ite_bool, ite_int, stepA_K, doOp, noOp, lexA_nil, lexA_cons, lexF_nil, lexF_cons, afterDraw, noClash, panIn, lostF, FP.clash, wantedA, evOp, rho, rhoL, ofC0, ofC, argsA, upd, afterRegion, putA, goOp, evBin_add, evBin_sub, evBin_mul, evBin_quo, evBin_rem, evBin_eql, evBin_neq, evBin_lss, evBin_leq, evBin_gtr, evBin_geq, evBin_eqlB, evBin_neqB, evBin_addS, evBin_eqlS, evBin_neqS, evBin_lssS, evBin_leqS, evUn, evConv, evIndex, evBuiltin, evLen, evMin2, evMax2, evCallee, evBox, evLoad, evStore, evFieldAddr, evField, evIndexAddr, evBuild, evBuildSlice, evElems, evSlice, nth, rdc, wrc, fromBody, resA, finRet, oneOf, AV.cells?, AV.isCell, fin_int, fin_bool, fin_str, -AV.cells?, cq_int, cq_str, cq_slice, cq_bool, -evBuild, -evBuildSlice, Tryd.f73, E_esc, i1, i2, i3, i4, i6, i8, i10, i12, hps, hg, hw, hia, -evIndexAddr, tq66_0, tq66_1, tk66, tk39, tc39, ta39, k9, a9, c9, bq9, h13, finPan, hf, z24, c24, a24, k24, i24, tq46_0, tq46_1, tq46_2, tc46, ta46, tk46, ti46, tz46, fq0, fq3, fq4, fq5, c3, a3, k3, i3, c2, a2, k2, i2, c22, a22, k22, i22, bq3, bq2]
                  | ok z =>
                    obtain ⟨x, r13⟩ := z
                    rw [e13, ansX_ok] at h13
                    have hcx := xcells x
                    have hlx := xlen x
                    have htx := xtake x
                    have hex := xemb x
                    rw [ansX_ok]
                    have hf := fin_X H0 T a l p d (r13) (x)
                    generalize PSt H0 T a l (r13) d = L0 at *
                    generalize PSt H0 T a l (P1) d = L1 at *
                    generalize PSt H0 T a l (p) d = L2 at *
                    generalize x.cells = xc at *
                    generalize x.emb = xe at *
                    simp (disch := first | (simp only [List.length_append, List.length_cons, List.length_nil]; omega) | (simp; done) | assumption) [↓evOp_build, ↓evOp_bslice, evB2_int, evB2_bool, evB2_str, evB2_eqi, evB2_nei, evB2_eqn, evB2_nen, evB2_peq, evB2_pne, evB2_req, evB2_rne, evB2_zeq, evB2_zne, isC_c, isC_t, evAssert, Bool.or_true, Bool.true_or, rhoP_nil, rhoP_cons, evCode_skip, evCode_region, evCode_draw, evCode_seq, evCode_cond, evCode_block, evCode_loop, evCode_exit, evCode_ret, seqK_ite, seqK_none, seqK_norm, seqK_ret, seqK_exit, seqK_pan, condK_true, condK_false, condK_bool, blockK_ite, blockK_none, blockK_norm, blockK_ret, blockK_exit, blockK_pan, stepK_ite, stepK_none, stepK_ok, stepK_pan, drawK_ite, drawK_none, drawK_ok, drawK_pan, opK_ite, opK_none, opK_val, opK_pan, wantK_true, wantK_false, wantK_some, afterRegion_ite, afterDraw_ite, fromBody_ite, ite_bool, ite_int, stepA_K, doOp, noOp, lexA_nil, lexA_cons, lexF_nil, lexF_cons, afterDraw, noClash, panIn, lostF, FP.clash, wantedA, evOp, rho, rhoL, ofC0, ofC, argsA, upd, afterRegion, putA, goOp, evBin_add, evBin_sub, evBin_mul, evBin_quo, evBin_rem, evBin_eql, evBin_neq, evBin_lss, evBin_leq, evBin_gtr, evBin_geq, evBin_eqlB, evBin_neqB, evBin_addS, evBin_eqlS, evBin_neqS, evBin_lssS, evBin_leqS, evUn, evConv, evIndex, evBuiltin, evLen, evMin2, evMax2, evCallee, evBox, evLoad, evStore, evFieldAddr, evField, evIndexAddr, evBuild, evBuildSlice, evElems, evSlice, nth, rdc, wrc, fromBody, resA, finRet, oneOf, AV.cells?, AV.isCell, fin_int, fin_bool, fin_str, -AV.cells?, cq_int, cq_str, cq_slice, cq_bool, -evBuild, -evBuildSlice, Tryd.f73, E_esc, i1, i2, i3, i4, i6, i8, i10, i12, hps, hg, hw, hia, -evIndexAddr, tq66_0, tq66_1, tk66, tk39, tc39, ta39, k9, a9, c9, bq9, h13, hcx, hlx, htx, hex, hf, z24, c24, a24, k24, i24, tq46_0, tq46_1, tq46_2, tc46, ta46, tk46, ti46, tz46, fq0, fq3, fq4, fq5, c3, a3, k3, i3, c2, a2, k2, i2, c22, a22, k22, i22, bq3, bq2]
                · rw [if_neg b12]
                  simp only [Bool.not_eq_true] at b12
                  rw [b12] at i12
                  simp only [Bool.false_eq_true, if_false] at i12
                  have i14 : ev Tryd.prog E (n + 6) 44 [.ptr a 0, .str [108, 101, 110]] (PSt H0 T a l (p) d) = _ := ev_is ha T l hl (n + 4) (p) d _ _
                  by_cases b14 : isB (hereT l) (p) [108, 101, 110] = true
                  · rw [if_pos b14]
                    have ilt := is_lt b14
                    have ib := b14
                    rw [b14] at i14
                    simp only [if_true] at i14
                    have h15 := hA (p + 1)
                    cases e15 : argP (hereT l) any (p + 1) with
                    | error z =>
                      obtain ⟨c', w⟩ := z
                      rw [e15, ansX_err] at h15
                      rw [th_err, ansX_err]
                      have hf := fin_stop H0 T a l p d w c' w
                      generalize PSt H0 T a l (w) d = L0 at *
                      generalize PSt H0 T a l (p + 1) d = L1 at *
                      generalize PSt H0 T a l (p) d = L2 at *
                      generalize stopV (hereT l) c' w = sv at *
                      simp (disch := first | (simp only [List.length_append, List.length_cons, List.length_nil]; omega) | (simp; done) | assumption) [↓evOp_build, ↓evOp_bslice, evB2_int, evB2_bool, evB2_str, evB2_eqi, evB2_nei, evB2_eqn, evB2_nen, evB2_peq, evB2_pne, evB2_req, evB2_rne, evB2_zeq, evB2_zne, isC_c, isC_t, evAssert, Bool.or_true, Bool.true_or, rhoP_nil, rhoP_cons, evCode_skip, evCode_region, evCode_draw, evCode_seq, evCode_cond, evCode_block, evCode_loop, evCode_exit, evCode_ret, seqK_ite, seqK_none, seqK_norm, seqK_ret, seqK_exit, seqK_pan, condK_true, condK_false, condK_bool, blockK_ite, blockK_none, blockK_norm, blockK_ret, blockK_exit, blockK_pan, stepK_ite, stepK_none, stepK_ok, stepK_pan, drawK_ite, drawK_none, drawK_ok, drawK_pan, opK_ite, opK_none, opK_val, opK_pan, wantK_true, wantK_false, wantK_some, afterRegion_ite, afterDraw_ite, fromBody_ite, ite_bool, ite_int, stepA_K, doOp, noOp, lexA_nil, lexA_cons, lexF_nil, lexF_cons, afterDraw, noClash, panIn, lostF, FP.clash, wantedA, evOp, rho, rhoL, ofC0, ofC, argsA, upd, afterRegion, putA, goOp, evBin_add, evBin_sub, evBin_mul, evBin_quo, evBin_rem, evBin_eql, evBin_neq, evBin_lss, evBin_leq, evBin_gtr, evBin_geq, evBin_eqlB, evBin_neqB, evBin_addS, evBin_eqlS, evBin_neqS, evBin_lssS, evBin_leqS, evUn, evConv, evIndex, evBuiltin, evLen, evMin2, evMax2, evCallee, evBox, evLoad, evStore, evFieldAddr, evField, evIndexAddr, evBuild, evBuildSlice, evElems, evSlice, nth, rdc, wrc, fromBody, resA, finRet, oneOf, AV.cells?, AV.isCell, fin_int, fin_bool, fin_str, -AV.cells?, cq_int, cq_str, cq_slice, cq_bool, -evBuild, -evBuildSlice, Tryd.f73, E_esc, i1, i2, i3, i4, i6, i8, i10, i12, i14, h15, finPan, hf, z24, c24, a24, k24, i24, tq46_0, tq46_1, tq46_2, tc46, ta46, tk46, ti46, tz46, fq0, fq3, fq4, fq5, c3, a3, k3, i3, c2, a2, k2, i2, c22, a22, k22, i22, bq3, bq2]
                    | ok z =>
                      obtain ⟨x, r15⟩ := z
                      rw [e15, ansX_ok] at h15
                      rw [th_ok]
                      have hcx := xcells x
                      have hlx := xlen x
                      have htx := xtake x
                      have hex := xemb x
                      rw [ansX_ok]
                      have hf := fin_X H0 T a l p d (r15) (oneX 12 x)
                      have ho := fun S => ev_one1 (n + 5) 12 x S
                      have hcz := xcells (oneX 12 x)
                      have hlz := xlen (oneX 12 x)
                      have htz := xtake (oneX 12 x)
                      have hez := xemb (oneX 12 x)
                      generalize (oneX 12 x).cells = zc at *
                      generalize (oneX 12 x).emb = ze at *
                      generalize PSt H0 T a l (r15) d = L0 at *
                      generalize PSt H0 T a l (p + 1) d = L1 at *
                      generalize PSt H0 T a l (p) d = L2 at *
                      generalize x.cells = xc at *
                      generalize x.emb = xe at *
                      simp (disch := first | (simp only [List.length_append, List.length_cons, List.length_nil]; omega) | (simp; done) | assumption) [↓evOp_build, ↓evOp_bslice, evB2_int, evB2_bool, evB2_str, evB2_eqi, evB2_nei, evB2_eqn, evB2_nen, evB2_peq, evB2_pne, evB2_req, evB2_rne, evB2_zeq, evB2_zne, isC_c, isC_t, evAssert, Bool.or_true, Bool.true_or, rhoP_nil, rhoP_cons, evCode_skip, evCode_region, evCode_draw, evCode_seq, evCode_cond, evCode_block, evCode_loop, evCode_exit, evCode_ret, seqK_ite, seqK_none, seqK_norm, seqK_ret, seqK_exit, seqK_pan, condK_true, condK_false, condK_bool, blockK_ite, blockK_none, blockK_norm, blockK_ret, blockK_exit, blockK_pan, stepK_ite, stepK_none, stepK_ok, stepK_pan, drawK_ite, drawK_none, drawK_ok, drawK_pan, opK_ite, opK_none, opK_val, opK_pan, wantK_true, wantK_false, wantK_some, afterRegion_ite, afterDraw_ite, fromBody_ite, ite_bool, ite_int, stepA_K, doOp, noOp, lexA_nil, lexA_cons, lexF_nil, lexF_cons, afterDraw, noClash, panIn, lostF, FP.clash, wantedA, evOp, rho, rhoL, ofC0, ofC, argsA, upd, afterRegion, putA, goOp, evBin_add, evBin_sub, evBin_mul, evBin_quo, evBin_rem, evBin_eql, evBin_neq, evBin_lss, evBin_leq, evBin_gtr, evBin_geq, evBin_eqlB, evBin_neqB, evBin_addS, evBin_eqlS, evBin_neqS, evBin_lssS, evBin_leqS, evUn, evConv, evIndex, evBuiltin, evLen, evMin2, evMax2, evCallee, evBox, evLoad, evStore, evFieldAddr, evField, evIndexAddr, evBuild, evBuildSlice, evElems, evSlice, nth, rdc, wrc, fromBody, resA, finRet, oneOf, AV.cells?, AV.isCell, fin_int, fin_bool, fin_str, -AV.cells?, cq_int, cq_str, cq_slice, cq_bool, -evBuild, -evBuildSlice, Tryd.f73, E_esc, i1, i2, i3, i4, i6, i8, i10, i12, i14, h15, hcx, hlx, htx, hex, ho, hcz, hlz, htz, hez, hf, z24, c24, a24, k24, i24, tq46_0, tq46_1, tq46_2, tc46, ta46, tk46, ti46, tz46, fq0, fq3, fq4, fq5, c3, a3, k3, i3, c2, a2, k2, i2, c22, a22, k22, i22, bq3, bq2]
                  · rw [if_neg b14]
                    simp only [Bool.not_eq_true] at b14
                    rw [b14] at i14
                    simp only [Bool.false_eq_true, if_false] at i14
                    have i16 : ev Tryd.prog E (n + 6) 44 [.ptr a 0, .str [112, 114, 101, 118]] (PSt H0 T a l (p) d) = _ := ev_is ha T l hl (n + 4) (p) d _ _
                    by_cases b16 : isB (hereT l) (p) [112, 114, 101, 118] = true
                    · rw [if_pos b16]
                      have ilt := is_lt b16
                      have ib := b16
                      rw [b16] at i16
                      simp only [if_true] at i16
                      have h17 := hA (p + 1)
                      cases e17 : argP (hereT l) any (p + 1) with
                      | error z =>
                        obtain ⟨c', w⟩ := z
                        rw [e17, ansX_err] at h17
                        rw [th_err, ansX_err]
                        have hf := fin_stop H0 T a l p d w c' w
                        generalize PSt H0 T a l (w) d = L0 at *
                        generalize PSt H0 T a l (p + 1) d = L1 at *
                        generalize PSt H0 T a l (p) d = L2 at *
                        generalize stopV (hereT l) c' w = sv at *
                        simp (disch := first | (simp only [List.length_append, List.length_cons, List.length_nil]; omega) | (simp; done) | assumption) [↓evOp_build, ↓evOp_bslice, evB2_int, evB2_bool, evB2_str, evB2_eqi, evB2_nei, evB2_eqn, evB2_nen, evB2_peq, evB2_pne, evB2_req, evB2_rne, evB2_zeq, evB2_zne, isC_c, isC_t, evAssert, Bool.or_true, Bool.true_or, rhoP_nil, rhoP_cons, evCode_skip, evCode_region, evCode_draw, evCode_seq, evCode_cond, evCode_block, evCode_loop, evCode_exit, evCode_ret, seqK_ite, seqK_none, seqK_norm, seqK_ret, seqK_exit, seqK_pan, condK_true, condK_false, condK_bool, blockK_ite, blockK_none, blockK_norm, blockK_ret, blockK_exit, blockK_pan, stepK_ite, stepK_none, stepK_ok, stepK_pan, drawK_ite, drawK_none, drawK_ok, drawK_pan, opK_ite, opK_none, opK_val, opK_pan, wantK_true, wantK_false, wantK_some, afterRegion_ite, afterDraw_ite, fromBody_ite, ite_bool, ite_int, stepA_K, doOp, noOp, lexA_nil, lexA_cons, lexF_nil, lexF_cons, afterDraw, noClash, panIn, lostF, FP.clash, wantedA, evOp, rho, rhoL, ofC0, ofC, argsA, upd, afterRegion, putA, goOp, evBin_add, evBin_sub, evBin_mul, evBin_quo, evBin_rem, evBin_eql, evBin_neq, evBin_lss, evBin_leq, evBin_gtr, evBin_geq, evBin_eqlB, evBin_neqB, evBin_addS, evBin_eqlS, evBin_neqS, evBin_lssS, evBin_leqS, evUn, evConv, evIndex, evBuiltin, evLen, evMin2, evMax2, evCallee, evBox, evLoad, evStore, evFieldAddr, evField, evIndexAddr, evBuild, evBuildSlice, evElems, evSlice, nth, rdc, wrc, fromBody, resA, finRet, oneOf, AV.cells?, AV.isCell, fin_int, fin_bool, fin_str, -AV.cells?, cq_int, cq_str, cq_slice, cq_bool, -evBuild, -evBuildSlice, Tryd.f73, E_esc, i1, i2, i3, i4, i6, i8, i10, i12, i14, i16, h17, finPan, hf, z24, c24, a24, k24, i24, tq46_0, tq46_1, tq46_2, tc46, ta46, tk46, ti46, tz46, fq0, fq3, fq4, fq5, c3, a3, k3, i3, c2, a2, k2, i2, c22, a22, k22, i22, bq3, bq2]
                      | ok z =>
                        obtain ⟨x, r17⟩ := z
                        rw [e17, ansX_ok] at h17
                        rw [th_ok]
                        have hcx := xcells x
                        have hlx := xlen x
                        have htx := xtake x
                        have hex := xemb x
                        rw [ansX_ok]
                        have hf := fin_X H0 T a l p d (r17) (oneX 25 x)
                        have ho := fun S => ev_one1 (n + 5) 25 x S
                        have hcz := xcells (oneX 25 x)
                        have hlz := xlen (oneX 25 x)
                        have htz := xtake (oneX 25 x)
                        have hez := xemb (oneX 25 x)
                        generalize (oneX 25 x).cells = zc at *
                        generalize (oneX 25 x).emb = ze at *
                        generalize PSt H0 T a l (r17) d = L0 at *
                        generalize PSt H0 T a l (p + 1) d = L1 at *
                        generalize PSt H0 T a l (p) d = L2 at *
                        generalize x.cells = xc at *
                        generalize x.emb = xe at *
                        simp (disch := first | (simp only [List.length_append, List.length_cons, List.length_nil]; omega) | (simp; done) | assumption) [↓evOp_build, ↓evOp_bslice, evB2_int, evB2_bool, evB2_str, evB2_eqi, evB2_nei, evB2_eqn, evB2_nen, evB2_peq, evB2_pne, evB2_req, evB2_rne, evB2_zeq, evB2_zne, isC_c, isC_t, evAssert, Bool.or_true, Bool.true_or, rhoP_nil, rhoP_cons, evCode_skip, evCode_region, evCode_draw, evCode_seq, evCode_cond, evCode_block, evCode_loop, evCode_exit, evCode_ret, seqK_ite, seqK_none, seqK_norm, seqK_ret, seqK_exit, seqK_pan, condK_true, condK_false, condK_bool, blockK_ite, blockK_none, blockK_norm, blockK_ret, blockK_exit, blockK_pan, stepK_ite, stepK_none, stepK_ok, stepK_pan, drawK_ite, drawK_none, drawK_ok, drawK_pan, opK_ite, opK_none, opK_val, opK_pan, wantK_true, wantK_false, wantK_some, afterRegion_ite, afterDraw_ite, fromBody_ite, ite_bool, ite_int, stepA_K, doOp, noOp, lexA_nil, lexA_cons, lexF_nil, lexF_cons, afterDraw, noClash, panIn, lostF, FP.clash, wantedA, evOp, rho, rhoL, ofC0, ofC, argsA, upd, afterRegion, putA, goOp, evBin_add, evBin_sub, evBin_mul, evBin_quo, evBin_rem, evBin_eql, evBin_neq, evBin_lss, evBin_leq, evBin_gtr, evBin_geq, evBin_eqlB, evBin_neqB, evBin_addS, evBin_eqlS, evBin_neqS, evBin_lssS, evBin_leqS, evUn, evConv, evIndex, evBuiltin, evLen, evMin2, evMax2, evCallee, evBox, evLoad, evStore, evFieldAddr, evField, evIndexAddr, evBuild, evBuildSlice, evElems, evSlice, nth, rdc, wrc, fromBody, resA, finRet, oneOf, AV.cells?, AV.isCell, fin_int, fin_bool, fin_str, -AV.cells?, cq_int, cq_str, cq_slice, cq_bool, -evBuild, -evBuildSlice, Tryd.f73, E_esc, i1, i2, i3, i4, i6, i8, i10, i12, i14, i16, h17, hcx, hlx, htx, hex, ho, hcz, hlz, htz, hez, hf, z24, c24, a24, k24, i24, tq46_0, tq46_1, tq46_2, tc46, ta46, tk46, ti46, tz46, fq0, fq3, fq4, fq5, c3, a3, k3, i3, c2, a2, k2, i2, c22, a22, k22, i22, bq3, bq2]
                    · rw [if_neg b16]
                      simp only [Bool.not_eq_true] at b16
                      rw [b16] at i16
                      simp only [Bool.false_eq_true, if_false] at i16
                      have h18 := hT (p)
                      cases e18 : timedP (hereT l) any (p) with
                      | error z =>
                        obtain ⟨c', w⟩ := z
                        rw [e18, ansX_err] at h18
                        rw [ansX_err]
                        have hf := fin_stop H0 T a l p d w c' w
                        generalize PSt H0 T a l (w) d = L0 at *
                        generalize PSt H0 T a l (p) d = L1 at *
                        generalize stopV (hereT l) c' w = sv at *
                        simp (disch := first | (simp only [List.length_append, List.length_cons, List.length_nil]; omega) | (simp; done) | assumption) [↓evOp_build, ↓evOp_bslice, evB2_int, evB2_bool, evB2_str, evB2_eqi, evB2_nei, evB2_eqn, evB2_nen, evB2_peq, evB2_pne, evB2_req, evB2_rne, evB2_zeq, evB2_zne, isC_c, isC_t, evAssert, Bool.or_true, Bool.true_or, rhoP_nil, rhoP_cons, evCode_skip, evCode_region, evCode_draw, evCode_seq, evCode_cond, evCode_block, evCode_loop, evCode_exit, evCode_ret, seqK_ite, seqK_none, seqK_norm, seqK_ret, seqK_exit, seqK_pan, condK_true, condK_false, condK_bool, blockK_ite, blockK_none, blockK_norm, blockK_ret, blockK_exit, blockK_pan, stepK_ite, stepK_none, stepK_ok, stepK_pan, drawK_ite, drawK_none, drawK_ok, drawK_pan, opK_ite, opK_none, opK_val, opK_pan, wantK_true, wantK_false, wantK_some, afterRegion_ite, afterDraw_ite, fromBody_ite, ite_bool, ite_int, stepA_K, doOp, noOp, lexA_nil, lexA_cons, lexF_nil, lexF_cons, afterDraw, noClash, panIn, lostF, FP.clash, wantedA, evOp, rho, rhoL, ofC0, ofC, argsA, upd, afterRegion, putA, goOp, evBin_add, evBin_sub, evBin_mul, evBin_quo, evBin_rem, evBin_eql, evBin_neq, evBin_lss, evBin_leq, evBin_gtr, evBin_geq, evBin_eqlB, evBin_neqB, evBin_addS, evBin_eqlS, evBin_neqS, evBin_lssS, evBin_leqS, evUn, evConv, evIndex, evBuiltin, evLen, evMin2, evMax2, evCallee, evBox, evLoad, evStore, evFieldAddr, evField, evIndexAddr, evBuild, evBuildSlice, evElems, evSlice, nth, rdc, wrc, fromBody, resA, finRet, oneOf, AV.cells?, AV.isCell, fin_int, fin_bool, fin_str, -AV.cells?, cq_int, cq_str, cq_slice, cq_bool, -evBuild, -evBuildSlice, Tryd.f73, E_esc, i1, i2, i3, i4, i6, i8, i10, i12, i14, i16, h18, finPan, hf, z24, c24, a24, k24, i24, tq46_0, tq46_1, tq46_2, tc46, ta46, tk46, ti46, tz46, fq0, fq3, fq4, fq5, c3, a3, k3, i3, c2, a2, k2, i2, c22, a22, k22, i22, bq3, bq2]
                      | ok z =>
                        obtain ⟨x, r18⟩ := z
                        rw [e18, ansX_ok] at h18
                        have hcx := xcells x
                        have hlx := xlen x
                        have htx := xtake x
                        have hex := xemb x
                        rw [ansX_ok]
                        have hf := fin_X H0 T a l p d (r18) (x)
                        generalize PSt H0 T a l (r18) d = L0 at *
                        generalize PSt H0 T a l (p) d = L1 at *
                        generalize x.cells = xc at *
                        generalize x.emb = xe at *
                        simp (disch := first | (simp only [List.length_append, List.length_cons, List.length_nil]; omega) | (simp; done) | assumption) [↓evOp_build, ↓evOp_bslice, evB2_int, evB2_bool, evB2_str, evB2_eqi, evB2_nei, evB2_eqn, evB2_nen, evB2_peq, evB2_pne, evB2_req, evB2_rne, evB2_zeq, evB2_zne, isC_c, isC_t, evAssert, Bool.or_true, Bool.true_or, rhoP_nil, rhoP_cons, evCode_skip, evCode_region, evCode_draw, evCode_seq, evCode_cond, evCode_block, evCode_loop, evCode_exit, evCode_ret, seqK_ite, seqK_none, seqK_norm, seqK_ret, seqK_exit, seqK_pan, condK_true, condK_false, condK_bool, blockK_ite, blockK_none, blockK_norm, blockK_ret, blockK_exit, blockK_pan, stepK_ite, stepK_none, stepK_ok, stepK_pan, drawK_ite, drawK_none, drawK_ok, drawK_pan, opK_ite, opK_none, opK_val, opK_pan, wantK_true, wantK_false, wantK_some, afterRegion_ite, afterDraw_ite, fromBody_ite, ite_bool, ite_int, stepA_K, doOp, noOp, lexA_nil, lexA_cons, lexF_nil, lexF_cons, afterDraw, noClash, panIn, lostF, FP.clash, wantedA, evOp, rho, rhoL, ofC0, ofC, argsA, upd, afterRegion, putA, goOp, evBin_add, evBin_sub, evBin_mul, evBin_quo, evBin_rem, evBin_eql, evBin_neq, evBin_lss, evBin_leq, evBin_gtr, evBin_geq, evBin_eqlB, evBin_neqB, evBin_addS, evBin_eqlS, evBin_neqS, evBin_lssS, evBin_leqS, evUn, evConv, evIndex, evBuiltin, evLen, evMin2, evMax2, evCallee, evBox, evLoad, evStore, evFieldAddr, evField, evIndexAddr, evBuild, evBuildSlice, evElems, evSlice, nth, rdc, wrc, fromBody, resA, finRet, oneOf, AV.cells?, AV.isCell, fin_int, fin_bool, fin_str, -AV.cells?, cq_int, cq_str, cq_slice, cq_bool, -evBuild, -evBuildSlice, Tryd.f73, E_esc, i1, i2, i3, i4, i6, i8, i10, i12, i14, i16, h18, hcx, hlx, htx, hex, hf, z24, c24, a24, k24, i24, tq46_0, tq46_1, tq46_2, tc46, ta46, tk46, ti46, tz46, fq0, fq3, fq4, fq5, c3, a3, k3, i3, c2, a2, k2, i2, c22, a22, k22, i22, bq3, bq2]
end
end Go.Proofs.YtemggoaefohliaaDoor.PS

