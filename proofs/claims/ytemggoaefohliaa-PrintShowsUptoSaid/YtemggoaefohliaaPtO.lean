/- Sets that may be; how deep, evaluated. No condition. -/
import Derived.Test.YtemggoaefohliaaPtN
namespace Go.Proofs.Ytemggoaefohliaa.PT
set_option linter.unusedVariables false
set_option linter.unusedSimpArgs false
open Go AE EX
set_option maxRecDepth 100000

theorem ev_set (n : Nat) (hn : 40 ≤ n) (k : Int) (nm : List UInt8) (a lo hi : Int) (tk : Bool) (kids : List X) (S : St) :
    ∃ b, ev Try.prog E (n + 1) 35 [.agg [.int .i64 k, .str nm, .int .i64 a, .int .i64 lo, .int .i64 hi, .slice (embL kids) (tokOf tk)]] S = some (.ret (.bool b), S) ∧ (b = true → ∀ x ∈ kids, SetKid x) := by
  rw [ev_enter (n := n) (show E.ok 35 = true from rfl) Try.func35 f35b (Nat.le_of_ble_eq_true rfl) (by decide +kernel)]
  have hlen : (embL kids).length = kids.length := by rw [embL_map]; simp
  by_cases hs : kids.length ≤ 8
  · have h8 : ¬ (8 : Int) < kids.length := by omega
    have h8' : ¬ 8 < kids.length := by omega
    have key : ∀ fs, SI n [.int .i64 k, .str nm, .int .i64 a, .int .i64 lo, .int .i64 hi, .slice (embL kids) (tokOf tk)] kids S kids.length fs → ∃ r, iter n (evCode ⟨Try.prog, E.esc 35, n⟩ (ev Try.prog E n) (E.ps 35) n sLoop) fs = some r ∧ SQ kids S r := fun fs h =>
      iter_meas (fun m fs h => set_round n hn _ _ _ _ _ tk kids S hs m fs h) kids.length n fs (by omega) h
    obtain ⟨F, hF⟩ := skolemR key
    have hF1 := fun x h => (hF x h).1
    obtain ⟨⟨o, t, b, v, S'⟩, hr, hS, hq⟩ := key ⟨upd 3 (.int .i64 0) (upd 8 (.bool false) (upd 7 (.int .i64 kids.length) (upd 6 (.slice (embL kids) (tokOf tk)) (upd 5 (.loc n 1 1 5) (upd 2 (.bool false) (upd 1 (.loc n 1 1 0) (argsA [.agg [.int .i64 k, .str nm, .int .i64 a, .int .i64 lo, .int .i64 hi, .slice (embL kids) (tokOf tk)]]))))))),
      upd 1 (1, [.int .i64 k, .str nm, .int .i64 a, .int .i64 lo, .int .i64 hi, .slice (embL kids) (tokOf tk)]) (fun _ => (0, [])), 7, S⟩
      ⟨0, by omega, by simp [upd], by simp [upd], by simp [upd], rfl, by simp⟩
    simp only at hS hq
    subst hS
    rcases hq with ⟨rfl, ha⟩ | ⟨rfl, h2⟩
    · refine ⟨true, ?_, fun _ => ha⟩
      simp (disch := first | (simp only [List.length_append, List.length_cons, List.length_nil]; omega) | (simp; done) | assumption) [evCode_skip, evCode_region, evCode_draw, evCode_seq, evCode_cond, evCode_block, evCode_loop, evCode_exit, evCode_ret, seqK_ite, seqK_none, seqK_norm, seqK_ret, seqK_exit, seqK_pan, condK_true, condK_false, condK_bool, blockK_ite, blockK_none, blockK_norm, blockK_ret, blockK_exit, blockK_pan, stepK_ite, stepK_none, stepK_ok, stepK_pan, drawK_ite, drawK_none, drawK_ok, drawK_pan, opK_ite, opK_none, opK_val, opK_pan, wantK_true, wantK_false, wantK_some, afterRegion_ite, afterDraw_ite, fromBody_ite, ite_bool, ite_int, stepA_K, doOp, noOp, lexA_nil, lexA_cons, lexF_nil, lexF_cons, afterDraw, noClash, FP.clash, wantedA, evOp, rho, rhoL, ofC0, ofC, argsA, upd, afterRegion, putA, goOp, evBin_add, evBin_sub, evBin_mul, evBin_quo, evBin_rem, evBin_eql, evBin_neq, evBin_lss, evBin_leq, evBin_gtr, evBin_geq, evBin_eqlB, evBin_neqB, evBin_addS, evBin_eqlS, evBin_neqS, evBin_lssS, evBin_leqS, evUn, evConv, evIndex, evBuiltin, evLen, evMin2, evMax2, evCallee, evBox, evLoad, evStore, evFieldAddr, evField, evIndexAddr, evBuild, evBuildSlice, evElems, evSlice, nth, rdc, wrc, fromBody, resA, finRet, oneOf, AV.cells?, AV.isCell, fin_int, fin_bool, fin_str, sl0, sl1, sl2, sl3, cutC, bodyOf, Try.f35, E_esc, fq5, k22, c22, a22, sq22, bq3, hlen, h8, h8', hr]
    · refine ⟨false, ?_, by simp⟩
      simp (disch := first | (simp only [List.length_append, List.length_cons, List.length_nil]; omega) | (simp; done) | assumption) [evCode_skip, evCode_region, evCode_draw, evCode_seq, evCode_cond, evCode_block, evCode_loop, evCode_exit, evCode_ret, seqK_ite, seqK_none, seqK_norm, seqK_ret, seqK_exit, seqK_pan, condK_true, condK_false, condK_bool, blockK_ite, blockK_none, blockK_norm, blockK_ret, blockK_exit, blockK_pan, stepK_ite, stepK_none, stepK_ok, stepK_pan, drawK_ite, drawK_none, drawK_ok, drawK_pan, opK_ite, opK_none, opK_val, opK_pan, wantK_true, wantK_false, wantK_some, afterRegion_ite, afterDraw_ite, fromBody_ite, ite_bool, ite_int, stepA_K, doOp, noOp, lexA_nil, lexA_cons, lexF_nil, lexF_cons, afterDraw, noClash, FP.clash, wantedA, evOp, rho, rhoL, ofC0, ofC, argsA, upd, afterRegion, putA, goOp, evBin_add, evBin_sub, evBin_mul, evBin_quo, evBin_rem, evBin_eql, evBin_neq, evBin_lss, evBin_leq, evBin_gtr, evBin_geq, evBin_eqlB, evBin_neqB, evBin_addS, evBin_eqlS, evBin_neqS, evBin_lssS, evBin_leqS, evUn, evConv, evIndex, evBuiltin, evLen, evMin2, evMax2, evCallee, evBox, evLoad, evStore, evFieldAddr, evField, evIndexAddr, evBuild, evBuildSlice, evElems, evSlice, nth, rdc, wrc, fromBody, resA, finRet, oneOf, AV.cells?, AV.isCell, fin_int, fin_bool, fin_str, sl0, sl1, sl2, sl3, cutC, bodyOf, Try.f35, E_esc, fq5, k22, c22, a22, sq22, bq3, hlen, h8, h8', hr, h2]
  · have h8 : (8 : Int) < kids.length := by omega
    have h8' : 8 < kids.length := by omega
    refine ⟨false, ?_, by simp⟩
    simp (disch := first | (simp only [List.length_append, List.length_cons, List.length_nil]; omega) | (simp; done) | assumption) [evCode_skip, evCode_region, evCode_draw, evCode_seq, evCode_cond, evCode_block, evCode_loop, evCode_exit, evCode_ret, seqK_ite, seqK_none, seqK_norm, seqK_ret, seqK_exit, seqK_pan, condK_true, condK_false, condK_bool, blockK_ite, blockK_none, blockK_norm, blockK_ret, blockK_exit, blockK_pan, stepK_ite, stepK_none, stepK_ok, stepK_pan, drawK_ite, drawK_none, drawK_ok, drawK_pan, opK_ite, opK_none, opK_val, opK_pan, wantK_true, wantK_false, wantK_some, afterRegion_ite, afterDraw_ite, fromBody_ite, ite_bool, ite_int, stepA_K, doOp, noOp, lexA_nil, lexA_cons, lexF_nil, lexF_cons, afterDraw, noClash, FP.clash, wantedA, evOp, rho, rhoL, ofC0, ofC, argsA, upd, afterRegion, putA, goOp, evBin_add, evBin_sub, evBin_mul, evBin_quo, evBin_rem, evBin_eql, evBin_neq, evBin_lss, evBin_leq, evBin_gtr, evBin_geq, evBin_eqlB, evBin_neqB, evBin_addS, evBin_eqlS, evBin_neqS, evBin_lssS, evBin_leqS, evUn, evConv, evIndex, evBuiltin, evLen, evMin2, evMax2, evCallee, evBox, evLoad, evStore, evFieldAddr, evField, evIndexAddr, evBuild, evBuildSlice, evElems, evSlice, nth, rdc, wrc, fromBody, resA, finRet, oneOf, AV.cells?, AV.isCell, fin_int, fin_bool, fin_str, sl0, sl1, sl2, sl3, cutC, bodyOf, Try.f35, E_esc, fq5, k22, c22, a22, sq22, bq3, hlen, h8, h8']

/-! ### how deep -/
mutual
def _root_.Go.Proofs.Ytemggoaefohliaa.EX.X.dep : X → Nat
  | .mk k _ _ _ _ _ kids => if k == 4 then 1 else depL kids + 1
def depL : List X → Nat
  | [] => 0
  | x :: l => if depL l < x.dep then x.dep else depL l
end
/-- the deepest of the first ones, as the loop finds it -/
def depF (l : List X) : Nat := l.foldl (fun m x => if m < x.dep then x.dep else m) 0
theorem depF_snoc (l : List X) (x : X) : depF (l ++ [x]) = if depF l < x.dep then x.dep else depF l := by unfold depF; rw [List.foldl_append]; rfl
mutual
theorem dep_size : ∀ x : X, x.dep ≤ x.size
  | .mk k _ _ _ _ _ kids => by
    have := depL_size kids
    simp only [X.dep, X.size]
    split <;> omega
theorem depL_size : ∀ l : List X, depL l ≤ sizeL l
  | [] => by simp [depL]
  | x :: l => by have := dep_size x; have := depL_size l; simp only [depL, sizeL]; split <;> omega
end
theorem foldl_max (l : List X) : ∀ m, l.foldl (fun m x => if m < x.dep then x.dep else m) m = max m (depL l) := by
  induction l with
  | nil => intro m; simp [depL]
  | cons x l ih =>
    intro m
    simp only [List.foldl_cons, ih, depL]
    split <;> split <;> omega
theorem depF_eq (l : List X) : depF l = depL l := by unfold depF; rw [foldl_max]; omega

noncomputable def dpLoop : Code := cutC (bodyOf Try.f32) [1, 1, 1, 0, 1, 0, 0]
noncomputable def dp0 : Code := cutC (bodyOf Try.f32) [0]
noncomputable def dp1 : Code := cutC (bodyOf Try.f32) [1, 0]
noncomputable def dp2 : Code := cutC (bodyOf Try.f32) [1, 1, 0]
noncomputable def dp3 : Code := cutC (bodyOf Try.f32) [1, 1, 1, 0, 0]
noncomputable def dp4 : Code := cutC (bodyOf Try.f32) [1, 1, 1, 1]
theorem f32b : Try.f32.body = some (.seq dp0 (.seq dp1 (.seq dp2 (.seq (.seq dp3 (.block 0 (.loop dpLoop))) dp4)))) := rfl

def DPI (n : Nat) (C : List AV) (kids : List X) (S0 : St) (i : Nat) (fs : FS) : Prop :=
  fs.t 1 = .loc n 1 1 0 ∧ fs.b 1 = (1, C) ∧ fs.t 4 = .int .i64 i ∧ fs.t 3 = .int .i64 (depF (kids.take i)) ∧ fs.S = S0

theorem dep_round (n : Nat) (c0 c1' c2' c3' c4' : AV) (tk : Bool) (kids : List X) (S0 : St) (hs : kids.length ≤ 1099511627776)
    (hrec : ∀ x ∈ kids, ∀ S, ev Try.prog E n 32 [x.emb] S = some (.ret (.int .i64 x.dep), S)) (i : Nat) (hi : i < kids.length) (fs : FS) (h : DPI n [c0, c1', c2', c3', c4', .slice (embL kids) (tokOf tk)] kids S0 i fs) :
    ∃ fs', evCode ⟨Try.prog, E.esc 32, n⟩ (ev Try.prog E n) (E.ps 32) n dpLoop fs = some (.norm, fs') ∧ DPI n [c0, c1', c2', c3', c4', .slice (embL kids) (tokOf tk)] kids S0 (i + 1) fs' := by
  obtain ⟨t, b, v, S⟩ := fs
  obtain ⟨h1, h2, h3, h4, h5⟩ := h
  simp only at h1 h2 h3 h4 h5
  subst h5
  have hlen : (embL kids).length = kids.length := by rw [embL_map]; simp
  have hltz : (i : Int) < kids.length := by omega
  have hxe : kids[i]? = some kids[i] := List.getElem?_eq_getElem hi
  have hr := hrec kids[i] (List.getElem_mem hi) S
  have hsplit : kids.take (i + 1) = kids.take i ++ [kids[i]] := by rw [List.take_add_one, hxe]; rfl
  have hd : depF (kids.take (i + 1)) = if depF (kids.take i) < kids[i].dep then kids[i].dep else depF (kids.take i) := by rw [hsplit, depF_snoc]
  have hemb : (embL kids)[i]? = some kids[i].emb := by rw [embL_map, List.getElem?_map, hxe]; rfl
  have ha1 := cells_all kids[i]
  have hc1 := (cells_ok kids[i]).2
  have ht1 : List.take 6 kids[i].cells = kids[i].cells := List.take_of_length_le (by omega)
  rw [emb_cells] at hemb hr
  generalize kids[i].dep = d at *
  generalize kids[i].cells = C1 at *
  generalize depF (kids.take i) = e at *
  have hw : IntKind.i64.wrap ((i : Int) + 1) = (i : Int) + 1 := wrap64 _ (by omega)
  obtain ⟨z, hz⟩ := ii24
  by_cases hlt : e < d
  · have hltz' : (e : Int) < d := by omega
    refine ⟨_, by
      simp (disch := first | (simp only [List.length_append, List.length_cons, List.length_nil]; omega) | (simp; done) | assumption) [evCode_skip, evCode_region, evCode_draw, evCode_seq, evCode_cond, evCode_block, evCode_loop, evCode_exit, evCode_ret, seqK_ite, seqK_none, seqK_norm, seqK_ret, seqK_exit, seqK_pan, condK_true, condK_false, condK_bool, blockK_ite, blockK_none, blockK_norm, blockK_ret, blockK_exit, blockK_pan, stepK_ite, stepK_none, stepK_ok, stepK_pan, drawK_ite, drawK_none, drawK_ok, drawK_pan, opK_ite, opK_none, opK_val, opK_pan, wantK_true, wantK_false, wantK_some, afterRegion_ite, afterDraw_ite, fromBody_ite, ite_bool, ite_int, stepA_K, doOp, noOp, lexA_nil, lexA_cons, lexF_nil, lexF_cons, afterDraw, noClash, FP.clash, wantedA, evOp, rho, rhoL, ofC0, ofC, argsA, upd, afterRegion, putA, goOp, evBin_add, evBin_sub, evBin_mul, evBin_quo, evBin_rem, evBin_eql, evBin_neq, evBin_lss, evBin_leq, evBin_gtr, evBin_geq, evBin_eqlB, evBin_neqB, evBin_addS, evBin_eqlS, evBin_neqS, evBin_lssS, evBin_leqS, evUn, evConv, evIndex, evBuiltin, evLen, evMin2, evMax2, evCallee, evBox, evLoad, evStore, evFieldAddr, evField, evIndexAddr, evBuild, evBuildSlice, evElems, evSlice, nth, rdc, wrc, fromBody, resA, finRet, oneOf, AV.cells?, AV.isCell, fin_int, fin_bool, fin_str, dpLoop, cutC, bodyOf, Try.f32, E_esc, h1, h2, h3, h4, fq5, k22, c22, a22, k24, c24, a24, i24, hz, sq22, bq3, hlen, hi, hltz, hemb, hr, ha1, hc1, ht1, hlt, hltz']
      rfl, by simp [upd, h1], by simp [upd, h2], by simp [upd, hw], by rw [hd, if_pos hlt]; simp [upd], rfl⟩
  · have hltz' : ¬ (e : Int) < d := by omega
    refine ⟨_, by
      simp (disch := first | (simp only [List.length_append, List.length_cons, List.length_nil]; omega) | (simp; done) | assumption) [evCode_skip, evCode_region, evCode_draw, evCode_seq, evCode_cond, evCode_block, evCode_loop, evCode_exit, evCode_ret, seqK_ite, seqK_none, seqK_norm, seqK_ret, seqK_exit, seqK_pan, condK_true, condK_false, condK_bool, blockK_ite, blockK_none, blockK_norm, blockK_ret, blockK_exit, blockK_pan, stepK_ite, stepK_none, stepK_ok, stepK_pan, drawK_ite, drawK_none, drawK_ok, drawK_pan, opK_ite, opK_none, opK_val, opK_pan, wantK_true, wantK_false, wantK_some, afterRegion_ite, afterDraw_ite, fromBody_ite, ite_bool, ite_int, stepA_K, doOp, noOp, lexA_nil, lexA_cons, lexF_nil, lexF_cons, afterDraw, noClash, FP.clash, wantedA, evOp, rho, rhoL, ofC0, ofC, argsA, upd, afterRegion, putA, goOp, evBin_add, evBin_sub, evBin_mul, evBin_quo, evBin_rem, evBin_eql, evBin_neq, evBin_lss, evBin_leq, evBin_gtr, evBin_geq, evBin_eqlB, evBin_neqB, evBin_addS, evBin_eqlS, evBin_neqS, evBin_lssS, evBin_leqS, evUn, evConv, evIndex, evBuiltin, evLen, evMin2, evMax2, evCallee, evBox, evLoad, evStore, evFieldAddr, evField, evIndexAddr, evBuild, evBuildSlice, evElems, evSlice, nth, rdc, wrc, fromBody, resA, finRet, oneOf, AV.cells?, AV.isCell, fin_int, fin_bool, fin_str, dpLoop, cutC, bodyOf, Try.f32, E_esc, h1, h2, h3, h4, fq5, k22, c22, a22, k24, c24, a24, i24, hz, sq22, bq3, hlen, hi, hltz, hemb, hr, ha1, hc1, ht1, hlt, hltz']
      rfl, by simp [upd, h1], by simp [upd, h2], by simp [upd, hw], by rw [hd, if_neg hlt]; simp [upd, h4], rfl⟩

theorem ev_Depth : ∀ (m : Nat) (x : X), x.size ≤ m → m ≤ 1048576 → ∀ n, m + 2 ≤ n → ∀ S, ev Try.prog E n 32 [x.emb] S = some (.ret (.int .i64 x.dep), S)
  | 0, x, hm, _, _, _, _ => absurd hm (by have := size_pos x; omega)
  | m + 1, x, hm, hmm, n, hn, S => by
    obtain ⟨n, rfl⟩ : ∃ k, n = k + 1 := ⟨n - 1, by omega⟩
    have hds := dep_size x
    obtain ⟨k, nm, a, lo, hi, tk, kids⟩ := x
    simp only [X.size] at hm hds
    have hl := sizeL_length kids
    have hlen : (embL kids).length = kids.length := by rw [embL_map]; simp
    simp only [X.emb]
    rw [ev_enter (n := n) (show E.ok 32 = true from rfl) Try.func32 f32b (Nat.le_of_ble_eq_true rfl) (by decide +kernel)]
    cases h4 : k == 4
    · have key : ∀ fs, DPI n [.int .i64 k, .str nm, .int .i64 a, .int .i64 lo, .int .i64 hi, .slice (embL kids) (tokOf tk)] kids S 0 fs → ∃ fs', iter n (evCode ⟨Try.prog, E.esc 32, n⟩ (ev Try.prog E n) (E.ps 32) n dpLoop) fs = some (.exit 0, fs') ∧
          DPI n [.int .i64 k, .str nm, .int .i64 a, .int .i64 lo, .int .i64 hi, .slice (embL kids) (tokOf tk)] kids S kids.length fs' := fun fs h => by
        obtain ⟨⟨o, fs'⟩, r1, r2, r3⟩ := iter_range (Q := fun r => r.1 = .exit 0 ∧ DPI n [.int .i64 k, .str nm, .int .i64 a, .int .i64 lo, .int .i64 hi, .slice (embL kids) (tokOf tk)] kids S kids.length r.2) (len := kids.length)
          (fun i hi' fs h => dep_round n _ _ _ _ _ tk kids S (by omega) (fun x hx S => ev_Depth m x (by have := sizeL_mem hx; omega) (by omega) n (by omega) S) i hi' fs h)
          (fun fs h => by
            obtain ⟨t, b, v, S'⟩ := fs
            obtain ⟨h1, h2, h3, h4, h5⟩ := h
            simp only at h1 h2 h3 h4 h5
            refine ⟨.exit 0, _, by
              simp (disch := first | (simp only [List.length_append, List.length_cons, List.length_nil]; omega) | (simp; done) | assumption) [evCode_skip, evCode_region, evCode_draw, evCode_seq, evCode_cond, evCode_block, evCode_loop, evCode_exit, evCode_ret, seqK_ite, seqK_none, seqK_norm, seqK_ret, seqK_exit, seqK_pan, condK_true, condK_false, condK_bool, blockK_ite, blockK_none, blockK_norm, blockK_ret, blockK_exit, blockK_pan, stepK_ite, stepK_none, stepK_ok, stepK_pan, drawK_ite, drawK_none, drawK_ok, drawK_pan, opK_ite, opK_none, opK_val, opK_pan, wantK_true, wantK_false, wantK_some, afterRegion_ite, afterDraw_ite, fromBody_ite, ite_bool, ite_int, stepA_K, doOp, noOp, lexA_nil, lexA_cons, lexF_nil, lexF_cons, afterDraw, noClash, FP.clash, wantedA, evOp, rho, rhoL, ofC0, ofC, argsA, upd, afterRegion, putA, goOp, evBin_add, evBin_sub, evBin_mul, evBin_quo, evBin_rem, evBin_eql, evBin_neq, evBin_lss, evBin_leq, evBin_gtr, evBin_geq, evBin_eqlB, evBin_neqB, evBin_addS, evBin_eqlS, evBin_neqS, evBin_lssS, evBin_leqS, evUn, evConv, evIndex, evBuiltin, evLen, evMin2, evMax2, evCallee, evBox, evLoad, evStore, evFieldAddr, evField, evIndexAddr, evBuild, evBuildSlice, evElems, evSlice, nth, rdc, wrc, fromBody, resA, finRet, oneOf, AV.cells?, AV.isCell, fin_int, fin_bool, fin_str, dpLoop, cutC, bodyOf, Try.f32, h1, h2, h3, fq5, k22, c22, a22, bq3, sq22, hlen]
              rfl, by simp, rfl, by simp [upd, h1], by simp [upd, h2], by simp [upd, h3], by simp [upd, h4], h5⟩) kids.length 0 n fs (by omega) (by omega) h
        simp only at r2
        subst r2
        exact ⟨fs', r1, r3⟩
      obtain ⟨⟨t, b, v, S'⟩, hr, g1, g2, g3, g4, g5⟩ := key ⟨upd 4 (.int .i64 0) (upd 3 (.int .i64 0) (upd 8 (.bool false) (upd 7 (.int .i64 k) (upd 6 (.loc n 1 1 0) (upd 2 (.int .i64 0) (upd 1 (.loc n 1 1 0) (argsA [.agg [.int .i64 k, .str nm, .int .i64 a, .int .i64 lo, .int .i64 hi, .slice (embL kids) (tokOf tk)]]))))))),
        upd 1 (1, [.int .i64 k, .str nm, .int .i64 a, .int .i64 lo, .int .i64 hi, .slice (embL kids) (tokOf tk)]) (fun _ => (0, [])), 7, S⟩
        ⟨by simp [upd], by simp [upd], by simp [upd], by simp [upd, depF], rfl⟩
      simp only at g1 g2 g3 g4 g5
      subst g5
      rw [List.take_length, depF_eq] at g4
      have w1 : IntKind.i64.wrap ((depL kids : Int) + 1) = (depL kids : Int) + 1 := wrap64 _ (by have := depL_size kids; omega)
      simp (disch := first | (simp only [List.length_append, List.length_cons, List.length_nil]; omega) | (simp; done) | assumption) [evCode_skip, evCode_region, evCode_draw, evCode_seq, evCode_cond, evCode_block, evCode_loop, evCode_exit, evCode_ret, seqK_ite, seqK_none, seqK_norm, seqK_ret, seqK_exit, seqK_pan, condK_true, condK_false, condK_bool, blockK_ite, blockK_none, blockK_norm, blockK_ret, blockK_exit, blockK_pan, stepK_ite, stepK_none, stepK_ok, stepK_pan, drawK_ite, drawK_none, drawK_ok, drawK_pan, opK_ite, opK_none, opK_val, opK_pan, wantK_true, wantK_false, wantK_some, afterRegion_ite, afterDraw_ite, fromBody_ite, ite_bool, ite_int, stepA_K, doOp, noOp, lexA_nil, lexA_cons, lexF_nil, lexF_cons, afterDraw, noClash, FP.clash, wantedA, evOp, rho, rhoL, ofC0, ofC, argsA, upd, afterRegion, putA, goOp, evBin_add, evBin_sub, evBin_mul, evBin_quo, evBin_rem, evBin_eql, evBin_neq, evBin_lss, evBin_leq, evBin_gtr, evBin_geq, evBin_eqlB, evBin_neqB, evBin_addS, evBin_eqlS, evBin_neqS, evBin_lssS, evBin_leqS, evUn, evConv, evIndex, evBuiltin, evLen, evMin2, evMax2, evCallee, evBox, evLoad, evStore, evFieldAddr, evField, evIndexAddr, evBuild, evBuildSlice, evElems, evSlice, nth, rdc, wrc, fromBody, resA, finRet, oneOf, AV.cells?, AV.isCell, fin_int, fin_bool, fin_str, dp0, dp1, dp2, dp3, dp4, cutC, bodyOf, Try.f32, E_esc, k3, c3, a3, fq0, bq3, h4, hr, g4, w1, X.dep]
    · simp (disch := first | (simp only [List.length_append, List.length_cons, List.length_nil]; omega) | (simp; done) | assumption) [evCode_skip, evCode_region, evCode_draw, evCode_seq, evCode_cond, evCode_block, evCode_loop, evCode_exit, evCode_ret, seqK_ite, seqK_none, seqK_norm, seqK_ret, seqK_exit, seqK_pan, condK_true, condK_false, condK_bool, blockK_ite, blockK_none, blockK_norm, blockK_ret, blockK_exit, blockK_pan, stepK_ite, stepK_none, stepK_ok, stepK_pan, drawK_ite, drawK_none, drawK_ok, drawK_pan, opK_ite, opK_none, opK_val, opK_pan, wantK_true, wantK_false, wantK_some, afterRegion_ite, afterDraw_ite, fromBody_ite, ite_bool, ite_int, stepA_K, doOp, noOp, lexA_nil, lexA_cons, lexF_nil, lexF_cons, afterDraw, noClash, FP.clash, wantedA, evOp, rho, rhoL, ofC0, ofC, argsA, upd, afterRegion, putA, goOp, evBin_add, evBin_sub, evBin_mul, evBin_quo, evBin_rem, evBin_eql, evBin_neq, evBin_lss, evBin_leq, evBin_gtr, evBin_geq, evBin_eqlB, evBin_neqB, evBin_addS, evBin_eqlS, evBin_neqS, evBin_lssS, evBin_leqS, evUn, evConv, evIndex, evBuiltin, evLen, evMin2, evMax2, evCallee, evBox, evLoad, evStore, evFieldAddr, evField, evIndexAddr, evBuild, evBuildSlice, evElems, evSlice, nth, rdc, wrc, fromBody, resA, finRet, oneOf, AV.cells?, AV.isCell, fin_int, fin_bool, fin_str, dp0, dp1, dp2, dp3, dp4, cutC, bodyOf, Try.f32, E_esc, k3, c3, a3, fq0, bq3, h4, X.dep]
end Go.Proofs.Ytemggoaefohliaa.PT
