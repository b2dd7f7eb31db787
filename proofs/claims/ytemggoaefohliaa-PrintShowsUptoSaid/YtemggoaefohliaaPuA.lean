/- Are two expressions alike, evaluated. No condition. -/
import Derived.Test.YtemggoaefohliaaPtS
namespace Go.Proofs.Ytemggoaefohliaa.PT
set_option linter.unusedVariables false
set_option linter.unusedSimpArgs false
open Go AE EX
set_option maxRecDepth 100000

mutual
def _root_.Go.Proofs.Ytemggoaefohliaa.EX.X.same : X → X → Bool
  | .mk k nm n lo hi _ ks, .mk k' nm' n' lo' hi' _ ks' => k == k' && nm == nm' && n == n' && lo == lo' && hi == hi' && ks.length == ks'.length && sameL ks ks'
def sameL : List X → List X → Bool
  | [], [] => true
  | a :: l, b :: m => a.same b && sameL l m
  | _, _ => false
end
theorem sameL_append : ∀ (a a' b b' : List X), a.length = a'.length → sameL (a ++ b) (a' ++ b') = (sameL a a' && sameL b b')
  | [], [], b, b', _ => by simp [sameL]
  | x :: a, y :: a', b, b', h => by
    simp only [List.cons_append, sameL, sameL_append a a' b b' (by simpa using h), Bool.and_assoc]
  | [], _ :: _, _, _, h => by simp at h
  | _ :: _, [], _, _, h => by simp at h

noncomputable def eLoop : Code := cutC (bodyOf Try.f19) [1, 1, 0, 1, 0, 0]
noncomputable def el0 : Code := cutC (bodyOf Try.f19) [0]
noncomputable def el1 : Code := cutC (bodyOf Try.f19) [1, 0]
noncomputable def el2 : Code := cutC (bodyOf Try.f19) [1, 1, 0, 0]
noncomputable def el3 : Code := cutC (bodyOf Try.f19) [1, 1, 1]
theorem f19b : Try.f19.body = some (.seq el0 (.seq el1 (.seq (.seq el2 (.block 0 (.loop eLoop))) el3))) := rfl

def EI (n : Nat) (C D : List AV) (ks ks' : List X) (S0 : St) (m : Nat) (fs : FS) : Prop :=
  ∃ i, i + m = ks.length ∧ fs.t 2 = .loc n 2 1 0 ∧ fs.t 3 = .loc n 3 2 0 ∧ fs.b 2 = (1, C) ∧ fs.b 3 = (2, D) ∧ fs.t 5 = .int .i64 i ∧ fs.S = S0 ∧ sameL (ks.take i) (ks'.take i) = true
def EQ (ks ks' : List X) (S0 : St) (r : Out × FS) : Prop :=
  r.2.S = S0 ∧ ((r.1 = .exit 0 ∧ sameL ks ks' = true) ∨ (r.1 = .ret ∧ r.2.t 4 = .bool false ∧ sameL ks ks' = false))

theorem same_round (n : Nat) (c0 c1' c2' c3' c4' d0 d1 d2 d3 d4 : AV) (tk tk' : Bool) (ks ks' : List X) (S0 : St) (hs : ks.length ≤ 1048576) (hl : ks'.length = ks.length)
    (hrec : ∀ x ∈ ks, ∀ y ∈ ks', ∀ S, ev Try.prog E n 19 [x.emb, y.emb] S = some (.ret (.bool (x.same y)), S)) (m : Nat) (fs : FS)
    (h : EI n [c0, c1', c2', c3', c4', .slice (embL ks) (tokOf tk)] [d0, d1, d2, d3, d4, .slice (embL ks') (tokOf tk')] ks ks' S0 m fs) :
    ∃ o fs', evCode ⟨Try.prog, E.esc 19, n⟩ (ev Try.prog E n) (E.ps 19) n eLoop fs = some (o, fs') ∧
      ((o = .norm ∧ ∃ m', m' < m ∧ EI n [c0, c1', c2', c3', c4', .slice (embL ks) (tokOf tk)] [d0, d1, d2, d3, d4, .slice (embL ks') (tokOf tk')] ks ks' S0 m' fs') ∨ (o ≠ .norm ∧ EQ ks ks' S0 (o, fs'))) := by
  obtain ⟨t, b, v, S⟩ := fs
  obtain ⟨i, hi, h1, h2, h3, h4, h5, h6, h7⟩ := h
  simp only at h1 h2 h3 h4 h5 h6
  subst h6
  have hlen := embL_length ks
  have hlen' := embL_length ks'
  cases m with
  | zero =>
    have hi : i = ks.length := by omega
    subst hi
    refine ⟨.exit 0, _, by
      simp (disch := first | (simp only [List.length_append, List.length_cons, List.length_nil]; omega) | (simp; done) | assumption) [evCode_skip, evCode_region, evCode_draw, evCode_seq, evCode_cond, evCode_block, evCode_loop, evCode_exit, evCode_ret, seqK_ite, seqK_none, seqK_norm, seqK_ret, seqK_exit, seqK_pan, condK_true, condK_false, condK_bool, blockK_ite, blockK_none, blockK_norm, blockK_ret, blockK_exit, blockK_pan, stepK_ite, stepK_none, stepK_ok, stepK_pan, drawK_ite, drawK_none, drawK_ok, drawK_pan, opK_ite, opK_none, opK_val, opK_pan, wantK_true, wantK_false, wantK_some, afterRegion_ite, afterDraw_ite, fromBody_ite, ite_bool, ite_int, stepA_K, doOp, noOp, lexA_nil, lexA_cons, lexF_nil, lexF_cons, afterDraw, noClash, FP.clash, wantedA, evOp, rho, rhoL, ofC0, ofC, argsA, upd, afterRegion, putA, goOp, evBin_add, evBin_sub, evBin_mul, evBin_quo, evBin_rem, evBin_eql, evBin_neq, evBin_lss, evBin_leq, evBin_gtr, evBin_geq, evBin_eqlB, evBin_neqB, evBin_addS, evBin_eqlS, evBin_neqS, evBin_lssS, evBin_leqS, evUn, evConv, evIndex, evBuiltin, evLen, evMin2, evMax2, evCallee, evBox, evLoad, evStore, evFieldAddr, evField, evIndexAddr, evBuild, evBuildSlice, evElems, evSlice, nth, rdc, wrc, fromBody, resA, finRet, oneOf, AV.cells?, AV.isCell, fin_int, fin_bool, fin_str, eLoop, cutC, bodyOf, Try.f19, h1, h2, h3, h4, h5, fq5, k22, c22, a22, sq22, bq3, hlen]
      rfl, .inr ⟨by simp, rfl, .inl ⟨rfl, by rw [List.take_length, ← hl, List.take_length] at h7; exact h7⟩⟩⟩
  | succ m =>
    have hlt : i < ks.length := by omega
    have hlt' : i < ks'.length := by omega
    have hltz : (i : Int) < ks.length := by omega
    have hxe : ks[i]? = some ks[i] := List.getElem?_eq_getElem hlt
    have hye : ks'[i]? = some ks'[i] := List.getElem?_eq_getElem hlt'
    have hr := hrec ks[i] (List.getElem_mem hlt) ks'[i] (List.getElem_mem hlt') S
    have hemb : (embL ks)[i]? = some ks[i].emb := by rw [embL_map, List.getElem?_map, hxe]; rfl
    have hemb' : (embL ks')[i]? = some ks'[i].emb := by rw [embL_map, List.getElem?_map, hye]; rfl
    have t1 : ks.take (i + 1) = ks.take i ++ [ks[i]] := by rw [List.take_add_one, hxe]; rfl
    have t2 : ks'.take (i + 1) = ks'.take i ++ [ks'[i]] := by rw [List.take_add_one, hye]; rfl
    have hw : IntKind.i64.wrap ((i : Int) + 1) = (i : Int) + 1 := wrap64 _ (by omega)
    have ha1 := cells_all ks[i]
    have hc1 := (cells_ok ks[i]).2
    have ht1 : List.take 6 ks[i].cells = ks[i].cells := List.take_of_length_le (by omega)
    have ha2 := cells_all ks'[i]
    have hc2 := (cells_ok ks'[i]).2
    have ht2 : List.take 6 ks'[i].cells = ks'[i].cells := List.take_of_length_le (by omega)
    have hps : E.ps 19 6 = [(1, 6), (4, 6), (1, 9), (4, 9)] := rfl
    obtain ⟨z, hz⟩ := ii24
    rw [emb_cells] at hemb hemb'
    rw [emb_cells, emb_cells] at hr
    have hst : sameL (ks.take (i + 1)) (ks'.take (i + 1)) = ks[i].same ks'[i] := by
      rw [t1, t2, sameL_append _ _ _ _ (by simp; omega), h7]
      simp [sameL]
    cases e1 : ks[i].same ks'[i]
    · rw [e1] at hr hst
      have hbad : sameL ks ks' = false := by
        have : sameL (ks.take (i + 1) ++ ks.drop (i + 1)) (ks'.take (i + 1) ++ ks'.drop (i + 1)) = false := by
          rw [sameL_append _ _ _ _ (by simp; omega), hst]; rfl
        rwa [List.take_append_drop, List.take_append_drop] at this
      generalize ks[i].cells = C1 at *
      generalize ks'[i].cells = C2 at *
      refine ⟨.ret, _, by
        simp (disch := first | (simp only [List.length_append, List.length_cons, List.length_nil]; omega) | (simp; done) | assumption) [evCode_skip, evCode_region, evCode_draw, evCode_seq, evCode_cond, evCode_block, evCode_loop, evCode_exit, evCode_ret, seqK_ite, seqK_none, seqK_norm, seqK_ret, seqK_exit, seqK_pan, condK_true, condK_false, condK_bool, blockK_ite, blockK_none, blockK_norm, blockK_ret, blockK_exit, blockK_pan, stepK_ite, stepK_none, stepK_ok, stepK_pan, drawK_ite, drawK_none, drawK_ok, drawK_pan, opK_ite, opK_none, opK_val, opK_pan, wantK_true, wantK_false, wantK_some, afterRegion_ite, afterDraw_ite, fromBody_ite, ite_bool, ite_int, stepA_K, doOp, noOp, lexA_nil, lexA_cons, lexF_nil, lexF_cons, afterDraw, noClash, FP.clash, wantedA, evOp, rho, rhoL, ofC0, ofC, argsA, upd, afterRegion, putA, goOp, evBin_add, evBin_sub, evBin_mul, evBin_quo, evBin_rem, evBin_eql, evBin_neq, evBin_lss, evBin_leq, evBin_gtr, evBin_geq, evBin_eqlB, evBin_neqB, evBin_addS, evBin_eqlS, evBin_neqS, evBin_lssS, evBin_leqS, evUn, evConv, evIndex, evBuiltin, evLen, evMin2, evMax2, evCallee, evBox, evLoad, evStore, evFieldAddr, evField, evIndexAddr, evBuild, evBuildSlice, evElems, evSlice, nth, rdc, wrc, fromBody, resA, finRet, oneOf, AV.cells?, AV.isCell, fin_int, fin_bool, fin_str, eLoop, cutC, bodyOf, Try.f19, E_esc, h1, h2, h3, h4, h5, fq5, k22, c22, a22, k24, c24, a24, i24, hz, sq22, bq3, hlen, hlen', hlt, hltz, hemb, hemb', hr, hps, ha1, hc1, ht1, ha2, hc2, ht2]
        rfl, .inr ⟨by simp, rfl, .inr ⟨rfl, by simp [upd], hbad⟩⟩⟩
    · rw [e1] at hr hst
      generalize ks[i].cells = C1 at *
      generalize ks'[i].cells = C2 at *
      refine ⟨.norm, _, by
        simp (disch := first | (simp only [List.length_append, List.length_cons, List.length_nil]; omega) | (simp; done) | assumption) [evCode_skip, evCode_region, evCode_draw, evCode_seq, evCode_cond, evCode_block, evCode_loop, evCode_exit, evCode_ret, seqK_ite, seqK_none, seqK_norm, seqK_ret, seqK_exit, seqK_pan, condK_true, condK_false, condK_bool, blockK_ite, blockK_none, blockK_norm, blockK_ret, blockK_exit, blockK_pan, stepK_ite, stepK_none, stepK_ok, stepK_pan, drawK_ite, drawK_none, drawK_ok, drawK_pan, opK_ite, opK_none, opK_val, opK_pan, wantK_true, wantK_false, wantK_some, afterRegion_ite, afterDraw_ite, fromBody_ite, ite_bool, ite_int, stepA_K, doOp, noOp, lexA_nil, lexA_cons, lexF_nil, lexF_cons, afterDraw, noClash, FP.clash, wantedA, evOp, rho, rhoL, ofC0, ofC, argsA, upd, afterRegion, putA, goOp, evBin_add, evBin_sub, evBin_mul, evBin_quo, evBin_rem, evBin_eql, evBin_neq, evBin_lss, evBin_leq, evBin_gtr, evBin_geq, evBin_eqlB, evBin_neqB, evBin_addS, evBin_eqlS, evBin_neqS, evBin_lssS, evBin_leqS, evUn, evConv, evIndex, evBuiltin, evLen, evMin2, evMax2, evCallee, evBox, evLoad, evStore, evFieldAddr, evField, evIndexAddr, evBuild, evBuildSlice, evElems, evSlice, nth, rdc, wrc, fromBody, resA, finRet, oneOf, AV.cells?, AV.isCell, fin_int, fin_bool, fin_str, eLoop, cutC, bodyOf, Try.f19, E_esc, h1, h2, h3, h4, h5, fq5, k22, c22, a22, k24, c24, a24, i24, hz, sq22, bq3, hlen, hlen', hlt, hltz, hemb, hemb', hr, hps, ha1, hc1, ht1, ha2, hc2, ht2]
        rfl, .inl ⟨rfl, m, by omega, i + 1, by omega, by simp [upd, h1], by simp [upd, h2], by simp [upd, h3], by simp [upd, h4], by simp [upd, hw], rfl, hst⟩⟩

theorem ev_same : ∀ (m : Nat) (x y : X), x.size ≤ m → y.size ≤ 1048576 → m ≤ 1048576 → ∀ n, m + 2 ≤ n → ∀ S, ev Try.prog E n 19 [x.emb, y.emb] S = some (.ret (.bool (x.same y)), S)
  | 0, x, _, hm, _, _, _, _, _ => absurd hm (by have := size_pos x; omega)
  | m + 1, x, y, hm, hy, hmm, n, hn, S => by
    obtain ⟨n, rfl⟩ : ∃ k, n = k + 1 := ⟨n - 1, by omega⟩
    obtain ⟨k, nm, a, lo, hi, tk, ks⟩ := x
    obtain ⟨k', nm', a', lo', hi', tk', ks'⟩ := y
    simp only [X.size] at hm hy
    have hl := sizeL_length ks
    have hl' := sizeL_length ks'
    have hlen := embL_length ks
    have hlen' := embL_length ks'
    simp only [X.emb]
    rw [ev_enter (n := n) (show E.ok 19 = true from rfl) Try.func19 f19b (Nat.le_of_ble_eq_true rfl) (by decide +kernel)]
    cases h0 : (k == k')
    · have hx : (X.mk k nm a lo hi tk ks).same (.mk k' nm' a' lo' hi' tk' ks') = false := by simp only [X.same, h0]; simp
      rw [hx]
      simp (disch := first | (simp only [List.length_append, List.length_cons, List.length_nil]; omega) | (simp; done) | assumption) [evCode_skip, evCode_region, evCode_draw, evCode_seq, evCode_cond, evCode_block, evCode_loop, evCode_exit, evCode_ret, seqK_ite, seqK_none, seqK_norm, seqK_ret, seqK_exit, seqK_pan, condK_true, condK_false, condK_bool, blockK_ite, blockK_none, blockK_norm, blockK_ret, blockK_exit, blockK_pan, stepK_ite, stepK_none, stepK_ok, stepK_pan, drawK_ite, drawK_none, drawK_ok, drawK_pan, opK_ite, opK_none, opK_val, opK_pan, wantK_true, wantK_false, wantK_some, afterRegion_ite, afterDraw_ite, fromBody_ite, ite_bool, ite_int, stepA_K, doOp, noOp, lexA_nil, lexA_cons, lexF_nil, lexF_cons, afterDraw, noClash, FP.clash, wantedA, evOp, rho, rhoL, ofC0, ofC, argsA, upd, afterRegion, putA, goOp, evBin_add, evBin_sub, evBin_mul, evBin_quo, evBin_rem, evBin_eql, evBin_neq, evBin_lss, evBin_leq, evBin_gtr, evBin_geq, evBin_eqlB, evBin_neqB, evBin_addS, evBin_eqlS, evBin_neqS, evBin_lssS, evBin_leqS, evUn, evConv, evIndex, evBuiltin, evLen, evMin2, evMax2, evCallee, evBox, evLoad, evStore, evFieldAddr, evField, evIndexAddr, evBuild, evBuildSlice, evElems, evSlice, nth, rdc, wrc, fromBody, resA, finRet, oneOf, AV.cells?, AV.isCell, fin_int, fin_bool, fin_str, el0, el1, el2, el3, cutC, bodyOf, Try.f19, E_esc, k24, c24, a24, k3, c3, a3, k2, c2, a2, k9, c9, a9, k22, c22, a22, fq0, fq1, fq2, fq3, fq4, fq5, sq22, bq3, bq2, bq9, bne, hlen, hlen', -AV.isCell, h0]
    cases h1 : (nm == nm')
    · have hx : (X.mk k nm a lo hi tk ks).same (.mk k' nm' a' lo' hi' tk' ks') = false := by simp only [X.same, h0, h1]; simp
      rw [hx]
      simp (disch := first | (simp only [List.length_append, List.length_cons, List.length_nil]; omega) | (simp; done) | assumption) [evCode_skip, evCode_region, evCode_draw, evCode_seq, evCode_cond, evCode_block, evCode_loop, evCode_exit, evCode_ret, seqK_ite, seqK_none, seqK_norm, seqK_ret, seqK_exit, seqK_pan, condK_true, condK_false, condK_bool, blockK_ite, blockK_none, blockK_norm, blockK_ret, blockK_exit, blockK_pan, stepK_ite, stepK_none, stepK_ok, stepK_pan, drawK_ite, drawK_none, drawK_ok, drawK_pan, opK_ite, opK_none, opK_val, opK_pan, wantK_true, wantK_false, wantK_some, afterRegion_ite, afterDraw_ite, fromBody_ite, ite_bool, ite_int, stepA_K, doOp, noOp, lexA_nil, lexA_cons, lexF_nil, lexF_cons, afterDraw, noClash, FP.clash, wantedA, evOp, rho, rhoL, ofC0, ofC, argsA, upd, afterRegion, putA, goOp, evBin_add, evBin_sub, evBin_mul, evBin_quo, evBin_rem, evBin_eql, evBin_neq, evBin_lss, evBin_leq, evBin_gtr, evBin_geq, evBin_eqlB, evBin_neqB, evBin_addS, evBin_eqlS, evBin_neqS, evBin_lssS, evBin_leqS, evUn, evConv, evIndex, evBuiltin, evLen, evMin2, evMax2, evCallee, evBox, evLoad, evStore, evFieldAddr, evField, evIndexAddr, evBuild, evBuildSlice, evElems, evSlice, nth, rdc, wrc, fromBody, resA, finRet, oneOf, AV.cells?, AV.isCell, fin_int, fin_bool, fin_str, el0, el1, el2, el3, cutC, bodyOf, Try.f19, E_esc, k24, c24, a24, k3, c3, a3, k2, c2, a2, k9, c9, a9, k22, c22, a22, fq0, fq1, fq2, fq3, fq4, fq5, sq22, bq3, bq2, bq9, bne, hlen, hlen', -AV.isCell, h0, h1]
    cases h2 : (a == a')
    · have hx : (X.mk k nm a lo hi tk ks).same (.mk k' nm' a' lo' hi' tk' ks') = false := by simp only [X.same, h0, h1, h2]; simp
      rw [hx]
      simp (disch := first | (simp only [List.length_append, List.length_cons, List.length_nil]; omega) | (simp; done) | assumption) [evCode_skip, evCode_region, evCode_draw, evCode_seq, evCode_cond, evCode_block, evCode_loop, evCode_exit, evCode_ret, seqK_ite, seqK_none, seqK_norm, seqK_ret, seqK_exit, seqK_pan, condK_true, condK_false, condK_bool, blockK_ite, blockK_none, blockK_norm, blockK_ret, blockK_exit, blockK_pan, stepK_ite, stepK_none, stepK_ok, stepK_pan, drawK_ite, drawK_none, drawK_ok, drawK_pan, opK_ite, opK_none, opK_val, opK_pan, wantK_true, wantK_false, wantK_some, afterRegion_ite, afterDraw_ite, fromBody_ite, ite_bool, ite_int, stepA_K, doOp, noOp, lexA_nil, lexA_cons, lexF_nil, lexF_cons, afterDraw, noClash, FP.clash, wantedA, evOp, rho, rhoL, ofC0, ofC, argsA, upd, afterRegion, putA, goOp, evBin_add, evBin_sub, evBin_mul, evBin_quo, evBin_rem, evBin_eql, evBin_neq, evBin_lss, evBin_leq, evBin_gtr, evBin_geq, evBin_eqlB, evBin_neqB, evBin_addS, evBin_eqlS, evBin_neqS, evBin_lssS, evBin_leqS, evUn, evConv, evIndex, evBuiltin, evLen, evMin2, evMax2, evCallee, evBox, evLoad, evStore, evFieldAddr, evField, evIndexAddr, evBuild, evBuildSlice, evElems, evSlice, nth, rdc, wrc, fromBody, resA, finRet, oneOf, AV.cells?, AV.isCell, fin_int, fin_bool, fin_str, el0, el1, el2, el3, cutC, bodyOf, Try.f19, E_esc, k24, c24, a24, k3, c3, a3, k2, c2, a2, k9, c9, a9, k22, c22, a22, fq0, fq1, fq2, fq3, fq4, fq5, sq22, bq3, bq2, bq9, bne, hlen, hlen', -AV.isCell, h0, h1, h2]
    cases h3 : (lo == lo')
    · have hx : (X.mk k nm a lo hi tk ks).same (.mk k' nm' a' lo' hi' tk' ks') = false := by simp only [X.same, h0, h1, h2, h3]; simp
      rw [hx]
      simp (disch := first | (simp only [List.length_append, List.length_cons, List.length_nil]; omega) | (simp; done) | assumption) [evCode_skip, evCode_region, evCode_draw, evCode_seq, evCode_cond, evCode_block, evCode_loop, evCode_exit, evCode_ret, seqK_ite, seqK_none, seqK_norm, seqK_ret, seqK_exit, seqK_pan, condK_true, condK_false, condK_bool, blockK_ite, blockK_none, blockK_norm, blockK_ret, blockK_exit, blockK_pan, stepK_ite, stepK_none, stepK_ok, stepK_pan, drawK_ite, drawK_none, drawK_ok, drawK_pan, opK_ite, opK_none, opK_val, opK_pan, wantK_true, wantK_false, wantK_some, afterRegion_ite, afterDraw_ite, fromBody_ite, ite_bool, ite_int, stepA_K, doOp, noOp, lexA_nil, lexA_cons, lexF_nil, lexF_cons, afterDraw, noClash, FP.clash, wantedA, evOp, rho, rhoL, ofC0, ofC, argsA, upd, afterRegion, putA, goOp, evBin_add, evBin_sub, evBin_mul, evBin_quo, evBin_rem, evBin_eql, evBin_neq, evBin_lss, evBin_leq, evBin_gtr, evBin_geq, evBin_eqlB, evBin_neqB, evBin_addS, evBin_eqlS, evBin_neqS, evBin_lssS, evBin_leqS, evUn, evConv, evIndex, evBuiltin, evLen, evMin2, evMax2, evCallee, evBox, evLoad, evStore, evFieldAddr, evField, evIndexAddr, evBuild, evBuildSlice, evElems, evSlice, nth, rdc, wrc, fromBody, resA, finRet, oneOf, AV.cells?, AV.isCell, fin_int, fin_bool, fin_str, el0, el1, el2, el3, cutC, bodyOf, Try.f19, E_esc, k24, c24, a24, k3, c3, a3, k2, c2, a2, k9, c9, a9, k22, c22, a22, fq0, fq1, fq2, fq3, fq4, fq5, sq22, bq3, bq2, bq9, bne, hlen, hlen', -AV.isCell, h0, h1, h2, h3]
    cases h4 : (hi == hi')
    · have hx : (X.mk k nm a lo hi tk ks).same (.mk k' nm' a' lo' hi' tk' ks') = false := by simp only [X.same, h0, h1, h2, h3, h4]; simp
      rw [hx]
      simp (disch := first | (simp only [List.length_append, List.length_cons, List.length_nil]; omega) | (simp; done) | assumption) [evCode_skip, evCode_region, evCode_draw, evCode_seq, evCode_cond, evCode_block, evCode_loop, evCode_exit, evCode_ret, seqK_ite, seqK_none, seqK_norm, seqK_ret, seqK_exit, seqK_pan, condK_true, condK_false, condK_bool, blockK_ite, blockK_none, blockK_norm, blockK_ret, blockK_exit, blockK_pan, stepK_ite, stepK_none, stepK_ok, stepK_pan, drawK_ite, drawK_none, drawK_ok, drawK_pan, opK_ite, opK_none, opK_val, opK_pan, wantK_true, wantK_false, wantK_some, afterRegion_ite, afterDraw_ite, fromBody_ite, ite_bool, ite_int, stepA_K, doOp, noOp, lexA_nil, lexA_cons, lexF_nil, lexF_cons, afterDraw, noClash, FP.clash, wantedA, evOp, rho, rhoL, ofC0, ofC, argsA, upd, afterRegion, putA, goOp, evBin_add, evBin_sub, evBin_mul, evBin_quo, evBin_rem, evBin_eql, evBin_neq, evBin_lss, evBin_leq, evBin_gtr, evBin_geq, evBin_eqlB, evBin_neqB, evBin_addS, evBin_eqlS, evBin_neqS, evBin_lssS, evBin_leqS, evUn, evConv, evIndex, evBuiltin, evLen, evMin2, evMax2, evCallee, evBox, evLoad, evStore, evFieldAddr, evField, evIndexAddr, evBuild, evBuildSlice, evElems, evSlice, nth, rdc, wrc, fromBody, resA, finRet, oneOf, AV.cells?, AV.isCell, fin_int, fin_bool, fin_str, el0, el1, el2, el3, cutC, bodyOf, Try.f19, E_esc, k24, c24, a24, k3, c3, a3, k2, c2, a2, k9, c9, a9, k22, c22, a22, fq0, fq1, fq2, fq3, fq4, fq5, sq22, bq3, bq2, bq9, bne, hlen, hlen', -AV.isCell, h0, h1, h2, h3, h4]
    cases h5 : (ks.length == ks'.length)
    · have hx : (X.mk k nm a lo hi tk ks).same (.mk k' nm' a' lo' hi' tk' ks') = false := by simp only [X.same, h0, h1, h2, h3, h4, h5]; simp
      have h5z : ((ks.length : Int) == (ks'.length : Int)) = false := by
        have : ks.length ≠ ks'.length := by simpa using h5
        simp; omega
      rw [hx]
      simp (disch := first | (simp only [List.length_append, List.length_cons, List.length_nil]; omega) | (simp; done) | assumption) [evCode_skip, evCode_region, evCode_draw, evCode_seq, evCode_cond, evCode_block, evCode_loop, evCode_exit, evCode_ret, seqK_ite, seqK_none, seqK_norm, seqK_ret, seqK_exit, seqK_pan, condK_true, condK_false, condK_bool, blockK_ite, blockK_none, blockK_norm, blockK_ret, blockK_exit, blockK_pan, stepK_ite, stepK_none, stepK_ok, stepK_pan, drawK_ite, drawK_none, drawK_ok, drawK_pan, opK_ite, opK_none, opK_val, opK_pan, wantK_true, wantK_false, wantK_some, afterRegion_ite, afterDraw_ite, fromBody_ite, ite_bool, ite_int, stepA_K, doOp, noOp, lexA_nil, lexA_cons, lexF_nil, lexF_cons, afterDraw, noClash, FP.clash, wantedA, evOp, rho, rhoL, ofC0, ofC, argsA, upd, afterRegion, putA, goOp, evBin_add, evBin_sub, evBin_mul, evBin_quo, evBin_rem, evBin_eql, evBin_neq, evBin_lss, evBin_leq, evBin_gtr, evBin_geq, evBin_eqlB, evBin_neqB, evBin_addS, evBin_eqlS, evBin_neqS, evBin_lssS, evBin_leqS, evUn, evConv, evIndex, evBuiltin, evLen, evMin2, evMax2, evCallee, evBox, evLoad, evStore, evFieldAddr, evField, evIndexAddr, evBuild, evBuildSlice, evElems, evSlice, nth, rdc, wrc, fromBody, resA, finRet, oneOf, AV.cells?, AV.isCell, fin_int, fin_bool, fin_str, el0, el1, el2, el3, cutC, bodyOf, Try.f19, E_esc, k24, c24, a24, k3, c3, a3, k2, c2, a2, k9, c9, a9, k22, c22, a22, fq0, fq1, fq2, fq3, fq4, fq5, sq22, bq3, bq2, bq9, bne, hlen, hlen', -AV.isCell, h0, h1, h2, h3, h4, h5z]
    have e5 : ks'.length = ks.length := by
      have : ks.length = ks'.length := by simpa using h5
      omega
    have h5z : ((ks.length : Int) == (ks'.length : Int)) = true := by simp; omega
    have hx : (X.mk k nm a lo hi tk ks).same (.mk k' nm' a' lo' hi' tk' ks') = sameL ks ks' := by simp only [X.same, h0, h1, h2, h3, h4, h5]; simp
    rw [hx]
    have key : ∀ fs, EI n [.int .i64 k, .str nm, .int .i64 a, .int .i64 lo, .int .i64 hi, .slice (embL ks) (tokOf tk)] [.int .i64 k', .str nm', .int .i64 a', .int .i64 lo', .int .i64 hi', .slice (embL ks') (tokOf tk')] ks ks' S ks.length fs →
        ∃ r, iter n (evCode ⟨Try.prog, E.esc 19, n⟩ (ev Try.prog E n) (E.ps 19) n eLoop) fs = some r ∧ EQ ks ks' S r := fun fs h =>
      iter_meas (fun q fs h => same_round n _ _ _ _ _ _ _ _ _ _ tk tk' ks ks' S (by omega) e5 (fun x hx y hy' S => ev_same m x y (by have := sizeL_mem hx; omega) (by have := sizeL_mem hy'; omega) (by omega) n (by omega) S) q fs h) ks.length n fs (by omega) h
    cases hb : sameL ks ks'
    · have key2 : ∀ fs : FS, (fs.t 2 = .loc n 2 1 0 ∧ fs.t 3 = .loc n 3 2 0 ∧ fs.b 2 = (1, [.int .i64 k, .str nm, .int .i64 a, .int .i64 lo, .int .i64 hi, .slice (embL ks) (tokOf tk)]) ∧ fs.b 3 = (2, [.int .i64 k', .str nm', .int .i64 a', .int .i64 lo', .int .i64 hi', .slice (embL ks') (tokOf tk')]) ∧ fs.t 5 = .int .i64 0 ∧ fs.S = S) →
          ∃ r, iter n (evCode ⟨Try.prog, E.esc 19, n⟩ (ev Try.prog E n) (E.ps 19) n eLoop) fs = some (.ret, r) ∧ r.t 4 = .bool false ∧ r.S = S := fun fs ⟨q1, q2, q3, q4, q5, q6⟩ => by
        obtain ⟨⟨o, r⟩, r1, r2, r3⟩ := key fs ⟨0, by omega, q1, q2, q3, q4, q5, q6, by simp [sameL]⟩
        rcases r3 with ⟨_, r4⟩ | ⟨r4, r5, _⟩
        · rw [hb] at r4; cases r4
        · simp only at r4; subst r4; exact ⟨r, r1, r5, r2⟩
      obtain ⟨F, hF⟩ := skolem key2
      have hF1 := fun x h => (hF x h).1
      have hF2 := fun x h => (hF x h).2.1
      have hF3 := fun x h => (hF x h).2.2
      simp (disch := first | (simp [upd]; done) | omega | assumption) [evCode_skip, evCode_region, evCode_draw, evCode_seq, evCode_cond, evCode_block, evCode_loop, evCode_exit, evCode_ret, seqK_ite, seqK_none, seqK_norm, seqK_ret, seqK_exit, seqK_pan, condK_true, condK_false, condK_bool, blockK_ite, blockK_none, blockK_norm, blockK_ret, blockK_exit, blockK_pan, stepK_ite, stepK_none, stepK_ok, stepK_pan, drawK_ite, drawK_none, drawK_ok, drawK_pan, opK_ite, opK_none, opK_val, opK_pan, wantK_true, wantK_false, wantK_some, afterRegion_ite, afterDraw_ite, fromBody_ite, ite_bool, ite_int, stepA_K, doOp, noOp, lexA_nil, lexA_cons, lexF_nil, lexF_cons, afterDraw, noClash, FP.clash, wantedA, evOp, rho, rhoL, ofC0, ofC, argsA, upd, afterRegion, putA, goOp, evBin_add, evBin_sub, evBin_mul, evBin_quo, evBin_rem, evBin_eql, evBin_neq, evBin_lss, evBin_leq, evBin_gtr, evBin_geq, evBin_eqlB, evBin_neqB, evBin_addS, evBin_eqlS, evBin_neqS, evBin_lssS, evBin_leqS, evUn, evConv, evIndex, evBuiltin, evLen, evMin2, evMax2, evCallee, evBox, evLoad, evStore, evFieldAddr, evField, evIndexAddr, evBuild, evBuildSlice, evElems, evSlice, nth, rdc, wrc, fromBody, resA, finRet, oneOf, AV.cells?, AV.isCell, fin_int, fin_bool, fin_str, el0, el1, el2, el3, cutC, bodyOf, Try.f19, E_esc, k24, c24, a24, k3, c3, a3, k2, c2, a2, k9, c9, a9, k22, c22, a22, fq0, fq1, fq2, fq3, fq4, fq5, sq22, bq3, bq2, bq9, bne, hlen, hlen', -AV.isCell, h0, h1, h2, h3, h4, h5z, hF1, hF2, hF3]
    · have key2 : ∀ fs : FS, (fs.t 2 = .loc n 2 1 0 ∧ fs.t 3 = .loc n 3 2 0 ∧ fs.b 2 = (1, [.int .i64 k, .str nm, .int .i64 a, .int .i64 lo, .int .i64 hi, .slice (embL ks) (tokOf tk)]) ∧ fs.b 3 = (2, [.int .i64 k', .str nm', .int .i64 a', .int .i64 lo', .int .i64 hi', .slice (embL ks') (tokOf tk')]) ∧ fs.t 5 = .int .i64 0 ∧ fs.S = S) →
          ∃ r, iter n (evCode ⟨Try.prog, E.esc 19, n⟩ (ev Try.prog E n) (E.ps 19) n eLoop) fs = some (.exit 0, r) ∧ r.S = S := fun fs ⟨q1, q2, q3, q4, q5, q6⟩ => by
        obtain ⟨⟨o, r⟩, r1, r2, r3⟩ := key fs ⟨0, by omega, q1, q2, q3, q4, q5, q6, by simp [sameL]⟩
        rcases r3 with ⟨r4, _⟩ | ⟨_, _, r4⟩
        · simp only at r4; subst r4; exact ⟨r, r1, r2⟩
        · rw [hb] at r4; cases r4
      obtain ⟨F, hF⟩ := skolem key2
      have hF1 := fun x h => (hF x h).1
      have hF3 := fun x h => (hF x h).2
      simp (disch := first | (simp [upd]; done) | omega | assumption) [evCode_skip, evCode_region, evCode_draw, evCode_seq, evCode_cond, evCode_block, evCode_loop, evCode_exit, evCode_ret, seqK_ite, seqK_none, seqK_norm, seqK_ret, seqK_exit, seqK_pan, condK_true, condK_false, condK_bool, blockK_ite, blockK_none, blockK_norm, blockK_ret, blockK_exit, blockK_pan, stepK_ite, stepK_none, stepK_ok, stepK_pan, drawK_ite, drawK_none, drawK_ok, drawK_pan, opK_ite, opK_none, opK_val, opK_pan, wantK_true, wantK_false, wantK_some, afterRegion_ite, afterDraw_ite, fromBody_ite, ite_bool, ite_int, stepA_K, doOp, noOp, lexA_nil, lexA_cons, lexF_nil, lexF_cons, afterDraw, noClash, FP.clash, wantedA, evOp, rho, rhoL, ofC0, ofC, argsA, upd, afterRegion, putA, goOp, evBin_add, evBin_sub, evBin_mul, evBin_quo, evBin_rem, evBin_eql, evBin_neq, evBin_lss, evBin_leq, evBin_gtr, evBin_geq, evBin_eqlB, evBin_neqB, evBin_addS, evBin_eqlS, evBin_neqS, evBin_lssS, evBin_leqS, evUn, evConv, evIndex, evBuiltin, evLen, evMin2, evMax2, evCallee, evBox, evLoad, evStore, evFieldAddr, evField, evIndexAddr, evBuild, evBuildSlice, evElems, evSlice, nth, rdc, wrc, fromBody, resA, finRet, oneOf, AV.cells?, AV.isCell, fin_int, fin_bool, fin_str, el0, el1, el2, el3, cutC, bodyOf, Try.f19, E_esc, k24, c24, a24, k3, c3, a3, k2, c2, a2, k9, c9, a9, k22, c22, a22, fq0, fq1, fq2, fq3, fq4, fq5, sq22, bq3, bq2, bq9, bne, hlen, hlen', -AV.isCell, h0, h1, h2, h3, h4, h5z, hF1, hF3]
end Go.Proofs.Ytemggoaefohliaa.PT
