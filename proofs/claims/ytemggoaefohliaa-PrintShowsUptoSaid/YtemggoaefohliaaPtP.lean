/- All that is in an expression, evaluated. No condition. -/
import Derived.Test.YtemggoaefohliaaPtO
namespace Go.Proofs.Ytemggoaefohliaa.PT
set_option linter.unusedVariables false
set_option linter.unusedSimpArgs false
open Go AE EX
set_option maxRecDepth 100000

mutual
def _root_.Go.Proofs.Ytemggoaefohliaa.EX.X.nodes : X → List X
  | .mk k nm n lo hi tk kids => .mk k nm n lo hi tk kids :: if k == 4 then [] else nodesL kids
def nodesL : List X → List X
  | [] => []
  | x :: l => x.nodes ++ nodesL l
end
mutual
theorem nodes_size : ∀ x : X, x.nodes.length ≤ x.size
  | .mk k _ _ _ _ _ kids => by
    have := nodesL_size kids
    simp only [X.nodes, X.size, List.length_cons]
    split <;> simp <;> omega
theorem nodesL_size : ∀ l : List X, (nodesL l).length ≤ sizeL l
  | [] => by simp [nodesL]
  | x :: l => by have := nodes_size x; have := nodesL_size l; simp only [nodesL, sizeL, List.length_append]; omega
end
theorem nodesL_append (a b : List X) : nodesL (a ++ b) = nodesL a ++ nodesL b := by
  induction a with
  | nil => rfl
  | cons x a ih => simp [nodesL, ih]
theorem nodes_ne (x : X) : x.nodes ≠ [] := by cases x; simp [X.nodes]
theorem embL_append (a b : List X) : embL (a ++ b) = embL a ++ embL b := by simp [embL_map]
theorem embL_length (a : List X) : (embL a).length = a.length := by simp [embL_map]
theorem embL_nil {a : List X} : embL a = [] ↔ a = [] := by cases a <;> simp [embL]
theorem sizes_emb : ∀ l : List X, sizesOk 6 (embL l) = true
  | [] => rfl
  | x :: l => by
    obtain ⟨h1, h2⟩ := cells_ok x
    simp [embL, sizesOk, h1, h2, sizes_emb l]
mutual
theorem strip_emb (t0 : Nat) : ∀ x : X, x.emb.strip t0 = x.emb
  | .mk _ _ _ _ _ tk kids => by cases tk <;> simp [X.emb, AV.strip, AV.stripL, tokOf, strip_embL t0 kids]
theorem strip_embL (t0 : Nat) : ∀ l : List X, AV.stripL t0 (embL l) = embL l
  | [] => rfl
  | x :: l => by simp [embL, AV.stripL, strip_emb t0 x, strip_embL t0 l]
end
mutual
theorem low_emb (h0 t0 : Nat) : ∀ x : X, x.emb.low h0 t0 = true
  | .mk _ _ _ _ _ tk kids => by cases tk <;> simp [X.emb, AV.low, AV.lowL, tokOf, low_embL h0 t0 kids]
theorem low_embL (h0 t0 : Nat) : ∀ l : List X, AV.lowL h0 t0 (embL l) = true
  | [] => rfl
  | x :: l => by simp [embL, AV.lowL, low_emb h0 t0 x, low_embL h0 t0 l]
end
theorem fin_clip (l : List X) (S : St) : finish S (.slice (embL l) .clip) S = some (.slice (embL l) .clip, S) :=
  finish_same (by simp [AV.sealed, sealed_embL]) (by simp [AV.strip, strip_embL]) (by simp [AV.low, low_embL]) rfl rfl
theorem fin_own (l : List X) (S : St) (p : Nat) (ex : List Nat) : finish S (.slice (embL l) (.own S.T.length p)) ⟨S.H, S.T ++ ex⟩ = some (.slice (embL l) .non, S) := by
  unfold finish
  simp [AV.sealed, AV.strip, AV.low, boxEqL_refl, sealed_embL, strip_embL, low_embL]

theorem by24 : Try.prog.bytesOf 24 = 72 := by kernel_rfl
theorem appC (l r : List X) (tok : Tok) (S : St) (hr : r ≠ []) (h1 : l.length ≤ 1048576) (h2 : r.length ≤ 1048576) :
    evAppend Try.prog [22, 22] (.slice (embL l) .clip) (.slice (embL r) tok) S = some (.slice (embL (l ++ r)) (.own S.T.length ((l.length + r.length) * 6)), ⟨S.H, S.T ++ [(l.length + r.length) * 6]⟩) := by
  simp [evAppend, sq22, u22, elemsOf, z24, c24, by24, sizes_emb, embL_length, embL_append, embL_nil, hr]
  omega
theorem appO (l r : List X) (tok : Tok) (S : St) (p : Nat) (hr : r ≠ []) (h1 : l.length ≤ 1048576) (h2 : r.length ≤ 1048576) :
    evAppend Try.prog [22, 22] (.slice (embL l) (.own S.T.length p)) (.slice (embL r) tok) ⟨S.H, S.T ++ [p]⟩ = some (.slice (embL (l ++ r)) (.own S.T.length (p + r.length * 6)), ⟨S.H, S.T ++ [p + r.length * 6]⟩) := by
  simp [evAppend, sq22, u22, elemsOf, z24, c24, by24, sizes_emb, embL_length, embL_append, embL_nil, hr]
  omega

noncomputable def gLoop : Code := cutC (bodyOf Try.f33) [1, 1, 1, 0, 1, 0, 0]
noncomputable def gl0 : Code := cutC (bodyOf Try.f33) [0]
noncomputable def gl1 : Code := cutC (bodyOf Try.f33) [1, 0]
noncomputable def gl2 : Code := cutC (bodyOf Try.f33) [1, 1, 0]
noncomputable def gl3 : Code := cutC (bodyOf Try.f33) [1, 1, 1, 0, 0]
noncomputable def gl4 : Code := cutC (bodyOf Try.f33) [1, 1, 1, 1]
theorem f33b : Try.f33.body = some (.seq gl0 (.seq gl1 (.seq gl2 (.seq (.seq gl3 (.block 0 (.loop gLoop))) gl4)))) := rfl

def GI (n : Nat) (C : List AV) (e : X) (kids : List X) (S0 : St) (i : Nat) (fs : FS) : Prop :=
  fs.t 1 = .loc n 1 1 0 ∧ fs.b 1 = (1, C) ∧ fs.t 4 = .int .i64 i ∧
    (if i = 0 then fs.t 3 = .slice (embL [e]) .clip ∧ fs.S = S0 else ∃ p, fs.t 3 = .slice (embL (e :: nodesL (kids.take i))) (.own S0.T.length p) ∧ fs.S = ⟨S0.H, S0.T ++ [p]⟩)

def allTok (x : X) : Tok := match x with | .mk k _ _ _ _ _ kids => if k == 4 then .clip else if kids.length = 0 then .clip else .non

theorem take_size (l : List X) (i : Nat) : sizeL (l.take i) ≤ sizeL l := by
  have : sizeL l = sizeL (l.take i) + sizeL (l.drop i) := by rw [← sizeL_append, List.take_append_drop]
  omega

theorem all_round2 (n : Nat) (c0 c1' c2' c3' c4' : AV) (tk : Bool) (e : X) (kids : List X) (S0 : St) (hs : sizeL kids ≤ 1048000)
    (hrec : ∀ x ∈ kids, ∀ S, ev Try.prog E n 33 [x.emb] S = some (.ret (.slice (embL x.nodes) (allTok x)), S)) (i : Nat) (hi : i < kids.length) (fs : FS) (h : GI n [c0, c1', c2', c3', c4', .slice (embL kids) (tokOf tk)] e kids S0 i fs) :
    ∃ fs', evCode ⟨Try.prog, E.esc 33, n⟩ (ev Try.prog E n) (E.ps 33) n gLoop fs = some (.norm, fs') ∧ GI n [c0, c1', c2', c3', c4', .slice (embL kids) (tokOf tk)] e kids S0 (i + 1) fs' := by
  obtain ⟨t, b, v, S⟩ := fs
  obtain ⟨h1, h2, h3, h4⟩ := h
  simp only at h1 h2 h3 h4
  have hlk := sizeL_length kids
  have hlen := embL_length kids
  have hltz : (i : Int) < kids.length := by omega
  have hxe : kids[i]? = some kids[i] := List.getElem?_eq_getElem hi
  have hr := hrec kids[i] (List.getElem_mem hi) S
  have hsplit : kids.take (i + 1) = kids.take i ++ [kids[i]] := by rw [List.take_add_one, hxe]; rfl
  have hnd : nodesL (kids.take (i + 1)) = nodesL (kids.take i) ++ kids[i].nodes := by rw [hsplit, nodesL_append]; simp [nodesL]
  have hemb : (embL kids)[i]? = some kids[i].emb := by rw [embL_map, List.getElem?_map, hxe]; rfl
  have ha1 := cells_all kids[i]
  have hc1 := (cells_ok kids[i]).2
  have ht1 : List.take 6 kids[i].cells = kids[i].cells := List.take_of_length_le (by omega)
  have hne := nodes_ne kids[i]
  have hsz1 := nodes_size kids[i]
  have hsz2 := sizeL_mem (List.getElem_mem hi)
  have hsz3 := nodesL_size (kids.take i)
  have hsz4 := take_size kids i
  rw [emb_cells] at hemb hr
  have hw : IntKind.i64.wrap ((i : Int) + 1) = (i : Int) + 1 := wrap64 _ (by omega)
  obtain ⟨z, hz⟩ := ii24
  by_cases h0 : i = 0
  · subst h0
    rw [if_pos rfl] at h4
    obtain ⟨h4, rfl⟩ := h4
    have ha := appC [e] kids[0].nodes (allTok kids[0]) S hne (by simp) (by omega)
    generalize kids[0].nodes = N at *
    generalize allTok kids[0] = tA at *
    generalize kids[0].cells = C1 at *
    generalize hE : embL [e] = ee at *
    generalize hEN : embL ([e] ++ N) = eN at *
    refine ⟨_, by
      simp (disch := first | (simp only [List.length_append, List.length_cons, List.length_nil]; omega) | (simp; done) | assumption) [evCode_skip, evCode_region, evCode_draw, evCode_seq, evCode_cond, evCode_block, evCode_loop, evCode_exit, evCode_ret, seqK_ite, seqK_none, seqK_norm, seqK_ret, seqK_exit, seqK_pan, condK_true, condK_false, condK_bool, blockK_ite, blockK_none, blockK_norm, blockK_ret, blockK_exit, blockK_pan, stepK_ite, stepK_none, stepK_ok, stepK_pan, drawK_ite, drawK_none, drawK_ok, drawK_pan, opK_ite, opK_none, opK_val, opK_pan, wantK_true, wantK_false, wantK_some, afterRegion_ite, afterDraw_ite, fromBody_ite, ite_bool, ite_int, stepA_K, doOp, noOp, lexA_nil, lexA_cons, lexF_nil, lexF_cons, afterDraw, noClash, FP.clash, wantedA, evOp, rho, rhoL, ofC0, ofC, argsA, upd, afterRegion, putA, goOp, evBin_add, evBin_sub, evBin_mul, evBin_quo, evBin_rem, evBin_eql, evBin_neq, evBin_lss, evBin_leq, evBin_gtr, evBin_geq, evBin_eqlB, evBin_neqB, evBin_addS, evBin_eqlS, evBin_neqS, evBin_lssS, evBin_leqS, evUn, evConv, evIndex, evBuiltin, evLen, evMin2, evMax2, evCallee, evBox, evLoad, evStore, evFieldAddr, evField, evIndexAddr, evBuild, evBuildSlice, evElems, evSlice, nth, rdc, wrc, fromBody, resA, finRet, oneOf, AV.cells?, AV.isCell, fin_int, fin_bool, fin_str, gLoop, cutC, bodyOf, Try.f33, E_esc, h1, h2, h3, h4, fq5, k22, c22, a22, k24, c24, a24, i24, hz, sq22, bq3, hlen, hi, hltz, hemb, hr, ha1, hc1, ht1, ha]
      rfl, by simp [upd, h1], by simp [upd, h2], by simp [upd, wrap64 1 (by omega)], ?_⟩
    rw [if_neg (by omega), hnd]
    refine ⟨([e].length + N.length) * 6, ?_, rfl⟩
    rw [← hEN]
    simp [upd, nodesL]
  · rw [if_neg h0] at h4
    obtain ⟨p, h4, rfl⟩ := h4
    have ha := appO (e :: nodesL (kids.take i)) kids[i].nodes (allTok kids[i]) S0 p hne (by simp; omega) (by omega)
    generalize kids[i].nodes = N at *
    generalize allTok kids[i] = tA at *
    generalize kids[i].cells = C1 at *
    generalize hE : embL (e :: nodesL (kids.take i)) = ee at *
    generalize hEN : embL (e :: nodesL (kids.take i) ++ N) = eN at *
    refine ⟨_, by
      simp (disch := first | (simp only [List.length_append, List.length_cons, List.length_nil]; omega) | (simp; done) | assumption) [evCode_skip, evCode_region, evCode_draw, evCode_seq, evCode_cond, evCode_block, evCode_loop, evCode_exit, evCode_ret, seqK_ite, seqK_none, seqK_norm, seqK_ret, seqK_exit, seqK_pan, condK_true, condK_false, condK_bool, blockK_ite, blockK_none, blockK_norm, blockK_ret, blockK_exit, blockK_pan, stepK_ite, stepK_none, stepK_ok, stepK_pan, drawK_ite, drawK_none, drawK_ok, drawK_pan, opK_ite, opK_none, opK_val, opK_pan, wantK_true, wantK_false, wantK_some, afterRegion_ite, afterDraw_ite, fromBody_ite, ite_bool, ite_int, stepA_K, doOp, noOp, lexA_nil, lexA_cons, lexF_nil, lexF_cons, afterDraw, noClash, FP.clash, wantedA, evOp, rho, rhoL, ofC0, ofC, argsA, upd, afterRegion, putA, goOp, evBin_add, evBin_sub, evBin_mul, evBin_quo, evBin_rem, evBin_eql, evBin_neq, evBin_lss, evBin_leq, evBin_gtr, evBin_geq, evBin_eqlB, evBin_neqB, evBin_addS, evBin_eqlS, evBin_neqS, evBin_lssS, evBin_leqS, evUn, evConv, evIndex, evBuiltin, evLen, evMin2, evMax2, evCallee, evBox, evLoad, evStore, evFieldAddr, evField, evIndexAddr, evBuild, evBuildSlice, evElems, evSlice, nth, rdc, wrc, fromBody, resA, finRet, oneOf, AV.cells?, AV.isCell, fin_int, fin_bool, fin_str, gLoop, cutC, bodyOf, Try.f33, E_esc, h1, h2, h3, h4, fq5, k22, c22, a22, k24, c24, a24, i24, hz, sq22, bq3, hlen, hi, hltz, hemb, hr, ha1, hc1, ht1, ha]
      rfl, by simp [upd, h1], by simp [upd, h2], by simp [upd, hw], ?_⟩
    rw [if_neg (by omega), hnd]
    refine ⟨p + N.length * 6, ?_, rfl⟩
    rw [← List.cons_append, hEN]
    simp [upd]

theorem ev_All : ∀ (m : Nat) (x : X), x.size ≤ m → m ≤ 1048000 → ∀ n, m + 2 ≤ n → ∀ S, ev Try.prog E n 33 [x.emb] S = some (.ret (.slice (embL x.nodes) (allTok x)), S)
  | 0, x, hm, _, _, _, _ => absurd hm (by have := size_pos x; omega)
  | m + 1, x, hm, hmm, n, hn, S => by
    obtain ⟨n, rfl⟩ : ∃ k, n = k + 1 := ⟨n - 1, by omega⟩
    obtain ⟨k, nm, a, lo, hi, tk, kids⟩ := x
    simp only [X.size] at hm
    have hl := sizeL_length kids
    have hlen := embL_length kids
    have hE1 : AV.agg [.int .i64 k, .str nm, .int .i64 a, .int .i64 lo, .int .i64 hi, .slice (embL kids) (tokOf tk)] = (X.mk k nm a lo hi tk kids).emb := rfl
    have hbs : evBuildSlice Try.prog 22 1 [(0, AV.agg [.int .i64 k, .str nm, .int .i64 a, .int .i64 lo, .int .i64 hi, .slice (embL kids) (tokOf tk)])] = some (.slice (embL [X.mk k nm a lo hi tk kids]) .clip) := by
      simp [evBuildSlice, sq22, z24, c24, a24, evElems, AV.cells?, AV.isCell, embL, X.emb]
    simp only [X.emb]
    rw [ev_enter (n := n) (show E.ok 33 = true from rfl) Try.func33 f33b (Nat.le_of_ble_eq_true rfl) (by decide +kernel)]
    cases h4 : k == 4
    · have key : ∀ fs, GI n [.int .i64 k, .str nm, .int .i64 a, .int .i64 lo, .int .i64 hi, .slice (embL kids) (tokOf tk)] (.mk k nm a lo hi tk kids) kids S 0 fs → ∃ fs', iter n (evCode ⟨Try.prog, E.esc 33, n⟩ (ev Try.prog E n) (E.ps 33) n gLoop) fs = some (.exit 0, fs') ∧
          GI n [.int .i64 k, .str nm, .int .i64 a, .int .i64 lo, .int .i64 hi, .slice (embL kids) (tokOf tk)] (.mk k nm a lo hi tk kids) kids S kids.length fs' := fun fs h => by
        obtain ⟨⟨o, fs'⟩, r1, r2, r3⟩ := iter_range (Q := fun r => r.1 = .exit 0 ∧ GI n [.int .i64 k, .str nm, .int .i64 a, .int .i64 lo, .int .i64 hi, .slice (embL kids) (tokOf tk)] (.mk k nm a lo hi tk kids) kids S kids.length r.2) (len := kids.length)
          (fun i hi' fs h => all_round2 n _ _ _ _ _ tk _ kids S (by omega) (fun x hx S => ev_All m x (by have := sizeL_mem hx; omega) (by omega) n (by omega) S) i hi' fs h)
          (fun fs h => by
            obtain ⟨t, b, v, S'⟩ := fs
            obtain ⟨h1, h2, h3, h4⟩ := h
            simp only at h1 h2 h3 h4
            refine ⟨.exit 0, _, by
              simp (disch := first | (simp only [List.length_append, List.length_cons, List.length_nil]; omega) | (simp; done) | assumption) [evCode_skip, evCode_region, evCode_draw, evCode_seq, evCode_cond, evCode_block, evCode_loop, evCode_exit, evCode_ret, seqK_ite, seqK_none, seqK_norm, seqK_ret, seqK_exit, seqK_pan, condK_true, condK_false, condK_bool, blockK_ite, blockK_none, blockK_norm, blockK_ret, blockK_exit, blockK_pan, stepK_ite, stepK_none, stepK_ok, stepK_pan, drawK_ite, drawK_none, drawK_ok, drawK_pan, opK_ite, opK_none, opK_val, opK_pan, wantK_true, wantK_false, wantK_some, afterRegion_ite, afterDraw_ite, fromBody_ite, ite_bool, ite_int, stepA_K, doOp, noOp, lexA_nil, lexA_cons, lexF_nil, lexF_cons, afterDraw, noClash, FP.clash, wantedA, evOp, rho, rhoL, ofC0, ofC, argsA, upd, afterRegion, putA, goOp, evBin_add, evBin_sub, evBin_mul, evBin_quo, evBin_rem, evBin_eql, evBin_neq, evBin_lss, evBin_leq, evBin_gtr, evBin_geq, evBin_eqlB, evBin_neqB, evBin_addS, evBin_eqlS, evBin_neqS, evBin_lssS, evBin_leqS, evUn, evConv, evIndex, evBuiltin, evLen, evMin2, evMax2, evCallee, evBox, evLoad, evStore, evFieldAddr, evField, evIndexAddr, evBuild, evBuildSlice, evElems, evSlice, nth, rdc, wrc, fromBody, resA, finRet, oneOf, AV.cells?, AV.isCell, fin_int, fin_bool, fin_str, gLoop, cutC, bodyOf, Try.f33, h1, h2, h3, fq5, k22, c22, a22, bq3, sq22, hlen]
              rfl, by simp, rfl, by simp [upd, h1], by simp [upd, h2], by simp [upd, h3], by simpa [upd] using h4⟩) kids.length 0 n fs (by omega) (by omega) h
        simp only at r2
        subst r2
        exact ⟨fs', r1, r3⟩
      generalize hee : embL [X.mk k nm a lo hi tk kids] = ee at *
      obtain ⟨⟨t, b, v, S'⟩, hr, g1, g2, g3, g4⟩ := key ⟨upd 4 (.int .i64 0) (upd 9 (.bool false) (upd 8 (.int .i64 k) (upd 7 (.loc n 1 1 0) (upd 3 (.slice ee .clip) (upd 6 (.slice ee .clip) (upd 5 (.agg [.int .i64 k, .str nm, .int .i64 a, .int .i64 lo, .int .i64 hi, .slice (embL kids) (tokOf tk)])
        (upd 2 (.slice [] .clip) (upd 1 (.loc n 1 1 0) (argsA [.agg [.int .i64 k, .str nm, .int .i64 a, .int .i64 lo, .int .i64 hi, .slice (embL kids) (tokOf tk)]]))))))))),
        upd 1 (1, [.int .i64 k, .str nm, .int .i64 a, .int .i64 lo, .int .i64 hi, .slice (embL kids) (tokOf tk)]) (fun _ => (0, [])), 9, S⟩
        ⟨by simp [upd], by simp [upd], by simp [upd], by rw [if_pos rfl]; exact ⟨by simp [upd, hee], rfl⟩⟩
      simp only at g1 g2 g3 g4
      by_cases h0 : kids.length = 0
      · have : kids = [] := List.eq_nil_of_length_eq_zero h0
        subst this
        rw [if_pos (show ([] : List X).length = 0 from rfl)] at g4
        obtain ⟨g4, rfl⟩ := g4
        rw [hee] at g4
        have hf := fin_clip [X.mk k nm a lo hi tk []] S'
        rw [hee] at hf
        have hnn : embL (X.mk k nm a lo hi tk []).nodes = ee := by rw [← hee]; simp [X.nodes, nodesL]
        rw [hnn]
        simp (disch := first | (simp only [List.length_append, List.length_cons, List.length_nil]; omega) | (simp; done) | assumption) [evCode_skip, evCode_region, evCode_draw, evCode_seq, evCode_cond, evCode_block, evCode_loop, evCode_exit, evCode_ret, seqK_ite, seqK_none, seqK_norm, seqK_ret, seqK_exit, seqK_pan, condK_true, condK_false, condK_bool, blockK_ite, blockK_none, blockK_norm, blockK_ret, blockK_exit, blockK_pan, stepK_ite, stepK_none, stepK_ok, stepK_pan, drawK_ite, drawK_none, drawK_ok, drawK_pan, opK_ite, opK_none, opK_val, opK_pan, wantK_true, wantK_false, wantK_some, afterRegion_ite, afterDraw_ite, fromBody_ite, ite_bool, ite_int, stepA_K, doOp, noOp, lexA_nil, lexA_cons, lexF_nil, lexF_cons, afterDraw, noClash, FP.clash, wantedA, evOp, rho, rhoL, ofC0, ofC, argsA, upd, afterRegion, putA, goOp, evBin_add, evBin_sub, evBin_mul, evBin_quo, evBin_rem, evBin_eql, evBin_neq, evBin_lss, evBin_leq, evBin_gtr, evBin_geq, evBin_eqlB, evBin_neqB, evBin_addS, evBin_eqlS, evBin_neqS, evBin_lssS, evBin_leqS, evUn, evConv, evIndex, evBuiltin, evLen, evMin2, evMax2, evCallee, evBox, evLoad, evStore, evFieldAddr, evField, evIndexAddr, evBuild, evBuildSlice, evElems, evSlice, nth, rdc, wrc, fromBody, resA, finRet, oneOf, AV.cells?, AV.isCell, fin_int, fin_bool, fin_str, -evBuildSlice, gl0, gl1, gl2, gl3, gl4, cutC, bodyOf, Try.f33, E_esc, k24, c24, a24, k3, c3, a3, fq0, bq3, h4, hr, g4, hf, hbs, allTok]
      · rw [if_neg h0] at g4
        obtain ⟨p, g4, rfl⟩ := g4
        rw [List.take_length] at g4
        have hnn : (X.mk k nm a lo hi tk kids).nodes = X.mk k nm a lo hi tk kids :: nodesL kids := by simp [X.nodes, h4]
        rw [← hnn] at g4
        have hf := fin_own (X.mk k nm a lo hi tk kids).nodes S p [p]
        generalize embL (X.mk k nm a lo hi tk kids).nodes = en at *
        simp (disch := first | (simp only [List.length_append, List.length_cons, List.length_nil]; omega) | (simp; done) | assumption) [evCode_skip, evCode_region, evCode_draw, evCode_seq, evCode_cond, evCode_block, evCode_loop, evCode_exit, evCode_ret, seqK_ite, seqK_none, seqK_norm, seqK_ret, seqK_exit, seqK_pan, condK_true, condK_false, condK_bool, blockK_ite, blockK_none, blockK_norm, blockK_ret, blockK_exit, blockK_pan, stepK_ite, stepK_none, stepK_ok, stepK_pan, drawK_ite, drawK_none, drawK_ok, drawK_pan, opK_ite, opK_none, opK_val, opK_pan, wantK_true, wantK_false, wantK_some, afterRegion_ite, afterDraw_ite, fromBody_ite, ite_bool, ite_int, stepA_K, doOp, noOp, lexA_nil, lexA_cons, lexF_nil, lexF_cons, afterDraw, noClash, FP.clash, wantedA, evOp, rho, rhoL, ofC0, ofC, argsA, upd, afterRegion, putA, goOp, evBin_add, evBin_sub, evBin_mul, evBin_quo, evBin_rem, evBin_eql, evBin_neq, evBin_lss, evBin_leq, evBin_gtr, evBin_geq, evBin_eqlB, evBin_neqB, evBin_addS, evBin_eqlS, evBin_neqS, evBin_lssS, evBin_leqS, evUn, evConv, evIndex, evBuiltin, evLen, evMin2, evMax2, evCallee, evBox, evLoad, evStore, evFieldAddr, evField, evIndexAddr, evBuild, evBuildSlice, evElems, evSlice, nth, rdc, wrc, fromBody, resA, finRet, oneOf, AV.cells?, AV.isCell, fin_int, fin_bool, fin_str, -evBuildSlice, gl0, gl1, gl2, gl3, gl4, cutC, bodyOf, Try.f33, E_esc, k24, c24, a24, k3, c3, a3, fq0, bq3, h4, hr, g4, hf, hbs, allTok, h0, show kids ≠ [] from fun h => h0 (by rw [h]; rfl)]
    · have hnn : (X.mk k nm a lo hi tk kids).nodes = [X.mk k nm a lo hi tk kids] := by simp [X.nodes, h4]
      have hf := fin_clip [X.mk k nm a lo hi tk kids] S
      rw [hnn]
      generalize embL [X.mk k nm a lo hi tk kids] = ee at *
      simp (disch := first | (simp only [List.length_append, List.length_cons, List.length_nil]; omega) | (simp; done) | assumption) [evCode_skip, evCode_region, evCode_draw, evCode_seq, evCode_cond, evCode_block, evCode_loop, evCode_exit, evCode_ret, seqK_ite, seqK_none, seqK_norm, seqK_ret, seqK_exit, seqK_pan, condK_true, condK_false, condK_bool, blockK_ite, blockK_none, blockK_norm, blockK_ret, blockK_exit, blockK_pan, stepK_ite, stepK_none, stepK_ok, stepK_pan, drawK_ite, drawK_none, drawK_ok, drawK_pan, opK_ite, opK_none, opK_val, opK_pan, wantK_true, wantK_false, wantK_some, afterRegion_ite, afterDraw_ite, fromBody_ite, ite_bool, ite_int, stepA_K, doOp, noOp, lexA_nil, lexA_cons, lexF_nil, lexF_cons, afterDraw, noClash, FP.clash, wantedA, evOp, rho, rhoL, ofC0, ofC, argsA, upd, afterRegion, putA, goOp, evBin_add, evBin_sub, evBin_mul, evBin_quo, evBin_rem, evBin_eql, evBin_neq, evBin_lss, evBin_leq, evBin_gtr, evBin_geq, evBin_eqlB, evBin_neqB, evBin_addS, evBin_eqlS, evBin_neqS, evBin_lssS, evBin_leqS, evUn, evConv, evIndex, evBuiltin, evLen, evMin2, evMax2, evCallee, evBox, evLoad, evStore, evFieldAddr, evField, evIndexAddr, evBuild, evBuildSlice, evElems, evSlice, nth, rdc, wrc, fromBody, resA, finRet, oneOf, AV.cells?, AV.isCell, fin_int, fin_bool, fin_str, -evBuildSlice, gl0, gl1, gl2, gl3, gl4, cutC, bodyOf, Try.f33, E_esc, k24, c24, a24, k3, c3, a3, fq0, bq3, h4, hf, hbs, allTok]
end Go.Proofs.Ytemggoaefohliaa.PT
