/- The page's text of an expression that may be, evaluated. No condition. -/
import Derived.Test.YtemggoaefohliaaPtH
namespace Go.Proofs.Ytemggoaefohliaa.PT
set_option linter.unusedVariables false
set_option linter.unusedSimpArgs false
open Go AE EX
set_option maxRecDepth 100000

theorem join_snoc (l : List (List UInt8)) (x : List UInt8) : joinT (l ++ [x]) = if l = [] then x else joinT l ++ [44, 32] ++ x := by
  cases l with
  | nil => simp [joinT, Lib.join_one]
  | cons y r =>
    simp only [joinT, List.cons_append, Lib.join_cons, Lib.joinTail]
    simp

noncomputable def lLoop : Code := cutC (bodyOf Try.f41) [1, 1, 0, 1, 0, 0]
noncomputable def ll0 : Code := cutC (bodyOf Try.f41) [0]
noncomputable def ll1 : Code := cutC (bodyOf Try.f41) [1, 0]
noncomputable def ll2 : Code := cutC (bodyOf Try.f41) [1, 1, 0, 0]
noncomputable def ll3 : Code := cutC (bodyOf Try.f41) [1, 1, 1]
theorem f41b : Try.f41.body = some (.seq ll0 (.seq ll1 (.seq (.seq ll2 (.block 0 (.loop lLoop))) ll3))) := rfl

def LI (kids : List X) (tk : Bool) (S0 : St) (i : Nat) (fs : FS) : Prop :=
  fs.t 0 = .slice (embL kids) (tokOf tk) ∧ fs.t 4 = .int .i64 i ∧ fs.t 3 = .str (joinT (txtL (kids.take i))) ∧ fs.S = S0

theorem list_round (n : Nat) (kids : List X) (tk : Bool) (S0 : St) (hlen : kids.length ≤ 1099511627776) (hj : ∀ i, (joinT (txtL (kids.take i))).length ≤ 1099511627776) (ht : ∀ x ∈ kids, x.txt.length ≤ 1099511627776)
    (hrec : ∀ x ∈ kids, ∀ S, ev Try.prog E n 18 [x.emb] S = some (.ret (.str x.txt), S)) (i : Nat) (hi : i < kids.length) (fs : FS) (h : LI kids tk S0 i fs) :
    ∃ fs', evCode ⟨Try.prog, E.esc 41, n⟩ (ev Try.prog E n) (E.ps 41) n lLoop fs = some (.norm, fs') ∧ LI kids tk S0 (i + 1) fs' := by
  obtain ⟨t, b, v, S⟩ := fs
  obtain ⟨h1, h2, h3, h4⟩ := h
  simp at h1 h2 h3 h4
  subst h4
  have hxe : kids[i]? = some kids[i] := List.getElem?_eq_getElem hi
  have hr := hrec kids[i] (List.getElem_mem hi) S
  have htl := ht kids[i] (List.getElem_mem hi)
  have hji := hj i
  have hsplit : kids.take (i + 1) = kids.take i ++ [kids[i]] := by rw [List.take_add_one, hxe]; rfl
  have htx : joinT (txtL (kids.take (i + 1))) = if i = 0 then kids[i].txt else joinT (txtL (kids.take i)) ++ [44, 32] ++ kids[i].txt := by
    rw [hsplit, txtL_append, show txtL [kids[i]] = [kids[i].txt] from rfl, join_snoc]
    have : (txtL (kids.take i) = []) ↔ i = 0 := by
      rw [← List.length_eq_zero_iff, txtL_length, List.length_take]; omega
    simp only [this]
  have hemb : (embL kids)[i]? = some kids[i].emb := by rw [embL_map, List.getElem?_map, hxe]; rfl
  have ha1 := cells_all kids[i]
  have hc1 := (cells_ok kids[i]).2
  have ht1 : List.take 6 kids[i].cells = kids[i].cells := List.take_of_length_le (by omega)
  rw [emb_cells] at hemb hr
  generalize kids[i].txt = xt at *
  generalize kids[i].cells = C1 at *
  have hE2 : (embL kids).length = kids.length := by rw [embL_map]; simp
  have hw : IntKind.i64.wrap ((i : Int) + 1) = (i : Int) + 1 := wrap64 _ (by omega)
  obtain ⟨z, hz⟩ := ii24
  by_cases h0 : i = 0
  · subst h0
    have e0 : joinT (txtL (kids.take 0)) = [] := rfl
    rw [e0] at h3
    refine ⟨_, by
      simp (disch := first | (simp only [List.length_append, List.length_cons, List.length_nil]; omega) | (simp; done) | assumption) [evCode_skip, evCode_region, evCode_draw, evCode_seq, evCode_cond, evCode_block, evCode_loop, evCode_exit, evCode_ret, seqK_ite, seqK_none, seqK_norm, seqK_ret, seqK_exit, seqK_pan, condK_true, condK_false, condK_bool, blockK_ite, blockK_none, blockK_norm, blockK_ret, blockK_exit, blockK_pan, stepK_ite, stepK_none, stepK_ok, stepK_pan, drawK_ite, drawK_none, drawK_ok, drawK_pan, opK_ite, opK_none, opK_val, opK_pan, wantK_true, wantK_false, wantK_some, afterRegion_ite, afterDraw_ite, fromBody_ite, ite_bool, ite_int, stepA_K, doOp, noOp, lexA_nil, lexA_cons, lexF_nil, lexF_cons, afterDraw, noClash, FP.clash, wantedA, evOp, rho, rhoL, ofC0, ofC, argsA, upd, afterRegion, putA, goOp, evBin_add, evBin_sub, evBin_mul, evBin_quo, evBin_rem, evBin_eql, evBin_neq, evBin_lss, evBin_leq, evBin_gtr, evBin_geq, evBin_eqlB, evBin_neqB, evBin_addS, evBin_eqlS, evBin_neqS, evBin_lssS, evBin_leqS, evUn, evConv, evIndex, evBuiltin, evLen, evMin2, evMax2, evCallee, evBox, evLoad, evStore, evFieldAddr, evField, evIndexAddr, evBuild, evBuildSlice, evElems, evSlice, nth, rdc, wrc, fromBody, resA, finRet, oneOf, AV.cells?, AV.isCell, fin_int, fin_bool, fin_str, lLoop, cutC, bodyOf, Try.f41, E_esc, k24, c24, a24, i24, hz, sq22, h1, h2, h3, hemb, hr, hi, bq3, hE2, ha1, hc1, ht1]
      rfl, by simp [upd, h1], by simp [upd, wrap64 1 (by omega)], ?_, rfl⟩
    rw [htx, if_pos rfl]
    simp [upd]
  · have hi0 : (0 : Int) < i := by omega
    have hi0' : 0 < i := by omega
    have hlt : (i : Int) < kids.length := by omega
    generalize joinT (txtL (kids.take i)) = J at *
    refine ⟨_, by
      simp (disch := first | (simp only [List.length_append, List.length_cons, List.length_nil]; omega) | (simp; done) | assumption) [evCode_skip, evCode_region, evCode_draw, evCode_seq, evCode_cond, evCode_block, evCode_loop, evCode_exit, evCode_ret, seqK_ite, seqK_none, seqK_norm, seqK_ret, seqK_exit, seqK_pan, condK_true, condK_false, condK_bool, blockK_ite, blockK_none, blockK_norm, blockK_ret, blockK_exit, blockK_pan, stepK_ite, stepK_none, stepK_ok, stepK_pan, drawK_ite, drawK_none, drawK_ok, drawK_pan, opK_ite, opK_none, opK_val, opK_pan, wantK_true, wantK_false, wantK_some, afterRegion_ite, afterDraw_ite, fromBody_ite, ite_bool, ite_int, stepA_K, doOp, noOp, lexA_nil, lexA_cons, lexF_nil, lexF_cons, afterDraw, noClash, FP.clash, wantedA, evOp, rho, rhoL, ofC0, ofC, argsA, upd, afterRegion, putA, goOp, evBin_add, evBin_sub, evBin_mul, evBin_quo, evBin_rem, evBin_eql, evBin_neq, evBin_lss, evBin_leq, evBin_gtr, evBin_geq, evBin_eqlB, evBin_neqB, evBin_addS, evBin_eqlS, evBin_neqS, evBin_lssS, evBin_leqS, evUn, evConv, evIndex, evBuiltin, evLen, evMin2, evMax2, evCallee, evBox, evLoad, evStore, evFieldAddr, evField, evIndexAddr, evBuild, evBuildSlice, evElems, evSlice, nth, rdc, wrc, fromBody, resA, finRet, oneOf, AV.cells?, AV.isCell, fin_int, fin_bool, fin_str, lLoop, cutC, bodyOf, Try.f41, E_esc, k24, c24, a24, i24, hz, sq22, h1, h2, h3, hemb, hr, hi, hi0, hi0', hlt, bq3, hE2, ha1, hc1, ht1]
      rfl, by simp [upd, h1], by simp [upd, hw], ?_, rfl⟩
    rw [htx, if_neg h0]
    simp [upd]

theorem ev_list (n : Nat) (kids : List X) (tk : Bool) (S : St) (hl : kids.length < n) (hlen : kids.length ≤ 1099511627776) (hj : ∀ i, (joinT (txtL (kids.take i))).length ≤ 1099511627776) (ht : ∀ x ∈ kids, x.txt.length ≤ 1099511627776)
    (hrec : ∀ x ∈ kids, ∀ S, ev Try.prog E n 18 [x.emb] S = some (.ret (.str x.txt), S)) :
    ev Try.prog E (n + 1) 41 [.slice (embL kids) (tokOf tk)] S = some (.ret (.str (joinT (txtL kids))), S) := by
  have hE2 : (embL kids).length = kids.length := by rw [embL_map]; simp
  have key : ∀ fs, LI kids tk S 0 fs → ∃ fs', iter n (evCode ⟨Try.prog, E.esc 41, n⟩ (ev Try.prog E n) (E.ps 41) n lLoop) fs = some (.exit 0, fs') ∧ LI kids tk S kids.length fs' := fun fs h => by
    obtain ⟨⟨o, fs'⟩, r1, r2, r3⟩ := iter_range (Q := fun r => r.1 = .exit 0 ∧ LI kids tk S kids.length r.2) (len := kids.length) (fun i hi fs h => list_round n kids tk S hlen hj ht hrec i hi fs h)
      (fun fs h => by
        obtain ⟨t, b, v, S'⟩ := fs
        obtain ⟨h1, h2, h3, h4⟩ := h
        simp at h1 h2 h3 h4
        refine ⟨.exit 0, _, by
          simp (disch := first | (simp only [List.length_append, List.length_cons, List.length_nil]; omega) | (simp; done) | assumption) [evCode_skip, evCode_region, evCode_draw, evCode_seq, evCode_cond, evCode_block, evCode_loop, evCode_exit, evCode_ret, seqK_ite, seqK_none, seqK_norm, seqK_ret, seqK_exit, seqK_pan, condK_true, condK_false, condK_bool, blockK_ite, blockK_none, blockK_norm, blockK_ret, blockK_exit, blockK_pan, stepK_ite, stepK_none, stepK_ok, stepK_pan, drawK_ite, drawK_none, drawK_ok, drawK_pan, opK_ite, opK_none, opK_val, opK_pan, wantK_true, wantK_false, wantK_some, afterRegion_ite, afterDraw_ite, fromBody_ite, ite_bool, ite_int, stepA_K, doOp, noOp, lexA_nil, lexA_cons, lexF_nil, lexF_cons, afterDraw, noClash, FP.clash, wantedA, evOp, rho, rhoL, ofC0, ofC, argsA, upd, afterRegion, putA, goOp, evBin_add, evBin_sub, evBin_mul, evBin_quo, evBin_rem, evBin_eql, evBin_neq, evBin_lss, evBin_leq, evBin_gtr, evBin_geq, evBin_eqlB, evBin_neqB, evBin_addS, evBin_eqlS, evBin_neqS, evBin_lssS, evBin_leqS, evUn, evConv, evIndex, evBuiltin, evLen, evMin2, evMax2, evCallee, evBox, evLoad, evStore, evFieldAddr, evField, evIndexAddr, evBuild, evBuildSlice, evElems, evSlice, nth, rdc, wrc, fromBody, resA, finRet, oneOf, AV.cells?, AV.isCell, fin_int, fin_bool, fin_str, lLoop, cutC, bodyOf, Try.f41, h1, h2, bq3, sq22, hE2]
          rfl, by simp, rfl, by simp [upd, h1], by simp [upd, h2], by simp [upd, h3], by simpa [upd] using h4⟩) kids.length 0 n fs (by omega) hl h
    simp only at r2
    subst r2
    exact ⟨fs', r1, r3⟩
  obtain ⟨⟨t, b, v, S'⟩, hr, g1, g2, g3, g4⟩ := key ⟨upd 4 (.int .i64 0) (upd 3 (.str []) (upd 2 (.str []) (argsA [.slice (embL kids) (tokOf tk)]))), fun _ => (0, []), 3, S⟩
    ⟨by simp [upd, argsA], by simp [upd], by simp [upd, txtL, joinT, Lib.join_nil], rfl⟩
  simp at g1 g2 g3 g4
  subst g4
  rw [ev_enter (n := n) (show E.ok 41 = true from rfl) Try.func41 f41b (Nat.le_of_ble_eq_true rfl) (by decide +kernel)]
  simp (disch := first | (simp only [List.length_append, List.length_cons, List.length_nil]; omega) | (simp; done) | assumption) [evCode_skip, evCode_region, evCode_draw, evCode_seq, evCode_cond, evCode_block, evCode_loop, evCode_exit, evCode_ret, seqK_ite, seqK_none, seqK_norm, seqK_ret, seqK_exit, seqK_pan, condK_true, condK_false, condK_bool, blockK_ite, blockK_none, blockK_norm, blockK_ret, blockK_exit, blockK_pan, stepK_ite, stepK_none, stepK_ok, stepK_pan, drawK_ite, drawK_none, drawK_ok, drawK_pan, opK_ite, opK_none, opK_val, opK_pan, wantK_true, wantK_false, wantK_some, afterRegion_ite, afterDraw_ite, fromBody_ite, ite_bool, ite_int, stepA_K, doOp, noOp, lexA_nil, lexA_cons, lexF_nil, lexF_cons, afterDraw, noClash, FP.clash, wantedA, evOp, rho, rhoL, ofC0, ofC, argsA, upd, afterRegion, putA, goOp, evBin_add, evBin_sub, evBin_mul, evBin_quo, evBin_rem, evBin_eql, evBin_neq, evBin_lss, evBin_leq, evBin_gtr, evBin_geq, evBin_eqlB, evBin_neqB, evBin_addS, evBin_eqlS, evBin_neqS, evBin_lssS, evBin_leqS, evUn, evConv, evIndex, evBuiltin, evLen, evMin2, evMax2, evCallee, evBox, evLoad, evStore, evFieldAddr, evField, evIndexAddr, evBuild, evBuildSlice, evElems, evSlice, nth, rdc, wrc, fromBody, resA, finRet, oneOf, AV.cells?, AV.isCell, fin_int, fin_bool, fin_str, ll0, ll1, ll2, ll3, cutC, bodyOf, Try.f41, hr, g3]

theorem take_fit {l : List X} (h : fitL l) (i : Nat) : fitL (l.take i) ∧ bulkL (l.take i) ≤ bulkL l := by
  induction l generalizing i with
  | nil => simp [fitL]
  | cons x l ih =>
    cases i with
    | zero => simp [fitL, bulkL]
    | succ i =>
      have := ih h.2 i
      simp only [List.take_succ_cons, fitL, bulkL]
      exact ⟨⟨h.1, this.1⟩, by omega⟩

set_option maxHeartbeats 4000000 in
theorem ev_rExpr : ∀ (m : Nat) (x : X), x.bulk ≤ m → May x → x.fit → m ≤ 1048576 → ∀ n, 2 * m + 40 ≤ n → ∀ S, ev Try.prog E n 18 [x.emb] S = some (.ret (.str x.txt), S)
  | 0, x, hm, _, _, _, _, _, _ => by cases x; simp [X.bulk] at hm
  | m + 1, x, hm, hmay, hfit, hmm, n, hn, S => by
    obtain ⟨n, rfl⟩ : ∃ k, n = k + 3 := ⟨n - 3, by omega⟩
    obtain ⟨k, nm, a, lo, hi, tk, kids⟩ := x
    obtain ⟨f1, f2, f3, f4, f5, f6⟩ := hfit
    simp only [X.bulk] at hm
    have hsz := size_bulkL kids
    have hlen := sizeL_length kids
    have hrec : ∀ x ∈ kids, May x → ∀ S, ev Try.prog E (n + 1) 18 [x.emb] S = some (.ret (.str x.txt), S) := fun x hx hx' S =>
      ev_rExpr m x (by have := bulkL_mem hx; omega) hx' (fitL_mem hx f6) (by omega) (n + 1) (by omega) S
    have hrec2 : ∀ x ∈ kids, May x → ∀ S, ev Try.prog E (n + 2) 18 [x.emb] S = some (.ret (.str x.txt), S) := fun x hx hx' S =>
      ev_rExpr m x (by have := bulkL_mem hx; omega) hx' (fitL_mem hx f6) (by omega) (n + 2) (by omega) S
    have hj := join_bulk f6
    have hall : (∀ x ∈ kids, May x) → ∀ S, ev Try.prog E (n + 2) 41 [.slice (embL kids) (tokOf tk)] S = some (.ret (.str (joinT (txtL kids))), S) := fun h S =>
      ev_list (n + 1) kids tk S (by omega) (by omega) (fun i => by have := take_fit f6 i; have := join_bulk this.1; omega) (fun x hx => by have := txt_len x (fitL_mem hx f6); have := bulkL_mem hx; omega) fun x hx S => hrec x hx (h x hx) S
    have hfl := front_len (k := k) f3 f4
    have hE2 : (embL kids).length = kids.length := by rw [embL_map]; simp
    have p1 : E.ps 18 10 = [(0, 4), (1, 4)] := rfl
    have p3 : E.ps 18 11 = [(1, 8), (3, 8), (4, 8), (1, 13), (3, 13), (4, 13), (8, 13), (9, 13), (1, 15), (3, 15), (4, 15), (8, 15), (9, 15)] := rfl
    simp only [X.emb]
    rw [ev_enter (n := n + 2) (show E.ok 18 = true from rfl) Try.func18 (fn := Try.f18) rfl (Nat.le_of_ble_eq_true rfl) (by decide +kernel)]
    cases hmay with
    | set _ _ _ _ _ _ hk =>
      have ha := hall (fun x hx => by obtain ⟨_, _, _, _, _, rfl⟩ := hk x hx; exact .leaf _ _ _ _ _ _ (.inr (.inr (.inl rfl))) (by simp)) S
      generalize hJ : joinT (txtL kids) = J at *
      simp (disch := first | (simp only [List.length_append, List.length_cons, List.length_nil]; omega) | (simp; done) | assumption) [evCode_skip, evCode_region, evCode_draw, evCode_seq, evCode_cond, evCode_block, evCode_loop, evCode_exit, evCode_ret, seqK_ite, seqK_none, seqK_norm, seqK_ret, seqK_exit, seqK_pan, condK_true, condK_false, condK_bool, blockK_ite, blockK_none, blockK_norm, blockK_ret, blockK_exit, blockK_pan, stepK_ite, stepK_none, stepK_ok, stepK_pan, drawK_ite, drawK_none, drawK_ok, drawK_pan, opK_ite, opK_none, opK_val, opK_pan, wantK_true, wantK_false, wantK_some, afterRegion_ite, afterDraw_ite, fromBody_ite, ite_bool, ite_int, stepA_K, doOp, noOp, lexA_nil, lexA_cons, lexF_nil, lexF_cons, afterDraw, noClash, FP.clash, wantedA, evOp, rho, rhoL, ofC0, ofC, argsA, upd, afterRegion, putA, goOp, evBin_add, evBin_sub, evBin_mul, evBin_quo, evBin_rem, evBin_eql, evBin_neq, evBin_lss, evBin_leq, evBin_gtr, evBin_geq, evBin_eqlB, evBin_neqB, evBin_addS, evBin_eqlS, evBin_neqS, evBin_lssS, evBin_leqS, evUn, evConv, evIndex, evBuiltin, evLen, evMin2, evMax2, evCallee, evBox, evLoad, evStore, evFieldAddr, evField, evIndexAddr, evBuild, evBuildSlice, evElems, evSlice, nth, rdc, wrc, fromBody, resA, finRet, oneOf, AV.cells?, AV.isCell, fin_int, fin_bool, fin_str, Try.f18, E_esc, k24, c24, a24, k3, c3, a3, k22, c22, a22, fq0, fq5, ha, X.txt, hJ]
    | leaf _ _ _ _ _ _ hk hb =>
      have hl : ev Try.prog E (n + 2) 42 [.agg [.int .i64 k, .str nm, .int .i64 a, .int .i64 lo, .int .i64 hi, .slice [] (tokOf tk)]] S = some (.ret (.str (leafT k nm a hi)), S) := ev_rleaf (n + 1) (by omega) k nm a lo hi (.slice [] (tokOf tk)) rfl hk hb f2 f4 (by omega) S
      rcases hk with rfl | rfl | rfl | rfl | rfl | rfl | rfl | rfl <;>
        simp (disch := first | (simp only [List.length_append, List.length_cons, List.length_nil]; omega) | (simp; done) | assumption) [evCode_skip, evCode_region, evCode_draw, evCode_seq, evCode_cond, evCode_block, evCode_loop, evCode_exit, evCode_ret, seqK_ite, seqK_none, seqK_norm, seqK_ret, seqK_exit, seqK_pan, condK_true, condK_false, condK_bool, blockK_ite, blockK_none, blockK_norm, blockK_ret, blockK_exit, blockK_pan, stepK_ite, stepK_none, stepK_ok, stepK_pan, drawK_ite, drawK_none, drawK_ok, drawK_pan, opK_ite, opK_none, opK_val, opK_pan, wantK_true, wantK_false, wantK_some, afterRegion_ite, afterDraw_ite, fromBody_ite, ite_bool, ite_int, stepA_K, doOp, noOp, lexA_nil, lexA_cons, lexF_nil, lexF_cons, afterDraw, noClash, FP.clash, wantedA, evOp, rho, rhoL, ofC0, ofC, argsA, upd, afterRegion, putA, goOp, evBin_add, evBin_sub, evBin_mul, evBin_quo, evBin_rem, evBin_eql, evBin_neq, evBin_lss, evBin_leq, evBin_gtr, evBin_geq, evBin_eqlB, evBin_neqB, evBin_addS, evBin_eqlS, evBin_neqS, evBin_lssS, evBin_leqS, evUn, evConv, evIndex, evBuiltin, evLen, evMin2, evMax2, evCallee, evBox, evLoad, evStore, evFieldAddr, evField, evIndexAddr, evBuild, evBuildSlice, evElems, evSlice, nth, rdc, wrc, fromBody, resA, finRet, oneOf, AV.cells?, AV.isCell, fin_int, fin_bool, fin_str, Try.f18, E_esc, k24, c24, a24, k3, c3, a3, k22, c22, a22, fq0, fq5, sq22, hl, X.txt, embL]
    | one _ _ _ _ _ _ x hk hx =>
      have ha := hall (fun y hy => by simp at hy; subst hy; exact hx) S
      have hw : ∀ k, (k = 12 ∨ k = 25 ∨ k = 22 ∨ k = 23 ∨ k = 24) → ev Try.prog E (n + 2) 43 [.agg [.int .i64 k, .str nm, .int .i64 a, .int .i64 lo, .int .i64 hi, .slice (embL [x]) (tokOf tk)]] S = some (.ret (.str (frontT k lo hi)), S) := fun k hk => ev_front (n + 1) (by omega) k nm a lo hi _ rfl hk f3 f4 S
      have e1 := hrec2 x (by simp) hx S
      have l1 := txt_len x (fitL_mem (l := [x]) (by simp) f6)
      have l3 : x.bulk ≤ 1048576 := by have := bulkL_mem (x := x) (l := [x]) (by simp); omega
      obtain ⟨z, hz⟩ := ii24
      have ha1 := cells_all x
      have hc1 := (cells_ok x).2
      have ht1 : List.take 6 x.cells = x.cells := List.take_of_length_le (by omega)
      have hj1 : joinT (txtL [x]) = x.txt := by simp [joinT, txtL, Lib.join_one]
      simp only [emb_cells, embL] at e1 ha hw ⊢
      rw [hj1] at ha hj
      simp only [X.txt, hj1]
      generalize x.txt = t1 at *
      generalize x.cells = C1 at *
      have hfr := fun k => front_len (k := k) f3 f4
      rcases hk with rfl | rfl | rfl | rfl | rfl | rfl
      · simp (disch := first | (simp only [List.length_append, List.length_cons, List.length_nil]; omega) | (simp; done) | assumption) [evCode_skip, evCode_region, evCode_draw, evCode_seq, evCode_cond, evCode_block, evCode_loop, evCode_exit, evCode_ret, seqK_ite, seqK_none, seqK_norm, seqK_ret, seqK_exit, seqK_pan, condK_true, condK_false, condK_bool, blockK_ite, blockK_none, blockK_norm, blockK_ret, blockK_exit, blockK_pan, stepK_ite, stepK_none, stepK_ok, stepK_pan, drawK_ite, drawK_none, drawK_ok, drawK_pan, opK_ite, opK_none, opK_val, opK_pan, wantK_true, wantK_false, wantK_some, afterRegion_ite, afterDraw_ite, fromBody_ite, ite_bool, ite_int, stepA_K, doOp, noOp, lexA_nil, lexA_cons, lexF_nil, lexF_cons, afterDraw, noClash, FP.clash, wantedA, evOp, rho, rhoL, ofC0, ofC, argsA, upd, afterRegion, putA, goOp, evBin_add, evBin_sub, evBin_mul, evBin_quo, evBin_rem, evBin_eql, evBin_neq, evBin_lss, evBin_leq, evBin_gtr, evBin_geq, evBin_eqlB, evBin_neqB, evBin_addS, evBin_eqlS, evBin_neqS, evBin_lssS, evBin_leqS, evUn, evConv, evIndex, evBuiltin, evLen, evMin2, evMax2, evCallee, evBox, evLoad, evStore, evFieldAddr, evField, evIndexAddr, evBuild, evBuildSlice, evElems, evSlice, nth, rdc, wrc, fromBody, resA, finRet, oneOf, AV.cells?, AV.isCell, fin_int, fin_bool, fin_str, Try.f18, E_esc, k24, c24, a24, k3, c3, a3, k22, c22, a22, fq0, fq5, sq22, e1, i24, hz, ha1, hc1, ht1]
      · have hq := hw 12 (by simp)
        have := hfr 12
        generalize frontT 12 lo hi = fr at *
        simp (disch := first | (simp only [List.length_append, List.length_cons, List.length_nil]; omega) | (simp; done) | assumption) [evCode_skip, evCode_region, evCode_draw, evCode_seq, evCode_cond, evCode_block, evCode_loop, evCode_exit, evCode_ret, seqK_ite, seqK_none, seqK_norm, seqK_ret, seqK_exit, seqK_pan, condK_true, condK_false, condK_bool, blockK_ite, blockK_none, blockK_norm, blockK_ret, blockK_exit, blockK_pan, stepK_ite, stepK_none, stepK_ok, stepK_pan, drawK_ite, drawK_none, drawK_ok, drawK_pan, opK_ite, opK_none, opK_val, opK_pan, wantK_true, wantK_false, wantK_some, afterRegion_ite, afterDraw_ite, fromBody_ite, ite_bool, ite_int, stepA_K, doOp, noOp, lexA_nil, lexA_cons, lexF_nil, lexF_cons, afterDraw, noClash, FP.clash, wantedA, evOp, rho, rhoL, ofC0, ofC, argsA, upd, afterRegion, putA, goOp, evBin_add, evBin_sub, evBin_mul, evBin_quo, evBin_rem, evBin_eql, evBin_neq, evBin_lss, evBin_leq, evBin_gtr, evBin_geq, evBin_eqlB, evBin_neqB, evBin_addS, evBin_eqlS, evBin_neqS, evBin_lssS, evBin_leqS, evUn, evConv, evIndex, evBuiltin, evLen, evMin2, evMax2, evCallee, evBox, evLoad, evStore, evFieldAddr, evField, evIndexAddr, evBuild, evBuildSlice, evElems, evSlice, nth, rdc, wrc, fromBody, resA, finRet, oneOf, AV.cells?, AV.isCell, fin_int, fin_bool, fin_str, Try.f18, E_esc, k24, c24, a24, k3, c3, a3, k22, c22, a22, fq0, fq5, sq22, ha, hq, p1, ha1, hc1, ht1]
      · simp (disch := first | (simp only [List.length_append, List.length_cons, List.length_nil]; omega) | (simp; done) | assumption) [evCode_skip, evCode_region, evCode_draw, evCode_seq, evCode_cond, evCode_block, evCode_loop, evCode_exit, evCode_ret, seqK_ite, seqK_none, seqK_norm, seqK_ret, seqK_exit, seqK_pan, condK_true, condK_false, condK_bool, blockK_ite, blockK_none, blockK_norm, blockK_ret, blockK_exit, blockK_pan, stepK_ite, stepK_none, stepK_ok, stepK_pan, drawK_ite, drawK_none, drawK_ok, drawK_pan, opK_ite, opK_none, opK_val, opK_pan, wantK_true, wantK_false, wantK_some, afterRegion_ite, afterDraw_ite, fromBody_ite, ite_bool, ite_int, stepA_K, doOp, noOp, lexA_nil, lexA_cons, lexF_nil, lexF_cons, afterDraw, noClash, FP.clash, wantedA, evOp, rho, rhoL, ofC0, ofC, argsA, upd, afterRegion, putA, goOp, evBin_add, evBin_sub, evBin_mul, evBin_quo, evBin_rem, evBin_eql, evBin_neq, evBin_lss, evBin_leq, evBin_gtr, evBin_geq, evBin_eqlB, evBin_neqB, evBin_addS, evBin_eqlS, evBin_neqS, evBin_lssS, evBin_leqS, evUn, evConv, evIndex, evBuiltin, evLen, evMin2, evMax2, evCallee, evBox, evLoad, evStore, evFieldAddr, evField, evIndexAddr, evBuild, evBuildSlice, evElems, evSlice, nth, rdc, wrc, fromBody, resA, finRet, oneOf, AV.cells?, AV.isCell, fin_int, fin_bool, fin_str, Try.f18, E_esc, k24, c24, a24, k3, c3, a3, k22, c22, a22, fq0, fq5, sq22, e1, i24, hz, ha1, hc1, ht1]
      · have hq := hw 22 (by simp)
        have := hfr 22
        generalize frontT 22 lo hi = fr at *
        simp (disch := first | (simp only [List.length_append, List.length_cons, List.length_nil]; omega) | (simp; done) | assumption) [evCode_skip, evCode_region, evCode_draw, evCode_seq, evCode_cond, evCode_block, evCode_loop, evCode_exit, evCode_ret, seqK_ite, seqK_none, seqK_norm, seqK_ret, seqK_exit, seqK_pan, condK_true, condK_false, condK_bool, blockK_ite, blockK_none, blockK_norm, blockK_ret, blockK_exit, blockK_pan, stepK_ite, stepK_none, stepK_ok, stepK_pan, drawK_ite, drawK_none, drawK_ok, drawK_pan, opK_ite, opK_none, opK_val, opK_pan, wantK_true, wantK_false, wantK_some, afterRegion_ite, afterDraw_ite, fromBody_ite, ite_bool, ite_int, stepA_K, doOp, noOp, lexA_nil, lexA_cons, lexF_nil, lexF_cons, afterDraw, noClash, FP.clash, wantedA, evOp, rho, rhoL, ofC0, ofC, argsA, upd, afterRegion, putA, goOp, evBin_add, evBin_sub, evBin_mul, evBin_quo, evBin_rem, evBin_eql, evBin_neq, evBin_lss, evBin_leq, evBin_gtr, evBin_geq, evBin_eqlB, evBin_neqB, evBin_addS, evBin_eqlS, evBin_neqS, evBin_lssS, evBin_leqS, evUn, evConv, evIndex, evBuiltin, evLen, evMin2, evMax2, evCallee, evBox, evLoad, evStore, evFieldAddr, evField, evIndexAddr, evBuild, evBuildSlice, evElems, evSlice, nth, rdc, wrc, fromBody, resA, finRet, oneOf, AV.cells?, AV.isCell, fin_int, fin_bool, fin_str, Try.f18, E_esc, k24, c24, a24, k3, c3, a3, k22, c22, a22, fq0, fq5, sq22, ha, hq, p1, ha1, hc1, ht1]
      · have hq := hw 23 (by simp)
        have := hfr 23
        generalize frontT 23 lo hi = fr at *
        simp (disch := first | (simp only [List.length_append, List.length_cons, List.length_nil]; omega) | (simp; done) | assumption) [evCode_skip, evCode_region, evCode_draw, evCode_seq, evCode_cond, evCode_block, evCode_loop, evCode_exit, evCode_ret, seqK_ite, seqK_none, seqK_norm, seqK_ret, seqK_exit, seqK_pan, condK_true, condK_false, condK_bool, blockK_ite, blockK_none, blockK_norm, blockK_ret, blockK_exit, blockK_pan, stepK_ite, stepK_none, stepK_ok, stepK_pan, drawK_ite, drawK_none, drawK_ok, drawK_pan, opK_ite, opK_none, opK_val, opK_pan, wantK_true, wantK_false, wantK_some, afterRegion_ite, afterDraw_ite, fromBody_ite, ite_bool, ite_int, stepA_K, doOp, noOp, lexA_nil, lexA_cons, lexF_nil, lexF_cons, afterDraw, noClash, FP.clash, wantedA, evOp, rho, rhoL, ofC0, ofC, argsA, upd, afterRegion, putA, goOp, evBin_add, evBin_sub, evBin_mul, evBin_quo, evBin_rem, evBin_eql, evBin_neq, evBin_lss, evBin_leq, evBin_gtr, evBin_geq, evBin_eqlB, evBin_neqB, evBin_addS, evBin_eqlS, evBin_neqS, evBin_lssS, evBin_leqS, evUn, evConv, evIndex, evBuiltin, evLen, evMin2, evMax2, evCallee, evBox, evLoad, evStore, evFieldAddr, evField, evIndexAddr, evBuild, evBuildSlice, evElems, evSlice, nth, rdc, wrc, fromBody, resA, finRet, oneOf, AV.cells?, AV.isCell, fin_int, fin_bool, fin_str, Try.f18, E_esc, k24, c24, a24, k3, c3, a3, k22, c22, a22, fq0, fq5, sq22, ha, hq, p1, ha1, hc1, ht1]
      · have hq := hw 25 (by simp)
        have := hfr 25
        generalize frontT 25 lo hi = fr at *
        simp (disch := first | (simp only [List.length_append, List.length_cons, List.length_nil]; omega) | (simp; done) | assumption) [evCode_skip, evCode_region, evCode_draw, evCode_seq, evCode_cond, evCode_block, evCode_loop, evCode_exit, evCode_ret, seqK_ite, seqK_none, seqK_norm, seqK_ret, seqK_exit, seqK_pan, condK_true, condK_false, condK_bool, blockK_ite, blockK_none, blockK_norm, blockK_ret, blockK_exit, blockK_pan, stepK_ite, stepK_none, stepK_ok, stepK_pan, drawK_ite, drawK_none, drawK_ok, drawK_pan, opK_ite, opK_none, opK_val, opK_pan, wantK_true, wantK_false, wantK_some, afterRegion_ite, afterDraw_ite, fromBody_ite, ite_bool, ite_int, stepA_K, doOp, noOp, lexA_nil, lexA_cons, lexF_nil, lexF_cons, afterDraw, noClash, FP.clash, wantedA, evOp, rho, rhoL, ofC0, ofC, argsA, upd, afterRegion, putA, goOp, evBin_add, evBin_sub, evBin_mul, evBin_quo, evBin_rem, evBin_eql, evBin_neq, evBin_lss, evBin_leq, evBin_gtr, evBin_geq, evBin_eqlB, evBin_neqB, evBin_addS, evBin_eqlS, evBin_neqS, evBin_lssS, evBin_leqS, evUn, evConv, evIndex, evBuiltin, evLen, evMin2, evMax2, evCallee, evBox, evLoad, evStore, evFieldAddr, evField, evIndexAddr, evBuild, evBuildSlice, evElems, evSlice, nth, rdc, wrc, fromBody, resA, finRet, oneOf, AV.cells?, AV.isCell, fin_int, fin_bool, fin_str, Try.f18, E_esc, k24, c24, a24, k3, c3, a3, k22, c22, a22, fq0, fq5, sq22, ha, hq, p1, ha1, hc1, ht1]
    | two _ _ _ _ _ _ x y hk hx hy =>
      have ha := hall (fun z hz => by simp at hz; rcases hz with rfl | rfl <;> assumption) S
      have hs : ∀ k, (k = 8 ∨ k = 9 ∨ k = 10 ∨ k = 14 ∨ k = 15 ∨ k = 16 ∨ k = 17 ∨ k = 19 ∨ k = 20) → ev Try.prog E (n + 2) 44 [.int .i64 k] S = some (.ret (.str (signT k)), S) := fun k hk => ev_between (n + 1) k hk S
      have hq : ev Try.prog E (n + 2) 43 [.agg [.int .i64 24, .str nm, .int .i64 a, .int .i64 lo, .int .i64 hi, .slice (embL [x, y]) (tokOf tk)]] S = some (.ret (.str (frontT 24 lo hi)), S) := ev_front (n + 1) (by omega) 24 nm a lo hi _ rfl (by simp) f3 f4 S
      have hf24 := front_len (k := 24) f3 f4
      have e1 := hrec2 x (by simp) hx S
      have e2 := hrec2 y (by simp) hy S
      have l1 := txt_len x (fitL_mem (l := [x, y]) (by simp) f6)
      have l2 := txt_len y (fitL_mem (l := [x, y]) (by simp) f6)
      have l3 : x.bulk ≤ 1048576 := by have := bulkL_mem (x := x) (l := [x, y]) (by simp); omega
      have l4 : y.bulk ≤ 1048576 := by have := bulkL_mem (x := y) (l := [x, y]) (by simp); omega
      obtain ⟨z, hz⟩ := ii24
      have ha1 := cells_all x
      have ha2 := cells_all y
      have hc1 := (cells_ok x).2
      have hc2 := (cells_ok y).2
      have ht1 : List.take 6 x.cells = x.cells := List.take_of_length_le (by omega)
      have ht2 : List.take 6 y.cells = y.cells := List.take_of_length_le (by omega)
      simp only [emb_cells, embL] at e1 e2 ha hq ⊢
      rcases hk with rfl | rfl | rfl | rfl | rfl | rfl | rfl | rfl | rfl | rfl
      rotate_right 1
      · simp only [X.txt]
        generalize hJ : joinT (txtL [x, y]) = J at *
        generalize frontT 24 lo hi = fr at *
        generalize x.cells = C1 at *
        generalize y.cells = C2 at *
        simp (disch := first | (simp only [List.length_append, List.length_cons, List.length_nil]; omega) | (simp; done) | assumption) [evCode_skip, evCode_region, evCode_draw, evCode_seq, evCode_cond, evCode_block, evCode_loop, evCode_exit, evCode_ret, seqK_ite, seqK_none, seqK_norm, seqK_ret, seqK_exit, seqK_pan, condK_true, condK_false, condK_bool, blockK_ite, blockK_none, blockK_norm, blockK_ret, blockK_exit, blockK_pan, stepK_ite, stepK_none, stepK_ok, stepK_pan, drawK_ite, drawK_none, drawK_ok, drawK_pan, opK_ite, opK_none, opK_val, opK_pan, wantK_true, wantK_false, wantK_some, afterRegion_ite, afterDraw_ite, fromBody_ite, ite_bool, ite_int, stepA_K, doOp, noOp, lexA_nil, lexA_cons, lexF_nil, lexF_cons, afterDraw, noClash, FP.clash, wantedA, evOp, rho, rhoL, ofC0, ofC, argsA, upd, afterRegion, putA, goOp, evBin_add, evBin_sub, evBin_mul, evBin_quo, evBin_rem, evBin_eql, evBin_neq, evBin_lss, evBin_leq, evBin_gtr, evBin_geq, evBin_eqlB, evBin_neqB, evBin_addS, evBin_eqlS, evBin_neqS, evBin_lssS, evBin_leqS, evUn, evConv, evIndex, evBuiltin, evLen, evMin2, evMax2, evCallee, evBox, evLoad, evStore, evFieldAddr, evField, evIndexAddr, evBuild, evBuildSlice, evElems, evSlice, nth, rdc, wrc, fromBody, resA, finRet, oneOf, AV.cells?, AV.isCell, fin_int, fin_bool, fin_str, Try.f18, E_esc, k24, c24, a24, k3, c3, a3, k22, c22, a22, fq0, fq5, sq22, ha, hq, p1, ha1, hc1, ht1, ha2, hc2, ht2]
      all_goals
        simp only [X.txt, txtL]
        generalize x.txt = t1 at *
        generalize y.txt = t2 at *
        generalize x.cells = C1 at *
        generalize y.cells = C2 at *
        simp (disch := first | (simp only [List.length_append, List.length_cons, List.length_nil]; omega) | (simp; done) | assumption) [evCode_skip, evCode_region, evCode_draw, evCode_seq, evCode_cond, evCode_block, evCode_loop, evCode_exit, evCode_ret, seqK_ite, seqK_none, seqK_norm, seqK_ret, seqK_exit, seqK_pan, condK_true, condK_false, condK_bool, blockK_ite, blockK_none, blockK_norm, blockK_ret, blockK_exit, blockK_pan, stepK_ite, stepK_none, stepK_ok, stepK_pan, drawK_ite, drawK_none, drawK_ok, drawK_pan, opK_ite, opK_none, opK_val, opK_pan, wantK_true, wantK_false, wantK_some, afterRegion_ite, afterDraw_ite, fromBody_ite, ite_bool, ite_int, stepA_K, doOp, noOp, lexA_nil, lexA_cons, lexF_nil, lexF_cons, afterDraw, noClash, FP.clash, wantedA, evOp, rho, rhoL, ofC0, ofC, argsA, upd, afterRegion, putA, goOp, evBin_add, evBin_sub, evBin_mul, evBin_quo, evBin_rem, evBin_eql, evBin_neq, evBin_lss, evBin_leq, evBin_gtr, evBin_geq, evBin_eqlB, evBin_neqB, evBin_addS, evBin_eqlS, evBin_neqS, evBin_lssS, evBin_leqS, evUn, evConv, evIndex, evBuiltin, evLen, evMin2, evMax2, evCallee, evBox, evLoad, evStore, evFieldAddr, evField, evIndexAddr, evBuild, evBuildSlice, evElems, evSlice, nth, rdc, wrc, fromBody, resA, finRet, oneOf, AV.cells?, AV.isCell, fin_int, fin_bool, fin_str, Try.f18, E_esc, k24, c24, a24, k3, c3, a3, k22, c22, a22, fq0, fq5, sq22, hs, e1, e2, i24, hz, p3, binT, signT, ha1, ha2, hc1, hc2, ht1, ht2]
end Go.Proofs.Ytemggoaefohliaa.PT
