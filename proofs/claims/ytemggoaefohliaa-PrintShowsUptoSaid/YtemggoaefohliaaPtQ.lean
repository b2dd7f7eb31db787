/- Whether an expression may be, evaluated. No condition. -/
import Derived.Test.YtemggoaefohliaaPtP
namespace Go.Proofs.Ytemggoaefohliaa.PT
set_option linter.unusedVariables false
set_option linter.unusedSimpArgs false
open Go AE EX
set_option maxRecDepth 100000

def Good : X → Prop
  | .mk k nm n lo hi _ kids => kinds k ∧ (k ≠ 4 → (kids.length : Int) = kidsI k) ∧ (k = 4 → ∀ z ∈ kids, SetKid z) ∧ Fits k nm n lo hi

theorem kidsI_vals {k : Int} (h : kinds k) (h4 : k ≠ 4) : 0 ≤ kidsI k ∧ kidsI k ≤ 2 := by
  have := (kinds_iff k).1 h
  unfold kidsI
  rw [if_neg (by omega), if_neg h4]
  split
  · omega
  · split <;> omega
theorem kidsI_out {k : Int} (h : ¬ kinds k) : kidsI k = -2 := by
  rw [kinds_iff] at h
  unfold kidsI
  rw [if_pos (by omega)]

theorem may_of_good : ∀ (m : Nat) (x : X), x.size ≤ m → (∀ y ∈ x.nodes, Good y) → May x
  | 0, x, hm, _ => absurd hm (by have := size_pos x; omega)
  | m + 1, .mk k nm n lo hi tk kids, hm, h => by
    obtain ⟨g1, g2, g3, g4⟩ := h (.mk k nm n lo hi tk kids) (by simp [X.nodes])
    simp only [X.size] at hm
    by_cases h4 : k = 4
    · subst h4
      exact .set _ _ _ _ _ _ fun x hx => by
        obtain ⟨nm', tk', rfl, _⟩ := g3 rfl x hx
        exact ⟨nm', 0, 0, 0, tk', rfl⟩
    · have g2 := g2 h4
      have hrec : ∀ x ∈ kids, May x := fun x hx => may_of_good m x (by have := sizeL_mem hx; omega) fun y hy => h y (by
        have h4' : (k == 4) = false := by simp [h4]
        simp only [X.nodes, h4']
        refine List.mem_cons_of_mem _ ?_
        have : ∀ l : List X, x ∈ l → y ∈ nodesL l := fun l => by
          induction l with
          | nil => intro hh; cases hh
          | cons z l ih =>
            intro hh
            simp only [nodesL, List.mem_append]
            rcases List.mem_cons.1 hh with rfl | hh
            · exact .inl hy
            · exact .inr (ih hh)
        exact this kids hx)
      have hk := (kinds_iff k).1 g1
      match kids, g2, hrec with
      | [], g2, _ =>
        refine .leaf _ _ _ _ _ _ ?_ g4.bool
        unfold kidsI at g2
        unfold isLeaf
        simp at g2
        (repeat' split at g2) <;> omega
      | [a], g2, hrec =>
        refine .one _ _ _ _ _ _ _ ?_ (hrec a (by simp))
        unfold kidsI at g2
        simp at g2
        (repeat' split at g2) <;> omega
      | [a, b], g2, hrec =>
        refine .two _ _ _ _ _ _ _ _ ?_ (hrec a (by simp)) (hrec b (by simp))
        unfold kidsI at g2
        simp at g2
        (repeat' split at g2) <;> omega
      | a :: b :: c :: r, g2, _ =>
        have := (kidsI_vals g1 h4).2
        simp at g2
        omega

noncomputable def cLoop : Code := cutC (bodyOf Try.f16) [1, 1, 1, 1, 0, 1, 0, 0]
noncomputable def cl0 : Code := cutC (bodyOf Try.f16) [0]
noncomputable def cl1 : Code := cutC (bodyOf Try.f16) [1, 0]
noncomputable def cl2 : Code := cutC (bodyOf Try.f16) [1, 1, 0]
noncomputable def cl3 : Code := cutC (bodyOf Try.f16) [1, 1, 1, 0]
noncomputable def cl4 : Code := cutC (bodyOf Try.f16) [1, 1, 1, 1, 0, 0]
noncomputable def cl5 : Code := cutC (bodyOf Try.f16) [1, 1, 1, 1, 1]
theorem f16b : Try.f16.body = some (.seq cl0 (.seq cl1 (.seq cl2 (.seq cl3 (.seq (.seq cl4 (.block 0 (.loop cLoop))) cl5))))) := rfl

def CI (N : List X) (tok : Tok) (S0 : St) (m : Nat) (fs : FS) : Prop :=
  ∃ i, i + m = N.length ∧ fs.t 3 = .slice (embL N) tok ∧ fs.t 4 = .int .i64 i ∧ fs.S = S0 ∧ ∀ y ∈ N.take i, Good y
def CQ (N : List X) (S0 : St) (r : Out × FS) : Prop :=
  r.2.S = S0 ∧ ((r.1 = .exit 0 ∧ ∀ y ∈ N, Good y) ∨ (r.1 = .ret ∧ r.2.t 2 = .int .i64 12))

theorem check_round (n : Nat) (hn : 44 ≤ n) (N : List X) (tok : Tok) (S0 : St) (hs : N.length ≤ 1048576) (m : Nat) (fs : FS) (h : CI N tok S0 m fs) :
    ∃ o fs', evCode ⟨Try.prog, E.esc 16, n⟩ (ev Try.prog E n) (E.ps 16) n cLoop fs = some (o, fs') ∧ ((o = .norm ∧ ∃ m', m' < m ∧ CI N tok S0 m' fs') ∨ (o ≠ .norm ∧ CQ N S0 (o, fs'))) := by
  obtain ⟨t, b, v, S⟩ := fs
  obtain ⟨i, hi, h1, h2, h3, h4⟩ := h
  simp only at h1 h2 h3
  subst h3
  have hlen := embL_length N
  cases m with
  | zero =>
    have hi : i = N.length := by omega
    subst hi
    refine ⟨.exit 0, _, by
      simp (disch := first | (simp only [List.length_append, List.length_cons, List.length_nil]; omega) | (simp; done) | assumption) [evCode_skip, evCode_region, evCode_draw, evCode_seq, evCode_cond, evCode_block, evCode_loop, evCode_exit, evCode_ret, seqK_ite, seqK_none, seqK_norm, seqK_ret, seqK_exit, seqK_pan, condK_true, condK_false, condK_bool, blockK_ite, blockK_none, blockK_norm, blockK_ret, blockK_exit, blockK_pan, stepK_ite, stepK_none, stepK_ok, stepK_pan, drawK_ite, drawK_none, drawK_ok, drawK_pan, opK_ite, opK_none, opK_val, opK_pan, wantK_true, wantK_false, wantK_some, afterRegion_ite, afterDraw_ite, fromBody_ite, ite_bool, ite_int, stepA_K, doOp, noOp, lexA_nil, lexA_cons, lexF_nil, lexF_cons, afterDraw, noClash, FP.clash, wantedA, evOp, rho, rhoL, ofC0, ofC, argsA, upd, afterRegion, putA, goOp, evBin_add, evBin_sub, evBin_mul, evBin_quo, evBin_rem, evBin_eql, evBin_neq, evBin_lss, evBin_leq, evBin_gtr, evBin_geq, evBin_eqlB, evBin_neqB, evBin_addS, evBin_eqlS, evBin_neqS, evBin_lssS, evBin_leqS, evUn, evConv, evIndex, evBuiltin, evLen, evMin2, evMax2, evCallee, evBox, evLoad, evStore, evFieldAddr, evField, evIndexAddr, evBuild, evBuildSlice, evElems, evSlice, nth, rdc, wrc, fromBody, resA, finRet, oneOf, AV.cells?, AV.isCell, fin_int, fin_bool, fin_str, cLoop, cutC, bodyOf, Try.f16, h1, h2, sq22, bq3, hlen]
      rfl, .inr ⟨by simp, rfl, .inl ⟨rfl, by simpa using h4⟩⟩⟩
  | succ m =>
    have hlt : i < N.length := by omega
    have hltz : (i : Int) < N.length := by omega
    have hxe : N[i]? = some N[i] := List.getElem?_eq_getElem hlt
    have htake : N.take (i + 1) = N.take i ++ [N[i]] := by rw [List.take_add_one, hxe]; rfl
    have hemb : (embL N)[i]? = some N[i].emb := by rw [embL_map, List.getElem?_map, hxe]; rfl
    have hw : IntKind.i64.wrap ((i : Int) + 1) = (i : Int) + 1 := wrap64 _ (by omega)
    obtain ⟨z, hz⟩ := ii24
    generalize N[i] = x at *
    obtain ⟨k, nm, a, lo, hi', tk, ks⟩ := x
    obtain ⟨n, rfl⟩ : ∃ q, n = q + 1 := ⟨n - 1, by omega⟩
    have hK := ev_Kids n k S
    have hks := embL_length ks
    simp only [X.emb] at hemb
    by_cases hk : kinds k
    rotate_left 1
    · rw [kidsI_out hk] at hK
      refine ⟨.ret, _, by
        simp (disch := first | (simp only [List.length_append, List.length_cons, List.length_nil]; omega) | (simp; done) | assumption) [evCode_skip, evCode_region, evCode_draw, evCode_seq, evCode_cond, evCode_block, evCode_loop, evCode_exit, evCode_ret, seqK_ite, seqK_none, seqK_norm, seqK_ret, seqK_exit, seqK_pan, condK_true, condK_false, condK_bool, blockK_ite, blockK_none, blockK_norm, blockK_ret, blockK_exit, blockK_pan, stepK_ite, stepK_none, stepK_ok, stepK_pan, drawK_ite, drawK_none, drawK_ok, drawK_pan, opK_ite, opK_none, opK_val, opK_pan, wantK_true, wantK_false, wantK_some, afterRegion_ite, afterDraw_ite, fromBody_ite, ite_bool, ite_int, stepA_K, doOp, noOp, lexA_nil, lexA_cons, lexF_nil, lexF_cons, afterDraw, noClash, FP.clash, wantedA, evOp, rho, rhoL, ofC0, ofC, argsA, upd, afterRegion, putA, goOp, evBin_add, evBin_sub, evBin_mul, evBin_quo, evBin_rem, evBin_eql, evBin_neq, evBin_lss, evBin_leq, evBin_gtr, evBin_geq, evBin_eqlB, evBin_neqB, evBin_addS, evBin_eqlS, evBin_neqS, evBin_lssS, evBin_leqS, evUn, evConv, evIndex, evBuiltin, evLen, evMin2, evMax2, evCallee, evBox, evLoad, evStore, evFieldAddr, evField, evIndexAddr, evBuild, evBuildSlice, evElems, evSlice, nth, rdc, wrc, fromBody, resA, finRet, oneOf, AV.cells?, AV.isCell, fin_int, fin_bool, fin_str, cLoop, cutC, bodyOf, Try.f16, h1, h2, sq22, bq3, hlen, hlt, hltz, c24, a24, i24, hz, k24, k3, c3, a3, fq0, hemb, hK]
        rfl, .inr ⟨by simp, rfl, .inr ⟨rfl, by simp [upd]⟩⟩⟩
    obtain ⟨bf, hF, hfit⟩ := ev_fits (n + 1) (by omega) k nm a lo hi' (.slice (embL ks) (tokOf tk)) rfl hk S
    have good : (k ≠ 4 → (ks.length : Int) = kidsI k) → (k = 4 → ∀ z ∈ ks, SetKid z) → bf = true → ∀ y ∈ N.take (i + 1), Good y := fun g2 g3 gb y hy => by
      rw [htake] at hy
      rcases List.mem_append.1 hy with hy | hy
      · exact h4 y hy
      · simp at hy; subst hy; exact ⟨hk, g2, g3, hfit gb⟩
    by_cases h4k : k = 4
    · subst h4k
      obtain ⟨bs, hS, hset⟩ := ev_set n (by omega) 4 nm a lo hi' tk ks S
      have e4 : kidsI 4 = -1 := by decide
      rw [e4] at hK
      cases bs
      · refine ⟨.ret, _, by
          simp (disch := first | (simp only [List.length_append, List.length_cons, List.length_nil]; omega) | (simp; done) | assumption) [evCode_skip, evCode_region, evCode_draw, evCode_seq, evCode_cond, evCode_block, evCode_loop, evCode_exit, evCode_ret, seqK_ite, seqK_none, seqK_norm, seqK_ret, seqK_exit, seqK_pan, condK_true, condK_false, condK_bool, blockK_ite, blockK_none, blockK_norm, blockK_ret, blockK_exit, blockK_pan, stepK_ite, stepK_none, stepK_ok, stepK_pan, drawK_ite, drawK_none, drawK_ok, drawK_pan, opK_ite, opK_none, opK_val, opK_pan, wantK_true, wantK_false, wantK_some, afterRegion_ite, afterDraw_ite, fromBody_ite, ite_bool, ite_int, stepA_K, doOp, noOp, lexA_nil, lexA_cons, lexF_nil, lexF_cons, afterDraw, noClash, FP.clash, wantedA, evOp, rho, rhoL, ofC0, ofC, argsA, upd, afterRegion, putA, goOp, evBin_add, evBin_sub, evBin_mul, evBin_quo, evBin_rem, evBin_eql, evBin_neq, evBin_lss, evBin_leq, evBin_gtr, evBin_geq, evBin_eqlB, evBin_neqB, evBin_addS, evBin_eqlS, evBin_neqS, evBin_lssS, evBin_leqS, evUn, evConv, evIndex, evBuiltin, evLen, evMin2, evMax2, evCallee, evBox, evLoad, evStore, evFieldAddr, evField, evIndexAddr, evBuild, evBuildSlice, evElems, evSlice, nth, rdc, wrc, fromBody, resA, finRet, oneOf, AV.cells?, AV.isCell, fin_int, fin_bool, fin_str, cLoop, cutC, bodyOf, Try.f16, h1, h2, sq22, bq3, hlen, hlt, hltz, c24, a24, i24, hz, k24, k3, c3, a3, k22, c22, a22, fq0, fq5, hemb, hK, hS]
          rfl, .inr ⟨by simp, rfl, .inr ⟨rfl, by simp [upd]⟩⟩⟩
      · cases bf
        · refine ⟨.ret, _, by
            simp (disch := first | (simp only [List.length_append, List.length_cons, List.length_nil]; omega) | (simp; done) | assumption) [evCode_skip, evCode_region, evCode_draw, evCode_seq, evCode_cond, evCode_block, evCode_loop, evCode_exit, evCode_ret, seqK_ite, seqK_none, seqK_norm, seqK_ret, seqK_exit, seqK_pan, condK_true, condK_false, condK_bool, blockK_ite, blockK_none, blockK_norm, blockK_ret, blockK_exit, blockK_pan, stepK_ite, stepK_none, stepK_ok, stepK_pan, drawK_ite, drawK_none, drawK_ok, drawK_pan, opK_ite, opK_none, opK_val, opK_pan, wantK_true, wantK_false, wantK_some, afterRegion_ite, afterDraw_ite, fromBody_ite, ite_bool, ite_int, stepA_K, doOp, noOp, lexA_nil, lexA_cons, lexF_nil, lexF_cons, afterDraw, noClash, FP.clash, wantedA, evOp, rho, rhoL, ofC0, ofC, argsA, upd, afterRegion, putA, goOp, evBin_add, evBin_sub, evBin_mul, evBin_quo, evBin_rem, evBin_eql, evBin_neq, evBin_lss, evBin_leq, evBin_gtr, evBin_geq, evBin_eqlB, evBin_neqB, evBin_addS, evBin_eqlS, evBin_neqS, evBin_lssS, evBin_leqS, evUn, evConv, evIndex, evBuiltin, evLen, evMin2, evMax2, evCallee, evBox, evLoad, evStore, evFieldAddr, evField, evIndexAddr, evBuild, evBuildSlice, evElems, evSlice, nth, rdc, wrc, fromBody, resA, finRet, oneOf, AV.cells?, AV.isCell, fin_int, fin_bool, fin_str, cLoop, cutC, bodyOf, Try.f16, h1, h2, sq22, bq3, hlen, hlt, hltz, c24, a24, i24, hz, k24, k3, c3, a3, k22, c22, a22, fq0, fq5, hemb, hK, hS, hF]
            rfl, .inr ⟨by simp, rfl, .inr ⟨rfl, by simp [upd]⟩⟩⟩
        · refine ⟨.norm, _, by
            simp (disch := first | (simp only [List.length_append, List.length_cons, List.length_nil]; omega) | (simp; done) | assumption) [evCode_skip, evCode_region, evCode_draw, evCode_seq, evCode_cond, evCode_block, evCode_loop, evCode_exit, evCode_ret, seqK_ite, seqK_none, seqK_norm, seqK_ret, seqK_exit, seqK_pan, condK_true, condK_false, condK_bool, blockK_ite, blockK_none, blockK_norm, blockK_ret, blockK_exit, blockK_pan, stepK_ite, stepK_none, stepK_ok, stepK_pan, drawK_ite, drawK_none, drawK_ok, drawK_pan, opK_ite, opK_none, opK_val, opK_pan, wantK_true, wantK_false, wantK_some, afterRegion_ite, afterDraw_ite, fromBody_ite, ite_bool, ite_int, stepA_K, doOp, noOp, lexA_nil, lexA_cons, lexF_nil, lexF_cons, afterDraw, noClash, FP.clash, wantedA, evOp, rho, rhoL, ofC0, ofC, argsA, upd, afterRegion, putA, goOp, evBin_add, evBin_sub, evBin_mul, evBin_quo, evBin_rem, evBin_eql, evBin_neq, evBin_lss, evBin_leq, evBin_gtr, evBin_geq, evBin_eqlB, evBin_neqB, evBin_addS, evBin_eqlS, evBin_neqS, evBin_lssS, evBin_leqS, evUn, evConv, evIndex, evBuiltin, evLen, evMin2, evMax2, evCallee, evBox, evLoad, evStore, evFieldAddr, evField, evIndexAddr, evBuild, evBuildSlice, evElems, evSlice, nth, rdc, wrc, fromBody, resA, finRet, oneOf, AV.cells?, AV.isCell, fin_int, fin_bool, fin_str, cLoop, cutC, bodyOf, Try.f16, h1, h2, sq22, bq3, hlen, hlt, hltz, c24, a24, i24, hz, k24, k3, c3, a3, k22, c22, a22, fq0, fq5, hemb, hK, hS, hF]
            rfl, .inl ⟨rfl, m, by omega, i + 1, by omega, by simp [upd, h1], by simp [upd, hw], rfl, good (by simp) (fun _ => hset rfl) rfl⟩⟩
    · have hv := kidsI_vals hk h4k
      have v1 : (kidsI k == -2) = false := by simp; omega
      have v2 : (kidsI k == -1) = false := by simp; omega
      have v3 : decide (0 ≤ kidsI k) = true := by simp; omega
      have hz5 : (embL ks).length = ks.length := hks
      generalize hKK : kidsI k = K at *
      cases v4 : ((ks.length : Int) == K)
      · refine ⟨.ret, _, by
          simp (disch := first | (simp only [List.length_append, List.length_cons, List.length_nil]; omega) | (simp; done) | assumption) [evCode_skip, evCode_region, evCode_draw, evCode_seq, evCode_cond, evCode_block, evCode_loop, evCode_exit, evCode_ret, seqK_ite, seqK_none, seqK_norm, seqK_ret, seqK_exit, seqK_pan, condK_true, condK_false, condK_bool, blockK_ite, blockK_none, blockK_norm, blockK_ret, blockK_exit, blockK_pan, stepK_ite, stepK_none, stepK_ok, stepK_pan, drawK_ite, drawK_none, drawK_ok, drawK_pan, opK_ite, opK_none, opK_val, opK_pan, wantK_true, wantK_false, wantK_some, afterRegion_ite, afterDraw_ite, fromBody_ite, ite_bool, ite_int, stepA_K, doOp, noOp, lexA_nil, lexA_cons, lexF_nil, lexF_cons, afterDraw, noClash, FP.clash, wantedA, evOp, rho, rhoL, ofC0, ofC, argsA, upd, afterRegion, putA, goOp, evBin_add, evBin_sub, evBin_mul, evBin_quo, evBin_rem, evBin_eql, evBin_neq, evBin_lss, evBin_leq, evBin_gtr, evBin_geq, evBin_eqlB, evBin_neqB, evBin_addS, evBin_eqlS, evBin_neqS, evBin_lssS, evBin_leqS, evUn, evConv, evIndex, evBuiltin, evLen, evMin2, evMax2, evCallee, evBox, evLoad, evStore, evFieldAddr, evField, evIndexAddr, evBuild, evBuildSlice, evElems, evSlice, nth, rdc, wrc, fromBody, resA, finRet, oneOf, AV.cells?, AV.isCell, fin_int, fin_bool, fin_str, cLoop, cutC, bodyOf, Try.f16, h1, h2, sq22, bq3, hlen, hlt, hltz, c24, a24, i24, hz, k24, k3, c3, a3, k22, c22, a22, fq0, fq5, hemb, hK, hks, bne, v1, v2, v3, v4]
          rfl, .inr ⟨by simp, rfl, .inr ⟨rfl, by simp [upd]⟩⟩⟩
      · have e5 : (ks.length : Int) = K := by simpa using v4
        cases bf
        · refine ⟨.ret, _, by
            simp (disch := first | (simp only [List.length_append, List.length_cons, List.length_nil]; omega) | (simp; done) | assumption) [evCode_skip, evCode_region, evCode_draw, evCode_seq, evCode_cond, evCode_block, evCode_loop, evCode_exit, evCode_ret, seqK_ite, seqK_none, seqK_norm, seqK_ret, seqK_exit, seqK_pan, condK_true, condK_false, condK_bool, blockK_ite, blockK_none, blockK_norm, blockK_ret, blockK_exit, blockK_pan, stepK_ite, stepK_none, stepK_ok, stepK_pan, drawK_ite, drawK_none, drawK_ok, drawK_pan, opK_ite, opK_none, opK_val, opK_pan, wantK_true, wantK_false, wantK_some, afterRegion_ite, afterDraw_ite, fromBody_ite, ite_bool, ite_int, stepA_K, doOp, noOp, lexA_nil, lexA_cons, lexF_nil, lexF_cons, afterDraw, noClash, FP.clash, wantedA, evOp, rho, rhoL, ofC0, ofC, argsA, upd, afterRegion, putA, goOp, evBin_add, evBin_sub, evBin_mul, evBin_quo, evBin_rem, evBin_eql, evBin_neq, evBin_lss, evBin_leq, evBin_gtr, evBin_geq, evBin_eqlB, evBin_neqB, evBin_addS, evBin_eqlS, evBin_neqS, evBin_lssS, evBin_leqS, evUn, evConv, evIndex, evBuiltin, evLen, evMin2, evMax2, evCallee, evBox, evLoad, evStore, evFieldAddr, evField, evIndexAddr, evBuild, evBuildSlice, evElems, evSlice, nth, rdc, wrc, fromBody, resA, finRet, oneOf, AV.cells?, AV.isCell, fin_int, fin_bool, fin_str, cLoop, cutC, bodyOf, Try.f16, h1, h2, sq22, bq3, hlen, hlt, hltz, c24, a24, i24, hz, k24, k3, c3, a3, k22, c22, a22, fq0, fq5, hemb, hK, hks, bne, v1, v2, v3, v4, hF]
            rfl, .inr ⟨by simp, rfl, .inr ⟨rfl, by simp [upd]⟩⟩⟩
        · refine ⟨.norm, _, by
            simp (disch := first | (simp only [List.length_append, List.length_cons, List.length_nil]; omega) | (simp; done) | assumption) [evCode_skip, evCode_region, evCode_draw, evCode_seq, evCode_cond, evCode_block, evCode_loop, evCode_exit, evCode_ret, seqK_ite, seqK_none, seqK_norm, seqK_ret, seqK_exit, seqK_pan, condK_true, condK_false, condK_bool, blockK_ite, blockK_none, blockK_norm, blockK_ret, blockK_exit, blockK_pan, stepK_ite, stepK_none, stepK_ok, stepK_pan, drawK_ite, drawK_none, drawK_ok, drawK_pan, opK_ite, opK_none, opK_val, opK_pan, wantK_true, wantK_false, wantK_some, afterRegion_ite, afterDraw_ite, fromBody_ite, ite_bool, ite_int, stepA_K, doOp, noOp, lexA_nil, lexA_cons, lexF_nil, lexF_cons, afterDraw, noClash, FP.clash, wantedA, evOp, rho, rhoL, ofC0, ofC, argsA, upd, afterRegion, putA, goOp, evBin_add, evBin_sub, evBin_mul, evBin_quo, evBin_rem, evBin_eql, evBin_neq, evBin_lss, evBin_leq, evBin_gtr, evBin_geq, evBin_eqlB, evBin_neqB, evBin_addS, evBin_eqlS, evBin_neqS, evBin_lssS, evBin_leqS, evUn, evConv, evIndex, evBuiltin, evLen, evMin2, evMax2, evCallee, evBox, evLoad, evStore, evFieldAddr, evField, evIndexAddr, evBuild, evBuildSlice, evElems, evSlice, nth, rdc, wrc, fromBody, resA, finRet, oneOf, AV.cells?, AV.isCell, fin_int, fin_bool, fin_str, cLoop, cutC, bodyOf, Try.f16, h1, h2, sq22, bq3, hlen, hlt, hltz, c24, a24, i24, hz, k24, k3, c3, a3, k22, c22, a22, fq0, fq5, hemb, hK, hks, bne, v1, v2, v3, v4, hF]
            rfl, .inl ⟨rfl, m, by omega, i + 1, by omega, by simp [upd, h1], by simp [upd, hw], rfl, good (fun _ => e5) (fun hh => absurd hh h4k) rfl⟩⟩
end Go.Proofs.Ytemggoaefohliaa.PT
