/- Joined: NfL, NfM, NfN, NfO, NfP, NfQ, NfR, NfS, NfT, NfU, NfV. No condition beyond those of its lemmas. -/
import Derived.Test.YtemggoaefohliaaNxA
/- nnf's both and negate, evaluated. No condition. -/
namespace Go.Proofs.Ytemggoaefohliaa.NF
set_option linter.unusedVariables false
set_option linter.unusedSimpArgs false
open Go AE EX PT
set_option maxRecDepth 100000

mutual
def _root_.Go.Proofs.Ytemggoaefohliaa.EX.X.toY : X → Y
  | .mk k nm n lo hi _ kids => .mk k nm n lo hi (yL kids)
def yL : List X → List Y
  | [] => []
  | x :: l => x.toY :: yL l
end
theorem yL_map : ∀ l : List X, yL l = l.map X.toY
  | [] => rfl
  | x :: l => by simp [yL, yL_map l]
def nulX : X := .mk 0 [] 0 0 0 true []
def hdX : List X → X | a :: _ => a | [] => nulX
def hd2X : List X → X | _ :: a :: _ => a | _ => nulX
theorem hdX_y (l : List X) : (hdX l).toY = hd (yL l) := by cases l <;> rfl
theorem hd2X_y (l : List X) : (hd2X l).toY = hd2 (yL l) := by
  match l with
  | [] => rfl
  | [_] => rfl
  | _ :: _ :: _ => rfl

def bothX (k : Int) (a b : X) : X :=
  if tr a.toY (if k = 20 then 0 else 1) || tr b.toY (1 - (if k = 20 then 0 else 1)) then b
  else if tr b.toY (if k = 20 then 0 else 1) || tr a.toY (1 - (if k = 20 then 0 else 1)) then a
  else .mk k [] 0 0 0 true [a, b]
theorem ite_toY (c : Prop) [Decidable c] (a b : X) : (if c then a else b).toY = if c then a.toY else b.toY := by split <;> rfl
theorem ite_emb (c : Prop) [Decidable c] (a b : X) : (if c then a else b).emb = if c then a.emb else b.emb := by split <;> rfl
theorem bothX_y (k : Int) (a b : X) : (bothX k a b).toY = both k a.toY b.toY := by
  simp only [bothX, both, ite_toY, X.toY, yL]
theorem bothX_cases (k : Int) (a b : X) : bothX k a b = a ∨ bothX k a b = b ∨ bothX k a b = .mk k [] 0 0 0 true [a, b] := by
  unfold bothX
  generalize (tr a.toY (if k = 20 then 0 else 1) || tr b.toY (1 - (if k = 20 then 0 else 1))) = q1
  generalize (tr b.toY (if k = 20 then 0 else 1) || tr a.toY (1 - (if k = 20 then 0 else 1))) = q2
  cases q1 <;> cases q2 <;> simp
mutual
def _root_.Go.Proofs.Ytemggoaefohliaa.EX.X.neg : X → X
  | .mk k nm n lo hi tk l =>
    if k = 18 then hdX l else if k = 19 ∨ k = 20 then bothX (turn k) (hdX (negLX l)) (hd2X (negLX l))
    else if k = 22 ∨ k = 23 then .mk (turn k) [] 0 lo hi true [hdX (negLX l)]
    else if k = 2 then .mk 2 [] (1 - n) 0 0 true []
    else .mk 18 [] 0 0 0 true [.mk k nm n lo hi tk l]
def negLX : List X → List X
  | [] => []
  | a :: l => a.neg :: negLX l
end
mutual
theorem neg_y : ∀ x : X, x.neg.toY = x.toY.neg
  | .mk k nm n lo hi tk l => by
    have := negL_y l
    simp only [X.neg, X.toY, Y.neg, ite_toY, hdX_y, hd2X_y, bothX_y, this, yL]
theorem negL_y : ∀ l : List X, yL (negLX l) = negL (yL l)
  | [] => rfl
  | x :: l => by simp only [negLX, yL, negL, neg_y x, negL_y l]
end

/-! ### shapes -/
def Ar : X → Prop
  | .mk k _ n _ _ _ kids => (k = 18 ∨ k = 22 ∨ k = 23 → kids.length = 1) ∧ (k = 19 ∨ k = 20 → kids.length = 2) ∧ (k = 2 → n = 0 ∨ n = 1)
def Shp (x : X) : Prop := ∀ y ∈ x.nodes, Ar y
theorem shp_mk {k : Int} {nm : List UInt8} {n lo hi : Int} {tk : Bool} {l : List X} : Shp (.mk k nm n lo hi tk l) ↔ Ar (.mk k nm n lo hi tk l) ∧ (k ≠ 4 → ∀ x ∈ l, Shp x) := by
  unfold Shp
  by_cases h4 : k = 4
  · subst h4; simp [X.nodes]
  · have h4' : (k == 4) = false := by simp [h4]
    have hn : (X.mk k nm n lo hi tk l).nodes = X.mk k nm n lo hi tk l :: nodesL l := by simp [X.nodes, h4']
    rw [hn]
    constructor
    · intro h
      exact ⟨h _ (List.mem_cons_self ..), fun _ => (nodesL_all l).1 fun y hy => h y (List.mem_cons_of_mem _ hy)⟩
    · rintro ⟨h1, h2⟩ y hy
      rcases List.mem_cons.1 hy with rfl | hy
      · exact h1
      · exact (nodesL_all l).2 (h2 h4) y hy
theorem shp_good {x : X} (h : MayAll x) : Shp x := fun y hy => by
  have g := h y hy
  obtain ⟨k, nm, n, lo, hi, tk, l⟩ := y
  obtain ⟨g1, g2, g3, g4⟩ := g
  have hk := (kinds_iff k).1 g1
  refine ⟨fun h => ?_, fun h => ?_, g4.bool⟩
  · have := g2 (by omega)
    rw [show kidsI k = 1 by rcases h with rfl | rfl | rfl <;> rfl] at this
    omega
  · have := g2 (by omega)
    rw [show kidsI k = 2 by rcases h with rfl | rfl <;> rfl] at this
    omega
theorem shp_both {k : Int} {a b : X} (hk : k = 19 ∨ k = 20) (ha : Shp a) (hb : Shp b) : Shp (bothX k a b) := by
  rcases bothX_cases k a b with h | h | h
  · rw [h]; exact ha
  · rw [h]; exact hb
  · rw [h]
    exact shp_mk.2 ⟨⟨fun _ => by omega, fun _ => rfl, by omega⟩, fun _ x hx => by
      simp at hx
      rcases hx with rfl | rfl
      · exact ha
      · exact hb⟩
theorem negLX_map : ∀ l : List X, negLX l = l.map X.neg
  | [] => rfl
  | x :: l => by simp [negLX, negLX_map l]
theorem shp_neg : ∀ (m : Nat) (x : X), x.size ≤ m → Shp x → Shp x.neg
  | 0, x, hm, _ => absurd hm (by have := size_pos x; omega)
  | m + 1, .mk k nm n lo hi tk l, hm, h => by
    obtain ⟨⟨a1, a2, a3⟩, hk⟩ := shp_mk.1 h
    simp only [X.size] at hm
    have hrec : ∀ x ∈ l, k ≠ 4 → Shp x.neg := fun x hx h4 => shp_neg m x (by have := sizeL_mem hx; omega) (hk h4 x hx)
    by_cases c1 : k = 18
    · subst c1
      match l, a1 (.inl rfl) with
      | [a], _ => simpa [X.neg, hdX] using hk (by decide) a (by simp)
    by_cases c2 : k = 19 ∨ k = 20
    · match l, a2 c2 with
      | [a, b], _ =>
        have : (X.mk k nm n lo hi tk [a, b]).neg = bothX (turn k) a.neg b.neg := by rcases c2 with rfl | rfl <;> simp [X.neg, negLX, hdX, hd2X]
        rw [this]
        exact shp_both (by rcases c2 with rfl | rfl <;> simp [turn]) (hrec a (by simp) (by omega)) (hrec b (by simp) (by omega))
    by_cases c3 : k = 22 ∨ k = 23
    · match l, a1 (by omega) with
      | [a], _ =>
        have : (X.mk k nm n lo hi tk [a]).neg = .mk (turn k) [] 0 lo hi true [a.neg] := by rcases c3 with rfl | rfl <;> simp [X.neg, negLX, hdX]
        rw [this]
        have ht : turn k = 22 ∨ turn k = 23 := by rcases c3 with rfl | rfl <;> simp [turn]
        exact shp_mk.2 ⟨⟨fun _ => rfl, by omega, by omega⟩, fun _ x hx => by
          simp at hx; subst hx; exact hrec a (by simp) (by omega)⟩
    by_cases c4 : k = 2
    · subst c4
      have : (X.mk 2 nm n lo hi tk l).neg = .mk 2 [] (1 - n) 0 0 true [] := by simp [X.neg]
      rw [this]
      exact shp_mk.2 ⟨⟨by omega, by omega, fun _ => by have := a3 rfl; omega⟩, fun _ x hx => by cases hx⟩
    · have : (X.mk k nm n lo hi tk l).neg = .mk 18 [] 0 0 0 true [.mk k nm n lo hi tk l] := by simp [X.neg, c1, c2, c3, c4]
      rw [this]
      exact shp_mk.2 ⟨⟨fun _ => rfl, by omega, by omega⟩, fun _ x hx => by
        simp at hx; subst hx; exact h⟩

/-! ### walks -/
theorem pq24 : partsQ Try.prog 24 = true := by kernel_rfl
theorem pl0 : placeQ Try.prog 24 0 = some (0, 1) := by kernel_rfl
theorem pl2 : placeQ Try.prog 24 2 = some (2, 1) := by kernel_rfl
theorem pl3 : placeQ Try.prog 24 3 = some (3, 1) := by kernel_rfl
theorem pl4 : placeQ Try.prog 24 4 = some (4, 1) := by kernel_rfl
theorem pl5 : placeQ Try.prog 24 5 = some (5, 1) := by kernel_rfl
theorem bd2 (k : Int) (e : List AV) (t : Tok) : evBuild Try.prog 24 [(0, .int .i64 k), (5, .slice e t)] = some (.agg [.int .i64 k, .str [], .int .i64 0, .int .i64 0, .int .i64 0, .slice e t]) := by
  simp [evBuild, pq24, z24, fillA, pl0, pl5, AV.cells?, wrc]
theorem bd4 (k lo hi : Int) (e : List AV) (t : Tok) : evBuild Try.prog 24 [(0, .int .i64 k), (3, .int .i64 lo), (4, .int .i64 hi), (5, .slice e t)] = some (.agg [.int .i64 k, .str [], .int .i64 0, .int .i64 lo, .int .i64 hi, .slice e t]) := by
  simp [evBuild, pq24, z24, fillA, pl0, pl3, pl4, pl5, AV.cells?, wrc]
theorem bdn (k n : Int) : evBuild Try.prog 24 [(0, .int .i64 k), (2, .int .i64 n)] = some (.agg [.int .i64 k, .str [], .int .i64 n, .int .i64 0, .int .i64 0, .slice [] .clip]) := by
  simp [evBuild, pq24, z24, fillA, pl0, pl2, AV.cells?, wrc]
theorem bs2 (x y : X) : evBuildSlice Try.prog 22 2 [(0, .agg x.cells), (1, .agg y.cells)] = some (.slice (embL [x, y]) .clip) := by
  obtain ⟨k, nm, a, lo, hi, tk, kids⟩ := x
  obtain ⟨k', nm', a', lo', hi', tk', kids'⟩ := y
  simp [X.cells, evBuildSlice, sq22, z24, c24, a24, evElems, AV.cells?, AV.isCell, embL, X.emb]

theorem ev_truth (n : Nat) (x : X) (v : Int) (S : St) : ev Try.prog E (n + 1) 75 [x.emb, .int .i64 v] S = some (.ret (.bool (tr x.toY v)), S) := by
  obtain ⟨k, nm, a, lo, hi, tk, kids⟩ := x
  simp only [X.emb, X.toY, tr, Y.k, Y.n]
  rw [ev_enter (n := n) (show E.ok 75 = true from rfl) Try.func75 (fn := Try.f75) rfl (Nat.le_of_ble_eq_true rfl) (by decide +kernel)]
  cases h1 : (k == 2) <;> cases h2 : (a == v) <;>
    simp (disch := first | (simp only [List.length_append, List.length_cons, List.length_nil]; omega) | (simp; done) | assumption) [↓evOp_build, ↓evOp_bslice, rhoP_nil, rhoP_cons, evCode_skip, evCode_region, evCode_draw, evCode_seq, evCode_cond, evCode_block, evCode_loop, evCode_exit, evCode_ret, seqK_ite, seqK_none, seqK_norm, seqK_ret, seqK_exit, seqK_pan, condK_true, condK_false, condK_bool, blockK_ite, blockK_none, blockK_norm, blockK_ret, blockK_exit, blockK_pan, stepK_ite, stepK_none, stepK_ok, stepK_pan, drawK_ite, drawK_none, drawK_ok, drawK_pan, opK_ite, opK_none, opK_val, opK_pan, wantK_true, wantK_false, wantK_some, afterRegion_ite, afterDraw_ite, fromBody_ite, ite_bool, ite_int, stepA_K, doOp, noOp, lexA_nil, lexA_cons, lexF_nil, lexF_cons, afterDraw, noClash, FP.clash, wantedA, evOp, rho, rhoL, ofC0, ofC, argsA, upd, afterRegion, putA, goOp, evBin_add, evBin_sub, evBin_mul, evBin_quo, evBin_rem, evBin_eql, evBin_neq, evBin_lss, evBin_leq, evBin_gtr, evBin_geq, evBin_eqlB, evBin_neqB, evBin_addS, evBin_eqlS, evBin_neqS, evBin_lssS, evBin_leqS, evUn, evConv, evIndex, evBuiltin, evLen, evMin2, evMax2, evCallee, evBox, evLoad, evStore, evFieldAddr, evField, evIndexAddr, evBuild, evBuildSlice, evElems, evSlice, nth, rdc, wrc, fromBody, resA, finRet, oneOf, AV.cells?, AV.isCell, fin_int, fin_bool, fin_str, Try.f75, E_esc, k24, c24, a24, k3, c3, a3, k2, c2, a2, fq0, fq2, bq3, bq2, h1, h2]
theorem ev_literal (n : Nat) (x : X) (v : Int) (S : St) : ev Try.prog E (n + 1) 63 [x.emb, .int .i64 v] S = some (.ret (.bool (tr x.toY v)), S) := by
  obtain ⟨k, nm, a, lo, hi, tk, kids⟩ := x
  simp only [X.emb, X.toY, tr, Y.k, Y.n]
  rw [ev_enter (n := n) (show E.ok 63 = true from rfl) Try.func63 (fn := Try.f63) rfl (Nat.le_of_ble_eq_true rfl) (by decide +kernel)]
  cases h1 : (k == 2) <;> cases h2 : (a == v) <;>
    simp (disch := first | (simp only [List.length_append, List.length_cons, List.length_nil]; omega) | (simp; done) | assumption) [↓evOp_build, ↓evOp_bslice, rhoP_nil, rhoP_cons, evCode_skip, evCode_region, evCode_draw, evCode_seq, evCode_cond, evCode_block, evCode_loop, evCode_exit, evCode_ret, seqK_ite, seqK_none, seqK_norm, seqK_ret, seqK_exit, seqK_pan, condK_true, condK_false, condK_bool, blockK_ite, blockK_none, blockK_norm, blockK_ret, blockK_exit, blockK_pan, stepK_ite, stepK_none, stepK_ok, stepK_pan, drawK_ite, drawK_none, drawK_ok, drawK_pan, opK_ite, opK_none, opK_val, opK_pan, wantK_true, wantK_false, wantK_some, afterRegion_ite, afterDraw_ite, fromBody_ite, ite_bool, ite_int, stepA_K, doOp, noOp, lexA_nil, lexA_cons, lexF_nil, lexF_cons, afterDraw, noClash, FP.clash, wantedA, evOp, rho, rhoL, ofC0, ofC, argsA, upd, afterRegion, putA, goOp, evBin_add, evBin_sub, evBin_mul, evBin_quo, evBin_rem, evBin_eql, evBin_neq, evBin_lss, evBin_leq, evBin_gtr, evBin_geq, evBin_eqlB, evBin_neqB, evBin_addS, evBin_eqlS, evBin_neqS, evBin_lssS, evBin_leqS, evUn, evConv, evIndex, evBuiltin, evLen, evMin2, evMax2, evCallee, evBox, evLoad, evStore, evFieldAddr, evField, evIndexAddr, evBuild, evBuildSlice, evElems, evSlice, nth, rdc, wrc, fromBody, resA, finRet, oneOf, AV.cells?, AV.isCell, fin_int, fin_bool, fin_str, Try.f63, E_esc, k24, c24, a24, k3, c3, a3, k2, c2, a2, fq0, fq2, bq3, bq2, h1, h2]

theorem bothX_19 (a b : X) : bothX 19 a b = if tr a.toY 1 || tr b.toY 0 then b else if tr b.toY 1 || tr a.toY 0 then a else .mk 19 [] 0 0 0 true [a, b] := rfl
theorem bothX_20 (a b : X) : bothX 20 a b = if tr a.toY 0 || tr b.toY 1 then b else if tr b.toY 0 || tr a.toY 1 then a else .mk 20 [] 0 0 0 true [a, b] := rfl


theorem evCode_assoc {cx : Ctx} {call : Cal} {ps : Nat → List (Nat × Nat)} {L : Nat} (x y z : Code) (fs : FS) : evCode cx call ps L (.seq x (.seq y z)) fs = evCode cx call ps L (.seq (.seq x y) z) fs := by
  rw [evCode_seq, evCode_seq, evCode_seq]
  generalize evCode cx call ps L x fs = r
  match r with
  | none => rfl
  | some (.norm, fs') => rw [seqK_norm, seqK_norm, evCode_seq]
  | some (.ret, _) => rfl
  | some (.exit _, _) => rfl
  | some (.pan _, _) => rfl

noncomputable def bx0 : Code := cutC (bodyOf Try.f60) [0]
noncomputable def bx1 : Code := cutC (bodyOf Try.f60) [1, 0]
noncomputable def bx2 : Code := cutC (bodyOf Try.f60) [1, 1, 0]
noncomputable def bx3 : Code := cutC (bodyOf Try.f60) [1, 1, 1, 0]
noncomputable def bx4 : Code := cutC (bodyOf Try.f60) [1, 1, 1, 1]
theorem f60b : Try.f60.body = some (.seq bx0 (.seq bx1 (.seq bx2 (.seq bx3 bx4)))) := rfl

theorem bx_last (n : Nat) (k : Int) (C1 C2 eab : List AV) (t : Nat → AV) (b : Nat → Nat × List AV) (c : Nat) (S : St) (h0 : t 0 = .int .i64 k) (h4 : t 4 = .loc n 4 1 0) (h5 : t 5 = .loc n 5 2 0) (h6 : t 6 = .loc n 6 3 0)
    (g4 : b 4 = (1, C1)) (g5 : b 5 = (2, C2)) (g6 : b 6 = (3, [.int .i64 0, .str [], .int .i64 0, .int .i64 0, .int .i64 0, .slice [] .clip]))
    (hbs : evBuildSlice Try.prog 22 2 [(0, AV.agg C1), (1, AV.agg C2)] = some (AV.slice eab Tok.clip))
    (hbd : evBuild Try.prog 24 [(0, AV.int .i64 k), (5, AV.slice eab Tok.clip)] = some (AV.agg [AV.int .i64 k, AV.str [], AV.int .i64 0, AV.int .i64 0, AV.int .i64 0, AV.slice eab Tok.clip]))
    (hc1 : C1.length = 6) (hc2 : C2.length = 6) (ht1 : List.take 6 C1 = C1) (ht2 : List.take 6 C2 = C2)
    (fn : finish S (AV.agg [AV.int IntKind.i64 k, AV.str [], AV.int IntKind.i64 0, AV.int IntKind.i64 0, AV.int IntKind.i64 0, AV.slice eab Tok.clip]) S = some (AV.agg [AV.int IntKind.i64 k, AV.str [], AV.int IntKind.i64 0, AV.int IntKind.i64 0, AV.int IntKind.i64 0, AV.slice eab Tok.clip], S)) :
    fromBody Try.prog ⟨Try.prog, E.esc 60, n⟩ S Try.f60.results.toList (evCode ⟨Try.prog, E.esc 60, n⟩ (ev Try.prog E n) (E.ps 60) n bx4 ⟨t, b, c, S⟩) =
      some (.ret (AV.agg [AV.int IntKind.i64 k, AV.str [], AV.int IntKind.i64 0, AV.int IntKind.i64 0, AV.int IntKind.i64 0, AV.slice eab Tok.clip]), S) := by
  simp (disch := first | (simp only [List.length_append, List.length_cons, List.length_nil]; omega) | (simp; done) | assumption) [↓evOp_build, ↓evOp_bslice, rhoP_nil, rhoP_cons, evCode_skip, evCode_region, evCode_draw, evCode_seq, evCode_cond, evCode_block, evCode_loop, evCode_exit, evCode_ret, seqK_ite, seqK_none, seqK_norm, seqK_ret, seqK_exit, seqK_pan, condK_true, condK_false, condK_bool, blockK_ite, blockK_none, blockK_norm, blockK_ret, blockK_exit, blockK_pan, stepK_ite, stepK_none, stepK_ok, stepK_pan, drawK_ite, drawK_none, drawK_ok, drawK_pan, opK_ite, opK_none, opK_val, opK_pan, wantK_true, wantK_false, wantK_some, afterRegion_ite, afterDraw_ite, fromBody_ite, ite_bool, ite_int, stepA_K, doOp, noOp, lexA_nil, lexA_cons, lexF_nil, lexF_cons, afterDraw, noClash, FP.clash, wantedA, evOp, rho, rhoL, ofC0, ofC, argsA, upd, afterRegion, putA, goOp, evBin_add, evBin_sub, evBin_mul, evBin_quo, evBin_rem, evBin_eql, evBin_neq, evBin_lss, evBin_leq, evBin_gtr, evBin_geq, evBin_eqlB, evBin_neqB, evBin_addS, evBin_eqlS, evBin_neqS, evBin_lssS, evBin_leqS, evUn, evConv, evIndex, evBuiltin, evLen, evMin2, evMax2, evCallee, evBox, evLoad, evStore, evFieldAddr, evField, evIndexAddr, evBuild, evBuildSlice, evElems, evSlice, nth, rdc, wrc, fromBody, resA, finRet, oneOf, AV.cells?, AV.isCell, fin_int, fin_bool, fin_str, -evBuildSlice, -evBuild, bx4, cutC, bodyOf, Try.f60, E_esc, h0, h4, h5, h6, g4, g5, g6, k24, c24, a24, i24, hbs, hbd, hc1, hc2, ht1, ht2, fn]

set_option maxHeartbeats 4000000 in
theorem ev_both19 (n : Nat) (a b : X) (S : St) : ev Try.prog E (n + 2) 60 [.int .i64 19, a.emb, b.emb] S = some (.ret (bothX 19 a b).emb, S) := by
  have a0 := ev_truth n a 0 S
  have a1 := ev_truth n a 1 S
  have b0 := ev_truth n b 0 S
  have b1 := ev_truth n b 1 S
  have fa := fin_emb a S
  have fb := fin_emb b S
  have fn := fin_emb (X.mk 19 [] 0 0 0 true [a, b]) S
  have hbs := bs2 a b
  have hbd := bd2 19 (embL [a, b]) .clip
  have hn : (X.mk 19 [] 0 0 0 true [a, b]).emb = .agg [.int .i64 19, .str [], .int .i64 0, .int .i64 0, .int .i64 0, .slice (embL [a, b]) .clip] := rfl
  have ha1 := cells_all a
  have hc1 := (cells_ok a).2
  have ht1 : List.take 6 a.cells = a.cells := List.take_of_length_le (by omega)
  have ha2 := cells_all b
  have hc2 := (cells_ok b).2
  have ht2 : List.take 6 b.cells = b.cells := List.take_of_length_le (by omega)
  rw [hn] at fn
  rw [bothX_19, ite_emb, ite_emb, hn]
  clear hn
  rw [emb_cells] at a0 a1 b0 b1 fa fb
  rw [emb_cells a, emb_cells b]
  generalize embL [a, b] = eab at *
  generalize a.cells = C1 at *
  generalize b.cells = C2 at *
  generalize tr a.toY 0 = qa0 at *
  generalize tr a.toY 1 = qa1 at *
  generalize tr b.toY 0 = qb0 at *
  generalize tr b.toY 1 = qb1 at *
  rw [show n + 2 = (n + 1) + 1 from rfl, ev_enter (n := n + 1) (show E.ok 60 = true from rfl) Try.func60 f60b (Nat.le_of_ble_eq_true rfl) (by decide +kernel)]
  cases qa1
  · cases qb0
    · cases qb1
      · cases qa0
        · obtain ⟨⟨t, b, c, S'⟩, hp, h0, h4, h5, h6, g4, g5, g6, hS⟩ : ∃ fs', evCode ⟨Try.prog, E.esc 60, n + 1⟩ (ev Try.prog E (n + 1)) (E.ps 60) (n + 1) (.seq (.seq (.seq bx0 bx1) bx2) bx3) ⟨argsA [.int .i64 19, .agg C1, .agg C2], fun _ => (0, []), 0, S⟩ = some (.norm, fs') ∧
              fs'.t 0 = .int .i64 19 ∧ fs'.t 4 = .loc (n + 1) 4 1 0 ∧ fs'.t 5 = .loc (n + 1) 5 2 0 ∧ fs'.t 6 = .loc (n + 1) 6 3 0 ∧ fs'.b 4 = (1, C1) ∧ fs'.b 5 = (2, C2) ∧ fs'.b 6 = (3, [.int .i64 0, .str [], .int .i64 0, .int .i64 0, .int .i64 0, .slice [] .clip]) ∧ fs'.S = S := by
            refine ⟨_, by
              simp (disch := first | (simp only [List.length_append, List.length_cons, List.length_nil]; omega) | (simp; done) | assumption) [↓evOp_build, ↓evOp_bslice, rhoP_nil, rhoP_cons, evCode_skip, evCode_region, evCode_draw, evCode_seq, evCode_cond, evCode_block, evCode_loop, evCode_exit, evCode_ret, seqK_ite, seqK_none, seqK_norm, seqK_ret, seqK_exit, seqK_pan, condK_true, condK_false, condK_bool, blockK_ite, blockK_none, blockK_norm, blockK_ret, blockK_exit, blockK_pan, stepK_ite, stepK_none, stepK_ok, stepK_pan, drawK_ite, drawK_none, drawK_ok, drawK_pan, opK_ite, opK_none, opK_val, opK_pan, wantK_true, wantK_false, wantK_some, afterRegion_ite, afterDraw_ite, fromBody_ite, ite_bool, ite_int, stepA_K, doOp, noOp, lexA_nil, lexA_cons, lexF_nil, lexF_cons, afterDraw, noClash, FP.clash, wantedA, evOp, rho, rhoL, ofC0, ofC, argsA, upd, afterRegion, putA, goOp, evBin_add, evBin_sub, evBin_mul, evBin_quo, evBin_rem, evBin_eql, evBin_neq, evBin_lss, evBin_leq, evBin_gtr, evBin_geq, evBin_eqlB, evBin_neqB, evBin_addS, evBin_eqlS, evBin_neqS, evBin_lssS, evBin_leqS, evUn, evConv, evIndex, evBuiltin, evLen, evMin2, evMax2, evCallee, evBox, evLoad, evStore, evFieldAddr, evField, evIndexAddr, evBuild, evBuildSlice, evElems, evSlice, nth, rdc, wrc, fromBody, resA, finRet, oneOf, AV.cells?, AV.isCell, fin_int, fin_bool, fin_str, bx0, bx1, bx2, bx3, cutC, bodyOf, Try.f60, E_esc, k24, c24, a24, z24, i24, bq3, bq2, a0, a1, b0, b1, ha1, hc1, ht1, ha2, hc2, ht2, wrap64 1 (by omega), wrap64 0 (by omega)]
              rfl, by simp [upd, argsA], by simp [upd], by simp [upd], by simp [upd], by simp [upd], by simp [upd], by simp [upd], rfl⟩
          simp only at h0 h4 h5 h6 g4 g5 g6 hS
          subst hS
          rw [evCode_assoc, evCode_assoc, evCode_assoc, evCode_seq, hp, seqK_norm]
          exact bx_last (n + 1) _ C1 C2 eab t b c S' h0 h4 h5 h6 g4 g5 g6 hbs hbd hc1 hc2 ht1 ht2 fn
        · simp (disch := first | (simp only [List.length_append, List.length_cons, List.length_nil]; omega) | (simp; done) | assumption) [↓evOp_build, ↓evOp_bslice, rhoP_nil, rhoP_cons, evCode_skip, evCode_region, evCode_draw, evCode_seq, evCode_cond, evCode_block, evCode_loop, evCode_exit, evCode_ret, seqK_ite, seqK_none, seqK_norm, seqK_ret, seqK_exit, seqK_pan, condK_true, condK_false, condK_bool, blockK_ite, blockK_none, blockK_norm, blockK_ret, blockK_exit, blockK_pan, stepK_ite, stepK_none, stepK_ok, stepK_pan, drawK_ite, drawK_none, drawK_ok, drawK_pan, opK_ite, opK_none, opK_val, opK_pan, wantK_true, wantK_false, wantK_some, afterRegion_ite, afterDraw_ite, fromBody_ite, ite_bool, ite_int, stepA_K, doOp, noOp, lexA_nil, lexA_cons, lexF_nil, lexF_cons, afterDraw, noClash, FP.clash, wantedA, evOp, rho, rhoL, ofC0, ofC, argsA, upd, afterRegion, putA, goOp, evBin_add, evBin_sub, evBin_mul, evBin_quo, evBin_rem, evBin_eql, evBin_neq, evBin_lss, evBin_leq, evBin_gtr, evBin_geq, evBin_eqlB, evBin_neqB, evBin_addS, evBin_eqlS, evBin_neqS, evBin_lssS, evBin_leqS, evUn, evConv, evIndex, evBuiltin, evLen, evMin2, evMax2, evCallee, evBox, evLoad, evStore, evFieldAddr, evField, evIndexAddr, evBuild, evBuildSlice, evElems, evSlice, nth, rdc, wrc, fromBody, resA, finRet, oneOf, AV.cells?, AV.isCell, fin_int, fin_bool, fin_str, -evBuildSlice, -evBuild, bx0, bx1, bx2, bx3, bx4, cutC, bodyOf, Try.f60, E_esc, k24, c24, a24, z24, i24, bq3, bq2, a0, a1, b0, b1, ha1, hc1, ht1, ha2, hc2, ht2, fa, fb, wrap64 1 (by omega), wrap64 0 (by omega)]
      · simp (disch := first | (simp only [List.length_append, List.length_cons, List.length_nil]; omega) | (simp; done) | assumption) [↓evOp_build, ↓evOp_bslice, rhoP_nil, rhoP_cons, evCode_skip, evCode_region, evCode_draw, evCode_seq, evCode_cond, evCode_block, evCode_loop, evCode_exit, evCode_ret, seqK_ite, seqK_none, seqK_norm, seqK_ret, seqK_exit, seqK_pan, condK_true, condK_false, condK_bool, blockK_ite, blockK_none, blockK_norm, blockK_ret, blockK_exit, blockK_pan, stepK_ite, stepK_none, stepK_ok, stepK_pan, drawK_ite, drawK_none, drawK_ok, drawK_pan, opK_ite, opK_none, opK_val, opK_pan, wantK_true, wantK_false, wantK_some, afterRegion_ite, afterDraw_ite, fromBody_ite, ite_bool, ite_int, stepA_K, doOp, noOp, lexA_nil, lexA_cons, lexF_nil, lexF_cons, afterDraw, noClash, FP.clash, wantedA, evOp, rho, rhoL, ofC0, ofC, argsA, upd, afterRegion, putA, goOp, evBin_add, evBin_sub, evBin_mul, evBin_quo, evBin_rem, evBin_eql, evBin_neq, evBin_lss, evBin_leq, evBin_gtr, evBin_geq, evBin_eqlB, evBin_neqB, evBin_addS, evBin_eqlS, evBin_neqS, evBin_lssS, evBin_leqS, evUn, evConv, evIndex, evBuiltin, evLen, evMin2, evMax2, evCallee, evBox, evLoad, evStore, evFieldAddr, evField, evIndexAddr, evBuild, evBuildSlice, evElems, evSlice, nth, rdc, wrc, fromBody, resA, finRet, oneOf, AV.cells?, AV.isCell, fin_int, fin_bool, fin_str, -evBuildSlice, -evBuild, bx0, bx1, bx2, bx3, bx4, cutC, bodyOf, Try.f60, E_esc, k24, c24, a24, z24, i24, bq3, bq2, a0, a1, b0, b1, ha1, hc1, ht1, ha2, hc2, ht2, fa, fb, wrap64 1 (by omega), wrap64 0 (by omega)]
    · simp (disch := first | (simp only [List.length_append, List.length_cons, List.length_nil]; omega) | (simp; done) | assumption) [↓evOp_build, ↓evOp_bslice, rhoP_nil, rhoP_cons, evCode_skip, evCode_region, evCode_draw, evCode_seq, evCode_cond, evCode_block, evCode_loop, evCode_exit, evCode_ret, seqK_ite, seqK_none, seqK_norm, seqK_ret, seqK_exit, seqK_pan, condK_true, condK_false, condK_bool, blockK_ite, blockK_none, blockK_norm, blockK_ret, blockK_exit, blockK_pan, stepK_ite, stepK_none, stepK_ok, stepK_pan, drawK_ite, drawK_none, drawK_ok, drawK_pan, opK_ite, opK_none, opK_val, opK_pan, wantK_true, wantK_false, wantK_some, afterRegion_ite, afterDraw_ite, fromBody_ite, ite_bool, ite_int, stepA_K, doOp, noOp, lexA_nil, lexA_cons, lexF_nil, lexF_cons, afterDraw, noClash, FP.clash, wantedA, evOp, rho, rhoL, ofC0, ofC, argsA, upd, afterRegion, putA, goOp, evBin_add, evBin_sub, evBin_mul, evBin_quo, evBin_rem, evBin_eql, evBin_neq, evBin_lss, evBin_leq, evBin_gtr, evBin_geq, evBin_eqlB, evBin_neqB, evBin_addS, evBin_eqlS, evBin_neqS, evBin_lssS, evBin_leqS, evUn, evConv, evIndex, evBuiltin, evLen, evMin2, evMax2, evCallee, evBox, evLoad, evStore, evFieldAddr, evField, evIndexAddr, evBuild, evBuildSlice, evElems, evSlice, nth, rdc, wrc, fromBody, resA, finRet, oneOf, AV.cells?, AV.isCell, fin_int, fin_bool, fin_str, -evBuildSlice, -evBuild, bx0, bx1, bx2, bx3, bx4, cutC, bodyOf, Try.f60, E_esc, k24, c24, a24, z24, i24, bq3, bq2, a0, a1, b0, b1, ha1, hc1, ht1, ha2, hc2, ht2, fa, fb, wrap64 1 (by omega), wrap64 0 (by omega)]
  · simp (disch := first | (simp only [List.length_append, List.length_cons, List.length_nil]; omega) | (simp; done) | assumption) [↓evOp_build, ↓evOp_bslice, rhoP_nil, rhoP_cons, evCode_skip, evCode_region, evCode_draw, evCode_seq, evCode_cond, evCode_block, evCode_loop, evCode_exit, evCode_ret, seqK_ite, seqK_none, seqK_norm, seqK_ret, seqK_exit, seqK_pan, condK_true, condK_false, condK_bool, blockK_ite, blockK_none, blockK_norm, blockK_ret, blockK_exit, blockK_pan, stepK_ite, stepK_none, stepK_ok, stepK_pan, drawK_ite, drawK_none, drawK_ok, drawK_pan, opK_ite, opK_none, opK_val, opK_pan, wantK_true, wantK_false, wantK_some, afterRegion_ite, afterDraw_ite, fromBody_ite, ite_bool, ite_int, stepA_K, doOp, noOp, lexA_nil, lexA_cons, lexF_nil, lexF_cons, afterDraw, noClash, FP.clash, wantedA, evOp, rho, rhoL, ofC0, ofC, argsA, upd, afterRegion, putA, goOp, evBin_add, evBin_sub, evBin_mul, evBin_quo, evBin_rem, evBin_eql, evBin_neq, evBin_lss, evBin_leq, evBin_gtr, evBin_geq, evBin_eqlB, evBin_neqB, evBin_addS, evBin_eqlS, evBin_neqS, evBin_lssS, evBin_leqS, evUn, evConv, evIndex, evBuiltin, evLen, evMin2, evMax2, evCallee, evBox, evLoad, evStore, evFieldAddr, evField, evIndexAddr, evBuild, evBuildSlice, evElems, evSlice, nth, rdc, wrc, fromBody, resA, finRet, oneOf, AV.cells?, AV.isCell, fin_int, fin_bool, fin_str, -evBuildSlice, -evBuild, bx0, bx1, bx2, bx3, bx4, cutC, bodyOf, Try.f60, E_esc, k24, c24, a24, z24, i24, bq3, bq2, a0, a1, b0, b1, ha1, hc1, ht1, ha2, hc2, ht2, fa, fb, wrap64 1 (by omega), wrap64 0 (by omega)]
set_option maxHeartbeats 4000000 in
theorem ev_both20 (n : Nat) (a b : X) (S : St) : ev Try.prog E (n + 2) 60 [.int .i64 20, a.emb, b.emb] S = some (.ret (bothX 20 a b).emb, S) := by
  have a0 := ev_truth n a 0 S
  have a1 := ev_truth n a 1 S
  have b0 := ev_truth n b 0 S
  have b1 := ev_truth n b 1 S
  have fa := fin_emb a S
  have fb := fin_emb b S
  have fn := fin_emb (X.mk 20 [] 0 0 0 true [a, b]) S
  have hbs := bs2 a b
  have hbd := bd2 20 (embL [a, b]) .clip
  have hn : (X.mk 20 [] 0 0 0 true [a, b]).emb = .agg [.int .i64 20, .str [], .int .i64 0, .int .i64 0, .int .i64 0, .slice (embL [a, b]) .clip] := rfl
  have ha1 := cells_all a
  have hc1 := (cells_ok a).2
  have ht1 : List.take 6 a.cells = a.cells := List.take_of_length_le (by omega)
  have ha2 := cells_all b
  have hc2 := (cells_ok b).2
  have ht2 : List.take 6 b.cells = b.cells := List.take_of_length_le (by omega)
  rw [hn] at fn
  rw [bothX_20, ite_emb, ite_emb, hn]
  clear hn
  rw [emb_cells] at a0 a1 b0 b1 fa fb
  rw [emb_cells a, emb_cells b]
  generalize embL [a, b] = eab at *
  generalize a.cells = C1 at *
  generalize b.cells = C2 at *
  generalize tr a.toY 0 = qa0 at *
  generalize tr a.toY 1 = qa1 at *
  generalize tr b.toY 0 = qb0 at *
  generalize tr b.toY 1 = qb1 at *
  rw [show n + 2 = (n + 1) + 1 from rfl, ev_enter (n := n + 1) (show E.ok 60 = true from rfl) Try.func60 f60b (Nat.le_of_ble_eq_true rfl) (by decide +kernel)]
  cases qa0
  · cases qb1
    · cases qb0
      · cases qa1
        · obtain ⟨⟨t, b, c, S'⟩, hp, h0, h4, h5, h6, g4, g5, g6, hS⟩ : ∃ fs', evCode ⟨Try.prog, E.esc 60, n + 1⟩ (ev Try.prog E (n + 1)) (E.ps 60) (n + 1) (.seq (.seq (.seq bx0 bx1) bx2) bx3) ⟨argsA [.int .i64 20, .agg C1, .agg C2], fun _ => (0, []), 0, S⟩ = some (.norm, fs') ∧
              fs'.t 0 = .int .i64 20 ∧ fs'.t 4 = .loc (n + 1) 4 1 0 ∧ fs'.t 5 = .loc (n + 1) 5 2 0 ∧ fs'.t 6 = .loc (n + 1) 6 3 0 ∧ fs'.b 4 = (1, C1) ∧ fs'.b 5 = (2, C2) ∧ fs'.b 6 = (3, [.int .i64 0, .str [], .int .i64 0, .int .i64 0, .int .i64 0, .slice [] .clip]) ∧ fs'.S = S := by
            refine ⟨_, by
              simp (disch := first | (simp only [List.length_append, List.length_cons, List.length_nil]; omega) | (simp; done) | assumption) [↓evOp_build, ↓evOp_bslice, rhoP_nil, rhoP_cons, evCode_skip, evCode_region, evCode_draw, evCode_seq, evCode_cond, evCode_block, evCode_loop, evCode_exit, evCode_ret, seqK_ite, seqK_none, seqK_norm, seqK_ret, seqK_exit, seqK_pan, condK_true, condK_false, condK_bool, blockK_ite, blockK_none, blockK_norm, blockK_ret, blockK_exit, blockK_pan, stepK_ite, stepK_none, stepK_ok, stepK_pan, drawK_ite, drawK_none, drawK_ok, drawK_pan, opK_ite, opK_none, opK_val, opK_pan, wantK_true, wantK_false, wantK_some, afterRegion_ite, afterDraw_ite, fromBody_ite, ite_bool, ite_int, stepA_K, doOp, noOp, lexA_nil, lexA_cons, lexF_nil, lexF_cons, afterDraw, noClash, FP.clash, wantedA, evOp, rho, rhoL, ofC0, ofC, argsA, upd, afterRegion, putA, goOp, evBin_add, evBin_sub, evBin_mul, evBin_quo, evBin_rem, evBin_eql, evBin_neq, evBin_lss, evBin_leq, evBin_gtr, evBin_geq, evBin_eqlB, evBin_neqB, evBin_addS, evBin_eqlS, evBin_neqS, evBin_lssS, evBin_leqS, evUn, evConv, evIndex, evBuiltin, evLen, evMin2, evMax2, evCallee, evBox, evLoad, evStore, evFieldAddr, evField, evIndexAddr, evBuild, evBuildSlice, evElems, evSlice, nth, rdc, wrc, fromBody, resA, finRet, oneOf, AV.cells?, AV.isCell, fin_int, fin_bool, fin_str, bx0, bx1, bx2, bx3, cutC, bodyOf, Try.f60, E_esc, k24, c24, a24, z24, i24, bq3, bq2, a0, a1, b0, b1, ha1, hc1, ht1, ha2, hc2, ht2, wrap64 1 (by omega), wrap64 0 (by omega)]
              rfl, by simp [upd, argsA], by simp [upd], by simp [upd], by simp [upd], by simp [upd], by simp [upd], by simp [upd], rfl⟩
          simp only at h0 h4 h5 h6 g4 g5 g6 hS
          subst hS
          rw [evCode_assoc, evCode_assoc, evCode_assoc, evCode_seq, hp, seqK_norm]
          exact bx_last (n + 1) _ C1 C2 eab t b c S' h0 h4 h5 h6 g4 g5 g6 hbs hbd hc1 hc2 ht1 ht2 fn
        · simp (disch := first | (simp only [List.length_append, List.length_cons, List.length_nil]; omega) | (simp; done) | assumption) [↓evOp_build, ↓evOp_bslice, rhoP_nil, rhoP_cons, evCode_skip, evCode_region, evCode_draw, evCode_seq, evCode_cond, evCode_block, evCode_loop, evCode_exit, evCode_ret, seqK_ite, seqK_none, seqK_norm, seqK_ret, seqK_exit, seqK_pan, condK_true, condK_false, condK_bool, blockK_ite, blockK_none, blockK_norm, blockK_ret, blockK_exit, blockK_pan, stepK_ite, stepK_none, stepK_ok, stepK_pan, drawK_ite, drawK_none, drawK_ok, drawK_pan, opK_ite, opK_none, opK_val, opK_pan, wantK_true, wantK_false, wantK_some, afterRegion_ite, afterDraw_ite, fromBody_ite, ite_bool, ite_int, stepA_K, doOp, noOp, lexA_nil, lexA_cons, lexF_nil, lexF_cons, afterDraw, noClash, FP.clash, wantedA, evOp, rho, rhoL, ofC0, ofC, argsA, upd, afterRegion, putA, goOp, evBin_add, evBin_sub, evBin_mul, evBin_quo, evBin_rem, evBin_eql, evBin_neq, evBin_lss, evBin_leq, evBin_gtr, evBin_geq, evBin_eqlB, evBin_neqB, evBin_addS, evBin_eqlS, evBin_neqS, evBin_lssS, evBin_leqS, evUn, evConv, evIndex, evBuiltin, evLen, evMin2, evMax2, evCallee, evBox, evLoad, evStore, evFieldAddr, evField, evIndexAddr, evBuild, evBuildSlice, evElems, evSlice, nth, rdc, wrc, fromBody, resA, finRet, oneOf, AV.cells?, AV.isCell, fin_int, fin_bool, fin_str, -evBuildSlice, -evBuild, bx0, bx1, bx2, bx3, bx4, cutC, bodyOf, Try.f60, E_esc, k24, c24, a24, z24, i24, bq3, bq2, a0, a1, b0, b1, ha1, hc1, ht1, ha2, hc2, ht2, fa, fb, wrap64 1 (by omega), wrap64 0 (by omega)]
      · simp (disch := first | (simp only [List.length_append, List.length_cons, List.length_nil]; omega) | (simp; done) | assumption) [↓evOp_build, ↓evOp_bslice, rhoP_nil, rhoP_cons, evCode_skip, evCode_region, evCode_draw, evCode_seq, evCode_cond, evCode_block, evCode_loop, evCode_exit, evCode_ret, seqK_ite, seqK_none, seqK_norm, seqK_ret, seqK_exit, seqK_pan, condK_true, condK_false, condK_bool, blockK_ite, blockK_none, blockK_norm, blockK_ret, blockK_exit, blockK_pan, stepK_ite, stepK_none, stepK_ok, stepK_pan, drawK_ite, drawK_none, drawK_ok, drawK_pan, opK_ite, opK_none, opK_val, opK_pan, wantK_true, wantK_false, wantK_some, afterRegion_ite, afterDraw_ite, fromBody_ite, ite_bool, ite_int, stepA_K, doOp, noOp, lexA_nil, lexA_cons, lexF_nil, lexF_cons, afterDraw, noClash, FP.clash, wantedA, evOp, rho, rhoL, ofC0, ofC, argsA, upd, afterRegion, putA, goOp, evBin_add, evBin_sub, evBin_mul, evBin_quo, evBin_rem, evBin_eql, evBin_neq, evBin_lss, evBin_leq, evBin_gtr, evBin_geq, evBin_eqlB, evBin_neqB, evBin_addS, evBin_eqlS, evBin_neqS, evBin_lssS, evBin_leqS, evUn, evConv, evIndex, evBuiltin, evLen, evMin2, evMax2, evCallee, evBox, evLoad, evStore, evFieldAddr, evField, evIndexAddr, evBuild, evBuildSlice, evElems, evSlice, nth, rdc, wrc, fromBody, resA, finRet, oneOf, AV.cells?, AV.isCell, fin_int, fin_bool, fin_str, -evBuildSlice, -evBuild, bx0, bx1, bx2, bx3, bx4, cutC, bodyOf, Try.f60, E_esc, k24, c24, a24, z24, i24, bq3, bq2, a0, a1, b0, b1, ha1, hc1, ht1, ha2, hc2, ht2, fa, fb, wrap64 1 (by omega), wrap64 0 (by omega)]
    · simp (disch := first | (simp only [List.length_append, List.length_cons, List.length_nil]; omega) | (simp; done) | assumption) [↓evOp_build, ↓evOp_bslice, rhoP_nil, rhoP_cons, evCode_skip, evCode_region, evCode_draw, evCode_seq, evCode_cond, evCode_block, evCode_loop, evCode_exit, evCode_ret, seqK_ite, seqK_none, seqK_norm, seqK_ret, seqK_exit, seqK_pan, condK_true, condK_false, condK_bool, blockK_ite, blockK_none, blockK_norm, blockK_ret, blockK_exit, blockK_pan, stepK_ite, stepK_none, stepK_ok, stepK_pan, drawK_ite, drawK_none, drawK_ok, drawK_pan, opK_ite, opK_none, opK_val, opK_pan, wantK_true, wantK_false, wantK_some, afterRegion_ite, afterDraw_ite, fromBody_ite, ite_bool, ite_int, stepA_K, doOp, noOp, lexA_nil, lexA_cons, lexF_nil, lexF_cons, afterDraw, noClash, FP.clash, wantedA, evOp, rho, rhoL, ofC0, ofC, argsA, upd, afterRegion, putA, goOp, evBin_add, evBin_sub, evBin_mul, evBin_quo, evBin_rem, evBin_eql, evBin_neq, evBin_lss, evBin_leq, evBin_gtr, evBin_geq, evBin_eqlB, evBin_neqB, evBin_addS, evBin_eqlS, evBin_neqS, evBin_lssS, evBin_leqS, evUn, evConv, evIndex, evBuiltin, evLen, evMin2, evMax2, evCallee, evBox, evLoad, evStore, evFieldAddr, evField, evIndexAddr, evBuild, evBuildSlice, evElems, evSlice, nth, rdc, wrc, fromBody, resA, finRet, oneOf, AV.cells?, AV.isCell, fin_int, fin_bool, fin_str, -evBuildSlice, -evBuild, bx0, bx1, bx2, bx3, bx4, cutC, bodyOf, Try.f60, E_esc, k24, c24, a24, z24, i24, bq3, bq2, a0, a1, b0, b1, ha1, hc1, ht1, ha2, hc2, ht2, fa, fb, wrap64 1 (by omega), wrap64 0 (by omega)]
  · simp (disch := first | (simp only [List.length_append, List.length_cons, List.length_nil]; omega) | (simp; done) | assumption) [↓evOp_build, ↓evOp_bslice, rhoP_nil, rhoP_cons, evCode_skip, evCode_region, evCode_draw, evCode_seq, evCode_cond, evCode_block, evCode_loop, evCode_exit, evCode_ret, seqK_ite, seqK_none, seqK_norm, seqK_ret, seqK_exit, seqK_pan, condK_true, condK_false, condK_bool, blockK_ite, blockK_none, blockK_norm, blockK_ret, blockK_exit, blockK_pan, stepK_ite, stepK_none, stepK_ok, stepK_pan, drawK_ite, drawK_none, drawK_ok, drawK_pan, opK_ite, opK_none, opK_val, opK_pan, wantK_true, wantK_false, wantK_some, afterRegion_ite, afterDraw_ite, fromBody_ite, ite_bool, ite_int, stepA_K, doOp, noOp, lexA_nil, lexA_cons, lexF_nil, lexF_cons, afterDraw, noClash, FP.clash, wantedA, evOp, rho, rhoL, ofC0, ofC, argsA, upd, afterRegion, putA, goOp, evBin_add, evBin_sub, evBin_mul, evBin_quo, evBin_rem, evBin_eql, evBin_neq, evBin_lss, evBin_leq, evBin_gtr, evBin_geq, evBin_eqlB, evBin_neqB, evBin_addS, evBin_eqlS, evBin_neqS, evBin_lssS, evBin_leqS, evUn, evConv, evIndex, evBuiltin, evLen, evMin2, evMax2, evCallee, evBox, evLoad, evStore, evFieldAddr, evField, evIndexAddr, evBuild, evBuildSlice, evElems, evSlice, nth, rdc, wrc, fromBody, resA, finRet, oneOf, AV.cells?, AV.isCell, fin_int, fin_bool, fin_str, -evBuildSlice, -evBuild, bx0, bx1, bx2, bx3, bx4, cutC, bodyOf, Try.f60, E_esc, k24, c24, a24, z24, i24, bq3, bq2, a0, a1, b0, b1, ha1, hc1, ht1, ha2, hc2, ht2, fa, fb, wrap64 1 (by omega), wrap64 0 (by omega)]

theorem ev_both (n : Nat) (k : Int) (hk : k = 19 ∨ k = 20) (a b : X) (S : St) : ev Try.prog E (n + 2) 60 [.int .i64 k, a.emb, b.emb] S = some (.ret (bothX k a b).emb, S) := by
  rcases hk with rfl | rfl
  · exact ev_both19 n a b S
  · exact ev_both20 n a b S
end Go.Proofs.Ytemggoaefohliaa.NF

/- nnf's negate, the page's join, evaluated. No condition. -/
namespace Go.Proofs.Ytemggoaefohliaa.NF
set_option linter.unusedVariables false
set_option linter.unusedSimpArgs false
open Go AE EX PT
set_option maxRecDepth 100000

noncomputable def jx0 : Code := cutC (bodyOf Try.f51) [0]
noncomputable def jx1 : Code := cutC (bodyOf Try.f51) [1, 0]
noncomputable def jx2 : Code := cutC (bodyOf Try.f51) [1, 1, 0]
noncomputable def jx3 : Code := cutC (bodyOf Try.f51) [1, 1, 1, 0]
noncomputable def jx4 : Code := cutC (bodyOf Try.f51) [1, 1, 1, 1, 0]
noncomputable def jx5 : Code := cutC (bodyOf Try.f51) [1, 1, 1, 1, 1]
theorem f51b : Try.f51.body = some (.seq jx0 (.seq jx1 (.seq jx2 (.seq jx3 (.seq jx4 jx5))))) := rfl

theorem jx_last (n : Nat) (k : Int) (C1 C2 eab : List AV) (t : Nat → AV) (b : Nat → Nat × List AV) (c : Nat) (S : St) (h0 : t 0 = .int .i64 k) (h4 : t 4 = .loc n 4 1 0) (h5 : t 5 = .loc n 5 2 0) (h6 : t 6 = .loc n 6 3 0)
    (g4 : b 4 = (1, C1)) (g5 : b 5 = (2, C2)) (g6 : b 6 = (3, [.int .i64 0, .str [], .int .i64 0, .int .i64 0, .int .i64 0, .slice [] .clip]))
    (hbs : evBuildSlice Try.prog 22 2 [(0, AV.agg C1), (1, AV.agg C2)] = some (AV.slice eab Tok.clip))
    (hbd : evBuild Try.prog 24 [(0, AV.int .i64 k), (5, AV.slice eab Tok.clip)] = some (AV.agg [AV.int .i64 k, AV.str [], AV.int .i64 0, AV.int .i64 0, AV.int .i64 0, AV.slice eab Tok.clip]))
    (hc1 : C1.length = 6) (hc2 : C2.length = 6) (ht1 : List.take 6 C1 = C1) (ht2 : List.take 6 C2 = C2)
    (fn : finish S (AV.agg [AV.int IntKind.i64 k, AV.str [], AV.int IntKind.i64 0, AV.int IntKind.i64 0, AV.int IntKind.i64 0, AV.slice eab Tok.clip]) S = some (AV.agg [AV.int IntKind.i64 k, AV.str [], AV.int IntKind.i64 0, AV.int IntKind.i64 0, AV.int IntKind.i64 0, AV.slice eab Tok.clip], S)) :
    fromBody Try.prog ⟨Try.prog, E.esc 51, n⟩ S Try.f51.results.toList (evCode ⟨Try.prog, E.esc 51, n⟩ (ev Try.prog E n) (E.ps 51) n jx5 ⟨t, b, c, S⟩) =
      some (.ret (AV.agg [AV.int IntKind.i64 k, AV.str [], AV.int IntKind.i64 0, AV.int IntKind.i64 0, AV.int IntKind.i64 0, AV.slice eab Tok.clip]), S) := by
  simp (disch := first | (simp only [List.length_append, List.length_cons, List.length_nil]; omega) | (simp; done) | assumption) [↓evOp_build, ↓evOp_bslice, rhoP_nil, rhoP_cons, evCode_skip, evCode_region, evCode_draw, evCode_seq, evCode_cond, evCode_block, evCode_loop, evCode_exit, evCode_ret, seqK_ite, seqK_none, seqK_norm, seqK_ret, seqK_exit, seqK_pan, condK_true, condK_false, condK_bool, blockK_ite, blockK_none, blockK_norm, blockK_ret, blockK_exit, blockK_pan, stepK_ite, stepK_none, stepK_ok, stepK_pan, drawK_ite, drawK_none, drawK_ok, drawK_pan, opK_ite, opK_none, opK_val, opK_pan, wantK_true, wantK_false, wantK_some, afterRegion_ite, afterDraw_ite, fromBody_ite, ite_bool, ite_int, stepA_K, doOp, noOp, lexA_nil, lexA_cons, lexF_nil, lexF_cons, afterDraw, noClash, FP.clash, wantedA, evOp, rho, rhoL, ofC0, ofC, argsA, upd, afterRegion, putA, goOp, evBin_add, evBin_sub, evBin_mul, evBin_quo, evBin_rem, evBin_eql, evBin_neq, evBin_lss, evBin_leq, evBin_gtr, evBin_geq, evBin_eqlB, evBin_neqB, evBin_addS, evBin_eqlS, evBin_neqS, evBin_lssS, evBin_leqS, evUn, evConv, evIndex, evBuiltin, evLen, evMin2, evMax2, evCallee, evBox, evLoad, evStore, evFieldAddr, evField, evIndexAddr, evBuild, evBuildSlice, evElems, evSlice, nth, rdc, wrc, fromBody, resA, finRet, oneOf, AV.cells?, AV.isCell, fin_int, fin_bool, fin_str, -evBuildSlice, -evBuild, jx5, cutC, bodyOf, Try.f51, E_esc, h0, h4, h5, h6, g4, g5, g6, k24, c24, a24, i24, hbs, hbd, hc1, hc2, ht1, ht2, fn]

set_option maxHeartbeats 4000000 in
theorem ev_join19 (n : Nat) (a b : X) (S : St) : ev Try.prog E (n + 2) 51 [.int .i64 19, a.emb, b.emb] S = some (.ret (bothX 19 a b).emb, S) := by
  have a0 := ev_literal n a 0 S
  have a1 := ev_literal n a 1 S
  have b0 := ev_literal n b 0 S
  have b1 := ev_literal n b 1 S
  have fa := fin_emb a S
  have fb := fin_emb b S
  have fn := fin_emb (X.mk 19 [] 0 0 0 true [a, b]) S
  have hbs := bs2 a b
  have hbd := bd2 19 (embL [a, b]) .clip
  have hn : (X.mk 19 [] 0 0 0 true [a, b]).emb = .agg [.int .i64 19, .str [], .int .i64 0, .int .i64 0, .int .i64 0, .slice (embL [a, b]) .clip] := rfl
  have ha1 := cells_all a
  have hc1 := (cells_ok a).2
  have ht1 : List.take 6 a.cells = a.cells := List.take_of_length_le (by omega)
  have ha2 := cells_all b
  have hc2 := (cells_ok b).2
  have ht2 : List.take 6 b.cells = b.cells := List.take_of_length_le (by omega)
  rw [hn] at fn
  rw [bothX_19, ite_emb, ite_emb, hn]
  clear hn
  rw [emb_cells] at a0 a1 b0 b1 fa fb
  rw [emb_cells a, emb_cells b]
  generalize embL [a, b] = eab at *
  generalize a.cells = C1 at *
  generalize b.cells = C2 at *
  generalize tr a.toY 0 = qa0 at *
  generalize tr a.toY 1 = qa1 at *
  generalize tr b.toY 0 = qb0 at *
  generalize tr b.toY 1 = qb1 at *
  rw [show n + 2 = (n + 1) + 1 from rfl, ev_enter (n := n + 1) (show E.ok 51 = true from rfl) Try.func51 f51b (Nat.le_of_ble_eq_true rfl) (by decide +kernel)]
  cases qa1
  · cases qb0
    · cases qb1
      · cases qa0
        · obtain ⟨⟨t, b, c, S'⟩, hp, h0, h4, h5, h6, g4, g5, g6, hS⟩ : ∃ fs', evCode ⟨Try.prog, E.esc 51, n + 1⟩ (ev Try.prog E (n + 1)) (E.ps 51) (n + 1) (.seq (.seq (.seq (.seq jx0 jx1) jx2) jx3) jx4) ⟨argsA [.int .i64 19, .agg C1, .agg C2], fun _ => (0, []), 0, S⟩ = some (.norm, fs') ∧
              fs'.t 0 = .int .i64 19 ∧ fs'.t 4 = .loc (n + 1) 4 1 0 ∧ fs'.t 5 = .loc (n + 1) 5 2 0 ∧ fs'.t 6 = .loc (n + 1) 6 3 0 ∧ fs'.b 4 = (1, C1) ∧ fs'.b 5 = (2, C2) ∧ fs'.b 6 = (3, [.int .i64 0, .str [], .int .i64 0, .int .i64 0, .int .i64 0, .slice [] .clip]) ∧ fs'.S = S := by
            refine ⟨_, by
              simp (disch := first | (simp only [List.length_append, List.length_cons, List.length_nil]; omega) | (simp; done) | assumption) [↓evOp_build, ↓evOp_bslice, rhoP_nil, rhoP_cons, evCode_skip, evCode_region, evCode_draw, evCode_seq, evCode_cond, evCode_block, evCode_loop, evCode_exit, evCode_ret, seqK_ite, seqK_none, seqK_norm, seqK_ret, seqK_exit, seqK_pan, condK_true, condK_false, condK_bool, blockK_ite, blockK_none, blockK_norm, blockK_ret, blockK_exit, blockK_pan, stepK_ite, stepK_none, stepK_ok, stepK_pan, drawK_ite, drawK_none, drawK_ok, drawK_pan, opK_ite, opK_none, opK_val, opK_pan, wantK_true, wantK_false, wantK_some, afterRegion_ite, afterDraw_ite, fromBody_ite, ite_bool, ite_int, stepA_K, doOp, noOp, lexA_nil, lexA_cons, lexF_nil, lexF_cons, afterDraw, noClash, FP.clash, wantedA, evOp, rho, rhoL, ofC0, ofC, argsA, upd, afterRegion, putA, goOp, evBin_add, evBin_sub, evBin_mul, evBin_quo, evBin_rem, evBin_eql, evBin_neq, evBin_lss, evBin_leq, evBin_gtr, evBin_geq, evBin_eqlB, evBin_neqB, evBin_addS, evBin_eqlS, evBin_neqS, evBin_lssS, evBin_leqS, evUn, evConv, evIndex, evBuiltin, evLen, evMin2, evMax2, evCallee, evBox, evLoad, evStore, evFieldAddr, evField, evIndexAddr, evBuild, evBuildSlice, evElems, evSlice, nth, rdc, wrc, fromBody, resA, finRet, oneOf, AV.cells?, AV.isCell, fin_int, fin_bool, fin_str, jx0, jx1, jx2, jx3, jx4, cutC, bodyOf, Try.f51, E_esc, k24, c24, a24, z24, i24, bq3, bq2, a0, a1, b0, b1, ha1, hc1, ht1, ha2, hc2, ht2, wrap64 1 (by omega), wrap64 0 (by omega)]
              rfl, by simp [upd, argsA], by simp [upd], by simp [upd], by simp [upd], by simp [upd], by simp [upd], by simp [upd], rfl⟩
          simp only at h0 h4 h5 h6 g4 g5 g6 hS
          subst hS
          rw [evCode_assoc, evCode_assoc, evCode_assoc, evCode_assoc, evCode_seq, hp, seqK_norm]
          exact jx_last (n + 1) _ C1 C2 eab t b c S' h0 h4 h5 h6 g4 g5 g6 hbs hbd hc1 hc2 ht1 ht2 fn
        · simp (disch := first | (simp only [List.length_append, List.length_cons, List.length_nil]; omega) | (simp; done) | assumption) [↓evOp_build, ↓evOp_bslice, rhoP_nil, rhoP_cons, evCode_skip, evCode_region, evCode_draw, evCode_seq, evCode_cond, evCode_block, evCode_loop, evCode_exit, evCode_ret, seqK_ite, seqK_none, seqK_norm, seqK_ret, seqK_exit, seqK_pan, condK_true, condK_false, condK_bool, blockK_ite, blockK_none, blockK_norm, blockK_ret, blockK_exit, blockK_pan, stepK_ite, stepK_none, stepK_ok, stepK_pan, drawK_ite, drawK_none, drawK_ok, drawK_pan, opK_ite, opK_none, opK_val, opK_pan, wantK_true, wantK_false, wantK_some, afterRegion_ite, afterDraw_ite, fromBody_ite, ite_bool, ite_int, stepA_K, doOp, noOp, lexA_nil, lexA_cons, lexF_nil, lexF_cons, afterDraw, noClash, FP.clash, wantedA, evOp, rho, rhoL, ofC0, ofC, argsA, upd, afterRegion, putA, goOp, evBin_add, evBin_sub, evBin_mul, evBin_quo, evBin_rem, evBin_eql, evBin_neq, evBin_lss, evBin_leq, evBin_gtr, evBin_geq, evBin_eqlB, evBin_neqB, evBin_addS, evBin_eqlS, evBin_neqS, evBin_lssS, evBin_leqS, evUn, evConv, evIndex, evBuiltin, evLen, evMin2, evMax2, evCallee, evBox, evLoad, evStore, evFieldAddr, evField, evIndexAddr, evBuild, evBuildSlice, evElems, evSlice, nth, rdc, wrc, fromBody, resA, finRet, oneOf, AV.cells?, AV.isCell, fin_int, fin_bool, fin_str, -evBuildSlice, -evBuild, jx0, jx1, jx2, jx3, jx4, jx5, cutC, bodyOf, Try.f51, E_esc, k24, c24, a24, z24, i24, bq3, bq2, a0, a1, b0, b1, ha1, hc1, ht1, ha2, hc2, ht2, fa, fb, wrap64 1 (by omega), wrap64 0 (by omega)]
      · simp (disch := first | (simp only [List.length_append, List.length_cons, List.length_nil]; omega) | (simp; done) | assumption) [↓evOp_build, ↓evOp_bslice, rhoP_nil, rhoP_cons, evCode_skip, evCode_region, evCode_draw, evCode_seq, evCode_cond, evCode_block, evCode_loop, evCode_exit, evCode_ret, seqK_ite, seqK_none, seqK_norm, seqK_ret, seqK_exit, seqK_pan, condK_true, condK_false, condK_bool, blockK_ite, blockK_none, blockK_norm, blockK_ret, blockK_exit, blockK_pan, stepK_ite, stepK_none, stepK_ok, stepK_pan, drawK_ite, drawK_none, drawK_ok, drawK_pan, opK_ite, opK_none, opK_val, opK_pan, wantK_true, wantK_false, wantK_some, afterRegion_ite, afterDraw_ite, fromBody_ite, ite_bool, ite_int, stepA_K, doOp, noOp, lexA_nil, lexA_cons, lexF_nil, lexF_cons, afterDraw, noClash, FP.clash, wantedA, evOp, rho, rhoL, ofC0, ofC, argsA, upd, afterRegion, putA, goOp, evBin_add, evBin_sub, evBin_mul, evBin_quo, evBin_rem, evBin_eql, evBin_neq, evBin_lss, evBin_leq, evBin_gtr, evBin_geq, evBin_eqlB, evBin_neqB, evBin_addS, evBin_eqlS, evBin_neqS, evBin_lssS, evBin_leqS, evUn, evConv, evIndex, evBuiltin, evLen, evMin2, evMax2, evCallee, evBox, evLoad, evStore, evFieldAddr, evField, evIndexAddr, evBuild, evBuildSlice, evElems, evSlice, nth, rdc, wrc, fromBody, resA, finRet, oneOf, AV.cells?, AV.isCell, fin_int, fin_bool, fin_str, -evBuildSlice, -evBuild, jx0, jx1, jx2, jx3, jx4, jx5, cutC, bodyOf, Try.f51, E_esc, k24, c24, a24, z24, i24, bq3, bq2, a0, a1, b0, b1, ha1, hc1, ht1, ha2, hc2, ht2, fa, fb, wrap64 1 (by omega), wrap64 0 (by omega)]
    · simp (disch := first | (simp only [List.length_append, List.length_cons, List.length_nil]; omega) | (simp; done) | assumption) [↓evOp_build, ↓evOp_bslice, rhoP_nil, rhoP_cons, evCode_skip, evCode_region, evCode_draw, evCode_seq, evCode_cond, evCode_block, evCode_loop, evCode_exit, evCode_ret, seqK_ite, seqK_none, seqK_norm, seqK_ret, seqK_exit, seqK_pan, condK_true, condK_false, condK_bool, blockK_ite, blockK_none, blockK_norm, blockK_ret, blockK_exit, blockK_pan, stepK_ite, stepK_none, stepK_ok, stepK_pan, drawK_ite, drawK_none, drawK_ok, drawK_pan, opK_ite, opK_none, opK_val, opK_pan, wantK_true, wantK_false, wantK_some, afterRegion_ite, afterDraw_ite, fromBody_ite, ite_bool, ite_int, stepA_K, doOp, noOp, lexA_nil, lexA_cons, lexF_nil, lexF_cons, afterDraw, noClash, FP.clash, wantedA, evOp, rho, rhoL, ofC0, ofC, argsA, upd, afterRegion, putA, goOp, evBin_add, evBin_sub, evBin_mul, evBin_quo, evBin_rem, evBin_eql, evBin_neq, evBin_lss, evBin_leq, evBin_gtr, evBin_geq, evBin_eqlB, evBin_neqB, evBin_addS, evBin_eqlS, evBin_neqS, evBin_lssS, evBin_leqS, evUn, evConv, evIndex, evBuiltin, evLen, evMin2, evMax2, evCallee, evBox, evLoad, evStore, evFieldAddr, evField, evIndexAddr, evBuild, evBuildSlice, evElems, evSlice, nth, rdc, wrc, fromBody, resA, finRet, oneOf, AV.cells?, AV.isCell, fin_int, fin_bool, fin_str, -evBuildSlice, -evBuild, jx0, jx1, jx2, jx3, jx4, jx5, cutC, bodyOf, Try.f51, E_esc, k24, c24, a24, z24, i24, bq3, bq2, a0, a1, b0, b1, ha1, hc1, ht1, ha2, hc2, ht2, fa, fb, wrap64 1 (by omega), wrap64 0 (by omega)]
  · simp (disch := first | (simp only [List.length_append, List.length_cons, List.length_nil]; omega) | (simp; done) | assumption) [↓evOp_build, ↓evOp_bslice, rhoP_nil, rhoP_cons, evCode_skip, evCode_region, evCode_draw, evCode_seq, evCode_cond, evCode_block, evCode_loop, evCode_exit, evCode_ret, seqK_ite, seqK_none, seqK_norm, seqK_ret, seqK_exit, seqK_pan, condK_true, condK_false, condK_bool, blockK_ite, blockK_none, blockK_norm, blockK_ret, blockK_exit, blockK_pan, stepK_ite, stepK_none, stepK_ok, stepK_pan, drawK_ite, drawK_none, drawK_ok, drawK_pan, opK_ite, opK_none, opK_val, opK_pan, wantK_true, wantK_false, wantK_some, afterRegion_ite, afterDraw_ite, fromBody_ite, ite_bool, ite_int, stepA_K, doOp, noOp, lexA_nil, lexA_cons, lexF_nil, lexF_cons, afterDraw, noClash, FP.clash, wantedA, evOp, rho, rhoL, ofC0, ofC, argsA, upd, afterRegion, putA, goOp, evBin_add, evBin_sub, evBin_mul, evBin_quo, evBin_rem, evBin_eql, evBin_neq, evBin_lss, evBin_leq, evBin_gtr, evBin_geq, evBin_eqlB, evBin_neqB, evBin_addS, evBin_eqlS, evBin_neqS, evBin_lssS, evBin_leqS, evUn, evConv, evIndex, evBuiltin, evLen, evMin2, evMax2, evCallee, evBox, evLoad, evStore, evFieldAddr, evField, evIndexAddr, evBuild, evBuildSlice, evElems, evSlice, nth, rdc, wrc, fromBody, resA, finRet, oneOf, AV.cells?, AV.isCell, fin_int, fin_bool, fin_str, -evBuildSlice, -evBuild, jx0, jx1, jx2, jx3, jx4, jx5, cutC, bodyOf, Try.f51, E_esc, k24, c24, a24, z24, i24, bq3, bq2, a0, a1, b0, b1, ha1, hc1, ht1, ha2, hc2, ht2, fa, fb, wrap64 1 (by omega), wrap64 0 (by omega)]
set_option maxHeartbeats 4000000 in
theorem ev_join20 (n : Nat) (a b : X) (S : St) : ev Try.prog E (n + 2) 51 [.int .i64 20, a.emb, b.emb] S = some (.ret (bothX 20 a b).emb, S) := by
  have a0 := ev_literal n a 0 S
  have a1 := ev_literal n a 1 S
  have b0 := ev_literal n b 0 S
  have b1 := ev_literal n b 1 S
  have fa := fin_emb a S
  have fb := fin_emb b S
  have fn := fin_emb (X.mk 20 [] 0 0 0 true [a, b]) S
  have hbs := bs2 a b
  have hbd := bd2 20 (embL [a, b]) .clip
  have hn : (X.mk 20 [] 0 0 0 true [a, b]).emb = .agg [.int .i64 20, .str [], .int .i64 0, .int .i64 0, .int .i64 0, .slice (embL [a, b]) .clip] := rfl
  have ha1 := cells_all a
  have hc1 := (cells_ok a).2
  have ht1 : List.take 6 a.cells = a.cells := List.take_of_length_le (by omega)
  have ha2 := cells_all b
  have hc2 := (cells_ok b).2
  have ht2 : List.take 6 b.cells = b.cells := List.take_of_length_le (by omega)
  rw [hn] at fn
  rw [bothX_20, ite_emb, ite_emb, hn]
  clear hn
  rw [emb_cells] at a0 a1 b0 b1 fa fb
  rw [emb_cells a, emb_cells b]
  generalize embL [a, b] = eab at *
  generalize a.cells = C1 at *
  generalize b.cells = C2 at *
  generalize tr a.toY 0 = qa0 at *
  generalize tr a.toY 1 = qa1 at *
  generalize tr b.toY 0 = qb0 at *
  generalize tr b.toY 1 = qb1 at *
  rw [show n + 2 = (n + 1) + 1 from rfl, ev_enter (n := n + 1) (show E.ok 51 = true from rfl) Try.func51 f51b (Nat.le_of_ble_eq_true rfl) (by decide +kernel)]
  cases qa0
  · cases qb1
    · cases qb0
      · cases qa1
        · obtain ⟨⟨t, b, c, S'⟩, hp, h0, h4, h5, h6, g4, g5, g6, hS⟩ : ∃ fs', evCode ⟨Try.prog, E.esc 51, n + 1⟩ (ev Try.prog E (n + 1)) (E.ps 51) (n + 1) (.seq (.seq (.seq (.seq jx0 jx1) jx2) jx3) jx4) ⟨argsA [.int .i64 20, .agg C1, .agg C2], fun _ => (0, []), 0, S⟩ = some (.norm, fs') ∧
              fs'.t 0 = .int .i64 20 ∧ fs'.t 4 = .loc (n + 1) 4 1 0 ∧ fs'.t 5 = .loc (n + 1) 5 2 0 ∧ fs'.t 6 = .loc (n + 1) 6 3 0 ∧ fs'.b 4 = (1, C1) ∧ fs'.b 5 = (2, C2) ∧ fs'.b 6 = (3, [.int .i64 0, .str [], .int .i64 0, .int .i64 0, .int .i64 0, .slice [] .clip]) ∧ fs'.S = S := by
            refine ⟨_, by
              simp (disch := first | (simp only [List.length_append, List.length_cons, List.length_nil]; omega) | (simp; done) | assumption) [↓evOp_build, ↓evOp_bslice, rhoP_nil, rhoP_cons, evCode_skip, evCode_region, evCode_draw, evCode_seq, evCode_cond, evCode_block, evCode_loop, evCode_exit, evCode_ret, seqK_ite, seqK_none, seqK_norm, seqK_ret, seqK_exit, seqK_pan, condK_true, condK_false, condK_bool, blockK_ite, blockK_none, blockK_norm, blockK_ret, blockK_exit, blockK_pan, stepK_ite, stepK_none, stepK_ok, stepK_pan, drawK_ite, drawK_none, drawK_ok, drawK_pan, opK_ite, opK_none, opK_val, opK_pan, wantK_true, wantK_false, wantK_some, afterRegion_ite, afterDraw_ite, fromBody_ite, ite_bool, ite_int, stepA_K, doOp, noOp, lexA_nil, lexA_cons, lexF_nil, lexF_cons, afterDraw, noClash, FP.clash, wantedA, evOp, rho, rhoL, ofC0, ofC, argsA, upd, afterRegion, putA, goOp, evBin_add, evBin_sub, evBin_mul, evBin_quo, evBin_rem, evBin_eql, evBin_neq, evBin_lss, evBin_leq, evBin_gtr, evBin_geq, evBin_eqlB, evBin_neqB, evBin_addS, evBin_eqlS, evBin_neqS, evBin_lssS, evBin_leqS, evUn, evConv, evIndex, evBuiltin, evLen, evMin2, evMax2, evCallee, evBox, evLoad, evStore, evFieldAddr, evField, evIndexAddr, evBuild, evBuildSlice, evElems, evSlice, nth, rdc, wrc, fromBody, resA, finRet, oneOf, AV.cells?, AV.isCell, fin_int, fin_bool, fin_str, jx0, jx1, jx2, jx3, jx4, cutC, bodyOf, Try.f51, E_esc, k24, c24, a24, z24, i24, bq3, bq2, a0, a1, b0, b1, ha1, hc1, ht1, ha2, hc2, ht2, wrap64 1 (by omega), wrap64 0 (by omega)]
              rfl, by simp [upd, argsA], by simp [upd], by simp [upd], by simp [upd], by simp [upd], by simp [upd], by simp [upd], rfl⟩
          simp only at h0 h4 h5 h6 g4 g5 g6 hS
          subst hS
          rw [evCode_assoc, evCode_assoc, evCode_assoc, evCode_assoc, evCode_seq, hp, seqK_norm]
          exact jx_last (n + 1) _ C1 C2 eab t b c S' h0 h4 h5 h6 g4 g5 g6 hbs hbd hc1 hc2 ht1 ht2 fn
        · simp (disch := first | (simp only [List.length_append, List.length_cons, List.length_nil]; omega) | (simp; done) | assumption) [↓evOp_build, ↓evOp_bslice, rhoP_nil, rhoP_cons, evCode_skip, evCode_region, evCode_draw, evCode_seq, evCode_cond, evCode_block, evCode_loop, evCode_exit, evCode_ret, seqK_ite, seqK_none, seqK_norm, seqK_ret, seqK_exit, seqK_pan, condK_true, condK_false, condK_bool, blockK_ite, blockK_none, blockK_norm, blockK_ret, blockK_exit, blockK_pan, stepK_ite, stepK_none, stepK_ok, stepK_pan, drawK_ite, drawK_none, drawK_ok, drawK_pan, opK_ite, opK_none, opK_val, opK_pan, wantK_true, wantK_false, wantK_some, afterRegion_ite, afterDraw_ite, fromBody_ite, ite_bool, ite_int, stepA_K, doOp, noOp, lexA_nil, lexA_cons, lexF_nil, lexF_cons, afterDraw, noClash, FP.clash, wantedA, evOp, rho, rhoL, ofC0, ofC, argsA, upd, afterRegion, putA, goOp, evBin_add, evBin_sub, evBin_mul, evBin_quo, evBin_rem, evBin_eql, evBin_neq, evBin_lss, evBin_leq, evBin_gtr, evBin_geq, evBin_eqlB, evBin_neqB, evBin_addS, evBin_eqlS, evBin_neqS, evBin_lssS, evBin_leqS, evUn, evConv, evIndex, evBuiltin, evLen, evMin2, evMax2, evCallee, evBox, evLoad, evStore, evFieldAddr, evField, evIndexAddr, evBuild, evBuildSlice, evElems, evSlice, nth, rdc, wrc, fromBody, resA, finRet, oneOf, AV.cells?, AV.isCell, fin_int, fin_bool, fin_str, -evBuildSlice, -evBuild, jx0, jx1, jx2, jx3, jx4, jx5, cutC, bodyOf, Try.f51, E_esc, k24, c24, a24, z24, i24, bq3, bq2, a0, a1, b0, b1, ha1, hc1, ht1, ha2, hc2, ht2, fa, fb, wrap64 1 (by omega), wrap64 0 (by omega)]
      · simp (disch := first | (simp only [List.length_append, List.length_cons, List.length_nil]; omega) | (simp; done) | assumption) [↓evOp_build, ↓evOp_bslice, rhoP_nil, rhoP_cons, evCode_skip, evCode_region, evCode_draw, evCode_seq, evCode_cond, evCode_block, evCode_loop, evCode_exit, evCode_ret, seqK_ite, seqK_none, seqK_norm, seqK_ret, seqK_exit, seqK_pan, condK_true, condK_false, condK_bool, blockK_ite, blockK_none, blockK_norm, blockK_ret, blockK_exit, blockK_pan, stepK_ite, stepK_none, stepK_ok, stepK_pan, drawK_ite, drawK_none, drawK_ok, drawK_pan, opK_ite, opK_none, opK_val, opK_pan, wantK_true, wantK_false, wantK_some, afterRegion_ite, afterDraw_ite, fromBody_ite, ite_bool, ite_int, stepA_K, doOp, noOp, lexA_nil, lexA_cons, lexF_nil, lexF_cons, afterDraw, noClash, FP.clash, wantedA, evOp, rho, rhoL, ofC0, ofC, argsA, upd, afterRegion, putA, goOp, evBin_add, evBin_sub, evBin_mul, evBin_quo, evBin_rem, evBin_eql, evBin_neq, evBin_lss, evBin_leq, evBin_gtr, evBin_geq, evBin_eqlB, evBin_neqB, evBin_addS, evBin_eqlS, evBin_neqS, evBin_lssS, evBin_leqS, evUn, evConv, evIndex, evBuiltin, evLen, evMin2, evMax2, evCallee, evBox, evLoad, evStore, evFieldAddr, evField, evIndexAddr, evBuild, evBuildSlice, evElems, evSlice, nth, rdc, wrc, fromBody, resA, finRet, oneOf, AV.cells?, AV.isCell, fin_int, fin_bool, fin_str, -evBuildSlice, -evBuild, jx0, jx1, jx2, jx3, jx4, jx5, cutC, bodyOf, Try.f51, E_esc, k24, c24, a24, z24, i24, bq3, bq2, a0, a1, b0, b1, ha1, hc1, ht1, ha2, hc2, ht2, fa, fb, wrap64 1 (by omega), wrap64 0 (by omega)]
    · simp (disch := first | (simp only [List.length_append, List.length_cons, List.length_nil]; omega) | (simp; done) | assumption) [↓evOp_build, ↓evOp_bslice, rhoP_nil, rhoP_cons, evCode_skip, evCode_region, evCode_draw, evCode_seq, evCode_cond, evCode_block, evCode_loop, evCode_exit, evCode_ret, seqK_ite, seqK_none, seqK_norm, seqK_ret, seqK_exit, seqK_pan, condK_true, condK_false, condK_bool, blockK_ite, blockK_none, blockK_norm, blockK_ret, blockK_exit, blockK_pan, stepK_ite, stepK_none, stepK_ok, stepK_pan, drawK_ite, drawK_none, drawK_ok, drawK_pan, opK_ite, opK_none, opK_val, opK_pan, wantK_true, wantK_false, wantK_some, afterRegion_ite, afterDraw_ite, fromBody_ite, ite_bool, ite_int, stepA_K, doOp, noOp, lexA_nil, lexA_cons, lexF_nil, lexF_cons, afterDraw, noClash, FP.clash, wantedA, evOp, rho, rhoL, ofC0, ofC, argsA, upd, afterRegion, putA, goOp, evBin_add, evBin_sub, evBin_mul, evBin_quo, evBin_rem, evBin_eql, evBin_neq, evBin_lss, evBin_leq, evBin_gtr, evBin_geq, evBin_eqlB, evBin_neqB, evBin_addS, evBin_eqlS, evBin_neqS, evBin_lssS, evBin_leqS, evUn, evConv, evIndex, evBuiltin, evLen, evMin2, evMax2, evCallee, evBox, evLoad, evStore, evFieldAddr, evField, evIndexAddr, evBuild, evBuildSlice, evElems, evSlice, nth, rdc, wrc, fromBody, resA, finRet, oneOf, AV.cells?, AV.isCell, fin_int, fin_bool, fin_str, -evBuildSlice, -evBuild, jx0, jx1, jx2, jx3, jx4, jx5, cutC, bodyOf, Try.f51, E_esc, k24, c24, a24, z24, i24, bq3, bq2, a0, a1, b0, b1, ha1, hc1, ht1, ha2, hc2, ht2, fa, fb, wrap64 1 (by omega), wrap64 0 (by omega)]
  · simp (disch := first | (simp only [List.length_append, List.length_cons, List.length_nil]; omega) | (simp; done) | assumption) [↓evOp_build, ↓evOp_bslice, rhoP_nil, rhoP_cons, evCode_skip, evCode_region, evCode_draw, evCode_seq, evCode_cond, evCode_block, evCode_loop, evCode_exit, evCode_ret, seqK_ite, seqK_none, seqK_norm, seqK_ret, seqK_exit, seqK_pan, condK_true, condK_false, condK_bool, blockK_ite, blockK_none, blockK_norm, blockK_ret, blockK_exit, blockK_pan, stepK_ite, stepK_none, stepK_ok, stepK_pan, drawK_ite, drawK_none, drawK_ok, drawK_pan, opK_ite, opK_none, opK_val, opK_pan, wantK_true, wantK_false, wantK_some, afterRegion_ite, afterDraw_ite, fromBody_ite, ite_bool, ite_int, stepA_K, doOp, noOp, lexA_nil, lexA_cons, lexF_nil, lexF_cons, afterDraw, noClash, FP.clash, wantedA, evOp, rho, rhoL, ofC0, ofC, argsA, upd, afterRegion, putA, goOp, evBin_add, evBin_sub, evBin_mul, evBin_quo, evBin_rem, evBin_eql, evBin_neq, evBin_lss, evBin_leq, evBin_gtr, evBin_geq, evBin_eqlB, evBin_neqB, evBin_addS, evBin_eqlS, evBin_neqS, evBin_lssS, evBin_leqS, evUn, evConv, evIndex, evBuiltin, evLen, evMin2, evMax2, evCallee, evBox, evLoad, evStore, evFieldAddr, evField, evIndexAddr, evBuild, evBuildSlice, evElems, evSlice, nth, rdc, wrc, fromBody, resA, finRet, oneOf, AV.cells?, AV.isCell, fin_int, fin_bool, fin_str, -evBuildSlice, -evBuild, jx0, jx1, jx2, jx3, jx4, jx5, cutC, bodyOf, Try.f51, E_esc, k24, c24, a24, z24, i24, bq3, bq2, a0, a1, b0, b1, ha1, hc1, ht1, ha2, hc2, ht2, fa, fb, wrap64 1 (by omega), wrap64 0 (by omega)]

theorem ev_join (n : Nat) (k : Int) (hk : k = 19 ∨ k = 20) (a b : X) (S : St) : ev Try.prog E (n + 2) 51 [.int .i64 k, a.emb, b.emb] S = some (.ret (bothX k a b).emb, S) := by
  rcases hk with rfl | rfl
  · exact ev_join19 n a b S
  · exact ev_join20 n a b S

theorem ev_other (n : Nat) (k a b : Int) (S : St) : ev Try.prog E (n + 1) 61 [.int .i64 k, .int .i64 a, .int .i64 b] S = some (.ret (.int .i64 (if k == a then b else a)), S) := by
  rw [ev_enter (n := n) (show E.ok 61 = true from rfl) Try.func61 (fn := Try.f61) rfl (Nat.le_of_ble_eq_true rfl) (by decide +kernel)]
  cases h : (k == a) <;> simp (disch := first | (simp only [List.length_append, List.length_cons, List.length_nil]; omega) | (simp; done) | assumption) [↓evOp_build, ↓evOp_bslice, rhoP_nil, rhoP_cons, evCode_skip, evCode_region, evCode_draw, evCode_seq, evCode_cond, evCode_block, evCode_loop, evCode_exit, evCode_ret, seqK_ite, seqK_none, seqK_norm, seqK_ret, seqK_exit, seqK_pan, condK_true, condK_false, condK_bool, blockK_ite, blockK_none, blockK_norm, blockK_ret, blockK_exit, blockK_pan, stepK_ite, stepK_none, stepK_ok, stepK_pan, drawK_ite, drawK_none, drawK_ok, drawK_pan, opK_ite, opK_none, opK_val, opK_pan, wantK_true, wantK_false, wantK_some, afterRegion_ite, afterDraw_ite, fromBody_ite, ite_bool, ite_int, stepA_K, doOp, noOp, lexA_nil, lexA_cons, lexF_nil, lexF_cons, afterDraw, noClash, FP.clash, wantedA, evOp, rho, rhoL, ofC0, ofC, argsA, upd, afterRegion, putA, goOp, evBin_add, evBin_sub, evBin_mul, evBin_quo, evBin_rem, evBin_eql, evBin_neq, evBin_lss, evBin_leq, evBin_gtr, evBin_geq, evBin_eqlB, evBin_neqB, evBin_addS, evBin_eqlS, evBin_neqS, evBin_lssS, evBin_leqS, evUn, evConv, evIndex, evBuiltin, evLen, evMin2, evMax2, evCallee, evBox, evLoad, evStore, evFieldAddr, evField, evIndexAddr, evBuild, evBuildSlice, evElems, evSlice, nth, rdc, wrc, fromBody, resA, finRet, oneOf, AV.cells?, AV.isCell, fin_int, fin_bool, fin_str, Try.f61, bq3, h]

theorem embL_get0 (a : X) (l : List X) : (embL (a :: l))[0]? = some (.agg a.cells) := by simp [embL, emb_cells]
theorem embL_get1 (a b : X) (l : List X) : (embL (a :: b :: l))[1]? = some (.agg b.cells) := by simp [embL, emb_cells]

set_option maxHeartbeats 8000000 in
theorem ev_neg : ∀ (m : Nat) (x : X), x.size ≤ m → Shp x → ∀ n, 2 * m + 4 ≤ n → ∀ S, ev Try.prog E n 49 [x.emb] S = some (.ret x.neg.emb, S)
  | 0, x, hm, _, _, _, _ => absurd hm (by have := size_pos x; omega)
  | m + 1, x, hm, hs, n, hn, S => by
    obtain ⟨n, rfl⟩ : ∃ k, n = k + 3 := ⟨n - 3, by omega⟩
    obtain ⟨k, nm, a, lo, hi, tk, kids⟩ := x
    simp only [X.size] at hm
    obtain ⟨⟨q1, q2, q3⟩, hk⟩ := shp_mk.1 hs
    have hrec : ∀ x ∈ kids, k ≠ 4 → ev Try.prog E (n + 2) 49 [x.emb] S = some (.ret x.neg.emb, S) := fun x hx h4 => ev_neg m x (by have := sizeL_mem hx; omega) (hk h4 x hx) (n + 2) (by omega) S
    have hps6 : E.ps 49 6 = [(1, 4), (2, 4), (1, 6), (2, 6), (1, 9), (2, 9), (4, 9), (6, 9), (7, 9), (1, 11), (2, 11), (4, 11), (6, 11), (7, 11)] := rfl
    have hps9 : E.ps 49 9 = [(1, 4), (2, 4), (1, 6), (2, 6), (4, 6), (1, 8), (2, 8), (4, 8), (6, 8), (1, 10), (2, 10), (4, 10), (6, 10), (4, 11), (6, 11)] := rfl
    obtain ⟨z, hz⟩ := ii24
    by_cases c1 : k = 18
    · subst c1
      match kids, q1 (.inl rfl) with
      | [y], _ =>
        have hf := fin_emb y S
        have hneg : (X.mk 18 nm a lo hi tk [y]).neg = y := by simp [X.neg, hdX]
        have he := embL_get0 y []
        have ha1 := cells_all y
        have hc1 := (cells_ok y).2
        have ht1 : List.take 6 y.cells = y.cells := List.take_of_length_le (by omega)
        have hl : (embL [y]).length = 1 := rfl
        rw [hneg]
        rw [emb_cells] at hf
        rw [emb_cells y]
        simp only [X.emb]
        generalize y.cells = C1 at *
        generalize embL [y] = e1 at *
        rw [show n + 3 = (n + 2) + 1 from rfl, ev_enter (n := n + 2) (show E.ok 49 = true from rfl) Try.func49 (fn := Try.f49) rfl (Nat.le_of_ble_eq_true rfl) (by decide +kernel)]
        simp (disch := first | (simp only [List.length_append, List.length_cons, List.length_nil]; omega) | (simp; done) | assumption) [↓evOp_build, ↓evOp_bslice, rhoP_nil, rhoP_cons, evCode_skip, evCode_region, evCode_draw, evCode_seq, evCode_cond, evCode_block, evCode_loop, evCode_exit, evCode_ret, seqK_ite, seqK_none, seqK_norm, seqK_ret, seqK_exit, seqK_pan, condK_true, condK_false, condK_bool, blockK_ite, blockK_none, blockK_norm, blockK_ret, blockK_exit, blockK_pan, stepK_ite, stepK_none, stepK_ok, stepK_pan, drawK_ite, drawK_none, drawK_ok, drawK_pan, opK_ite, opK_none, opK_val, opK_pan, wantK_true, wantK_false, wantK_some, afterRegion_ite, afterDraw_ite, fromBody_ite, ite_bool, ite_int, stepA_K, doOp, noOp, lexA_nil, lexA_cons, lexF_nil, lexF_cons, afterDraw, noClash, FP.clash, wantedA, evOp, rho, rhoL, ofC0, ofC, argsA, upd, afterRegion, putA, goOp, evBin_add, evBin_sub, evBin_mul, evBin_quo, evBin_rem, evBin_eql, evBin_neq, evBin_lss, evBin_leq, evBin_gtr, evBin_geq, evBin_eqlB, evBin_neqB, evBin_addS, evBin_eqlS, evBin_neqS, evBin_lssS, evBin_leqS, evUn, evConv, evIndex, evBuiltin, evLen, evMin2, evMax2, evCallee, evBox, evLoad, evStore, evFieldAddr, evField, evIndexAddr, evBuild, evBuildSlice, evElems, evSlice, nth, rdc, wrc, fromBody, resA, finRet, oneOf, AV.cells?, AV.isCell, fin_int, fin_bool, fin_str, Try.f49, E_esc, k24, c24, a24, z24, i24, hz, k3, c3, a3, k22, c22, a22, fq0, fq5, sq22, bq3, he, hl, hf, ha1, hc1, ht1]
    by_cases c2 : k = 19 ∨ k = 20
    · match kids, q2 c2 with
      | [y, z2], _ =>
        have hneg : (X.mk k nm a lo hi tk [y, z2]).neg = bothX (turn k) y.neg z2.neg := by rcases c2 with rfl | rfl <;> simp [X.neg, negLX, hdX, hd2X]
        have hB := ev_both n (turn k) (by rcases c2 with rfl | rfl <;> simp [turn]) y.neg z2.neg S
        have hO := ev_other (n + 1) k 19 20 S
        have hO' : (if k == 19 then (20 : Int) else 19) = turn k := by rcases c2 with rfl | rfl <;> rfl
        rw [hO'] at hO
        have hf := fin_emb (bothX (turn k) y.neg z2.neg) S
        have hr1 := hrec y (by simp) (by omega)
        have hr2 := hrec z2 (by simp) (by omega)
        have he := embL_get0 y [z2]
        have he2 := embL_get1 y z2 []
        have ha1 := cells_all y
        have hc1 := (cells_ok y).2
        have ht1 : List.take 6 y.cells = y.cells := List.take_of_length_le (by omega)
        have ha2 := cells_all z2
        have hc2 := (cells_ok z2).2
        have ht2 : List.take 6 z2.cells = z2.cells := List.take_of_length_le (by omega)
        have ha3 := cells_all (bothX (turn k) y.neg z2.neg)
        have hc3 := (cells_ok (bothX (turn k) y.neg z2.neg)).2
        have ht3 : List.take 6 (bothX (turn k) y.neg z2.neg).cells = (bothX (turn k) y.neg z2.neg).cells := List.take_of_length_le (by omega)
        have hl : (embL [y, z2]).length = 2 := rfl
        rw [hneg]
        rw [emb_cells] at hf
        rw [emb_cells (bothX _ _ _)] at hB ⊢
        rw [emb_cells] at hr1 hr2
        simp only [X.emb]
        generalize (bothX (turn k) y.neg z2.neg).cells = C3 at *
        generalize y.neg.emb = n1 at *
        generalize z2.neg.emb = n2 at *
        generalize y.cells = C1 at *
        generalize z2.cells = C2 at *
        generalize embL [y, z2] = e1 at *
        rw [show n + 3 = (n + 2) + 1 from rfl, ev_enter (n := n + 2) (show E.ok 49 = true from rfl) Try.func49 (fn := Try.f49) rfl (Nat.le_of_ble_eq_true rfl) (by decide +kernel)]
        rcases c2 with rfl | rfl
        · simp (disch := first | (simp only [List.length_append, List.length_cons, List.length_nil]; omega) | (simp; done) | assumption) [↓evOp_build, ↓evOp_bslice, rhoP_nil, rhoP_cons, evCode_skip, evCode_region, evCode_draw, evCode_seq, evCode_cond, evCode_block, evCode_loop, evCode_exit, evCode_ret, seqK_ite, seqK_none, seqK_norm, seqK_ret, seqK_exit, seqK_pan, condK_true, condK_false, condK_bool, blockK_ite, blockK_none, blockK_norm, blockK_ret, blockK_exit, blockK_pan, stepK_ite, stepK_none, stepK_ok, stepK_pan, drawK_ite, drawK_none, drawK_ok, drawK_pan, opK_ite, opK_none, opK_val, opK_pan, wantK_true, wantK_false, wantK_some, afterRegion_ite, afterDraw_ite, fromBody_ite, ite_bool, ite_int, stepA_K, doOp, noOp, lexA_nil, lexA_cons, lexF_nil, lexF_cons, afterDraw, noClash, FP.clash, wantedA, evOp, rho, rhoL, ofC0, ofC, argsA, upd, afterRegion, putA, goOp, evBin_add, evBin_sub, evBin_mul, evBin_quo, evBin_rem, evBin_eql, evBin_neq, evBin_lss, evBin_leq, evBin_gtr, evBin_geq, evBin_eqlB, evBin_neqB, evBin_addS, evBin_eqlS, evBin_neqS, evBin_lssS, evBin_leqS, evUn, evConv, evIndex, evBuiltin, evLen, evMin2, evMax2, evCallee, evBox, evLoad, evStore, evFieldAddr, evField, evIndexAddr, evBuild, evBuildSlice, evElems, evSlice, nth, rdc, wrc, fromBody, resA, finRet, oneOf, AV.cells?, AV.isCell, fin_int, fin_bool, fin_str, Try.f49, E_esc, k24, c24, a24, z24, i24, hz, k3, c3, a3, k22, c22, a22, fq0, fq5, sq22, bq3, he, he2, hl, hf, ha1, hc1, ht1, ha2, hc2, ht2, ha3, hc3, ht3, hr1, hr2, hO, hB, hps6]
        · simp (disch := first | (simp only [List.length_append, List.length_cons, List.length_nil]; omega) | (simp; done) | assumption) [↓evOp_build, ↓evOp_bslice, rhoP_nil, rhoP_cons, evCode_skip, evCode_region, evCode_draw, evCode_seq, evCode_cond, evCode_block, evCode_loop, evCode_exit, evCode_ret, seqK_ite, seqK_none, seqK_norm, seqK_ret, seqK_exit, seqK_pan, condK_true, condK_false, condK_bool, blockK_ite, blockK_none, blockK_norm, blockK_ret, blockK_exit, blockK_pan, stepK_ite, stepK_none, stepK_ok, stepK_pan, drawK_ite, drawK_none, drawK_ok, drawK_pan, opK_ite, opK_none, opK_val, opK_pan, wantK_true, wantK_false, wantK_some, afterRegion_ite, afterDraw_ite, fromBody_ite, ite_bool, ite_int, stepA_K, doOp, noOp, lexA_nil, lexA_cons, lexF_nil, lexF_cons, afterDraw, noClash, FP.clash, wantedA, evOp, rho, rhoL, ofC0, ofC, argsA, upd, afterRegion, putA, goOp, evBin_add, evBin_sub, evBin_mul, evBin_quo, evBin_rem, evBin_eql, evBin_neq, evBin_lss, evBin_leq, evBin_gtr, evBin_geq, evBin_eqlB, evBin_neqB, evBin_addS, evBin_eqlS, evBin_neqS, evBin_lssS, evBin_leqS, evUn, evConv, evIndex, evBuiltin, evLen, evMin2, evMax2, evCallee, evBox, evLoad, evStore, evFieldAddr, evField, evIndexAddr, evBuild, evBuildSlice, evElems, evSlice, nth, rdc, wrc, fromBody, resA, finRet, oneOf, AV.cells?, AV.isCell, fin_int, fin_bool, fin_str, Try.f49, E_esc, k24, c24, a24, z24, i24, hz, k3, c3, a3, k22, c22, a22, fq0, fq5, sq22, bq3, he, he2, hl, hf, ha1, hc1, ht1, ha2, hc2, ht2, ha3, hc3, ht3, hr1, hr2, hO, hB, hps6]
    by_cases c3' : k = 22 ∨ k = 23
    · match kids, q1 (by omega) with
      | [y], _ =>
        have hneg : (X.mk k nm a lo hi tk [y]).neg = .mk (turn k) [] 0 lo hi true [y.neg] := by rcases c3' with rfl | rfl <;> simp [X.neg, negLX, hdX]
        have hO := ev_other (n + 1) k 22 23 S
        have hO' : (if k == 22 then (23 : Int) else 22) = turn k := by rcases c3' with rfl | rfl <;> rfl
        rw [hO'] at hO
        have hf := fin_emb (X.mk (turn k) [] 0 lo hi true [y.neg]) S
        have hr1 := hrec y (by simp) (by omega)
        have he := embL_get0 y []
        have hbs := bs1 y.neg
        have hbd := bd4 (turn k) lo hi (embL [y.neg]) .clip
        have ha1 := cells_all y
        have hc1 := (cells_ok y).2
        have ht1 : List.take 6 y.cells = y.cells := List.take_of_length_le (by omega)
        have hl : (embL [y]).length = 1 := rfl
        have htk : tokOf true = .clip := rfl
        rw [hneg]
        rw [emb_cells, emb_cells] at hr1
        simp only [X.emb, htk] at hf ⊢
        generalize y.neg.cells = C3 at *
        generalize embL [y.neg] = e3 at *
        generalize y.cells = C1 at *
        generalize embL [y] = e1 at *
        rw [show n + 3 = (n + 2) + 1 from rfl, ev_enter (n := n + 2) (show E.ok 49 = true from rfl) Try.func49 (fn := Try.f49) rfl (Nat.le_of_ble_eq_true rfl) (by decide +kernel)]
        rcases c3' with rfl | rfl
        · simp (disch := first | (simp only [List.length_append, List.length_cons, List.length_nil]; omega) | (simp; done) | assumption) [↓evOp_build, ↓evOp_bslice, rhoP_nil, rhoP_cons, evCode_skip, evCode_region, evCode_draw, evCode_seq, evCode_cond, evCode_block, evCode_loop, evCode_exit, evCode_ret, seqK_ite, seqK_none, seqK_norm, seqK_ret, seqK_exit, seqK_pan, condK_true, condK_false, condK_bool, blockK_ite, blockK_none, blockK_norm, blockK_ret, blockK_exit, blockK_pan, stepK_ite, stepK_none, stepK_ok, stepK_pan, drawK_ite, drawK_none, drawK_ok, drawK_pan, opK_ite, opK_none, opK_val, opK_pan, wantK_true, wantK_false, wantK_some, afterRegion_ite, afterDraw_ite, fromBody_ite, ite_bool, ite_int, stepA_K, doOp, noOp, lexA_nil, lexA_cons, lexF_nil, lexF_cons, afterDraw, noClash, FP.clash, wantedA, evOp, rho, rhoL, ofC0, ofC, argsA, upd, afterRegion, putA, goOp, evBin_add, evBin_sub, evBin_mul, evBin_quo, evBin_rem, evBin_eql, evBin_neq, evBin_lss, evBin_leq, evBin_gtr, evBin_geq, evBin_eqlB, evBin_neqB, evBin_addS, evBin_eqlS, evBin_neqS, evBin_lssS, evBin_leqS, evUn, evConv, evIndex, evBuiltin, evLen, evMin2, evMax2, evCallee, evBox, evLoad, evStore, evFieldAddr, evField, evIndexAddr, evBuild, evBuildSlice, evElems, evSlice, nth, rdc, wrc, fromBody, resA, finRet, oneOf, AV.cells?, AV.isCell, fin_int, fin_bool, fin_str, -evBuildSlice, -evBuild, Try.f49, E_esc, k24, c24, a24, z24, i24, hz, k3, c3, a3, k2, c2, a2, k22, c22, a22, fq0, fq3, fq4, fq5, sq22, bq3, he, hl, hf, ha1, hc1, ht1, hr1, hO, hbs, hbd, hps9]
        · simp (disch := first | (simp only [List.length_append, List.length_cons, List.length_nil]; omega) | (simp; done) | assumption) [↓evOp_build, ↓evOp_bslice, rhoP_nil, rhoP_cons, evCode_skip, evCode_region, evCode_draw, evCode_seq, evCode_cond, evCode_block, evCode_loop, evCode_exit, evCode_ret, seqK_ite, seqK_none, seqK_norm, seqK_ret, seqK_exit, seqK_pan, condK_true, condK_false, condK_bool, blockK_ite, blockK_none, blockK_norm, blockK_ret, blockK_exit, blockK_pan, stepK_ite, stepK_none, stepK_ok, stepK_pan, drawK_ite, drawK_none, drawK_ok, drawK_pan, opK_ite, opK_none, opK_val, opK_pan, wantK_true, wantK_false, wantK_some, afterRegion_ite, afterDraw_ite, fromBody_ite, ite_bool, ite_int, stepA_K, doOp, noOp, lexA_nil, lexA_cons, lexF_nil, lexF_cons, afterDraw, noClash, FP.clash, wantedA, evOp, rho, rhoL, ofC0, ofC, argsA, upd, afterRegion, putA, goOp, evBin_add, evBin_sub, evBin_mul, evBin_quo, evBin_rem, evBin_eql, evBin_neq, evBin_lss, evBin_leq, evBin_gtr, evBin_geq, evBin_eqlB, evBin_neqB, evBin_addS, evBin_eqlS, evBin_neqS, evBin_lssS, evBin_leqS, evUn, evConv, evIndex, evBuiltin, evLen, evMin2, evMax2, evCallee, evBox, evLoad, evStore, evFieldAddr, evField, evIndexAddr, evBuild, evBuildSlice, evElems, evSlice, nth, rdc, wrc, fromBody, resA, finRet, oneOf, AV.cells?, AV.isCell, fin_int, fin_bool, fin_str, -evBuildSlice, -evBuild, Try.f49, E_esc, k24, c24, a24, z24, i24, hz, k3, c3, a3, k2, c2, a2, k22, c22, a22, fq0, fq3, fq4, fq5, sq22, bq3, he, hl, hf, ha1, hc1, ht1, hr1, hO, hbs, hbd, hps9]
    by_cases c4 : k = 2
    · subst c4
      have hneg : (X.mk 2 nm a lo hi tk kids).neg = .mk 2 [] (1 - a) 0 0 true [] := by simp [X.neg]
      have hf := fin_emb (X.mk 2 [] (1 - a) 0 0 true []) S
      have hbd := bdn 2 (1 - a)
      have hw : IntKind.i64.wrap (1 - a) = 1 - a := wrap64 _ (by have := q3 rfl; omega)
      have htk : tokOf true = .clip := rfl
      rw [hneg]
      have hkk : (AV.slice (embL kids) (tokOf tk)).isCell = true := rfl
      simp only [X.emb, htk, embL] at hf ⊢
      generalize AV.slice (embL kids) (tokOf tk) = kk at *
      rw [show n + 3 = (n + 2) + 1 from rfl, ev_enter (n := n + 2) (show E.ok 49 = true from rfl) Try.func49 (fn := Try.f49) rfl (Nat.le_of_ble_eq_true rfl) (by decide +kernel)]
      simp (disch := first | (simp only [List.length_append, List.length_cons, List.length_nil]; omega) | (simp; done) | assumption) [↓evOp_build, ↓evOp_bslice, rhoP_nil, rhoP_cons, evCode_skip, evCode_region, evCode_draw, evCode_seq, evCode_cond, evCode_block, evCode_loop, evCode_exit, evCode_ret, seqK_ite, seqK_none, seqK_norm, seqK_ret, seqK_exit, seqK_pan, condK_true, condK_false, condK_bool, blockK_ite, blockK_none, blockK_norm, blockK_ret, blockK_exit, blockK_pan, stepK_ite, stepK_none, stepK_ok, stepK_pan, drawK_ite, drawK_none, drawK_ok, drawK_pan, opK_ite, opK_none, opK_val, opK_pan, wantK_true, wantK_false, wantK_some, afterRegion_ite, afterDraw_ite, fromBody_ite, ite_bool, ite_int, stepA_K, doOp, noOp, lexA_nil, lexA_cons, lexF_nil, lexF_cons, afterDraw, noClash, FP.clash, wantedA, evOp, rho, rhoL, ofC0, ofC, argsA, upd, afterRegion, putA, goOp, evBin_add, evBin_sub, evBin_mul, evBin_quo, evBin_rem, evBin_eql, evBin_neq, evBin_lss, evBin_leq, evBin_gtr, evBin_geq, evBin_eqlB, evBin_neqB, evBin_addS, evBin_eqlS, evBin_neqS, evBin_lssS, evBin_leqS, evUn, evConv, evIndex, evBuiltin, evLen, evMin2, evMax2, evCallee, evBox, evLoad, evStore, evFieldAddr, evField, evIndexAddr, evBuild, evBuildSlice, evElems, evSlice, nth, rdc, wrc, fromBody, resA, finRet, oneOf, AV.cells?, AV.isCell, fin_int, fin_bool, fin_str, -evBuildSlice, -evBuild, -AV.isCell, hkk, Try.f49, E_esc, k24, c24, a24, z24, i24, hz, k3, c3, a3, k2, c2, a2, fq0, fq2, bq3, bq2, hf, hbd, hw]
    · have hneg : (X.mk k nm a lo hi tk kids).neg = .mk 18 [] 0 0 0 true [.mk k nm a lo hi tk kids] := by simp [X.neg, c1, c2, c3', c4]
      have hf := fin_emb (X.mk 18 [] 0 0 0 true [.mk k nm a lo hi tk kids]) S
      have hbs := bs1 (.mk k nm a lo hi tk kids)
      have hbd := bd2 18 (embL [.mk k nm a lo hi tk kids]) .clip
      have htk : tokOf true = .clip := rfl
      have hkk : (AV.slice (embL kids) (tokOf tk)).isCell = true := rfl
      have g18 : (k == 18) = false := by simp [c1]
      have g19 : (k == 19) = false := by simp; omega
      have g20 : (k == 20) = false := by simp; omega
      have g22 : (k == 22) = false := by simp; omega
      have g23 : (k == 23) = false := by simp; omega
      have g2 : (k == 2) = false := by simp [c4]
      rw [hneg]
      have hE : (X.mk 18 [] 0 0 0 true [.mk k nm a lo hi tk kids]).emb = .agg [.int .i64 18, .str [], .int .i64 0, .int .i64 0, .int .i64 0, .slice (embL [.mk k nm a lo hi tk kids]) .clip] := rfl
      rw [hE] at hf ⊢
      simp only [X.cells] at hbs
      simp only [X.emb]
      generalize embL [.mk k nm a lo hi tk kids] = e1 at *
      generalize AV.slice (embL kids) (tokOf tk) = kk at *
      rw [show n + 3 = (n + 2) + 1 from rfl, ev_enter (n := n + 2) (show E.ok 49 = true from rfl) Try.func49 (fn := Try.f49) rfl (Nat.le_of_ble_eq_true rfl) (by decide +kernel)]
      simp (disch := first | (simp only [List.length_append, List.length_cons, List.length_nil]; omega) | (simp; done) | assumption) [↓evOp_build, ↓evOp_bslice, rhoP_nil, rhoP_cons, evCode_skip, evCode_region, evCode_draw, evCode_seq, evCode_cond, evCode_block, evCode_loop, evCode_exit, evCode_ret, seqK_ite, seqK_none, seqK_norm, seqK_ret, seqK_exit, seqK_pan, condK_true, condK_false, condK_bool, blockK_ite, blockK_none, blockK_norm, blockK_ret, blockK_exit, blockK_pan, stepK_ite, stepK_none, stepK_ok, stepK_pan, drawK_ite, drawK_none, drawK_ok, drawK_pan, opK_ite, opK_none, opK_val, opK_pan, wantK_true, wantK_false, wantK_some, afterRegion_ite, afterDraw_ite, fromBody_ite, ite_bool, ite_int, stepA_K, doOp, noOp, lexA_nil, lexA_cons, lexF_nil, lexF_cons, afterDraw, noClash, FP.clash, wantedA, evOp, rho, rhoL, ofC0, ofC, argsA, upd, afterRegion, putA, goOp, evBin_add, evBin_sub, evBin_mul, evBin_quo, evBin_rem, evBin_eql, evBin_neq, evBin_lss, evBin_leq, evBin_gtr, evBin_geq, evBin_eqlB, evBin_neqB, evBin_addS, evBin_eqlS, evBin_neqS, evBin_lssS, evBin_leqS, evUn, evConv, evIndex, evBuiltin, evLen, evMin2, evMax2, evCallee, evBox, evLoad, evStore, evFieldAddr, evField, evIndexAddr, evBuild, evBuildSlice, evElems, evSlice, nth, rdc, wrc, fromBody, resA, finRet, oneOf, AV.cells?, AV.isCell, fin_int, fin_bool, fin_str, -evBuildSlice, -evBuild, -AV.isCell, hkk, Try.f49, E_esc, k24, c24, a24, z24, i24, hz, k3, c3, a3, fq0, bq3, hf, hbs, hbd, g18, g19, g20, g22, g23, g2]
end Go.Proofs.Ytemggoaefohliaa.NF

/- nnf's simple, evaluated. No condition. -/
namespace Go.Proofs.Ytemggoaefohliaa.NF
set_option linter.unusedVariables false
set_option linter.unusedSimpArgs false
open Go AE EX PT
set_option maxRecDepth 100000

mutual
def _root_.Go.Proofs.Ytemggoaefohliaa.EX.X.sim : X → X
  | .mk k nm n lo hi tk l =>
    if k = 4 then .mk k nm n lo hi tk l else if k = 18 then (hdX (simLX l)).neg else if k = 19 ∨ k = 20 then bothX k (hdX (simLX l)) (hd2X (simLX l))
    else .mk k nm n lo hi l.isEmpty (simLX l)
def simLX : List X → List X
  | [] => []
  | a :: l => a.sim :: simLX l
end
mutual
theorem sim_y : ∀ x : X, x.sim.toY = x.toY.sim
  | .mk k nm n lo hi tk l => by
    have := simL_y l
    simp only [X.sim, X.toY, Y.sim, ite_toY, hdX_y, hd2X_y, bothX_y, neg_y, this]
theorem simL_y : ∀ l : List X, yL (simLX l) = simL (yL l)
  | [] => rfl
  | x :: l => by simp only [simLX, yL, simL, sim_y x, simL_y l]
end
theorem simLX_map : ∀ l : List X, simLX l = l.map X.sim
  | [] => rfl
  | x :: l => by simp [simLX, simLX_map l]
mutual
theorem bulk_y : ∀ x : X, x.toY.size = x.bulk
  | .mk k nm n lo hi tk l => by simp only [X.toY, Y.size, X.bulk, bulkL_y l]
theorem bulkL_y : ∀ l : List X, ysizeL (yL l) = bulkL l
  | [] => rfl
  | x :: l => by simp only [yL, ysizeL, bulkL, bulk_y x, bulkL_y l]
end

theorem shp_sim : ∀ (m : Nat) (x : X), x.size ≤ m → Shp x → Shp x.sim
  | 0, x, hm, _ => absurd hm (by have := size_pos x; omega)
  | m + 1, .mk k nm n lo hi tk l, hm, h => by
    obtain ⟨⟨a1, a2, a3⟩, hk⟩ := shp_mk.1 h
    simp only [X.size] at hm
    have hrec : ∀ x ∈ l, k ≠ 4 → Shp x.sim := fun x hx h4 => shp_sim m x (by have := sizeL_mem hx; omega) (hk h4 x hx)
    by_cases c0 : k = 4
    · subst c0; simp only [X.sim, if_pos]; exact h
    by_cases c1 : k = 18
    · subst c1
      match l, a1 (.inl rfl) with
      | [a], _ =>
        have : (X.mk 18 nm n lo hi tk [a]).sim = a.sim.neg := by simp [X.sim, simLX, hdX]
        rw [this]
        exact shp_neg _ _ (Nat.le_refl _) (hrec a (by simp) (by decide))
    by_cases c2 : k = 19 ∨ k = 20
    · match l, a2 c2 with
      | [a, b], _ =>
        have : (X.mk k nm n lo hi tk [a, b]).sim = bothX k a.sim b.sim := by rcases c2 with rfl | rfl <;> simp [X.sim, simLX, hdX, hd2X]
        rw [this]
        exact shp_both c2 (hrec a (by simp) c0) (hrec b (by simp) c0)
    have : (X.mk k nm n lo hi tk l).sim = .mk k nm n lo hi l.isEmpty (simLX l) := by simp [X.sim, c0, c1, c2]
    rw [this]
    refine shp_mk.2 ⟨⟨fun h => ?_, fun h => absurd h c2, a3⟩, fun _ x hx => ?_⟩
    · rw [simLX_map, List.length_map]; exact a1 h
    · rw [simLX_map, List.mem_map] at hx
      obtain ⟨y, hy, rfl⟩ := hx
      exact hrec y hy c0

theorem gd_kids {k : Int} {nm : List UInt8} {n lo hi : Int} {l : List Y} (h : Gd (.mk k nm n lo hi l)) (h4 : k ≠ 4) : ∀ a ∈ l, Gd a := by
  intro a ha
  cases h with
  | tru => cases ha
  | two k x y hk hx hy => simp at ha; rcases ha with rfl | rfl <;> assumption
  | one k lo hi x hk hx => simp at ha; subst ha; exact hx
  | non x hx => simp at ha; subst ha; exact hx
  | set => exact absurd rfl h4
  | oth k nm n lo hi l _ _ hl => exact hl a ha
theorem yL_mem {x : X} {l : List X} (h : x ∈ l) : x.toY ∈ yL l := by rw [yL_map]; exact List.mem_map_of_mem h

noncomputable def siLoop : Code := cutC (bodyOf Try.f48) [1, 1, 1, 0, 1, 0, 0]
noncomputable def si0 : Code := cutC (bodyOf Try.f48) [0]
noncomputable def si1 : Code := cutC (bodyOf Try.f48) [1, 0]
noncomputable def si2 : Code := cutC (bodyOf Try.f48) [1, 1, 0]
noncomputable def si3 : Code := cutC (bodyOf Try.f48) [1, 1, 1, 0, 0]
noncomputable def si4 : Code := cutC (bodyOf Try.f48) [1, 1, 1, 1]
theorem f48b : Try.f48.body = some (.seq si0 (.seq si1 (.seq si2 (.seq (.seq si3 (.block 0 (.loop siLoop))) si4)))) := rfl

def SII (n : Nat) (C : List AV) (kids : List X) (tok : Tok) (S0 : St) (i : Nat) (fs : FS) : Prop :=
  fs.t 1 = .loc n 1 1 0 ∧ fs.b 1 = (1, C) ∧ fs.t 2 = .loc n 2 2 0 ∧ fs.b 2 = (2, [.int .i64 0, .str [], .int .i64 0, .int .i64 0, .int .i64 0, .slice [] .clip]) ∧ fs.t 11 = .slice (embL kids) tok ∧ fs.t 12 = .int .i64 kids.length ∧ fs.t 13 = .int .i64 i ∧
    (if i = 0 then fs.t 3 = .slice (embL []) .clip ∧ fs.S = S0 else ∃ p, fs.t 3 = .slice (embL (simLX (kids.take i))) (.own S0.T.length p) ∧ fs.S = ⟨S0.H, S0.T ++ [p]⟩)

theorem si_round (n : Nat) (C : List AV) (kids : List X) (tok : Tok) (S0 : St) (hs : kids.length ≤ 1048576)
    (hrec : ∀ x ∈ kids, ∀ S, ev Try.prog E n 48 [x.emb] S = some (.ret x.sim.emb, S)) (i : Nat) (hi : i < kids.length) (fs : FS) (h : SII n C kids tok S0 i fs) :
    ∃ fs', evCode ⟨Try.prog, E.esc 48, n⟩ (ev Try.prog E n) (E.ps 48) n siLoop fs = some (.norm, fs') ∧ SII n C kids tok S0 (i + 1) fs' := by
  obtain ⟨t, b, v, S⟩ := fs
  obtain ⟨h1, h2, h3, h4, h5, h6, h7, h8⟩ := h
  simp only at h1 h2 h3 h4 h5 h6 h7 h8
  have hlen := embL_length kids
  have hltz : (i : Int) < kids.length := by omega
  have hxe : kids[i]? = some kids[i] := List.getElem?_eq_getElem hi
  have hr := hrec kids[i] (List.getElem_mem hi) S
  have hcl : simLX (kids.take (i + 1)) = simLX (kids.take i) ++ [kids[i].sim] := by rw [simLX_map, simLX_map, List.take_add_one, hxe, List.map_append]; rfl
  have hclen : (simLX (kids.take i)).length ≤ 1048576 := by rw [simLX_map]; simp; omega
  have hemb : (embL kids)[i]? = some kids[i].emb := by rw [embL_map, List.getElem?_map, hxe]; rfl
  have ha1 := cells_all kids[i]
  have hc1 := (cells_ok kids[i]).2
  have ht1 : List.take 6 kids[i].cells = kids[i].cells := List.take_of_length_le (by omega)
  have hbs := bs1 kids[i].sim
  have hw : IntKind.i64.wrap ((i : Int) + 1) = (i : Int) + 1 := wrap64 _ (by omega)
  obtain ⟨z, hz⟩ := ii24
  rw [emb_cells] at hemb
  rw [emb_cells, emb_cells] at hr
  by_cases h0 : i = 0
  · subst h0
    rw [if_pos rfl] at h8
    obtain ⟨h8, rfl⟩ := h8
    have ha := appC [] [kids[0].sim] .clip S (by simp) (by simp) (by simp)
    generalize kids[0].sim = y at *
    generalize y.cells = C2 at *
    generalize kids[0].cells = C1 at *
    generalize hE : embL [] = ee at *
    generalize hE1 : embL [y] = e1 at *
    generalize hEN : embL ([] ++ [y]) = eN at *
    refine ⟨_, by
      simp (disch := first | (simp only [List.length_append, List.length_cons, List.length_nil]; omega) | (simp; done) | assumption) [↓evOp_build, ↓evOp_bslice, rhoP_nil, rhoP_cons, evCode_skip, evCode_region, evCode_draw, evCode_seq, evCode_cond, evCode_block, evCode_loop, evCode_exit, evCode_ret, seqK_ite, seqK_none, seqK_norm, seqK_ret, seqK_exit, seqK_pan, condK_true, condK_false, condK_bool, blockK_ite, blockK_none, blockK_norm, blockK_ret, blockK_exit, blockK_pan, stepK_ite, stepK_none, stepK_ok, stepK_pan, drawK_ite, drawK_none, drawK_ok, drawK_pan, opK_ite, opK_none, opK_val, opK_pan, wantK_true, wantK_false, wantK_some, afterRegion_ite, afterDraw_ite, fromBody_ite, ite_bool, ite_int, stepA_K, doOp, noOp, lexA_nil, lexA_cons, lexF_nil, lexF_cons, afterDraw, noClash, FP.clash, wantedA, evOp, rho, rhoL, ofC0, ofC, argsA, upd, afterRegion, putA, goOp, evBin_add, evBin_sub, evBin_mul, evBin_quo, evBin_rem, evBin_eql, evBin_neq, evBin_lss, evBin_leq, evBin_gtr, evBin_geq, evBin_eqlB, evBin_neqB, evBin_addS, evBin_eqlS, evBin_neqS, evBin_lssS, evBin_leqS, evUn, evConv, evIndex, evBuiltin, evLen, evMin2, evMax2, evCallee, evBox, evLoad, evStore, evFieldAddr, evField, evIndexAddr, evBuild, evBuildSlice, evElems, evSlice, nth, rdc, wrc, fromBody, resA, finRet, oneOf, AV.cells?, AV.isCell, fin_int, fin_bool, fin_str, -evBuildSlice, siLoop, cutC, bodyOf, Try.f48, E_esc, h1, h2, h3, h4, h5, h6, h7, h8, k24, c24, a24, z24, i24, hz, sq22, bq3, hlen, hi, hltz, hemb, hr, ha1, hc1, ht1, hbs, ha]
      rfl, by simp [upd, h1], by simp [upd, h2], by simp [upd, h3], by simp [upd, h4], by simp [upd, h5], by simp [upd, h6], by simp [upd, wrap64 1 (by omega)], ?_⟩
    rw [if_neg (by omega), hcl]
    refine ⟨6, ?_, rfl⟩
    simp only [List.take_zero, simLX]
    rw [hEN]
    simp [upd]
  · rw [if_neg h0] at h8
    obtain ⟨p, h8, rfl⟩ := h8
    have ha := appO (simLX (kids.take i)) [kids[i].sim] .clip S0 p (by simp) hclen (by simp)
    generalize kids[i].sim = y at *
    generalize y.cells = C2 at *
    generalize kids[i].cells = C1 at *
    generalize hE : embL (simLX (kids.take i)) = ee at *
    generalize hE1 : embL [y] = e1 at *
    generalize hEN : embL (simLX (kids.take i) ++ [y]) = eN at *
    refine ⟨_, by
      simp (disch := first | (simp only [List.length_append, List.length_cons, List.length_nil]; omega) | (simp; done) | assumption) [↓evOp_build, ↓evOp_bslice, rhoP_nil, rhoP_cons, evCode_skip, evCode_region, evCode_draw, evCode_seq, evCode_cond, evCode_block, evCode_loop, evCode_exit, evCode_ret, seqK_ite, seqK_none, seqK_norm, seqK_ret, seqK_exit, seqK_pan, condK_true, condK_false, condK_bool, blockK_ite, blockK_none, blockK_norm, blockK_ret, blockK_exit, blockK_pan, stepK_ite, stepK_none, stepK_ok, stepK_pan, drawK_ite, drawK_none, drawK_ok, drawK_pan, opK_ite, opK_none, opK_val, opK_pan, wantK_true, wantK_false, wantK_some, afterRegion_ite, afterDraw_ite, fromBody_ite, ite_bool, ite_int, stepA_K, doOp, noOp, lexA_nil, lexA_cons, lexF_nil, lexF_cons, afterDraw, noClash, FP.clash, wantedA, evOp, rho, rhoL, ofC0, ofC, argsA, upd, afterRegion, putA, goOp, evBin_add, evBin_sub, evBin_mul, evBin_quo, evBin_rem, evBin_eql, evBin_neq, evBin_lss, evBin_leq, evBin_gtr, evBin_geq, evBin_eqlB, evBin_neqB, evBin_addS, evBin_eqlS, evBin_neqS, evBin_lssS, evBin_leqS, evUn, evConv, evIndex, evBuiltin, evLen, evMin2, evMax2, evCallee, evBox, evLoad, evStore, evFieldAddr, evField, evIndexAddr, evBuild, evBuildSlice, evElems, evSlice, nth, rdc, wrc, fromBody, resA, finRet, oneOf, AV.cells?, AV.isCell, fin_int, fin_bool, fin_str, -evBuildSlice, siLoop, cutC, bodyOf, Try.f48, E_esc, h1, h2, h3, h4, h5, h6, h7, h8, k24, c24, a24, z24, i24, hz, sq22, bq3, hlen, hi, hltz, hemb, hr, ha1, hc1, ht1, hbs, ha]
      rfl, by simp [upd, h1], by simp [upd, h2], by simp [upd, h3], by simp [upd, h4], by simp [upd, h5], by simp [upd, h6], by simp [upd, hw], ?_⟩
    rw [if_neg (by omega), hcl]
    refine ⟨p + 6, ?_, rfl⟩
    rw [hEN]
    simp [upd]

/-- an expression given back: nothing of what was made stays in the caller's sight -/
theorem fin_embO (x : X) (S : St) (ex : List Nat) : finish S x.emb ⟨S.H, S.T ++ ex⟩ = some (x.emb, S) := by
  unfold finish
  simp [boxEqL_refl, sealed_emb, strip_emb, low_emb]
/-- what is known behind the kids: simple ones, in a slice of the function's own, or none -/
def SIT (S0 : St) (l : List X) (v : AV) (S : St) : Prop := (l = [] ∧ v = .slice (embL []) .clip ∧ S = S0) ∨ (l ≠ [] ∧ ∃ p, v = .slice (embL l) (.own S0.T.length p) ∧ S = ⟨S0.H, S0.T ++ [p]⟩)
theorem SIT.tok {S0 : St} {l : List X} {v : AV} {S : St} (h : SIT S0 l v S) : ∃ tok ex, v = .slice (embL l) tok ∧ S = ⟨S0.H, S0.T ++ ex⟩ := by
  rcases h with ⟨rfl, rfl, rfl⟩ | ⟨_, p, rfl, rfl⟩
  · exact ⟨_, [], rfl, by simp⟩
  · exact ⟨_, [p], rfl, rfl⟩

set_option maxHeartbeats 4000000 in
/-- the rest -/
theorem si_rest (n : Nat) (k : Int) (h4 : k ≠ 4) (nm : List UInt8) (a lo hi : Int) (tk : Bool) (kids : List X) (S0 : St) (hsh : Ar (.mk k nm a lo hi tk kids))
    (hneg : ∀ y ∈ simLX kids, ∀ S, ev Try.prog E (n + 2) 49 [y.emb] S = some (.ret y.neg.emb, S))
    (t : Nat → AV) (b : Nat → Nat × List AV) (v : Nat) (S : St) (g1 : t 1 = .loc (n + 2) 1 1 0) (g2 : b 1 = (1, [.int .i64 k, .str nm, .int .i64 a, .int .i64 lo, .int .i64 hi, .slice (embL kids) (tokOf tk)])) (g3 : t 2 = .loc (n + 2) 2 2 0)
    (g4 : b 2 = (2, [.int .i64 0, .str [], .int .i64 0, .int .i64 0, .int .i64 0, .slice [] .clip])) (g8 : SIT S0 (simLX kids) (t 3) S) :
    fromBody Try.prog ⟨Try.prog, E.esc 48, n + 2⟩ S0 Try.f48.results.toList (evCode ⟨Try.prog, E.esc 48, n + 2⟩ (ev Try.prog E (n + 2)) (E.ps 48) (n + 2) si4 ⟨t, b, v, S⟩) = some (.ret (X.mk k nm a lo hi tk kids).sim.emb, S0) := by
  obtain ⟨q1, q2, q3⟩ := hsh
  have hps : E.ps 48 14 = [(1, 4), (1, 7), (4, 7)] := rfl
  obtain ⟨z, hz⟩ := ii24
  by_cases c1 : k = 18
  · subst c1
    match kids, q1 (.inl rfl) with
    | [y], _ =>
      have hsim : (X.mk 18 nm a lo hi tk [y]).sim = y.sim.neg := by simp [X.sim, simLX, hdX]
      obtain ⟨tok, ex, g9, hS9⟩ := g8.tok
      clear g8
      subst hS9
      simp only [simLX] at g9 hneg
      have hr := hneg y.sim (by simp) ⟨S0.H, S0.T ++ ex⟩
      have hf := fin_embO y.sim.neg S0 ex
      have he := embL_get0 y.sim []
      have hl : (embL [y.sim]).length = 1 := rfl
      have ha1 := cells_all y.sim
      have hc1 := (cells_ok y.sim).2
      have ht1 : List.take 6 y.sim.cells = y.sim.cells := List.take_of_length_le (by omega)
      have ha2 := cells_all y.sim.neg
      have hc2 := (cells_ok y.sim.neg).2
      have ht2 : List.take 6 y.sim.neg.cells = y.sim.neg.cells := List.take_of_length_le (by omega)
      rw [hsim, emb_cells]
      rw [emb_cells] at hf
      rw [emb_cells, emb_cells y.sim.neg] at hr
      generalize y.sim.neg.cells = C2 at *
      generalize y.sim.cells = C1 at *
      generalize embL [y.sim] = e1 at *
      generalize AV.slice (embL [y]) (tokOf tk) = kk at *
      simp (disch := first | (simp only [List.length_append, List.length_cons, List.length_nil]; omega) | (simp; done) | assumption) [↓evOp_build, ↓evOp_bslice, rhoP_nil, rhoP_cons, evCode_skip, evCode_region, evCode_draw, evCode_seq, evCode_cond, evCode_block, evCode_loop, evCode_exit, evCode_ret, seqK_ite, seqK_none, seqK_norm, seqK_ret, seqK_exit, seqK_pan, condK_true, condK_false, condK_bool, blockK_ite, blockK_none, blockK_norm, blockK_ret, blockK_exit, blockK_pan, stepK_ite, stepK_none, stepK_ok, stepK_pan, drawK_ite, drawK_none, drawK_ok, drawK_pan, opK_ite, opK_none, opK_val, opK_pan, wantK_true, wantK_false, wantK_some, afterRegion_ite, afterDraw_ite, fromBody_ite, ite_bool, ite_int, stepA_K, doOp, noOp, lexA_nil, lexA_cons, lexF_nil, lexF_cons, afterDraw, noClash, FP.clash, wantedA, evOp, rho, rhoL, ofC0, ofC, argsA, upd, afterRegion, putA, goOp, evBin_add, evBin_sub, evBin_mul, evBin_quo, evBin_rem, evBin_eql, evBin_neq, evBin_lss, evBin_leq, evBin_gtr, evBin_geq, evBin_eqlB, evBin_neqB, evBin_addS, evBin_eqlS, evBin_neqS, evBin_lssS, evBin_leqS, evUn, evConv, evIndex, evBuiltin, evLen, evMin2, evMax2, evCallee, evBox, evLoad, evStore, evFieldAddr, evField, evIndexAddr, evBuild, evBuildSlice, evElems, evSlice, nth, rdc, wrc, fromBody, resA, finRet, oneOf, AV.cells?, AV.isCell, fin_int, fin_bool, fin_str, si4, cutC, bodyOf, Try.f48, E_esc, g1, g2, g3, g4, g9, k24, c24, a24, i24, hz, k3, c3, a3, fq0, sq22, bq3, he, hl, hr, hf, ha1, hc1, ht1, ha2, hc2, ht2]
  by_cases c2 : k = 19 ∨ k = 20
  · match kids, q2 c2 with
    | [y, w], _ =>
      have hsim : (X.mk k nm a lo hi tk [y, w]).sim = bothX k y.sim w.sim := by rcases c2 with rfl | rfl <;> simp [X.sim, simLX, hdX, hd2X]
      obtain ⟨tok, ex, g9, hS9⟩ := g8.tok
      clear g8
      subst hS9
      simp only [simLX] at g9 hneg
      have hr := ev_both n k c2 y.sim w.sim ⟨S0.H, S0.T ++ ex⟩
      have hf := fin_embO (bothX k y.sim w.sim) S0 ex
      have he := embL_get0 y.sim [w.sim]
      have he2 := embL_get1 y.sim w.sim []
      have hl : (embL [y.sim, w.sim]).length = 2 := rfl
      have ha1 := cells_all y.sim
      have hc1 := (cells_ok y.sim).2
      have ht1 : List.take 6 y.sim.cells = y.sim.cells := List.take_of_length_le (by omega)
      have ha3 := cells_all w.sim
      have hc3 := (cells_ok w.sim).2
      have ht3 : List.take 6 w.sim.cells = w.sim.cells := List.take_of_length_le (by omega)
      have ha2 := cells_all (bothX k y.sim w.sim)
      have hc2 := (cells_ok (bothX k y.sim w.sim)).2
      have ht2 : List.take 6 (bothX k y.sim w.sim).cells = (bothX k y.sim w.sim).cells := List.take_of_length_le (by omega)
      rw [hsim, emb_cells]
      rw [emb_cells] at hf
      rw [emb_cells y.sim, emb_cells w.sim, emb_cells (bothX k y.sim w.sim)] at hr
      generalize (bothX k y.sim w.sim).cells = C2 at *
      generalize hE : embL [y.sim, w.sim] = e1 at *
      generalize y.sim.cells = C1 at *
      generalize w.sim.cells = C3 at *
      generalize AV.slice (embL [y, w]) (tokOf tk) = kk at *
      rcases c2 with rfl | rfl
      · simp (disch := first | (simp only [List.length_append, List.length_cons, List.length_nil]; omega) | (simp; done) | assumption) [↓evOp_build, ↓evOp_bslice, rhoP_nil, rhoP_cons, evCode_skip, evCode_region, evCode_draw, evCode_seq, evCode_cond, evCode_block, evCode_loop, evCode_exit, evCode_ret, seqK_ite, seqK_none, seqK_norm, seqK_ret, seqK_exit, seqK_pan, condK_true, condK_false, condK_bool, blockK_ite, blockK_none, blockK_norm, blockK_ret, blockK_exit, blockK_pan, stepK_ite, stepK_none, stepK_ok, stepK_pan, drawK_ite, drawK_none, drawK_ok, drawK_pan, opK_ite, opK_none, opK_val, opK_pan, wantK_true, wantK_false, wantK_some, afterRegion_ite, afterDraw_ite, fromBody_ite, ite_bool, ite_int, stepA_K, doOp, noOp, lexA_nil, lexA_cons, lexF_nil, lexF_cons, afterDraw, noClash, FP.clash, wantedA, evOp, rho, rhoL, ofC0, ofC, argsA, upd, afterRegion, putA, goOp, evBin_add, evBin_sub, evBin_mul, evBin_quo, evBin_rem, evBin_eql, evBin_neq, evBin_lss, evBin_leq, evBin_gtr, evBin_geq, evBin_eqlB, evBin_neqB, evBin_addS, evBin_eqlS, evBin_neqS, evBin_lssS, evBin_leqS, evUn, evConv, evIndex, evBuiltin, evLen, evMin2, evMax2, evCallee, evBox, evLoad, evStore, evFieldAddr, evField, evIndexAddr, evBuild, evBuildSlice, evElems, evSlice, nth, rdc, wrc, fromBody, resA, finRet, oneOf, AV.cells?, AV.isCell, fin_int, fin_bool, fin_str, si4, cutC, bodyOf, Try.f48, E_esc, g1, g2, g3, g4, g9, k24, c24, a24, i24, hz, k3, c3, a3, fq0, sq22, bq3, he, he2, hl, hr, hf, ha1, hc1, ht1, ha2, hc2, ht2, ha3, hc3, ht3, hps]
      · simp (disch := first | (simp only [List.length_append, List.length_cons, List.length_nil]; omega) | (simp; done) | assumption) [↓evOp_build, ↓evOp_bslice, rhoP_nil, rhoP_cons, evCode_skip, evCode_region, evCode_draw, evCode_seq, evCode_cond, evCode_block, evCode_loop, evCode_exit, evCode_ret, seqK_ite, seqK_none, seqK_norm, seqK_ret, seqK_exit, seqK_pan, condK_true, condK_false, condK_bool, blockK_ite, blockK_none, blockK_norm, blockK_ret, blockK_exit, blockK_pan, stepK_ite, stepK_none, stepK_ok, stepK_pan, drawK_ite, drawK_none, drawK_ok, drawK_pan, opK_ite, opK_none, opK_val, opK_pan, wantK_true, wantK_false, wantK_some, afterRegion_ite, afterDraw_ite, fromBody_ite, ite_bool, ite_int, stepA_K, doOp, noOp, lexA_nil, lexA_cons, lexF_nil, lexF_cons, afterDraw, noClash, FP.clash, wantedA, evOp, rho, rhoL, ofC0, ofC, argsA, upd, afterRegion, putA, goOp, evBin_add, evBin_sub, evBin_mul, evBin_quo, evBin_rem, evBin_eql, evBin_neq, evBin_lss, evBin_leq, evBin_gtr, evBin_geq, evBin_eqlB, evBin_neqB, evBin_addS, evBin_eqlS, evBin_neqS, evBin_lssS, evBin_leqS, evUn, evConv, evIndex, evBuiltin, evLen, evMin2, evMax2, evCallee, evBox, evLoad, evStore, evFieldAddr, evField, evIndexAddr, evBuild, evBuildSlice, evElems, evSlice, nth, rdc, wrc, fromBody, resA, finRet, oneOf, AV.cells?, AV.isCell, fin_int, fin_bool, fin_str, si4, cutC, bodyOf, Try.f48, E_esc, g1, g2, g3, g4, g9, k24, c24, a24, i24, hz, k3, c3, a3, fq0, sq22, bq3, he, he2, hl, hr, hf, ha1, hc1, ht1, ha2, hc2, ht2, ha3, hc3, ht3, hps]
  have hsim : (X.mk k nm a lo hi tk kids).sim = .mk k nm a lo hi kids.isEmpty (simLX kids) := by simp [X.sim, h4, c1, c2]
  have w18 : (k == 18) = false := by simp [c1]
  have w19 : (k == 19) = false := by simp; omega
  have w20 : (k == 20) = false := by simp; omega
  have hcs : ∀ e t, AV.isCell (.slice e t) = true := fun _ _ => rfl
  have hci : ∀ k n, AV.isCell (.int k n) = true := fun _ _ => rfl
  have hcz : ∀ s, AV.isCell (.str s) = true := fun _ => rfl
  rw [hsim]
  rcases g8 with ⟨hnil, g8, rfl⟩ | ⟨hne, p, g8, rfl⟩
  · have hk0 : kids = [] := by cases kids <;> simp_all [simLX]
    subst hk0
    have ht : tokOf true = .clip := rfl
    have hf := fin_emb (X.mk k nm a lo hi true []) S
    simp only [X.emb, ht, simLX, List.isEmpty_nil] at hf ⊢
    generalize embL [] = ee at *
    generalize AV.slice ee (tokOf tk) = kk at *
    simp (disch := first | (simp only [List.length_append, List.length_cons, List.length_nil]; omega) | (simp; done) | assumption) [↓evOp_build, ↓evOp_bslice, rhoP_nil, rhoP_cons, evCode_skip, evCode_region, evCode_draw, evCode_seq, evCode_cond, evCode_block, evCode_loop, evCode_exit, evCode_ret, seqK_ite, seqK_none, seqK_norm, seqK_ret, seqK_exit, seqK_pan, condK_true, condK_false, condK_bool, blockK_ite, blockK_none, blockK_norm, blockK_ret, blockK_exit, blockK_pan, stepK_ite, stepK_none, stepK_ok, stepK_pan, drawK_ite, drawK_none, drawK_ok, drawK_pan, opK_ite, opK_none, opK_val, opK_pan, wantK_true, wantK_false, wantK_some, afterRegion_ite, afterDraw_ite, fromBody_ite, ite_bool, ite_int, stepA_K, doOp, noOp, lexA_nil, lexA_cons, lexF_nil, lexF_cons, afterDraw, noClash, FP.clash, wantedA, evOp, rho, rhoL, ofC0, ofC, argsA, upd, afterRegion, putA, goOp, evBin_add, evBin_sub, evBin_mul, evBin_quo, evBin_rem, evBin_eql, evBin_neq, evBin_lss, evBin_leq, evBin_gtr, evBin_geq, evBin_eqlB, evBin_neqB, evBin_addS, evBin_eqlS, evBin_neqS, evBin_lssS, evBin_leqS, evUn, evConv, evIndex, evBuiltin, evLen, evMin2, evMax2, evCallee, evBox, evLoad, evStore, evFieldAddr, evField, evIndexAddr, evBuild, evBuildSlice, evElems, evSlice, nth, rdc, wrc, fromBody, resA, finRet, oneOf, AV.cells?, AV.isCell, fin_int, fin_bool, fin_str, -AV.isCell, hcs, hci, hcz, si4, cutC, bodyOf, Try.f48, E_esc, g1, g2, g3, g4, g8, k24, c24, a24, i24, k3, c3, a3, k22, c22, a22, i22, fq0, fq5, bq3, w18, w19, w20, hf]
  · have he : kids.isEmpty = false := by cases kids <;> simp_all [simLX]
    have ht : tokOf false = .non := rfl
    have hf := fin_agg k nm a lo hi (simLX kids) S0 p
    simp only [X.emb, ht, he] at hf ⊢
    generalize embL (simLX kids) = en at *
    generalize AV.slice (embL kids) (tokOf tk) = kk at *
    simp (disch := first | (simp only [List.length_append, List.length_cons, List.length_nil]; omega) | (simp; done) | assumption) [↓evOp_build, ↓evOp_bslice, rhoP_nil, rhoP_cons, evCode_skip, evCode_region, evCode_draw, evCode_seq, evCode_cond, evCode_block, evCode_loop, evCode_exit, evCode_ret, seqK_ite, seqK_none, seqK_norm, seqK_ret, seqK_exit, seqK_pan, condK_true, condK_false, condK_bool, blockK_ite, blockK_none, blockK_norm, blockK_ret, blockK_exit, blockK_pan, stepK_ite, stepK_none, stepK_ok, stepK_pan, drawK_ite, drawK_none, drawK_ok, drawK_pan, opK_ite, opK_none, opK_val, opK_pan, wantK_true, wantK_false, wantK_some, afterRegion_ite, afterDraw_ite, fromBody_ite, ite_bool, ite_int, stepA_K, doOp, noOp, lexA_nil, lexA_cons, lexF_nil, lexF_cons, afterDraw, noClash, FP.clash, wantedA, evOp, rho, rhoL, ofC0, ofC, argsA, upd, afterRegion, putA, goOp, evBin_add, evBin_sub, evBin_mul, evBin_quo, evBin_rem, evBin_eql, evBin_neq, evBin_lss, evBin_leq, evBin_gtr, evBin_geq, evBin_eqlB, evBin_neqB, evBin_addS, evBin_eqlS, evBin_neqS, evBin_lssS, evBin_leqS, evUn, evConv, evIndex, evBuiltin, evLen, evMin2, evMax2, evCallee, evBox, evLoad, evStore, evFieldAddr, evField, evIndexAddr, evBuild, evBuildSlice, evElems, evSlice, nth, rdc, wrc, fromBody, resA, finRet, oneOf, AV.cells?, AV.isCell, fin_int, fin_bool, fin_str, -AV.isCell, hcs, hci, hcz, si4, cutC, bodyOf, Try.f48, E_esc, g1, g2, g3, g4, g8, k24, c24, a24, i24, k3, c3, a3, k22, c22, a22, i22, fq0, fq5, bq3, w18, w19, w20, hf]

set_option maxHeartbeats 4000000 in
theorem ev_sim : ∀ (m : Nat) (x : X), x.size ≤ m → x.bulk ≤ 1048576 → Shp x → Gd x.toY → ∀ n, m + 4 * x.bulk + 20 ≤ n → ∀ S, ev Try.prog E n 48 [x.emb] S = some (.ret x.sim.emb, S)
  | 0, x, hm, _, _, _, _, _, _ => absurd hm (by have := size_pos x; omega)
  | m + 1, x, hm, hb, hs, hg, n, hn, S => by
    obtain ⟨n, rfl⟩ : ∃ k, n = k + 3 := ⟨n - 3, by omega⟩
    obtain ⟨k, nm, a, lo, hi, tk, kids⟩ := x
    obtain ⟨hsh, hk⟩ := shp_mk.1 hs
    simp only [X.size] at hm
    simp only [X.bulk] at hb hn
    have hl := bulkL_length kids
    have hlen := embL_length kids
    by_cases c0 : k = 4
    · subst c0
      have hf := fin_emb (X.mk 4 nm a lo hi tk kids) S
      have hsim : (X.mk 4 nm a lo hi tk kids).sim = .mk 4 nm a lo hi tk kids := by simp [X.sim]
      have hkk : (AV.slice (embL kids) (tokOf tk)).isCell = true := rfl
      rw [hsim]
      simp only [X.emb] at hf ⊢
      generalize AV.slice (embL kids) (tokOf tk) = kk at *
      rw [show n + 3 = (n + 2) + 1 from rfl, ev_enter (n := n + 2) (show E.ok 48 = true from rfl) Try.func48 f48b (Nat.le_of_ble_eq_true rfl) (by decide +kernel)]
      simp (disch := first | (simp only [List.length_append, List.length_cons, List.length_nil]; omega) | (simp; done) | assumption) [↓evOp_build, ↓evOp_bslice, rhoP_nil, rhoP_cons, evCode_skip, evCode_region, evCode_draw, evCode_seq, evCode_cond, evCode_block, evCode_loop, evCode_exit, evCode_ret, seqK_ite, seqK_none, seqK_norm, seqK_ret, seqK_exit, seqK_pan, condK_true, condK_false, condK_bool, blockK_ite, blockK_none, blockK_norm, blockK_ret, blockK_exit, blockK_pan, stepK_ite, stepK_none, stepK_ok, stepK_pan, drawK_ite, drawK_none, drawK_ok, drawK_pan, opK_ite, opK_none, opK_val, opK_pan, wantK_true, wantK_false, wantK_some, afterRegion_ite, afterDraw_ite, fromBody_ite, ite_bool, ite_int, stepA_K, doOp, noOp, lexA_nil, lexA_cons, lexF_nil, lexF_cons, afterDraw, noClash, FP.clash, wantedA, evOp, rho, rhoL, ofC0, ofC, argsA, upd, afterRegion, putA, goOp, evBin_add, evBin_sub, evBin_mul, evBin_quo, evBin_rem, evBin_eql, evBin_neq, evBin_lss, evBin_leq, evBin_gtr, evBin_geq, evBin_eqlB, evBin_neqB, evBin_addS, evBin_eqlS, evBin_neqS, evBin_lssS, evBin_leqS, evUn, evConv, evIndex, evBuiltin, evLen, evMin2, evMax2, evCallee, evBox, evLoad, evStore, evFieldAddr, evField, evIndexAddr, evBuild, evBuildSlice, evElems, evSlice, nth, rdc, wrc, fromBody, resA, finRet, oneOf, AV.cells?, AV.isCell, fin_int, fin_bool, fin_str, -AV.isCell, hkk, si0, si1, si2, si3, si4, cutC, bodyOf, Try.f48, E_esc, k24, c24, a24, z24, i24, k3, c3, a3, fq0, bq3, hf, show ∀ k n, AV.isCell (.int k n) = true from fun _ _ => rfl, show ∀ s, AV.isCell (.str s) = true from fun _ => rfl]
    have hgk := gd_kids hg c0
    have hrec : ∀ x ∈ kids, ∀ S, ev Try.prog E (n + 2) 48 [x.emb] S = some (.ret x.sim.emb, S) := fun x hx S =>
      ev_sim m x (by have := sizeL_mem hx; omega) (by have := bulkL_mem hx; omega) (hk c0 x hx) (hgk _ (yL_mem hx)) (n + 2) (by have := bulkL_mem hx; omega) S
    have hneg : ∀ y ∈ simLX kids, ∀ S, ev Try.prog E (n + 2) 49 [y.emb] S = some (.ret y.neg.emb, S) := fun y hy S => by
      rw [simLX_map, List.mem_map] at hy
      obtain ⟨x, hx, rfl⟩ := hy
      have h1 := (sim_size (hgk _ (yL_mem hx))).1
      rw [← sim_y, bulk_y, bulk_y] at h1
      have h2 := size7 x.sim
      have h3 := bulkL_mem hx
      exact ev_neg _ x.sim (Nat.le_refl _) (shp_sim _ x (Nat.le_refl _) (hk c0 x hx)) (n + 2) (by omega) S
    have c0' : (k == 4) = false := by simp [c0]
    have h4 : (X.mk k nm a lo hi tk kids).emb = .agg [.int .i64 k, .str nm, .int .i64 a, .int .i64 lo, .int .i64 hi, .slice (embL kids) (tokOf tk)] := rfl
    rw [h4, show n + 3 = (n + 2) + 1 from rfl, ev_enter (n := n + 2) (show E.ok 48 = true from rfl) Try.func48 f48b (Nat.le_of_ble_eq_true rfl) (by decide +kernel)]
    obtain ⟨fs1, e1, p1⟩ : ∃ fs', evCode ⟨Try.prog, E.esc 48, n + 2⟩ (ev Try.prog E (n + 2)) (E.ps 48) (n + 2) (.seq (.seq (.seq si0 si1) si2) si3) ⟨argsA [.agg [.int .i64 k, .str nm, .int .i64 a, .int .i64 lo, .int .i64 hi, .slice (embL kids) (tokOf tk)]], fun _ => (0, []), 0, S⟩ = some (.norm, fs') ∧
        SII (n + 2) [.int .i64 k, .str nm, .int .i64 a, .int .i64 lo, .int .i64 hi, .slice (embL kids) (tokOf tk)] kids (tokOf tk) S 0 fs' := by
      refine ⟨_, by
        simp (disch := first | (simp only [List.length_append, List.length_cons, List.length_nil]; omega) | (simp; done) | assumption) [↓evOp_build, ↓evOp_bslice, rhoP_nil, rhoP_cons, evCode_skip, evCode_region, evCode_draw, evCode_seq, evCode_cond, evCode_block, evCode_loop, evCode_exit, evCode_ret, seqK_ite, seqK_none, seqK_norm, seqK_ret, seqK_exit, seqK_pan, condK_true, condK_false, condK_bool, blockK_ite, blockK_none, blockK_norm, blockK_ret, blockK_exit, blockK_pan, stepK_ite, stepK_none, stepK_ok, stepK_pan, drawK_ite, drawK_none, drawK_ok, drawK_pan, opK_ite, opK_none, opK_val, opK_pan, wantK_true, wantK_false, wantK_some, afterRegion_ite, afterDraw_ite, fromBody_ite, ite_bool, ite_int, stepA_K, doOp, noOp, lexA_nil, lexA_cons, lexF_nil, lexF_cons, afterDraw, noClash, FP.clash, wantedA, evOp, rho, rhoL, ofC0, ofC, argsA, upd, afterRegion, putA, goOp, evBin_add, evBin_sub, evBin_mul, evBin_quo, evBin_rem, evBin_eql, evBin_neq, evBin_lss, evBin_leq, evBin_gtr, evBin_geq, evBin_eqlB, evBin_neqB, evBin_addS, evBin_eqlS, evBin_neqS, evBin_lssS, evBin_leqS, evUn, evConv, evIndex, evBuiltin, evLen, evMin2, evMax2, evCallee, evBox, evLoad, evStore, evFieldAddr, evField, evIndexAddr, evBuild, evBuildSlice, evElems, evSlice, nth, rdc, wrc, fromBody, resA, finRet, oneOf, AV.cells?, AV.isCell, fin_int, fin_bool, fin_str, si0, si1, si2, si3, cutC, bodyOf, Try.f48, E_esc, k24, c24, a24, z24, i24, k3, c3, a3, k22, c22, a22, fq0, fq5, sq22, bq3, c0', hlen]
        rfl, by simp [upd], by simp [upd], by simp [upd], by simp [upd], by simp [upd], by simp [upd], by simp [upd], by rw [if_pos rfl]; exact ⟨by simp [upd, embL], rfl⟩⟩
    obtain ⟨⟨o, ⟨t, b, v, S'⟩⟩, r1, r2, r3⟩ := iter_range (Q := fun r => r.1 = .exit 0 ∧ SII (n + 2) [.int .i64 k, .str nm, .int .i64 a, .int .i64 lo, .int .i64 hi, .slice (embL kids) (tokOf tk)] kids (tokOf tk) S kids.length r.2) (len := kids.length)
      (fun i hi' fs h => si_round (n + 2) _ kids (tokOf tk) S (by omega) hrec i hi' fs h)
      (fun fs h => by
        obtain ⟨t, b, v, S'⟩ := fs
        obtain ⟨h1, h2, h3, h4, h5, h6, h7, h8⟩ := h
        simp only at h1 h2 h3 h4 h5 h6 h7 h8
        refine ⟨.exit 0, _, by
          simp (disch := first | (simp only [List.length_append, List.length_cons, List.length_nil]; omega) | (simp; done) | assumption) [↓evOp_build, ↓evOp_bslice, rhoP_nil, rhoP_cons, evCode_skip, evCode_region, evCode_draw, evCode_seq, evCode_cond, evCode_block, evCode_loop, evCode_exit, evCode_ret, seqK_ite, seqK_none, seqK_norm, seqK_ret, seqK_exit, seqK_pan, condK_true, condK_false, condK_bool, blockK_ite, blockK_none, blockK_norm, blockK_ret, blockK_exit, blockK_pan, stepK_ite, stepK_none, stepK_ok, stepK_pan, drawK_ite, drawK_none, drawK_ok, drawK_pan, opK_ite, opK_none, opK_val, opK_pan, wantK_true, wantK_false, wantK_some, afterRegion_ite, afterDraw_ite, fromBody_ite, ite_bool, ite_int, stepA_K, doOp, noOp, lexA_nil, lexA_cons, lexF_nil, lexF_cons, afterDraw, noClash, FP.clash, wantedA, evOp, rho, rhoL, ofC0, ofC, argsA, upd, afterRegion, putA, goOp, evBin_add, evBin_sub, evBin_mul, evBin_quo, evBin_rem, evBin_eql, evBin_neq, evBin_lss, evBin_leq, evBin_gtr, evBin_geq, evBin_eqlB, evBin_neqB, evBin_addS, evBin_eqlS, evBin_neqS, evBin_lssS, evBin_leqS, evUn, evConv, evIndex, evBuiltin, evLen, evMin2, evMax2, evCallee, evBox, evLoad, evStore, evFieldAddr, evField, evIndexAddr, evBuild, evBuildSlice, evElems, evSlice, nth, rdc, wrc, fromBody, resA, finRet, oneOf, AV.cells?, AV.isCell, fin_int, fin_bool, fin_str, siLoop, cutC, bodyOf, Try.f48, h6, h7, bq3]
          rfl, by simp, rfl, by simp [upd, h1], by simp [upd, h2], by simp [upd, h3], by simp [upd, h4], by simp [upd, h5], by simp [upd, h6], by simp [upd, h7], by simpa [upd] using h8⟩) kids.length 0 (n + 2) fs1 (by omega) (by omega) p1
    simp only at r2
    subst r2
    obtain ⟨g1, g2, g3, g4, g5, g6, g7, g8⟩ := r3
    simp only at g1 g2 g3 g4 g5 g6 g7 g8
    have g8' : SIT S (simLX kids) (t 3) S' := by
      by_cases h0 : kids.length = 0
      · rw [if_pos h0] at g8
        have : kids = [] := List.eq_nil_of_length_eq_zero h0
        subst this
        exact .inl ⟨rfl, g8.1, g8.2⟩
      · rw [if_neg h0, List.take_length] at g8
        exact .inr ⟨fun h => h0 (by rw [simLX_map] at h; simpa using congrArg List.length h), g8⟩
    have hrest := si_rest n k c0 nm a lo hi tk kids S hsh hneg t b v S' g1 g2 g3 g4 g8'
    rw [← hrest, evCode_assoc, evCode_assoc, evCode_assoc, evCode_seq, evCode_assoc, evCode_seq, e1, seqK_norm, evCode_block, evCode_loop, r1, blockK_exit, if_pos rfl, seqK_norm]
end Go.Proofs.Ytemggoaefohliaa.NF

/- nnf's Of, Not and Is, evaluated. No condition. -/
namespace Go.Proofs.Ytemggoaefohliaa.NF
set_option linter.unusedVariables false
set_option linter.unusedSimpArgs false
open Go AE EX PT
set_option maxRecDepth 100000

theorem good_gd : ∀ (m : Nat) (x : X), x.size ≤ m → MayAll x → Gd x.toY
  | 0, x, hm, _ => absurd hm (by have := size_pos x; omega)
  | m + 1, .mk k nm n lo hi tk l, hm, h => by
    simp only [X.size] at hm
    by_cases c0 : k = 4
    · obtain ⟨_, h2⟩ := (mayAll_set c0).1 h
      subst c0
      refine .set _ _ _ _ _ fun a ha => ?_
      rw [yL_map, List.mem_map] at ha
      obtain ⟨x, hx, rfl⟩ := ha
      obtain ⟨nm', tk', rfl, _⟩ := h2.kid x hx
      rfl
    obtain ⟨h1, h2, h3, h4⟩ := (mayAll_more c0).1 h
    have hrec : ∀ x ∈ l, Gd x.toY := fun x hx => good_gd m x (by have := sizeL_mem hx; omega) (h4 x hx)
    have hk := (kinds_iff k).1 h1
    by_cases c1 : k = 2
    · subst c1
      rw [show kidsI 2 = 0 from rfl] at h2
      have e : l = [] := List.eq_nil_of_length_eq_zero (by omega)
      subst e
      have z := h3.zero (by decide)
      have e1 := h3.none (by decide)
      have e2 := h3.bool rfl
      rw [e1, z.1, z.2]
      exact .tru n e2
    by_cases c2 : k = 18
    · subst c2
      rw [show kidsI 18 = 1 from rfl] at h2
      match l, (show l.length = 1 by omega), hrec with
      | [a], _, hrec =>
        have z := h3.zero (by decide)
        rw [h3.none (by decide), z.1, z.2, h3.num (by decide) (by decide)]
        exact .non _ (hrec a (by simp))
    by_cases c3 : k = 19 ∨ k = 20
    · have h2' : l.length = 2 := by
        rw [show kidsI k = 2 by rcases c3 with rfl | rfl <;> rfl] at h2
        omega
      match l, h2', hrec with
      | [a, b], _, hrec =>
        have z := h3.zero (by omega)
        rw [h3.none (by omega), z.1, z.2, h3.num (by omega) (by omega)]
        exact .two _ _ _ c3 (hrec a (by simp)) (hrec b (by simp))
    by_cases c4 : k = 22 ∨ k = 23
    · have h2' : l.length = 1 := by
        rw [show kidsI k = 1 by rcases c4 with rfl | rfl <;> rfl] at h2
        omega
      match l, h2', hrec with
      | [a], _, hrec =>
        rw [h3.none (by omega), h3.num (by omega) (by omega)]
        exact .one _ _ _ _ c4 (hrec a (by simp))
    exact .oth _ _ _ _ _ _ ⟨c1, c2, by omega, by omega, by omega, by omega⟩ c0 fun a ha => by
      rw [yL_map, List.mem_map] at ha
      obtain ⟨x, hx, rfl⟩ := ha
      exact hrec x hx

theorem name_len {s : List UInt8} (h : nameB s = true) : s.length ≤ 16 := ((nameB_iff s).1 h).2.1
theorem plain_len {s : List UInt8} (h : plainB s = true) : s.length ≤ 32 := by
  simp [plainB] at h; exact h.1
theorem nm_len {k : Int} {nm : List UInt8} {n lo hi : Int} (h : Fits k nm n lo hi) : nm.length ≤ 32 := by
  by_cases c1 : k = 3
  · exact plain_len (h.text c1)
  by_cases c2 : k = 5 ∨ k = 6 ∨ k = 13 ∨ k = 21
  · have := name_len (h.name c2); omega
  · rw [h.none (by omega)]; simp
theorem set_bulk : ∀ l : List X, (∀ x ∈ l, SetKid x) → bulkL l ≤ 39 * l.length
  | [], _ => by simp [bulkL]
  | x :: l, h => by
    have := set_bulk l fun y hy => h y (List.mem_cons_of_mem _ hy)
    obtain ⟨nm, tk, rfl, hp⟩ := h x (List.mem_cons_self ..)
    have := plain_len hp
    simp only [bulkL, X.bulk, List.length_cons]
    omega
mutual
theorem may_bulk : ∀ (x : X), MayAll x → x.bulk ≤ 360 * x.nodes.length
  | .mk k nm n lo hi tk l, h => by
    by_cases c0 : k = 4
    · obtain ⟨h1, h2⟩ := (mayAll_set c0).1 h
      have := set_bulk l h2.kid
      have := h2.1
      have := nm_len h1
      have c0' : (k == 4) = true := by simp [c0]
      simp only [X.bulk, X.nodes, c0']
      simp
      omega
    · obtain ⟨h1, h2, h3, h4⟩ := (mayAll_more c0).1 h
      have := nm_len h3
      have := may_bulkL l h4
      have c0' : (k == 4) = false := by simp [c0]
      simp only [X.bulk, X.nodes, c0', List.length_cons]
      simp
      omega
theorem may_bulkL : ∀ (l : List X), (∀ x ∈ l, MayAll x) → bulkL l ≤ 360 * (nodesL l).length
  | [], _ => by simp [bulkL]
  | x :: l, h => by
    have := may_bulk x (h x (List.mem_cons_self ..))
    have := may_bulkL l fun y hy => h y (List.mem_cons_of_mem _ hy)
    simp only [bulkL, nodesL, List.length_append]
    omega
end
theorem ok_bulk {x : X} (h : OKx x) : x.bulk ≤ 23040 := by
  have := may_bulk x h.2.2
  have := h.2.1
  omega

mutual
theorem cl_y : ∀ x : X, x.cl.toY = x.toY
  | .mk k nm n lo hi tk l => by simp only [X.cl, X.toY, clL_y l]
theorem clL_y : ∀ l : List X, yL (clL l) = yL l
  | [] => rfl
  | x :: l => by simp only [clL, yL, cl_y x, clL_y l]
end
mutual
theorem same_y : ∀ x y : X, x.same y = true ↔ x.toY = y.toY
  | .mk k nm n lo hi tk l, .mk k' nm' n' lo' hi' tk' l' => by
    have := sameL_y l l'
    rw [same_len]
    simp only [X.toY, Y.mk.injEq, Bool.and_eq_true, beq_iff_eq, this, and_assoc]
theorem sameL_y : ∀ l m : List X, sameL l m = true ↔ yL l = yL m
  | [], [] => by simp [sameL, yL]
  | x :: l, y :: m => by simp only [sameL, yL, Bool.and_eq_true, same_y x y, sameL_y l m, List.cons.injEq]
  | [], _ :: _ => by simp [sameL, yL]
  | _ :: _, [] => by simp [sameL, yL]
end
theorem same_eq {x y : X} (h : x.toY = y.toY) : x.same y = true := (same_y x y).2 h

open Classical in
noncomputable def ofX (x : X) : X := if OKx x then x.sim.cl else x.cl
open Classical in
noncomputable def notX (x : X) : X := if OKx x then x.sim.neg.cl else x.cl
theorem ofX_pos {x : X} (h : OKx x) : ofX x = x.sim.cl := by unfold ofX; rw [if_pos h]
theorem ofX_neg {x : X} (h : ¬ OKx x) : ofX x = x.cl := by unfold ofX; rw [if_neg h]
theorem notX_pos {x : X} (h : OKx x) : notX x = x.sim.neg.cl := by unfold notX; rw [if_pos h]
theorem notX_neg {x : X} (h : ¬ OKx x) : notX x = x.cl := by unfold notX; rw [if_neg h]
theorem ok_gd {x : X} (h : OKx x) : Gd x.toY := good_gd _ x (Nat.le_refl _) h.2.2
theorem ok_shp {x : X} (h : OKx x) : Shp x := shp_good h.2.2
theorem sim_bulk {x : X} (h : OKx x) : x.sim.bulk ≤ 46080 ∧ x.sim.neg.bulk ≤ 46080 := by
  have h1 := sim_size (ok_gd h)
  rw [← sim_y, ← neg_y, bulk_y, bulk_y, bulk_y] at h1
  have := ok_bulk h
  omega
theorem cl_bulk (x : X) : x.cl.bulk = x.bulk := by rw [← bulk_y, cl_y, bulk_y]
theorem of_bulk {x : X} (hb : x.bulk ≤ 1048576) : (ofX x).bulk ≤ 1048576 := by
  by_cases h : OKx x
  · rw [ofX_pos h, cl_bulk]; have := (sim_bulk h).1; omega
  · rw [ofX_neg h, cl_bulk]; exact hb
theorem not_bulk {x : X} (hb : x.bulk ≤ 1048576) : (notX x).bulk ≤ 1048576 := by
  by_cases h : OKx x
  · rw [notX_pos h, cl_bulk]; have := (sim_bulk h).2; omega
  · rw [notX_neg h, cl_bulk]; exact hb

theorem bq48 : boolQ Try.prog 48 = false := by kernel_rfl

set_option maxHeartbeats 4000000 in
theorem ev_Of (n : Nat) (x : X) (hb : x.bulk ≤ 1048576) (hn : 1400000 ≤ n) (S : St) : ev Try.prog E (n + 2) 21 [x.emb] S = some (.ret (ofX x).emb, S) := by
  have hsz := size7 x
  obtain ⟨c, hC, hc⟩ := ev_aCheck n x (by omega) hb S
  have ha1 := cells_all x
  have hc1 := (cells_ok x).2
  have ht1 : List.take 6 x.cells = x.cells := List.take_of_length_le (by omega)
  have hf := fin_emb (ofX x) S
  have ha2 := cells_all (ofX x)
  have hc2 := (cells_ok (ofX x)).2
  have ht2 : List.take 6 (ofX x).cells = (ofX x).cells := List.take_of_length_le (by omega)
  rw [show n + 2 = (n + 1) + 1 from rfl, ev_enter (n := n + 1) (show E.ok 21 = true from rfl) Try.func21 (fn := Try.f21) rfl (Nat.le_of_ble_eq_true rfl) (by decide +kernel)]
  by_cases h : OKx x
  · have hc0 : c = 0 := hc.2 h
    subst hc0
    have hsb := (sim_bulk h).1
    have hsz2 := size7 x.sim
    have hkb := ok_bulk h
    have hS := ev_sim x.size x (Nat.le_refl _) hb (ok_shp h) (ok_gd h) (n + 1) (by omega) S
    have hL := ev_Clone x.sim.size x.sim (Nat.le_refl _) (by omega) (n + 1) (by omega) S
    rw [← ofX_pos h] at hL
    rw [emb_cells] at hC hf
    rw [emb_cells, emb_cells x.sim] at hS
    rw [emb_cells, emb_cells (ofX x)] at hL
    rw [emb_cells, emb_cells (ofX x)]
    generalize (ofX x).cells = C2 at *
    generalize x.sim.cells = C3 at *
    generalize x.cells = C1 at *
    simp (disch := first | (simp only [List.length_append, List.length_cons, List.length_nil]; omega) | (simp; done) | assumption) [↓evOp_build, ↓evOp_bslice, rhoP_nil, rhoP_cons, evCode_skip, evCode_region, evCode_draw, evCode_seq, evCode_cond, evCode_block, evCode_loop, evCode_exit, evCode_ret, seqK_ite, seqK_none, seqK_norm, seqK_ret, seqK_exit, seqK_pan, condK_true, condK_false, condK_bool, blockK_ite, blockK_none, blockK_norm, blockK_ret, blockK_exit, blockK_pan, stepK_ite, stepK_none, stepK_ok, stepK_pan, drawK_ite, drawK_none, drawK_ok, drawK_pan, opK_ite, opK_none, opK_val, opK_pan, wantK_true, wantK_false, wantK_some, afterRegion_ite, afterDraw_ite, fromBody_ite, ite_bool, ite_int, stepA_K, doOp, noOp, lexA_nil, lexA_cons, lexF_nil, lexF_cons, afterDraw, noClash, FP.clash, wantedA, evOp, rho, rhoL, ofC0, ofC, argsA, upd, afterRegion, putA, goOp, evBin_add, evBin_sub, evBin_mul, evBin_quo, evBin_rem, evBin_eql, evBin_neq, evBin_lss, evBin_leq, evBin_gtr, evBin_geq, evBin_eqlB, evBin_neqB, evBin_addS, evBin_eqlS, evBin_neqS, evBin_lssS, evBin_leqS, evUn, evConv, evIndex, evBuiltin, evLen, evMin2, evMax2, evCallee, evBox, evLoad, evStore, evFieldAddr, evField, evIndexAddr, evBuild, evBuildSlice, evElems, evSlice, nth, rdc, wrc, fromBody, resA, finRet, oneOf, AV.cells?, AV.isCell, fin_int, fin_bool, fin_str, Try.f21, E_esc, k24, c24, a24, z24, i24, bq48, ha1, hc1, ht1, ha2, hc2, ht2, hC, hS, hL, hf, bne]
  · have hc0 : (c == 0) = false := by simp; exact fun e => h (hc.1 e)
    have hL := ev_Clone x.size x (Nat.le_refl _) (by omega) (n + 1) (by omega) S
    rw [← ofX_neg h] at hL
    rw [emb_cells] at hC hf
    rw [emb_cells, emb_cells (ofX x)] at hL
    rw [emb_cells, emb_cells (ofX x)]
    generalize (ofX x).cells = C2 at *
    generalize x.cells = C1 at *
    simp (disch := first | (simp only [List.length_append, List.length_cons, List.length_nil]; omega) | (simp; done) | assumption) [↓evOp_build, ↓evOp_bslice, rhoP_nil, rhoP_cons, evCode_skip, evCode_region, evCode_draw, evCode_seq, evCode_cond, evCode_block, evCode_loop, evCode_exit, evCode_ret, seqK_ite, seqK_none, seqK_norm, seqK_ret, seqK_exit, seqK_pan, condK_true, condK_false, condK_bool, blockK_ite, blockK_none, blockK_norm, blockK_ret, blockK_exit, blockK_pan, stepK_ite, stepK_none, stepK_ok, stepK_pan, drawK_ite, drawK_none, drawK_ok, drawK_pan, opK_ite, opK_none, opK_val, opK_pan, wantK_true, wantK_false, wantK_some, afterRegion_ite, afterDraw_ite, fromBody_ite, ite_bool, ite_int, stepA_K, doOp, noOp, lexA_nil, lexA_cons, lexF_nil, lexF_cons, afterDraw, noClash, FP.clash, wantedA, evOp, rho, rhoL, ofC0, ofC, argsA, upd, afterRegion, putA, goOp, evBin_add, evBin_sub, evBin_mul, evBin_quo, evBin_rem, evBin_eql, evBin_neq, evBin_lss, evBin_leq, evBin_gtr, evBin_geq, evBin_eqlB, evBin_neqB, evBin_addS, evBin_eqlS, evBin_neqS, evBin_lssS, evBin_leqS, evUn, evConv, evIndex, evBuiltin, evLen, evMin2, evMax2, evCallee, evBox, evLoad, evStore, evFieldAddr, evField, evIndexAddr, evBuild, evBuildSlice, evElems, evSlice, nth, rdc, wrc, fromBody, resA, finRet, oneOf, AV.cells?, AV.isCell, fin_int, fin_bool, fin_str, Try.f21, E_esc, k24, c24, a24, z24, i24, bq48, ha1, hc1, ht1, ha2, hc2, ht2, hC, hL, hf, bne, hc0]

set_option maxHeartbeats 4000000 in
theorem ev_Not (n : Nat) (x : X) (hb : x.bulk ≤ 1048576) (hn : 1400000 ≤ n) (S : St) : ev Try.prog E (n + 2) 22 [x.emb] S = some (.ret (notX x).emb, S) := by
  have hsz := size7 x
  obtain ⟨c, hC, hc⟩ := ev_aCheck n x (by omega) hb S
  have ha1 := cells_all x
  have hc1 := (cells_ok x).2
  have ht1 : List.take 6 x.cells = x.cells := List.take_of_length_le (by omega)
  have hf := fin_emb (notX x) S
  have ha2 := cells_all (notX x)
  have hc2 := (cells_ok (notX x)).2
  have ht2 : List.take 6 (notX x).cells = (notX x).cells := List.take_of_length_le (by omega)
  rw [show n + 2 = (n + 1) + 1 from rfl, ev_enter (n := n + 1) (show E.ok 22 = true from rfl) Try.func22 (fn := Try.f22) rfl (Nat.le_of_ble_eq_true rfl) (by decide +kernel)]
  by_cases h : OKx x
  · have hc0 : c = 0 := hc.2 h
    subst hc0
    have hsb := sim_bulk h
    have hsz2 := size7 x.sim
    have hsz3 := size7 x.sim.neg
    have hkb := ok_bulk h
    have hS := ev_sim x.size x (Nat.le_refl _) hb (ok_shp h) (ok_gd h) (n + 1) (by omega) S
    have hN := ev_neg x.sim.size x.sim (Nat.le_refl _) (shp_sim _ x (Nat.le_refl _) (ok_shp h)) (n + 1) (by omega) S
    have hL := ev_Clone x.sim.neg.size x.sim.neg (Nat.le_refl _) (by omega) (n + 1) (by omega) S
    rw [← notX_pos h] at hL
    rw [emb_cells] at hC hf
    rw [emb_cells, emb_cells x.sim] at hS
    rw [emb_cells, emb_cells x.sim.neg] at hN
    rw [emb_cells, emb_cells (notX x)] at hL
    rw [emb_cells, emb_cells (notX x)]
    generalize (notX x).cells = C2 at *
    generalize x.sim.neg.cells = C4 at *
    generalize x.sim.cells = C3 at *
    generalize x.cells = C1 at *
    simp (disch := first | (simp only [List.length_append, List.length_cons, List.length_nil]; omega) | (simp; done) | assumption) [↓evOp_build, ↓evOp_bslice, rhoP_nil, rhoP_cons, evCode_skip, evCode_region, evCode_draw, evCode_seq, evCode_cond, evCode_block, evCode_loop, evCode_exit, evCode_ret, seqK_ite, seqK_none, seqK_norm, seqK_ret, seqK_exit, seqK_pan, condK_true, condK_false, condK_bool, blockK_ite, blockK_none, blockK_norm, blockK_ret, blockK_exit, blockK_pan, stepK_ite, stepK_none, stepK_ok, stepK_pan, drawK_ite, drawK_none, drawK_ok, drawK_pan, opK_ite, opK_none, opK_val, opK_pan, wantK_true, wantK_false, wantK_some, afterRegion_ite, afterDraw_ite, fromBody_ite, ite_bool, ite_int, stepA_K, doOp, noOp, lexA_nil, lexA_cons, lexF_nil, lexF_cons, afterDraw, noClash, FP.clash, wantedA, evOp, rho, rhoL, ofC0, ofC, argsA, upd, afterRegion, putA, goOp, evBin_add, evBin_sub, evBin_mul, evBin_quo, evBin_rem, evBin_eql, evBin_neq, evBin_lss, evBin_leq, evBin_gtr, evBin_geq, evBin_eqlB, evBin_neqB, evBin_addS, evBin_eqlS, evBin_neqS, evBin_lssS, evBin_leqS, evUn, evConv, evIndex, evBuiltin, evLen, evMin2, evMax2, evCallee, evBox, evLoad, evStore, evFieldAddr, evField, evIndexAddr, evBuild, evBuildSlice, evElems, evSlice, nth, rdc, wrc, fromBody, resA, finRet, oneOf, AV.cells?, AV.isCell, fin_int, fin_bool, fin_str, Try.f22, E_esc, k24, c24, a24, z24, i24, bq48, ha1, hc1, ht1, ha2, hc2, ht2, hC, hS, hN, hL, hf, bne]
  · have hc0 : (c == 0) = false := by simp; exact fun e => h (hc.1 e)
    have hL := ev_Clone x.size x (Nat.le_refl _) (by omega) (n + 1) (by omega) S
    rw [← notX_neg h] at hL
    rw [emb_cells] at hC hf
    rw [emb_cells, emb_cells (notX x)] at hL
    rw [emb_cells, emb_cells (notX x)]
    generalize (notX x).cells = C2 at *
    generalize x.cells = C1 at *
    simp (disch := first | (simp only [List.length_append, List.length_cons, List.length_nil]; omega) | (simp; done) | assumption) [↓evOp_build, ↓evOp_bslice, rhoP_nil, rhoP_cons, evCode_skip, evCode_region, evCode_draw, evCode_seq, evCode_cond, evCode_block, evCode_loop, evCode_exit, evCode_ret, seqK_ite, seqK_none, seqK_norm, seqK_ret, seqK_exit, seqK_pan, condK_true, condK_false, condK_bool, blockK_ite, blockK_none, blockK_norm, blockK_ret, blockK_exit, blockK_pan, stepK_ite, stepK_none, stepK_ok, stepK_pan, drawK_ite, drawK_none, drawK_ok, drawK_pan, opK_ite, opK_none, opK_val, opK_pan, wantK_true, wantK_false, wantK_some, afterRegion_ite, afterDraw_ite, fromBody_ite, ite_bool, ite_int, stepA_K, doOp, noOp, lexA_nil, lexA_cons, lexF_nil, lexF_cons, afterDraw, noClash, FP.clash, wantedA, evOp, rho, rhoL, ofC0, ofC, argsA, upd, afterRegion, putA, goOp, evBin_add, evBin_sub, evBin_mul, evBin_quo, evBin_rem, evBin_eql, evBin_neq, evBin_lss, evBin_leq, evBin_gtr, evBin_geq, evBin_eqlB, evBin_neqB, evBin_addS, evBin_eqlS, evBin_neqS, evBin_lssS, evBin_leqS, evUn, evConv, evIndex, evBuiltin, evLen, evMin2, evMax2, evCallee, evBox, evLoad, evStore, evFieldAddr, evField, evIndexAddr, evBuild, evBuildSlice, evElems, evSlice, nth, rdc, wrc, fromBody, resA, finRet, oneOf, AV.cells?, AV.isCell, fin_int, fin_bool, fin_str, Try.f22, E_esc, k24, c24, a24, z24, i24, bq48, ha1, hc1, ht1, ha2, hc2, ht2, hC, hL, hf, bne, hc0]

theorem ev_Is (n : Nat) (x : X) (hb : x.bulk ≤ 1048576) (hn : 1400000 ≤ n) (S : St) : ev Try.prog E (n + 3) 23 [x.emb] S = some (.ret (.bool ((ofX x).same x)), S) := by
  have hsz := size7 x
  have hob := of_bulk hb
  have hsz2 := size7 (ofX x)
  have hO := ev_Of n x hb hn S
  have hS := ev_aSame (ofX x).size (ofX x) x (Nat.le_refl _) (by omega) (by omega) (n + 2) (by omega) S
  have ha1 := cells_all x
  have hc1 := (cells_ok x).2
  have ht1 : List.take 6 x.cells = x.cells := List.take_of_length_le (by omega)
  have hps : E.ps 23 1 = [(0, 2), (1, 2)] := rfl
  rw [show n + 3 = (n + 2) + 1 from rfl, ev_enter (n := n + 2) (show E.ok 23 = true from rfl) Try.func23 (fn := Try.f23) rfl (Nat.le_of_ble_eq_true rfl) (by decide +kernel)]
  rw [emb_cells] at hO
  rw [emb_cells x] at hS ⊢
  generalize (ofX x).emb = eo at *
  generalize x.cells = C1 at *
  simp (disch := first | (simp only [List.length_append, List.length_cons, List.length_nil]; omega) | (simp; done) | assumption) [↓evOp_build, ↓evOp_bslice, rhoP_nil, rhoP_cons, evCode_skip, evCode_region, evCode_draw, evCode_seq, evCode_cond, evCode_block, evCode_loop, evCode_exit, evCode_ret, seqK_ite, seqK_none, seqK_norm, seqK_ret, seqK_exit, seqK_pan, condK_true, condK_false, condK_bool, blockK_ite, blockK_none, blockK_norm, blockK_ret, blockK_exit, blockK_pan, stepK_ite, stepK_none, stepK_ok, stepK_pan, drawK_ite, drawK_none, drawK_ok, drawK_pan, opK_ite, opK_none, opK_val, opK_pan, wantK_true, wantK_false, wantK_some, afterRegion_ite, afterDraw_ite, fromBody_ite, ite_bool, ite_int, stepA_K, doOp, noOp, lexA_nil, lexA_cons, lexF_nil, lexF_cons, afterDraw, noClash, FP.clash, wantedA, evOp, rho, rhoL, ofC0, ofC, argsA, upd, afterRegion, putA, goOp, evBin_add, evBin_sub, evBin_mul, evBin_quo, evBin_rem, evBin_eql, evBin_neq, evBin_lss, evBin_leq, evBin_gtr, evBin_geq, evBin_eqlB, evBin_neqB, evBin_addS, evBin_eqlS, evBin_neqS, evBin_lssS, evBin_leqS, evUn, evConv, evIndex, evBuiltin, evLen, evMin2, evMax2, evCallee, evBox, evLoad, evStore, evFieldAddr, evField, evIndexAddr, evBuild, evBuildSlice, evElems, evSlice, nth, rdc, wrc, fromBody, resA, finRet, oneOf, AV.cells?, AV.isCell, fin_int, fin_bool, fin_str, Try.f23, E_esc, k24, c24, a24, hO, hS, ha1, hc1, ht1, hps]
end Go.Proofs.Ytemggoaefohliaa.NF

/- The page's simple: its kinds, its parts, evaluated. No condition. -/
namespace Go.Proofs.Ytemggoaefohliaa.NF
set_option linter.unusedVariables false
set_option linter.unusedSimpArgs false
open Go AE EX PT
set_option maxRecDepth 100000

mutual
def _root_.Go.Proofs.Ytemggoaefohliaa.EX.X.ref : X → Bool → X
  | .mk k nm n lo hi tk l, b =>
    if k = 18 then hdX (refLX l (!b)) else if k = 19 ∨ k = 20 then bothX (if b then turn k else k) (hdX (refLX l b)) (hd2X (refLX l b))
    else if k = 22 ∨ k = 23 then .mk (if b then turn k else k) [] 0 lo hi true [hdX (refLX l b)]
    else if k = 2 ∧ b = true then .mk 2 [] (1 - n) 0 0 true []
    else if b = true then .mk 18 [] 0 0 0 true [if k = 4 then .mk k nm n lo hi tk l else .mk k nm n lo hi l.isEmpty (refLX l false)]
    else if k = 4 then .mk k nm n lo hi tk l else .mk k nm n lo hi l.isEmpty (refLX l false)
def refLX : List X → Bool → List X
  | [], _ => []
  | a :: l, b => a.ref b :: refLX l b
end
mutual
theorem ref_y : ∀ (x : X) (b : Bool), (x.ref b).toY = x.toY.ref b
  | .mk k nm n lo hi tk l, b => by
    have h1 := refL_y l b
    have h2 := refL_y l (!b)
    have h3 := refL_y l false
    simp only [X.ref, X.toY, Y.ref, ite_toY, hdX_y, hd2X_y, bothX_y, yL, h1, h2, h3]
theorem refL_y : ∀ (l : List X) (b : Bool), yL (refLX l b) = refL (yL l) b
  | [], _ => rfl
  | x :: l, b => by simp only [refLX, yL, refL, ref_y x b, refL_y l b]
end
theorem refLX_map (b : Bool) : ∀ l : List X, refLX l b = l.map fun x => x.ref b
  | [] => rfl
  | x :: l => by simp [refLX, refLX_map b l]

theorem c50 : Try.prog.cellsOf 50 = 4 := by kernel_rfl
theorem a50 : aggQ Try.prog 50 = true := by kernel_rfl
theorem k50 : knownQ Try.prog 50 = true := by kernel_rfl
theorem i50 : (Try.prog.info? 50).isSome = true := by kernel_rfl
theorem z50 : zeroQ Try.prog 50 = some [.int .i64 0, .int .i64 0, .int .i64 0, .int .i64 0] := by kernel_rfl
theorem q50 : arrQ Try.prog 50 = some (4, 3) := by kernel_rfl
theorem sq50 : sliceQ Try.prog 50 = none := by kernel_rfl
theorem pq50 : partsQ Try.prog 50 = true := by kernel_rfl
theorem p50 (i : Nat) : placeQ Try.prog 50 i = some (i * 1, 1) := by
  have u : Try.prog.underlying 50 = some (.array 4 3) := by kernel_rfl
  simp [placeQ, u, c3]
theorem bd50 (a b c d : Int) : evBuild Try.prog 50 [(0, .int .i64 a), (1, .int .i64 b), (2, .int .i64 c), (3, .int .i64 d)] = some (.agg [.int .i64 a, .int .i64 b, .int .i64 c, .int .i64 d]) := by
  simp [evBuild, pq50, z50, fillA, p50, AV.cells?, wrc]
theorem bsC {C : List AV} (h1 : C.all AV.isCell = true) (h2 : C.length = 6) : evBuildSlice Try.prog 22 1 [(0, .agg C)] = some (.slice [.agg C] .clip) := by
  simp [evBuildSlice, sq22, z24, c24, a24, evElems, AV.cells?, h1, h2]

/-! ### which kind it becomes -/
def kA (b : Bool) (k : Int) (i : Nat) : Int := if b = true ∧ ((k = 19 ∧ 1 ≤ i) ∨ (k = 20 ∧ 2 ≤ i) ∨ (k = 22 ∧ 3 ≤ i) ∨ (k = 23 ∧ 4 ≤ i)) then turn k else k
theorem kA_0 (b : Bool) (k : Int) : kA b k 0 = k := by unfold kA; rw [if_neg (fun g => by have := g.2; omega)]
theorem kA_4 (b : Bool) (k : Int) : kA b k 4 = if b then turn k else k := by
  unfold kA
  cases b
  · simp
  · by_cases h : k = 19 ∨ k = 20 ∨ k = 22 ∨ k = 23
    · rw [if_pos ⟨rfl, by omega⟩]; rfl
    · rw [if_neg (fun g => h (by have := g.2; omega))]
      have t0 : turn k = k := by unfold turn; rw [if_neg (by omega), if_neg (by omega), if_neg (by omega), if_neg (by omega)]
      simp [t0]

noncomputable def rfLoop : Code := cutC (bodyOf Try.f24) [1, 1, 1, 1, 0, 1, 0, 0]
noncomputable def rf0 : Code := cutC (bodyOf Try.f24) [0]
noncomputable def rf1 : Code := cutC (bodyOf Try.f24) [1, 0]
noncomputable def rf2 : Code := cutC (bodyOf Try.f24) [1, 1, 0]
noncomputable def rf3 : Code := cutC (bodyOf Try.f24) [1, 1, 1, 0]
noncomputable def rf4 : Code := cutC (bodyOf Try.f24) [1, 1, 1, 1, 0, 0]
noncomputable def rfA : Code := cutC (bodyOf Try.f24) [1, 1, 1, 1, 1, 0]
noncomputable def rfB : Code := cutC (bodyOf Try.f24) [1, 1, 1, 1, 1, 1, 0]
noncomputable def rfC : Code := cutC (bodyOf Try.f24) [1, 1, 1, 1, 1, 1, 1, 0]
noncomputable def rfD : Code := cutC (bodyOf Try.f24) [1, 1, 1, 1, 1, 1, 1, 1, 0]
noncomputable def rfE : Code := cutC (bodyOf Try.f24) [1, 1, 1, 1, 1, 1, 1, 1, 1, 0]
noncomputable def rfF0 : Code := cutC (bodyOf Try.f24) [1, 1, 1, 1, 1, 1, 1, 1, 1, 1, 0, 0]
noncomputable def rfF1 : Code := cutC (bodyOf Try.f24) [1, 1, 1, 1, 1, 1, 1, 1, 1, 1, 0, 1, 0, 0]
noncomputable def rfF2 : Code := cutC (bodyOf Try.f24) [1, 1, 1, 1, 1, 1, 1, 1, 1, 1, 0, 1, 0, 1, 0]
noncomputable def rfM : Code := cutC (bodyOf Try.f24) [1, 1, 1, 1, 1, 1, 1, 1, 1, 1, 0, 1, 0, 1, 1, 0, 0]
noncomputable def rfG : Code := cutC (bodyOf Try.f24) [1, 1, 1, 1, 1, 1, 1, 1, 1, 1, 1]
noncomputable def rfF : Code := .seq rfF0 (.cond (.tmp 97) (.seq rfF1 (.seq rfF2 (.block 2 (.loop rfM)))) .skip)
theorem f24b : Try.f24.body = some (.seq rf0 (.seq rf1 (.seq rf2 (.seq rf3 (.seq (.seq rf4 (.block 0 (.loop rfLoop))) (.seq rfA (.seq rfB (.seq rfC (.seq rfD (.seq rfE (.seq rfF rfG))))))))))) := rfl

def Z24 : List AV := [.int .i64 0, .str [], .int .i64 0, .int .i64 0, .int .i64 0, .slice [] .clip]
/-- what is known all along -/
def RK (n : Nat) (C : List AV) (b : Bool) (fs : FS) : Prop :=
  fs.t 1 = .bool b ∧ fs.t 2 = .loc n 2 1 0 ∧ fs.b 2 = (1, C) ∧ fs.t 4 = .loc n 4 2 0 ∧ fs.b 4 = (2, [.int .i64 0, .str [], .int .i64 0, .int .i64 0, .int .i64 0, .slice [] .clip])
def RI (n : Nat) (C : List AV) (b : Bool) (k : Int) (S0 : St) (i : Nat) (fs : FS) : Prop :=
  RK n C b fs ∧ fs.t 5 = .loc n 5 4 0 ∧ fs.b 5 = (4, [.int .i64 19, .int .i64 20, .int .i64 22, .int .i64 23]) ∧ fs.t 6 = .loc n 6 7 0 ∧ fs.b 6 = (7, [.int .i64 20, .int .i64 19, .int .i64 23, .int .i64 22]) ∧
    fs.t 7 = .int .i64 (kA b k i) ∧ fs.t 8 = .int .i64 i ∧ fs.S = S0

set_option maxHeartbeats 4000000 in
theorem rf_round (n : Nat) (k : Int) (c1 c2 c3' c4 c5' : AV) (b : Bool) (S0 : St) (i : Nat) (hi : i < 4) (fs : FS) (h : RI n [.int .i64 k, c1, c2, c3', c4, c5'] b k S0 i fs) :
    ∃ fs', evCode ⟨Try.prog, E.esc 24, n⟩ (ev Try.prog E n) (E.ps 24) n rfLoop fs = some (.norm, fs') ∧ RI n [.int .i64 k, c1, c2, c3', c4, c5'] b k S0 (i + 1) fs' := by
  obtain ⟨t, bx, v, S⟩ := fs
  obtain ⟨⟨h1, h2, h3, h4, h5⟩, h6, h7, h8, h9, h10, h11, h12⟩ := h
  simp only at h1 h2 h3 h4 h5 h6 h7 h8 h9 h10 h11 h12
  subst h12
  have hps : E.ps 24 7 = [(3, 6)] := rfl
  have hw : ∀ j : Int, (j = 0 ∨ j = 1 ∨ j = 2 ∨ j = 3) → IntKind.i64.wrap (j + 1) = j + 1 := fun j hj => wrap64 _ (by omega)
  cases b
  · have hk : kA false k i = kA false k (i + 1) := by simp [kA]
    rcases (show i = 0 ∨ i = 1 ∨ i = 2 ∨ i = 3 by omega) with rfl | rfl | rfl | rfl <;>
    · refine ⟨_, by
        simp (disch := first | (simp only [List.length_append, List.length_cons, List.length_nil]; omega) | (simp; done) | assumption) [↓evOp_build, ↓evOp_bslice, rhoP_nil, rhoP_cons, evCode_skip, evCode_region, evCode_draw, evCode_seq, evCode_cond, evCode_block, evCode_loop, evCode_exit, evCode_ret, seqK_ite, seqK_none, seqK_norm, seqK_ret, seqK_exit, seqK_pan, condK_true, condK_false, condK_bool, blockK_ite, blockK_none, blockK_norm, blockK_ret, blockK_exit, blockK_pan, stepK_ite, stepK_none, stepK_ok, stepK_pan, drawK_ite, drawK_none, drawK_ok, drawK_pan, opK_ite, opK_none, opK_val, opK_pan, wantK_true, wantK_false, wantK_some, afterRegion_ite, afterDraw_ite, fromBody_ite, ite_bool, ite_int, stepA_K, doOp, noOp, lexA_nil, lexA_cons, lexF_nil, lexF_cons, afterDraw, noClash, FP.clash, wantedA, evOp, rho, rhoL, ofC0, ofC, argsA, upd, afterRegion, putA, goOp, evBin_add, evBin_sub, evBin_mul, evBin_quo, evBin_rem, evBin_eql, evBin_neq, evBin_lss, evBin_leq, evBin_gtr, evBin_geq, evBin_eqlB, evBin_neqB, evBin_addS, evBin_eqlS, evBin_neqS, evBin_lssS, evBin_leqS, evUn, evConv, evIndex, evBuiltin, evLen, evMin2, evMax2, evCallee, evBox, evLoad, evStore, evFieldAddr, evField, evIndexAddr, evBuild, evBuildSlice, evElems, evSlice, nth, rdc, wrc, fromBody, resA, finRet, oneOf, AV.cells?, AV.isCell, fin_int, fin_bool, fin_str, rfLoop, cutC, bodyOf, Try.f24, E_esc, h1, h2, h3, h4, h5, h6, h7, h8, h9, h11, fq0, k3, c3, a3, bq3, hps]
        rfl, ⟨by simp [upd, h1], by simp [upd, h2], by simp [upd, h3], by simp [upd, h4], by simp [upd, h5]⟩, by simp [upd, h6], by simp [upd, h7], by simp [upd, h8], by simp [upd, h9], by rw [← hk]; simp [upd, h10], by simp [upd, wrap64], rfl⟩
  · have go : ∀ (j j' : Int), (k = j → kA true k (i + 1) = j') → (k ≠ j → kA true k (i + 1) = kA true k i) → turn j = j' →
        (i = 0 ∧ j = 19 ∧ j' = 20) ∨ (i = 1 ∧ j = 20 ∧ j' = 19) ∨ (i = 2 ∧ j = 22 ∧ j' = 23) ∨ (i = 3 ∧ j = 23 ∧ j' = 22) →
        ∃ fs', evCode ⟨Try.prog, E.esc 24, n⟩ (ev Try.prog E n) (E.ps 24) n rfLoop ⟨t, bx, v, S⟩ = some (.norm, fs') ∧ RI n [.int .i64 k, c1, c2, c3', c4, c5'] true k S (i + 1) fs' := by
      intro j j' hj hnj _ hc
      by_cases hkj : k = j
      · have hk := hj hkj
        rcases hc with ⟨rfl, rfl, rfl⟩ | ⟨rfl, rfl, rfl⟩ | ⟨rfl, rfl, rfl⟩ | ⟨rfl, rfl, rfl⟩ <;> subst hkj <;>
        · refine ⟨_, by
            simp (disch := first | (simp only [List.length_append, List.length_cons, List.length_nil]; omega) | (simp; done) | assumption) [↓evOp_build, ↓evOp_bslice, rhoP_nil, rhoP_cons, evCode_skip, evCode_region, evCode_draw, evCode_seq, evCode_cond, evCode_block, evCode_loop, evCode_exit, evCode_ret, seqK_ite, seqK_none, seqK_norm, seqK_ret, seqK_exit, seqK_pan, condK_true, condK_false, condK_bool, blockK_ite, blockK_none, blockK_norm, blockK_ret, blockK_exit, blockK_pan, stepK_ite, stepK_none, stepK_ok, stepK_pan, drawK_ite, drawK_none, drawK_ok, drawK_pan, opK_ite, opK_none, opK_val, opK_pan, wantK_true, wantK_false, wantK_some, afterRegion_ite, afterDraw_ite, fromBody_ite, ite_bool, ite_int, stepA_K, doOp, noOp, lexA_nil, lexA_cons, lexF_nil, lexF_cons, afterDraw, noClash, FP.clash, wantedA, evOp, rho, rhoL, ofC0, ofC, argsA, upd, afterRegion, putA, goOp, evBin_add, evBin_sub, evBin_mul, evBin_quo, evBin_rem, evBin_eql, evBin_neq, evBin_lss, evBin_leq, evBin_gtr, evBin_geq, evBin_eqlB, evBin_neqB, evBin_addS, evBin_eqlS, evBin_neqS, evBin_lssS, evBin_leqS, evUn, evConv, evIndex, evBuiltin, evLen, evMin2, evMax2, evCallee, evBox, evLoad, evStore, evFieldAddr, evField, evIndexAddr, evBuild, evBuildSlice, evElems, evSlice, nth, rdc, wrc, fromBody, resA, finRet, oneOf, AV.cells?, AV.isCell, fin_int, fin_bool, fin_str, rfLoop, cutC, bodyOf, Try.f24, E_esc, h1, h2, h3, h4, h5, h6, h7, h8, h9, h11, fq0, k3, c3, a3, i3, bq3, hps, sq50, q50]
            rfl, ⟨by simp [upd, h1], by simp [upd, h2], by simp [upd, h3], by simp [upd, h4], by simp [upd, h5]⟩, by simp [upd, h6], by simp [upd, h7], by simp [upd, h8], by simp [upd, h9], by rw [hk]; simp [upd], by simp [upd, wrap64], rfl⟩
      · have hk := hnj hkj
        rcases hc with ⟨rfl, rfl, rfl⟩ | ⟨rfl, rfl, rfl⟩ | ⟨rfl, rfl, rfl⟩ | ⟨rfl, rfl, rfl⟩ <;>
        · refine ⟨_, by
            simp (disch := first | (simp only [List.length_append, List.length_cons, List.length_nil]; omega) | (simp; done) | assumption) [↓evOp_build, ↓evOp_bslice, rhoP_nil, rhoP_cons, evCode_skip, evCode_region, evCode_draw, evCode_seq, evCode_cond, evCode_block, evCode_loop, evCode_exit, evCode_ret, seqK_ite, seqK_none, seqK_norm, seqK_ret, seqK_exit, seqK_pan, condK_true, condK_false, condK_bool, blockK_ite, blockK_none, blockK_norm, blockK_ret, blockK_exit, blockK_pan, stepK_ite, stepK_none, stepK_ok, stepK_pan, drawK_ite, drawK_none, drawK_ok, drawK_pan, opK_ite, opK_none, opK_val, opK_pan, wantK_true, wantK_false, wantK_some, afterRegion_ite, afterDraw_ite, fromBody_ite, ite_bool, ite_int, stepA_K, doOp, noOp, lexA_nil, lexA_cons, lexF_nil, lexF_cons, afterDraw, noClash, FP.clash, wantedA, evOp, rho, rhoL, ofC0, ofC, argsA, upd, afterRegion, putA, goOp, evBin_add, evBin_sub, evBin_mul, evBin_quo, evBin_rem, evBin_eql, evBin_neq, evBin_lss, evBin_leq, evBin_gtr, evBin_geq, evBin_eqlB, evBin_neqB, evBin_addS, evBin_eqlS, evBin_neqS, evBin_lssS, evBin_leqS, evUn, evConv, evIndex, evBuiltin, evLen, evMin2, evMax2, evCallee, evBox, evLoad, evStore, evFieldAddr, evField, evIndexAddr, evBuild, evBuildSlice, evElems, evSlice, nth, rdc, wrc, fromBody, resA, finRet, oneOf, AV.cells?, AV.isCell, fin_int, fin_bool, fin_str, rfLoop, cutC, bodyOf, Try.f24, E_esc, h1, h2, h3, h4, h5, h6, h7, h8, h9, h11, fq0, k3, c3, a3, i3, bq3, hps, sq50, q50, hkj]
            rfl, ⟨by simp [upd, h1], by simp [upd, h2], by simp [upd, h3], by simp [upd, h4], by simp [upd, h5]⟩, by simp [upd, h6], by simp [upd, h7], by simp [upd, h8], by simp [upd, h9], by rw [hk]; simp [upd, h10], by simp [upd, wrap64], rfl⟩
    rcases (show i = 0 ∨ i = 1 ∨ i = 2 ∨ i = 3 by omega) with rfl | rfl | rfl | rfl
    · exact go 19 20 (fun h => by subst h; simp [kA, turn]) (fun h => by simp only [kA]; congr 1; simp; omega) rfl (by omega)
    · exact go 20 19 (fun h => by subst h; simp [kA, turn]) (fun h => by simp only [kA]; congr 1; simp; omega) rfl (by omega)
    · exact go 22 23 (fun h => by subst h; simp [kA, turn]) (fun h => by simp only [kA]; congr 1; simp; omega) rfl (by omega)
    · exact go 23 22 (fun h => by subst h; simp [kA, turn]) (fun h => by simp only [kA]; congr 1; simp; omega) rfl (by omega)
end Go.Proofs.Ytemggoaefohliaa.NF

/- The page's simple, evaluated. No condition. -/
namespace Go.Proofs.Ytemggoaefohliaa.NF
set_option linter.unusedVariables false
set_option linter.unusedSimpArgs false
open Go AE EX PT
set_option maxRecDepth 100000

/-- an expression's cells, with any kids -/
def XC (k : Int) (nm : List UInt8) (a lo hi : Int) (kk : AV) : List AV := [.int .i64 k, .str nm, .int .i64 a, .int .i64 lo, .int .i64 hi, kk]
theorem fin_aggN (k : Int) (nm : List UInt8) (n lo hi : Int) (l : List X) (S : St) (p : Nat) :
    finish S (.agg [.int .i64 18, .str [], .int .i64 0, .int .i64 0, .int .i64 0, .slice [.agg [.int .i64 k, .str nm, .int .i64 n, .int .i64 lo, .int .i64 hi, .slice (embL l) (.own S.T.length p)]] .clip]) ⟨S.H, S.T ++ [p]⟩ = some ((X.mk 18 [] 0 0 0 true [X.mk k nm n lo hi false l]).emb, S) := by
  unfold finish
  simp [X.emb, embL, tokOf, AV.sealed, AV.sealedL, AV.strip, AV.stripL, AV.low, AV.lowL, boxEqL_refl, sealed_embL, strip_embL, low_embL]

/-- what is made: its kids in a slice of the function's own, or none -/
def MI (n : Nat) (k : Int) (nm : List UInt8) (a lo hi : Int) (tk : Bool) (kids : List X) (b : Bool) (ver : Nat) (S0 : St) (i : Nat) (fs : FS) : Prop :=
  RK n (XC k nm a lo hi (.slice (embL kids) (tokOf tk))) b fs ∧ fs.t 9 = .loc n 9 ver 0 ∧ fs.t 10 = .int .i64 i ∧ ∃ v, fs.b 9 = (ver, XC k nm a lo hi v) ∧
    (if i = 0 then v = .slice (embL []) .clip ∧ fs.S = S0 else ∃ p, v = .slice (embL (refLX (kids.take i) false)) (.own S0.T.length p) ∧ fs.S = ⟨S0.H, S0.T ++ [p]⟩)

set_option maxHeartbeats 4000000 in
theorem rm_round (n : Nat) (k : Int) (nm : List UInt8) (a lo hi' : Int) (tk : Bool) (kids : List X) (b : Bool) (ver : Nat) (hver : ver ≠ 0) (S0 : St) (hs : kids.length ≤ 1048576)
    (hrec : ∀ x ∈ kids, ∀ S, ev Try.prog E n 24 [x.emb, .bool false] S = some (.ret (x.ref false).emb, S)) (i : Nat) (hi : i < kids.length) (fs : FS) (h : MI n k nm a lo hi' tk kids b ver S0 i fs) :
    ∃ fs', evCode ⟨Try.prog, E.esc 24, n⟩ (ev Try.prog E n) (E.ps 24) n rfM fs = some (.norm, fs') ∧ MI n k nm a lo hi' tk kids b ver S0 (i + 1) fs' := by
  obtain ⟨t, bx, v, S⟩ := fs
  obtain ⟨⟨h1, h2, h3, h4, h5⟩, h6, h7, v9, h8, h9⟩ := h
  simp only [XC] at h1 h2 h3 h4 h5 h6 h7 h8 h9
  have hlen := embL_length kids
  have hltz : (i : Int) < kids.length := by omega
  have hxe : kids[i]? = some kids[i] := List.getElem?_eq_getElem hi
  have hr := hrec kids[i] (List.getElem_mem hi) S
  have hcl : refLX (kids.take (i + 1)) false = refLX (kids.take i) false ++ [kids[i].ref false] := by rw [refLX_map, refLX_map, List.take_add_one, hxe, List.map_append]; rfl
  have hclen : (refLX (kids.take i) false).length ≤ 1048576 := by rw [refLX_map]; simp; omega
  have hemb : (embL kids)[i]? = some kids[i].emb := by rw [embL_map, List.getElem?_map, hxe]; rfl
  have ha1 := cells_all kids[i]
  have hc1 := (cells_ok kids[i]).2
  have ht1 : List.take 6 kids[i].cells = kids[i].cells := List.take_of_length_le (by omega)
  have hbs := bs1 (kids[i].ref false)
  have hw : IntKind.i64.wrap ((i : Int) + 1) = (i : Int) + 1 := wrap64 _ (by omega)
  have hps : E.ps 24 23 = [(1, 3), (1, 6), (1, 7)] := rfl
  obtain ⟨z, hz⟩ := ii24
  rw [emb_cells] at hemb
  rw [emb_cells, emb_cells] at hr
  by_cases h0 : i = 0
  · subst h0
    rw [if_pos rfl] at h9
    obtain ⟨rfl, rfl⟩ := h9
    have ha := appC [] [kids[0].ref false] .clip S (by simp) (by simp) (by simp)
    generalize kids[0].ref false = y at *
    generalize y.cells = C2 at *
    generalize kids[0].cells = C1 at *
    generalize hE : embL [] = ee at *
    generalize hE1 : embL [y] = e1 at *
    generalize hEN : embL ([] ++ [y]) = eN at *
    generalize hkk : AV.slice (embL kids) (tokOf tk) = kk at *
    refine ⟨_, by
      simp (disch := first | (simp only [List.length_append, List.length_cons, List.length_nil]; omega) | (simp; done) | assumption) [↓evOp_build, ↓evOp_bslice, rhoP_nil, rhoP_cons, evCode_skip, evCode_region, evCode_draw, evCode_seq, evCode_cond, evCode_block, evCode_loop, evCode_exit, evCode_ret, seqK_ite, seqK_none, seqK_norm, seqK_ret, seqK_exit, seqK_pan, condK_true, condK_false, condK_bool, blockK_ite, blockK_none, blockK_norm, blockK_ret, blockK_exit, blockK_pan, stepK_ite, stepK_none, stepK_ok, stepK_pan, drawK_ite, drawK_none, drawK_ok, drawK_pan, opK_ite, opK_none, opK_val, opK_pan, wantK_true, wantK_false, wantK_some, afterRegion_ite, afterDraw_ite, fromBody_ite, ite_bool, ite_int, stepA_K, doOp, noOp, lexA_nil, lexA_cons, lexF_nil, lexF_cons, afterDraw, noClash, FP.clash, wantedA, evOp, rho, rhoL, ofC0, ofC, argsA, upd, afterRegion, putA, goOp, evBin_add, evBin_sub, evBin_mul, evBin_quo, evBin_rem, evBin_eql, evBin_neq, evBin_lss, evBin_leq, evBin_gtr, evBin_geq, evBin_eqlB, evBin_neqB, evBin_addS, evBin_eqlS, evBin_neqS, evBin_lssS, evBin_leqS, evUn, evConv, evIndex, evBuiltin, evLen, evMin2, evMax2, evCallee, evBox, evLoad, evStore, evFieldAddr, evField, evIndexAddr, evBuild, evBuildSlice, evElems, evSlice, nth, rdc, wrc, fromBody, resA, finRet, oneOf, AV.cells?, AV.isCell, fin_int, fin_bool, fin_str, -evBuildSlice, rfM, cutC, bodyOf, Try.f24, E_esc, h1, h2, h3, h4, h5, h6, h7, h8, ← hkk, hver, fq5, k22, c22, a22, i22, k24, c24, a24, z24, i24, hz, sq22, bq3, hlen, hi, hltz, hemb, hr, ha1, hc1, ht1, hbs, ha, hps]
      rfl, ⟨by simp [upd, h1], by simp [upd, h2], by simp [upd, h3, XC, hkk], by simp [upd, h4], by simp [upd, h5]⟩, by simp [upd, h6], by simp [upd, wrap64 1 (by omega)], .slice eN (.own S.T.length 6), by simp [upd, XC], ?_⟩
    rw [if_neg (by omega), hcl]
    refine ⟨6, ?_, rfl⟩
    simp only [List.take_zero, refLX]
    rw [hEN]
  · rw [if_neg h0] at h9
    obtain ⟨p, rfl, rfl⟩ := h9
    have ha := appO (refLX (kids.take i) false) [kids[i].ref false] .clip S0 p (by simp) hclen (by simp)
    generalize kids[i].ref false = y at *
    generalize y.cells = C2 at *
    generalize kids[i].cells = C1 at *
    generalize hE : embL (refLX (kids.take i) false) = ee at *
    generalize hE1 : embL [y] = e1 at *
    generalize hEN : embL (refLX (kids.take i) false ++ [y]) = eN at *
    generalize hkk : AV.slice (embL kids) (tokOf tk) = kk at *
    refine ⟨_, by
      simp (disch := first | (simp only [List.length_append, List.length_cons, List.length_nil]; omega) | (simp; done) | assumption) [↓evOp_build, ↓evOp_bslice, rhoP_nil, rhoP_cons, evCode_skip, evCode_region, evCode_draw, evCode_seq, evCode_cond, evCode_block, evCode_loop, evCode_exit, evCode_ret, seqK_ite, seqK_none, seqK_norm, seqK_ret, seqK_exit, seqK_pan, condK_true, condK_false, condK_bool, blockK_ite, blockK_none, blockK_norm, blockK_ret, blockK_exit, blockK_pan, stepK_ite, stepK_none, stepK_ok, stepK_pan, drawK_ite, drawK_none, drawK_ok, drawK_pan, opK_ite, opK_none, opK_val, opK_pan, wantK_true, wantK_false, wantK_some, afterRegion_ite, afterDraw_ite, fromBody_ite, ite_bool, ite_int, stepA_K, doOp, noOp, lexA_nil, lexA_cons, lexF_nil, lexF_cons, afterDraw, noClash, FP.clash, wantedA, evOp, rho, rhoL, ofC0, ofC, argsA, upd, afterRegion, putA, goOp, evBin_add, evBin_sub, evBin_mul, evBin_quo, evBin_rem, evBin_eql, evBin_neq, evBin_lss, evBin_leq, evBin_gtr, evBin_geq, evBin_eqlB, evBin_neqB, evBin_addS, evBin_eqlS, evBin_neqS, evBin_lssS, evBin_leqS, evUn, evConv, evIndex, evBuiltin, evLen, evMin2, evMax2, evCallee, evBox, evLoad, evStore, evFieldAddr, evField, evIndexAddr, evBuild, evBuildSlice, evElems, evSlice, nth, rdc, wrc, fromBody, resA, finRet, oneOf, AV.cells?, AV.isCell, fin_int, fin_bool, fin_str, -evBuildSlice, rfM, cutC, bodyOf, Try.f24, E_esc, h1, h2, h3, h4, h5, h6, h7, h8, ← hkk, hver, fq5, k22, c22, a22, i22, k24, c24, a24, z24, i24, hz, sq22, bq3, hlen, hi, hltz, hemb, hr, ha1, hc1, ht1, hbs, ha, hps]
      rfl, ⟨by simp [upd, h1], by simp [upd, h2], by simp [upd, h3, XC, hkk], by simp [upd, h4], by simp [upd, h5]⟩, by simp [upd, h6], by simp [upd, hw], .slice eN (.own S0.T.length (p + 6)), by simp [upd, XC], ?_⟩
    rw [if_neg (by omega), hcl]
    refine ⟨p + 6, ?_, rfl⟩
    rw [hEN]

/-- the kids, made simple -/
theorem rf_kids (n : Nat) (k : Int) (h4 : k ≠ 4) (nm : List UInt8) (a lo hi' : Int) (tk : Bool) (kids : List X) (b : Bool) (ver : Nat) (hver : ver ≠ 0) (S0 : St) (hs : kids.length ≤ 1048576) (hn : kids.length < n)
    (hrec : ∀ x ∈ kids, ∀ S, ev Try.prog E n 24 [x.emb, .bool false] S = some (.ret (x.ref false).emb, S)) (fs : FS) (hK : RK n (XC k nm a lo hi' (.slice (embL kids) (tokOf tk))) b fs) (h9 : fs.t 9 = .loc n 9 ver 0)
    (hb9 : fs.b 9 = (ver, XC k nm a lo hi' (.slice (embL kids) (tokOf tk)))) (hS : fs.S = S0) :
    ∃ fs', evCode ⟨Try.prog, E.esc 24, n⟩ (ev Try.prog E n) (E.ps 24) n rfF fs = some (.norm, fs') ∧ MI n k nm a lo hi' tk kids b ver S0 kids.length fs' := by
  have hlen := embL_length kids
  obtain ⟨fs1, e1, p1, p2⟩ : ∃ fs', evCode ⟨Try.prog, E.esc 24, n⟩ (ev Try.prog E n) (E.ps 24) n rfF0 fs = some (.norm, fs') ∧ fs'.t 97 = .bool true ∧
      (RK n (XC k nm a lo hi' (.slice (embL kids) (tokOf tk))) b fs' ∧ fs'.t 9 = .loc n 9 ver 0 ∧ fs'.b 9 = (ver, XC k nm a lo hi' (.slice (embL kids) (tokOf tk))) ∧ fs'.S = S0) := by
    obtain ⟨t, bx, v, S⟩ := fs
    obtain ⟨h1, h2, h3, h4', h5⟩ := hK
    simp only [XC] at h1 h2 h3 h4' h5 h9 hb9 hS
    have g4 : (k == 4) = false := by simp [h4]
    refine ⟨_, by
      simp (disch := first | (simp only [List.length_append, List.length_cons, List.length_nil]; omega) | (simp; done) | assumption) [↓evOp_build, ↓evOp_bslice, rhoP_nil, rhoP_cons, evCode_skip, evCode_region, evCode_draw, evCode_seq, evCode_cond, evCode_block, evCode_loop, evCode_exit, evCode_ret, seqK_ite, seqK_none, seqK_norm, seqK_ret, seqK_exit, seqK_pan, condK_true, condK_false, condK_bool, blockK_ite, blockK_none, blockK_norm, blockK_ret, blockK_exit, blockK_pan, stepK_ite, stepK_none, stepK_ok, stepK_pan, drawK_ite, drawK_none, drawK_ok, drawK_pan, opK_ite, opK_none, opK_val, opK_pan, wantK_true, wantK_false, wantK_some, afterRegion_ite, afterDraw_ite, fromBody_ite, ite_bool, ite_int, stepA_K, doOp, noOp, lexA_nil, lexA_cons, lexF_nil, lexF_cons, afterDraw, noClash, FP.clash, wantedA, evOp, rho, rhoL, ofC0, ofC, argsA, upd, afterRegion, putA, goOp, evBin_add, evBin_sub, evBin_mul, evBin_quo, evBin_rem, evBin_eql, evBin_neq, evBin_lss, evBin_leq, evBin_gtr, evBin_geq, evBin_eqlB, evBin_neqB, evBin_addS, evBin_eqlS, evBin_neqS, evBin_lssS, evBin_leqS, evUn, evConv, evIndex, evBuiltin, evLen, evMin2, evMax2, evCallee, evBox, evLoad, evStore, evFieldAddr, evField, evIndexAddr, evBuild, evBuildSlice, evElems, evSlice, nth, rdc, wrc, fromBody, resA, finRet, oneOf, AV.cells?, AV.isCell, fin_int, fin_bool, fin_str, rfF0, cutC, bodyOf, Try.f24, E_esc, h1, h2, h3, fq0, k3, c3, a3, bq3, bne, g4]
      rfl, by simp [upd], ⟨by simp [upd, h1], by simp [upd, h2], by simp [upd, h3, XC], by simp [upd, h4'], by simp [upd, h5]⟩, by simp [upd, h9], by simp [upd, hb9, XC], hS⟩
  obtain ⟨fs2, e2, p3⟩ : ∃ fs', evCode ⟨Try.prog, E.esc 24, n⟩ (ev Try.prog E n) (E.ps 24) n (.seq rfF1 rfF2) fs1 = some (.norm, fs') ∧ MI n k nm a lo hi' tk kids b ver S0 0 fs' := by
    obtain ⟨t, bx, v, S⟩ := fs1
    obtain ⟨⟨h1, h2, h3, h4', h5⟩, h9, hb9, hS⟩ := p2
    simp only [XC] at h1 h2 h3 h4' h5 h9 hb9 hS
    refine ⟨_, by
      simp (disch := first | (simp only [List.length_append, List.length_cons, List.length_nil]; omega) | (simp; done) | assumption) [↓evOp_build, ↓evOp_bslice, rhoP_nil, rhoP_cons, evCode_skip, evCode_region, evCode_draw, evCode_seq, evCode_cond, evCode_block, evCode_loop, evCode_exit, evCode_ret, seqK_ite, seqK_none, seqK_norm, seqK_ret, seqK_exit, seqK_pan, condK_true, condK_false, condK_bool, blockK_ite, blockK_none, blockK_norm, blockK_ret, blockK_exit, blockK_pan, stepK_ite, stepK_none, stepK_ok, stepK_pan, drawK_ite, drawK_none, drawK_ok, drawK_pan, opK_ite, opK_none, opK_val, opK_pan, wantK_true, wantK_false, wantK_some, afterRegion_ite, afterDraw_ite, fromBody_ite, ite_bool, ite_int, stepA_K, doOp, noOp, lexA_nil, lexA_cons, lexF_nil, lexF_cons, afterDraw, noClash, FP.clash, wantedA, evOp, rho, rhoL, ofC0, ofC, argsA, upd, afterRegion, putA, goOp, evBin_add, evBin_sub, evBin_mul, evBin_quo, evBin_rem, evBin_eql, evBin_neq, evBin_lss, evBin_leq, evBin_gtr, evBin_geq, evBin_eqlB, evBin_neqB, evBin_addS, evBin_eqlS, evBin_neqS, evBin_lssS, evBin_leqS, evUn, evConv, evIndex, evBuiltin, evLen, evMin2, evMax2, evCallee, evBox, evLoad, evStore, evFieldAddr, evField, evIndexAddr, evBuild, evBuildSlice, evElems, evSlice, nth, rdc, wrc, fromBody, resA, finRet, oneOf, AV.cells?, AV.isCell, fin_int, fin_bool, fin_str, rfF1, rfF2, cutC, bodyOf, Try.f24, E_esc, h9, hb9, hver, fq5, c22, i22]
      rfl, ⟨by simp [upd, h1], by simp [upd, h2], by simp [upd, h3, XC], by simp [upd, h4'], by simp [upd, h5]⟩, by simp [upd, h9], by simp [upd], .slice [] .clip, by simp [upd, XC], ?_⟩
    rw [if_pos rfl]
    exact ⟨by simp [embL], hS⟩
  obtain ⟨⟨o, fs3⟩, r1, r2, r3⟩ := iter_range (Q := fun r => r.1 = .exit 2 ∧ MI n k nm a lo hi' tk kids b ver S0 kids.length r.2) (len := kids.length)
    (fun i hi fs h => rm_round n k nm a lo hi' tk kids b ver hver S0 hs hrec i hi fs h)
    (fun fs h => by
      obtain ⟨t, bx, v, S⟩ := fs
      obtain ⟨⟨h1, h2, h3, h4', h5⟩, h6, h7, v9, h8, h9⟩ := h
      simp only [XC] at h1 h2 h3 h4' h5 h6 h7 h8 h9
      refine ⟨.exit 2, _, by
        simp (disch := first | (simp only [List.length_append, List.length_cons, List.length_nil]; omega) | (simp; done) | assumption) [↓evOp_build, ↓evOp_bslice, rhoP_nil, rhoP_cons, evCode_skip, evCode_region, evCode_draw, evCode_seq, evCode_cond, evCode_block, evCode_loop, evCode_exit, evCode_ret, seqK_ite, seqK_none, seqK_norm, seqK_ret, seqK_exit, seqK_pan, condK_true, condK_false, condK_bool, blockK_ite, blockK_none, blockK_norm, blockK_ret, blockK_exit, blockK_pan, stepK_ite, stepK_none, stepK_ok, stepK_pan, drawK_ite, drawK_none, drawK_ok, drawK_pan, opK_ite, opK_none, opK_val, opK_pan, wantK_true, wantK_false, wantK_some, afterRegion_ite, afterDraw_ite, fromBody_ite, ite_bool, ite_int, stepA_K, doOp, noOp, lexA_nil, lexA_cons, lexF_nil, lexF_cons, afterDraw, noClash, FP.clash, wantedA, evOp, rho, rhoL, ofC0, ofC, argsA, upd, afterRegion, putA, goOp, evBin_add, evBin_sub, evBin_mul, evBin_quo, evBin_rem, evBin_eql, evBin_neq, evBin_lss, evBin_leq, evBin_gtr, evBin_geq, evBin_eqlB, evBin_neqB, evBin_addS, evBin_eqlS, evBin_neqS, evBin_lssS, evBin_leqS, evUn, evConv, evIndex, evBuiltin, evLen, evMin2, evMax2, evCallee, evBox, evLoad, evStore, evFieldAddr, evField, evIndexAddr, evBuild, evBuildSlice, evElems, evSlice, nth, rdc, wrc, fromBody, resA, finRet, oneOf, AV.cells?, AV.isCell, fin_int, fin_bool, fin_str, rfM, cutC, bodyOf, Try.f24, E_esc, h1, h2, h3, h7, fq5, k22, c22, a22, sq22, bq3, hlen]
        rfl, by simp, rfl, ⟨by simp [upd, h1], by simp [upd, h2], by simp [upd, h3, XC], by simp [upd, h4'], by simp [upd, h5]⟩, by simp [upd, h6], by simp [upd, h7], v9, by simp [upd, h8, XC], h9⟩) kids.length 0 n fs2 (by omega) hn p3
  simp only at r2
  subst r2
  refine ⟨fs3, ?_, r3⟩
  have hx : evCode ⟨Try.prog, E.esc 24, n⟩ (ev Try.prog E n) (E.ps 24) n rfF fs = evCode ⟨Try.prog, E.esc 24, n⟩ (ev Try.prog E n) (E.ps 24) n (.seq rfF0 (.cond (.tmp 97) (.seq rfF1 (.seq rfF2 (.block 2 (.loop rfM)))) .skip)) fs := rfl
  have hq : rho fs1.t (.tmp 97) = .bool true := p1
  rw [hx, evCode_seq, e1, seqK_norm, evCode_cond, hq, condK_true, evCode_assoc, evCode_seq, e2, seqK_norm, evCode_block, evCode_loop, r1, blockK_exit, if_pos rfl]
end Go.Proofs.Ytemggoaefohliaa.NF

/- The page's simple, evaluated (2). No condition. -/
namespace Go.Proofs.Ytemggoaefohliaa.NF
set_option linter.unusedVariables false
set_option linter.unusedSimpArgs false
open Go AE EX PT
set_option maxRecDepth 100000

def RJ (n : Nat) (C : List AV) (b : Bool) (K : Int) (S0 : St) (fs : FS) : Prop := RK n C b fs ∧ fs.t 7 = .int .i64 K ∧ fs.S = S0

theorem passA (n : Nat) (k : Int) (h : k ≠ 18) (nm : List UInt8) (a lo hi : Int) (kk : AV) (b : Bool) (K : Int) (S0 : St) (fs : FS) (hJ : RJ n (XC k nm a lo hi kk) b K S0 fs) :
    ∃ fs', evCode ⟨Try.prog, E.esc 24, n⟩ (ev Try.prog E n) (E.ps 24) n rfA fs = some (.norm, fs') ∧ RJ n (XC k nm a lo hi kk) b K S0 fs' := by
  obtain ⟨t, bx, v, S⟩ := fs
  obtain ⟨⟨h1, h2, h3, h4, h5⟩, h6, h7⟩ := hJ
  simp only [XC] at h1 h2 h3 h4 h5 h6 h7
  have g : (k == 18) = false := by simp [h]
  exact ⟨_, by
    simp (disch := first | (simp only [List.length_append, List.length_cons, List.length_nil]; omega) | (simp; done) | assumption) [↓evOp_build, ↓evOp_bslice, rhoP_nil, rhoP_cons, evCode_skip, evCode_region, evCode_draw, evCode_seq, evCode_cond, evCode_block, evCode_loop, evCode_exit, evCode_ret, seqK_ite, seqK_none, seqK_norm, seqK_ret, seqK_exit, seqK_pan, condK_true, condK_false, condK_bool, blockK_ite, blockK_none, blockK_norm, blockK_ret, blockK_exit, blockK_pan, stepK_ite, stepK_none, stepK_ok, stepK_pan, drawK_ite, drawK_none, drawK_ok, drawK_pan, opK_ite, opK_none, opK_val, opK_pan, wantK_true, wantK_false, wantK_some, afterRegion_ite, afterDraw_ite, fromBody_ite, ite_bool, ite_int, stepA_K, doOp, noOp, lexA_nil, lexA_cons, lexF_nil, lexF_cons, afterDraw, noClash, FP.clash, wantedA, evOp, rho, rhoL, ofC0, ofC, argsA, upd, afterRegion, putA, goOp, evBin_add, evBin_sub, evBin_mul, evBin_quo, evBin_rem, evBin_eql, evBin_neq, evBin_lss, evBin_leq, evBin_gtr, evBin_geq, evBin_eqlB, evBin_neqB, evBin_addS, evBin_eqlS, evBin_neqS, evBin_lssS, evBin_leqS, evUn, evConv, evIndex, evBuiltin, evLen, evMin2, evMax2, evCallee, evBox, evLoad, evStore, evFieldAddr, evField, evIndexAddr, evBuild, evBuildSlice, evElems, evSlice, nth, rdc, wrc, fromBody, resA, finRet, oneOf, AV.cells?, AV.isCell, fin_int, fin_bool, fin_str, rfA, cutC, bodyOf, Try.f24, E_esc, h1, h2, h3, fq0, k3, c3, a3, bq3, g]
    rfl, ⟨by simp [upd, h1], by simp [upd, h2], by simp [upd, h3, XC], by simp [upd, h4], by simp [upd, h5]⟩, by simp [upd, h6], h7⟩
theorem passB (n : Nat) (k : Int) (h : ¬ (k = 19 ∨ k = 20)) (nm : List UInt8) (a lo hi : Int) (kk : AV) (b : Bool) (K : Int) (S0 : St) (fs : FS) (hJ : RJ n (XC k nm a lo hi kk) b K S0 fs) :
    ∃ fs', evCode ⟨Try.prog, E.esc 24, n⟩ (ev Try.prog E n) (E.ps 24) n rfB fs = some (.norm, fs') ∧ RJ n (XC k nm a lo hi kk) b K S0 fs' := by
  obtain ⟨t, bx, v, S⟩ := fs
  obtain ⟨⟨h1, h2, h3, h4, h5⟩, h6, h7⟩ := hJ
  simp only [XC] at h1 h2 h3 h4 h5 h6 h7
  have g : (k == 19) = false := by simp; omega
  have g' : (k == 20) = false := by simp; omega
  exact ⟨_, by
    simp (disch := first | (simp only [List.length_append, List.length_cons, List.length_nil]; omega) | (simp; done) | assumption) [↓evOp_build, ↓evOp_bslice, rhoP_nil, rhoP_cons, evCode_skip, evCode_region, evCode_draw, evCode_seq, evCode_cond, evCode_block, evCode_loop, evCode_exit, evCode_ret, seqK_ite, seqK_none, seqK_norm, seqK_ret, seqK_exit, seqK_pan, condK_true, condK_false, condK_bool, blockK_ite, blockK_none, blockK_norm, blockK_ret, blockK_exit, blockK_pan, stepK_ite, stepK_none, stepK_ok, stepK_pan, drawK_ite, drawK_none, drawK_ok, drawK_pan, opK_ite, opK_none, opK_val, opK_pan, wantK_true, wantK_false, wantK_some, afterRegion_ite, afterDraw_ite, fromBody_ite, ite_bool, ite_int, stepA_K, doOp, noOp, lexA_nil, lexA_cons, lexF_nil, lexF_cons, afterDraw, noClash, FP.clash, wantedA, evOp, rho, rhoL, ofC0, ofC, argsA, upd, afterRegion, putA, goOp, evBin_add, evBin_sub, evBin_mul, evBin_quo, evBin_rem, evBin_eql, evBin_neq, evBin_lss, evBin_leq, evBin_gtr, evBin_geq, evBin_eqlB, evBin_neqB, evBin_addS, evBin_eqlS, evBin_neqS, evBin_lssS, evBin_leqS, evUn, evConv, evIndex, evBuiltin, evLen, evMin2, evMax2, evCallee, evBox, evLoad, evStore, evFieldAddr, evField, evIndexAddr, evBuild, evBuildSlice, evElems, evSlice, nth, rdc, wrc, fromBody, resA, finRet, oneOf, AV.cells?, AV.isCell, fin_int, fin_bool, fin_str, rfB, cutC, bodyOf, Try.f24, E_esc, h1, h2, h3, fq0, k3, c3, a3, bq3, g, g']
    rfl, ⟨by simp [upd, h1], by simp [upd, h2], by simp [upd, h3, XC], by simp [upd, h4], by simp [upd, h5]⟩, by simp [upd, h6], h7⟩
theorem passC (n : Nat) (k : Int) (h : ¬ (k = 22 ∨ k = 23)) (nm : List UInt8) (a lo hi : Int) (kk : AV) (b : Bool) (K : Int) (S0 : St) (fs : FS) (hJ : RJ n (XC k nm a lo hi kk) b K S0 fs) :
    ∃ fs', evCode ⟨Try.prog, E.esc 24, n⟩ (ev Try.prog E n) (E.ps 24) n rfC fs = some (.norm, fs') ∧ RJ n (XC k nm a lo hi kk) b K S0 fs' := by
  obtain ⟨t, bx, v, S⟩ := fs
  obtain ⟨⟨h1, h2, h3, h4, h5⟩, h6, h7⟩ := hJ
  simp only [XC] at h1 h2 h3 h4 h5 h6 h7
  have g : (k == 22) = false := by simp; omega
  have g' : (k == 23) = false := by simp; omega
  exact ⟨_, by
    simp (disch := first | (simp only [List.length_append, List.length_cons, List.length_nil]; omega) | (simp; done) | assumption) [↓evOp_build, ↓evOp_bslice, rhoP_nil, rhoP_cons, evCode_skip, evCode_region, evCode_draw, evCode_seq, evCode_cond, evCode_block, evCode_loop, evCode_exit, evCode_ret, seqK_ite, seqK_none, seqK_norm, seqK_ret, seqK_exit, seqK_pan, condK_true, condK_false, condK_bool, blockK_ite, blockK_none, blockK_norm, blockK_ret, blockK_exit, blockK_pan, stepK_ite, stepK_none, stepK_ok, stepK_pan, drawK_ite, drawK_none, drawK_ok, drawK_pan, opK_ite, opK_none, opK_val, opK_pan, wantK_true, wantK_false, wantK_some, afterRegion_ite, afterDraw_ite, fromBody_ite, ite_bool, ite_int, stepA_K, doOp, noOp, lexA_nil, lexA_cons, lexF_nil, lexF_cons, afterDraw, noClash, FP.clash, wantedA, evOp, rho, rhoL, ofC0, ofC, argsA, upd, afterRegion, putA, goOp, evBin_add, evBin_sub, evBin_mul, evBin_quo, evBin_rem, evBin_eql, evBin_neq, evBin_lss, evBin_leq, evBin_gtr, evBin_geq, evBin_eqlB, evBin_neqB, evBin_addS, evBin_eqlS, evBin_neqS, evBin_lssS, evBin_leqS, evUn, evConv, evIndex, evBuiltin, evLen, evMin2, evMax2, evCallee, evBox, evLoad, evStore, evFieldAddr, evField, evIndexAddr, evBuild, evBuildSlice, evElems, evSlice, nth, rdc, wrc, fromBody, resA, finRet, oneOf, AV.cells?, AV.isCell, fin_int, fin_bool, fin_str, rfC, cutC, bodyOf, Try.f24, E_esc, h1, h2, h3, fq0, k3, c3, a3, bq3, g, g']
    rfl, ⟨by simp [upd, h1], by simp [upd, h2], by simp [upd, h3, XC], by simp [upd, h4], by simp [upd, h5]⟩, by simp [upd, h6], h7⟩
theorem passD (n : Nat) (k : Int) (nm : List UInt8) (a lo hi : Int) (kk : AV) (b : Bool) (h : ¬ (k = 2 ∧ b = true)) (K : Int) (S0 : St) (fs : FS) (hJ : RJ n (XC k nm a lo hi kk) b K S0 fs) :
    ∃ fs', evCode ⟨Try.prog, E.esc 24, n⟩ (ev Try.prog E n) (E.ps 24) n rfD fs = some (.norm, fs') ∧ RJ n (XC k nm a lo hi kk) b K S0 fs' := by
  obtain ⟨t, bx, v, S⟩ := fs
  obtain ⟨⟨h1, h2, h3, h4, h5⟩, h6, h7⟩ := hJ
  simp only [XC] at h1 h2 h3 h4 h5 h6 h7
  cases g : (k == 2)
  · exact ⟨_, by
      simp (disch := first | (simp only [List.length_append, List.length_cons, List.length_nil]; omega) | (simp; done) | assumption) [↓evOp_build, ↓evOp_bslice, rhoP_nil, rhoP_cons, evCode_skip, evCode_region, evCode_draw, evCode_seq, evCode_cond, evCode_block, evCode_loop, evCode_exit, evCode_ret, seqK_ite, seqK_none, seqK_norm, seqK_ret, seqK_exit, seqK_pan, condK_true, condK_false, condK_bool, blockK_ite, blockK_none, blockK_norm, blockK_ret, blockK_exit, blockK_pan, stepK_ite, stepK_none, stepK_ok, stepK_pan, drawK_ite, drawK_none, drawK_ok, drawK_pan, opK_ite, opK_none, opK_val, opK_pan, wantK_true, wantK_false, wantK_some, afterRegion_ite, afterDraw_ite, fromBody_ite, ite_bool, ite_int, stepA_K, doOp, noOp, lexA_nil, lexA_cons, lexF_nil, lexF_cons, afterDraw, noClash, FP.clash, wantedA, evOp, rho, rhoL, ofC0, ofC, argsA, upd, afterRegion, putA, goOp, evBin_add, evBin_sub, evBin_mul, evBin_quo, evBin_rem, evBin_eql, evBin_neq, evBin_lss, evBin_leq, evBin_gtr, evBin_geq, evBin_eqlB, evBin_neqB, evBin_addS, evBin_eqlS, evBin_neqS, evBin_lssS, evBin_leqS, evUn, evConv, evIndex, evBuiltin, evLen, evMin2, evMax2, evCallee, evBox, evLoad, evStore, evFieldAddr, evField, evIndexAddr, evBuild, evBuildSlice, evElems, evSlice, nth, rdc, wrc, fromBody, resA, finRet, oneOf, AV.cells?, AV.isCell, fin_int, fin_bool, fin_str, rfD, cutC, bodyOf, Try.f24, E_esc, h1, h2, h3, fq0, k3, c3, a3, bq3, g]
      rfl, ⟨by simp [upd, h1], by simp [upd, h2], by simp [upd, h3, XC], by simp [upd, h4], by simp [upd, h5]⟩, by simp [upd, h6], h7⟩
  · cases b
    · exact ⟨_, by
        simp (disch := first | (simp only [List.length_append, List.length_cons, List.length_nil]; omega) | (simp; done) | assumption) [↓evOp_build, ↓evOp_bslice, rhoP_nil, rhoP_cons, evCode_skip, evCode_region, evCode_draw, evCode_seq, evCode_cond, evCode_block, evCode_loop, evCode_exit, evCode_ret, seqK_ite, seqK_none, seqK_norm, seqK_ret, seqK_exit, seqK_pan, condK_true, condK_false, condK_bool, blockK_ite, blockK_none, blockK_norm, blockK_ret, blockK_exit, blockK_pan, stepK_ite, stepK_none, stepK_ok, stepK_pan, drawK_ite, drawK_none, drawK_ok, drawK_pan, opK_ite, opK_none, opK_val, opK_pan, wantK_true, wantK_false, wantK_some, afterRegion_ite, afterDraw_ite, fromBody_ite, ite_bool, ite_int, stepA_K, doOp, noOp, lexA_nil, lexA_cons, lexF_nil, lexF_cons, afterDraw, noClash, FP.clash, wantedA, evOp, rho, rhoL, ofC0, ofC, argsA, upd, afterRegion, putA, goOp, evBin_add, evBin_sub, evBin_mul, evBin_quo, evBin_rem, evBin_eql, evBin_neq, evBin_lss, evBin_leq, evBin_gtr, evBin_geq, evBin_eqlB, evBin_neqB, evBin_addS, evBin_eqlS, evBin_neqS, evBin_lssS, evBin_leqS, evUn, evConv, evIndex, evBuiltin, evLen, evMin2, evMax2, evCallee, evBox, evLoad, evStore, evFieldAddr, evField, evIndexAddr, evBuild, evBuildSlice, evElems, evSlice, nth, rdc, wrc, fromBody, resA, finRet, oneOf, AV.cells?, AV.isCell, fin_int, fin_bool, fin_str, rfD, cutC, bodyOf, Try.f24, E_esc, h1, h2, h3, fq0, k3, c3, a3, bq3, g]
        rfl, ⟨by simp [upd, h1], by simp [upd, h2], by simp [upd, h3, XC], by simp [upd, h4], by simp [upd, h5]⟩, by simp [upd, h6], h7⟩
    · exact absurd ⟨by simpa using g, rfl⟩ h

noncomputable abbrev fin24 (n : Nat) (S0 : St) (c : Code) (fs : FS) : Option (Res × St) :=
  fromBody Try.prog ⟨Try.prog, E.esc 24, n⟩ S0 Try.f24.results.toList (evCode ⟨Try.prog, E.esc 24, n⟩ (ev Try.prog E n) (E.ps 24) n c fs)

set_option maxHeartbeats 4000000 in
theorem ret18 (n : Nat) (R : Code) (nm : List UInt8) (a lo hi : Int) (tk : Bool) (y : X) (b : Bool) (K : Int) (S0 : St) (fs : FS) (hJ : RJ n (XC 18 nm a lo hi (.slice (embL [y]) (tokOf tk))) b K S0 fs)
    (hr : ev Try.prog E n 24 [y.emb, .bool (!b)] S0 = some (.ret (y.ref (!b)).emb, S0)) : fin24 n S0 (.seq rfA R) fs = some (.ret (y.ref (!b)).emb, S0) := by
  obtain ⟨t, bx, v, S⟩ := fs
  obtain ⟨⟨h1, h2, h3, h4, h5⟩, h6, h7⟩ := hJ
  simp only [XC] at h1 h2 h3 h4 h5 h6 h7
  subst h7
  obtain ⟨z, hz⟩ := ii24
  have hf := fin_emb (y.ref (!b)) S
  have he := embL_get0 y []
  have hl : (embL [y]).length = 1 := rfl
  have ha1 := cells_all y
  have hc1 := (cells_ok y).2
  have ht1 : List.take 6 y.cells = y.cells := List.take_of_length_le (by omega)
  have ha2 := cells_all (y.ref (!b))
  have hc2 := (cells_ok (y.ref (!b))).2
  have ht2 : List.take 6 (y.ref (!b)).cells = (y.ref (!b)).cells := List.take_of_length_le (by omega)
  rw [emb_cells] at hf
  rw [emb_cells, emb_cells (y.ref (!b))] at hr
  rw [emb_cells]
  generalize (y.ref (!b)).cells = C2 at *
  generalize y.cells = C1 at *
  generalize embL [y] = e1 at *
  unfold fin24
  simp (disch := first | (simp only [List.length_append, List.length_cons, List.length_nil]; omega) | (simp; done) | assumption) [↓evOp_build, ↓evOp_bslice, rhoP_nil, rhoP_cons, evCode_skip, evCode_region, evCode_draw, evCode_seq, evCode_cond, evCode_block, evCode_loop, evCode_exit, evCode_ret, seqK_ite, seqK_none, seqK_norm, seqK_ret, seqK_exit, seqK_pan, condK_true, condK_false, condK_bool, blockK_ite, blockK_none, blockK_norm, blockK_ret, blockK_exit, blockK_pan, stepK_ite, stepK_none, stepK_ok, stepK_pan, drawK_ite, drawK_none, drawK_ok, drawK_pan, opK_ite, opK_none, opK_val, opK_pan, wantK_true, wantK_false, wantK_some, afterRegion_ite, afterDraw_ite, fromBody_ite, ite_bool, ite_int, stepA_K, doOp, noOp, lexA_nil, lexA_cons, lexF_nil, lexF_cons, afterDraw, noClash, FP.clash, wantedA, evOp, rho, rhoL, ofC0, ofC, argsA, upd, afterRegion, putA, goOp, evBin_add, evBin_sub, evBin_mul, evBin_quo, evBin_rem, evBin_eql, evBin_neq, evBin_lss, evBin_leq, evBin_gtr, evBin_geq, evBin_eqlB, evBin_neqB, evBin_addS, evBin_eqlS, evBin_neqS, evBin_lssS, evBin_leqS, evUn, evConv, evIndex, evBuiltin, evLen, evMin2, evMax2, evCallee, evBox, evLoad, evStore, evFieldAddr, evField, evIndexAddr, evBuild, evBuildSlice, evElems, evSlice, nth, rdc, wrc, fromBody, resA, finRet, oneOf, AV.cells?, AV.isCell, fin_int, fin_bool, fin_str, rfA, cutC, bodyOf, Try.f24, E_esc, h1, h2, h3, h4, h5, fq0, fq5, k3, c3, a3, k22, c22, a22, k24, c24, a24, i24, hz, sq22, bq3, he, hl, hr, hf, ha1, hc1, ht1, ha2, hc2, ht2]

set_option maxHeartbeats 4000000 in
theorem ret19 (n : Nat) (R : Code) (k : Int) (hk : k = 19 ∨ k = 20) (nm : List UInt8) (a lo hi : Int) (tk : Bool) (y w : X) (b : Bool) (K : Int) (S0 : St) (fs : FS) (hJ : RJ n (XC k nm a lo hi (.slice (embL [y, w]) (tokOf tk))) b K S0 fs)
    (hr : ev Try.prog E n 24 [y.emb, .bool b] S0 = some (.ret (y.ref b).emb, S0)) (hr2 : ev Try.prog E n 24 [w.emb, .bool b] S0 = some (.ret (w.ref b).emb, S0))
    (hB : ev Try.prog E n 51 [.int .i64 K, (y.ref b).emb, (w.ref b).emb] S0 = some (.ret (bothX K (y.ref b) (w.ref b)).emb, S0)) : fin24 n S0 (.seq rfB R) fs = some (.ret (bothX K (y.ref b) (w.ref b)).emb, S0) := by
  obtain ⟨t, bx, v, S⟩ := fs
  obtain ⟨⟨h1, h2, h3, h4, h5⟩, h6, h7⟩ := hJ
  simp only [XC] at h1 h2 h3 h4 h5 h6 h7
  subst h7
  obtain ⟨z, hz⟩ := ii24
  have hf := fin_emb (bothX K (y.ref b) (w.ref b)) S
  have he := embL_get0 y [w]
  have he2 := embL_get1 y w []
  have hl : (embL [y, w]).length = 2 := rfl
  have ha1 := cells_all y
  have hc1 := (cells_ok y).2
  have ht1 : List.take 6 y.cells = y.cells := List.take_of_length_le (by omega)
  have ha3 := cells_all w
  have hc3 := (cells_ok w).2
  have ht3 : List.take 6 w.cells = w.cells := List.take_of_length_le (by omega)
  have ha2 := cells_all (bothX K (y.ref b) (w.ref b))
  have hc2 := (cells_ok (bothX K (y.ref b) (w.ref b))).2
  have ht2 : List.take 6 (bothX K (y.ref b) (w.ref b)).cells = (bothX K (y.ref b) (w.ref b)).cells := List.take_of_length_le (by omega)
  have hps : E.ps 24 12 = [(2, 8), (4, 8), (6, 8), (2, 10), (4, 10), (6, 10)] := rfl
  rw [emb_cells] at hf
  rw [emb_cells (bothX _ _ _)] at hB ⊢
  rw [emb_cells] at hr hr2
  generalize (bothX K (y.ref b) (w.ref b)).cells = C2 at *
  generalize (y.ref b).emb = r1 at *
  generalize (w.ref b).emb = r2 at *
  generalize y.cells = C1 at *
  generalize w.cells = C3 at *
  generalize embL [y, w] = e1 at *
  unfold fin24
  rcases hk with rfl | rfl
  · simp (disch := first | (simp only [List.length_append, List.length_cons, List.length_nil]; omega) | (simp; done) | assumption) [↓evOp_build, ↓evOp_bslice, rhoP_nil, rhoP_cons, evCode_skip, evCode_region, evCode_draw, evCode_seq, evCode_cond, evCode_block, evCode_loop, evCode_exit, evCode_ret, seqK_ite, seqK_none, seqK_norm, seqK_ret, seqK_exit, seqK_pan, condK_true, condK_false, condK_bool, blockK_ite, blockK_none, blockK_norm, blockK_ret, blockK_exit, blockK_pan, stepK_ite, stepK_none, stepK_ok, stepK_pan, drawK_ite, drawK_none, drawK_ok, drawK_pan, opK_ite, opK_none, opK_val, opK_pan, wantK_true, wantK_false, wantK_some, afterRegion_ite, afterDraw_ite, fromBody_ite, ite_bool, ite_int, stepA_K, doOp, noOp, lexA_nil, lexA_cons, lexF_nil, lexF_cons, afterDraw, noClash, FP.clash, wantedA, evOp, rho, rhoL, ofC0, ofC, argsA, upd, afterRegion, putA, goOp, evBin_add, evBin_sub, evBin_mul, evBin_quo, evBin_rem, evBin_eql, evBin_neq, evBin_lss, evBin_leq, evBin_gtr, evBin_geq, evBin_eqlB, evBin_neqB, evBin_addS, evBin_eqlS, evBin_neqS, evBin_lssS, evBin_leqS, evUn, evConv, evIndex, evBuiltin, evLen, evMin2, evMax2, evCallee, evBox, evLoad, evStore, evFieldAddr, evField, evIndexAddr, evBuild, evBuildSlice, evElems, evSlice, nth, rdc, wrc, fromBody, resA, finRet, oneOf, AV.cells?, AV.isCell, fin_int, fin_bool, fin_str, rfB, cutC, bodyOf, Try.f24, E_esc, h1, h2, h3, h4, h5, h6, fq0, fq5, k3, c3, a3, k22, c22, a22, k24, c24, a24, i24, hz, sq22, bq3, he, he2, hl, hr, hr2, hB, hf, ha1, hc1, ht1, ha2, hc2, ht2, ha3, hc3, ht3, hps]
  · simp (disch := first | (simp only [List.length_append, List.length_cons, List.length_nil]; omega) | (simp; done) | assumption) [↓evOp_build, ↓evOp_bslice, rhoP_nil, rhoP_cons, evCode_skip, evCode_region, evCode_draw, evCode_seq, evCode_cond, evCode_block, evCode_loop, evCode_exit, evCode_ret, seqK_ite, seqK_none, seqK_norm, seqK_ret, seqK_exit, seqK_pan, condK_true, condK_false, condK_bool, blockK_ite, blockK_none, blockK_norm, blockK_ret, blockK_exit, blockK_pan, stepK_ite, stepK_none, stepK_ok, stepK_pan, drawK_ite, drawK_none, drawK_ok, drawK_pan, opK_ite, opK_none, opK_val, opK_pan, wantK_true, wantK_false, wantK_some, afterRegion_ite, afterDraw_ite, fromBody_ite, ite_bool, ite_int, stepA_K, doOp, noOp, lexA_nil, lexA_cons, lexF_nil, lexF_cons, afterDraw, noClash, FP.clash, wantedA, evOp, rho, rhoL, ofC0, ofC, argsA, upd, afterRegion, putA, goOp, evBin_add, evBin_sub, evBin_mul, evBin_quo, evBin_rem, evBin_eql, evBin_neq, evBin_lss, evBin_leq, evBin_gtr, evBin_geq, evBin_eqlB, evBin_neqB, evBin_addS, evBin_eqlS, evBin_neqS, evBin_lssS, evBin_leqS, evUn, evConv, evIndex, evBuiltin, evLen, evMin2, evMax2, evCallee, evBox, evLoad, evStore, evFieldAddr, evField, evIndexAddr, evBuild, evBuildSlice, evElems, evSlice, nth, rdc, wrc, fromBody, resA, finRet, oneOf, AV.cells?, AV.isCell, fin_int, fin_bool, fin_str, rfB, cutC, bodyOf, Try.f24, E_esc, h1, h2, h3, h4, h5, h6, fq0, fq5, k3, c3, a3, k22, c22, a22, k24, c24, a24, i24, hz, sq22, bq3, he, he2, hl, hr, hr2, hB, hf, ha1, hc1, ht1, ha2, hc2, ht2, ha3, hc3, ht3, hps]

set_option maxHeartbeats 4000000 in
theorem ret22 (n : Nat) (R : Code) (k : Int) (hk : k = 22 ∨ k = 23) (nm : List UInt8) (a lo hi : Int) (tk : Bool) (y : X) (b : Bool) (K : Int) (S0 : St) (fs : FS) (hJ : RJ n (XC k nm a lo hi (.slice (embL [y]) (tokOf tk))) b K S0 fs)
    (hr : ev Try.prog E n 24 [y.emb, .bool b] S0 = some (.ret (y.ref b).emb, S0)) : fin24 n S0 (.seq rfC R) fs = some (.ret (X.mk K [] 0 lo hi true [y.ref b]).emb, S0) := by
  obtain ⟨t, bx, v, S⟩ := fs
  obtain ⟨⟨h1, h2, h3, h4, h5⟩, h6, h7⟩ := hJ
  simp only [XC] at h1 h2 h3 h4 h5 h6 h7
  subst h7
  obtain ⟨z, hz⟩ := ii24
  have hf := fin_emb (X.mk K [] 0 lo hi true [y.ref b]) S
  have he := embL_get0 y []
  have hl : (embL [y]).length = 1 := rfl
  have ha1 := cells_all y
  have hc1 := (cells_ok y).2
  have ht1 : List.take 6 y.cells = y.cells := List.take_of_length_le (by omega)
  have hbs := bs1 (y.ref b)
  have hbd := bd4 K lo hi (embL [y.ref b]) .clip
  have htk : tokOf true = .clip := rfl
  have hps : E.ps 24 14 = [(2, 4), (2, 6), (4, 6), (2, 8), (4, 8), (2, 10), (4, 10)] := rfl
  rw [emb_cells, emb_cells (y.ref b)] at hr
  simp only [X.emb, htk] at hf ⊢
  generalize (y.ref b).cells = C2 at *
  generalize embL [y.ref b] = e2 at *
  generalize y.cells = C1 at *
  generalize embL [y] = e1 at *
  unfold fin24
  rcases hk with rfl | rfl
  · simp (disch := first | (simp only [List.length_append, List.length_cons, List.length_nil]; omega) | (simp; done) | assumption) [↓evOp_build, ↓evOp_bslice, rhoP_nil, rhoP_cons, evCode_skip, evCode_region, evCode_draw, evCode_seq, evCode_cond, evCode_block, evCode_loop, evCode_exit, evCode_ret, seqK_ite, seqK_none, seqK_norm, seqK_ret, seqK_exit, seqK_pan, condK_true, condK_false, condK_bool, blockK_ite, blockK_none, blockK_norm, blockK_ret, blockK_exit, blockK_pan, stepK_ite, stepK_none, stepK_ok, stepK_pan, drawK_ite, drawK_none, drawK_ok, drawK_pan, opK_ite, opK_none, opK_val, opK_pan, wantK_true, wantK_false, wantK_some, afterRegion_ite, afterDraw_ite, fromBody_ite, ite_bool, ite_int, stepA_K, doOp, noOp, lexA_nil, lexA_cons, lexF_nil, lexF_cons, afterDraw, noClash, FP.clash, wantedA, evOp, rho, rhoL, ofC0, ofC, argsA, upd, afterRegion, putA, goOp, evBin_add, evBin_sub, evBin_mul, evBin_quo, evBin_rem, evBin_eql, evBin_neq, evBin_lss, evBin_leq, evBin_gtr, evBin_geq, evBin_eqlB, evBin_neqB, evBin_addS, evBin_eqlS, evBin_neqS, evBin_lssS, evBin_leqS, evUn, evConv, evIndex, evBuiltin, evLen, evMin2, evMax2, evCallee, evBox, evLoad, evStore, evFieldAddr, evField, evIndexAddr, evBuild, evBuildSlice, evElems, evSlice, nth, rdc, wrc, fromBody, resA, finRet, oneOf, AV.cells?, AV.isCell, fin_int, fin_bool, fin_str, -evBuildSlice, -evBuild, rfC, cutC, bodyOf, Try.f24, E_esc, h1, h2, h3, h4, h5, h6, fq0, fq3, fq4, fq5, k3, c3, a3, k2, c2, a2, k22, c22, a22, k24, c24, a24, i24, hz, sq22, bq3, he, hl, hr, hbs, hbd, hf, ha1, hc1, ht1, hps]
  · simp (disch := first | (simp only [List.length_append, List.length_cons, List.length_nil]; omega) | (simp; done) | assumption) [↓evOp_build, ↓evOp_bslice, rhoP_nil, rhoP_cons, evCode_skip, evCode_region, evCode_draw, evCode_seq, evCode_cond, evCode_block, evCode_loop, evCode_exit, evCode_ret, seqK_ite, seqK_none, seqK_norm, seqK_ret, seqK_exit, seqK_pan, condK_true, condK_false, condK_bool, blockK_ite, blockK_none, blockK_norm, blockK_ret, blockK_exit, blockK_pan, stepK_ite, stepK_none, stepK_ok, stepK_pan, drawK_ite, drawK_none, drawK_ok, drawK_pan, opK_ite, opK_none, opK_val, opK_pan, wantK_true, wantK_false, wantK_some, afterRegion_ite, afterDraw_ite, fromBody_ite, ite_bool, ite_int, stepA_K, doOp, noOp, lexA_nil, lexA_cons, lexF_nil, lexF_cons, afterDraw, noClash, FP.clash, wantedA, evOp, rho, rhoL, ofC0, ofC, argsA, upd, afterRegion, putA, goOp, evBin_add, evBin_sub, evBin_mul, evBin_quo, evBin_rem, evBin_eql, evBin_neq, evBin_lss, evBin_leq, evBin_gtr, evBin_geq, evBin_eqlB, evBin_neqB, evBin_addS, evBin_eqlS, evBin_neqS, evBin_lssS, evBin_leqS, evUn, evConv, evIndex, evBuiltin, evLen, evMin2, evMax2, evCallee, evBox, evLoad, evStore, evFieldAddr, evField, evIndexAddr, evBuild, evBuildSlice, evElems, evSlice, nth, rdc, wrc, fromBody, resA, finRet, oneOf, AV.cells?, AV.isCell, fin_int, fin_bool, fin_str, -evBuildSlice, -evBuild, rfC, cutC, bodyOf, Try.f24, E_esc, h1, h2, h3, h4, h5, h6, fq0, fq3, fq4, fq5, k3, c3, a3, k2, c2, a2, k22, c22, a22, k24, c24, a24, i24, hz, sq22, bq3, he, hl, hr, hbs, hbd, hf, ha1, hc1, ht1, hps]

theorem ret2 (n : Nat) (R : Code) (nm : List UInt8) (a lo hi : Int) (ha : a = 0 ∨ a = 1) (kk : AV) (K : Int) (S0 : St) (fs : FS) (hJ : RJ n (XC 2 nm a lo hi kk) true K S0 fs) :
    fin24 n S0 (.seq rfD R) fs = some (.ret (X.mk 2 [] (1 - a) 0 0 true []).emb, S0) := by
  obtain ⟨t, bx, v, S⟩ := fs
  obtain ⟨⟨h1, h2, h3, h4, h5⟩, h6, h7⟩ := hJ
  simp only [XC] at h1 h2 h3 h4 h5 h6 h7
  subst h7
  have hf := fin_emb (X.mk 2 [] (1 - a) 0 0 true []) S
  have hbd := bdn 2 (1 - a)
  have hw : IntKind.i64.wrap (1 - a) = 1 - a := wrap64 _ (by omega)
  have htk : tokOf true = .clip := rfl
  simp only [X.emb, htk, embL] at hf ⊢
  unfold fin24
  simp (disch := first | (simp only [List.length_append, List.length_cons, List.length_nil]; omega) | (simp; done) | assumption) [↓evOp_build, ↓evOp_bslice, rhoP_nil, rhoP_cons, evCode_skip, evCode_region, evCode_draw, evCode_seq, evCode_cond, evCode_block, evCode_loop, evCode_exit, evCode_ret, seqK_ite, seqK_none, seqK_norm, seqK_ret, seqK_exit, seqK_pan, condK_true, condK_false, condK_bool, blockK_ite, blockK_none, blockK_norm, blockK_ret, blockK_exit, blockK_pan, stepK_ite, stepK_none, stepK_ok, stepK_pan, drawK_ite, drawK_none, drawK_ok, drawK_pan, opK_ite, opK_none, opK_val, opK_pan, wantK_true, wantK_false, wantK_some, afterRegion_ite, afterDraw_ite, fromBody_ite, ite_bool, ite_int, stepA_K, doOp, noOp, lexA_nil, lexA_cons, lexF_nil, lexF_cons, afterDraw, noClash, FP.clash, wantedA, evOp, rho, rhoL, ofC0, ofC, argsA, upd, afterRegion, putA, goOp, evBin_add, evBin_sub, evBin_mul, evBin_quo, evBin_rem, evBin_eql, evBin_neq, evBin_lss, evBin_leq, evBin_gtr, evBin_geq, evBin_eqlB, evBin_neqB, evBin_addS, evBin_eqlS, evBin_neqS, evBin_lssS, evBin_leqS, evUn, evConv, evIndex, evBuiltin, evLen, evMin2, evMax2, evCallee, evBox, evLoad, evStore, evFieldAddr, evField, evIndexAddr, evBuild, evBuildSlice, evElems, evSlice, nth, rdc, wrc, fromBody, resA, finRet, oneOf, AV.cells?, AV.isCell, fin_int, fin_bool, fin_str, -evBuild, rfD, cutC, bodyOf, Try.f24, E_esc, h1, h2, h3, h4, h5, h6, fq0, fq2, k3, c3, a3, k2, c2, a2, k24, c24, a24, i24, bq3, bq2, hbd, hw, hf]

/-- the copy -/
theorem copyE (n : Nat) (k : Int) (nm : List UInt8) (a lo hi : Int) (kk : AV) (hkk : kk.isCell = true) (b : Bool) (K : Int) (S0 : St) (fs : FS) (hJ : RJ n (XC k nm a lo hi kk) b K S0 fs) :
    ∃ fs' ver, ver ≠ 0 ∧ evCode ⟨Try.prog, E.esc 24, n⟩ (ev Try.prog E n) (E.ps 24) n rfE fs = some (.norm, fs') ∧ RK n (XC k nm a lo hi kk) b fs' ∧ fs'.t 9 = .loc n 9 ver 0 ∧ fs'.b 9 = (ver, XC k nm a lo hi kk) ∧ fs'.S = S0 := by
  obtain ⟨t, bx, v, S⟩ := fs
  obtain ⟨⟨h1, h2, h3, h4, h5⟩, h6, h7⟩ := hJ
  simp only [XC] at h1 h2 h3 h4 h5 h6 h7
  exact ⟨_, v + 1 + 1, by omega, by
    simp (disch := first | (simp only [List.length_append, List.length_cons, List.length_nil]; omega) | (simp; done) | assumption) [↓evOp_build, ↓evOp_bslice, rhoP_nil, rhoP_cons, evCode_skip, evCode_region, evCode_draw, evCode_seq, evCode_cond, evCode_block, evCode_loop, evCode_exit, evCode_ret, seqK_ite, seqK_none, seqK_norm, seqK_ret, seqK_exit, seqK_pan, condK_true, condK_false, condK_bool, blockK_ite, blockK_none, blockK_norm, blockK_ret, blockK_exit, blockK_pan, stepK_ite, stepK_none, stepK_ok, stepK_pan, drawK_ite, drawK_none, drawK_ok, drawK_pan, opK_ite, opK_none, opK_val, opK_pan, wantK_true, wantK_false, wantK_some, afterRegion_ite, afterDraw_ite, fromBody_ite, ite_bool, ite_int, stepA_K, doOp, noOp, lexA_nil, lexA_cons, lexF_nil, lexF_cons, afterDraw, noClash, FP.clash, wantedA, evOp, rho, rhoL, ofC0, ofC, argsA, upd, afterRegion, putA, goOp, evBin_add, evBin_sub, evBin_mul, evBin_quo, evBin_rem, evBin_eql, evBin_neq, evBin_lss, evBin_leq, evBin_gtr, evBin_geq, evBin_eqlB, evBin_neqB, evBin_addS, evBin_eqlS, evBin_neqS, evBin_lssS, evBin_leqS, evUn, evConv, evIndex, evBuiltin, evLen, evMin2, evMax2, evCallee, evBox, evLoad, evStore, evFieldAddr, evField, evIndexAddr, evBuild, evBuildSlice, evElems, evSlice, nth, rdc, wrc, fromBody, resA, finRet, oneOf, AV.cells?, AV.isCell, fin_int, fin_bool, fin_str, -AV.isCell, hkk, rfE, cutC, bodyOf, Try.f24, E_esc, h1, h2, h3, k24, c24, a24, z24, i24, show ∀ k n, AV.isCell (.int k n) = true from fun _ _ => rfl, show ∀ s, AV.isCell (.str s) = true from fun _ => rfl]
    rfl, ⟨by simp [upd, h1], by simp [upd, h2], by simp [upd, h3, XC], by simp [upd, h4], by simp [upd, h5]⟩, by simp [upd], by simp [upd, XC], h7⟩

set_option maxHeartbeats 4000000 in
theorem retG (n : Nat) (k : Int) (nm : List UInt8) (a lo hi : Int) (kk w : AV) (hw : w.isCell = true) (b : Bool) (ver : Nat) (hver : ver ≠ 0) (S0 S' : St) (v : AV) (fs : FS)
    (hK : RK n (XC k nm a lo hi kk) b fs) (h9 : fs.t 9 = .loc n 9 ver 0) (hb9 : fs.b 9 = (ver, XC k nm a lo hi w)) (hS : fs.S = S')
    (hf : finish S0 (if b then .agg [.int .i64 18, .str [], .int .i64 0, .int .i64 0, .int .i64 0, .slice [.agg (XC k nm a lo hi w)] .clip] else .agg (XC k nm a lo hi w)) S' = some (v, S0)) :
    fin24 n S0 rfG fs = some (.ret v, S0) := by
  obtain ⟨t, bx, c, S⟩ := fs
  obtain ⟨h1, h2, h3, h4, h5⟩ := hK
  have hci : ∀ k n, AV.isCell (.int k n) = true := fun _ _ => rfl
  have hcz : ∀ s, AV.isCell (.str s) = true := fun _ => rfl
  have hbs := bsC (C := XC k nm a lo hi w) (by simp [XC, hw, hci, hcz]) rfl
  have hbd := bd2 18 [.agg (XC k nm a lo hi w)] .clip
  have hl : (XC k nm a lo hi w).length = 6 := rfl
  have htk : List.take 6 (XC k nm a lo hi w) = XC k nm a lo hi w := rfl
  have hal : (XC k nm a lo hi w).all AV.isCell = true := by simp [XC, hw, hci, hcz]
  simp only at h1 h2 h3 h4 h5 h9 hb9 hS
  subst hS
  generalize XC k nm a lo hi w = D at *
  unfold fin24
  cases b
  · simp only [Bool.false_eq_true, if_false] at hf
    simp (disch := first | (simp only [List.length_append, List.length_cons, List.length_nil]; omega) | (simp; done) | assumption) [↓evOp_build, ↓evOp_bslice, rhoP_nil, rhoP_cons, evCode_skip, evCode_region, evCode_draw, evCode_seq, evCode_cond, evCode_block, evCode_loop, evCode_exit, evCode_ret, seqK_ite, seqK_none, seqK_norm, seqK_ret, seqK_exit, seqK_pan, condK_true, condK_false, condK_bool, blockK_ite, blockK_none, blockK_norm, blockK_ret, blockK_exit, blockK_pan, stepK_ite, stepK_none, stepK_ok, stepK_pan, drawK_ite, drawK_none, drawK_ok, drawK_pan, opK_ite, opK_none, opK_val, opK_pan, wantK_true, wantK_false, wantK_some, afterRegion_ite, afterDraw_ite, fromBody_ite, ite_bool, ite_int, stepA_K, doOp, noOp, lexA_nil, lexA_cons, lexF_nil, lexF_cons, afterDraw, noClash, FP.clash, wantedA, evOp, rho, rhoL, ofC0, ofC, argsA, upd, afterRegion, putA, goOp, evBin_add, evBin_sub, evBin_mul, evBin_quo, evBin_rem, evBin_eql, evBin_neq, evBin_lss, evBin_leq, evBin_gtr, evBin_geq, evBin_eqlB, evBin_neqB, evBin_addS, evBin_eqlS, evBin_neqS, evBin_lssS, evBin_leqS, evUn, evConv, evIndex, evBuiltin, evLen, evMin2, evMax2, evCallee, evBox, evLoad, evStore, evFieldAddr, evField, evIndexAddr, evBuild, evBuildSlice, evElems, evSlice, nth, rdc, wrc, fromBody, resA, finRet, oneOf, AV.cells?, AV.isCell, fin_int, fin_bool, fin_str, -evBuildSlice, -evBuild, rfG, cutC, bodyOf, Try.f24, E_esc, h1, h4, h5, h9, hb9, hver, k24, c24, a24, i24, hl, htk, hal, hf]
  · simp only [if_true] at hf
    simp (disch := first | (simp only [List.length_append, List.length_cons, List.length_nil]; omega) | (simp; done) | assumption) [↓evOp_build, ↓evOp_bslice, rhoP_nil, rhoP_cons, evCode_skip, evCode_region, evCode_draw, evCode_seq, evCode_cond, evCode_block, evCode_loop, evCode_exit, evCode_ret, seqK_ite, seqK_none, seqK_norm, seqK_ret, seqK_exit, seqK_pan, condK_true, condK_false, condK_bool, blockK_ite, blockK_none, blockK_norm, blockK_ret, blockK_exit, blockK_pan, stepK_ite, stepK_none, stepK_ok, stepK_pan, drawK_ite, drawK_none, drawK_ok, drawK_pan, opK_ite, opK_none, opK_val, opK_pan, wantK_true, wantK_false, wantK_some, afterRegion_ite, afterDraw_ite, fromBody_ite, ite_bool, ite_int, stepA_K, doOp, noOp, lexA_nil, lexA_cons, lexF_nil, lexF_cons, afterDraw, noClash, FP.clash, wantedA, evOp, rho, rhoL, ofC0, ofC, argsA, upd, afterRegion, putA, goOp, evBin_add, evBin_sub, evBin_mul, evBin_quo, evBin_rem, evBin_eql, evBin_neq, evBin_lss, evBin_leq, evBin_gtr, evBin_geq, evBin_eqlB, evBin_neqB, evBin_addS, evBin_eqlS, evBin_neqS, evBin_lssS, evBin_leqS, evUn, evConv, evIndex, evBuiltin, evLen, evMin2, evMax2, evCallee, evBox, evLoad, evStore, evFieldAddr, evField, evIndexAddr, evBuild, evBuildSlice, evElems, evSlice, nth, rdc, wrc, fromBody, resA, finRet, oneOf, AV.cells?, AV.isCell, fin_int, fin_bool, fin_str, -evBuildSlice, -evBuild, rfG, cutC, bodyOf, Try.f24, E_esc, h1, h4, h5, h9, hb9, hver, k24, c24, a24, i24, hl, htk, hal, hbs, hbd, hf]
end Go.Proofs.Ytemggoaefohliaa.NF

/- The page's simple, evaluated (3); its tidy. No condition. -/
namespace Go.Proofs.Ytemggoaefohliaa.NF
set_option linter.unusedVariables false
set_option linter.unusedSimpArgs false
open Go AE EX PT
set_option maxRecDepth 100000

set_option maxHeartbeats 4000000 in
theorem ev_ref : ∀ (m : Nat) (x : X), x.size ≤ m → x.bulk ≤ 1048576 → Shp x → ∀ (b : Bool) (n : Nat), 3 * m + 10 ≤ n → ∀ S, ev Try.prog E n 24 [x.emb, .bool b] S = some (.ret (x.ref b).emb, S)
  | 0, x, hm, _, _, _, _, _, _ => absurd hm (by have := size_pos x; omega)
  | m + 1, x, hm, hb, hs, b, n, hn, S => by
    obtain ⟨n, rfl⟩ : ∃ q, n = q + 3 := ⟨n - 3, by omega⟩
    obtain ⟨k, nm, a, lo, hi, tk, kids⟩ := x
    obtain ⟨⟨q1, q2, q3⟩, hk⟩ := shp_mk.1 hs
    simp only [X.size] at hm
    simp only [X.bulk] at hb
    have hl := bulkL_length kids
    have hl2 := sizeL_length kids
    have hrec : ∀ x ∈ kids, k ≠ 4 → ∀ b S, ev Try.prog E (n + 2) 24 [x.emb, .bool b] S = some (.ret (x.ref b).emb, S) := fun x hx h4 b S =>
      ev_ref m x (by have := sizeL_mem hx; omega) (by have := bulkL_mem hx; omega) (hk h4 x hx) b (n + 2) (by omega) S
    have hkk : (AV.slice (embL kids) (tokOf tk)).isCell = true := rfl
    have hE : (X.mk k nm a lo hi tk kids).emb = .agg [.int .i64 k, .str nm, .int .i64 a, .int .i64 lo, .int .i64 hi, .slice (embL kids) (tokOf tk)] := rfl
    have hcs : ∀ e t, AV.isCell (.slice e t) = true := fun _ _ => rfl
    have hci : ∀ k n, AV.isCell (.int k n) = true := fun _ _ => rfl
    have hcz : ∀ s, AV.isCell (.str s) = true := fun _ => rfl
    rw [hE, show n + 3 = (n + 2) + 1 from rfl, ev_enter (n := n + 2) (show E.ok 24 = true from rfl) Try.func24 f24b (Nat.le_of_ble_eq_true rfl) (by decide +kernel)]
    obtain ⟨fs1, e1, p1⟩ : ∃ fs', evCode ⟨Try.prog, E.esc 24, n + 2⟩ (ev Try.prog E (n + 2)) (E.ps 24) (n + 2) (.seq (.seq (.seq (.seq rf0 rf1) rf2) rf3) rf4) ⟨argsA [.agg [.int .i64 k, .str nm, .int .i64 a, .int .i64 lo, .int .i64 hi, .slice (embL kids) (tokOf tk)], .bool b], fun _ => (0, []), 0, S⟩ = some (.norm, fs') ∧
        RI (n + 2) (XC k nm a lo hi (.slice (embL kids) (tokOf tk))) b k S 0 fs' := by
      have g1 := bd50 19 20 22 23
      have g2 := bd50 20 19 23 22
      generalize AV.slice (embL kids) (tokOf tk) = kk at *
      refine ⟨_, by
        simp (disch := first | (simp only [List.length_append, List.length_cons, List.length_nil]; omega) | (simp; done) | assumption) [↓evOp_build, ↓evOp_bslice, rhoP_nil, rhoP_cons, evCode_skip, evCode_region, evCode_draw, evCode_seq, evCode_cond, evCode_block, evCode_loop, evCode_exit, evCode_ret, seqK_ite, seqK_none, seqK_norm, seqK_ret, seqK_exit, seqK_pan, condK_true, condK_false, condK_bool, blockK_ite, blockK_none, blockK_norm, blockK_ret, blockK_exit, blockK_pan, stepK_ite, stepK_none, stepK_ok, stepK_pan, drawK_ite, drawK_none, drawK_ok, drawK_pan, opK_ite, opK_none, opK_val, opK_pan, wantK_true, wantK_false, wantK_some, afterRegion_ite, afterDraw_ite, fromBody_ite, ite_bool, ite_int, stepA_K, doOp, noOp, lexA_nil, lexA_cons, lexF_nil, lexF_cons, afterDraw, noClash, FP.clash, wantedA, evOp, rho, rhoL, ofC0, ofC, argsA, upd, afterRegion, putA, goOp, evBin_add, evBin_sub, evBin_mul, evBin_quo, evBin_rem, evBin_eql, evBin_neq, evBin_lss, evBin_leq, evBin_gtr, evBin_geq, evBin_eqlB, evBin_neqB, evBin_addS, evBin_eqlS, evBin_neqS, evBin_lssS, evBin_leqS, evUn, evConv, evIndex, evBuiltin, evLen, evMin2, evMax2, evCallee, evBox, evLoad, evStore, evFieldAddr, evField, evIndexAddr, evBuild, evBuildSlice, evElems, evSlice, nth, rdc, wrc, fromBody, resA, finRet, oneOf, AV.cells?, AV.isCell, fin_int, fin_bool, fin_str, -evBuild, -AV.isCell, hkk, hci, hcz, rf0, rf1, rf2, rf3, rf4, cutC, bodyOf, Try.f24, E_esc, k24, c24, a24, z24, i24, k3, c3, a3, fq0, z50, c50, a50, i50, g1, g2]
        rfl, ⟨by simp [upd, argsA], by simp [upd], by simp [upd, XC], by simp [upd], by simp [upd]⟩, by simp [upd], by simp [upd], by simp [upd], by simp [upd], by rw [kA_0]; simp [upd], by simp [upd], rfl⟩
    obtain ⟨⟨o, fs2⟩, r1, r2, r3⟩ := iter_range (Q := fun r => r.1 = .exit 0 ∧ RJ (n + 2) (XC k nm a lo hi (.slice (embL kids) (tokOf tk))) b (if b then turn k else k) S r.2) (len := 4)
      (fun i hi' fs h => rf_round (n + 2) k _ _ _ _ _ b S i hi' fs h)
      (fun fs h => by
        obtain ⟨t, bx, v, S'⟩ := fs
        obtain ⟨⟨h1, h2, h3, h4, h5⟩, h6, h7, h8, h9, h10, h11, h12⟩ := h
        simp only at h1 h2 h3 h4 h5 h6 h7 h8 h9 h10 h11 h12
        rw [kA_4] at h10
        refine ⟨.exit 0, _, by
          simp (disch := first | (simp only [List.length_append, List.length_cons, List.length_nil]; omega) | (simp; done) | assumption) [↓evOp_build, ↓evOp_bslice, rhoP_nil, rhoP_cons, evCode_skip, evCode_region, evCode_draw, evCode_seq, evCode_cond, evCode_block, evCode_loop, evCode_exit, evCode_ret, seqK_ite, seqK_none, seqK_norm, seqK_ret, seqK_exit, seqK_pan, condK_true, condK_false, condK_bool, blockK_ite, blockK_none, blockK_norm, blockK_ret, blockK_exit, blockK_pan, stepK_ite, stepK_none, stepK_ok, stepK_pan, drawK_ite, drawK_none, drawK_ok, drawK_pan, opK_ite, opK_none, opK_val, opK_pan, wantK_true, wantK_false, wantK_some, afterRegion_ite, afterDraw_ite, fromBody_ite, ite_bool, ite_int, stepA_K, doOp, noOp, lexA_nil, lexA_cons, lexF_nil, lexF_cons, afterDraw, noClash, FP.clash, wantedA, evOp, rho, rhoL, ofC0, ofC, argsA, upd, afterRegion, putA, goOp, evBin_add, evBin_sub, evBin_mul, evBin_quo, evBin_rem, evBin_eql, evBin_neq, evBin_lss, evBin_leq, evBin_gtr, evBin_geq, evBin_eqlB, evBin_neqB, evBin_addS, evBin_eqlS, evBin_neqS, evBin_lssS, evBin_leqS, evUn, evConv, evIndex, evBuiltin, evLen, evMin2, evMax2, evCallee, evBox, evLoad, evStore, evFieldAddr, evField, evIndexAddr, evBuild, evBuildSlice, evElems, evSlice, nth, rdc, wrc, fromBody, resA, finRet, oneOf, AV.cells?, AV.isCell, fin_int, fin_bool, fin_str, rfLoop, cutC, bodyOf, Try.f24, h11, bq3]
          rfl, by simp, rfl, ⟨by simp [upd, h1], by simp [upd, h2], by simp [upd, h3, XC], by simp [upd, h4], by simp [upd, h5]⟩, by simp [upd, h10], h12⟩) 4 0 (n + 2) fs1 (by omega) (by omega) p1
    simp only at r2
    subst r2
    simp only at r3
    have hgo : ∀ R, evCode ⟨Try.prog, E.esc 24, n + 2⟩ (ev Try.prog E (n + 2)) (E.ps 24) (n + 2) (.seq rf0 (.seq rf1 (.seq rf2 (.seq rf3 (.seq (.seq rf4 (.block 0 (.loop rfLoop))) R))))) ⟨argsA [.agg [.int .i64 k, .str nm, .int .i64 a, .int .i64 lo, .int .i64 hi, .slice (embL kids) (tokOf tk)], .bool b], fun _ => (0, []), 0, S⟩ = evCode ⟨Try.prog, E.esc 24, n + 2⟩ (ev Try.prog E (n + 2)) (E.ps 24) (n + 2) R fs2 := fun R => by
      rw [evCode_assoc, evCode_assoc, evCode_assoc, evCode_assoc, evCode_seq, evCode_assoc, evCode_seq, e1, seqK_norm, evCode_block, evCode_loop, r1, blockK_exit, if_pos rfl, seqK_norm]
    rw [hgo]
    show fin24 (n + 2) S _ fs2 = _
    by_cases c1 : k = 18
    · subst c1
      match kids, q1 (.inl rfl), r3, hrec with
      | [y], _, r3, hrec =>
        have hx : (X.mk 18 nm a lo hi tk [y]).ref b = y.ref (!b) := by simp [X.ref, refLX, hdX]
        rw [hx]
        exact ret18 (n + 2) _ nm a lo hi tk y b _ S fs2 r3 (hrec y (by simp) (by decide) (!b) S)
    obtain ⟨fs3, e3, p3⟩ := passA (n + 2) k c1 nm a lo hi _ b _ S fs2 r3
    have step : ∀ (A R : Code) (f f' : FS), evCode ⟨Try.prog, E.esc 24, n + 2⟩ (ev Try.prog E (n + 2)) (E.ps 24) (n + 2) A f = some (.norm, f') → fin24 (n + 2) S (.seq A R) f = fin24 (n + 2) S R f' := fun A R f f' h => by
      unfold fin24; rw [evCode_seq, h, seqK_norm]
    rw [step _ _ _ _ e3]
    by_cases c2 : k = 19 ∨ k = 20
    · match kids, q2 c2, p3, hrec with
      | [y, w], _, p3, hrec =>
        have hx : (X.mk k nm a lo hi tk [y, w]).ref b = bothX (if b then turn k else k) (y.ref b) (w.ref b) := by rcases c2 with rfl | rfl <;> simp [X.ref, refLX, hdX, hd2X]
        rw [hx]
        exact ret19 (n + 2) _ k c2 nm a lo hi tk y w b _ S fs3 p3 (hrec y (by simp) (by omega) b S) (hrec w (by simp) (by omega) b S)
          (ev_join n _ (by cases b <;> rcases c2 with rfl | rfl <;> simp [turn]) (y.ref b) (w.ref b) S)
    obtain ⟨fs4, e4, p4⟩ := passB (n + 2) k c2 nm a lo hi _ b _ S fs3 p3
    rw [step _ _ _ _ e4]
    by_cases c3 : k = 22 ∨ k = 23
    · match kids, q1 (by omega), p4, hrec with
      | [y], _, p4, hrec =>
        have hx : (X.mk k nm a lo hi tk [y]).ref b = .mk (if b then turn k else k) [] 0 lo hi true [y.ref b] := by rcases c3 with rfl | rfl <;> simp [X.ref, refLX, hdX]
        rw [hx]
        exact ret22 (n + 2) _ k c3 nm a lo hi tk y b _ S fs4 p4 (hrec y (by simp) (by omega) b S)
    obtain ⟨fs5, e5, p5⟩ := passC (n + 2) k c3 nm a lo hi _ b _ S fs4 p4
    rw [step _ _ _ _ e5]
    by_cases c4 : k = 2 ∧ b = true
    · obtain ⟨rfl, rfl⟩ := c4
      have hx : (X.mk 2 nm a lo hi tk kids).ref true = .mk 2 [] (1 - a) 0 0 true [] := by simp [X.ref]
      rw [hx]
      exact ret2 (n + 2) _ nm a lo hi (q3 rfl) _ _ S fs5 p5
    obtain ⟨fs6, e6, p6⟩ := passD (n + 2) k nm a lo hi _ b c4 _ S fs5 p5
    rw [step _ _ _ _ e6]
    obtain ⟨fs7, ver, hver, e7, p7, p8, p9, p10⟩ := copyE (n + 2) k nm a lo hi _ hkk b _ S fs6 p6
    rw [step _ _ _ _ e7]
    have hx : (X.mk k nm a lo hi tk kids).ref b = if b = true then .mk 18 [] 0 0 0 true [if k = 4 then .mk k nm a lo hi tk kids else .mk k nm a lo hi kids.isEmpty (refLX kids false)] else if k = 4 then .mk k nm a lo hi tk kids else .mk k nm a lo hi kids.isEmpty (refLX kids false) := by
      simp only [X.ref, if_neg c1, if_neg c2, if_neg c3, if_neg c4]
    rw [hx]
    by_cases c5 : k = 4
    · obtain ⟨fs8, e8, s1, s2, s3, s4⟩ : ∃ fs', evCode ⟨Try.prog, E.esc 24, n + 2⟩ (ev Try.prog E (n + 2)) (E.ps 24) (n + 2) rfF fs7 = some (.norm, fs') ∧ RK (n + 2) (XC k nm a lo hi (.slice (embL kids) (tokOf tk))) b fs' ∧ fs'.t 9 = .loc (n + 2) 9 ver 0 ∧ fs'.b 9 = (ver, XC k nm a lo hi (.slice (embL kids) (tokOf tk))) ∧ fs'.S = S := by
        obtain ⟨t, bx, v, S'⟩ := fs7
        obtain ⟨h1, h2, h3, h4', h5⟩ := p7
        subst c5
        simp only [XC] at h1 h2 h3 h4' h5 p8 p9 p10
        exact ⟨_, by
          simp (disch := first | (simp only [List.length_append, List.length_cons, List.length_nil]; omega) | (simp; done) | assumption) [↓evOp_build, ↓evOp_bslice, rhoP_nil, rhoP_cons, evCode_skip, evCode_region, evCode_draw, evCode_seq, evCode_cond, evCode_block, evCode_loop, evCode_exit, evCode_ret, seqK_ite, seqK_none, seqK_norm, seqK_ret, seqK_exit, seqK_pan, condK_true, condK_false, condK_bool, blockK_ite, blockK_none, blockK_norm, blockK_ret, blockK_exit, blockK_pan, stepK_ite, stepK_none, stepK_ok, stepK_pan, drawK_ite, drawK_none, drawK_ok, drawK_pan, opK_ite, opK_none, opK_val, opK_pan, wantK_true, wantK_false, wantK_some, afterRegion_ite, afterDraw_ite, fromBody_ite, ite_bool, ite_int, stepA_K, doOp, noOp, lexA_nil, lexA_cons, lexF_nil, lexF_cons, afterDraw, noClash, FP.clash, wantedA, evOp, rho, rhoL, ofC0, ofC, argsA, upd, afterRegion, putA, goOp, evBin_add, evBin_sub, evBin_mul, evBin_quo, evBin_rem, evBin_eql, evBin_neq, evBin_lss, evBin_leq, evBin_gtr, evBin_geq, evBin_eqlB, evBin_neqB, evBin_addS, evBin_eqlS, evBin_neqS, evBin_lssS, evBin_leqS, evUn, evConv, evIndex, evBuiltin, evLen, evMin2, evMax2, evCallee, evBox, evLoad, evStore, evFieldAddr, evField, evIndexAddr, evBuild, evBuildSlice, evElems, evSlice, nth, rdc, wrc, fromBody, resA, finRet, oneOf, AV.cells?, AV.isCell, fin_int, fin_bool, fin_str, rfF, rfF0, cutC, bodyOf, Try.f24, E_esc, h1, h2, h3, fq0, k3, c3, a3, bq3, bne]
          rfl, ⟨by simp [upd, h1], by simp [upd, h2], by simp [upd, h3, XC], by simp [upd, h4'], by simp [upd, h5]⟩, by simp [upd, p8], by simp [upd, p9, XC], p10⟩
      rw [step _ _ _ _ e8]
      refine retG (n + 2) k nm a lo hi _ _ hkk b ver hver S S _ fs8 s1 s2 s3 s4 ?_
      cases b
      · simp only [Bool.false_eq_true, if_false, if_pos c5]
        exact fin_emb (X.mk k nm a lo hi tk kids) S
      · simp only [if_true, if_pos c5]
        exact fin_emb (X.mk 18 [] 0 0 0 true [X.mk k nm a lo hi tk kids]) S
    · obtain ⟨fs8, e8, s1, s2, s3, v, s4, s5⟩ := rf_kids (n + 2) k c5 nm a lo hi tk kids b ver hver S (by omega) (by omega) (fun x hx S => hrec x hx c5 false S) fs7 p7 p8 p9 p10
      rw [step _ _ _ _ e8]
      by_cases h0 : kids.length = 0
      · rw [if_pos h0] at s5
        obtain ⟨rfl, s5⟩ := s5
        have : kids = [] := List.eq_nil_of_length_eq_zero h0
        subst this
        refine retG (n + 2) k nm a lo hi _ _ rfl b ver hver S S _ fs8 s1 s2 s4 s5 ?_
        cases b
        · simp only [Bool.false_eq_true, if_false, if_neg c5]
          exact fin_emb (X.mk k nm a lo hi true []) S
        · simp only [if_true, if_neg c5]
          exact fin_emb (X.mk 18 [] 0 0 0 true [X.mk k nm a lo hi true []]) S
      · rw [if_neg h0, List.take_length] at s5
        obtain ⟨p, rfl, s5⟩ := s5
        have he : kids.isEmpty = false := by cases kids <;> simp_all
        refine retG (n + 2) k nm a lo hi _ _ rfl b ver hver S _ _ fs8 s1 s2 s4 s5 ?_
        cases b
        · simp only [Bool.false_eq_true, if_false, if_neg c5, he]
          exact fin_agg k nm a lo hi (refLX kids false) S p
        · simp only [if_true, if_neg c5, he]
          exact fin_aggN k nm a lo hi (refLX kids false) S p
end Go.Proofs.Ytemggoaefohliaa.NF

/- Is it tidy, evaluated. No condition. -/
namespace Go.Proofs.Ytemggoaefohliaa.NF
set_option linter.unusedVariables false
set_option linter.unusedSimpArgs false
open Go AE EX PT
set_option maxRecDepth 100000

noncomputable def tdLoop : Code := cutC (bodyOf Try.f25) [1, 0, 1, 0, 0]
noncomputable def td0 : Code := cutC (bodyOf Try.f25) [0]
noncomputable def td1 : Code := cutC (bodyOf Try.f25) [1, 0, 0]
noncomputable def td2 : Code := cutC (bodyOf Try.f25) [1, 1]
noncomputable def tdA : Code := cutC (bodyOf Try.f25) [1, 0, 1, 0, 0, 0]
noncomputable def tdB : Code := cutC (bodyOf Try.f25) [1, 0, 1, 0, 0, 1, 0, 0, 0]
noncomputable def tdC : Code := cutC (bodyOf Try.f25) [1, 0, 1, 0, 0, 1, 0, 0, 1, 0]
noncomputable def tdD : Code := cutC (bodyOf Try.f25) [1, 0, 1, 0, 0, 1, 0, 0, 1, 1]
noncomputable def tdE : Code := cutC (bodyOf Try.f25) [1, 0, 1, 0, 0, 1, 1]
theorem f25b : Try.f25.body = some (.seq td0 (.seq (.seq td1 (.block 0 (.loop tdLoop))) td2)) := rfl
theorem tdL : tdLoop = .seq tdA (.seq (.block 1 (.seq tdB (.seq tdC tdD))) tdE) := rfl

def TK (n : Nat) (k : Int) (nm : List UInt8) (a lo hi : Int) (tk : Bool) (kids : List X) (S0 : St) (i : Nat) (fs : FS) : Prop :=
  fs.t 1 = .loc n 1 1 0 ∧ fs.b 1 = (1, XC k nm a lo hi (.slice (embL kids) (tokOf tk))) ∧ fs.t 3 = .int .i64 i ∧ fs.S = S0
def TDI (n : Nat) (k : Int) (nm : List UInt8) (a lo hi : Int) (tk : Bool) (kids : List X) (S0 : St) (m : Nat) (fs : FS) : Prop :=
  ∃ i, i + m = kids.length ∧ TK n k nm a lo hi tk kids S0 i fs ∧ tidyL k (yL (kids.take i)) = true
def TDQ (k : Int) (kids : List X) (S0 : St) (r : Out × FS) : Prop :=
  r.2.S = S0 ∧ ((r.1 = .exit 0 ∧ tidyL k (yL kids) = true) ∨ (r.1 = .ret ∧ r.2.t 2 = .bool false ∧ tidyL k (yL kids) = false))

theorem tidyL_append (k : Int) : ∀ a b : List Y, tidyL k (a ++ b) = (tidyL k a && tidyL k b)
  | [], b => by simp [tidyL]
  | x :: a, b => by simp only [List.cons_append, tidyL, tidyL_append k a b, Bool.and_assoc]
theorem yL_append (a b : List X) : yL (a ++ b) = yL a ++ yL b := by simp [yL_map]

/-- the first question of a kid -/
def tdF (k j : Int) : Bool := k == 18 && (j == 18 || j == 19 || j == 20 || j == 22 || j == 23 || j == 2)
def tdG (k j : Int) : Bool := (k == 19 || k == 20) && j == 2
theorem tdKid_eq (k j : Int) : tdKid k j = (!tdF k j && !tdG k j) := rfl

set_option maxHeartbeats 4000000 in
theorem td_C (n : Nat) (k : Int) (nm : List UInt8) (a lo hi : Int) (tk : Bool) (kids : List X) (S0 : St) (i : Nat) (j : Int) (fs : FS) (h : TK n k nm a lo hi tk kids S0 i fs) (hj : fs.t 4 = .int .i64 j) :
    ∃ o fs', evCode ⟨Try.prog, E.esc 25, n⟩ (ev Try.prog E n) (E.ps 25) n tdC fs = some (o, fs') ∧
      ((tdF k j = true ∧ o = .ret ∧ fs'.t 2 = .bool false ∧ fs'.S = S0) ∨ (tdF k j = false ∧ o = .norm ∧ TK n k nm a lo hi tk kids S0 i fs' ∧ fs'.t 4 = .int .i64 j)) := by
  obtain ⟨t, b, v, S⟩ := fs
  obtain ⟨h1, h2, h3, h4⟩ := h
  simp only [XC] at h1 h2 h3 h4 hj
  have no : tdF k j = false → ∀ fs', evCode ⟨Try.prog, E.esc 25, n⟩ (ev Try.prog E n) (E.ps 25) n tdC ⟨t, b, v, S⟩ = some (.norm, fs') → (TK n k nm a lo hi tk kids S0 i fs' ∧ fs'.t 4 = .int .i64 j) →
      ∃ o fs', evCode ⟨Try.prog, E.esc 25, n⟩ (ev Try.prog E n) (E.ps 25) n tdC ⟨t, b, v, S⟩ = some (o, fs') ∧
      ((tdF k j = true ∧ o = .ret ∧ fs'.t 2 = .bool false ∧ fs'.S = S0) ∨ (tdF k j = false ∧ o = .norm ∧ TK n k nm a lo hi tk kids S0 i fs' ∧ fs'.t 4 = .int .i64 j)) := fun hf fs' e p => ⟨_, fs', e, .inr ⟨hf, rfl, p⟩⟩
  cases g : (k == 18)
  · refine no (by simp [tdF, g]) _ (by
      simp (disch := first | (simp only [List.length_append, List.length_cons, List.length_nil]; omega) | (simp; done) | assumption) [↓evOp_build, ↓evOp_bslice, rhoP_nil, rhoP_cons, evCode_skip, evCode_region, evCode_draw, evCode_seq, evCode_cond, evCode_block, evCode_loop, evCode_exit, evCode_ret, seqK_ite, seqK_none, seqK_norm, seqK_ret, seqK_exit, seqK_pan, condK_true, condK_false, condK_bool, blockK_ite, blockK_none, blockK_norm, blockK_ret, blockK_exit, blockK_pan, stepK_ite, stepK_none, stepK_ok, stepK_pan, drawK_ite, drawK_none, drawK_ok, drawK_pan, opK_ite, opK_none, opK_val, opK_pan, wantK_true, wantK_false, wantK_some, afterRegion_ite, afterDraw_ite, fromBody_ite, ite_bool, ite_int, stepA_K, doOp, noOp, lexA_nil, lexA_cons, lexF_nil, lexF_cons, afterDraw, noClash, FP.clash, wantedA, evOp, rho, rhoL, ofC0, ofC, argsA, upd, afterRegion, putA, goOp, evBin_add, evBin_sub, evBin_mul, evBin_quo, evBin_rem, evBin_eql, evBin_neq, evBin_lss, evBin_leq, evBin_gtr, evBin_geq, evBin_eqlB, evBin_neqB, evBin_addS, evBin_eqlS, evBin_neqS, evBin_lssS, evBin_leqS, evUn, evConv, evIndex, evBuiltin, evLen, evMin2, evMax2, evCallee, evBox, evLoad, evStore, evFieldAddr, evField, evIndexAddr, evBuild, evBuildSlice, evElems, evSlice, nth, rdc, wrc, fromBody, resA, finRet, oneOf, AV.cells?, AV.isCell, fin_int, fin_bool, fin_str, tdC, cutC, bodyOf, Try.f25, E_esc, h1, h2, h3, hj, fq0, k3, c3, a3, bq3, g]
      rfl) ⟨⟨by simp [upd, h1], by simp [upd, h2, XC], by simp [upd, h3], h4⟩, by simp [upd, hj]⟩
  · by_cases hq : j = 18 ∨ j = 19 ∨ j = 20 ∨ j = 22 ∨ j = 23 ∨ j = 2
    · have hf : tdF k j = true := by rcases hq with rfl | rfl | rfl | rfl | rfl | rfl <;> simp [tdF, g]
      rcases hq with rfl | rfl | rfl | rfl | rfl | rfl <;>
        exact ⟨_, _, by
          simp (disch := first | (simp only [List.length_append, List.length_cons, List.length_nil]; omega) | (simp; done) | assumption) [↓evOp_build, ↓evOp_bslice, rhoP_nil, rhoP_cons, evCode_skip, evCode_region, evCode_draw, evCode_seq, evCode_cond, evCode_block, evCode_loop, evCode_exit, evCode_ret, seqK_ite, seqK_none, seqK_norm, seqK_ret, seqK_exit, seqK_pan, condK_true, condK_false, condK_bool, blockK_ite, blockK_none, blockK_norm, blockK_ret, blockK_exit, blockK_pan, stepK_ite, stepK_none, stepK_ok, stepK_pan, drawK_ite, drawK_none, drawK_ok, drawK_pan, opK_ite, opK_none, opK_val, opK_pan, wantK_true, wantK_false, wantK_some, afterRegion_ite, afterDraw_ite, fromBody_ite, ite_bool, ite_int, stepA_K, doOp, noOp, lexA_nil, lexA_cons, lexF_nil, lexF_cons, afterDraw, noClash, FP.clash, wantedA, evOp, rho, rhoL, ofC0, ofC, argsA, upd, afterRegion, putA, goOp, evBin_add, evBin_sub, evBin_mul, evBin_quo, evBin_rem, evBin_eql, evBin_neq, evBin_lss, evBin_leq, evBin_gtr, evBin_geq, evBin_eqlB, evBin_neqB, evBin_addS, evBin_eqlS, evBin_neqS, evBin_lssS, evBin_leqS, evUn, evConv, evIndex, evBuiltin, evLen, evMin2, evMax2, evCallee, evBox, evLoad, evStore, evFieldAddr, evField, evIndexAddr, evBuild, evBuildSlice, evElems, evSlice, nth, rdc, wrc, fromBody, resA, finRet, oneOf, AV.cells?, AV.isCell, fin_int, fin_bool, fin_str, tdC, cutC, bodyOf, Try.f25, E_esc, h1, h2, h3, hj, fq0, k3, c3, a3, bq3, g]
          rfl, .inl ⟨hf, rfl, by simp [upd], h4⟩⟩
    · have g1 : (j == 18) = false := by simp; omega
      have g2 : (j == 19) = false := by simp; omega
      have g3 : (j == 20) = false := by simp; omega
      have g4 : (j == 22) = false := by simp; omega
      have g5 : (j == 23) = false := by simp; omega
      have g6 : (j == 2) = false := by simp; omega
      refine no (by simp [tdF, g, g1, g2, g3, g4, g5, g6]) _ (by
        simp (disch := first | (simp only [List.length_append, List.length_cons, List.length_nil]; omega) | (simp; done) | assumption) [↓evOp_build, ↓evOp_bslice, rhoP_nil, rhoP_cons, evCode_skip, evCode_region, evCode_draw, evCode_seq, evCode_cond, evCode_block, evCode_loop, evCode_exit, evCode_ret, seqK_ite, seqK_none, seqK_norm, seqK_ret, seqK_exit, seqK_pan, condK_true, condK_false, condK_bool, blockK_ite, blockK_none, blockK_norm, blockK_ret, blockK_exit, blockK_pan, stepK_ite, stepK_none, stepK_ok, stepK_pan, drawK_ite, drawK_none, drawK_ok, drawK_pan, opK_ite, opK_none, opK_val, opK_pan, wantK_true, wantK_false, wantK_some, afterRegion_ite, afterDraw_ite, fromBody_ite, ite_bool, ite_int, stepA_K, doOp, noOp, lexA_nil, lexA_cons, lexF_nil, lexF_cons, afterDraw, noClash, FP.clash, wantedA, evOp, rho, rhoL, ofC0, ofC, argsA, upd, afterRegion, putA, goOp, evBin_add, evBin_sub, evBin_mul, evBin_quo, evBin_rem, evBin_eql, evBin_neq, evBin_lss, evBin_leq, evBin_gtr, evBin_geq, evBin_eqlB, evBin_neqB, evBin_addS, evBin_eqlS, evBin_neqS, evBin_lssS, evBin_leqS, evUn, evConv, evIndex, evBuiltin, evLen, evMin2, evMax2, evCallee, evBox, evLoad, evStore, evFieldAddr, evField, evIndexAddr, evBuild, evBuildSlice, evElems, evSlice, nth, rdc, wrc, fromBody, resA, finRet, oneOf, AV.cells?, AV.isCell, fin_int, fin_bool, fin_str, tdC, cutC, bodyOf, Try.f25, E_esc, h1, h2, h3, hj, fq0, k3, c3, a3, bq3, g, g1, g2, g3, g4, g5, g6]
        rfl) ⟨⟨by simp [upd, h1], by simp [upd, h2, XC], by simp [upd, h3], h4⟩, by simp [upd, hj]⟩

set_option maxHeartbeats 4000000 in
theorem td_D (n : Nat) (k : Int) (nm : List UInt8) (a lo hi : Int) (tk : Bool) (kids : List X) (S0 : St) (i : Nat) (hi' : i < kids.length) (j : Int) (q : Bool) (fs : FS) (h : TK n k nm a lo hi tk kids S0 i fs) (hj : fs.t 4 = .int .i64 j)
    (hr : ev Try.prog E n 25 [kids[i].emb] S0 = some (.ret (.bool q), S0)) :
    ∃ o fs', evCode ⟨Try.prog, E.esc 25, n⟩ (ev Try.prog E n) (E.ps 25) n tdD fs = some (o, fs') ∧
      (((tdG k j || !q) = true ∧ o = .ret ∧ fs'.t 2 = .bool false ∧ fs'.S = S0) ∨ ((tdG k j || !q) = false ∧ o = .norm ∧ TK n k nm a lo hi tk kids S0 i fs')) := by
  obtain ⟨t, b, v, S⟩ := fs
  obtain ⟨h1, h2, h3, h4⟩ := h
  simp only [XC] at h1 h2 h3 h4 hj
  subst h4
  have hlen := embL_length kids
  have hltz : (i : Int) < kids.length := by omega
  have hxe : kids[i]? = some kids[i] := List.getElem?_eq_getElem hi'
  have hemb : (embL kids)[i]? = some kids[i].emb := by rw [embL_map, List.getElem?_map, hxe]; rfl
  have ha1 := cells_all kids[i]
  have hc1 := (cells_ok kids[i]).2
  have ht1 : List.take 6 kids[i].cells = kids[i].cells := List.take_of_length_le (by omega)
  obtain ⟨z, hz⟩ := ii24
  rw [emb_cells] at hemb hr
  generalize kids[i].cells = C1 at *
  by_cases hk : k = 19 ∨ k = 20
  · cases g : (j == 2)
    · have hf : (tdG k j || !q) = !q := by simp [tdG, g]
      rw [hf]
      rcases hk with rfl | rfl <;> cases q
      · exact ⟨_, _, by
          simp (disch := first | (simp only [List.length_append, List.length_cons, List.length_nil]; omega) | (simp; done) | assumption) [↓evOp_build, ↓evOp_bslice, rhoP_nil, rhoP_cons, evCode_skip, evCode_region, evCode_draw, evCode_seq, evCode_cond, evCode_block, evCode_loop, evCode_exit, evCode_ret, seqK_ite, seqK_none, seqK_norm, seqK_ret, seqK_exit, seqK_pan, condK_true, condK_false, condK_bool, blockK_ite, blockK_none, blockK_norm, blockK_ret, blockK_exit, blockK_pan, stepK_ite, stepK_none, stepK_ok, stepK_pan, drawK_ite, drawK_none, drawK_ok, drawK_pan, opK_ite, opK_none, opK_val, opK_pan, wantK_true, wantK_false, wantK_some, afterRegion_ite, afterDraw_ite, fromBody_ite, ite_bool, ite_int, stepA_K, doOp, noOp, lexA_nil, lexA_cons, lexF_nil, lexF_cons, afterDraw, noClash, FP.clash, wantedA, evOp, rho, rhoL, ofC0, ofC, argsA, upd, afterRegion, putA, goOp, evBin_add, evBin_sub, evBin_mul, evBin_quo, evBin_rem, evBin_eql, evBin_neq, evBin_lss, evBin_leq, evBin_gtr, evBin_geq, evBin_eqlB, evBin_neqB, evBin_addS, evBin_eqlS, evBin_neqS, evBin_lssS, evBin_leqS, evUn, evConv, evIndex, evBuiltin, evLen, evMin2, evMax2, evCallee, evBox, evLoad, evStore, evFieldAddr, evField, evIndexAddr, evBuild, evBuildSlice, evElems, evSlice, nth, rdc, wrc, fromBody, resA, finRet, oneOf, AV.cells?, AV.isCell, fin_int, fin_bool, fin_str, tdD, cutC, bodyOf, Try.f25, E_esc, h1, h2, h3, hj, fq0, fq5, k3, c3, a3, k22, c22, a22, k24, c24, a24, i24, hz, sq22, bq3, g, hlen, hi', hltz, hemb, ha1, hc1, ht1, hr]
          rfl, .inl ⟨rfl, rfl, by simp [upd], rfl⟩⟩
      · exact ⟨_, _, by
          simp (disch := first | (simp only [List.length_append, List.length_cons, List.length_nil]; omega) | (simp; done) | assumption) [↓evOp_build, ↓evOp_bslice, rhoP_nil, rhoP_cons, evCode_skip, evCode_region, evCode_draw, evCode_seq, evCode_cond, evCode_block, evCode_loop, evCode_exit, evCode_ret, seqK_ite, seqK_none, seqK_norm, seqK_ret, seqK_exit, seqK_pan, condK_true, condK_false, condK_bool, blockK_ite, blockK_none, blockK_norm, blockK_ret, blockK_exit, blockK_pan, stepK_ite, stepK_none, stepK_ok, stepK_pan, drawK_ite, drawK_none, drawK_ok, drawK_pan, opK_ite, opK_none, opK_val, opK_pan, wantK_true, wantK_false, wantK_some, afterRegion_ite, afterDraw_ite, fromBody_ite, ite_bool, ite_int, stepA_K, doOp, noOp, lexA_nil, lexA_cons, lexF_nil, lexF_cons, afterDraw, noClash, FP.clash, wantedA, evOp, rho, rhoL, ofC0, ofC, argsA, upd, afterRegion, putA, goOp, evBin_add, evBin_sub, evBin_mul, evBin_quo, evBin_rem, evBin_eql, evBin_neq, evBin_lss, evBin_leq, evBin_gtr, evBin_geq, evBin_eqlB, evBin_neqB, evBin_addS, evBin_eqlS, evBin_neqS, evBin_lssS, evBin_leqS, evUn, evConv, evIndex, evBuiltin, evLen, evMin2, evMax2, evCallee, evBox, evLoad, evStore, evFieldAddr, evField, evIndexAddr, evBuild, evBuildSlice, evElems, evSlice, nth, rdc, wrc, fromBody, resA, finRet, oneOf, AV.cells?, AV.isCell, fin_int, fin_bool, fin_str, tdD, cutC, bodyOf, Try.f25, E_esc, h1, h2, h3, hj, fq0, fq5, k3, c3, a3, k22, c22, a22, k24, c24, a24, i24, hz, sq22, bq3, g, hlen, hi', hltz, hemb, ha1, hc1, ht1, hr]
          rfl, .inr ⟨rfl, rfl, ⟨by simp [upd, h1], by simp [upd, h2, XC], by simp [upd, h3], rfl⟩⟩⟩
      · exact ⟨_, _, by
          simp (disch := first | (simp only [List.length_append, List.length_cons, List.length_nil]; omega) | (simp; done) | assumption) [↓evOp_build, ↓evOp_bslice, rhoP_nil, rhoP_cons, evCode_skip, evCode_region, evCode_draw, evCode_seq, evCode_cond, evCode_block, evCode_loop, evCode_exit, evCode_ret, seqK_ite, seqK_none, seqK_norm, seqK_ret, seqK_exit, seqK_pan, condK_true, condK_false, condK_bool, blockK_ite, blockK_none, blockK_norm, blockK_ret, blockK_exit, blockK_pan, stepK_ite, stepK_none, stepK_ok, stepK_pan, drawK_ite, drawK_none, drawK_ok, drawK_pan, opK_ite, opK_none, opK_val, opK_pan, wantK_true, wantK_false, wantK_some, afterRegion_ite, afterDraw_ite, fromBody_ite, ite_bool, ite_int, stepA_K, doOp, noOp, lexA_nil, lexA_cons, lexF_nil, lexF_cons, afterDraw, noClash, FP.clash, wantedA, evOp, rho, rhoL, ofC0, ofC, argsA, upd, afterRegion, putA, goOp, evBin_add, evBin_sub, evBin_mul, evBin_quo, evBin_rem, evBin_eql, evBin_neq, evBin_lss, evBin_leq, evBin_gtr, evBin_geq, evBin_eqlB, evBin_neqB, evBin_addS, evBin_eqlS, evBin_neqS, evBin_lssS, evBin_leqS, evUn, evConv, evIndex, evBuiltin, evLen, evMin2, evMax2, evCallee, evBox, evLoad, evStore, evFieldAddr, evField, evIndexAddr, evBuild, evBuildSlice, evElems, evSlice, nth, rdc, wrc, fromBody, resA, finRet, oneOf, AV.cells?, AV.isCell, fin_int, fin_bool, fin_str, tdD, cutC, bodyOf, Try.f25, E_esc, h1, h2, h3, hj, fq0, fq5, k3, c3, a3, k22, c22, a22, k24, c24, a24, i24, hz, sq22, bq3, g, hlen, hi', hltz, hemb, ha1, hc1, ht1, hr]
          rfl, .inl ⟨rfl, rfl, by simp [upd], rfl⟩⟩
      · exact ⟨_, _, by
          simp (disch := first | (simp only [List.length_append, List.length_cons, List.length_nil]; omega) | (simp; done) | assumption) [↓evOp_build, ↓evOp_bslice, rhoP_nil, rhoP_cons, evCode_skip, evCode_region, evCode_draw, evCode_seq, evCode_cond, evCode_block, evCode_loop, evCode_exit, evCode_ret, seqK_ite, seqK_none, seqK_norm, seqK_ret, seqK_exit, seqK_pan, condK_true, condK_false, condK_bool, blockK_ite, blockK_none, blockK_norm, blockK_ret, blockK_exit, blockK_pan, stepK_ite, stepK_none, stepK_ok, stepK_pan, drawK_ite, drawK_none, drawK_ok, drawK_pan, opK_ite, opK_none, opK_val, opK_pan, wantK_true, wantK_false, wantK_some, afterRegion_ite, afterDraw_ite, fromBody_ite, ite_bool, ite_int, stepA_K, doOp, noOp, lexA_nil, lexA_cons, lexF_nil, lexF_cons, afterDraw, noClash, FP.clash, wantedA, evOp, rho, rhoL, ofC0, ofC, argsA, upd, afterRegion, putA, goOp, evBin_add, evBin_sub, evBin_mul, evBin_quo, evBin_rem, evBin_eql, evBin_neq, evBin_lss, evBin_leq, evBin_gtr, evBin_geq, evBin_eqlB, evBin_neqB, evBin_addS, evBin_eqlS, evBin_neqS, evBin_lssS, evBin_leqS, evUn, evConv, evIndex, evBuiltin, evLen, evMin2, evMax2, evCallee, evBox, evLoad, evStore, evFieldAddr, evField, evIndexAddr, evBuild, evBuildSlice, evElems, evSlice, nth, rdc, wrc, fromBody, resA, finRet, oneOf, AV.cells?, AV.isCell, fin_int, fin_bool, fin_str, tdD, cutC, bodyOf, Try.f25, E_esc, h1, h2, h3, hj, fq0, fq5, k3, c3, a3, k22, c22, a22, k24, c24, a24, i24, hz, sq22, bq3, g, hlen, hi', hltz, hemb, ha1, hc1, ht1, hr]
          rfl, .inr ⟨rfl, rfl, ⟨by simp [upd, h1], by simp [upd, h2, XC], by simp [upd, h3], rfl⟩⟩⟩
    · have hf : (tdG k j || !q) = true := by rcases hk with rfl | rfl <;> simp [tdG, g]
      rcases hk with rfl | rfl <;>
        exact ⟨_, _, by
          simp (disch := first | (simp only [List.length_append, List.length_cons, List.length_nil]; omega) | (simp; done) | assumption) [↓evOp_build, ↓evOp_bslice, rhoP_nil, rhoP_cons, evCode_skip, evCode_region, evCode_draw, evCode_seq, evCode_cond, evCode_block, evCode_loop, evCode_exit, evCode_ret, seqK_ite, seqK_none, seqK_norm, seqK_ret, seqK_exit, seqK_pan, condK_true, condK_false, condK_bool, blockK_ite, blockK_none, blockK_norm, blockK_ret, blockK_exit, blockK_pan, stepK_ite, stepK_none, stepK_ok, stepK_pan, drawK_ite, drawK_none, drawK_ok, drawK_pan, opK_ite, opK_none, opK_val, opK_pan, wantK_true, wantK_false, wantK_some, afterRegion_ite, afterDraw_ite, fromBody_ite, ite_bool, ite_int, stepA_K, doOp, noOp, lexA_nil, lexA_cons, lexF_nil, lexF_cons, afterDraw, noClash, FP.clash, wantedA, evOp, rho, rhoL, ofC0, ofC, argsA, upd, afterRegion, putA, goOp, evBin_add, evBin_sub, evBin_mul, evBin_quo, evBin_rem, evBin_eql, evBin_neq, evBin_lss, evBin_leq, evBin_gtr, evBin_geq, evBin_eqlB, evBin_neqB, evBin_addS, evBin_eqlS, evBin_neqS, evBin_lssS, evBin_leqS, evUn, evConv, evIndex, evBuiltin, evLen, evMin2, evMax2, evCallee, evBox, evLoad, evStore, evFieldAddr, evField, evIndexAddr, evBuild, evBuildSlice, evElems, evSlice, nth, rdc, wrc, fromBody, resA, finRet, oneOf, AV.cells?, AV.isCell, fin_int, fin_bool, fin_str, tdD, cutC, bodyOf, Try.f25, E_esc, h1, h2, h3, hj, fq0, k3, c3, a3, bq3, g]
          rfl, .inl ⟨hf, rfl, by simp [upd], rfl⟩⟩
  · have g1 : (k == 19) = false := by simp; omega
    have g2 : (k == 20) = false := by simp; omega
    have hf : (tdG k j || !q) = !q := by simp [tdG, g1, g2]
    rw [hf]
    cases q
    · exact ⟨_, _, by
        simp (disch := first | (simp only [List.length_append, List.length_cons, List.length_nil]; omega) | (simp; done) | assumption) [↓evOp_build, ↓evOp_bslice, rhoP_nil, rhoP_cons, evCode_skip, evCode_region, evCode_draw, evCode_seq, evCode_cond, evCode_block, evCode_loop, evCode_exit, evCode_ret, seqK_ite, seqK_none, seqK_norm, seqK_ret, seqK_exit, seqK_pan, condK_true, condK_false, condK_bool, blockK_ite, blockK_none, blockK_norm, blockK_ret, blockK_exit, blockK_pan, stepK_ite, stepK_none, stepK_ok, stepK_pan, drawK_ite, drawK_none, drawK_ok, drawK_pan, opK_ite, opK_none, opK_val, opK_pan, wantK_true, wantK_false, wantK_some, afterRegion_ite, afterDraw_ite, fromBody_ite, ite_bool, ite_int, stepA_K, doOp, noOp, lexA_nil, lexA_cons, lexF_nil, lexF_cons, afterDraw, noClash, FP.clash, wantedA, evOp, rho, rhoL, ofC0, ofC, argsA, upd, afterRegion, putA, goOp, evBin_add, evBin_sub, evBin_mul, evBin_quo, evBin_rem, evBin_eql, evBin_neq, evBin_lss, evBin_leq, evBin_gtr, evBin_geq, evBin_eqlB, evBin_neqB, evBin_addS, evBin_eqlS, evBin_neqS, evBin_lssS, evBin_leqS, evUn, evConv, evIndex, evBuiltin, evLen, evMin2, evMax2, evCallee, evBox, evLoad, evStore, evFieldAddr, evField, evIndexAddr, evBuild, evBuildSlice, evElems, evSlice, nth, rdc, wrc, fromBody, resA, finRet, oneOf, AV.cells?, AV.isCell, fin_int, fin_bool, fin_str, tdD, cutC, bodyOf, Try.f25, E_esc, h1, h2, h3, hj, fq0, fq5, k3, c3, a3, k22, c22, a22, k24, c24, a24, i24, hz, sq22, bq3, g1, g2, hlen, hi', hltz, hemb, ha1, hc1, ht1, hr]
        rfl, .inl ⟨rfl, rfl, by simp [upd], rfl⟩⟩
    · exact ⟨_, _, by
        simp (disch := first | (simp only [List.length_append, List.length_cons, List.length_nil]; omega) | (simp; done) | assumption) [↓evOp_build, ↓evOp_bslice, rhoP_nil, rhoP_cons, evCode_skip, evCode_region, evCode_draw, evCode_seq, evCode_cond, evCode_block, evCode_loop, evCode_exit, evCode_ret, seqK_ite, seqK_none, seqK_norm, seqK_ret, seqK_exit, seqK_pan, condK_true, condK_false, condK_bool, blockK_ite, blockK_none, blockK_norm, blockK_ret, blockK_exit, blockK_pan, stepK_ite, stepK_none, stepK_ok, stepK_pan, drawK_ite, drawK_none, drawK_ok, drawK_pan, opK_ite, opK_none, opK_val, opK_pan, wantK_true, wantK_false, wantK_some, afterRegion_ite, afterDraw_ite, fromBody_ite, ite_bool, ite_int, stepA_K, doOp, noOp, lexA_nil, lexA_cons, lexF_nil, lexF_cons, afterDraw, noClash, FP.clash, wantedA, evOp, rho, rhoL, ofC0, ofC, argsA, upd, afterRegion, putA, goOp, evBin_add, evBin_sub, evBin_mul, evBin_quo, evBin_rem, evBin_eql, evBin_neq, evBin_lss, evBin_leq, evBin_gtr, evBin_geq, evBin_eqlB, evBin_neqB, evBin_addS, evBin_eqlS, evBin_neqS, evBin_lssS, evBin_leqS, evUn, evConv, evIndex, evBuiltin, evLen, evMin2, evMax2, evCallee, evBox, evLoad, evStore, evFieldAddr, evField, evIndexAddr, evBuild, evBuildSlice, evElems, evSlice, nth, rdc, wrc, fromBody, resA, finRet, oneOf, AV.cells?, AV.isCell, fin_int, fin_bool, fin_str, tdD, cutC, bodyOf, Try.f25, E_esc, h1, h2, h3, hj, fq0, fq5, k3, c3, a3, k22, c22, a22, k24, c24, a24, i24, hz, sq22, bq3, g1, g2, hlen, hi', hltz, hemb, ha1, hc1, ht1, hr]
        rfl, .inr ⟨rfl, rfl, ⟨by simp [upd, h1], by simp [upd, h2, XC], by simp [upd, h3], rfl⟩⟩⟩

set_option maxHeartbeats 4000000 in
theorem td_round (n : Nat) (k : Int) (nm : List UInt8) (a lo hi : Int) (tk : Bool) (kids : List X) (S0 : St) (hs : kids.length ≤ 1048576)
    (hrec : ∀ x ∈ kids, ∀ S, ev Try.prog E n 25 [x.emb] S = some (.ret (.bool x.toY.tidy), S)) (m : Nat) (fs : FS) (h : TDI n k nm a lo hi tk kids S0 m fs) :
    ∃ o fs', evCode ⟨Try.prog, E.esc 25, n⟩ (ev Try.prog E n) (E.ps 25) n tdLoop fs = some (o, fs') ∧ ((o = .norm ∧ ∃ m', m' < m ∧ TDI n k nm a lo hi tk kids S0 m' fs') ∨ (o ≠ .norm ∧ TDQ k kids S0 (o, fs'))) := by
  obtain ⟨i, hi', hT, hty⟩ := h
  have hlen := embL_length kids
  rw [tdL]
  cases m with
  | zero =>
    have hi'' : i = kids.length := by omega
    subst hi''
    obtain ⟨t, b, v, S⟩ := fs
    obtain ⟨h1, h2, h3, h4⟩ := hT
    simp only [XC] at h1 h2 h3 h4
    refine ⟨.exit 0, _, by
      simp (disch := first | (simp only [List.length_append, List.length_cons, List.length_nil]; omega) | (simp; done) | assumption) [↓evOp_build, ↓evOp_bslice, rhoP_nil, rhoP_cons, evCode_skip, evCode_region, evCode_draw, evCode_seq, evCode_cond, evCode_block, evCode_loop, evCode_exit, evCode_ret, seqK_ite, seqK_none, seqK_norm, seqK_ret, seqK_exit, seqK_pan, condK_true, condK_false, condK_bool, blockK_ite, blockK_none, blockK_norm, blockK_ret, blockK_exit, blockK_pan, stepK_ite, stepK_none, stepK_ok, stepK_pan, drawK_ite, drawK_none, drawK_ok, drawK_pan, opK_ite, opK_none, opK_val, opK_pan, wantK_true, wantK_false, wantK_some, afterRegion_ite, afterDraw_ite, fromBody_ite, ite_bool, ite_int, stepA_K, doOp, noOp, lexA_nil, lexA_cons, lexF_nil, lexF_cons, afterDraw, noClash, FP.clash, wantedA, evOp, rho, rhoL, ofC0, ofC, argsA, upd, afterRegion, putA, goOp, evBin_add, evBin_sub, evBin_mul, evBin_quo, evBin_rem, evBin_eql, evBin_neq, evBin_lss, evBin_leq, evBin_gtr, evBin_geq, evBin_eqlB, evBin_neqB, evBin_addS, evBin_eqlS, evBin_neqS, evBin_lssS, evBin_leqS, evUn, evConv, evIndex, evBuiltin, evLen, evMin2, evMax2, evCallee, evBox, evLoad, evStore, evFieldAddr, evField, evIndexAddr, evBuild, evBuildSlice, evElems, evSlice, nth, rdc, wrc, fromBody, resA, finRet, oneOf, AV.cells?, AV.isCell, fin_int, fin_bool, fin_str, tdA, cutC, bodyOf, Try.f25, E_esc, h1, h2, h3, fq5, k22, c22, a22, sq22, bq3, hlen]
      rfl, .inr ⟨by simp, h4, .inl ⟨rfl, by rw [List.take_length] at hty; exact hty⟩⟩⟩
  | succ m =>
    have hlt : i < kids.length := by omega
    have hltz : (i : Int) < kids.length := by omega
    have hxe : kids[i]? = some kids[i] := List.getElem?_eq_getElem hlt
    have hr := hrec kids[i] (List.getElem_mem hlt) S0
    have htd : tidyL k (yL (kids.take (i + 1))) = (tdKid k kids[i].toY.k && kids[i].toY.tidy) := by
      rw [List.take_add_one, hxe, Option.toList_some, yL_append, tidyL_append, hty]; simp [yL, tidyL]
    have hno : (tdKid k kids[i].toY.k && kids[i].toY.tidy) = false → tidyL k (yL kids) = false := fun h => by
      have d1 : kids = kids.take (i + 1) ++ kids.drop (i + 1) := (List.take_append_drop _ _).symm
      rw [d1, yL_append, tidyL_append, htd, h]; rfl
    -- to the loop's question, and to the kid's kind
    obtain ⟨fs1, e1, p1⟩ : ∃ fs', evCode ⟨Try.prog, E.esc 25, n⟩ (ev Try.prog E n) (E.ps 25) n tdA fs = some (.norm, fs') ∧ TK n k nm a lo hi tk kids S0 i fs' := by
      obtain ⟨t, b, v, S⟩ := fs
      obtain ⟨h1, h2, h3, h4⟩ := hT
      simp only [XC] at h1 h2 h3 h4
      exact ⟨_, by
        simp (disch := first | (simp only [List.length_append, List.length_cons, List.length_nil]; omega) | (simp; done) | assumption) [↓evOp_build, ↓evOp_bslice, rhoP_nil, rhoP_cons, evCode_skip, evCode_region, evCode_draw, evCode_seq, evCode_cond, evCode_block, evCode_loop, evCode_exit, evCode_ret, seqK_ite, seqK_none, seqK_norm, seqK_ret, seqK_exit, seqK_pan, condK_true, condK_false, condK_bool, blockK_ite, blockK_none, blockK_norm, blockK_ret, blockK_exit, blockK_pan, stepK_ite, stepK_none, stepK_ok, stepK_pan, drawK_ite, drawK_none, drawK_ok, drawK_pan, opK_ite, opK_none, opK_val, opK_pan, wantK_true, wantK_false, wantK_some, afterRegion_ite, afterDraw_ite, fromBody_ite, ite_bool, ite_int, stepA_K, doOp, noOp, lexA_nil, lexA_cons, lexF_nil, lexF_cons, afterDraw, noClash, FP.clash, wantedA, evOp, rho, rhoL, ofC0, ofC, argsA, upd, afterRegion, putA, goOp, evBin_add, evBin_sub, evBin_mul, evBin_quo, evBin_rem, evBin_eql, evBin_neq, evBin_lss, evBin_leq, evBin_gtr, evBin_geq, evBin_eqlB, evBin_neqB, evBin_addS, evBin_eqlS, evBin_neqS, evBin_lssS, evBin_leqS, evUn, evConv, evIndex, evBuiltin, evLen, evMin2, evMax2, evCallee, evBox, evLoad, evStore, evFieldAddr, evField, evIndexAddr, evBuild, evBuildSlice, evElems, evSlice, nth, rdc, wrc, fromBody, resA, finRet, oneOf, AV.cells?, AV.isCell, fin_int, fin_bool, fin_str, tdA, cutC, bodyOf, Try.f25, E_esc, h1, h2, h3, fq5, k22, c22, a22, sq22, bq3, hlen, hlt, hltz]
        rfl, by simp [upd, h1], by simp [upd, h2, XC], by simp [upd, h3], h4⟩
    obtain ⟨fs2, e2, p2, p3⟩ : ∃ fs', evCode ⟨Try.prog, E.esc 25, n⟩ (ev Try.prog E n) (E.ps 25) n tdB fs1 = some (.norm, fs') ∧ TK n k nm a lo hi tk kids S0 i fs' ∧ fs'.t 4 = .int .i64 kids[i].toY.k := by
      obtain ⟨t, b, v, S⟩ := fs1
      obtain ⟨h1, h2, h3, h4⟩ := p1
      simp only [XC] at h1 h2 h3 h4
      have hemb : (embL kids)[i]? = some kids[i].emb := by rw [embL_map, List.getElem?_map, hxe]; rfl
      obtain ⟨z, hz⟩ := ii24
      generalize kids[i] = x at *
      obtain ⟨k', nm', a', lo', hi'', tk', ks'⟩ := x
      simp only [X.emb] at hemb
      simp only [X.toY, Y.k]
      exact ⟨_, by
        simp (disch := first | (simp only [List.length_append, List.length_cons, List.length_nil]; omega) | (simp; done) | assumption) [↓evOp_build, ↓evOp_bslice, rhoP_nil, rhoP_cons, evCode_skip, evCode_region, evCode_draw, evCode_seq, evCode_cond, evCode_block, evCode_loop, evCode_exit, evCode_ret, seqK_ite, seqK_none, seqK_norm, seqK_ret, seqK_exit, seqK_pan, condK_true, condK_false, condK_bool, blockK_ite, blockK_none, blockK_norm, blockK_ret, blockK_exit, blockK_pan, stepK_ite, stepK_none, stepK_ok, stepK_pan, drawK_ite, drawK_none, drawK_ok, drawK_pan, opK_ite, opK_none, opK_val, opK_pan, wantK_true, wantK_false, wantK_some, afterRegion_ite, afterDraw_ite, fromBody_ite, ite_bool, ite_int, stepA_K, doOp, noOp, lexA_nil, lexA_cons, lexF_nil, lexF_cons, afterDraw, noClash, FP.clash, wantedA, evOp, rho, rhoL, ofC0, ofC, argsA, upd, afterRegion, putA, goOp, evBin_add, evBin_sub, evBin_mul, evBin_quo, evBin_rem, evBin_eql, evBin_neq, evBin_lss, evBin_leq, evBin_gtr, evBin_geq, evBin_eqlB, evBin_neqB, evBin_addS, evBin_eqlS, evBin_neqS, evBin_lssS, evBin_leqS, evUn, evConv, evIndex, evBuiltin, evLen, evMin2, evMax2, evCallee, evBox, evLoad, evStore, evFieldAddr, evField, evIndexAddr, evBuild, evBuildSlice, evElems, evSlice, nth, rdc, wrc, fromBody, resA, finRet, oneOf, AV.cells?, AV.isCell, fin_int, fin_bool, fin_str, tdB, cutC, bodyOf, Try.f25, E_esc, h1, h2, h3, fq0, fq5, k3, c3, a3, k22, c22, a22, c24, a24, i24, hz, sq22, bq3, hlen, hlt, hltz, hemb]
        rfl, ⟨by simp [upd, h1], by simp [upd, h2, XC], by simp [upd, h3], h4⟩, by simp [upd]⟩
    obtain ⟨o3, fs3, e3, p4⟩ := td_C n k nm a lo hi tk kids S0 i kids[i].toY.k fs2 p2 p3
    rcases p4 with ⟨hF, rfl, g1, g2⟩ | ⟨hF, rfl, g1, g2⟩
    · refine ⟨.ret, fs3, ?_, .inr ⟨by simp, g2, .inr ⟨rfl, g1, hno (by rw [tdKid_eq, hF]; rfl)⟩⟩⟩
      rw [evCode_seq, e1, seqK_norm, evCode_seq, evCode_block, evCode_seq, e2, seqK_norm, evCode_seq, e3, seqK_ret, blockK_ret, seqK_ret]
    obtain ⟨o4, fs4, e4, p5⟩ := td_D n k nm a lo hi tk kids S0 i hlt kids[i].toY.k kids[i].toY.tidy fs3 g1 g2 hr
    rcases p5 with ⟨hG, rfl, q1, q2⟩ | ⟨hG, rfl, q1⟩
    · refine ⟨.ret, fs4, ?_, .inr ⟨by simp, q2, .inr ⟨rfl, q1, hno ?_⟩⟩⟩
      · rw [evCode_seq, e1, seqK_norm, evCode_seq, evCode_block, evCode_seq, e2, seqK_norm, evCode_seq, e3, seqK_norm, e4, blockK_ret, seqK_ret]
      · rw [tdKid_eq, hF]
        cases g : tdG k kids[i].toY.k <;> cases g' : kids[i].toY.tidy <;> simp_all
    · obtain ⟨fs5, e5, p6⟩ : ∃ fs', evCode ⟨Try.prog, E.esc 25, n⟩ (ev Try.prog E n) (E.ps 25) n tdE fs4 = some (.norm, fs') ∧ TK n k nm a lo hi tk kids S0 (i + 1) fs' := by
        obtain ⟨t, b, v, S⟩ := fs4
        obtain ⟨h1, h2, h3, h4⟩ := q1
        simp only [XC] at h1 h2 h3 h4
        have hw : IntKind.i64.wrap ((i : Int) + 1) = (i : Int) + 1 := wrap64 _ (by omega)
        exact ⟨_, by
          simp (disch := first | (simp only [List.length_append, List.length_cons, List.length_nil]; omega) | (simp; done) | assumption) [↓evOp_build, ↓evOp_bslice, rhoP_nil, rhoP_cons, evCode_skip, evCode_region, evCode_draw, evCode_seq, evCode_cond, evCode_block, evCode_loop, evCode_exit, evCode_ret, seqK_ite, seqK_none, seqK_norm, seqK_ret, seqK_exit, seqK_pan, condK_true, condK_false, condK_bool, blockK_ite, blockK_none, blockK_norm, blockK_ret, blockK_exit, blockK_pan, stepK_ite, stepK_none, stepK_ok, stepK_pan, drawK_ite, drawK_none, drawK_ok, drawK_pan, opK_ite, opK_none, opK_val, opK_pan, wantK_true, wantK_false, wantK_some, afterRegion_ite, afterDraw_ite, fromBody_ite, ite_bool, ite_int, stepA_K, doOp, noOp, lexA_nil, lexA_cons, lexF_nil, lexF_cons, afterDraw, noClash, FP.clash, wantedA, evOp, rho, rhoL, ofC0, ofC, argsA, upd, afterRegion, putA, goOp, evBin_add, evBin_sub, evBin_mul, evBin_quo, evBin_rem, evBin_eql, evBin_neq, evBin_lss, evBin_leq, evBin_gtr, evBin_geq, evBin_eqlB, evBin_neqB, evBin_addS, evBin_eqlS, evBin_neqS, evBin_lssS, evBin_leqS, evUn, evConv, evIndex, evBuiltin, evLen, evMin2, evMax2, evCallee, evBox, evLoad, evStore, evFieldAddr, evField, evIndexAddr, evBuild, evBuildSlice, evElems, evSlice, nth, rdc, wrc, fromBody, resA, finRet, oneOf, AV.cells?, AV.isCell, fin_int, fin_bool, fin_str, tdE, cutC, bodyOf, Try.f25, E_esc, h3, bq3]
          rfl, by simp [upd, h1], by simp [upd, h2, XC], by simp [upd, hw], h4⟩
      refine ⟨.norm, fs5, ?_, .inl ⟨rfl, m, by omega, i + 1, by omega, p6, ?_⟩⟩
      · rw [evCode_seq, e1, seqK_norm, evCode_seq, evCode_block, evCode_seq, e2, seqK_norm, evCode_seq, e3, seqK_norm, e4, blockK_norm, seqK_norm, e5]
      · rw [htd, tdKid_eq, hF]
        cases g : tdG k kids[i].toY.k <;> cases g' : kids[i].toY.tidy <;> simp_all

theorem ev_tidy : ∀ (m : Nat) (x : X), x.size ≤ m → m ≤ 1048576 → ∀ n, m + 2 ≤ n → ∀ S, ev Try.prog E n 25 [x.emb] S = some (.ret (.bool x.toY.tidy), S)
  | 0, x, hm, _, _, _, _ => absurd hm (by have := size_pos x; omega)
  | m + 1, x, hm, hmm, n, hn, S => by
    obtain ⟨n, rfl⟩ : ∃ k, n = k + 1 := ⟨n - 1, by omega⟩
    obtain ⟨k, nm, a, lo, hi, tk, kids⟩ := x
    simp only [X.size] at hm
    have hl := sizeL_length kids
    have hE : (X.mk k nm a lo hi tk kids).emb = .agg (XC k nm a lo hi (.slice (embL kids) (tokOf tk))) := rfl
    have hlc : (XC k nm a lo hi (.slice (embL kids) (tokOf tk))).length = 6 := rfl
    have hal : (XC k nm a lo hi (.slice (embL kids) (tokOf tk))).all AV.isCell = true := rfl
    have hty : (X.mk k nm a lo hi tk kids).toY.tidy = tidyL k (yL kids) := rfl
    rw [hE, hty, ev_enter (n := n) (show E.ok 25 = true from rfl) Try.func25 f25b (Nat.le_of_ble_eq_true rfl) (by decide +kernel)]
    obtain ⟨fs1, e1, p1⟩ : ∃ fs', evCode ⟨Try.prog, E.esc 25, n⟩ (ev Try.prog E n) (E.ps 25) n (.seq td0 td1) ⟨argsA [.agg (XC k nm a lo hi (.slice (embL kids) (tokOf tk)))], fun _ => (0, []), 0, S⟩ = some (.norm, fs') ∧ TDI n k nm a lo hi tk kids S kids.length fs' := by
      generalize hD : XC k nm a lo hi (.slice (embL kids) (tokOf tk)) = D at *
      refine ⟨_, by
        simp (disch := first | (simp only [List.length_append, List.length_cons, List.length_nil]; omega) | (simp; done) | assumption) [↓evOp_build, ↓evOp_bslice, rhoP_nil, rhoP_cons, evCode_skip, evCode_region, evCode_draw, evCode_seq, evCode_cond, evCode_block, evCode_loop, evCode_exit, evCode_ret, seqK_ite, seqK_none, seqK_norm, seqK_ret, seqK_exit, seqK_pan, condK_true, condK_false, condK_bool, blockK_ite, blockK_none, blockK_norm, blockK_ret, blockK_exit, blockK_pan, stepK_ite, stepK_none, stepK_ok, stepK_pan, drawK_ite, drawK_none, drawK_ok, drawK_pan, opK_ite, opK_none, opK_val, opK_pan, wantK_true, wantK_false, wantK_some, afterRegion_ite, afterDraw_ite, fromBody_ite, ite_bool, ite_int, stepA_K, doOp, noOp, lexA_nil, lexA_cons, lexF_nil, lexF_cons, afterDraw, noClash, FP.clash, wantedA, evOp, rho, rhoL, ofC0, ofC, argsA, upd, afterRegion, putA, goOp, evBin_add, evBin_sub, evBin_mul, evBin_quo, evBin_rem, evBin_eql, evBin_neq, evBin_lss, evBin_leq, evBin_gtr, evBin_geq, evBin_eqlB, evBin_neqB, evBin_addS, evBin_eqlS, evBin_neqS, evBin_lssS, evBin_leqS, evUn, evConv, evIndex, evBuiltin, evLen, evMin2, evMax2, evCallee, evBox, evLoad, evStore, evFieldAddr, evField, evIndexAddr, evBuild, evBuildSlice, evElems, evSlice, nth, rdc, wrc, fromBody, resA, finRet, oneOf, AV.cells?, AV.isCell, fin_int, fin_bool, fin_str, -AV.isCell, td0, td1, cutC, bodyOf, Try.f25, E_esc, hlc, hal]
        rfl, 0, by omega, ⟨by simp [upd], by simp [upd]; exact hD.symm, by simp [upd], rfl⟩, by simp [yL, tidyL]⟩
    obtain ⟨⟨o, fs2⟩, r1, r2, r3⟩ := iter_meas (fun m' fs h => td_round n k nm a lo hi tk kids S (by omega) (fun x hx S => ev_tidy m x (by have := sizeL_mem hx; omega) (by omega) n (by omega) S) m' fs h) kids.length n fs1 (by omega) p1
    simp only at r2 r3
    rw [evCode_assoc, evCode_seq, evCode_assoc, evCode_seq, e1, seqK_norm, evCode_block, evCode_loop, r1]
    obtain ⟨t, b, v, S'⟩ := fs2
    simp only at r2
    subst r2
    rcases r3 with ⟨rfl, ht⟩ | ⟨rfl, h2, ht⟩
    · rw [ht]
      simp (disch := first | (simp only [List.length_append, List.length_cons, List.length_nil]; omega) | (simp; done) | assumption) [↓evOp_build, ↓evOp_bslice, rhoP_nil, rhoP_cons, evCode_skip, evCode_region, evCode_draw, evCode_seq, evCode_cond, evCode_block, evCode_loop, evCode_exit, evCode_ret, seqK_ite, seqK_none, seqK_norm, seqK_ret, seqK_exit, seqK_pan, condK_true, condK_false, condK_bool, blockK_ite, blockK_none, blockK_norm, blockK_ret, blockK_exit, blockK_pan, stepK_ite, stepK_none, stepK_ok, stepK_pan, drawK_ite, drawK_none, drawK_ok, drawK_pan, opK_ite, opK_none, opK_val, opK_pan, wantK_true, wantK_false, wantK_some, afterRegion_ite, afterDraw_ite, fromBody_ite, ite_bool, ite_int, stepA_K, doOp, noOp, lexA_nil, lexA_cons, lexF_nil, lexF_cons, afterDraw, noClash, FP.clash, wantedA, evOp, rho, rhoL, ofC0, ofC, argsA, upd, afterRegion, putA, goOp, evBin_add, evBin_sub, evBin_mul, evBin_quo, evBin_rem, evBin_eql, evBin_neq, evBin_lss, evBin_leq, evBin_gtr, evBin_geq, evBin_eqlB, evBin_neqB, evBin_addS, evBin_eqlS, evBin_neqS, evBin_lssS, evBin_leqS, evUn, evConv, evIndex, evBuiltin, evLen, evMin2, evMax2, evCallee, evBox, evLoad, evStore, evFieldAddr, evField, evIndexAddr, evBuild, evBuildSlice, evElems, evSlice, nth, rdc, wrc, fromBody, resA, finRet, oneOf, AV.cells?, AV.isCell, fin_int, fin_bool, fin_str, td2, cutC, bodyOf, Try.f25]
    · rw [ht]
      simp only at h2
      simp (disch := first | (simp only [List.length_append, List.length_cons, List.length_nil]; omega) | (simp; done) | assumption) [↓evOp_build, ↓evOp_bslice, rhoP_nil, rhoP_cons, evCode_skip, evCode_region, evCode_draw, evCode_seq, evCode_cond, evCode_block, evCode_loop, evCode_exit, evCode_ret, seqK_ite, seqK_none, seqK_norm, seqK_ret, seqK_exit, seqK_pan, condK_true, condK_false, condK_bool, blockK_ite, blockK_none, blockK_norm, blockK_ret, blockK_exit, blockK_pan, stepK_ite, stepK_none, stepK_ok, stepK_pan, drawK_ite, drawK_none, drawK_ok, drawK_pan, opK_ite, opK_none, opK_val, opK_pan, wantK_true, wantK_false, wantK_some, afterRegion_ite, afterDraw_ite, fromBody_ite, ite_bool, ite_int, stepA_K, doOp, noOp, lexA_nil, lexA_cons, lexF_nil, lexF_cons, afterDraw, noClash, FP.clash, wantedA, evOp, rho, rhoL, ofC0, ofC, argsA, upd, afterRegion, putA, goOp, evBin_add, evBin_sub, evBin_mul, evBin_quo, evBin_rem, evBin_eql, evBin_neq, evBin_lss, evBin_leq, evBin_gtr, evBin_geq, evBin_eqlB, evBin_neqB, evBin_addS, evBin_eqlS, evBin_neqS, evBin_lssS, evBin_leqS, evUn, evConv, evIndex, evBuiltin, evLen, evMin2, evMax2, evCallee, evBox, evLoad, evStore, evFieldAddr, evField, evIndexAddr, evBuild, evBuildSlice, evElems, evSlice, nth, rdc, wrc, fromBody, resA, finRet, oneOf, AV.cells?, AV.isCell, fin_int, fin_bool, fin_str, Try.f25, h2]
end Go.Proofs.Ytemggoaefohliaa.NF

/- The laws of what is made simple, evaluated. No condition. -/
namespace Go.Proofs.Ytemggoaefohliaa.NF
set_option linter.unusedVariables false
set_option linter.unusedSimpArgs false
open Go AE EX PT
set_option maxRecDepth 100000

theorem ev_alive30 : ev Try.prog E 3000000 20 [] st0 = some (.ret (.bool true), st0) := by kernel_rfl

theorem of_toY {x : X} (h : OKx x) : (ofX x).toY = x.toY.sim := by rw [ofX_pos h, cl_y, sim_y]
theorem not_toY {x : X} (h : OKx x) : (notX x).toY = x.toY.sim.neg := by rw [notX_pos h, cl_y, neg_y, sim_y]
theorem of_bad {x : X} (h : ¬ OKx x) : (ofX x).toY = x.toY := by rw [ofX_neg h, cl_y]
theorem not_bad {x : X} (h : ¬ OKx x) : (notX x).toY = x.toY := by rw [notX_neg h, cl_y]
theorem of_sm {x : X} (h : Sm x.toY) : (ofX x).same x = true := by
  apply same_eq
  by_cases hx : OKx x
  · rw [of_toY hx, sm_sim h]
  · exact of_bad hx
theorem ref_bulk {x : X} (h : OKx x) (b : Bool) : (x.ref b).bulk ≤ 46080 := by
  have h1 := ref_sim (ok_gd h)
  have h2 := sim_bulk h
  rw [← bulk_y, ref_y]
  cases b
  · rw [h1.1, ← sim_y, bulk_y]; exact h2.1
  · rw [h1.2, ← sim_y, ← neg_y, bulk_y]; exact h2.2
theorem same_bool {x y z w : X} (h1 : x.toY = z.toY) (h2 : y.toY = w.toY) : x.same y = z.same w := by
  rw [Bool.eq_iff_iff, same_y, same_y, h1, h2]
theorem same_comm (x y : X) : x.same y = y.same x := by rw [Bool.eq_iff_iff, same_y, same_y]; exact eq_comm

theorem ev_plain (n : Nat) (hn : 1100000 ≤ n) (x y : X) (hx : x.bulk ≤ 1048576) (hy : y.bulk ≤ 1048576) (S : St) : ev Try.prog E n 19 [x.emb, y.emb] S = some (.ret (.bool (x.same y)), S) := by
  have h1 := size7 x
  have h2 := size7 y
  exact ev_same x.size x y (Nat.le_refl _) (by omega) (by omega) n (by omega) S

theorem ck (n : Nat) (hn : 1500000 ≤ n) (x : X) (hx : x.size ≤ 1048000) (S : St) : ∃ c : Int, ev Try.prog E n 16 [x.emb] S = some (.ret (.int .i64 c), S) ∧ (c = 0 ↔ OKx x) := by
  have := ev_Check (n - 1) x (by omega) (by omega) (by omega) S
  rwa [show n - 1 + 1 = n by omega] at this

set_option maxHeartbeats 8000000 in
theorem ev_tells30 (n : Nat) (hn : 2900000 ≤ n) (hal : ev Try.prog E n 20 [] st0 = some (.ret (.bool true), st0)) (x : X) (hb : x.bulk ≤ 1048576) :
    ev Try.prog E (n + 1) 6 [x.emb] st0 = some (.ret (.bool true), st0) := by
  have hsz := size7 x
  have hO : ev Try.prog E n 21 [x.emb] st0 = some (.ret (ofX x).emb, st0) := by
    have := ev_Of (n - 2) x hb (by omega) st0; rwa [show n - 2 + 2 = n by omega] at this
  have hN : ev Try.prog E n 22 [x.emb] st0 = some (.ret (notX x).emb, st0) := by
    have := ev_Not (n - 2) x hb (by omega) st0; rwa [show n - 2 + 2 = n by omega] at this
  have hI : ev Try.prog E n 23 [x.emb] st0 = some (.ret (.bool ((ofX x).same x)), st0) := by
    have := ev_Is (n - 3) x hb (by omega) st0; rwa [show n - 3 + 3 = n by omega] at this
  obtain ⟨c, hC, hc⟩ := ck n (by omega) x (by omega) st0
  have hS1 := ev_plain n (by omega) (ofX x) x (of_bulk hb) hb st0
  have hS2 := ev_plain n (by omega) (notX x) x (not_bulk hb) hb st0
  have ha1 := cells_all x
  have hc1 := (cells_ok x).2
  have ht1 : List.take 6 x.cells = x.cells := List.take_of_length_le (by omega)
  have ha2 := cells_all (ofX x)
  have hc2 := (cells_ok (ofX x)).2
  have ht2 : List.take 6 (ofX x).cells = (ofX x).cells := List.take_of_length_le (by omega)
  have ha3 := cells_all (notX x)
  have hc3 := (cells_ok (notX x)).2
  have ht3 : List.take 6 (notX x).cells = (notX x).cells := List.take_of_length_le (by omega)
  have hp3 : E.ps 6 3 = [(0, 2), (1, 2), (0, 4), (1, 4), (2, 4), (3, 4), (0, 5), (1, 5), (2, 5), (3, 5), (4, 5)] := rfl
  have hp7 : E.ps 6 7 = [(0, 1), (4, 5), (4, 6), (10, 12), (11, 12), (10, 13), (11, 13), (12, 13)] := rfl
  rw [ev_enter (n := n) (show E.ok 6 = true from rfl) Try.func6 (fn := Try.f6) rfl (Nat.le_of_ble_eq_true rfl) (by decide +kernel)]
  by_cases h : OKx x
  · have hc0 : c = 0 := hc.2 h
    subst hc0
    have hkb := ok_bulk h
    have hsz' : x.size ≤ 3300 := by omega
    have hR := fun b => ev_ref x.size x (Nat.le_refl _) hb (ok_shp h) b n (by omega) st0
    have hR0 := hR false
    have hR1 := hR true
    have hb0 := ref_bulk h false
    have hb1 := ref_bulk h true
    have hT1 := ev_plain n (by omega) (ofX x) (x.ref false) (of_bulk hb) (by omega) st0
    have hT2 := ev_plain n (by omega) (notX x) (x.ref true) (not_bulk hb) (by omega) st0
    have hT3 := ev_plain n (by omega) x (x.ref false) hb (by omega) st0
    have y0 : (x.ref false).toY = x.toY.sim := by rw [ref_y]; exact (ref_sim (ok_gd h)).1
    have y1 : (x.ref true).toY = x.toY.sim.neg := by rw [ref_y]; exact (ref_sim (ok_gd h)).2
    rw [same_eq (by rw [of_toY h, y0])] at hT1
    rw [same_eq (by rw [not_toY h, y1])] at hT2
    rw [same_comm, same_bool (z := ofX x) (w := x) (by rw [of_toY h, y0]) rfl] at hT3
    have ha4 := cells_all (x.ref false)
    have hc4 := (cells_ok (x.ref false)).2
    have ht4 : List.take 6 (x.ref false).cells = (x.ref false).cells := List.take_of_length_le (by omega)
    generalize (ofX x).same x = q at *
    rw [emb_cells, emb_cells (ofX x)] at hO
    rw [emb_cells, emb_cells (notX x)] at hN
    rw [emb_cells] at hI hC
    rw [emb_cells, emb_cells (x.ref false)] at hR0 hT1 hT3
    rw [emb_cells] at hR1
    rw [emb_cells] at hT2
    rw [emb_cells]
    generalize (x.ref true).emb = r1 at *
    generalize (x.ref false).cells = C4 at *
    generalize (notX x).cells = C3 at *
    generalize (ofX x).cells = C2 at *
    generalize x.cells = C1 at *
    cases q <;>
      simp (disch := first | (simp only [List.length_append, List.length_cons, List.length_nil]; omega) | (simp; done) | assumption) [↓evOp_build, ↓evOp_bslice, rhoP_nil, rhoP_cons, evCode_skip, evCode_region, evCode_draw, evCode_seq, evCode_cond, evCode_block, evCode_loop, evCode_exit, evCode_ret, seqK_ite, seqK_none, seqK_norm, seqK_ret, seqK_exit, seqK_pan, condK_true, condK_false, condK_bool, blockK_ite, blockK_none, blockK_norm, blockK_ret, blockK_exit, blockK_pan, stepK_ite, stepK_none, stepK_ok, stepK_pan, drawK_ite, drawK_none, drawK_ok, drawK_pan, opK_ite, opK_none, opK_val, opK_pan, wantK_true, wantK_false, wantK_some, afterRegion_ite, afterDraw_ite, fromBody_ite, ite_bool, ite_int, stepA_K, doOp, noOp, lexA_nil, lexA_cons, lexF_nil, lexF_cons, afterDraw, noClash, FP.clash, wantedA, evOp, rho, rhoL, ofC0, ofC, argsA, upd, afterRegion, putA, goOp, evBin_add, evBin_sub, evBin_mul, evBin_quo, evBin_rem, evBin_eql, evBin_neq, evBin_lss, evBin_leq, evBin_gtr, evBin_geq, evBin_eqlB, evBin_neqB, evBin_addS, evBin_eqlS, evBin_neqS, evBin_lssS, evBin_leqS, evUn, evConv, evIndex, evBuiltin, evLen, evMin2, evMax2, evCallee, evBox, evLoad, evStore, evFieldAddr, evField, evIndexAddr, evBuild, evBuildSlice, evElems, evSlice, nth, rdc, wrc, fromBody, resA, finRet, oneOf, AV.cells?, AV.isCell, fin_int, fin_bool, fin_str, Try.f6, E_esc, k24, c24, a24, z24, i24, bq3, bq4, ha1, hc1, ht1, ha2, hc2, ht2, ha3, hc3, ht3, ha4, hc4, ht4, hal, hO, hN, hI, hC, hR0, hR1, hT1, hT2, hT3, hp3, hp7, bne]
  · have hc0 : (c == 0) = false := by simp; exact fun e => h (hc.1 e)
    rw [same_eq (of_bad h)] at hS1 hI
    rw [same_eq (not_bad h)] at hS2
    rw [emb_cells, emb_cells (ofX x)] at hO
    rw [emb_cells, emb_cells (notX x)] at hN
    rw [emb_cells] at hI hC
    rw [emb_cells, emb_cells x] at hS1 hS2
    rw [emb_cells]
    generalize (notX x).cells = C3 at *
    generalize (ofX x).cells = C2 at *
    generalize x.cells = C1 at *
    simp (disch := first | (simp only [List.length_append, List.length_cons, List.length_nil]; omega) | (simp; done) | assumption) [↓evOp_build, ↓evOp_bslice, rhoP_nil, rhoP_cons, evCode_skip, evCode_region, evCode_draw, evCode_seq, evCode_cond, evCode_block, evCode_loop, evCode_exit, evCode_ret, seqK_ite, seqK_none, seqK_norm, seqK_ret, seqK_exit, seqK_pan, condK_true, condK_false, condK_bool, blockK_ite, blockK_none, blockK_norm, blockK_ret, blockK_exit, blockK_pan, stepK_ite, stepK_none, stepK_ok, stepK_pan, drawK_ite, drawK_none, drawK_ok, drawK_pan, opK_ite, opK_none, opK_val, opK_pan, wantK_true, wantK_false, wantK_some, afterRegion_ite, afterDraw_ite, fromBody_ite, ite_bool, ite_int, stepA_K, doOp, noOp, lexA_nil, lexA_cons, lexF_nil, lexF_cons, afterDraw, noClash, FP.clash, wantedA, evOp, rho, rhoL, ofC0, ofC, argsA, upd, afterRegion, putA, goOp, evBin_add, evBin_sub, evBin_mul, evBin_quo, evBin_rem, evBin_eql, evBin_neq, evBin_lss, evBin_leq, evBin_gtr, evBin_geq, evBin_eqlB, evBin_neqB, evBin_addS, evBin_eqlS, evBin_neqS, evBin_lssS, evBin_leqS, evUn, evConv, evIndex, evBuiltin, evLen, evMin2, evMax2, evCallee, evBox, evLoad, evStore, evFieldAddr, evField, evIndexAddr, evBuild, evBuildSlice, evElems, evSlice, nth, rdc, wrc, fromBody, resA, finRet, oneOf, AV.cells?, AV.isCell, fin_int, fin_bool, fin_str, Try.f6, E_esc, k24, c24, a24, z24, i24, bq3, ha1, hc1, ht1, ha2, hc2, ht2, ha3, hc3, ht3, hal, hO, hN, hI, hC, hS1, hS2, hp3, hc0, bne]
end Go.Proofs.Ytemggoaefohliaa.NF

/- The laws of what is made simple, evaluated (2). No condition. -/
namespace Go.Proofs.Ytemggoaefohliaa.NF
set_option linter.unusedVariables false
set_option linter.unusedSimpArgs false
open Go AE EX PT
set_option maxRecDepth 100000

theorem sm_of {x : X} (h : OKx x) : Sm (ofX x).toY := by rw [of_toY h]; exact sim_sm (ok_gd h)
theorem sm_not {x : X} (h : OKx x) : Sm (notX x).toY := by rw [not_toY h]; exact (neg_sm (sim_sm (ok_gd h))).1

set_option maxHeartbeats 8000000 in
theorem ev_tidy30 (n : Nat) (hn : 2900000 ≤ n) (hal : ev Try.prog E n 20 [] st0 = some (.ret (.bool true), st0)) (x : X) (hb : x.bulk ≤ 1048576) :
    ev Try.prog E (n + 1) 7 [x.emb] st0 = some (.ret (.bool true), st0) := by
  have hsz := size7 x
  obtain ⟨c, hC, hc⟩ := ck n (by omega) x (by omega) st0
  have ha1 := cells_all x
  have hc1 := (cells_ok x).2
  have ht1 : List.take 6 x.cells = x.cells := List.take_of_length_le (by omega)
  rw [ev_enter (n := n) (show E.ok 7 = true from rfl) Try.func7 (fn := Try.f7) rfl (Nat.le_of_ble_eq_true rfl) (by decide +kernel)]
  by_cases h : OKx x
  · have hc0 : c = 0 := hc.2 h
    subst hc0
    have hkb := ok_bulk h
    have hob := of_bulk hb
    have hnb := not_bulk hb
    have hO : ev Try.prog E n 21 [x.emb] st0 = some (.ret (ofX x).emb, st0) := by
      have := ev_Of (n - 2) x hb (by omega) st0; rwa [show n - 2 + 2 = n by omega] at this
    have hN : ev Try.prog E n 22 [x.emb] st0 = some (.ret (notX x).emb, st0) := by
      have := ev_Not (n - 2) x hb (by omega) st0; rwa [show n - 2 + 2 = n by omega] at this
    have hI1 : ev Try.prog E n 23 [(ofX x).emb] st0 = some (.ret (.bool true), st0) := by
      have := ev_Is (n - 3) (ofX x) hob (by omega) st0; rwa [show n - 3 + 3 = n by omega, of_sm (sm_of h)] at this
    have hI2 : ev Try.prog E n 23 [(notX x).emb] st0 = some (.ret (.bool true), st0) := by
      have := ev_Is (n - 3) (notX x) hnb (by omega) st0; rwa [show n - 3 + 3 = n by omega, of_sm (sm_not h)] at this
    have hOO : ev Try.prog E n 21 [(ofX x).emb] st0 = some (.ret (ofX (ofX x)).emb, st0) := by
      have := ev_Of (n - 2) (ofX x) hob (by omega) st0; rwa [show n - 2 + 2 = n by omega] at this
    have hS := ev_plain n (by omega) (ofX (ofX x)) (ofX x) (of_bulk hob) hob st0
    rw [of_sm (sm_of h)] at hS
    have s1 := size7 (ofX x)
    have s2 := size7 (notX x)
    have hT1 := ev_tidy (ofX x).size (ofX x) (Nat.le_refl _) (by omega) n (by omega) st0
    have hT2 := ev_tidy (notX x).size (notX x) (Nat.le_refl _) (by omega) n (by omega) st0
    rw [sm_tidy (sm_of h)] at hT1
    rw [sm_tidy (sm_not h)] at hT2
    have ha2 := cells_all (ofX x)
    have hc2 := (cells_ok (ofX x)).2
    have ht2 : List.take 6 (ofX x).cells = (ofX x).cells := List.take_of_length_le (by omega)
    have ha3 := cells_all (notX x)
    have hc3 := (cells_ok (notX x)).2
    have ht3 : List.take 6 (notX x).cells = (notX x).cells := List.take_of_length_le (by omega)
    have hp5 : E.ps 7 5 = [(0, 2), (1, 2), (0, 4), (1, 4), (2, 4), (3, 4), (0, 5), (1, 5), (2, 5), (3, 5), (4, 5)] := rfl
    have hp6 : E.ps 7 6 = [(15, 17), (16, 17)] := rfl
    rw [emb_cells, emb_cells (ofX x)] at hO
    rw [emb_cells, emb_cells (notX x)] at hN
    rw [emb_cells] at hC hI1 hI2 hT1 hT2
    rw [emb_cells, emb_cells (ofX (ofX x))] at hOO
    rw [emb_cells, emb_cells (ofX x)] at hS
    rw [emb_cells]
    generalize (ofX (ofX x)).cells = C4 at *
    generalize (notX x).cells = C3 at *
    generalize (ofX x).cells = C2 at *
    generalize x.cells = C1 at *
    simp (disch := first | (simp only [List.length_append, List.length_cons, List.length_nil]; omega) | (simp; done) | assumption) [↓evOp_build, ↓evOp_bslice, rhoP_nil, rhoP_cons, evCode_skip, evCode_region, evCode_draw, evCode_seq, evCode_cond, evCode_block, evCode_loop, evCode_exit, evCode_ret, seqK_ite, seqK_none, seqK_norm, seqK_ret, seqK_exit, seqK_pan, condK_true, condK_false, condK_bool, blockK_ite, blockK_none, blockK_norm, blockK_ret, blockK_exit, blockK_pan, stepK_ite, stepK_none, stepK_ok, stepK_pan, drawK_ite, drawK_none, drawK_ok, drawK_pan, opK_ite, opK_none, opK_val, opK_pan, wantK_true, wantK_false, wantK_some, afterRegion_ite, afterDraw_ite, fromBody_ite, ite_bool, ite_int, stepA_K, doOp, noOp, lexA_nil, lexA_cons, lexF_nil, lexF_cons, afterDraw, noClash, FP.clash, wantedA, evOp, rho, rhoL, ofC0, ofC, argsA, upd, afterRegion, putA, goOp, evBin_add, evBin_sub, evBin_mul, evBin_quo, evBin_rem, evBin_eql, evBin_neq, evBin_lss, evBin_leq, evBin_gtr, evBin_geq, evBin_eqlB, evBin_neqB, evBin_addS, evBin_eqlS, evBin_neqS, evBin_lssS, evBin_leqS, evUn, evConv, evIndex, evBuiltin, evLen, evMin2, evMax2, evCallee, evBox, evLoad, evStore, evFieldAddr, evField, evIndexAddr, evBuild, evBuildSlice, evElems, evSlice, nth, rdc, wrc, fromBody, resA, finRet, oneOf, AV.cells?, AV.isCell, fin_int, fin_bool, fin_str, Try.f7, E_esc, k24, c24, a24, z24, i24, bq3, ha1, hc1, ht1, ha2, hc2, ht2, ha3, hc3, ht3, hal, hO, hN, hI1, hI2, hT1, hT2, hOO, hS, hC, hp5, hp6, bne]
  · have hc0 : (c == 0) = false := by simp; exact fun e => h (hc.1 e)
    rw [emb_cells] at hC ⊢
    generalize x.cells = C1 at *
    simp (disch := first | (simp only [List.length_append, List.length_cons, List.length_nil]; omega) | (simp; done) | assumption) [↓evOp_build, ↓evOp_bslice, rhoP_nil, rhoP_cons, evCode_skip, evCode_region, evCode_draw, evCode_seq, evCode_cond, evCode_block, evCode_loop, evCode_exit, evCode_ret, seqK_ite, seqK_none, seqK_norm, seqK_ret, seqK_exit, seqK_pan, condK_true, condK_false, condK_bool, blockK_ite, blockK_none, blockK_norm, blockK_ret, blockK_exit, blockK_pan, stepK_ite, stepK_none, stepK_ok, stepK_pan, drawK_ite, drawK_none, drawK_ok, drawK_pan, opK_ite, opK_none, opK_val, opK_pan, wantK_true, wantK_false, wantK_some, afterRegion_ite, afterDraw_ite, fromBody_ite, ite_bool, ite_int, stepA_K, doOp, noOp, lexA_nil, lexA_cons, lexF_nil, lexF_cons, afterDraw, noClash, FP.clash, wantedA, evOp, rho, rhoL, ofC0, ofC, argsA, upd, afterRegion, putA, goOp, evBin_add, evBin_sub, evBin_mul, evBin_quo, evBin_rem, evBin_eql, evBin_neq, evBin_lss, evBin_leq, evBin_gtr, evBin_geq, evBin_eqlB, evBin_neqB, evBin_addS, evBin_eqlS, evBin_neqS, evBin_lssS, evBin_leqS, evUn, evConv, evIndex, evBuiltin, evLen, evMin2, evMax2, evCallee, evBox, evLoad, evStore, evFieldAddr, evField, evIndexAddr, evBuild, evBuildSlice, evElems, evSlice, nth, rdc, wrc, fromBody, resA, finRet, oneOf, AV.cells?, AV.isCell, fin_int, fin_bool, fin_str, Try.f7, E_esc, k24, c24, a24, z24, i24, bq3, ha1, hc1, ht1, hal, hC, hc0, bne]

/-- Not ahead of it -/
def nonX (x : X) : X := .mk 18 [] 0 0 0 true [x]
theorem non_ok {x : X} (h : OKx (nonX x)) : OKx x := by
  obtain ⟨h1, h2, h3⟩ := h
  have hn : (nonX x).nodes = nonX x :: (x.nodes ++ []) := rfl
  have hd : (nonX x).dep = depL [x] + 1 := rfl
  have hd' : depL [x] = if (0 : Nat) < x.dep then x.dep else 0 := rfl
  rw [hn] at h2 h3
  rw [hd, hd'] at h1
  simp only [List.append_nil, List.length_cons] at h2 h3
  refine ⟨?_, by omega, fun y hy => h3 y (List.mem_cons_of_mem _ hy)⟩
  split at h1 <;> omega
theorem non_toY (x : X) : (nonX x).toY.sim = x.toY.sim.neg := by
  have : (nonX x).toY = .mk 18 [] 0 0 0 [x.toY] := rfl
  rw [this]; simp [Y.sim, simL, hd]

set_option maxHeartbeats 8000000 in
theorem ev_twice30 (n : Nat) (hn : 2900000 ≤ n) (hal : ev Try.prog E n 20 [] st0 = some (.ret (.bool true), st0)) (x : X) (hb : x.bulk ≤ 1048576) :
    ev Try.prog E (n + 1) 8 [x.emb] st0 = some (.ret (.bool true), st0) := by
  have hsz := size7 x
  have hns : (nonX x).size = 1 + (x.size + 0) := rfl
  obtain ⟨c, hC, hc⟩ := ck n (by omega) (nonX x) (by omega) st0
  have ha1 := cells_all x
  have hc1 := (cells_ok x).2
  have ht1 : List.take 6 x.cells = x.cells := List.take_of_length_le (by omega)
  have hbs := bs1 x
  have hbd := bd2 18 (embL [x]) .clip
  have hne : (nonX x).emb = .agg [.int .i64 18, .str [], .int .i64 0, .int .i64 0, .int .i64 0, .slice (embL [x]) .clip] := rfl
  rw [ev_enter (n := n) (show E.ok 8 = true from rfl) Try.func8 (fn := Try.f8) rfl (Nat.le_of_ble_eq_true rfl) (by decide +kernel)]
  by_cases h : OKx (nonX x)
  · have hx := non_ok h
    have hc0 : c = 0 := hc.2 h
    subst hc0
    have hkb := ok_bulk h
    have hob := of_bulk hb
    have hnb := not_bulk hb
    have hN : ev Try.prog E n 22 [x.emb] st0 = some (.ret (notX x).emb, st0) := by
      have := ev_Not (n - 2) x hb (by omega) st0; rwa [show n - 2 + 2 = n by omega] at this
    have hON : ev Try.prog E n 21 [(nonX x).emb] st0 = some (.ret (ofX (nonX x)).emb, st0) := by
      have := ev_Of (n - 2) (nonX x) (by omega) (by omega) st0; rwa [show n - 2 + 2 = n by omega] at this
    have hS := ev_plain n (by omega) (ofX (nonX x)) (notX x) (of_bulk (by omega)) hnb st0
    rw [same_eq (by rw [of_toY h, not_toY hx, non_toY])] at hS
    have s2 := size7 (notX x)
    obtain ⟨c2, hC2, hc2'⟩ := ck n (by omega) (notX x) (by omega) st0
    have ha3 := cells_all (notX x)
    have hc3 := (cells_ok (notX x)).2
    have ht3 : List.take 6 (notX x).cells = (notX x).cells := List.take_of_length_le (by omega)
    have hp7 : E.ps 8 7 = [(0, 2), (1, 2)] := rfl
    have hp9 : E.ps 8 9 = [(4, 6), (5, 6)] := rfl
    by_cases h2 : OKx (notX x)
    · have hc20 : c2 = 0 := hc2'.2 h2
      subst hc20
      have hO : ev Try.prog E n 21 [x.emb] st0 = some (.ret (ofX x).emb, st0) := by
        have := ev_Of (n - 2) x hb (by omega) st0; rwa [show n - 2 + 2 = n by omega] at this
      have hNN : ev Try.prog E n 22 [(notX x).emb] st0 = some (.ret (notX (notX x)).emb, st0) := by
        have := ev_Not (n - 2) (notX x) hnb (by omega) st0; rwa [show n - 2 + 2 = n by omega] at this
      have hS2 := ev_plain n (by omega) (notX (notX x)) (ofX x) (not_bulk hnb) hob st0
      rw [same_eq (by rw [not_toY h2, of_toY hx, not_toY hx, sm_sim (neg_sm (sim_sm (ok_gd hx))).1, (neg_sm (sim_sm (ok_gd hx))).2.1])] at hS2
      rw [hne] at hC hON
      rw [emb_cells, emb_cells (notX x)] at hN
      rw [emb_cells (notX x)] at hS hC2 hNN
      rw [emb_cells] at hO ⊢
      generalize (notX (notX x)).emb = r1 at *
      generalize (ofX (nonX x)).emb = r2 at *
      generalize (ofX x).emb = r3 at *
      generalize (notX x).cells = C3 at *
      generalize x.cells = C1 at *
      generalize embL [x] = e1 at *
      simp (disch := first | (simp only [List.length_append, List.length_cons, List.length_nil]; omega) | (simp; done) | assumption) [↓evOp_build, ↓evOp_bslice, rhoP_nil, rhoP_cons, evCode_skip, evCode_region, evCode_draw, evCode_seq, evCode_cond, evCode_block, evCode_loop, evCode_exit, evCode_ret, seqK_ite, seqK_none, seqK_norm, seqK_ret, seqK_exit, seqK_pan, condK_true, condK_false, condK_bool, blockK_ite, blockK_none, blockK_norm, blockK_ret, blockK_exit, blockK_pan, stepK_ite, stepK_none, stepK_ok, stepK_pan, drawK_ite, drawK_none, drawK_ok, drawK_pan, opK_ite, opK_none, opK_val, opK_pan, wantK_true, wantK_false, wantK_some, afterRegion_ite, afterDraw_ite, fromBody_ite, ite_bool, ite_int, stepA_K, doOp, noOp, lexA_nil, lexA_cons, lexF_nil, lexF_cons, afterDraw, noClash, FP.clash, wantedA, evOp, rho, rhoL, ofC0, ofC, argsA, upd, afterRegion, putA, goOp, evBin_add, evBin_sub, evBin_mul, evBin_quo, evBin_rem, evBin_eql, evBin_neq, evBin_lss, evBin_leq, evBin_gtr, evBin_geq, evBin_eqlB, evBin_neqB, evBin_addS, evBin_eqlS, evBin_neqS, evBin_lssS, evBin_leqS, evUn, evConv, evIndex, evBuiltin, evLen, evMin2, evMax2, evCallee, evBox, evLoad, evStore, evFieldAddr, evField, evIndexAddr, evBuild, evBuildSlice, evElems, evSlice, nth, rdc, wrc, fromBody, resA, finRet, oneOf, AV.cells?, AV.isCell, fin_int, fin_bool, fin_str, -evBuildSlice, -evBuild, Try.f8, E_esc, k24, c24, a24, z24, i24, bq3, ha1, hc1, ht1, ha3, hc3, ht3, hal, hN, hON, hS, hC, hC2, hO, hNN, hS2, hbs, hbd, hp7, hp9, bne]
    · have hc20 : (c2 == 0) = false := by simp; exact fun e => h2 (hc2'.1 e)
      rw [hne] at hC hON
      rw [emb_cells, emb_cells (notX x)] at hN
      rw [emb_cells (notX x)] at hS hC2
      rw [emb_cells]
      generalize (ofX (nonX x)).emb = r2 at *
      generalize (notX x).cells = C3 at *
      generalize x.cells = C1 at *
      generalize embL [x] = e1 at *
      simp (disch := first | (simp only [List.length_append, List.length_cons, List.length_nil]; omega) | (simp; done) | assumption) [↓evOp_build, ↓evOp_bslice, rhoP_nil, rhoP_cons, evCode_skip, evCode_region, evCode_draw, evCode_seq, evCode_cond, evCode_block, evCode_loop, evCode_exit, evCode_ret, seqK_ite, seqK_none, seqK_norm, seqK_ret, seqK_exit, seqK_pan, condK_true, condK_false, condK_bool, blockK_ite, blockK_none, blockK_norm, blockK_ret, blockK_exit, blockK_pan, stepK_ite, stepK_none, stepK_ok, stepK_pan, drawK_ite, drawK_none, drawK_ok, drawK_pan, opK_ite, opK_none, opK_val, opK_pan, wantK_true, wantK_false, wantK_some, afterRegion_ite, afterDraw_ite, fromBody_ite, ite_bool, ite_int, stepA_K, doOp, noOp, lexA_nil, lexA_cons, lexF_nil, lexF_cons, afterDraw, noClash, FP.clash, wantedA, evOp, rho, rhoL, ofC0, ofC, argsA, upd, afterRegion, putA, goOp, evBin_add, evBin_sub, evBin_mul, evBin_quo, evBin_rem, evBin_eql, evBin_neq, evBin_lss, evBin_leq, evBin_gtr, evBin_geq, evBin_eqlB, evBin_neqB, evBin_addS, evBin_eqlS, evBin_neqS, evBin_lssS, evBin_leqS, evUn, evConv, evIndex, evBuiltin, evLen, evMin2, evMax2, evCallee, evBox, evLoad, evStore, evFieldAddr, evField, evIndexAddr, evBuild, evBuildSlice, evElems, evSlice, nth, rdc, wrc, fromBody, resA, finRet, oneOf, AV.cells?, AV.isCell, fin_int, fin_bool, fin_str, -evBuildSlice, -evBuild, Try.f8, E_esc, k24, c24, a24, z24, i24, bq3, ha1, hc1, ht1, ha3, hc3, ht3, hal, hN, hON, hS, hC, hC2, hbs, hbd, hp7, hp9, hc20, bne]
  · have hc0 : (c == 0) = false := by simp; exact fun e => h (hc.1 e)
    rw [hne] at hC
    rw [emb_cells]
    generalize x.cells = C1 at *
    generalize embL [x] = e1 at *
    simp (disch := first | (simp only [List.length_append, List.length_cons, List.length_nil]; omega) | (simp; done) | assumption) [↓evOp_build, ↓evOp_bslice, rhoP_nil, rhoP_cons, evCode_skip, evCode_region, evCode_draw, evCode_seq, evCode_cond, evCode_block, evCode_loop, evCode_exit, evCode_ret, seqK_ite, seqK_none, seqK_norm, seqK_ret, seqK_exit, seqK_pan, condK_true, condK_false, condK_bool, blockK_ite, blockK_none, blockK_norm, blockK_ret, blockK_exit, blockK_pan, stepK_ite, stepK_none, stepK_ok, stepK_pan, drawK_ite, drawK_none, drawK_ok, drawK_pan, opK_ite, opK_none, opK_val, opK_pan, wantK_true, wantK_false, wantK_some, afterRegion_ite, afterDraw_ite, fromBody_ite, ite_bool, ite_int, stepA_K, doOp, noOp, lexA_nil, lexA_cons, lexF_nil, lexF_cons, afterDraw, noClash, FP.clash, wantedA, evOp, rho, rhoL, ofC0, ofC, argsA, upd, afterRegion, putA, goOp, evBin_add, evBin_sub, evBin_mul, evBin_quo, evBin_rem, evBin_eql, evBin_neq, evBin_lss, evBin_leq, evBin_gtr, evBin_geq, evBin_eqlB, evBin_neqB, evBin_addS, evBin_eqlS, evBin_neqS, evBin_lssS, evBin_leqS, evUn, evConv, evIndex, evBuiltin, evLen, evMin2, evMax2, evCallee, evBox, evLoad, evStore, evFieldAddr, evField, evIndexAddr, evBuild, evBuildSlice, evElems, evSlice, nth, rdc, wrc, fromBody, resA, finRet, oneOf, AV.cells?, AV.isCell, fin_int, fin_bool, fin_str, -evBuildSlice, -evBuild, Try.f8, E_esc, k24, c24, a24, z24, i24, bq3, ha1, hc1, ht1, hal, hC, hbs, hbd, hc0, bne]
end Go.Proofs.Ytemggoaefohliaa.NF

