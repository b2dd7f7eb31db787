/- Decimals, evaluated, of both. No condition. -/
import Derived.Test.YtemggoaefohliaaPtA
namespace Go.Proofs.Ytemggoaefohliaa.PT
set_option linter.unusedVariables false
set_option linter.unusedSimpArgs false
open Go AE EX
set_option maxRecDepth 100000

noncomputable def dLoop : Code := cutC (bodyOf Try.f30) [1, 1, 1, 0, 0, 0]
noncomputable def d0 : Code := cutC (bodyOf Try.f30) [0]
noncomputable def d1 : Code := cutC (bodyOf Try.f30) [1, 0]
noncomputable def d2 : Code := cutC (bodyOf Try.f30) [1, 1, 0]
noncomputable def d3 : Code := cutC (bodyOf Try.f30) [1, 1, 1, 1]
theorem f30b : Try.f30.body = some (.seq d0 (.seq d1 (.seq d2 (.seq (.block 0 (.loop dLoop)) d3)))) := rfl

def DI (a : Int) (S0 : St) (m : Nat) (fs : FS) : Prop :=
  ∃ (u : Nat) (l : List UInt8) (tok : Tok) (ex : List Nat), fs.t 0 = .int .i64 a ∧ fs.t 3 = .int .u64 u ∧ u < 18446744073709551616 ∧ fs.t 4 = .slice (bav l) tok ∧ dg u ++ l = dg a.natAbs ∧ m = (dg u).length ∧ fs.S = ⟨S0.H, S0.T ++ ex⟩
def DQ (a : Int) (S0 : St) (r : Out × FS) : Prop :=
  r.1 = .exit 0 ∧ ∃ (u : Nat) (l : List UInt8) (tok : Tok) (ex : List Nat), r.2.t 0 = .int .i64 a ∧ r.2.t 3 = .int .u64 u ∧ u < 10 ∧ r.2.t 4 = .slice (bav l) tok ∧ dig u :: l = dg a.natAbs ∧ r.2.S = ⟨S0.H, S0.T ++ ex⟩

theorem dec_round (n : Nat) (a : Int) (ha : in64 a) (S0 : St) (m : Nat) (fs : FS) (h : DI a S0 m fs) :
    ∃ o fs', evCode ⟨Try.prog, E.esc 30, n⟩ (ev Try.prog E n) (E.ps 30) n dLoop fs = some (o, fs') ∧ ((o = .norm ∧ ∃ m', m' < m ∧ DI a S0 m' fs') ∨ (o ≠ .norm ∧ DQ a S0 (o, fs'))) := by
  obtain ⟨t, b, v, S⟩ := fs
  obtain ⟨u, l, tok, ex, h0, h1, h2, h3, h4, h5, h6⟩ := h
  simp at h0 h1 h3 h6
  subst h6
  unfold in64 at ha
  by_cases hu : u < 10
  · refine ⟨.exit 0, _, by
      simp [ev, evFunc, evUn, evIndex, evCode, lexA, lexF, afterDraw, noClash, FP.clash, stepA, wantedA, evOp, rho, rhoL, ofC0, ofC, argsA, upd, afterRegion, putA, goOp, evBin, evBuiltin, evLen, evMin2, evMax2, evCallee, evBox, evLoad, evStore, evFieldAddr, evField, evIndexAddr, evBuild, evBuildSlice, nth, rdc, wrc, fromBody, resA, finRet, oneOf, AV.cells?, AV.isCell, AV.sealed, AV.sealedL, AV.strip, AV.stripL, AV.low, AV.lowL, boxEqL_refl, -ev, -evFunc, dLoop, cutC, bodyOf, Try.f30, h0, h1, show ¬ ((u : Int) ≥ 10) by omega, bq52]
      rfl, .inr ⟨by simp, rfl, u, l, tok, ex, by simp [upd, h0], by simp [upd, h1], hu, by simp [upd, h3], ?_, rfl⟩⟩
    rw [← h4, dg_lt hu]; rfl
  · have hl : l.length ≤ 1000 := by
      have := congrArg List.length h4
      have h7 := dg_len20 (u := a.natAbs) (by omega)
      simp at this
      omega
    have e1 : ((u : Int).tmod 10) = (u % 10 : Nat) := by rw [Int.tmod_eq_emod_of_nonneg (by omega)]; omega
    have e2 : ((u : Int).tdiv 10) = (u / 10 : Nat) := by rw [Int.tdiv_eq_ediv_of_nonneg (by omega)]; omega
    have w1 : IntKind.u64.wrap (48 + (u % 10 : Nat)) = (48 + (u % 10 : Nat) : Int) := wrapu64 _ (by omega)
    have w2 : IntKind.u8.wrap (48 + (u % 10 : Nat)) = ((dig (u % 10)).toNat : Int) := by
      rw [wrapu8 _ (by omega), dig_nat (by omega)]; omega
    have w3 : IntKind.u64.wrap ((u / 10 : Nat) : Int) = (u / 10 : Nat) := wrapu64 _ (by omega)
    have e3 : (10 : Int) ≤ u := by omega
    have hcons : ∀ x : UInt8, AV.int .u8 x.toNat :: bav l = bav (x :: l) := fun _ => rfl
    refine ⟨.norm, _, by
      simp [ev, evFunc, evUn, evIndex, evCode, lexA, lexF, afterDraw, noClash, FP.clash, stepA, wantedA, evOp, rho, rhoL, ofC0, ofC, argsA, upd, afterRegion, putA, goOp, evBin, evBuiltin, evLen, evMin2, evMax2, evCallee, evBox, evLoad, evStore, evFieldAddr, evField, evIndexAddr, evBuild, evBuildSlice, nth, rdc, wrc, fromBody, resA, finRet, oneOf, AV.cells?, AV.isCell, AV.sealed, AV.sealedL, AV.strip, AV.stripL, AV.low, AV.lowL, boxEqL_refl, -ev, -evFunc, evConv, evElems, dLoop, cutC, bodyOf, Try.f30, h0, h1, h3, e3, bq52, e1, e2, -Int.natCast_emod, -Int.natCast_ediv, w1, w2, w3, iq52, iq5, sq54, z5, c5, a5, appB _ l tok _ hl]
      rfl, .inl ⟨rfl, (dg (u / 10)).length, ?_, u / 10, dig (u % 10) :: l, apTok (bav l) ⟨S0.H, S0.T ++ ex⟩, ex ++ apEx (bav l), ?_, ?_, ?_, ?_, ?_, rfl, ?_⟩⟩
    · rw [h5, dg_ge hu]; simp
    · simp [upd, h0]
    · simp [upd]
    · omega
    · simp [upd, hcons]
    · rw [← h4, dg_ge hu]; simp
    · simp

theorem fin_strT (s : List UInt8) (S : St) (ex : List Nat) : finish S (.str s) ⟨S.H, S.T ++ ex⟩ = some (.str s, S) := by
  unfold finish
  simp [AV.sealed, AV.strip, AV.low, boxEqL_refl]

theorem ev_dec (n : Nat) (hn : 30 ≤ n) (a : Int) (ha : in64 a) (S : St) : ev Try.prog E (n + 1) 30 [.int .i64 a] S = some (.ret (.str (dec a)), S) := by
  have hs := ev_size (n - 1) a S ha
  rw [show n - 1 + 1 = n by omega] at hs
  have ha' := ha
  unfold in64 at ha'
  have key : ∀ fs, DI a S (dg a.natAbs).length fs → ∃ r, iter n (evCode ⟨Try.prog, E.esc 30, n⟩ (ev Try.prog E n) (E.ps 30) n dLoop) fs = some r ∧ DQ a S r := fun fs h =>
    iter_meas (fun m fs h => dec_round n a ha S m fs h) (dg a.natAbs).length n fs (by have := dg_len20 (u := a.natAbs) (by omega); omega) h
  obtain ⟨r, hr, hq1, u, l, tok, ex, q0, q1, q2, q3, q4, q5⟩ := key ⟨upd 4 (.slice [] .clip) (upd 3 (.int .u64 a.natAbs) (upd 7 (.int .u64 a.natAbs) (upd 6 (.int .i64 a) (upd 2 (.str []) (argsA [.int .i64 a]))))), fun _ => (0, []), 5, S⟩
    ⟨a.natAbs, [], .clip, [], by simp [upd, argsA], by simp [upd], by omega, by simp [upd, bav], by simp, rfl, by simp⟩
  obtain ⟨o, t, b, v, S'⟩ := r
  simp at hq1 q0 q1 q3 q5
  subst hq1 q5
  have hl : l.length ≤ 1000 := by
    have := congrArg List.length q4
    have h7 := dg_len20 (u := a.natAbs) (by omega)
    simp at this
    omega
  have w1 : IntKind.u64.wrap (48 + (u : Int)) = (48 + u : Int) := wrapu64 _ (by omega)
  have w2 : IntKind.u8.wrap (48 + (u : Int)) = ((dig u).toNat : Int) := by
    rw [wrapu8 _ (by omega), dig_nat (by omega)]; omega
  have hbb : bytesOf (.int .u8 (dig u).toNat :: bav l) = some (dig u :: l) := bav_bytes (dig u :: l)
  have hf := fin_strT (dec a) S (ex ++ apEx (bav l))
  rw [ev_enter (n := n) (show E.ok 30 = true from rfl) Try.func30 f30b (Nat.le_of_ble_eq_true rfl) (by decide +kernel)]
  have hlen : (dg a.natAbs).length ≤ 20 := dg_len20 (by omega)
  by_cases h : a < 0
  · have hd : dec a = 45 :: dg a.natAbs := by simp [dec, h]
    rw [hd] at hf
    simp [ev, evFunc, evUn, evIndex, evCode, lexA, lexF, afterDraw, noClash, FP.clash, stepA, wantedA, evOp, rho, rhoL, ofC0, ofC, argsA, upd, afterRegion, putA, goOp, evBin, evBuiltin, evLen, evMin2, evMax2, evCallee, evBox, evLoad, evStore, evFieldAddr, evField, evIndexAddr, evBuild, evBuildSlice, nth, rdc, wrc, fromBody, resA, finRet, oneOf, AV.cells?, AV.isCell, AV.sealed, AV.sealedL, AV.strip, AV.stripL, AV.low, AV.lowL, boxEqL_refl, -ev, -evFunc, evConv, evElems, d0, d1, d2, d3, cutC, bodyOf, Try.f30, hs, hr, q0, q1, q3, bq52, w1, w2, iq52, iq5, sq54, z5, c5, a5, appB _ l tok _ hl, sq9, hbb, q4, h, hf, hd, show (dg a.natAbs).length + 1 ≤ 4611686018427387904 by omega, show 1 + (dg a.natAbs).length ≤ 4611686018427387904 by omega]
  · have hd : dec a = dg a.natAbs := by simp [dec, h]
    rw [hd] at hf
    simp [ev, evFunc, evUn, evIndex, evCode, lexA, lexF, afterDraw, noClash, FP.clash, stepA, wantedA, evOp, rho, rhoL, ofC0, ofC, argsA, upd, afterRegion, putA, goOp, evBin, evBuiltin, evLen, evMin2, evMax2, evCallee, evBox, evLoad, evStore, evFieldAddr, evField, evIndexAddr, evBuild, evBuildSlice, nth, rdc, wrc, fromBody, resA, finRet, oneOf, AV.cells?, AV.isCell, AV.sealed, AV.sealedL, AV.strip, AV.stripL, AV.low, AV.lowL, boxEqL_refl, -ev, -evFunc, evConv, evElems, d0, d1, d2, d3, cutC, bodyOf, Try.f30, hs, hr, q0, q1, q3, bq52, w1, w2, iq52, iq5, sq54, z5, c5, a5, appB _ l tok _ hl, sq9, hbb, q4, h, hf, hd]

/-! ### the page's -/
noncomputable def rLoop : Code := cutC (bodyOf Try.f31) [1, 1, 1, 0, 1, 0, 0]
noncomputable def r0 : Code := cutC (bodyOf Try.f31) [0]
noncomputable def r1 : Code := cutC (bodyOf Try.f31) [1, 0]
noncomputable def r2 : Code := cutC (bodyOf Try.f31) [1, 1, 0]
noncomputable def r3 : Code := cutC (bodyOf Try.f31) [1, 1, 1, 0, 0]
noncomputable def r4 : Code := cutC (bodyOf Try.f31) [1, 1, 1, 1]
theorem f31b : Try.f31.body = some (.seq r0 (.seq r1 (.seq r2 (.seq (.seq r3 (.block 0 (.loop rLoop))) r4)))) := rfl

def RI (a : Int) (S0 : St) (m : Nat) (fs : FS) : Prop :=
  ∃ (u : Int) (l : List UInt8), fs.t 0 = .int .i64 a ∧ fs.t 4 = .int .i64 u ∧ in64 u ∧ fs.t 3 = .str l ∧ (if u = 0 then l else dg u.natAbs ++ l) = dg a.natAbs ∧ m = (if u = 0 then 0 else (dg u.natAbs).length) ∧ fs.S = S0
def RQ (a : Int) (S0 : St) (r : Out × FS) : Prop :=
  r.1 = .exit 0 ∧ r.2.t 0 = .int .i64 a ∧ r.2.t 3 = .str (dg a.natAbs) ∧ r.2.S = S0

theorem rdec_round (n : Nat) (a : Int) (ha : in64 a) (S0 : St) (m : Nat) (fs : FS) (h : RI a S0 m fs) :
    ∃ o fs', evCode ⟨Try.prog, E.esc 31, n⟩ (ev Try.prog E n) (E.ps 31) n rLoop fs = some (o, fs') ∧ ((o = .norm ∧ ∃ m', m' < m ∧ RI a S0 m' fs') ∨ (o ≠ .norm ∧ RQ a S0 (o, fs'))) := by
  obtain ⟨t, b, v, S⟩ := fs
  obtain ⟨u, l, h0, h1, h2, h3, h4, h5, h6⟩ := h
  simp at h0 h1 h3 h6
  subst h6
  unfold in64 at ha h2
  by_cases hu : u = 0
  · subst hu
    refine ⟨.exit 0, _, by
      simp [ev, evFunc, evUn, evIndex, evCode, lexA, lexF, afterDraw, noClash, FP.clash, stepA, wantedA, evOp, rho, rhoL, ofC0, ofC, argsA, upd, afterRegion, putA, goOp, evBin, evBuiltin, evLen, evMin2, evMax2, evCallee, evBox, evLoad, evStore, evFieldAddr, evField, evIndexAddr, evBuild, evBuildSlice, nth, rdc, wrc, fromBody, resA, finRet, oneOf, AV.cells?, AV.isCell, AV.sealed, AV.sealedL, AV.strip, AV.stripL, AV.low, AV.lowL, boxEqL_refl, -ev, -evFunc, rLoop, cutC, bodyOf, Try.f31, h0, h1, bq2]
      rfl, .inr ⟨by simp, rfl, by simp [upd, h0], ?_, rfl⟩⟩
    simp [upd, h3]; simpa using h4
  · have hun : (u != 0) = true := by simp [hu]
    rw [if_neg hu] at h4 h5
    have hl : l.length ≤ 1000 := by
      have := congrArg List.length h4
      have h7 := dg_len20 (u := a.natAbs) (by omega)
      simp at this
      omega
    have e2 : in64 (u.tdiv 10) ∧ (u.tdiv 10).natAbs = u.natAbs / 10 := by
      refine ⟨?_, by rw [Int.natAbs_tdiv]; rfl⟩
      have : (u.tdiv 10).natAbs = u.natAbs / 10 := by rw [Int.natAbs_tdiv]; rfl
      unfold in64; omega
    have e1 : (u.tmod 10).natAbs = u.natAbs % 10 := by rw [Int.natAbs_tmod]; rfl
    have w3 : IntKind.i64.wrap (u.tdiv 10) = u.tdiv 10 := wrap64 _ (by have := e2.1; unfold in64 at this; omega)
    have fin : ∃ fs', evCode ⟨Try.prog, E.esc 31, n⟩ (ev Try.prog E n) (E.ps 31) n rLoop ⟨t, b, v, S⟩ = some (.norm, fs') ∧ fs'.t 0 = .int .i64 a ∧ fs'.t 4 = .int .i64 (u.tdiv 10) ∧ fs'.t 3 = .str (dig (u.natAbs % 10) :: l) ∧ fs'.S = S := by
      by_cases hm : u.tmod 10 < 0
      · have w0 : IntKind.i64.wrap (-(u.tmod 10)) = (u.natAbs % 10 : Nat) := by rw [wrap64 _ (by omega)]; omega
        have w1 : IntKind.i64.wrap (48 + ((u.natAbs % 10 : Nat) : Int)) = 48 + ((u.natAbs % 10 : Nat) : Int) := wrap64 _ (by omega)
        have w2 : IntKind.u8.wrap (48 + ((u.natAbs % 10 : Nat) : Int)) = ((dig (u.natAbs % 10)).toNat : Int) := by
          rw [wrapu8 _ (by omega), dig_nat (by omega)]; omega
        refine ⟨_, by
          simp [ev, evFunc, evUn, evIndex, evCode, lexA, lexF, afterDraw, noClash, FP.clash, stepA, wantedA, evOp, rho, rhoL, ofC0, ofC, argsA, upd, afterRegion, putA, goOp, evBin, evBuiltin, evLen, evMin2, evMax2, evCallee, evBox, evLoad, evStore, evFieldAddr, evField, evIndexAddr, evBuild, evBuildSlice, nth, rdc, wrc, fromBody, resA, finRet, oneOf, AV.cells?, AV.isCell, AV.sealed, AV.sealedL, AV.strip, AV.stripL, AV.low, AV.lowL, boxEqL_refl, -ev, -evFunc, evConv, evElems, rLoop, cutC, bodyOf, Try.f31, h0, h1, h3, hun, bq2, hm, -Int.natCast_emod, -Int.natCast_ediv, w0, w1, w2, w3, iq2, iq5, sq54, z5, c5, a5, sq9, bytesOf, show l.length + 1 ≤ 4611686018427387904 by omega, show 1 + l.length ≤ 4611686018427387904 by omega]
          rfl, by simp [upd, h0], by simp [upd], by simp [upd], rfl⟩
      · have w0 : u.tmod 10 = (u.natAbs % 10 : Nat) := by omega
        have w1 : IntKind.i64.wrap (48 + ((u.natAbs % 10 : Nat) : Int)) = 48 + ((u.natAbs % 10 : Nat) : Int) := wrap64 _ (by omega)
        have w2 : IntKind.u8.wrap (48 + ((u.natAbs % 10 : Nat) : Int)) = ((dig (u.natAbs % 10)).toNat : Int) := by
          rw [wrapu8 _ (by omega), dig_nat (by omega)]; omega
        have hm0 : ¬ ((u.natAbs % 10 : Nat) : Int) < 0 := by omega
        refine ⟨_, by
          simp [ev, evFunc, evUn, evIndex, evCode, lexA, lexF, afterDraw, noClash, FP.clash, stepA, wantedA, evOp, rho, rhoL, ofC0, ofC, argsA, upd, afterRegion, putA, goOp, evBin, evBuiltin, evLen, evMin2, evMax2, evCallee, evBox, evLoad, evStore, evFieldAddr, evField, evIndexAddr, evBuild, evBuildSlice, nth, rdc, wrc, fromBody, resA, finRet, oneOf, AV.cells?, AV.isCell, AV.sealed, AV.sealedL, AV.strip, AV.stripL, AV.low, AV.lowL, boxEqL_refl, -ev, -evFunc, evConv, evElems, rLoop, cutC, bodyOf, Try.f31, h0, h1, h3, hun, bq2, w0, hm0, -Int.natCast_emod, -Int.natCast_ediv, w1, w2, w3, iq2, iq5, sq54, z5, c5, a5, sq9, bytesOf, show l.length + 1 ≤ 4611686018427387904 by omega, show 1 + l.length ≤ 4611686018427387904 by omega]
          rfl, by simp [upd, h0], by simp [upd], by simp [upd], rfl⟩
    obtain ⟨fs', g1, g2, g3, g4, g5⟩ := fin
    refine ⟨.norm, fs', g1, .inl ⟨rfl, _, ?_, u.tdiv 10, dig (u.natAbs % 10) :: l, g2, g3, e2.1, g4, ?_, rfl, g5⟩⟩
    · rw [h5]
      split
      · have := dg_pos u.natAbs; omega
      · rename_i hne
        rw [e2.2, dg_ge (u := u.natAbs) (by omega)]; simp
    · rw [← h4]
      split
      · rename_i hz
        rw [dg_lt (by omega), show u.natAbs % 10 = u.natAbs by omega]; rfl
      · rw [e2.2, dg_ge (u := u.natAbs) (by omega)]; simp

theorem ev_rdec (n : Nat) (hn : 30 ≤ n) (a : Int) (ha : in64 a) (S : St) : ev Try.prog E (n + 1) 31 [.int .i64 a] S = some (.ret (.str (dec a)), S) := by
  have ha' := ha
  unfold in64 at ha'
  rw [ev_enter (n := n) (show E.ok 31 = true from rfl) Try.func31 f31b (Nat.le_of_ble_eq_true rfl) (by decide +kernel)]
  by_cases h0 : a = 0
  · subst h0
    have hd : dec 0 = [48] := by simp [dec, dg_lt, dig]
    rw [hd]
    simp [ev, evFunc, evUn, evIndex, evCode, lexA, lexF, afterDraw, noClash, FP.clash, stepA, wantedA, evOp, rho, rhoL, ofC0, ofC, argsA, upd, afterRegion, putA, goOp, evBin, evBuiltin, evLen, evMin2, evMax2, evCallee, evBox, evLoad, evStore, evFieldAddr, evField, evIndexAddr, evBuild, evBuildSlice, nth, rdc, wrc, fromBody, resA, finRet, oneOf, AV.cells?, AV.isCell, AV.sealed, AV.sealedL, AV.strip, AV.stripL, AV.low, AV.lowL, boxEqL_refl, -ev, -evFunc, r0, r1, r2, r3, r4, cutC, bodyOf, Try.f31, bq2, fin_str]
  have hlen : (dg a.natAbs).length ≤ 20 := dg_len20 (by omega)
  have key : ∀ fs, RI a S (dg a.natAbs).length fs → ∃ r, iter n (evCode ⟨Try.prog, E.esc 31, n⟩ (ev Try.prog E n) (E.ps 31) n rLoop) fs = some r ∧ RQ a S r := fun fs h =>
    iter_meas (fun m fs h => rdec_round n a ha S m fs h) (dg a.natAbs).length n fs (by omega) h
  obtain ⟨F, hF⟩ := skolemR key
  have h0' : (a == 0) = false := by simp [h0]
  have hfs := hF ⟨upd 4 (.int .i64 a) (upd 8 (.int .i64 a) (upd 3 (.str []) (upd 7 (.bool false) (upd 6 (.int .i64 a) (upd 2 (.str []) (argsA [.int .i64 a])))))), fun _ => (0, []), 6, S⟩
    ⟨a, [], by simp [upd, argsA], by simp [upd], ha, by simp [upd], by simp [h0], by simp [h0], rfl⟩
  obtain ⟨hr, hq1, q0, q1, q2⟩ := hfs
  generalize F _ = r at *
  obtain ⟨o, t, b, v, S'⟩ := r
  simp at hq1 q0 q1 q2
  subst hq1 q2
  by_cases h : a < 0
  · have hd : dec a = 45 :: dg a.natAbs := by simp [dec, h]
    simp [ev, evFunc, evUn, evIndex, evCode, lexA, lexF, afterDraw, noClash, FP.clash, stepA, wantedA, evOp, rho, rhoL, ofC0, ofC, argsA, upd, afterRegion, putA, goOp, evBin, evBuiltin, evLen, evMin2, evMax2, evCallee, evBox, evLoad, evStore, evFieldAddr, evField, evIndexAddr, evBuild, evBuildSlice, nth, rdc, wrc, fromBody, resA, finRet, oneOf, AV.cells?, AV.isCell, AV.sealed, AV.sealedL, AV.strip, AV.stripL, AV.low, AV.lowL, boxEqL_refl, -ev, -evFunc, r0, r1, r2, r3, r4, cutC, bodyOf, Try.f31, hr, q0, q1, bq2, h, h0', hd, fin_str, show (dg a.natAbs).length + 1 ≤ 4611686018427387904 by omega, show 1 + (dg a.natAbs).length ≤ 4611686018427387904 by omega]
  · have hd : dec a = dg a.natAbs := by simp [dec, h]
    simp [ev, evFunc, evUn, evIndex, evCode, lexA, lexF, afterDraw, noClash, FP.clash, stepA, wantedA, evOp, rho, rhoL, ofC0, ofC, argsA, upd, afterRegion, putA, goOp, evBin, evBuiltin, evLen, evMin2, evMax2, evCallee, evBox, evLoad, evStore, evFieldAddr, evField, evIndexAddr, evBuild, evBuildSlice, nth, rdc, wrc, fromBody, resA, finRet, oneOf, AV.cells?, AV.isCell, AV.sealed, AV.sealedL, AV.strip, AV.stripL, AV.low, AV.lowL, boxEqL_refl, -ev, -evFunc, r0, r1, r2, r3, r4, cutC, bodyOf, Try.f31, hr, q0, q1, bq2, h, h0', hd, fin_str]
end Go.Proofs.Ytemggoaefohliaa.PT
