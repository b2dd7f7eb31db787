/- The bound's walk, evaluated. No condition. -/
import Derived.Test.YtemggoaefohliaaBrA
namespace Go.Proofs.Ytemggoaefohliaa.BR
set_option linter.unusedVariables false
set_option linter.unusedSimpArgs false
open Go AE EX
set_option maxRecDepth 100000

/-- what a closure that counts does -/
theorem ev_cell1 (n id : Nat) (k : Int) (nm : List UInt8) (a lo hi : Int) (ks : AV) (hks : ks.isCell = true) (c : Int) (S : St) (hS : S.H[id]? = some ⟨3, [.int .i64 c]⟩) (hc : 0 ≤ c ∧ c < 4611686018427387904) :
      ev Try.prog E (n + 2) 28 [.agg [.int .i64 k, .str nm, .int .i64 a, .int .i64 lo, .int .i64 hi, ks], .ptr id 0] S = some (.ret (.tup []), ⟨S.H.set id ⟨3, [.int .i64 (c + if looksB k then 1 else 0)]⟩, S.T⟩) := by
  have hE : E.ok 29 = true := rfl
  have hE2 : E.ok 28 = true := rfl
  have hx : E.esc 28 2 = false := rfl
  have hl := ev_looks n k S
  have hw : IntKind.i64.wrap (c + 1) = c + 1 := wrap64 _ (by omega)
  rw [show n + 2 = (n + 1) + 1 from rfl, ev, if_pos hE2, evFunc]
  cases h : looksB k
  · rw [h] at hl
    simp [ev, evFunc, evUn, evIndex, evCode, lexA, lexF, afterDraw, noClash, FP.clash, stepA, wantedA, evOp, rho, rhoL, ofC0, ofC, argsA, upd, afterRegion, putA, goOp, evBin, evBuiltin, evLen, evMin2, evMax2, evCallee, evBox, evLoad, evStore, evFieldAddr, evField, evIndexAddr, evBuild, evBuildSlice, nth, rdc, wrc, fromBody, resA, finRet, oneOf, AV.cells?, AV.isCell, AV.sealed, AV.sealedL, AV.strip, AV.stripL, AV.low, AV.lowL, boxEqL_refl, -ev, -evFunc, Try.func28, Try.f28, hx, k24, k22, c24, a24, fq0, k3, c3, a3, hl, hks, -AV.isCell, fin0 (S := S) (S' := S)]
    have : S.H.set id { ty := 3, cs := [AV.int IntKind.i64 c] } = S.H := by
      apply List.ext_getElem?
      intro j
      rw [List.getElem?_set]
      split
      · rename_i hj; subst hj; split
        · exact hS.symm
        · rename_i hn; rw [List.getElem?_eq_none (by omega)]
      · rfl
    rw [this]
  · rw [h] at hl
    simp [ev, evFunc, evUn, evIndex, evCode, lexA, lexF, afterDraw, noClash, FP.clash, stepA, wantedA, evOp, rho, rhoL, ofC0, ofC, argsA, upd, afterRegion, putA, goOp, evBin, evBuiltin, evLen, evMin2, evMax2, evCallee, evBox, evLoad, evStore, evFieldAddr, evField, evIndexAddr, evBuild, evBuildSlice, nth, rdc, wrc, fromBody, resA, finRet, oneOf, AV.cells?, AV.isCell, AV.sealed, AV.sealedL, AV.strip, AV.stripL, AV.low, AV.lowL, boxEqL_refl, -ev, -evFunc, Try.func28, Try.f28, hx, k24, k22, c24, a24, fq0, k3, c3, a3, hl, hks, -AV.isCell, hS, hw, i3, fin0 (S := S) (S' := ⟨S.H.set id { ty := 3, cs := [AV.int IntKind.i64 (c + 1)] }, S.T⟩)]

/-- the loop's round of the walk -/
noncomputable def wbody : Code := cutC (bodyOf Try.f27) [1, 1, 1, 1, 0, 0]
noncomputable def w0 : Code := cutC (bodyOf Try.f27) [0]
noncomputable def w1 : Code := cutC (bodyOf Try.f27) [1, 0]
noncomputable def w2 : Code := cutC (bodyOf Try.f27) [1, 1, 0]
noncomputable def w3 : Code := cutC (bodyOf Try.f27) [1, 1, 1, 0]
theorem f27b : Try.f27.body = some (.seq w0 (.seq w1 (.seq w2 (.seq w3 (.block 0 (.loop wbody)))))) := rfl

structure WI (id : Nat) (c : Int) (S0 : St) (tok : Bool) (kids : List X) (i : Nat) (fs : FS) : Prop where
  t1 : fs.t 1 = .fn 28 [] [.ptr id 0]
  t13 : fs.t 13 = .slice (embL kids) (tokOf tok)
  t14 : fs.t 14 = .int .i64 kids.length
  t15 : fs.t 15 = .int .i64 i
  S : fs.S = ⟨S0.H.set id ⟨3, [.int .i64 (c + cntL (kids.take i))]⟩, S0.T⟩

theorem walk_round (n id : Nat) (c : Int) (S0 : St) (tok : Bool) (kids : List X) (hid : id < S0.H.length) (hlen : kids.length < 4611686018427387904)
    (hrec : ∀ x ∈ kids, ∀ (c' : Int) (S : St), S.H[id]? = some ⟨3, [.int .i64 c']⟩ → c ≤ c' → c' + x.size ≤ c + sizeL kids →
      ev Try.prog E n 27 [x.emb, .fn 28 [] [.ptr id 0]] S = some (.ret (.tup []), ⟨S.H.set id ⟨3, [.int .i64 (c' + x.cnt)]⟩, S.T⟩))
    (i : Nat) (hi : i < kids.length) (fs : FS) (h : WI id c S0 tok kids i fs) :
    ∃ fs', evCode ⟨Try.prog, E.esc 27, n⟩ (ev Try.prog E n) (E.ps 27) n wbody fs = some (.norm, fs') ∧ WI id c S0 tok kids (i + 1) fs' := by
  obtain ⟨t, b, v, S⟩ := fs
  obtain ⟨h1, h2, h3, h4, h5⟩ := h
  simp at h1 h2 h3 h4 h5
  have hx : E.esc 27 5 = false := rfl
  have hxe : kids[i]? = some kids[i] := List.getElem?_eq_getElem hi
  have hmem : kids[i] ∈ kids := List.getElem_mem hi
  have hsplit : kids.take (i + 1) = kids.take i ++ [kids[i]] := by rw [List.take_add_one, hxe]; rfl
  have hcnt : cntL (kids.take (i + 1)) = cntL (kids.take i) + kids[i].cnt := by rw [hsplit, cntL_append]; simp [cntL]
  have hr := hrec kids[i] hmem (c + cntL (kids.take i)) S (by rw [h5]; simp [hid]) (by omega) (by
    have e1 : sizeL kids = sizeL (kids.take i) + sizeL (kids.drop i) := by rw [← sizeL_append, List.take_append_drop]
    have e2 : kids.drop i = kids[i] :: kids.drop (i + 1) := by rw [List.drop_eq_getElem_cons hi]
    have e3 := cntL_size (kids.take i)
    rw [e2] at e1
    simp [sizeL] at e1
    omega)
  have hemb : (embL kids)[i]? = some kids[i].emb := by rw [embL_map, List.getElem?_map, hxe]; rfl
  generalize kids[i] = x at *
  obtain ⟨k, nm, a, lo, hi', tk, ks⟩ := x
  simp only [X.emb] at hemb hr
  have hw : IntKind.i64.wrap ((i : Int) + 1) = (i : Int) + 1 := wrap64 _ (by omega)
  have hlt : (i : Int) < kids.length := by omega
  refine ⟨_, by
    simp [ev, evFunc, evUn, evIndex, evCode, lexA, lexF, afterDraw, noClash, FP.clash, stepA, wantedA, evOp, rho, rhoL, ofC0, ofC, argsA, upd, afterRegion, putA, goOp, evBin, evBuiltin, evLen, evMin2, evMax2, evCallee, evBox, evLoad, evStore, evFieldAddr, evField, evIndexAddr, evBuild, evBuildSlice, nth, rdc, wrc, fromBody, resA, finRet, oneOf, AV.cells?, AV.isCell, AV.sealed, AV.sealedL, AV.strip, AV.stripL, AV.low, AV.lowL, boxEqL_refl, -ev, -evFunc, wbody, cutC, bodyOf, Try.f27, hx, k24, k22, c24, a24, z24, i24, ii24, sq22, h1, h2, h3, h4, hemb, hr, hw, hlt]
    rfl, ?_⟩
  refine ⟨by simp [upd, h1], by simp [upd, h2], by simp [upd, h3], by simp [upd], ?_⟩
  simp only [St.mk.injEq, h5, List.set_set, hcnt, and_true]
  congr 4
  omega

theorem walk_end (n id : Nat) (c : Int) (S0 : St) (tok : Bool) (kids : List X) (fs : FS) (h : WI id c S0 tok kids kids.length fs) :
    ∃ o fs', evCode ⟨Try.prog, E.esc 27, n⟩ (ev Try.prog E n) (E.ps 27) n wbody fs = some (o, fs') ∧ o ≠ .norm ∧ o = .exit 0 ∧ fs'.S = ⟨S0.H.set id ⟨3, [.int .i64 (c + cntL kids)]⟩, S0.T⟩ := by
  obtain ⟨t, b, v, S⟩ := fs
  obtain ⟨h1, h2, h3, h4, h5⟩ := h
  simp at h1 h2 h3 h4 h5
  refine ⟨_, _, by
    simp [ev, evFunc, evUn, evIndex, evCode, lexA, lexF, afterDraw, noClash, FP.clash, stepA, wantedA, evOp, rho, rhoL, ofC0, ofC, argsA, upd, afterRegion, putA, goOp, evBin, evBuiltin, evLen, evMin2, evMax2, evCallee, evBox, evLoad, evStore, evFieldAddr, evField, evIndexAddr, evBuild, evBuildSlice, nth, rdc, wrc, fromBody, resA, finRet, oneOf, AV.cells?, AV.isCell, AV.sealed, AV.sealedL, AV.strip, AV.stripL, AV.low, AV.lowL, boxEqL_refl, -ev, -evFunc, wbody, cutC, bodyOf, Try.f27, h1, h2, h3, h4]
    rfl, by simp, rfl, h5⟩

theorem WI_iff {id : Nat} {c : Int} {S0 : St} {tok : Bool} {kids : List X} {i : Nat} {fs : FS} : WI id c S0 tok kids i fs ↔ (fs.t 1 = .fn 28 [] [.ptr id 0] ∧ fs.t 13 = .slice (embL kids) (tokOf tok) ∧ fs.t 14 = .int .i64 kids.length ∧ fs.t 15 = .int .i64 i ∧ fs.S = ⟨S0.H.set id ⟨3, [.int .i64 (c + cntL (kids.take i))]⟩, S0.T⟩) :=
  ⟨fun h => ⟨h.1, h.2, h.3, h.4, h.5⟩, fun ⟨a, b, c, d, e⟩ => ⟨a, b, c, d, e⟩⟩

theorem ev_walk : ∀ (m : Nat) (x : X), x.size ≤ m → ∀ n, m + 2 ≤ n → ∀ (id : Nat) (c : Int) (S : St), S.H[id]? = some ⟨3, [.int .i64 c]⟩ → 0 ≤ c → c + x.size < 4611686018427387904 →
    ev Try.prog E n 27 [x.emb, .fn 28 [] [.ptr id 0]] S = some (.ret (.tup []), ⟨S.H.set id ⟨3, [.int .i64 (c + x.cnt)]⟩, S.T⟩)
  | 0, x, hm, _, _, _, _, _, _, _, _ => absurd hm (by have := size_pos x; omega)
  | m + 1, x, hm, n, hn, id, c, S, hS, hc, hb => by
    obtain ⟨n, rfl⟩ : ∃ k, n = k + 3 := ⟨n - 3, by omega⟩
    obtain ⟨k, nm, a, lo, hi, tk, kids⟩ := x
    have hid : id < S.H.length := (List.getElem?_eq_some_iff.1 hS).1
    simp only [X.size] at hm hb
    have hE : E.ok 27 = true := rfl
    have hx : E.esc 27 2 = false := rfl
    have hl := sizeL_length kids
    have h28 := ev_cell1 n id k nm a lo hi (.slice (embL kids) (tokOf tk)) rfl c S hS (by omega)
    have hlen : (embL kids).length = kids.length := by rw [embL_map]; simp
    rw [show n + 3 = (n + 2) + 1 from rfl, ev_enter hE Try.func27 f27b (Nat.le_of_ble_eq_true rfl) (by decide +kernel)]
    simp only [X.emb]
    cases h4 : k == 4
    · have key : ∀ fs, WI id (c + if looksB k then 1 else 0) ⟨S.H.set id ⟨3, [.int .i64 (c + if looksB k then 1 else 0)]⟩, S.T⟩ tk kids 0 fs → ∃ r, iter (n + 2) (evCode ⟨Try.prog, E.esc 27, n + 2⟩ (ev Try.prog E (n + 2)) (E.ps 27) (n + 2) wbody) fs = some (.exit 0, r) ∧
          r.S = ⟨S.H.set id ⟨3, [.int .i64 (c + (if looksB k then 1 else 0) + cntL kids)]⟩, S.T⟩ := fun fs h0 => by
        obtain ⟨⟨o, fs'⟩, r1, r2, r3⟩ := iter_range (Q := fun r => r.1 = .exit 0 ∧ r.2.S = ⟨S.H.set id ⟨3, [.int .i64 (c + (if looksB k then 1 else 0) + cntL kids)]⟩, S.T⟩) (len := kids.length)
          (fun i hi fs h => walk_round (n + 2) id _ _ tk kids (by simp [hid]) (by omega) (fun y hy c' S' hS' h1 h2 => by
            have := sizeL_mem hy
            have : 0 ≤ (if looksB k then (1 : Int) else 0) := by split <;> omega
            have : (if looksB k then (1 : Int) else 0) ≤ 1 := by split <;> omega
            exact ev_walk m y (by omega) (n + 2) (by omega) id c' S' hS' (by omega) (by omega)) i hi fs h)
          (fun fs h => by
            obtain ⟨o, fs', e1, e2, e3, e4⟩ := walk_end (n + 2) id _ _ tk kids fs h
            exact ⟨o, fs', e1, e2, e3, by simpa using e4⟩) kids.length 0 (n + 2) fs (by omega) (by omega) h0
        simp only at r2
        subst r2
        exact ⟨fs', r1, r3⟩
      obtain ⟨F, hF⟩ := skolem key
      simp only [WI_iff] at hF
      have hF1 := fun x h => (hF x h).1
      have hF2 := fun x h => (hF x h).2
      have hf := fin0 (S := S) (S' := ⟨S.H.set id { ty := 3, cs := [AV.int IntKind.i64 (c + (if looksB k then 1 else 0) + cntL kids)] }, S.T⟩) (by simp) rfl
      simp [ev, evFunc, evUn, evIndex, evCode, lexA, lexF, afterDraw, noClash, FP.clash, stepA, wantedA, evOp, rho, rhoL, ofC0, ofC, argsA, upd, afterRegion, putA, goOp, evBin, evBuiltin, evLen, evMin2, evMax2, evCallee, evBox, evLoad, evStore, evFieldAddr, evField, evIndexAddr, evBuild, evBuildSlice, nth, rdc, wrc, fromBody, resA, finRet, oneOf, AV.cells?, AV.isCell, AV.sealed, AV.sealedL, AV.strip, AV.stripL, AV.low, AV.lowL, boxEqL_refl, -ev, -evFunc, w0, w1, w2, w3, cutC, bodyOf, Try.f27, hx, k24, k22, c24, c22, a22, a24, fq0, fq5, k3, c3, a3, sq22, -AV.isCell, h28, h4, X.cnt, hlen, hF1, hF2, hf, cntL]
      congr 4
      split <;> omega
    · have hf := fin0 (S := S) (S' := ⟨S.H.set id { ty := 3, cs := [AV.int IntKind.i64 (c + if looksB k then 1 else 0)] }, S.T⟩) (by simp) rfl
      simp [ev, evFunc, evUn, evIndex, evCode, lexA, lexF, afterDraw, noClash, FP.clash, stepA, wantedA, evOp, rho, rhoL, ofC0, ofC, argsA, upd, afterRegion, putA, goOp, evBin, evBuiltin, evLen, evMin2, evMax2, evCallee, evBox, evLoad, evStore, evFieldAddr, evField, evIndexAddr, evBuild, evBuildSlice, nth, rdc, wrc, fromBody, resA, finRet, oneOf, AV.cells?, AV.isCell, AV.sealed, AV.sealedL, AV.strip, AV.stripL, AV.low, AV.lowL, boxEqL_refl, -ev, -evFunc, w0, w1, w2, w3, cutC, bodyOf, Try.f27, hx, k24, k22, c24, a24, fq0, k3, c3, a3, -AV.isCell, h28, h4, hf, X.cnt]
      split <;> simp
end Go.Proofs.Ytemggoaefohliaa.BR
