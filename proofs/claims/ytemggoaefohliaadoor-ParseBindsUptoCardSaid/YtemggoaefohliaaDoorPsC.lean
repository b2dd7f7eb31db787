/- Joined: DpJ, DpK, DpL, DpM, DpN, DpO, DpP. No condition beyond those of its lemmas. -/
import Derived.Test.YtemggoaefohliaaDoorPsA
/- The parser: set, evaluated. Condition: the world outside is closed. -/
namespace Go.Proofs.YtemggoaefohliaaDoor.PS
set_option linter.unusedVariables false
set_option linter.unusedSimpArgs false
open Go AE EX PT NF LX
set_option maxRecDepth 100000

theorem fin_drop {S S' : St} {v : AV} (hv : v.sealed = true) (hlen : S.H.length ≤ S'.H.length) (hT : S'.T.take S.T.length = S.T) (hlow : lowB S.H.length S.T.length (S'.H.take S.H.length) = true) (hvl : (v.strip S.T.length).low S.H.length S.T.length = true) :
    finish S v S' = some (v.strip S.T.length, ⟨S'.H.take S.H.length, S.T⟩) := by
  unfold finish
  rw [if_pos hv]
  by_cases h1 : boxEqL (S'.H.take S.H.length) S.H = true
  · have e := boxEqL_spec _ _ h1
    rw [if_pos (by simp [h1, hT, hvl]), e]
  · rw [if_neg (by simp [h1]), if_pos (by simp [hlen, hT, hvl, hlow])]
theorem lowB_set {h0 t0 : Nat} {b : HBox} (hb : AV.lowL h0 t0 b.cs = true) : ∀ {H : List HBox} {a : Nat}, lowB h0 t0 H = true → lowB h0 t0 (H.set a b) = true
  | [], a, h => h
  | x :: H, 0, h => by
    simp only [lowB, Bool.and_eq_true] at h
    simp [lowB, hb, h.2]
  | x :: H, a + 1, h => by
    simp only [lowB, Bool.and_eq_true] at h
    simp [lowB, h.1, lowB_set hb h.2]
theorem box_low (h0 t0 : Nat) (l : List Tk) (p d : Nat) : AV.lowL h0 t0 (box l p d).cs = true := by simp [box, AV.lowL, AV.low, low_tkL]
def kT (ks : List X) : List Nat := if ks = [] then [] else [6 * ks.length]
def kS (T : List Nat) (ks : List X) : AV := if ks = [] then .slice (embL ks) .clip else .slice (embL ks) (.own T.length (6 * ks.length))
theorem embL_len (ks : List X) : (embL ks).length = ks.length := by rw [embL_map]; simp
theorem embL_app (ks : List X) (x : X) : embL (ks ++ [x]) = embL ks ++ [x.emb] := by simp [embL_map]
theorem kS_cells (T : List Nat) (ks : List X) : (kS T ks).cells? = some [kS T ks] := by unfold kS; split <;> rfl
theorem kS_isCell (T : List Nat) (ks : List X) : (kS T ks).isCell = true := by unfold kS; split <;> rfl
theorem kS_sealed (T : List Nat) (ks : List X) : (kS T ks).sealed = true := by unfold kS; split <;> simp [AV.sealed, sealed_embL]
theorem kS_strip (T : List Nat) (ks : List X) (h : ks ≠ []) : (kS T ks).strip T.length = .slice (embL ks) .non := by simp [kS, h, AV.strip, strip_embL]
theorem kS_len (T : List Nat) (ks : List X) : evLen Tryd.prog 23 (kS T ks) = some (.int .i64 (ks.length : Int)) := by unfold kS; split <;> simp [evLen, embL_len, sq22]
theorem sizes_embL : ∀ ks : List X, sizesOk 6 (embL ks) = true
  | [] => rfl
  | x :: ks => by
    have := sizes_embL ks
    have hc := xcells x
    have hl := xlen x
    simp [embL, sizesOk, hc, hl, this]
theorem kS_ia (T : List Nat) (ks : List X) (i : Nat) (x : X) (h : ks[i]? = some x) : evIndexAddr Tryd.prog 23 (kS T ks) (.int .i64 (i : Int)) = some (.ref x.cells) := by
  have hc := xcells x
  have hl := xlen x
  have hi : (Tryd.prog.info? 25).isSome = true := i24
  have hg : (embL ks)[i]? = some x.emb := by rw [embL_map]; simp [h]
  unfold kS
  split <;> (simp [evIndexAddr, sq22, nth, hg, hc, c24, hl]; exact Option.isSome_iff_ne_none.1 hi)
theorem kS_app (H1 : List HBox) (T : List Nat) (ks : List X) (x : X) (h : ks.length ≤ 8) : evAppend Tryd.prog [23, 23] (kS T ks) (.slice (embL [x]) .clip) ⟨H1, T ++ kT ks⟩ = some (kS T (ks ++ [x]), ⟨H1, T ++ kT (ks ++ [x])⟩) := by
  have hs := sizes_embL ks
  have hx := sizes_embL [x]
  have hl := embL_len ks
  have he := embL_app ks x
  have hne : ks ++ [x] ≠ [] := by simp
  have hb : Tryd.prog.bytesOf 25 = 72 := by kernel_rfl
  have hs1 : embL [x] = [x.emb] := rfl
  rw [hs1] at hx ⊢
  have hcx := xcells x
  have hlx := xlen x
  simp only [evAppend, sq22, u22, elemsOf, z24, c24, hb, kS, kT, if_neg hne, he]
  by_cases h0 : ks = []
  · subst h0
    have he0 : embL ([] : List X) = [] := rfl
    simp [he0, hx, sizesOk, hcx, hlx]
  · simp only [if_neg h0]
    simp [hs, hx, hl]
    omega

/-! ### the loop -/
noncomputable def lp74 : Code := cutC (bodyOf Tryd.f74) [1, 1, 1, 0, 0]
noncomputable def s074 : Code := cutC (bodyOf Tryd.f74) [0]
noncomputable def s174 : Code := cutC (bodyOf Tryd.f74) [1, 0]
noncomputable def s274 : Code := cutC (bodyOf Tryd.f74) [1, 1, 0]
theorem fb74 : Tryd.f74.body = some (.seq s074 (.seq s174 (.seq s274 (.block 0 (.loop lp74))))) := rfl
def ksC (T : List Nat) (ks : List X) : List AV := [.int .i64 4, .str [], .int .i64 0, .int .i64 0, .int .i64 0, kS T ks]
def SEI (H0 : List HBox) (T : List Nat) (a : Nat) (l : List Tk) (d n : Nat) (R : PR X) (m : Nat) (fs : FS) : Prop :=
  ∃ ks r f, m = l.length - r ∧ ks.length ≤ 8 ∧ fs.t 0 = .ptr a 0 ∧ fs.t 2 = .loc n 2 1 0 ∧ fs.t 3 = .loc n 3 3 0 ∧ fs.b 2 = (1, z6) ∧ fs.b 3 = (3, ksC T ks) ∧ fs.S = PSt H0 (T ++ kT ks) a l r d ∧ m < f ∧ setF (hereT l) f ks r = R
def SEQ (H0 : List HBox) (T : List Nat) (a : Nat) (l : List Tk) (d n : Nat) (R : PR X) (r : Out × FS) : Prop :=
  (r.1 = .ret ∧ ∃ ks q, ks ≠ [] ∧ r.2.t 2 = .loc n 2 1 0 ∧ r.2.b 2 = (1, ksC T ks) ∧ r.2.S = PSt H0 (T ++ kT ks) a l q d ∧ R = .ok (setX ks, q)) ∨
  (∃ c q ks, r.1 = .pan (stopV (hereT l) c q) ∧ r.2.S = PSt H0 (T ++ kT ks) a l q d ∧ R = .error (c, q))
theorem lastS_name (ks : List X) (i : Nat) (hi : ks.length = i + 1) : ∃ k s n lo hi tk kk, ks[i]? = some (X.mk k s n lo hi tk kk) ∧ lastS ks = s := by
  have hlt : i < ks.length := by omega
  have hg : ks[i]? = some ks[i] := List.getElem?_eq_getElem hlt
  have hl : ks.getLast? = some ks[i] := by rw [List.getLast?_eq_getElem?, show ks.length - 1 = i by omega]; exact hg
  rcases hk : ks[i] with ⟨k, s, n, lo, hi', tk, kk⟩
  rw [hk] at hg hl
  exact ⟨k, s, n, lo, hi', tk, kk, hg, by simp [lastS, hl]⟩
end Go.Proofs.YtemggoaefohliaaDoor.PS

/- The parser: set's rounds; set, evaluated (printed by gendp5.py). Condition: the world outside is closed. -/
namespace Go.Proofs.YtemggoaefohliaaDoor.PS
set_option linter.unusedVariables false
set_option linter.unusedSimpArgs false
open Go AE EX PT NF LX
set_option maxRecDepth 100000
section
variable {H0 : List HBox} {a : Nat} (ha : a < H0.length) (T : List Nat) (l : List Tk) (hl : l.length ≤ 2000000)
include ha hl
set_option maxHeartbeats 8000000 in
theorem rd74 (n d : Nat) (R : PR X) (m : Nat) (fs : FS) (h : SEI H0 T a l d (n + 4) R m fs) :
    ∃ o fs', evCode ⟨Tryd.prog, E.esc 74, n + 4⟩ (ev Tryd.prog E (n + 4)) (E.ps 74) (n + 4) lp74 fs = some (o, fs') ∧ ((o = .norm ∧ ∃ m', m' < m ∧ SEI H0 T a l d (n + 4) R m' fs') ∨ (o ≠ .norm ∧ SEQ H0 T a l d (n + 4) R (o, fs'))) := by
  obtain ⟨t, b, c, S⟩ := fs
  obtain ⟨ks, r, f, hmr, hk8, h0, h2, h3, hb2, hb3, hS, hmf, hR⟩ := h
  simp only at h0 h2 h3 hb2 hb3 hS
  subst hS
  obtain ⟨f, rfl⟩ : ∃ g, f = g + 1 := ⟨f - 1, by omega⟩
  have hps : E.ps 74 6 = [(7, 9), (7, 14)] := rfl
  have htk : ev Tryd.prog E (n + 4) 81 [.ptr a 0, .int .i64 3] (PSt H0 (T ++ kT ks) a l r d) = _ := ev_take ha (T ++ kT ks) l hl (n + 1) r d 3 (by decide)
  simp only [ksC] at hb3
  have hcl := kS_cells T ks
  have hlen := kS_len T ks
  rw [setF] at hR
  cases e1 : takeP (hereT l) 3 r with
  | error z =>
    obtain ⟨c', w⟩ := z
    rw [e1, ansR_err] at htk
    rw [e1, th_err] at hR
    generalize hL2 : PSt H0 (T ++ kT ks) a l w d = L2 at *
    generalize hL1 : PSt H0 (T ++ kT ks) a l r d = L1 at *
    generalize hsv : stopV (hereT l) c' w = sv at *
    refine ⟨.pan sv, _, by
      simp (disch := first | (simp only [List.length_append, List.length_cons, List.length_nil]; omega) | (simp; done) | assumption) [AV.cells?, AV.isCell, -AV.cells?, -evLen, -evIndexAddr, cq_int, cq_str, cq_slice, cq_bool, -evBuild, -evBuildSlice, lp74, s074, s174, s274, cutC, bodyOf, Tryd.f74, E_esc, h0, h2, h3, hb2, hb3, htk, z24, c24, a24, k24, i24, tq46_0, tq46_1, tq46_2, tc46, ta46, tk46, ti46, tz46, fq0, fq3, fq4, fq5, c3, a3, k3, i3, c2, a2, k2, i2, c22, a22, k22, i22, bq3, bq2, fq1, k9, a9, c9, bq9]
      rfl, .inr ⟨by simp, .inr ⟨c', w, ks, by rw [hsv], hL2.symm, hR.symm⟩⟩⟩
  | ok z =>
    obtain ⟨u, r1⟩ := z
    have hlt : r < l.length ∧ r1 = r + 1 := by
      unfold takeP at e1
      split at e1
      · rename_i hk
        cases e1
        exact ⟨here_lt (by rw [hk]; decide), rfl⟩
      · cases e1
    obtain ⟨hlt, hr1⟩ := hlt
    rw [e1, ansR_ok] at htk
    rw [e1, th_ok] at hR
    obtain ⟨uk, us, un, up⟩ := u
    simp only [Tk.emb, Tk.cells] at htk
    simp only at hR
    have hfl := ev_fail ha (T ++ kT ks) l hl (n + 2) r1 d 16
    -- whether it may stand here
    have hbad : setBad ks us = true → ∃ fs', evCode ⟨Tryd.prog, E.esc 74, n + 4⟩ (ev Tryd.prog E (n + 4)) (E.ps 74) (n + 4) lp74 ⟨t, b, c, PSt H0 (T ++ kT ks) a l r d⟩ = some (.pan (stopV (hereT l) 16 r1), fs') ∧ fs'.S = PSt H0 (T ++ kT ks) a l r1 d := by
      intro hbad
      generalize hL2 : PSt H0 (T ++ kT ks) a l r1 d = L2 at *
      generalize hL1 : PSt H0 (T ++ kT ks) a l r d = L1 at *
      generalize hsv : stopV (hereT l) 16 r1 = sv at *
      unfold setBad at hbad
      rcases hkn : ks.length with _ | i
      · rw [hkn] at hbad
        simp at hbad
      · obtain ⟨k, s, n', lo, hi, tk, kk, hg, hls⟩ := lastS_name ks i hkn
        have hia := kS_ia T ks i _ hg
        rw [hkn] at hlen hbad
        rw [hls] at hbad
        simp only [X.cells] at hia
        have hw : IntKind.i64.wrap (((i + 1 : Nat) : Int) - 1) = (i : Int) := by rw [wrap64 _ (by omega)]; omega
        have hpos : (0 : Int) < ((i + 1 : Nat) : Int) := by omega
        generalize kS T ks = sl at *
        generalize embL kk = ekk at *
        by_cases h8 : i + 1 = 8
        · have hi7 : i = 7 := by omega
          subst hi7
          refine ⟨_, by
            simp (disch := first | (simp only [List.length_append, List.length_cons, List.length_nil]; omega) | (simp; done) | assumption) [AV.cells?, AV.isCell, -AV.cells?, -evLen, -evIndexAddr, cq_int, cq_str, cq_slice, cq_bool, -evBuild, -evBuildSlice, lp74, s074, s174, s274, cutC, bodyOf, Tryd.f74, E_esc, h0, h2, h3, hb2, hb3, htk, hlen, hps, hcl, hia, hw, hpos, hfl, z24, c24, a24, k24, i24, tq46_0, tq46_1, tq46_2, tc46, ta46, tk46, ti46, tz46, fq0, fq3, fq4, fq5, c3, a3, k3, i3, c2, a2, k2, i2, c22, a22, k22, i22, bq3, bq2, fq1, k9, a9, c9, bq9]
            rfl, rfl⟩
        · have h8z : ¬ ((i + 1 : Nat) : Int) = 8 := by omega
          have h8b : (i + 1 == 8) = false := by simp; omega
          have hdp : decide (0 < i + 1) = true := by simp
          rw [h8b, hdp] at hbad
          simp only [Bool.false_or, Bool.true_and] at hbad
          clear hkn h8b hdp
          generalize ((i + 1 : Nat) : Int) = I1 at *
          refine ⟨_, by
            simp (disch := first | (simp only [List.length_append, List.length_cons, List.length_nil]; omega) | (simp; done) | assumption) [AV.cells?, AV.isCell, -AV.cells?, -evLen, -evIndexAddr, cq_int, cq_str, cq_slice, cq_bool, -evBuild, -evBuildSlice, lp74, s074, s174, s274, cutC, bodyOf, Tryd.f74, E_esc, h0, h2, h3, hb2, hb3, htk, hlen, hps, hcl, hia, hw, hpos, h8z, hbad, hfl, z24, c24, a24, k24, i24, tq46_0, tq46_1, tq46_2, tc46, ta46, tk46, ti46, tz46, fq0, fq3, fq4, fq5, c3, a3, k3, i3, c2, a2, k2, i2, c22, a22, k22, i22, bq3, bq2, fq1, k9, a9, c9, bq9]
            rfl, rfl⟩
    cases hsb : setBad ks us
    · rw [hsb] at hR
      simp only [Bool.false_eq_true, if_false] at hR
      have hk7 : ks.length < 8 := by
        unfold setBad at hsb
        simp only [Bool.or_eq_false_iff, beq_eq_false_iff_ne, ne_eq] at hsb
        omega
      have hi : ev Tryd.prog E (n + 4) 44 [.ptr a 0, .str [125]] (PSt H0 (T ++ kT (ks ++ [leafX 3 us 0 0])) a l r1 d) = _ := ev_is ha (T ++ kT (ks ++ [leafX 3 us 0 0])) l hl (n + 2) r1 d _ _
      have hap : evAppend Tryd.prog [23, 23] (kS T ks) (.slice (embL [leafX 3 us 0 0]) .clip) (PSt H0 (T ++ kT ks) a l r1 d) = some (kS T (ks ++ [leafX 3 us 0 0]), PSt H0 (T ++ kT (ks ++ [leafX 3 us 0 0])) a l r1 d) := kS_app _ T ks _ hk8
      have hbl := bX1 3 us
      have hbs := bS1 (leafX 3 us 0 0)
      have hcl2 := kS_cells T (ks ++ [leafX 3 us 0 0])
      have hic2 := kS_isCell T (ks ++ [leafX 3 us 0 0])
      have hag : (AV.agg (ksC T (ks ++ [leafX 3 us 0 0]))).cells? = some (ksC T (ks ++ [leafX 3 us 0 0])) := cq_agg _ (by simp only [ksC, List.all_cons, List.all_nil, hic2]; rfl)
      simp only [ksC] at hag
      have hks2 : (ks ++ [leafX 3 us 0 0]).length ≤ 8 := by simp; omega
      have hne2 : ks ++ [leafX 3 us 0 0] ≠ [] := by simp
      have hnd : ev Tryd.prog E (n + 4) 75 [.ptr a 0, .str [44]] (PSt H0 (T ++ kT (ks ++ [leafX 3 us 0 0])) a l r1 d) = _ := ev_need ha (T ++ kT (ks ++ [leafX 3 us 0 0])) l hl n r1 d _ _
      generalize ks ++ [leafX 3 us 0 0] = ks2 at *
      generalize embL [leafX 3 us 0 0] = el at *
      generalize (leafX 3 us 0 0).emb = le at *
      have hC2 : ksC T ks2 = [.int .i64 4, .str [], .int .i64 0, .int .i64 0, .int .i64 0, kS T ks2] := rfl
      rcases hkn : ks.length with _ | i
      · have h00 : ks = [] := by simpa using hkn
        rw [hkn] at hlen
        cases hB : isB (hereT l) r1 [125]
        · rw [hB] at hi hR
          simp only [Bool.false_eq_true, if_false] at hi hR
          cases e2 : needP (hereT l) [44] r1 with
          | error z =>
            obtain ⟨c', w⟩ := z
            rw [e2, ansR_err] at hnd
            rw [e2, th_err] at hR
            generalize hL4 : PSt H0 (T ++ kT ks2) a l w d = L4 at *
            generalize hL3 : PSt H0 (T ++ kT ks2) a l r1 d = L3 at *
            generalize hL2 : PSt H0 (T ++ kT ks) a l r1 d = L2 at *
            generalize hL1 : PSt H0 (T ++ kT ks) a l r d = L1 at *
            generalize hsv : stopV (hereT l) c' w = sv at *
            generalize kS T ks = sl at *
            generalize kS T ks2 = sl2 at *
            refine ⟨.pan sv, _, by
              simp (disch := first | (simp only [List.length_append, List.length_cons, List.length_nil]; omega) | (simp; done) | assumption) [AV.cells?, AV.isCell, -AV.cells?, -evLen, -evIndexAddr, cq_int, cq_str, cq_slice, cq_bool, -evBuild, -evBuildSlice, lp74, s074, s174, s274, cutC, bodyOf, Tryd.f74, E_esc, h0, h2, h3, hb2, hb3, htk, hlen, hps, hcl, hbl, hbs, hap, hcl2, hag, i22, z6_len, hi, hnd, z24, c24, a24, k24, i24, tq46_0, tq46_1, tq46_2, tc46, ta46, tk46, ti46, tz46, fq0, fq3, fq4, fq5, c3, a3, k3, i3, c2, a2, k2, i2, c22, a22, k22, i22, bq3, bq2, fq1, k9, a9, c9, bq9]
              rfl, .inr ⟨by simp, .inr ⟨c', w, ks2, by rw [hsv], hL4.symm, hR.symm⟩⟩⟩
          | ok z =>
            obtain ⟨_u, w⟩ := z
            have hw2 := mono_need _ _ _ _ e2
            rw [e2, ansR_ok] at hnd
            rw [e2, th_ok] at hR
            generalize hL4 : PSt H0 (T ++ kT ks2) a l w d = L4 at *
            generalize hL3 : PSt H0 (T ++ kT ks2) a l r1 d = L3 at *
            generalize hL2 : PSt H0 (T ++ kT ks) a l r1 d = L2 at *
            generalize hL1 : PSt H0 (T ++ kT ks) a l r d = L1 at *
            generalize kS T ks = sl at *
            generalize hsl2 : kS T ks2 = sl2 at *
            refine ⟨.norm, _, by
              simp (disch := first | (simp only [List.length_append, List.length_cons, List.length_nil]; omega) | (simp; done) | assumption) [AV.cells?, AV.isCell, -AV.cells?, -evLen, -evIndexAddr, cq_int, cq_str, cq_slice, cq_bool, -evBuild, -evBuildSlice, lp74, s074, s174, s274, cutC, bodyOf, Tryd.f74, E_esc, h0, h2, h3, hb2, hb3, htk, hlen, hps, hcl, hbl, hbs, hap, hcl2, hag, i22, z6_len, hi, hnd, z24, c24, a24, k24, i24, tq46_0, tq46_1, tq46_2, tc46, ta46, tk46, ti46, tz46, fq0, fq3, fq4, fq5, c3, a3, k3, i3, c2, a2, k2, i2, c22, a22, k22, i22, bq3, bq2, fq1, k9, a9, c9, bq9]
              rfl, .inl ⟨rfl, l.length - w, by omega, ks2, w, f, rfl, hks2, by simp [upd, putA, h0], by simp [upd, putA, h2], by simp [upd, putA, h3], by simp [upd, hb2], by simp [upd, ksC, hsl2], hL4.symm, by omega, hR⟩⟩
        · rw [hB] at hi hR
          simp only [if_true] at hi hR
          generalize hL4 : PSt H0 (T ++ kT ks2) a l (r1 + 1) d = L4 at *
          generalize hL3 : PSt H0 (T ++ kT ks2) a l r1 d = L3 at *
          generalize hL2 : PSt H0 (T ++ kT ks) a l r1 d = L2 at *
          generalize hL1 : PSt H0 (T ++ kT ks) a l r d = L1 at *
          generalize kS T ks = sl at *
          generalize hsl2 : kS T ks2 = sl2 at *
          refine ⟨.ret, _, by
            simp (disch := first | (simp only [List.length_append, List.length_cons, List.length_nil]; omega) | (simp; done) | assumption) [AV.cells?, AV.isCell, -AV.cells?, -evLen, -evIndexAddr, cq_int, cq_str, cq_slice, cq_bool, -evBuild, -evBuildSlice, lp74, s074, s174, s274, cutC, bodyOf, Tryd.f74, E_esc, h0, h2, h3, hb2, hb3, htk, hlen, hps, hcl, hbl, hbs, hap, hcl2, hag, i22, z6_len, hi, z24, c24, a24, k24, i24, tq46_0, tq46_1, tq46_2, tc46, ta46, tk46, ti46, tz46, fq0, fq3, fq4, fq5, c3, a3, k3, i3, c2, a2, k2, i2, c22, a22, k22, i22, bq3, bq2, fq1, k9, a9, c9, bq9]
            rfl, .inr ⟨by simp, .inl ⟨rfl, ks2, r1 + 1, hne2, by simp [upd, putA, h2], by simp [upd, ksC, hsl2, hb2, z6], hL4.symm, hR.symm⟩⟩⟩
      · obtain ⟨k, s, n', lo, hi', tk, kk, hg, hls⟩ := lastS_name ks i hkn
        have hia := kS_ia T ks i _ hg
        unfold setBad at hsb
        rw [hkn] at hlen hsb
        rw [hls] at hsb
        simp only [X.cells] at hia
        have hw : IntKind.i64.wrap (((i + 1 : Nat) : Int) - 1) = (i : Int) := by rw [wrap64 _ (by omega)]; omega
        have hpos : (0 : Int) < ((i + 1 : Nat) : Int) := by omega
        have h8z : ¬ ((i + 1 : Nat) : Int) = 8 := by omega
        have h8b : (i + 1 == 8) = false := by simp; omega
        have hdp : decide (0 < i + 1) = true := by simp
        rw [h8b, hdp] at hsb
        simp only [Bool.false_or, Bool.true_and] at hsb
        clear h8b hdp
        generalize ((i + 1 : Nat) : Int) = I1 at *
        generalize embL kk = ekk at *
        cases hB : isB (hereT l) r1 [125]
        · rw [hB] at hi hR
          simp only [Bool.false_eq_true, if_false] at hi hR
          cases e2 : needP (hereT l) [44] r1 with
          | error z =>
            obtain ⟨c', w⟩ := z
            rw [e2, ansR_err] at hnd
            rw [e2, th_err] at hR
            generalize hL4 : PSt H0 (T ++ kT ks2) a l w d = L4 at *
            generalize hL3 : PSt H0 (T ++ kT ks2) a l r1 d = L3 at *
            generalize hL2 : PSt H0 (T ++ kT ks) a l r1 d = L2 at *
            generalize hL1 : PSt H0 (T ++ kT ks) a l r d = L1 at *
            generalize hsv : stopV (hereT l) c' w = sv at *
            generalize kS T ks = sl at *
            generalize kS T ks2 = sl2 at *
            refine ⟨.pan sv, _, by
              simp (disch := first | (simp only [List.length_append, List.length_cons, List.length_nil]; omega) | (simp; done) | assumption) [AV.cells?, AV.isCell, -AV.cells?, -evLen, -evIndexAddr, cq_int, cq_str, cq_slice, cq_bool, -evBuild, -evBuildSlice, lp74, s074, s174, s274, cutC, bodyOf, Tryd.f74, E_esc, h0, h2, h3, hb2, hb3, htk, hlen, hps, hcl, hbl, hbs, hap, hcl2, hag, i22, z6_len, hi, hnd, hia, hw, hpos, h8z, hsb, z24, c24, a24, k24, i24, tq46_0, tq46_1, tq46_2, tc46, ta46, tk46, ti46, tz46, fq0, fq3, fq4, fq5, c3, a3, k3, i3, c2, a2, k2, i2, c22, a22, k22, i22, bq3, bq2, fq1, k9, a9, c9, bq9]
              rfl, .inr ⟨by simp, .inr ⟨c', w, ks2, by rw [hsv], hL4.symm, hR.symm⟩⟩⟩
          | ok z =>
            obtain ⟨_u, w⟩ := z
            have hw2 := mono_need _ _ _ _ e2
            rw [e2, ansR_ok] at hnd
            rw [e2, th_ok] at hR
            generalize hL4 : PSt H0 (T ++ kT ks2) a l w d = L4 at *
            generalize hL3 : PSt H0 (T ++ kT ks2) a l r1 d = L3 at *
            generalize hL2 : PSt H0 (T ++ kT ks) a l r1 d = L2 at *
            generalize hL1 : PSt H0 (T ++ kT ks) a l r d = L1 at *
            generalize kS T ks = sl at *
            generalize hsl2 : kS T ks2 = sl2 at *
            refine ⟨.norm, _, by
              simp (disch := first | (simp only [List.length_append, List.length_cons, List.length_nil]; omega) | (simp; done) | assumption) [AV.cells?, AV.isCell, -AV.cells?, -evLen, -evIndexAddr, cq_int, cq_str, cq_slice, cq_bool, -evBuild, -evBuildSlice, lp74, s074, s174, s274, cutC, bodyOf, Tryd.f74, E_esc, h0, h2, h3, hb2, hb3, htk, hlen, hps, hcl, hbl, hbs, hap, hcl2, hag, i22, z6_len, hi, hnd, hia, hw, hpos, h8z, hsb, z24, c24, a24, k24, i24, tq46_0, tq46_1, tq46_2, tc46, ta46, tk46, ti46, tz46, fq0, fq3, fq4, fq5, c3, a3, k3, i3, c2, a2, k2, i2, c22, a22, k22, i22, bq3, bq2, fq1, k9, a9, c9, bq9]
              rfl, .inl ⟨rfl, l.length - w, by omega, ks2, w, f, rfl, hks2, by simp [upd, putA, h0], by simp [upd, putA, h2], by simp [upd, putA, h3], by simp [upd, hb2], by simp [upd, ksC, hsl2], hL4.symm, by omega, hR⟩⟩
        · rw [hB] at hi hR
          simp only [if_true] at hi hR
          generalize hL4 : PSt H0 (T ++ kT ks2) a l (r1 + 1) d = L4 at *
          generalize hL3 : PSt H0 (T ++ kT ks2) a l r1 d = L3 at *
          generalize hL2 : PSt H0 (T ++ kT ks) a l r1 d = L2 at *
          generalize hL1 : PSt H0 (T ++ kT ks) a l r d = L1 at *
          generalize kS T ks = sl at *
          generalize hsl2 : kS T ks2 = sl2 at *
          refine ⟨.ret, _, by
            simp (disch := first | (simp only [List.length_append, List.length_cons, List.length_nil]; omega) | (simp; done) | assumption) [AV.cells?, AV.isCell, -AV.cells?, -evLen, -evIndexAddr, cq_int, cq_str, cq_slice, cq_bool, -evBuild, -evBuildSlice, lp74, s074, s174, s274, cutC, bodyOf, Tryd.f74, E_esc, h0, h2, h3, hb2, hb3, htk, hlen, hps, hcl, hbl, hbs, hap, hcl2, hag, i22, z6_len, hi, hia, hw, hpos, h8z, hsb, z24, c24, a24, k24, i24, tq46_0, tq46_1, tq46_2, tc46, ta46, tk46, ti46, tz46, fq0, fq3, fq4, fq5, c3, a3, k3, i3, c2, a2, k2, i2, c22, a22, k22, i22, bq3, bq2, fq1, k9, a9, c9, bq9]
            rfl, .inr ⟨by simp, .inl ⟨rfl, ks2, r1 + 1, hne2, by simp [upd, putA, h2], by simp [upd, ksC, hsl2, hb2, z6], hL4.symm, hR.symm⟩⟩⟩
    · rw [hsb] at hR
      simp only [if_true] at hR
      obtain ⟨fs', g1, g2⟩ := hbad hsb
      exact ⟨_, fs', g1, .inr ⟨by simp, .inr ⟨16, r1, ks, rfl, g2, hR.symm⟩⟩⟩
end
end Go.Proofs.YtemggoaefohliaaDoor.PS

/- The parser: set, evaluated (printed by gendp6.py). Condition: the world outside is closed. -/
namespace Go.Proofs.YtemggoaefohliaaDoor.PS
set_option linter.unusedVariables false
set_option linter.unusedSimpArgs false
open Go AE EX PT NF LX
set_option maxRecDepth 100000
theorem PSt_take {H0 : List HBox} (T T' : List Nat) (a : Nat) (l : List Tk) (q d : Nat) : (PSt H0 T' a l q d).H.take H0.length = (PSt H0 T a l q d).H := by
  simp [PSt, List.take_of_length_le]
theorem fin_dropP {H0 : List HBox} (T : List Nat) (a : Nat) (l : List Tk) (p q d : Nat) (ex : List Nat) (v : AV) (hw : lowB H0.length T.length H0 = true) (hv : v.sealed = true) (hvl : (v.strip T.length).low H0.length T.length = true) :
    finish (PSt H0 T a l p d) v (PSt H0 (T ++ ex) a l q d) = some (v.strip T.length, PSt H0 T a l q d) := by
  have := fin_drop (S := PSt H0 T a l p d) (S' := PSt H0 (T ++ ex) a l q d) (v := v) hv (by simp [PSt]) (by simp [PSt]) (by
    have e : (PSt H0 T a l p d).H.length = H0.length := by simp [PSt]
    have et : (PSt H0 T a l p d).T.length = T.length := rfl
    rw [e, et, PSt_take T]
    exact lowB_set (box_low _ _ l q d) hw) (by simpa [PSt] using hvl)
  rw [this]
  have e : (PSt H0 T a l p d).H.length = H0.length := by simp [PSt]
  rw [e, PSt_take T]
  rfl
section
variable {H0 : List HBox} {a : Nat} (ha : a < H0.length) (T : List Nat) (l : List Tk) (hl : l.length ≤ 2000000)
include ha hl
set_option maxHeartbeats 4000000 in
theorem ev74 (n d : Nat) (hw : lowB H0.length T.length H0 = true) (F : Nat) (hF : l.length < F) (hn : l.length < n) : Sub H0 T a l d (n + 5) 74 (setP (hereT l) F) := by
  intro p
  rw [show n + 5 = (n + 4) + 1 from rfl, ev_enter (n := n + 4) (show E.ok 74 = true from rfl) Tryd.func74 fb74 (Nat.le_of_ble_eq_true rfl) (by decide +kernel)]
  unfold setP
  have hi : ev Tryd.prog E (n + 4) 44 [.ptr a 0, .str [125]] (PSt H0 T a l p d) = _ := ev_is ha T l hl (n + 2) p d _ _
  have hb : evBuild Tryd.prog 25 [(0, .int .i64 4)] = some (.agg [.int .i64 4, .str [], .int .i64 0, .int .i64 0, .int .i64 0, .slice [] .clip]) := bX0 4
  by_cases hB : isB (hereT l) p [125] = true
  · rw [if_pos hB]
    rw [hB] at hi
    simp only [if_true] at hi
    rw [ansX_ok]
    have hf := fin_X H0 T a l p d (p + 1) (leafX 4 [] 0 0)
    simp only [leaf_emb] at hf ⊢
    generalize PSt H0 T a l (p + 1) d = L2 at *
    generalize PSt H0 T a l p d = L1 at *
    simp (disch := first | (simp only [List.length_append, List.length_cons, List.length_nil]; omega) | (simp; done) | assumption) [AV.cells?, AV.isCell, -AV.cells?, -evLen, -evIndexAddr, cq_int, cq_str, cq_slice, cq_bool, -evBuild, -evBuildSlice, s074, s174, s274, cutC, bodyOf, Tryd.f74, E_esc, hi, hb, hf, z24, c24, a24, k24, i24, tq46_0, tq46_1, tq46_2, tc46, ta46, tk46, ti46, tz46, fq0, fq3, fq4, fq5, c3, a3, k3, i3, c2, a2, k2, i2, c22, a22, k22, i22, bq3, bq2, fq1, k9, a9, c9, bq9]
  · rw [if_neg hB]
    simp only [Bool.not_eq_true] at hB
    rw [hB] at hi
    simp only [Bool.false_eq_true, if_false] at hi
    obtain ⟨fs1, e1, p1⟩ : ∃ fs', evCode ⟨Tryd.prog, E.esc 74, n + 4⟩ (ev Tryd.prog E (n + 4)) (E.ps 74) (n + 4) (.seq (.seq s074 s174) s274) ⟨argsA [.ptr a 0], fun _ => (0, []), 0, PSt H0 T a l p d⟩ = some (.norm, fs') ∧ SEI H0 T a l d (n + 4) (setF (hereT l) F [] p) (l.length - p) fs' := by
      have hT : PSt H0 (T ++ kT []) a l p d = PSt H0 T a l p d := by simp [kT]
      generalize hL1 : PSt H0 T a l p d = L1 at *
      have hks : ksC T [] = [.int .i64 4, .str [], .int .i64 0, .int .i64 0, .int .i64 0, .slice [] .clip] := rfl
      refine ⟨_, by
        simp (disch := first | (simp only [List.length_append, List.length_cons, List.length_nil]; omega) | (simp; done) | assumption) [AV.cells?, AV.isCell, -AV.cells?, -evLen, -evIndexAddr, cq_int, cq_str, cq_slice, cq_bool, -evBuild, -evBuildSlice, s074, s174, s274, cutC, bodyOf, Tryd.f74, E_esc, hi, hb, z24, c24, a24, k24, i24, tq46_0, tq46_1, tq46_2, tc46, ta46, tk46, ti46, tz46, fq0, fq3, fq4, fq5, c3, a3, k3, i3, c2, a2, k2, i2, c22, a22, k22, i22, bq3, bq2, fq1, k9, a9, c9, bq9]
        rfl, [], p, F, rfl, by simp, by simp [upd, putA, argsA], by simp [upd, putA], by simp [upd, putA], by simp [upd, z6], by simp [upd, hks], hT.symm, by omega, rfl⟩
    obtain ⟨⟨o, fs2⟩, r1, r2⟩ := iter_meas (fun m' fs h => rd74 ha T l hl n d _ m' fs h) (l.length - p) (n + 4) fs1 (by omega) p1
    rw [evCode_assoc, evCode_assoc, evCode_seq, e1, seqK_norm, evCode_block, evCode_loop, r1]
    obtain ⟨t, b, c, S⟩ := fs2
    rcases r2 with ⟨q1, ks, q, q2, q3, q4, q5, q6⟩ | ⟨c', q, ks, q1, q2, q3⟩
    · simp only at q1 q3 q4 q5
      subst q1 q5
      rw [q6, blockK_ret, ansX_ok]
      clear r1 e1 p1
      have hsl : AV.sealed (.agg (ksC T ks)) = true := by
        have := kS_sealed T ks
        simp [ksC, AV.sealed, AV.sealedL, this]
      have hst : (AV.agg (ksC T ks)).strip T.length = (setX ks).emb := by
        have := kS_strip T ks q2
        simp [ksC, AV.strip, AV.stripL, this, setX, X.emb, tokOf]
      have hf := fin_dropP T a l p q d (kT ks) (.agg (ksC T ks)) hw hsl (by rw [hst]; exact low_emb _ _ _)
      rw [hst] at hf
      have hk6 : (ksC T ks).length = 6 := rfl
      have hkt : List.take 6 (ksC T ks) = ksC T ks := rfl
      generalize PSt H0 (T ++ kT ks) a l q d = L3 at *
      generalize PSt H0 T a l q d = L2 at *
      generalize PSt H0 T a l p d = L1 at *
      generalize (setX ks).emb = ze at *
      generalize ksC T ks = kc at *
      clear hsl hst
      simp (disch := first | (simp only [List.length_append, List.length_cons, List.length_nil]; omega) | (simp; done) | assumption) [AV.cells?, AV.isCell, -AV.cells?, -evLen, -evIndexAddr, cq_int, cq_str, cq_slice, cq_bool, -evBuild, -evBuildSlice, s074, s174, s274, cutC, bodyOf, Tryd.f74, E_esc, q3, q4, hk6, hkt, hf, z24, c24, a24, k24, i24, tq46_0, tq46_1, tq46_2, tc46, ta46, tk46, ti46, tz46, fq0, fq3, fq4, fq5, c3, a3, k3, i3, c2, a2, k2, i2, c22, a22, k22, i22, bq3, bq2, fq1, k9, a9, c9, bq9]
    · simp only at q1 q2
      subst q1 q2
      rw [q3, blockK_pan, ansX_err]
      clear r1 e1 p1
      have hf := fin_dropP T a l p q d (kT ks) (stopV (hereT l) c' q) hw rfl rfl
      simp only [fromBody, finPan, hf]
      rfl
end
end Go.Proofs.YtemggoaefohliaaDoor.PS

/- The parser: one, evaluated (printed by gendp7.py). Condition: the world outside is closed. -/
namespace Go.Proofs.YtemggoaefohliaaDoor.PS
set_option linter.unusedVariables false
set_option linter.unusedSimpArgs false
open Go AE EX PT NF LX
set_option maxRecDepth 100000
theorem esc69 (d : Nat) : E.esc 69 d = (d == 1) := by simp [E]
noncomputable def r069 : Code := cutC (bodyOf Tryd.f69) [0]
noncomputable def rc69 : Code := cutC (bodyOf Tryd.f69) [1, 0]
noncomputable def r369 : Code := cutC (bodyOf Tryd.f69) [1, 1, 0]
noncomputable def B69 : Code := cutC (bodyOf Tryd.f69) [1, 1, 1, 1]
def opsOf : Code → Array Oper
  | .region _ ops _ => ops
  | _ => #[]
noncomputable def O69 : Array Oper := opsOf (cutC (bodyOf Tryd.f69) [1, 1, 1, 0])
theorem cut69 : cutD (bodyOf Tryd.f69) = some (.seq r069 (.seq rc69 (.seq r369 .skip)), O69, ⟨.value (.tmp 18), #[], #[]⟩, B69) := rfl

def b64 (a : Nat) : HBox := ⟨64, [.ptr a 0]⟩
theorem PSt_app {H0 : List HBox} {a : Nat} (ha : a < H0.length) (T : List Nat) (l : List Tk) (p d : Nat) : (⟨(PSt H0 T a l p d).H ++ [b64 a], (PSt H0 T a l p d).T⟩ : St) = PSt (H0 ++ [b64 a]) T a l p d := by
  simp [PSt, List.set_append_left, ha]
theorem PSt_own {H0 : List HBox} {a : Nat} (ha : a < H0.length) (T : List Nat) (l : List Tk) (p d : Nat) : (PSt (H0 ++ [b64 a]) T a l p d).H[H0.length]? = some ⟨64, [.ptr a 0]⟩ := by
  simp [PSt, List.set_append_left, ha, b64]
theorem PSt_Hlen (H0 : List HBox) (T : List Nat) (a : Nat) (l : List Tk) (p d : Nat) : (PSt H0 T a l p d).H.length = H0.length := by simp [PSt]
theorem fin_one {H0 : List HBox} {a : Nat} (ha : a < H0.length) (T : List Nat) (l : List Tk) (p d q : Nat) (v : AV) (hw : lowB H0.length T.length H0 = true) (hv : v.sealed = true) (hst : v.strip T.length = v) (hvl : v.low H0.length T.length = true) :
    finish (PSt H0 T a l p d) v (PSt (H0 ++ [b64 a]) T a l q d) = some (v, PSt H0 T a l q d) := by
  have ht : (PSt (H0 ++ [b64 a]) T a l q d).H.take (PSt H0 T a l p d).H.length = (PSt H0 T a l q d).H := by
    rw [PSt_Hlen, ← PSt_app ha]
    simp [PSt]
  have := fin_drop (S := PSt H0 T a l p d) (S' := PSt (H0 ++ [b64 a]) T a l q d) (v := v) hv (by simp [PSt]) (by simp [PSt]) (by
    rw [ht, PSt_Hlen]
    exact lowB_set (box_low _ _ l q d) hw) (by rw [PSt_Hlen]; show ((v.strip T.length).low H0.length T.length) = true; rw [hst]; exact hvl)
  rw [this, ht]
  show some (v.strip T.length, _) = _
  rw [hst]
  rfl
mutual
theorem low_mono {h0 t0 : Nat} : ∀ {v : AV}, v.low h0 t0 = true → v.low (h0 + 1) t0 = true
  | .ptr id _, h => by simp [AV.low] at h ⊢; omega
  | .slice es (.own t _), h => by
    simp only [AV.low, Bool.and_eq_true] at h ⊢
    exact ⟨h.1, lowL_mono h.2⟩
  | .slice es .non, h => by simp only [AV.low] at h ⊢; exact lowL_mono h
  | .slice es .clip, h => by simp only [AV.low] at h ⊢; exact lowL_mono h
  | .agg cs, h => by simp only [AV.low] at h ⊢; exact lowL_mono h
  | .tup cs, h => by simp only [AV.low] at h ⊢; exact lowL_mono h
  | .ref cs, h => by simp only [AV.low] at h ⊢; exact lowL_mono h
  | .fn _ a b, h => by
    simp only [AV.low, Bool.and_eq_true] at h ⊢
    exact ⟨lowL_mono h.1, lowL_mono h.2⟩
  | .iface _ v, h => by simp only [AV.low] at h ⊢; exact low_mono h
  | .junk, _ => rfl | .undef, _ => rfl | .bool _, _ => rfl | .int _ _, _ => rfl | .str _, _ => rfl | .nilp, _ => rfl | .loc .., _ => rfl | .nilif, _ => rfl
theorem lowL_mono {h0 t0 : Nat} : ∀ {l : List AV}, AV.lowL h0 t0 l = true → AV.lowL (h0 + 1) t0 l = true
  | [], _ => rfl
  | v :: l, h => by
    simp only [AV.lowL, Bool.and_eq_true] at h ⊢
    exact ⟨low_mono h.1, lowL_mono h.2⟩
end
theorem lowB_mono {h0 t0 : Nat} : ∀ {H : List HBox}, lowB h0 t0 H = true → lowB (h0 + 1) t0 H = true
  | [], _ => rfl
  | b :: H, h => by
    simp only [lowB, Bool.and_eq_true] at h ⊢
    exact ⟨lowL_mono h.1, lowB_mono h.2⟩
theorem wf_app {H0 : List HBox} {T : List Nat} {a : Nat} (ha : a < H0.length) (hw : lowB H0.length T.length H0 = true) : lowB (H0 ++ [b64 a]).length T.length (H0 ++ [b64 a]) = true := by
  rw [lowB_append]
  simp only [List.length_append, List.length_singleton, Bool.and_eq_true]
  refine ⟨lowB_mono hw, ?_⟩
  simp [lowB, b64, AV.lowL, AV.low]
  omega

theorem ev71 (n : Nat) {H0 : List HBox} {a : Nat} (ha : a < H0.length) (T : List Nat) (l : List Tk) (p d : Nat) (hd : d ≤ 100) (pv : Option AV) :
    evd Tryd.prog E (n + 1) 71 [.ptr H0.length 0] (PSt (H0 ++ [b64 a]) T a l p (d + 1)) pv = some (false, PSt (H0 ++ [b64 a]) T a l p d) := by
  have ha1 : a < (H0 ++ [b64 a]).length := by simp; omega
  have hg := PSt_get ha1 T l p (d + 1)
  have ho := PSt_own ha T l p (d + 1)
  have hset := PSt_set (H0 := H0 ++ [b64 a]) (a := a) T l p (d + 1) p d
  have hf := PSt_fin (H0 := H0 ++ [b64 a]) (a := a) T l p (d + 1) p d (v := .tup []) rfl rfl rfl
  have hw : IntKind.i64.wrap (((d + 1 : Nat) : Int) - 1) = (d : Int) := by rw [wrap64 _ (by omega)]; omega
  rw [evd_enter (show E.ok 71 = true from rfl), evDefer, Tryd.func71]
  have hcr : cutR (bodyOf Tryd.f71) = none := rfl
  have hb : Tryd.f71.body = some (bodyOf Tryd.f71) := rfl
  simp only [hb]
  rw [if_pos ⟨Nat.le_of_ble_eq_true rfl, by decide +kernel⟩, hcr]
  generalize PSt (H0 ++ [b64 a]) T a l p d = L2 at *
  generalize PSt (H0 ++ [b64 a]) T a l p (d + 1) = L1 at *
  generalize tkL l = es at *
  generalize d + 1 = D1 at *
  simp (disch := first | (simp only [List.length_append, List.length_cons, List.length_nil]; omega) | (simp; done) | assumption) [AV.cells?, AV.isCell, AV.sealed, AV.sealedL, bodyOf, Tryd.f71, E_esc, hg, ho, hset, hw, hf, endD, tq66_0, tq66_1, tq66_2, tk66, k3, c3, a3, i3, tk64, tc64, ta64, ti64]

section
variable {H0 : List HBox} {a : Nat} (ha : a < H0.length) (T : List Nat) (l : List Tk) (hl : l.length ≤ 2000000)
include ha hl
/-- what the body behind the defer gives -/
def BQ (H1 : List HBox) (T : List Nat) (a : Nat) (l : List Tk) (d n : Nat) (R : PR X) (r : Out × FS) : Prop :=
  (r.1 = .ret ∧ ∃ e q, r.2.t 2 = .loc n 2 2 0 ∧ r.2.b 2 = (2, X.cells e) ∧ r.2.S = PSt H1 T a l q d ∧ R = .ok (e, q)) ∨
  (∃ c q, r.1 = .pan (stopV (hereT l) c q) ∧ r.2.S = PSt H1 T a l q d ∧ R = .error (c, q))
set_option maxHeartbeats 8000000 in
theorem one_body (n d F k : Nat) (one any : Nat → PR X) (h72 : Sub (H0 ++ [b64 a]) T a l (d + 1) (n + 4) 72 (signedP (hereT l) F one any)) (h73 : Sub (H0 ++ [b64 a]) T a l (d + 1) (n + 4) 73 (namedP (hereT l) one any)) (p : Nat)
    (t : Nat → AV) (b : Nat → Nat × List AV) (c : Nat) (h1 : t 1 = .ptr H0.length 0) (h2 : t 2 = .loc (n + 4) 2 2 0) (hb2 : b 2 = (2, z6)) :
    ∃ r, evCode ⟨Tryd.prog, E.esc 69, n + 4⟩ (ev Tryd.prog E (n + 4)) (E.ps 69) (n + 4) B69 ⟨t, b, c, PSt (H0 ++ [b64 a]) T a l p (d + 1)⟩ = some r ∧
      BQ (H0 ++ [b64 a]) T a l (d + 1) (n + 4) (if (hereT l p).k = 2 then .ok (leafX 1 [] (hereT l p).n 0, p + 1)
    else if (hereT l p).k = 3 then .ok (leafX 3 (hereT l p).s 0 0, p + 1)
    else if (hereT l p).k = 4 then signedP (hereT l) F one any p
    else if (hereT l p).k = 1 then namedP (hereT l) one any p
    else .error (16, p)) r := by
  have ha1 : a < (H0 ++ [b64 a]).length := by simp; omega
  have hh := ev_hereP ha1 T l hl (n + 3) p (d + 1)
  have hg := PSt_get ha1 T l p (d + 1)
  have ho := fun q => PSt_own ha T l q (d + 1)
  have ho1 := ho p
  have ho2 := ho (p + 1)
  have hset := PSt_set (H0 := H0 ++ [b64 a]) (a := a) T l p (d + 1) (p + 1) (d + 1)
  have hw : (hereT l p).k ≠ 5 → IntKind.i64.wrap ((p : Int) + 1) = ((p + 1 : Nat) : Int) := fun h => by have := here_lt h; rw [wrap64 _ (by omega)]; omega
  have h72p := h72 p
  have h73p := h73 p
  have hfl := ev_fail ha1 T l hl (n + 2) p (d + 1) 16
  have hS2 : PSt (H0 ++ [b64 a]) T a l (p + 1) (d + 1) = PSt (H0 ++ [b64 a]) T a l (p + 1) (d + 1) := rfl
  clear ho
  generalize hereT l p = w at *
  obtain ⟨k, ts, tn, tp⟩ := w
  simp only [Tk.emb, Tk.cells] at hh hw ⊢
  by_cases k2 : k = 2
  · subst k2
    have hw := hw (by decide)
    rw [if_pos rfl]
    have hb : evBuild Tryd.prog 25 [(0, .int .i64 1), (2, .int .i64 tn)] = some (leafX 1 [] tn 0).emb := bX2 1 tn
    have hcz := xcells (leafX 1 [] tn 0)
    have hlz := xlen (leafX 1 [] tn 0)
    generalize hL2 : PSt (H0 ++ [b64 a]) T a l (p + 1) (d + 1) = L2 at *
    generalize PSt (H0 ++ [b64 a]) T a l p (d + 1) = L1 at *
    generalize hzc : (leafX 1 [] tn 0).cells = zc at *
    generalize (leafX 1 [] tn 0).emb = ze at *
    generalize hP1 : p + 1 = P1 at *
    generalize hD1 : d + 1 = D1 at *
    generalize tkL l = es at *
    refine ⟨_, by
      simp (disch := first | (simp only [List.length_append, List.length_cons, List.length_nil]; omega) | (simp; done) | assumption) [AV.cells?, AV.isCell, -AV.cells?, cq_int, cq_str, cq_slice, cq_bool, cq_ptr, -evBuild, -evBuildSlice, AV.sealed, AV.sealedL, r069, rc69, r369, B69, cutC, bodyOf, Tryd.f69, esc69, h1, h2, hb2, hh, ho1, hg, hset, hw, hb, hcz, hlz, z6_len, z24, c24, a24, k24, i24, tq46_0, tq46_1, tq46_2, tc46, ta46, tk46, ti46, tz46, fq0, fq3, fq4, fq5, c3, a3, k3, i3, c2, a2, k2, i2, c22, a22, k22, i22, bq3, bq2, tq66_0, tq66_1, tq66_2, tk66, k9, a9, c9, bq9, tk64, tc64, ta64, ti64]
      rfl, .inl ⟨rfl, leafX 1 [] tn 0, P1, by simp [upd, putA, h2], by simp [upd, hzc, hb2, z6, hlz], hL2.symm, rfl⟩⟩
  · rw [if_neg k2]
    by_cases k3' : k = 3
    · subst k3'
      have hw := hw (by decide)
      rw [if_pos rfl]
      have hb : evBuild Tryd.prog 25 [(0, .int .i64 3), (1, .str ts)] = some (leafX 3 ts 0 0).emb := bX1 3 ts
      have hcz := xcells (leafX 3 ts 0 0)
      have hlz := xlen (leafX 3 ts 0 0)
      generalize hL2 : PSt (H0 ++ [b64 a]) T a l (p + 1) (d + 1) = L2 at *
      generalize PSt (H0 ++ [b64 a]) T a l p (d + 1) = L1 at *
      generalize hzc : (leafX 3 ts 0 0).cells = zc at *
      generalize (leafX 3 ts 0 0).emb = ze at *
      generalize hP1 : p + 1 = P1 at *
      generalize hD1 : d + 1 = D1 at *
      generalize tkL l = es at *
      refine ⟨_, by
        simp (disch := first | (simp only [List.length_append, List.length_cons, List.length_nil]; omega) | (simp; done) | assumption) [AV.cells?, AV.isCell, -AV.cells?, cq_int, cq_str, cq_slice, cq_bool, cq_ptr, -evBuild, -evBuildSlice, AV.sealed, AV.sealedL, r069, rc69, r369, B69, cutC, bodyOf, Tryd.f69, esc69, h1, h2, hb2, hh, ho1, hg, hset, hw, hb, hcz, hlz, z6_len, z24, c24, a24, k24, i24, tq46_0, tq46_1, tq46_2, tc46, ta46, tk46, ti46, tz46, fq0, fq3, fq4, fq5, c3, a3, k3, i3, c2, a2, k2, i2, c22, a22, k22, i22, bq3, bq2, tq66_0, tq66_1, tq66_2, tk66, k9, a9, c9, bq9, tk64, tc64, ta64, ti64]
        rfl, .inl ⟨rfl, leafX 3 ts 0 0, P1, by simp [upd, putA, h2], by simp [upd, hzc, hb2, z6, hlz], hL2.symm, rfl⟩⟩
    · rw [if_neg k3']
      by_cases k4 : k = 4
      · subst k4
        rw [if_pos rfl]
        cases e1 : signedP (hereT l) F one any p with
        | error z =>
          obtain ⟨c', q⟩ := z
          rw [e1, ansX_err] at h72p
          generalize hL2 : PSt (H0 ++ [b64 a]) T a l q (d + 1) = L2 at *
          generalize PSt (H0 ++ [b64 a]) T a l p (d + 1) = L1 at *
          generalize hsv : stopV (hereT l) c' q = sv at *
          refine ⟨_, by
            simp (disch := first | (simp only [List.length_append, List.length_cons, List.length_nil]; omega) | (simp; done) | assumption) [AV.cells?, AV.isCell, -AV.cells?, cq_int, cq_str, cq_slice, cq_bool, cq_ptr, -evBuild, -evBuildSlice, AV.sealed, AV.sealedL, r069, rc69, r369, B69, cutC, bodyOf, Tryd.f69, esc69, h1, h2, hb2, hh, ho1, h72p, h73p, z24, c24, a24, k24, i24, tq46_0, tq46_1, tq46_2, tc46, ta46, tk46, ti46, tz46, fq0, fq3, fq4, fq5, c3, a3, k3, i3, c2, a2, k2, i2, c22, a22, k22, i22, bq3, bq2, tq66_0, tq66_1, tq66_2, tk66, k9, a9, c9, bq9, tk64, tc64, ta64, ti64]
            rfl, .inr ⟨c', q, by rw [hsv], hL2.symm, rfl⟩⟩
        | ok z =>
          obtain ⟨x, q⟩ := z
          rw [e1, ansX_ok] at h72p
          have hcz := xcells x
          have hlz := xlen x
          generalize hL2 : PSt (H0 ++ [b64 a]) T a l q (d + 1) = L2 at *
          generalize PSt (H0 ++ [b64 a]) T a l p (d + 1) = L1 at *
          generalize hzc : x.cells = zc at *
          generalize x.emb = ze at *
          refine ⟨_, by
            simp (disch := first | (simp only [List.length_append, List.length_cons, List.length_nil]; omega) | (simp; done) | assumption) [AV.cells?, AV.isCell, -AV.cells?, cq_int, cq_str, cq_slice, cq_bool, cq_ptr, -evBuild, -evBuildSlice, AV.sealed, AV.sealedL, r069, rc69, r369, B69, cutC, bodyOf, Tryd.f69, esc69, h1, h2, hb2, hh, ho1, h72p, h73p, hcz, hlz, z6_len, z24, c24, a24, k24, i24, tq46_0, tq46_1, tq46_2, tc46, ta46, tk46, ti46, tz46, fq0, fq3, fq4, fq5, c3, a3, k3, i3, c2, a2, k2, i2, c22, a22, k22, i22, bq3, bq2, tq66_0, tq66_1, tq66_2, tk66, k9, a9, c9, bq9, tk64, tc64, ta64, ti64]
            rfl, .inl ⟨rfl, x, q, by simp [upd, putA, h2], by simp [upd, hzc, hb2, z6, hlz], hL2.symm, rfl⟩⟩
      · rw [if_neg k4]
        by_cases k1 : k = 1
        · subst k1
          rw [if_pos rfl]
          cases e1 : namedP (hereT l) one any p with
          | error z =>
            obtain ⟨c', q⟩ := z
            rw [e1, ansX_err] at h73p
            generalize hL2 : PSt (H0 ++ [b64 a]) T a l q (d + 1) = L2 at *
            generalize PSt (H0 ++ [b64 a]) T a l p (d + 1) = L1 at *
            generalize hsv : stopV (hereT l) c' q = sv at *
            refine ⟨_, by
              simp (disch := first | (simp only [List.length_append, List.length_cons, List.length_nil]; omega) | (simp; done) | assumption) [AV.cells?, AV.isCell, -AV.cells?, cq_int, cq_str, cq_slice, cq_bool, cq_ptr, -evBuild, -evBuildSlice, AV.sealed, AV.sealedL, r069, rc69, r369, B69, cutC, bodyOf, Tryd.f69, esc69, h1, h2, hb2, hh, ho1, h72p, h73p, z24, c24, a24, k24, i24, tq46_0, tq46_1, tq46_2, tc46, ta46, tk46, ti46, tz46, fq0, fq3, fq4, fq5, c3, a3, k3, i3, c2, a2, k2, i2, c22, a22, k22, i22, bq3, bq2, tq66_0, tq66_1, tq66_2, tk66, k9, a9, c9, bq9, tk64, tc64, ta64, ti64]
              rfl, .inr ⟨c', q, by rw [hsv], hL2.symm, rfl⟩⟩
          | ok z =>
            obtain ⟨x, q⟩ := z
            rw [e1, ansX_ok] at h73p
            have hcz := xcells x
            have hlz := xlen x
            generalize hL2 : PSt (H0 ++ [b64 a]) T a l q (d + 1) = L2 at *
            generalize PSt (H0 ++ [b64 a]) T a l p (d + 1) = L1 at *
            generalize hzc : x.cells = zc at *
            generalize x.emb = ze at *
            refine ⟨_, by
              simp (disch := first | (simp only [List.length_append, List.length_cons, List.length_nil]; omega) | (simp; done) | assumption) [AV.cells?, AV.isCell, -AV.cells?, cq_int, cq_str, cq_slice, cq_bool, cq_ptr, -evBuild, -evBuildSlice, AV.sealed, AV.sealedL, r069, rc69, r369, B69, cutC, bodyOf, Tryd.f69, esc69, h1, h2, hb2, hh, ho1, h72p, h73p, hcz, hlz, z6_len, z24, c24, a24, k24, i24, tq46_0, tq46_1, tq46_2, tc46, ta46, tk46, ti46, tz46, fq0, fq3, fq4, fq5, c3, a3, k3, i3, c2, a2, k2, i2, c22, a22, k22, i22, bq3, bq2, tq66_0, tq66_1, tq66_2, tk66, k9, a9, c9, bq9, tk64, tc64, ta64, ti64]
              rfl, .inl ⟨rfl, x, q, by simp [upd, putA, h2], by simp [upd, hzc, hb2, z6, hlz], hL2.symm, rfl⟩⟩
        · rw [if_neg k1]
          generalize hL1 : PSt (H0 ++ [b64 a]) T a l p (d + 1) = L1 at *
          generalize hsv : stopV (hereT l) 16 p = sv at *
          refine ⟨_, by
            simp (disch := first | (simp only [List.length_append, List.length_cons, List.length_nil]; omega) | (simp; done) | assumption) [AV.cells?, AV.isCell, -AV.cells?, cq_int, cq_str, cq_slice, cq_bool, cq_ptr, -evBuild, -evBuildSlice, AV.sealed, AV.sealedL, r069, rc69, r369, B69, cutC, bodyOf, Tryd.f69, esc69, h1, h2, hb2, hh, ho1, k2, k3', k4, k1, hfl, z24, c24, a24, k24, i24, tq46_0, tq46_1, tq46_2, tc46, ta46, tk46, ti46, tz46, fq0, fq3, fq4, fq5, c3, a3, k3, i3, c2, a2, k2, i2, c22, a22, k22, i22, bq3, bq2, tq66_0, tq66_1, tq66_2, tk66, k9, a9, c9, bq9, tk64, tc64, ta64, ti64]
            rfl, .inr ⟨16, p, by rw [hsv], hL1.symm, rfl⟩⟩

set_option maxHeartbeats 8000000 in
theorem ev69 (n d F k : Nat) (hdk : d + k + 1 = 32) (hw : lowB H0.length T.length H0 = true) (one any : Nat → PR X) (h72 : Sub (H0 ++ [b64 a]) T a l (d + 1) (n + 4) 72 (signedP (hereT l) F one any)) (h73 : Sub (H0 ++ [b64 a]) T a l (d + 1) (n + 4) 73 (namedP (hereT l) one any)) :
    Sub H0 T a l d (n + 5) 69 (fun p => if (hereT l p).k = 2 then .ok (leafX 1 [] (hereT l p).n 0, p + 1)
    else if (hereT l p).k = 3 then .ok (leafX 3 (hereT l p).s 0 0, p + 1)
    else if (hereT l p).k = 4 then signedP (hereT l) F one any p
    else if (hereT l p).k = 1 then namedP (hereT l) one any p
    else .error (16, p)) := by
  intro p
  have ha1 : a < (H0 ++ [b64 a]).length := by simp; omega
  rw [show n + 5 = (n + 4) + 1 from rfl, ev_enterD (n := n + 4) (show E.ok 69 = true from rfl) (show E.dfr 69 = true from rfl) Tryd.func69 (fn := Tryd.f69) (c := bodyOf Tryd.f69) rfl cut69 (Nat.le_of_ble_eq_true rfl) (by decide +kernel)]
  have happ := PSt_app ha T l p d
  have hlen := PSt_Hlen H0 T a l p d
  have hg := PSt_get ha1 T l p d
  have ho := PSt_own ha T l p d
  have hset := PSt_set (H0 := H0 ++ [b64 a]) (a := a) T l p d p (d + 1)
  have hd1 : IntKind.i64.wrap ((d : Int) + 1) = ((d + 1 : Nat) : Int) := by rw [wrap64 _ (by omega)]; omega
  have hlt : ¬ (32 : Int) ≤ (d : Int) := by omega
  obtain ⟨fs1, e1, q1, q2, q3, q4⟩ : ∃ fs1, evCode ⟨Tryd.prog, E.esc 69, n + 4⟩ (ev Tryd.prog E (n + 4)) (E.ps 69) (n + 4) (.seq r069 (.seq rc69 (.seq r369 .skip))) ⟨argsA [.ptr a 0], fun _ => (0, []), 0, PSt H0 T a l p d⟩ = some (.norm, fs1) ∧ fs1.t 1 = .ptr H0.length 0 ∧ fs1.t 2 = .loc (n + 4) 2 2 0 ∧ fs1.b 2 = (2, z6) ∧ fs1.S = PSt (H0 ++ [b64 a]) T a l p (d + 1) := by
    simp only [b64] at happ hset hg ho ⊢
    generalize hL3 : PSt (H0 ++ [⟨64, [.ptr a 0]⟩]) T a l p (d + 1) = L3 at *
    generalize PSt (H0 ++ [⟨64, [.ptr a 0]⟩]) T a l p d = L2 at *
    generalize PSt H0 T a l p d = L1 at *
    generalize d + 1 = D1 at *
    generalize tkL l = es at *
    refine ⟨_, by
      simp (disch := first | (simp only [List.length_append, List.length_cons, List.length_nil]; omega) | (simp; done) | assumption) [AV.cells?, AV.isCell, -AV.cells?, cq_int, cq_str, cq_slice, cq_bool, cq_ptr, -evBuild, -evBuildSlice, AV.sealed, AV.sealedL, r069, rc69, r369, B69, cutC, bodyOf, Tryd.f69, esc69, happ, hlen, hg, ho, hset, hd1, hlt, z24', z24, c24, a24, k24, i24, tq46_0, tq46_1, tq46_2, tc46, ta46, tk46, ti46, tz46, fq0, fq3, fq4, fq5, c3, a3, k3, i3, c2, a2, k2, i2, c22, a22, k22, i22, bq3, bq2, tq66_0, tq66_1, tq66_2, tk66, k9, a9, c9, bq9, tk64, tc64, ta64, ti64]
      rfl, by simp [upd, putA], by simp [upd, putA], by simp [upd, z6], rfl⟩
  rw [e1]
  clear e1 happ hlen hg ho hset
  obtain ⟨t, b, c, S⟩ := fs1
  simp only at q1 q2 q3 q4
  subst q4
  obtain ⟨⟨o, fs2⟩, r1, r2⟩ := one_body ha T l hl n d F k one any h72 h73 p (upd 18 (.fn 71 [] [.ptr H0.length 0]) t) b (c + 2) (by simp [upd, q1]) (by simp [upd, q2]) q3
  have hsq : seqA ⟨Tryd.prog, E.esc 69, n + 4⟩ (ev Tryd.prog E (n + 4)) O69 (List.range (O69.size - 1)) ⟨t, b, c, PSt (H0 ++ [b64 a]) T a l p (d + 1)⟩ = some (.ok ⟨upd 18 (.fn 71 [] [.ptr H0.length 0]) t, b, c, PSt (H0 ++ [b64 a]) T a l p (d + 1)⟩ .non) := by
    have hr : List.range (O69.size - 1) = [0] := rfl
    have ho0 : ∃ o, O69[0]? = some o ∧ o.guard = none ∧ o.dst = some 18 ∧ o.op = .makeFunc (.func 71) #[] #[.tmp 1] := ⟨_, rfl, rfl, rfl, rfl⟩
    obtain ⟨o, o1, o2, o3, o4⟩ := ho0
    rw [hr]
    simp only [seqA, o1, stepA, o2, wantedA, evOp, o4, o3, putA, rhoL, rho, q1, List.map_nil, List.map_cons]
  have hsz : O69.size = 2 := rfl
  simp only [hsq]
  simp only [rho, upd, if_true, hsz]
  rw [r1]
  obtain ⟨t2, b2, c2, S2⟩ := fs2
  rcases r2 with ⟨z1, e, q, z2, z3, z4, z5⟩ | ⟨c', q, z1, z2, z3⟩
  · simp only at z1 z2 z3 z4
    subst z1 z4
    rw [z5, ansX_ok]
    have hdf := ev71 (n + 3) ha T l q d (by omega) none
    have hf := fin_one ha T l p d q e.emb hw (sealed_emb e) (strip_emb _ e) (low_emb _ _ e)
    have hlz := xlen e
    have htz := xtake e
    have hez := xemb e
    simp only [fromD, List.nil_append, rhoL, List.map_nil, hdf]
    generalize PSt H0 T a l q d = L3 at *
    generalize PSt (H0 ++ [b64 a]) T a l q d = L2 at *
    generalize e.cells = ec at *
    generalize e.emb = ee at *
    have hrs : Tryd.f69.results.toList = [.cell 2 25] := rfl
    simp (disch := first | (simp only [List.length_append, List.length_cons, List.length_nil]; omega) | (simp; done) | assumption) [AV.cells?, AV.isCell, -AV.cells?, hrs, z2, z3, hlz, htz, hez, hf, c24, a24, k24]
  · simp only at z1 z2
    subst z1 z2
    rw [z3, ansX_err]
    have hdf := ev71 (n + 3) ha T l q d (by omega) (some (stopV (hereT l) c' q))
    have hf := fin_one ha T l p d q (stopV (hereT l) c' q) hw rfl rfl rfl
    simp only [fromD, List.nil_append, rhoL, List.map_nil, hdf, finPan, hf]
theorem ev69z (n d : Nat) (hd : d = 32) (hw : lowB H0.length T.length H0 = true) (p : Nat) : ev Tryd.prog E (n + 5) 69 [.ptr a 0] (PSt H0 T a l p d) = ansX H0 T a l d (.error (32, p)) := by
  have ha1 : a < (H0 ++ [b64 a]).length := by simp; omega
  rw [show n + 5 = (n + 4) + 1 from rfl, ev_enterD (n := n + 4) (show E.ok 69 = true from rfl) (show E.dfr 69 = true from rfl) Tryd.func69 (fn := Tryd.f69) (c := bodyOf Tryd.f69) rfl cut69 (Nat.le_of_ble_eq_true rfl) (by decide +kernel)]
  have happ := PSt_app ha T l p d
  have hlen := PSt_Hlen H0 T a l p d
  have hg := PSt_get ha1 T l p d
  have ho := PSt_own ha T l p d
  have hlt : (32 : Int) ≤ (d : Int) := by omega
  have hfl := ev_fail ha1 T l hl (n + 2) p d 32
  have hf := fin_one ha T l p d p (stopV (hereT l) 32 p) hw rfl rfl rfl
  rw [ansX_err]
  simp only [b64] at happ hg ho hfl hf ⊢
  generalize PSt (H0 ++ [⟨64, [.ptr a 0]⟩]) T a l p d = L2 at *
  generalize PSt H0 T a l p d = L1 at *
  generalize stopV (hereT l) 32 p = sv at *
  generalize tkL l = es at *
  simp (disch := first | (simp only [List.length_append, List.length_cons, List.length_nil]; omega) | (simp; done) | assumption) [AV.cells?, AV.isCell, -AV.cells?, cq_int, cq_str, cq_slice, cq_bool, cq_ptr, -evBuild, -evBuildSlice, AV.sealed, AV.sealedL, r069, rc69, r369, B69, cutC, bodyOf, Tryd.f69, esc69, happ, hlen, hg, ho, hlt, hfl, hf, finPan, z24', z24, c24, a24, k24, i24, tq46_0, tq46_1, tq46_2, tc46, ta46, tk46, ti46, tz46, fq0, fq3, fq4, fq5, c3, a3, k3, i3, c2, a2, k2, i2, c22, a22, k22, i22, bq3, bq2, tq66_0, tq66_1, tq66_2, tk66, k9, a9, c9, bq9, tk64, tc64, ta64, ti64]
end
end Go.Proofs.YtemggoaefohliaaDoor.PS

/- The parser, whole: by how many levels there still are. Condition: the world outside is closed. -/
namespace Go.Proofs.YtemggoaefohliaaDoor.PS
set_option linter.unusedVariables false
set_option linter.unusedSimpArgs false
open Go AE EX PT NF LX
set_option maxRecDepth 100000

/-- whatever depth of calls from b on -/
def From (H0 : List HBox) (T : List Nat) (a : Nat) (l : List Tk) (d b f : Nat) (sub : Nat → PR X) : Prop := ∀ m, b ≤ m → Sub H0 T a l d m f sub
section
variable {H0 : List HBox} {a : Nat} (ha : a < H0.length) (T : List Nat) (l : List Tk) (hl : l.length ≤ 2000000)
include ha hl
theorem from68 {d b F : Nat} {one : Nat → PR X} (hb : l.length + 4 ≤ b) (hF : l.length < F) (hm : Mono one) (h : From H0 T a l d b 69 one) : From H0 T a l d (b + 1) 68 (prodP (hereT l) F one) := by
  intro m hbm
  obtain ⟨n, rfl⟩ : ∃ n, m = n + 3 := ⟨m - 3, by omega⟩
  exact ev68 ha T l hl n d one (h _ (by omega)) hm F hF (by omega)
theorem from64 {d b F : Nat} {one : Nat → PR X} (hb : l.length + 4 ≤ b) (hF : l.length < F) (hm : Mono one) (h : From H0 T a l d b 69 one) : From H0 T a l d (b + 2) 64 (sumP (hereT l) F one) := by
  intro m hbm
  obtain ⟨n, rfl⟩ : ∃ n, m = n + 3 := ⟨m - 3, by omega⟩
  exact ev64 ha T l hl n d _ (from68 ha T l hl hb hF hm h _ (by omega)) (mono_any hm).1 F hF (by omega)
theorem from56 {d b F : Nat} {one : Nat → PR X} (hb : l.length + 4 ≤ b) (hF : l.length < F) (hm : Mono one) (h : From H0 T a l d b 69 one) : From H0 T a l d (b + 3) 56 (relP (hereT l) (sumP (hereT l) F one)) := by
  intro m hbm
  obtain ⟨n, rfl⟩ : ∃ n, m = n + 3 := ⟨m - 3, by omega⟩
  exact ev56 ha T l hl n d _ (from64 ha T l hl hb hF hm h _ (by omega))
theorem from43 {d b F : Nat} {one : Nat → PR X} (hb : l.length + 4 ≤ b) (hF : l.length < F) (hm : Mono one) (h : From H0 T a l d b 69 one) : From H0 T a l d (b + 4) 43 (allP (hereT l) F one) := by
  intro m hbm
  obtain ⟨n, rfl⟩ : ∃ n, m = n + 3 := ⟨m - 3, by omega⟩
  exact ev43 ha T l hl n d _ (from56 ha T l hl hb hF hm h _ (by omega)) (mono_rel (mono_any hm).2.1) F hF (by omega)
theorem from27 {d b F : Nat} {one : Nat → PR X} (hb : l.length + 4 ≤ b) (hF : l.length < F) (hm : Mono one) (h : From H0 T a l d b 69 one) : From H0 T a l d (b + 5) 27 (anyP (hereT l) F one) := by
  intro m hbm
  obtain ⟨n, rfl⟩ : ∃ n, m = n + 3 := ⟨m - 3, by omega⟩
  exact ev27 ha T l hl n d _ (from43 ha T l hl hb hF hm h _ (by omega)) (mono_any hm).2.2.1 F hF (by omega)
theorem from79 {d b F : Nat} {one : Nat → PR X} (hb : l.length + 4 ≤ b) (hF : l.length < F) (hm : Mono one) (h : From H0 T a l d b 69 one) : From H0 T a l d (b + 6) 79 (argP (hereT l) (anyP (hereT l) F one)) := by
  intro m hbm
  obtain ⟨n, rfl⟩ : ∃ n, m = n + 5 := ⟨m - 5, by omega⟩
  exact ev79 ha T l hl n d _ (from27 ha T l hl hb hF hm h _ (by omega))
theorem from80 {d b F : Nat} {one : Nat → PR X} (hb : l.length + 4 ≤ b) (hF : l.length < F) (hm : Mono one) (h : From H0 T a l d b 69 one) : From H0 T a l d (b + 7) 80 (timedP (hereT l) (anyP (hereT l) F one)) := by
  intro m hbm
  obtain ⟨n, rfl⟩ : ∃ n, m = n + 6 := ⟨m - 6, by omega⟩
  exact ev80 ha T l hl n d _ (from79 ha T l hl hb hF hm h _ (by omega)) (from27 ha T l hl hb hF hm h _ (by omega))
theorem from72 {d b F : Nat} {one : Nat → PR X} (hw : lowB H0.length T.length H0 = true) (hb : l.length + 4 ≤ b) (hF : l.length < F) (hm : Mono one) (h : From H0 T a l d b 69 one) : From H0 T a l d (b + 6) 72 (signedP (hereT l) F one (anyP (hereT l) F one)) := by
  intro m hbm
  obtain ⟨n, rfl⟩ : ∃ n, m = n + 7 := ⟨m - 7, by omega⟩
  exact ev72 ha T l hl n d F _ _ (h _ (by omega)) (from27 ha T l hl hb hF hm h _ (by omega)) (ev74 ha T l hl (n + 1) d hw F hF (by omega))
theorem from73 {d b F : Nat} {one : Nat → PR X} (hb : l.length + 4 ≤ b) (hF : l.length < F) (hm : Mono one) (h : From H0 T a l d b 69 one) : From H0 T a l d (b + 8) 73 (namedP (hereT l) one (anyP (hereT l) F one)) := by
  intro m hbm
  obtain ⟨n, rfl⟩ : ∃ n, m = n + 7 := ⟨m - 7, by omega⟩
  exact ev73 ha T l hl n d _ _ (h _ (by omega)) (from79 ha T l hl hb hF hm h _ (by omega)) (from80 ha T l hl hb hF hm h _ (by omega))
end
theorem one_all (T : List Nat) (l : List Tk) (hl : l.length ≤ 2000000) (F : Nat) (hF : l.length < F) : ∀ (k : Nat) (H0 : List HBox) (a d : Nat), a < H0.length → lowB H0.length T.length H0 = true → d + k = 32 →
    From H0 T a l d (l.length + 20 * k + 20) 69 (oneF (hereT l) F k)
  | 0, H0, a, d, ha, hw, hd => by
    intro m hm p
    obtain ⟨n, rfl⟩ : ∃ n, m = n + 5 := ⟨m - 5, by omega⟩
    rw [oneF]
    exact ev69z ha T l hl n d (by omega) hw p
  | k + 1, H0, a, d, ha, hw, hd => by
    have ha1 : a < (H0 ++ [b64 a]).length := by simp; omega
    have hw1 := wf_app ha hw
    have ih := one_all T l hl F hF k (H0 ++ [b64 a]) a (d + 1) ha1 hw1 (by omega)
    have hm1 := mono_one (h := hereT l) F k
    intro m hm
    obtain ⟨n, rfl⟩ : ∃ n, m = n + 5 := ⟨m - 5, by omega⟩
    have e : oneF (hereT l) F (k + 1) = (fun p => if (hereT l p).k = 2 then .ok (leafX 1 [] (hereT l p).n 0, p + 1)
    else if (hereT l p).k = 3 then .ok (leafX 3 (hereT l p).s 0 0, p + 1)
    else if (hereT l p).k = 4 then signedP (hereT l) F (oneF (hereT l) F k) (anyP (hereT l) F (oneF (hereT l) F k)) p
    else if (hereT l p).k = 1 then namedP (hereT l) (oneF (hereT l) F k) (anyP (hereT l) F (oneF (hereT l) F k)) p
    else .error (16, p)) := by funext p; rw [oneF]
    rw [e]
    exact ev69 ha T l hl n d F k (by omega) hw _ _ (from72 ha1 T l hl hw1 (by omega) hF hm1 ih _ (by omega)) (from73 ha1 T l hl (by omega) hF hm1 ih _ (by omega))
/-- from the first word on -/
def takeR (l : List Tk) : PR X := anyP (hereT l) (l.length + 1) (oneF (hereT l) (l.length + 1) 32) 0
theorem any_all (T : List Nat) (l : List Tk) (hl : l.length ≤ 2000000) (H0 : List HBox) (a : Nat) (ha : a < H0.length) (hw : lowB H0.length T.length H0 = true) (m : Nat) (hm : l.length + 700 ≤ m) :
    ev Tryd.prog E m 27 [.ptr a 0] (PSt H0 T a l 0 0) = ansX H0 T a l 0 (takeR l) :=
  from27 ha T l hl (by omega) (by omega) (mono_one _ 32) (one_all T l hl (l.length + 1) (by omega) 32 H0 a 0 ha hw rfl) m (by omega) 0
end Go.Proofs.YtemggoaefohliaaDoor.PS

/- parse.Take, evaluated. Condition: the world outside is closed. -/
namespace Go.Proofs.YtemggoaefohliaaDoor.PS
set_option linter.unusedVariables false
set_option linter.unusedSimpArgs false
open Go AE EX PT NF LX
set_option maxRecDepth 100000

theorem esc15 (d : Nat) : E.esc 15 d = (d == 2 || d == 3 || d == 4 || d == 8) := by simp [E]
noncomputable def r015 : Code := cutC (bodyOf Tryd.f15) [0]
noncomputable def r115 : Code := cutC (bodyOf Tryd.f15) [1, 0]
noncomputable def B15 : Code := cutC (bodyOf Tryd.f15) [1, 1, 1]
noncomputable def O15 : Array Oper := opsOf (cutC (bodyOf Tryd.f15) [1, 1, 0])
theorem cut15 : cutD (bodyOf Tryd.f15) = some (.seq r015 (.seq r115 .skip), O15, ⟨.value (.tmp 9), #[], #[]⟩, B15) := rfl
theorem zv68 : zvQ Tryd.prog 68 = some (.agg [.int .i64 0, .int .i64 0]) := by kernel_rfl
theorem tz27 : zeroQ Tryd.prog 27 = some [.nilif] := by kernel_rfl
noncomputable def y26 : Code := cutC (bodyOf Tryd.f26) [1]
noncomputable def O26 : Array Oper := opsOf (cutC (bodyOf Tryd.f26) [0])
theorem cut26 : cutR (bodyOf Tryd.f26) = some (0, O26, 6, y26) := rfl

/-- the boxes of Take: its results, and the parser -/
def TB (l : List Tk) (e : X) (n : Int) (er : AV) (q : Nat) : List HBox := [⟨25, e.cells⟩, ⟨3, [.int .i64 n]⟩, ⟨27, [er]⟩, box l q 0]
def TSt (S0 : St) (l : List Tk) (e : X) (n : Int) (er : AV) (q : Nat) (more : List HBox) : St := ⟨S0.H ++ (TB l e n er q ++ more), S0.T⟩
def zX : X := leafX 0 [] 0 0
theorem zX_cells : zX.cells = z6 := rfl

theorem TSt_eq (S0 : St) (l : List Tk) (q : Nat) : PSt (S0.H ++ TB l zX 0 .nilif 0) S0.T (S0.H.length + 3) l q 0 = TSt S0 l zX 0 .nilif q [] := by
  simp [PSt, TSt, TB, List.set_append_right]
theorem TSt_get0 (S0 : St) (l : List Tk) (e : X) (n : Int) (er : AV) (q : Nat) (more : List HBox) : (TSt S0 l e n er q more).H[S0.H.length]? = some ⟨25, e.cells⟩ := by simp [TSt, TB]
theorem TSt_get1 (S0 : St) (l : List Tk) (e : X) (n : Int) (er : AV) (q : Nat) (more : List HBox) : (TSt S0 l e n er q more).H[S0.H.length + 1]? = some ⟨3, [.int .i64 n]⟩ := by simp [TSt, TB]
theorem TSt_get2 (S0 : St) (l : List Tk) (e : X) (n : Int) (er : AV) (q : Nat) (more : List HBox) : (TSt S0 l e n er q more).H[S0.H.length + 2]? = some ⟨27, [er]⟩ := by simp [TSt, TB]
theorem TSt_get3 (S0 : St) (l : List Tk) (e : X) (n : Int) (er : AV) (q : Nat) (more : List HBox) : (TSt S0 l e n er q more).H[S0.H.length + 3]? = some ⟨66, [.slice (tkL l) .non, .int .i64 q, .int .i64 0]⟩ := by simp [TSt, TB, box]
theorem TSt_set0 (S0 : St) (l : List Tk) (e e' : X) (n : Int) (er : AV) (q : Nat) (more : List HBox) : (⟨(TSt S0 l e n er q more).H.set S0.H.length ⟨25, e'.cells⟩, (TSt S0 l e n er q more).T⟩ : St) = TSt S0 l e' n er q more := by simp [TSt, TB]
theorem TSt_set1 (S0 : St) (l : List Tk) (e : X) (n n' : Int) (er : AV) (q : Nat) (more : List HBox) : (⟨(TSt S0 l e n er q more).H.set (S0.H.length + 1) ⟨3, [.int .i64 n']⟩, (TSt S0 l e n er q more).T⟩ : St) = TSt S0 l e n' er q more := by simp [TSt, TB]
theorem TSt_set2 (S0 : St) (l : List Tk) (e : X) (n : Int) (er er' : AV) (q : Nat) (more : List HBox) : (⟨(TSt S0 l e n er q more).H.set (S0.H.length + 2) ⟨27, [er']⟩, (TSt S0 l e n er q more).T⟩ : St) = TSt S0 l e n er' q more := by simp [TSt, TB]
theorem wf4 {S0 : St} (hw : lowB S0.H.length S0.T.length S0.H = true) (l : List Tk) : lowB (S0.H ++ TB l zX 0 .nilif 0).length S0.T.length (S0.H ++ TB l zX 0 .nilif 0) = true := by
  rw [lowB_append]
  simp only [List.length_append, Bool.and_eq_true]
  refine ⟨lowB_mono (lowB_mono (lowB_mono (lowB_mono hw))), ?_⟩
  have := box_low (S0.H.length + (TB l zX 0 .nilif 0).length) S0.T.length l 0 0
  simp [TB, lowB, AV.lowL, AV.low, zX, leafX, X.cells, embL, tokOf] at this ⊢
  exact this

set_option maxHeartbeats 4000000 in
/-- no panic: nothing -/
theorem ev26n (n : Nat) (S0 : St) (l : List Tk) (e : X) (k : Int) (er : AV) (q : Nat) :
    evd Tryd.prog E (n + 2) 26 [.ptr S0.H.length 0, .ptr (S0.H.length + 1) 0, .ptr (S0.H.length + 2) 0] (TSt S0 l e k er q []) none = some (false, TSt S0 l e k er q []) := by
  rw [evd_enter (show E.ok 26 = true from rfl), evDefer, Tryd.func26]
  have hb : Tryd.f26.body = some (bodyOf Tryd.f26) := rfl
  simp only [hb]
  rw [if_pos ⟨Nat.le_of_ble_eq_true rfl, by decide +kernel⟩, cut26]
  have hr : List.range' 1 (O26.size - 1) = [1, 2, 3, 4, 5, 6, 7] := rfl
  have hf : finish (TSt S0 l e k er q []) (.tup []) (TSt S0 l e k er q []) = some (.tup [], TSt S0 l e k er q []) := finish_same rfl rfl rfl rfl rfl
  simp only [hr]
  generalize TSt S0 l e k er q [] = L1 at *
  simp (disch := first | (simp only [List.length_append, List.length_cons, List.length_nil]; omega) | (simp; done) | assumption) [AV.cells?, AV.isCell, seqA, O26, opsOf, y26, pvOf, cutC, bodyOf, Tryd.f26, E_esc, evAssert, tn68, tz68, tc68, ta68, tk68, ti68, zv68, endD, hf]

set_option maxHeartbeats 8000000 in
/-- a panic of fail: the fault, new -/
theorem ev26p (n : Nat) (S0 : St) (l : List Tk) (q : Nat) (c pl : Int) :
    evd Tryd.prog E (n + 2) 26 [.ptr S0.H.length 0, .ptr (S0.H.length + 1) 0, .ptr (S0.H.length + 2) 0] (TSt S0 l zX 0 .nilif q []) (some (.iface 68 (.agg [.int .i64 c, .int .i64 pl]))) =
      some (true, TSt S0 l zX 0 (.iface 55 (.ptr (S0.H.length + 4) 0)) q [⟨58, [.int .i64 c, .int .i64 pl, .nilif]⟩]) := by
  rw [evd_enter (show E.ok 26 = true from rfl), evDefer, Tryd.func26]
  have hb : Tryd.f26.body = some (bodyOf Tryd.f26) := rfl
  simp only [hb]
  rw [if_pos ⟨Nat.le_of_ble_eq_true rfl, by decide +kernel⟩, cut26]
  have hr : List.range' 1 (O26.size - 1) = [1, 2, 3, 4, 5, 6, 7] := rfl
  have hlen : (TSt S0 l zX 0 .nilif q []).H.length = S0.H.length + 4 := by simp [TSt, TB]
  have hN : ev Tryd.prog E (n + 1) 17 [.int .i64 c, .int .i64 pl] (TSt S0 l zX 0 .nilif q []) = some (.ret (.iface 55 (.ptr (S0.H.length + 4) 0)), TSt S0 l zX 0 .nilif q [⟨58, [.int .i64 c, .int .i64 pl, .nilif]⟩]) := by
    rw [ev_New, hlen]
    simp [TSt, TB]
  have hg0 := TSt_get0 S0 l zX 0 .nilif q [⟨58, [.int .i64 c, .int .i64 pl, .nilif]⟩]
  have hg1 := TSt_get1 S0 l zX 0 .nilif q [⟨58, [.int .i64 c, .int .i64 pl, .nilif]⟩]
  have hg2 := TSt_get2 S0 l zX 0 .nilif q [⟨58, [.int .i64 c, .int .i64 pl, .nilif]⟩]
  have hs0 := TSt_set0 S0 l zX zX 0 .nilif q [⟨58, [.int .i64 c, .int .i64 pl, .nilif]⟩]
  have hs1 := TSt_set1 S0 l zX 0 0 .nilif q [⟨58, [.int .i64 c, .int .i64 pl, .nilif]⟩]
  have hs2 := TSt_set2 S0 l zX 0 .nilif (.iface 55 (.ptr (S0.H.length + 4) 0)) q [⟨58, [.int .i64 c, .int .i64 pl, .nilif]⟩]
  have hf : finish (TSt S0 l zX 0 .nilif q []) (.tup []) (TSt S0 l zX 0 (.iface 55 (.ptr (S0.H.length + 4) 0)) q [⟨58, [.int .i64 c, .int .i64 pl, .nilif]⟩]) = some (.tup [], TSt S0 l zX 0 (.iface 55 (.ptr (S0.H.length + 4) 0)) q [⟨58, [.int .i64 c, .int .i64 pl, .nilif]⟩]) := by
    have e1 : (TSt S0 l zX 0 (.iface 55 (.ptr (S0.H.length + 4) 0)) q [⟨58, [.int .i64 c, .int .i64 pl, .nilif]⟩]).H.take (S0.H.length + 4) = (TSt S0 l zX 0 (.iface 55 (.ptr (S0.H.length + 4) 0)) q []).H := by
      have e2 : ∀ more, (TSt S0 l zX 0 (.iface 55 (.ptr (S0.H.length + 4) 0)) q more).H = (S0.H ++ TB l zX 0 (.iface 55 (.ptr (S0.H.length + 4) 0)) q) ++ more := fun more => by simp [TSt]
      rw [e2, e2, List.append_nil]
      exact List.take_left' (by simp [TB])
    unfold finish
    rw [hlen, e1, if_pos (show (AV.tup []).sealed = true from rfl), if_neg, if_neg, if_neg]
    · simp only [Bool.and_eq_true, not_and, Bool.not_eq_true]
      rintro ⟨_, h1⟩
      simp [TSt, TB, lowB_append, lowB, AV.lowL, AV.low] at h1
    · simp only [Bool.and_eq_true, not_and, Bool.not_eq_true]
      rintro ⟨⟨_, _⟩, h1⟩
      simp [TSt, TB, lowB_append, lowB, AV.lowL, AV.low] at h1
    · simp only [Bool.and_eq_true, not_and, Bool.not_eq_true]
      rintro ⟨h1, _⟩
      have := boxEqL_spec _ _ h1
      simp [TSt, TB] at this
  have hbz := bXz
  have hcz := xcells zX
  have hlz := xlen zX
  have hsz := sealed_emb zX
  have hszc : AV.sealedL zX.cells = true := rfl
  have hdz : List.drop 6 zX.cells = [] := rfl
  have e0 : leafX 0 [] 0 0 = zX := rfl
  rw [e0] at hbz
  simp only [hr]
  generalize TSt S0 l zX 0 (.iface 55 (.ptr (S0.H.length + 4) 0)) q [⟨58, [.int .i64 c, .int .i64 pl, .nilif]⟩] = L3 at *
  generalize TSt S0 l zX 0 .nilif q [⟨58, [.int .i64 c, .int .i64 pl, .nilif]⟩] = L2 at *
  generalize TSt S0 l zX 0 .nilif q [] = L1 at *
  generalize zX.cells = zc at *
  generalize zX.emb = ze at *
  simp (disch := first | (simp only [List.length_append, List.length_cons, List.length_nil]; omega) | (simp; done) | assumption) [AV.cells?, AV.isCell, -AV.cells?, cq_int, cq_iface, cq_agg, -evBuild, seqA, O26, opsOf, y26, pvOf, cutC, bodyOf, Tryd.f26, E_esc, evAssert, tn68, tz68, tc68, ta68, tk68, ti68, zv68, endD, tq68_0, tq68_1, k3, c3, a3, i3, tk30, tc30, ta30, hN, hg0, hg1, hg2, hs0, hs1, hs2, hbz, hcz, hlz, hszc, hdz, List.append_nil, AV.sealed, AV.sealedL, c24, i24, tc27, ti27, hf]
end Go.Proofs.YtemggoaefohliaaDoor.PS

/- parse.Take, evaluated whole. Condition: the world outside is closed. -/
namespace Go.Proofs.YtemggoaefohliaaDoor.PS
set_option linter.unusedVariables false
set_option linter.unusedSimpArgs false
open Go AE EX PT NF LX
set_option maxRecDepth 100000

theorem fin_take (S0 : St) (l : List Tk) (x : X) (k : Int) (q : Nat) : finish S0 (.tup [x.emb, .int .i64 k, .nilif]) (TSt S0 l x k .nilif q []) = some (.tup [x.emb, .int .i64 k, .nilif], S0) := by
  have h1 := sealed_emb x
  have h2 := strip_emb S0.T.length x
  have h3 := low_emb S0.H.length S0.T.length x
  have h4 : (TSt S0 l x k .nilif q []).H.take S0.H.length = S0.H := by simp [TSt]
  have h5 : (TSt S0 l x k .nilif q []).T = S0.T := rfl
  unfold finish
  simp [AV.sealed, AV.sealedL, AV.strip, AV.stripL, AV.low, AV.lowL, h1, h2, h3, h4, h5, boxEqL_refl]
theorem fin_hi3 {S S' : St} {id : Nat} (h : S.H.length ≤ id) (w u : AV) (h1 : w.sealed = true) (h2 : u.sealed = true) : finish S (.tup [w, u, .iface 55 (.ptr id 0)]) S' = some (.tup [w, u, .iface 55 (.ptr id 0)], S') := by
  unfold finish
  have : ¬ id < S.H.length := by omega
  simp [AV.sealed, AV.sealedL, AV.strip, AV.stripL, AV.low, AV.lowL, this, h1, h2]

/-- what Take hands back -/
def takeAns (S0 : St) (l : List Tk) : Option (Res × St) :=
  match takeR l with
  | .ok (x, q) => some (.ret (.tup [x.emb, .int .i64 q, .nilif]), S0)
  | .error (c, p) => some (.ret (.tup [zX.emb, .int .i64 0, .iface 55 (.ptr (S0.H.length + 4) 0)]),
      TSt S0 l zX 0 (.iface 55 (.ptr (S0.H.length + 4) 0)) p [⟨58, [.int .i64 c, .int .i64 (hereT l p).p, .nilif]⟩])

set_option maxHeartbeats 8000000 in
theorem ev_Take (n : Nat) (S0 : St) (l : List Tk) (hl : l.length ≤ 2000000) (hw : lowB S0.H.length S0.T.length S0.H = true) (hn : l.length + 710 ≤ n) :
    ev Tryd.prog E (n + 5) 15 [.slice (tkL l) .non] S0 = takeAns S0 l := by
  have hE4 : TSt S0 l zX 0 .nilif 0 [] = PSt (S0.H ++ TB l zX 0 .nilif 0) S0.T (S0.H.length + 3) l 0 0 := (TSt_eq S0 l 0).symm
  have hA := any_all S0.T l hl (S0.H ++ TB l zX 0 .nilif 0) (S0.H.length + 3) (by simp [TB]) (wf4 hw l) (n + 4) (by omega)
  rw [← hE4] at hA
  rw [show n + 5 = (n + 4) + 1 from rfl, ev_enterD (n := n + 4) (show E.ok 15 = true from rfl) (show E.dfr 15 = true from rfl) Tryd.func15 (fn := Tryd.f15) (c := bodyOf Tryd.f15) rfl cut15 (Nat.le_of_ble_eq_true rfl) (by decide +kernel)]
  obtain ⟨fs1, e1, q2, q3, q4, q5, qS⟩ : ∃ fs1, evCode ⟨Tryd.prog, E.esc 15, n + 4⟩ (ev Tryd.prog E (n + 4)) (E.ps 15) (n + 4) (.seq r015 (.seq r115 .skip)) ⟨argsA [.slice (tkL l) .non], fun _ => (0, []), 0, S0⟩ = some (.norm, fs1) ∧ fs1.t 2 = .ptr S0.H.length 0 ∧ fs1.t 3 = .ptr (S0.H.length + 1) 0 ∧ fs1.t 4 = .ptr (S0.H.length + 2) 0 ∧ fs1.t 5 = .ptr (S0.H.length + 3) 0 ∧ fs1.S = TSt S0 l zX 0 .nilif 0 [] := by
    have hst := sealed_tkL l
    have hTB : TSt S0 l zX 0 .nilif 0 [] = ⟨S0.H ++ [⟨25, z6⟩] ++ [⟨3, [.int .i64 0]⟩] ++ [⟨27, [.nilif]⟩] ++ [⟨66, [.slice (tkL l) .non, .int .i64 0, .int .i64 0]⟩], S0.T⟩ := by
      simp [TSt, TB, zX_cells, box]
    have hbd : evBuild Tryd.prog 66 [(0, .slice (tkL l) .non)] = some (.agg [.slice (tkL l) .non, .int .i64 0, .int .i64 0]) := by
      simp [evBuild, tp66, tz66, fillA, tl66_0, AV.cells?, wrc]
    have hz3 : zeroQ Tryd.prog 3 = some [.int .i64 0] := by kernel_rfl
    have hz25 : zeroQ Tryd.prog 25 = some z6 := by kernel_rfl
    have hsz : AV.sealedL z6 = true := rfl
    generalize tkL l = es at *
    rw [hTB]
    generalize z6 = z at *
    refine ⟨_, by
      simp (disch := first | (simp only [List.length_append, List.length_cons, List.length_nil]; omega) | (simp; done) | assumption) [AV.cells?, AV.isCell, -evBuild, r015, r115, cutC, bodyOf, Tryd.f15, esc15, hz3, hz25, tz27, hsz, AV.sealed, AV.sealedL, hst, hbd]
      rfl, by simp [upd, putA], by simp [upd, putA], by simp [upd, putA], by simp [upd, putA], by simp⟩
  rw [e1]
  clear e1
  obtain ⟨t, b, c, S⟩ := fs1
  simp only at q2 q3 q4 q5 qS
  subst qS
  have hsq : seqA ⟨Tryd.prog, E.esc 15, n + 4⟩ (ev Tryd.prog E (n + 4)) O15 (List.range (O15.size - 1)) ⟨t, b, c, TSt S0 l zX 0 .nilif 0 []⟩ = some (.ok ⟨upd 9 (.fn 26 [] [.ptr S0.H.length 0, .ptr (S0.H.length + 1) 0, .ptr (S0.H.length + 2) 0]) t, b, c, TSt S0 l zX 0 .nilif 0 []⟩ .non) := by
    have hr : List.range (O15.size - 1) = [0] := rfl
    have ho0 : ∃ o, O15[0]? = some o ∧ o.guard = none ∧ o.dst = some 9 ∧ o.op = .makeFunc (.func 26) #[] #[.tmp 2, .tmp 3, .tmp 4] := ⟨_, rfl, rfl, rfl, rfl⟩
    obtain ⟨o, o1, o2, o3, o4⟩ := ho0
    rw [hr]
    simp only [seqA, o1, stepA, o2, wantedA, evOp, o4, o3, putA, rhoL, rho, q2, q3, q4, List.map_nil, List.map_cons]
  have hsz : O15.size = 2 := rfl
  simp only [hsq]
  simp only [rho, upd, if_true, hsz]
  unfold takeAns
  cases hR : takeR l with
  | ok r =>
    obtain ⟨x, q⟩ := r
    rw [hR, ansX_ok] at hA
    have hq : PSt (S0.H ++ TB l zX 0 .nilif 0) S0.T (S0.H.length + 3) l q 0 = TSt S0 l zX 0 .nilif q [] := TSt_eq S0 l q
    rw [hq] at hA
    have hD := ev26n (n + 2) S0 l x q .nilif q
    have hB : ∃ fs2, evCode ⟨Tryd.prog, E.esc 15, n + 4⟩ (ev Tryd.prog E (n + 4)) (E.ps 15) (n + 4) B15 ⟨upd 9 (.fn 26 [] [.ptr S0.H.length 0, .ptr (S0.H.length + 1) 0, .ptr (S0.H.length + 2) 0]) t, b, c + 2, TSt S0 l zX 0 .nilif 0 []⟩ = some (.ret, fs2) ∧ fs2.t 2 = .ptr S0.H.length 0 ∧ fs2.t 3 = .ptr (S0.H.length + 1) 0 ∧ fs2.t 4 = .ptr (S0.H.length + 2) 0 ∧ fs2.S = TSt S0 l x q .nilif q [] := by
      have g0 := TSt_get0 S0 l zX 0 .nilif q []
      have g0' := TSt_get0 S0 l x 0 .nilif q []
      have g3' := TSt_get3 S0 l x 0 .nilif q []
      have g1' := TSt_get1 S0 l x 0 .nilif q []
      have g2' := TSt_get2 S0 l x q .nilif q []
      have s0 := TSt_set0 S0 l zX x 0 .nilif q []
      have s0' := TSt_set0 S0 l x x 0 .nilif q []
      have s1 := TSt_set1 S0 l x 0 q .nilif q []
      have s2 := TSt_set2 S0 l x q .nilif .nilif q []
      have hps : E.ps 15 4 = [(0, 4), (4, 5)] := rfl
      have hlz : zX.cells.length = 6 := xlen zX
      have hdz : List.drop 6 zX.cells = [] := rfl
      have hcx := xcells x
      have hlx := xlen x
      have htx := xtake x
      have hex := xemb x
      have hdx : List.drop 6 x.cells = [] := List.drop_eq_nil_of_le (by rw [hlx]; omega)
      have hsx : AV.sealedL x.cells = true := by have := sealed_emb x; rw [emb_cells] at this; simpa [AV.sealed] using this
      generalize TSt S0 l x q .nilif q [] = L5 at *
      generalize TSt S0 l x 0 .nilif q [] = L4 at *
      generalize TSt S0 l zX 0 .nilif q [] = L3 at *
      generalize TSt S0 l zX 0 .nilif 0 [] = L2 at *
      generalize zX.cells = zc at *
      generalize x.cells = xc at *
      generalize x.emb = xe at *
      generalize tkL l = es at *
      refine ⟨_, by
        simp (disch := first | (simp only [List.length_append, List.length_cons, List.length_nil]; omega) | (simp; done) | assumption) [AV.cells?, AV.isCell, -AV.cells?, cq_int, cq_nilif, B15, cutC, bodyOf, Tryd.f15, esc15, q2, q3, q4, q5, hA, g0, g0', g3', g1', g2', s0, s0', s1, s2, hps, hlz, hdz, hcx, hlx, htx, hex, hdx, hsx, List.append_nil, c24, a24, k24, i24, tq66_1, tk66, k3, c3, a3, i3, tk27, tc27, ta27, ti27, AV.sealed, AV.sealedL, ofC]
        rfl, by simp [upd, putA, q2], by simp [upd, putA, q3], by simp [upd, putA, q4], rfl⟩
    obtain ⟨⟨t2, b2, c2, S2⟩, r1, w2, w3, w4, wS⟩ := hB
    simp only at w2 w3 w4 wS
    subst wS
    rw [r1]
    have hD' := ev26n (n + 2) S0 l x q .nilif q
    simp only [fromD, List.nil_append, rhoL, List.map_nil, hD']
    have g0 := TSt_get0 S0 l x q .nilif q []
    have g1 := TSt_get1 S0 l x q .nilif q []
    have g2 := TSt_get2 S0 l x q .nilif q []
    have hf := fin_take S0 l x q q
    have hrs : Tryd.f15.results.toList = [.cell 2 25, .cell 3 3, .cell 4 27] := rfl
    have hlx := xlen x
    have htx := xtake x
    have hex := xemb x
    generalize TSt S0 l x q .nilif q [] = L5 at *
    generalize x.cells = xc at *
    generalize x.emb = xe at *
    simp (disch := first | (simp only [List.length_append, List.length_cons, List.length_nil]; omega) | (simp; done) | assumption) [AV.cells?, AV.isCell, -AV.cells?, hrs, w2, w3, w4, g0, g1, g2, hlx, htx, hex, hf, c24, a24, k24, k3, c3, a3, tk27, tc27, ta27]
  | error e =>
    obtain ⟨c', p⟩ := e
    rw [hR, ansX_err] at hA
    have hq : PSt (S0.H ++ TB l zX 0 .nilif 0) S0.T (S0.H.length + 3) l p 0 = TSt S0 l zX 0 .nilif p [] := TSt_eq S0 l p
    rw [hq] at hA
    have hB : ∃ fs2, evCode ⟨Tryd.prog, E.esc 15, n + 4⟩ (ev Tryd.prog E (n + 4)) (E.ps 15) (n + 4) B15 ⟨upd 9 (.fn 26 [] [.ptr S0.H.length 0, .ptr (S0.H.length + 1) 0, .ptr (S0.H.length + 2) 0]) t, b, c + 2, TSt S0 l zX 0 .nilif 0 []⟩ = some (.pan (stopV (hereT l) c' p), fs2) ∧ fs2.t 2 = .ptr S0.H.length 0 ∧ fs2.t 3 = .ptr (S0.H.length + 1) 0 ∧ fs2.t 4 = .ptr (S0.H.length + 2) 0 ∧ fs2.S = TSt S0 l zX 0 .nilif p [] := by
      generalize TSt S0 l zX 0 .nilif p [] = L3 at *
      generalize TSt S0 l zX 0 .nilif 0 [] = L2 at *
      generalize tkL l = es at *
      generalize stopV (hereT l) c' p = sv at *
      refine ⟨_, by
        simp (disch := first | (simp only [List.length_append, List.length_cons, List.length_nil]; omega) | (simp; done) | assumption) [AV.cells?, AV.isCell, -AV.cells?, cq_int, cq_nilif, B15, cutC, bodyOf, Tryd.f15, esc15, q2, q3, q4, q5, hA]
        rfl, by simp [upd, putA, q2], by simp [upd, putA, q3], by simp [upd, putA, q4], rfl⟩
    obtain ⟨⟨t2, b2, c2, S2⟩, r1, w2, w3, w4, wS⟩ := hB
    simp only at w2 w3 w4 wS
    subst wS
    rw [r1]
    have hD' := ev26p (n + 2) S0 l p c' (hereT l p).p
    have hsv : stopV (hereT l) c' p = .iface 68 (.agg [.int .i64 c', .int .i64 (hereT l p).p]) := rfl
    rw [hsv]
    simp only [fromD, List.nil_append, rhoL, List.map_nil, hD']
    have g0 := TSt_get0 S0 l zX 0 (.iface 55 (.ptr (S0.H.length + 4) 0)) p [⟨58, [.int .i64 c', .int .i64 (hereT l p).p, .nilif]⟩]
    have g1 := TSt_get1 S0 l zX 0 (.iface 55 (.ptr (S0.H.length + 4) 0)) p [⟨58, [.int .i64 c', .int .i64 (hereT l p).p, .nilif]⟩]
    have g2 := TSt_get2 S0 l zX 0 (.iface 55 (.ptr (S0.H.length + 4) 0)) p [⟨58, [.int .i64 c', .int .i64 (hereT l p).p, .nilif]⟩]
    have hf := fin_hi3 (S := S0) (S' := TSt S0 l zX 0 (.iface 55 (.ptr (S0.H.length + 4) 0)) p [⟨58, [.int .i64 c', .int .i64 (hereT l p).p, .nilif]⟩]) (show S0.H.length ≤ S0.H.length + 4 by omega) zX.emb (.int .i64 0) (sealed_emb _) rfl
    have hrs : Tryd.f15.results.toList = [.cell 2 25, .cell 3 3, .cell 4 27] := rfl
    have hlx := xlen zX
    have htx := xtake zX
    have hex := xemb zX
    generalize TSt S0 l zX 0 (.iface 55 (.ptr (S0.H.length + 4) 0)) p [⟨58, [.int .i64 c', .int .i64 (hereT l p).p, .nilif]⟩] = L5 at *
    generalize zX.cells = xc at *
    generalize zX.emb = xe at *
    simp (disch := first | (simp only [List.length_append, List.length_cons, List.length_nil]; omega) | (simp; done) | assumption) [AV.cells?, AV.isCell, -AV.cells?, hrs, w2, w3, w4, g0, g1, g2, hlx, htx, hex, hf, c24, a24, k24, k3, c3, a3, tk27, tc27, ta27]
end Go.Proofs.YtemggoaefohliaaDoor.PS

