/- Joined: DpM, DpN, DqH, PbC, DpO, DpP, DqC, DqD, DqP, PbD, PbE, PcG, PcH, PcI, CkA, CkB, CkC. No condition beyond those of its lemmas. -/
import Derived.Test.YtemggoaefohliaaGreatDoorJbF
import Derived.Test.YtemggoaefohliaaGreatDoorJbE
import Derived.Test.YtemggoaefohliaaGreatDoorJbD
/- The parser: one, evaluated (printed by gendp7.py). Condition: the world outside is closed. -/
namespace Go.Proofs.YtemggoaefohliaaGreatDoor.PS
set_option linter.unusedVariables false
set_option linter.unusedSimpArgs false
open Go AE EX PT NF LX
set_option maxRecDepth 100000
theorem esc69 (d : Nat) : E.esc 128 d = (d == 1) := by simp [E]
noncomputable def r069 : Code := cutC (bodyOf Tryz.f128) [0]
noncomputable def rc69 : Code := cutC (bodyOf Tryz.f128) [1, 0]
noncomputable def r369 : Code := cutC (bodyOf Tryz.f128) [1, 1, 0]
noncomputable def B69 : Code := cutC (bodyOf Tryz.f128) [1, 1, 1, 1]
def opsOf : Code → Array Oper
  | .region _ ops _ => ops
  | _ => #[]
noncomputable def O69 : Array Oper := opsOf (cutC (bodyOf Tryz.f128) [1, 1, 1, 0])
theorem cut69 : cutD (bodyOf Tryz.f128) = some (.seq r069 (.seq rc69 (.seq r369 .skip)), O69, ⟨.value (.tmp 18), #[], #[]⟩, B69) := rfl

def b64 (a : Nat) : HBox := ⟨61, [.ptr a 0]⟩
theorem PSt_app {H0 : List HBox} {a : Nat} (ha : a < H0.length) (T : List Nat) (l : List Tk) (p d : Nat) : (⟨(PSt H0 T a l p d).H ++ [b64 a], (PSt H0 T a l p d).T⟩ : St) = PSt (H0 ++ [b64 a]) T a l p d := by
  simp [PSt, List.set_append_left, ha]
theorem PSt_own {H0 : List HBox} {a : Nat} (ha : a < H0.length) (T : List Nat) (l : List Tk) (p d : Nat) : (PSt (H0 ++ [b64 a]) T a l p d).H[H0.length]? = some ⟨61, [.ptr a 0]⟩ := by
  simp [PSt, List.set_append_left, ha, b64]
theorem PSt_Hlen (H0 : List HBox) (T : List Nat) (a : Nat) (l : List Tk) (p d : Nat) : (PSt H0 T a l p d).H.length = H0.length := by simp [PSt]
theorem fin_one {H0 : List HBox} {a : Nat} (ha : a < H0.length) (T : List Nat) (l : List Tk) (p d q : Nat) (v : AV) (hw : lowB H0.length T.length H0 = true) (hv : v.sealed = true) (hst : v.strip T.length = v) (hvl : v.low H0.length T.length = true) :
    finish (PSt H0 T a l p d) v (PSt (H0 ++ [b64 a]) T a l q d) = some (v, PSt H0 T a l q d) := by
  have ht : (PSt (H0 ++ [b64 a]) T a l q d).H.take (PSt H0 T a l p d).H.length = (PSt H0 T a l q d).H := by
    rw [PSt_Hlen, ← PSt_app ha]
    simp [PSt]
  have := fin_drop (S := PSt H0 T a l p d) (S' := PSt (H0 ++ [b64 a]) T a l q d) (v := v) hv (by simp [PSt]) (by simp [PSt]) (by
    rw [ht, PSt_Hlen]
    exact lowB_set (box_low _ _ l q d) hw) (by rw [PSt_Hlen]; show ((v.strip T.length).low H0.length T.length) = true; rw [hst]; exact hvl)
  rw [this, ht]
  show some (v.strip T.length, _) = _
  rw [hst]
  rfl
mutual
theorem low_mono {h0 t0 : Nat} : ∀ {v : AV}, v.low h0 t0 = true → v.low (h0 + 1) t0 = true
  | .ptr id _, h => by simp [AV.low] at h ⊢; omega
  | .slice es (.own t _), h => by
    simp only [AV.low, Bool.and_eq_true] at h ⊢
    exact ⟨h.1, lowL_mono h.2⟩
  | .slice es .non, h => by simp only [AV.low] at h ⊢; exact lowL_mono h
  | .slice es .clip, h => by simp only [AV.low] at h ⊢; exact lowL_mono h
  | .agg cs, h => by simp only [AV.low] at h ⊢; exact lowL_mono h
  | .tup cs, h => by simp only [AV.low] at h ⊢; exact lowL_mono h
  | .ref cs, h => by simp only [AV.low] at h ⊢; exact lowL_mono h
  | .fn _ a b, h => by
    simp only [AV.low, Bool.and_eq_true] at h ⊢
    exact ⟨lowL_mono h.1, lowL_mono h.2⟩
  | .iface _ v, h => by simp only [AV.low] at h ⊢; exact low_mono h
  | .junk, _ => rfl | .undef, _ => rfl | .bool _, _ => rfl | .int _ _, _ => rfl | .str _, _ => rfl | .nilp, _ => rfl | .loc .., _ => rfl | .nilif, _ => rfl
theorem lowL_mono {h0 t0 : Nat} : ∀ {l : List AV}, AV.lowL h0 t0 l = true → AV.lowL (h0 + 1) t0 l = true
  | [], _ => rfl
  | v :: l, h => by
    simp only [AV.lowL, Bool.and_eq_true] at h ⊢
    exact ⟨low_mono h.1, lowL_mono h.2⟩
end
theorem lowB_mono {h0 t0 : Nat} : ∀ {H : List HBox}, lowB h0 t0 H = true → lowB (h0 + 1) t0 H = true
  | [], _ => rfl
  | b :: H, h => by
    simp only [lowB, Bool.and_eq_true] at h ⊢
    exact ⟨lowL_mono h.1, lowB_mono h.2⟩
theorem wf_app {H0 : List HBox} {T : List Nat} {a : Nat} (ha : a < H0.length) (hw : lowB H0.length T.length H0 = true) : lowB (H0 ++ [b64 a]).length T.length (H0 ++ [b64 a]) = true := by
  rw [lowB_append]
  simp only [List.length_append, List.length_singleton, Bool.and_eq_true]
  refine ⟨lowB_mono hw, ?_⟩
  simp [lowB, b64, AV.lowL, AV.low]
  omega

theorem ev71 (n : Nat) {H0 : List HBox} {a : Nat} (ha : a < H0.length) (T : List Nat) (l : List Tk) (p d : Nat) (hd : d ≤ 100) (pv : Option AV) :
    evd Tryz.prog E (n + 1) 130 [.ptr H0.length 0] (PSt (H0 ++ [b64 a]) T a l p (d + 1)) pv = some (false, PSt (H0 ++ [b64 a]) T a l p d) := by
  have ha1 : a < (H0 ++ [b64 a]).length := by simp; omega
  have hg := PSt_get ha1 T l p (d + 1)
  have ho := PSt_own ha T l p (d + 1)
  have hset := PSt_set (H0 := H0 ++ [b64 a]) (a := a) T l p (d + 1) p d
  have hf := PSt_fin (H0 := H0 ++ [b64 a]) (a := a) T l p (d + 1) p d (v := .tup []) rfl rfl rfl
  have hw : IntKind.i64.wrap (((d + 1 : Nat) : Int) - 1) = (d : Int) := by rw [wrap64 _ (by omega)]; omega
  rw [evd_enter (show E.ok 130 = true from rfl), evDefer, Tryz.func130]
  have hcr : cutR (bodyOf Tryz.f130) = none := rfl
  have hb : Tryz.f130.body = some (bodyOf Tryz.f130) := rfl
  simp only [hb]
  rw [if_pos ⟨Nat.le_of_ble_eq_true rfl, by decide +kernel⟩, hcr]
  generalize PSt (H0 ++ [b64 a]) T a l p d = L2 at *
  generalize PSt (H0 ++ [b64 a]) T a l p (d + 1) = L1 at *
  generalize tkL l = es at *
  generalize d + 1 = D1 at *
  simp (disch := first | (simp only [List.length_append, List.length_cons, List.length_nil]; omega) | (simp; done) | assumption) [AV.cells?, AV.isCell, AV.sealed, AV.sealedL, bodyOf, Tryz.f130, E_esc, hg, ho, hset, hw, hf, endD, tq66_0, tq66_1, tq66_2, tk66, k3, c3, a3, i3, tk64, tc64, ta64, ti64]

section
variable {H0 : List HBox} {a : Nat} (ha : a < H0.length) (T : List Nat) (l : List Tk) (hl : l.length ≤ 2000000)
include ha hl
/-- what the body behind the defer gives -/
def BQ (H1 : List HBox) (T : List Nat) (a : Nat) (l : List Tk) (d n : Nat) (R : PR X) (r : Out × FS) : Prop :=
  (r.1 = .ret ∧ ∃ e q, r.2.t 2 = .loc n 2 2 0 ∧ r.2.b 2 = (2, X.cells e) ∧ r.2.S = PSt H1 T a l q d ∧ R = .ok (e, q)) ∨
  (∃ c q, r.1 = .pan (stopV (hereT l) c q) ∧ r.2.S = PSt H1 T a l q d ∧ R = .error (c, q))
set_option maxHeartbeats 8000000 in
theorem one_body (n d F k : Nat) (one any : Nat → PR X) (h72 : Sub (H0 ++ [b64 a]) T a l (d + 1) (n + 4) 131 (signedP (hereT l) F one any)) (h73 : Sub (H0 ++ [b64 a]) T a l (d + 1) (n + 4) 132 (namedP (hereT l) one any)) (p : Nat)
    (t : Nat → AV) (b : Nat → Nat × List AV) (c : Nat) (h1 : t 1 = .ptr H0.length 0) (h2 : t 2 = .loc (n + 4) 2 2 0) (hb2 : b 2 = (2, z6)) :
    ∃ r, evCode ⟨Tryz.prog, E.esc 128, n + 4⟩ (ev Tryz.prog E (n + 4)) (E.ps 128) (n + 4) B69 ⟨t, b, c, PSt (H0 ++ [b64 a]) T a l p (d + 1)⟩ = some r ∧
      BQ (H0 ++ [b64 a]) T a l (d + 1) (n + 4) (if (hereT l p).k = 2 then .ok (leafX 1 [] (hereT l p).n 0, p + 1)
    else if (hereT l p).k = 3 then .ok (leafX 3 (hereT l p).s 0 0, p + 1)
    else if (hereT l p).k = 4 then signedP (hereT l) F one any p
    else if (hereT l p).k = 1 then namedP (hereT l) one any p
    else .error (16, p)) r := by
  have ha1 : a < (H0 ++ [b64 a]).length := by simp; omega
  have hh := ev_hereP ha1 T l hl (n + 3) p (d + 1)
  have hg := PSt_get ha1 T l p (d + 1)
  have ho := fun q => PSt_own ha T l q (d + 1)
  have ho1 := ho p
  have ho2 := ho (p + 1)
  have hset := PSt_set (H0 := H0 ++ [b64 a]) (a := a) T l p (d + 1) (p + 1) (d + 1)
  have hw : (hereT l p).k ≠ 5 → IntKind.i64.wrap ((p : Int) + 1) = ((p + 1 : Nat) : Int) := fun h => by have := here_lt h; rw [wrap64 _ (by omega)]; omega
  have h72p := h72 p
  have h73p := h73 p
  have hfl := ev_fail ha1 T l hl (n + 2) p (d + 1) 16
  have hS2 : PSt (H0 ++ [b64 a]) T a l (p + 1) (d + 1) = PSt (H0 ++ [b64 a]) T a l (p + 1) (d + 1) := rfl
  clear ho
  generalize hereT l p = w at *
  obtain ⟨k, ts, tn, tp⟩ := w
  simp only [Tk.emb, Tk.cells] at hh hw ⊢
  by_cases k2 : k = 2
  · subst k2
    have hw := hw (by decide)
    rw [if_pos rfl]
    have hb : evBuild Tryz.prog 25 [(0, .int .i64 1), (2, .int .i64 tn)] = some (leafX 1 [] tn 0).emb := bX2 1 tn
    have hcz := xcells (leafX 1 [] tn 0)
    have hlz := xlen (leafX 1 [] tn 0)
    generalize hL2 : PSt (H0 ++ [b64 a]) T a l (p + 1) (d + 1) = L2 at *
    generalize PSt (H0 ++ [b64 a]) T a l p (d + 1) = L1 at *
    generalize hzc : (leafX 1 [] tn 0).cells = zc at *
    generalize (leafX 1 [] tn 0).emb = ze at *
    generalize hP1 : p + 1 = P1 at *
    generalize hD1 : d + 1 = D1 at *
    generalize tkL l = es at *
    refine ⟨_, by
      simp (disch := first | (simp only [List.length_append, List.length_cons, List.length_nil]; omega) | (simp; done) | assumption) [AV.cells?, AV.isCell, -AV.cells?, cq_int, cq_str, cq_slice, cq_bool, cq_ptr, -evBuild, -evBuildSlice, AV.sealed, AV.sealedL, r069, rc69, r369, B69, cutC, bodyOf, Tryz.f128, esc69, h1, h2, hb2, hh, ho1, hg, hset, hw, hb, hcz, hlz, z6_len, z24, c24, a24, k24, i24, tq46_0, tq46_1, tq46_2, tc46, ta46, tk46, ti46, tz46, fq0, fq3, fq4, fq5, c3, a3, k3, i3, c2, a2, k2, i2, c22, a22, k22, i22, bq3, bq2, tq66_0, tq66_1, tq66_2, tk66, k9, a9, c9, bq9, tk64, tc64, ta64, ti64]
      rfl, .inl ⟨rfl, leafX 1 [] tn 0, P1, by simp [upd, putA, h2], by simp [upd, hzc, hb2, z6, hlz], hL2.symm, rfl⟩⟩
  · rw [if_neg k2]
    by_cases k3' : k = 3
    · subst k3'
      have hw := hw (by decide)
      rw [if_pos rfl]
      have hb : evBuild Tryz.prog 25 [(0, .int .i64 3), (1, .str ts)] = some (leafX 3 ts 0 0).emb := bX1 3 ts
      have hcz := xcells (leafX 3 ts 0 0)
      have hlz := xlen (leafX 3 ts 0 0)
      generalize hL2 : PSt (H0 ++ [b64 a]) T a l (p + 1) (d + 1) = L2 at *
      generalize PSt (H0 ++ [b64 a]) T a l p (d + 1) = L1 at *
      generalize hzc : (leafX 3 ts 0 0).cells = zc at *
      generalize (leafX 3 ts 0 0).emb = ze at *
      generalize hP1 : p + 1 = P1 at *
      generalize hD1 : d + 1 = D1 at *
      generalize tkL l = es at *
      refine ⟨_, by
        simp (disch := first | (simp only [List.length_append, List.length_cons, List.length_nil]; omega) | (simp; done) | assumption) [AV.cells?, AV.isCell, -AV.cells?, cq_int, cq_str, cq_slice, cq_bool, cq_ptr, -evBuild, -evBuildSlice, AV.sealed, AV.sealedL, r069, rc69, r369, B69, cutC, bodyOf, Tryz.f128, esc69, h1, h2, hb2, hh, ho1, hg, hset, hw, hb, hcz, hlz, z6_len, z24, c24, a24, k24, i24, tq46_0, tq46_1, tq46_2, tc46, ta46, tk46, ti46, tz46, fq0, fq3, fq4, fq5, c3, a3, k3, i3, c2, a2, k2, i2, c22, a22, k22, i22, bq3, bq2, tq66_0, tq66_1, tq66_2, tk66, k9, a9, c9, bq9, tk64, tc64, ta64, ti64]
        rfl, .inl ⟨rfl, leafX 3 ts 0 0, P1, by simp [upd, putA, h2], by simp [upd, hzc, hb2, z6, hlz], hL2.symm, rfl⟩⟩
    · rw [if_neg k3']
      by_cases k4 : k = 4
      · subst k4
        rw [if_pos rfl]
        cases e1 : signedP (hereT l) F one any p with
        | error z =>
          obtain ⟨c', q⟩ := z
          rw [e1, ansX_err] at h72p
          generalize hL2 : PSt (H0 ++ [b64 a]) T a l q (d + 1) = L2 at *
          generalize PSt (H0 ++ [b64 a]) T a l p (d + 1) = L1 at *
          generalize hsv : stopV (hereT l) c' q = sv at *
          refine ⟨_, by
            simp (disch := first | (simp only [List.length_append, List.length_cons, List.length_nil]; omega) | (simp; done) | assumption) [AV.cells?, AV.isCell, -AV.cells?, cq_int, cq_str, cq_slice, cq_bool, cq_ptr, -evBuild, -evBuildSlice, AV.sealed, AV.sealedL, r069, rc69, r369, B69, cutC, bodyOf, Tryz.f128, esc69, h1, h2, hb2, hh, ho1, h72p, h73p, z24, c24, a24, k24, i24, tq46_0, tq46_1, tq46_2, tc46, ta46, tk46, ti46, tz46, fq0, fq3, fq4, fq5, c3, a3, k3, i3, c2, a2, k2, i2, c22, a22, k22, i22, bq3, bq2, tq66_0, tq66_1, tq66_2, tk66, k9, a9, c9, bq9, tk64, tc64, ta64, ti64]
            rfl, .inr ⟨c', q, by rw [hsv], hL2.symm, rfl⟩⟩
        | ok z =>
          obtain ⟨x, q⟩ := z
          rw [e1, ansX_ok] at h72p
          have hcz := xcells x
          have hlz := xlen x
          generalize hL2 : PSt (H0 ++ [b64 a]) T a l q (d + 1) = L2 at *
          generalize PSt (H0 ++ [b64 a]) T a l p (d + 1) = L1 at *
          generalize hzc : x.cells = zc at *
          generalize x.emb = ze at *
          refine ⟨_, by
            simp (disch := first | (simp only [List.length_append, List.length_cons, List.length_nil]; omega) | (simp; done) | assumption) [AV.cells?, AV.isCell, -AV.cells?, cq_int, cq_str, cq_slice, cq_bool, cq_ptr, -evBuild, -evBuildSlice, AV.sealed, AV.sealedL, r069, rc69, r369, B69, cutC, bodyOf, Tryz.f128, esc69, h1, h2, hb2, hh, ho1, h72p, h73p, hcz, hlz, z6_len, z24, c24, a24, k24, i24, tq46_0, tq46_1, tq46_2, tc46, ta46, tk46, ti46, tz46, fq0, fq3, fq4, fq5, c3, a3, k3, i3, c2, a2, k2, i2, c22, a22, k22, i22, bq3, bq2, tq66_0, tq66_1, tq66_2, tk66, k9, a9, c9, bq9, tk64, tc64, ta64, ti64]
            rfl, .inl ⟨rfl, x, q, by simp [upd, putA, h2], by simp [upd, hzc, hb2, z6, hlz], hL2.symm, rfl⟩⟩
      · rw [if_neg k4]
        by_cases k1 : k = 1
        · subst k1
          rw [if_pos rfl]
          cases e1 : namedP (hereT l) one any p with
          | error z =>
            obtain ⟨c', q⟩ := z
            rw [e1, ansX_err] at h73p
            generalize hL2 : PSt (H0 ++ [b64 a]) T a l q (d + 1) = L2 at *
            generalize PSt (H0 ++ [b64 a]) T a l p (d + 1) = L1 at *
            generalize hsv : stopV (hereT l) c' q = sv at *
            refine ⟨_, by
              simp (disch := first | (simp only [List.length_append, List.length_cons, List.length_nil]; omega) | (simp; done) | assumption) [AV.cells?, AV.isCell, -AV.cells?, cq_int, cq_str, cq_slice, cq_bool, cq_ptr, -evBuild, -evBuildSlice, AV.sealed, AV.sealedL, r069, rc69, r369, B69, cutC, bodyOf, Tryz.f128, esc69, h1, h2, hb2, hh, ho1, h72p, h73p, z24, c24, a24, k24, i24, tq46_0, tq46_1, tq46_2, tc46, ta46, tk46, ti46, tz46, fq0, fq3, fq4, fq5, c3, a3, k3, i3, c2, a2, k2, i2, c22, a22, k22, i22, bq3, bq2, tq66_0, tq66_1, tq66_2, tk66, k9, a9, c9, bq9, tk64, tc64, ta64, ti64]
              rfl, .inr ⟨c', q, by rw [hsv], hL2.symm, rfl⟩⟩
          | ok z =>
            obtain ⟨x, q⟩ := z
            rw [e1, ansX_ok] at h73p
            have hcz := xcells x
            have hlz := xlen x
            generalize hL2 : PSt (H0 ++ [b64 a]) T a l q (d + 1) = L2 at *
            generalize PSt (H0 ++ [b64 a]) T a l p (d + 1) = L1 at *
            generalize hzc : x.cells = zc at *
            generalize x.emb = ze at *
            refine ⟨_, by
              simp (disch := first | (simp only [List.length_append, List.length_cons, List.length_nil]; omega) | (simp; done) | assumption) [AV.cells?, AV.isCell, -AV.cells?, cq_int, cq_str, cq_slice, cq_bool, cq_ptr, -evBuild, -evBuildSlice, AV.sealed, AV.sealedL, r069, rc69, r369, B69, cutC, bodyOf, Tryz.f128, esc69, h1, h2, hb2, hh, ho1, h72p, h73p, hcz, hlz, z6_len, z24, c24, a24, k24, i24, tq46_0, tq46_1, tq46_2, tc46, ta46, tk46, ti46, tz46, fq0, fq3, fq4, fq5, c3, a3, k3, i3, c2, a2, k2, i2, c22, a22, k22, i22, bq3, bq2, tq66_0, tq66_1, tq66_2, tk66, k9, a9, c9, bq9, tk64, tc64, ta64, ti64]
              rfl, .inl ⟨rfl, x, q, by simp [upd, putA, h2], by simp [upd, hzc, hb2, z6, hlz], hL2.symm, rfl⟩⟩
        · rw [if_neg k1]
          generalize hL1 : PSt (H0 ++ [b64 a]) T a l p (d + 1) = L1 at *
          generalize hsv : stopV (hereT l) 16 p = sv at *
          refine ⟨_, by
            simp (disch := first | (simp only [List.length_append, List.length_cons, List.length_nil]; omega) | (simp; done) | assumption) [AV.cells?, AV.isCell, -AV.cells?, cq_int, cq_str, cq_slice, cq_bool, cq_ptr, -evBuild, -evBuildSlice, AV.sealed, AV.sealedL, r069, rc69, r369, B69, cutC, bodyOf, Tryz.f128, esc69, h1, h2, hb2, hh, ho1, k2, k3', k4, k1, hfl, z24, c24, a24, k24, i24, tq46_0, tq46_1, tq46_2, tc46, ta46, tk46, ti46, tz46, fq0, fq3, fq4, fq5, c3, a3, k3, i3, c2, a2, k2, i2, c22, a22, k22, i22, bq3, bq2, tq66_0, tq66_1, tq66_2, tk66, k9, a9, c9, bq9, tk64, tc64, ta64, ti64]
            rfl, .inr ⟨16, p, by rw [hsv], hL1.symm, rfl⟩⟩

set_option maxHeartbeats 8000000 in
theorem ev69 (n d F k : Nat) (hdk : d + k + 1 = 32) (hw : lowB H0.length T.length H0 = true) (one any : Nat → PR X) (h72 : Sub (H0 ++ [b64 a]) T a l (d + 1) (n + 4) 131 (signedP (hereT l) F one any)) (h73 : Sub (H0 ++ [b64 a]) T a l (d + 1) (n + 4) 132 (namedP (hereT l) one any)) :
    Sub H0 T a l d (n + 5) 128 (fun p => if (hereT l p).k = 2 then .ok (leafX 1 [] (hereT l p).n 0, p + 1)
    else if (hereT l p).k = 3 then .ok (leafX 3 (hereT l p).s 0 0, p + 1)
    else if (hereT l p).k = 4 then signedP (hereT l) F one any p
    else if (hereT l p).k = 1 then namedP (hereT l) one any p
    else .error (16, p)) := by
  intro p
  have ha1 : a < (H0 ++ [b64 a]).length := by simp; omega
  rw [show n + 5 = (n + 4) + 1 from rfl, ev_enterD (n := n + 4) (show E.ok 128 = true from rfl) (show E.dfr 128 = true from rfl) Tryz.func128 (fn := Tryz.f128) (c := bodyOf Tryz.f128) rfl cut69 (Nat.le_of_ble_eq_true rfl) (by decide +kernel)]
  have happ := PSt_app ha T l p d
  have hlen := PSt_Hlen H0 T a l p d
  have hg := PSt_get ha1 T l p d
  have ho := PSt_own ha T l p d
  have hset := PSt_set (H0 := H0 ++ [b64 a]) (a := a) T l p d p (d + 1)
  have hd1 : IntKind.i64.wrap ((d : Int) + 1) = ((d + 1 : Nat) : Int) := by rw [wrap64 _ (by omega)]; omega
  have hlt : ¬ (32 : Int) ≤ (d : Int) := by omega
  obtain ⟨fs1, e1, q1, q2, q3, q4⟩ : ∃ fs1, evCode ⟨Tryz.prog, E.esc 128, n + 4⟩ (ev Tryz.prog E (n + 4)) (E.ps 128) (n + 4) (.seq r069 (.seq rc69 (.seq r369 .skip))) ⟨argsA [.ptr a 0], fun _ => (0, []), 0, PSt H0 T a l p d⟩ = some (.norm, fs1) ∧ fs1.t 1 = .ptr H0.length 0 ∧ fs1.t 2 = .loc (n + 4) 2 2 0 ∧ fs1.b 2 = (2, z6) ∧ fs1.S = PSt (H0 ++ [b64 a]) T a l p (d + 1) := by
    simp only [b64] at happ hset hg ho ⊢
    generalize hL3 : PSt (H0 ++ [⟨61, [.ptr a 0]⟩]) T a l p (d + 1) = L3 at *
    generalize PSt (H0 ++ [⟨61, [.ptr a 0]⟩]) T a l p d = L2 at *
    generalize PSt H0 T a l p d = L1 at *
    generalize d + 1 = D1 at *
    generalize tkL l = es at *
    refine ⟨_, by
      simp (disch := first | (simp only [List.length_append, List.length_cons, List.length_nil]; omega) | (simp; done) | assumption) [AV.cells?, AV.isCell, -AV.cells?, cq_int, cq_str, cq_slice, cq_bool, cq_ptr, -evBuild, -evBuildSlice, AV.sealed, AV.sealedL, r069, rc69, r369, B69, cutC, bodyOf, Tryz.f128, esc69, happ, hlen, hg, ho, hset, hd1, hlt, z24', z24, c24, a24, k24, i24, tq46_0, tq46_1, tq46_2, tc46, ta46, tk46, ti46, tz46, fq0, fq3, fq4, fq5, c3, a3, k3, i3, c2, a2, k2, i2, c22, a22, k22, i22, bq3, bq2, tq66_0, tq66_1, tq66_2, tk66, k9, a9, c9, bq9, tk64, tc64, ta64, ti64]
      rfl, by simp [upd, putA], by simp [upd, putA], by simp [upd, z6], rfl⟩
  rw [e1]
  clear e1 happ hlen hg ho hset
  obtain ⟨t, b, c, S⟩ := fs1
  simp only at q1 q2 q3 q4
  subst q4
  obtain ⟨⟨o, fs2⟩, r1, r2⟩ := one_body ha T l hl n d F k one any h72 h73 p (upd 18 (.fn 130 [] [.ptr H0.length 0]) t) b (c + 2) (by simp [upd, q1]) (by simp [upd, q2]) q3
  have hsq : seqA ⟨Tryz.prog, E.esc 128, n + 4⟩ (ev Tryz.prog E (n + 4)) O69 (List.range (O69.size - 1)) ⟨t, b, c, PSt (H0 ++ [b64 a]) T a l p (d + 1)⟩ = some (.ok ⟨upd 18 (.fn 130 [] [.ptr H0.length 0]) t, b, c, PSt (H0 ++ [b64 a]) T a l p (d + 1)⟩ .non) := by
    have hr : List.range (O69.size - 1) = [0] := rfl
    have ho0 : ∃ o, O69[0]? = some o ∧ o.guard = none ∧ o.dst = some 18 ∧ o.op = .makeFunc (.func 130) #[] #[.tmp 1] := ⟨_, rfl, rfl, rfl, rfl⟩
    obtain ⟨o, o1, o2, o3, o4⟩ := ho0
    rw [hr]
    simp only [seqA, o1, stepA, o2, wantedA, evOp, o4, o3, putA, rhoL, rho, q1, List.map_nil, List.map_cons]
  have hsz : O69.size = 2 := rfl
  simp only [hsq]
  simp only [rho, upd, if_true, hsz]
  rw [r1]
  obtain ⟨t2, b2, c2, S2⟩ := fs2
  rcases r2 with ⟨z1, e, q, z2, z3, z4, z5⟩ | ⟨c', q, z1, z2, z3⟩
  · simp only at z1 z2 z3 z4
    subst z1 z4
    rw [z5, ansX_ok]
    have hdf := ev71 (n + 3) ha T l q d (by omega) none
    have hf := fin_one ha T l p d q e.emb hw (sealed_emb e) (strip_emb _ e) (low_emb _ _ e)
    have hlz := xlen e
    have htz := xtake e
    have hez := xemb e
    simp only [fromD, List.nil_append, rhoL, List.map_nil, hdf]
    generalize PSt H0 T a l q d = L3 at *
    generalize PSt (H0 ++ [b64 a]) T a l q d = L2 at *
    generalize e.cells = ec at *
    generalize e.emb = ee at *
    have hrs : Tryz.f128.results.toList = [.cell 2 25] := rfl
    simp (disch := first | (simp only [List.length_append, List.length_cons, List.length_nil]; omega) | (simp; done) | assumption) [AV.cells?, AV.isCell, -AV.cells?, hrs, z2, z3, hlz, htz, hez, hf, c24, a24, k24]
  · simp only at z1 z2
    subst z1 z2
    rw [z3, ansX_err]
    have hdf := ev71 (n + 3) ha T l q d (by omega) (some (stopV (hereT l) c' q))
    have hf := fin_one ha T l p d q (stopV (hereT l) c' q) hw rfl rfl rfl
    simp only [fromD, List.nil_append, rhoL, List.map_nil, hdf, finPan, hf]
theorem ev69z (n d : Nat) (hd : d = 32) (hw : lowB H0.length T.length H0 = true) (p : Nat) : ev Tryz.prog E (n + 5) 128 [.ptr a 0] (PSt H0 T a l p d) = ansX H0 T a l d (.error (32, p)) := by
  have ha1 : a < (H0 ++ [b64 a]).length := by simp; omega
  rw [show n + 5 = (n + 4) + 1 from rfl, ev_enterD (n := n + 4) (show E.ok 128 = true from rfl) (show E.dfr 128 = true from rfl) Tryz.func128 (fn := Tryz.f128) (c := bodyOf Tryz.f128) rfl cut69 (Nat.le_of_ble_eq_true rfl) (by decide +kernel)]
  have happ := PSt_app ha T l p d
  have hlen := PSt_Hlen H0 T a l p d
  have hg := PSt_get ha1 T l p d
  have ho := PSt_own ha T l p d
  have hlt : (32 : Int) ≤ (d : Int) := by omega
  have hfl := ev_fail ha1 T l hl (n + 2) p d 32
  have hf := fin_one ha T l p d p (stopV (hereT l) 32 p) hw rfl rfl rfl
  rw [ansX_err]
  simp only [b64] at happ hg ho hfl hf ⊢
  generalize PSt (H0 ++ [⟨61, [.ptr a 0]⟩]) T a l p d = L2 at *
  generalize PSt H0 T a l p d = L1 at *
  generalize stopV (hereT l) 32 p = sv at *
  generalize tkL l = es at *
  simp (disch := first | (simp only [List.length_append, List.length_cons, List.length_nil]; omega) | (simp; done) | assumption) [AV.cells?, AV.isCell, -AV.cells?, cq_int, cq_str, cq_slice, cq_bool, cq_ptr, -evBuild, -evBuildSlice, AV.sealed, AV.sealedL, r069, rc69, r369, B69, cutC, bodyOf, Tryz.f128, esc69, happ, hlen, hg, ho, hlt, hfl, hf, finPan, z24', z24, c24, a24, k24, i24, tq46_0, tq46_1, tq46_2, tc46, ta46, tk46, ti46, tz46, fq0, fq3, fq4, fq5, c3, a3, k3, i3, c2, a2, k2, i2, c22, a22, k22, i22, bq3, bq2, tq66_0, tq66_1, tq66_2, tk66, k9, a9, c9, bq9, tk64, tc64, ta64, ti64]
end
end Go.Proofs.YtemggoaefohliaaGreatDoor.PS
/- The parser, whole: by how many levels there still are. Condition: the world outside is closed. -/
namespace Go.Proofs.YtemggoaefohliaaGreatDoor.PS
set_option linter.unusedVariables false
set_option linter.unusedSimpArgs false
open Go AE EX PT NF LX
set_option maxRecDepth 100000

/-- whatever depth of calls from b on -/
def From (H0 : List HBox) (T : List Nat) (a : Nat) (l : List Tk) (d b f : Nat) (sub : Nat → PR X) : Prop := ∀ m, b ≤ m → Sub H0 T a l d m f sub
section
variable {H0 : List HBox} {a : Nat} (ha : a < H0.length) (T : List Nat) (l : List Tk) (hl : l.length ≤ 2000000)
include ha hl
theorem from68 {d b F : Nat} {one : Nat → PR X} (hb : l.length + 4 ≤ b) (hF : l.length < F) (hm : Mono one) (h : From H0 T a l d b 128 one) : From H0 T a l d (b + 1) 123 (prodP (hereT l) F one) := by
  intro m hbm
  obtain ⟨n, rfl⟩ : ∃ n, m = n + 3 := ⟨m - 3, by omega⟩
  exact ev68 ha T l hl n d one (h _ (by omega)) hm F hF (by omega)
theorem from64 {d b F : Nat} {one : Nat → PR X} (hb : l.length + 4 ≤ b) (hF : l.length < F) (hm : Mono one) (h : From H0 T a l d b 128 one) : From H0 T a l d (b + 2) 111 (sumP (hereT l) F one) := by
  intro m hbm
  obtain ⟨n, rfl⟩ : ∃ n, m = n + 3 := ⟨m - 3, by omega⟩
  exact ev64 ha T l hl n d _ (from68 ha T l hl hb hF hm h _ (by omega)) (mono_any hm).1 F hF (by omega)
theorem from56 {d b F : Nat} {one : Nat → PR X} (hb : l.length + 4 ≤ b) (hF : l.length < F) (hm : Mono one) (h : From H0 T a l d b 128 one) : From H0 T a l d (b + 3) 84 (relP (hereT l) (sumP (hereT l) F one)) := by
  intro m hbm
  obtain ⟨n, rfl⟩ : ∃ n, m = n + 3 := ⟨m - 3, by omega⟩
  exact ev56 ha T l hl n d _ (from64 ha T l hl hb hF hm h _ (by omega))
theorem from43 {d b F : Nat} {one : Nat → PR X} (hb : l.length + 4 ≤ b) (hF : l.length < F) (hm : Mono one) (h : From H0 T a l d b 128 one) : From H0 T a l d (b + 4) 51 (allP (hereT l) F one) := by
  intro m hbm
  obtain ⟨n, rfl⟩ : ∃ n, m = n + 3 := ⟨m - 3, by omega⟩
  exact ev43 ha T l hl n d _ (from56 ha T l hl hb hF hm h _ (by omega)) (mono_rel (mono_any hm).2.1) F hF (by omega)
theorem from27 {d b F : Nat} {one : Nat → PR X} (hb : l.length + 4 ≤ b) (hF : l.length < F) (hm : Mono one) (h : From H0 T a l d b 128 one) : From H0 T a l d (b + 5) 27 (anyP (hereT l) F one) := by
  intro m hbm
  obtain ⟨n, rfl⟩ : ∃ n, m = n + 3 := ⟨m - 3, by omega⟩
  exact ev27 ha T l hl n d _ (from43 ha T l hl hb hF hm h _ (by omega)) (mono_any hm).2.2.1 F hF (by omega)
theorem from79 {d b F : Nat} {one : Nat → PR X} (hb : l.length + 4 ≤ b) (hF : l.length < F) (hm : Mono one) (h : From H0 T a l d b 128 one) : From H0 T a l d (b + 6) 138 (argP (hereT l) (anyP (hereT l) F one)) := by
  intro m hbm
  obtain ⟨n, rfl⟩ : ∃ n, m = n + 5 := ⟨m - 5, by omega⟩
  exact ev79 ha T l hl n d _ (from27 ha T l hl hb hF hm h _ (by omega))
theorem from80 {d b F : Nat} {one : Nat → PR X} (hb : l.length + 4 ≤ b) (hF : l.length < F) (hm : Mono one) (h : From H0 T a l d b 128 one) : From H0 T a l d (b + 7) 139 (timedP (hereT l) (anyP (hereT l) F one)) := by
  intro m hbm
  obtain ⟨n, rfl⟩ : ∃ n, m = n + 6 := ⟨m - 6, by omega⟩
  exact ev80 ha T l hl n d _ (from79 ha T l hl hb hF hm h _ (by omega)) (from27 ha T l hl hb hF hm h _ (by omega))
theorem from72 {d b F : Nat} {one : Nat → PR X} (hw : lowB H0.length T.length H0 = true) (hb : l.length + 4 ≤ b) (hF : l.length < F) (hm : Mono one) (h : From H0 T a l d b 128 one) : From H0 T a l d (b + 6) 131 (signedP (hereT l) F one (anyP (hereT l) F one)) := by
  intro m hbm
  obtain ⟨n, rfl⟩ : ∃ n, m = n + 7 := ⟨m - 7, by omega⟩
  exact ev72 ha T l hl n d F _ _ (h _ (by omega)) (from27 ha T l hl hb hF hm h _ (by omega)) (ev74 ha T l hl (n + 1) d hw F hF (by omega))
theorem from73 {d b F : Nat} {one : Nat → PR X} (hb : l.length + 4 ≤ b) (hF : l.length < F) (hm : Mono one) (h : From H0 T a l d b 128 one) : From H0 T a l d (b + 8) 132 (namedP (hereT l) one (anyP (hereT l) F one)) := by
  intro m hbm
  obtain ⟨n, rfl⟩ : ∃ n, m = n + 7 := ⟨m - 7, by omega⟩
  exact ev73 ha T l hl n d _ _ (h _ (by omega)) (from79 ha T l hl hb hF hm h _ (by omega)) (from80 ha T l hl hb hF hm h _ (by omega))
end
theorem one_all (T : List Nat) (l : List Tk) (hl : l.length ≤ 2000000) (F : Nat) (hF : l.length < F) : ∀ (k : Nat) (H0 : List HBox) (a d : Nat), a < H0.length → lowB H0.length T.length H0 = true → d + k = 32 →
    From H0 T a l d (l.length + 20 * k + 20) 128 (oneF (hereT l) F k)
  | 0, H0, a, d, ha, hw, hd => by
    intro m hm p
    obtain ⟨n, rfl⟩ : ∃ n, m = n + 5 := ⟨m - 5, by omega⟩
    rw [oneF]
    exact ev69z ha T l hl n d (by omega) hw p
  | k + 1, H0, a, d, ha, hw, hd => by
    have ha1 : a < (H0 ++ [b64 a]).length := by simp; omega
    have hw1 := wf_app ha hw
    have ih := one_all T l hl F hF k (H0 ++ [b64 a]) a (d + 1) ha1 hw1 (by omega)
    have hm1 := mono_one (h := hereT l) F k
    intro m hm
    obtain ⟨n, rfl⟩ : ∃ n, m = n + 5 := ⟨m - 5, by omega⟩
    have e : oneF (hereT l) F (k + 1) = (fun p => if (hereT l p).k = 2 then .ok (leafX 1 [] (hereT l p).n 0, p + 1)
    else if (hereT l p).k = 3 then .ok (leafX 3 (hereT l p).s 0 0, p + 1)
    else if (hereT l p).k = 4 then signedP (hereT l) F (oneF (hereT l) F k) (anyP (hereT l) F (oneF (hereT l) F k)) p
    else if (hereT l p).k = 1 then namedP (hereT l) (oneF (hereT l) F k) (anyP (hereT l) F (oneF (hereT l) F k)) p
    else .error (16, p)) := by funext p; rw [oneF]
    rw [e]
    exact ev69 ha T l hl n d F k (by omega) hw _ _ (from72 ha1 T l hl hw1 (by omega) hF hm1 ih _ (by omega)) (from73 ha1 T l hl (by omega) hF hm1 ih _ (by omega))
/-- from the first word on -/
def takeR (l : List Tk) : PR X := anyP (hereT l) (l.length + 1) (oneF (hereT l) (l.length + 1) 32) 0
theorem any_all (T : List Nat) (l : List Tk) (hl : l.length ≤ 2000000) (H0 : List HBox) (a : Nat) (ha : a < H0.length) (hw : lowB H0.length T.length H0 = true) (m : Nat) (hm : l.length + 700 ≤ m) :
    ev Tryz.prog E m 27 [.ptr a 0] (PSt H0 T a l 0 0) = ansX H0 T a l 0 (takeR l) :=
  from27 ha T l hl (by omega) (by omega) (mono_one _ 32) (one_all T l hl (l.length + 1) (by omega) 32 H0 a 0 ha hw rfl) m (by omega) 0
end Go.Proofs.YtemggoaefohliaaGreatDoor.PS
/- A text in parentheses, parsed: the same, or too deep. No condition. -/
namespace Go.Proofs.YtemggoaefohliaaGreatDoor.PS
set_option linter.unusedVariables false
set_option linter.unusedSimpArgs false
open Go AE EX PT NF LX
set_option maxRecDepth 100000

/-! ### at the end -/
theorem is_end {h : Nat → Tk} {q : Nat} (hq : (h q).k = 5) (w : List UInt8) : isB h q w = false := by
  have := kindOf_ne w
  simp only [isB, hq]
  have : ((5 : Int) == kindOf w) = false := by simp [Ne.symm this]
  simp [this]
theorem opAt_end {h : Nat → Tk} {q : Nat} (hq : (h q).k = 5) : ∀ ops, opAt h q ops = none
  | [] => rfl
  | (w, k) :: r => by rw [opAt, is_end hq, if_neg (by simp)]; exact opAt_end hq r
theorem chain_end {h : Nat → Tk} {F : Nat} {ops : List (List UInt8 × Int)} {sub : Nat → PR X} {p q : Nat} {x : X} (hs : sub p = .ok (x, q)) (hF : 0 < F) (hq : (h q).k = 5) : chainP h F ops sub p = .ok (x, q) := by
  obtain ⟨f, rfl⟩ : ∃ f, F = f + 1 := ⟨F - 1, by omega⟩
  unfold chainP
  rw [hs, th_ok, loopF, opAt_end hq]
theorem chain_err {h : Nat → Tk} {F : Nat} {ops : List (List UInt8 × Int)} {sub : Nat → PR X} {p : Nat} {e : Int × Nat} (hs : sub p = .error e) : chainP h F ops sub p = .error e := by
  unfold chainP
  rw [hs, th_err]
theorem rel_end {h : Nat → Tk} {sub : Nat → PR X} {p q : Nat} {x : X} (hs : sub p = .ok (x, q)) (hq : (h q).k = 5) : relP h sub p = .ok (x, q) := by
  unfold relP
  rw [hs, th_ok]
  simp [is_end hq]
theorem rel_err {h : Nat → Tk} {sub : Nat → PR X} {p : Nat} {e : Int × Nat} (hs : sub p = .error e) : relP h sub p = .error e := by
  unfold relP
  rw [hs, th_err]
theorem any_end {h : Nat → Tk} {F : Nat} {one : Nat → PR X} {p q : Nat} {x : X} (hs : one p = .ok (x, q)) (hF : 0 < F) (hq : (h q).k = 5) : anyP h F one p = .ok (x, q) :=
  chain_end (chain_end (rel_end (chain_end (chain_end hs hF hq) hF hq) hq) hF hq) hF hq
theorem any_err {h : Nat → Tk} {F : Nat} {one : Nat → PR X} {p : Nat} {e : Int × Nat} (hs : one p = .error e) : anyP h F one p = .error e :=
  chain_err (chain_err (rel_err (chain_err (chain_err hs))))

/-! ### one place further on -/
structure Rel (h h' : Nat → Tk) (m : Nat) : Prop where
  k : ∀ i, i < m → (h' (i + 1)).k = (h i).k
  s : ∀ i, i < m → (h' (i + 1)).s = (h i).s
  n : ∀ i, i < m → (h' (i + 1)).n = (h i).n
  e : (h m).k = 5
  ek : (h' (m + 1)).k = 4
  es : (h' (m + 1)).s = [41]
def Sim {α : Type} (m : Nat) (R : α → α → Prop) (sub sub' : Nat → PR α) : Prop :=
  ∀ p x r, p ≤ m → sub p = .ok (x, r) → r ≤ m ∧ ((∃ x', R x x' ∧ sub' (p + 1) = .ok (x', r + 1)) ∨ ∃ e, sub' (p + 1) = .error (32, e))
def TkR (t t' : Tk) : Prop := t'.s = t.s ∧ t'.n = t.n

section
variable {h h' : Nat → Tk} {m : Nat} (hr : Rel h h' m)
include hr
theorem sim_is {i : Nat} {q : List UInt8} (hi : i ≤ m) (hq : q ≠ [41]) : isB h' (i + 1) q = isB h i q := by
  rcases Nat.lt_or_ge i m with h1 | h1
  · simp only [isB, hr.k i h1, hr.s i h1]
  · have : i = m := by omega
    subst this
    rw [is_end hr.e]
    simp only [isB, hr.ek, hr.es]
    have : (([41] : List UInt8) == q) = false := by simp [Ne.symm hq]
    simp [this]
theorem sim_ist {i : Nat} {q : List UInt8} (hi : i ≤ m) (hb : isB h i q = true) : i < m ∧ isB h' (i + 1) q = true := by
  have h1 : i < m := by
    rcases Nat.lt_or_ge i m with h1 | h1
    · exact h1
    · have : i = m := by omega
      subst this
      rw [is_end hr.e] at hb
      cases hb
  refine ⟨h1, ?_⟩
  simp only [isB, hr.k i h1, hr.s i h1] at hb ⊢
  exact hb
theorem sim_need (q : List UInt8) : Sim m Eq (needP h q) (needP h' q) := by
  intro p x r hp hh
  unfold needP at hh
  split at hh
  · rename_i hb
    cases hh
    obtain ⟨h1, h2⟩ := sim_ist hr hp hb
    refine ⟨by omega, .inl ⟨(), rfl, ?_⟩⟩
    unfold needP
    rw [if_pos h2]
  · cases hh
theorem sim_take {k : Int} (hk : k ≠ 5) : Sim m TkR (takeP h k) (takeP h' k) := by
  intro p x r hp hh
  unfold takeP at hh
  split at hh
  · rename_i hb
    cases hh
    have h1 : p < m := by
      rcases Nat.lt_or_ge p m with h1 | h1
      · exact h1
      · have : p = m := by omega
        subst this
        rw [hr.e] at hb
        exact absurd hb.symm hk
    refine ⟨by omega, .inl ⟨h' (p + 1), ⟨hr.s p h1, hr.n p h1⟩, ?_⟩⟩
    unfold takeP
    rw [if_pos (by rw [hr.k p h1]; exact hb)]
  · cases hh
omit hr in
theorem sim_th {α β : Type} {R : α → α → Prop} {S : β → β → Prop} {sub sub' : Nat → PR α} {g g' : α → Nat → PR β} (hR : ∀ v, R v v) (hs : Sim m R sub sub') (hg : ∀ v v', R v v' → Sim m S (g v) (g' v')) :
    Sim m S (fun p => (sub p).th g) (fun p => (sub' p).th g') := by
  intro p x r hp hh
  obtain ⟨v, q, h1, h2⟩ := th_split hh
  obtain ⟨k1, k2⟩ := hs p v q hp h1
  rcases k2 with ⟨v', k3, k4⟩ | ⟨e, k4⟩
  · obtain ⟨j1, j2⟩ := hg v v' k3 q x r k1 h2
    refine ⟨j1, ?_⟩
    simp only [k4, th_ok]
    exact j2
  · exact ⟨(hg v v (hR v) q x r k1 h2).1, .inr ⟨e, by simp only [k4, th_err]⟩⟩
omit hr in
theorem sim_the {α β : Type} {S : β → β → Prop} {sub sub' : Nat → PR α} {g g' : α → Nat → PR β} (hs : Sim m Eq sub sub') (hg : ∀ v, Sim m S (g v) (g' v)) :
    Sim m S (fun p => (sub p).th g) (fun p => (sub' p).th g') := sim_th (fun _ => rfl) hs fun v v' e => by subst e; exact hg v
omit hr in
theorem sim_tht {β : Type} {S : β → β → Prop} {sub sub' : Nat → PR Tk} {g g' : Tk → Nat → PR β} (hs : Sim m TkR sub sub') (hg : ∀ v v', TkR v v' → Sim m S (g v) (g' v')) :
    Sim m S (fun p => (sub p).th g) (fun p => (sub' p).th g') := sim_th (fun _ => ⟨rfl, rfl⟩) hs hg
omit hr in
theorem sim_ok {α : Type} (v : α) : Sim m Eq (fun q => .ok (v, q)) (fun q => .ok (v, q)) := by
  intro p x r hp h
  cases h
  exact ⟨hp, .inl ⟨v, rfl, rfl⟩⟩
omit hr in
theorem sim_error {α : Type} {S : α → α → Prop} (c : Int) (sub' : Nat → PR α) : Sim m S (fun q => .error (c, q)) sub' := by
  intro p x r hp h
  cases h
theorem sim_if {α : Type} {S : α → α → Prop} {q : List UInt8} (hq : q ≠ [41]) {A A' B B' : Nat → PR α} (hA : Sim m S A A') (hB : Sim m S B B') :
    Sim m S (fun p => if isB h p q = true then A (p + 1) else B p) (fun p => if isB h' p q = true then A' (p + 1) else B' p) := by
  intro p x r hp hh
  simp only at hh ⊢
  rw [sim_is hr hp hq]
  split at hh
  · rename_i hb
    obtain ⟨h1, _⟩ := sim_ist hr hp hb
    rw [if_pos hb]
    exact hA (p + 1) x r (by omega) hh
  · rename_i hb
    rw [if_neg hb]
    exact hB p x r hp hh

theorem sim_opAt {i : Nat} (hi : i ≤ m) : ∀ {ops : List (List UInt8 × Int)}, (∀ o ∈ ops, o.1 ≠ [41]) → opAt h' (i + 1) ops = opAt h i ops
  | [], _ => rfl
  | (q, k) :: r, ho => by
    rw [opAt, opAt, sim_is hr hi (ho _ (List.mem_cons_self ..)), sim_opAt hi fun o h => ho o (List.mem_cons_of_mem _ h)]
theorem sim_loop {ops : List (List UInt8 × Int)} (ho : ∀ o ∈ ops, o.1 ≠ [41]) {sub sub' : Nat → PR X} (hs : Sim m Eq sub sub') : ∀ f F e, f ≤ F → Sim m Eq (loopF h ops sub f e) (loopF h' ops sub' F e)
  | 0, F, e, _ => by intro p x r hp hh; cases hh
  | f + 1, 0, e, hF => by omega
  | f + 1, F + 1, e, hF => by
    intro p x r hp hh
    rw [loopF] at hh
    rw [loopF, sim_opAt hr hp ho]
    cases ha : opAt h p ops with
    | none =>
      rw [ha] at hh
      cases hh
      exact ⟨hp, .inl ⟨e, rfl, rfl⟩⟩
    | some k =>
      rw [ha] at hh
      simp only at hh ⊢
      obtain ⟨w, hw⟩ : ∃ q, isB h p q = true := by
        clear hh hs
        induction ops with
        | nil => cases ha
        | cons o r ih =>
          obtain ⟨q, k'⟩ := o
          rw [opAt] at ha
          split at ha
          · rename_i hb; exact ⟨q, hb⟩
          · exact ih (fun o h => ho o (List.mem_cons_of_mem _ h)) ha
      obtain ⟨h1, _⟩ := sim_ist hr hp hw
      exact sim_the hs (fun v => sim_loop ho hs f F _ (by omega)) (p + 1) x r (by omega) hh
theorem sim_chain {ops : List (List UInt8 × Int)} (ho : ∀ o ∈ ops, o.1 ≠ [41]) {sub sub' : Nat → PR X} (hs : Sim m Eq sub sub') {F F' : Nat} (hF : F ≤ F') : Sim m Eq (chainP h F ops sub) (chainP h' F' ops sub') :=
  sim_the hs fun v => sim_loop hr ho hs F F' v hF
theorem sim_rel {sub sub' : Nat → PR X} (hs : Sim m Eq sub sub') : Sim m Eq (relP h sub) (relP h' sub') :=
  sim_the hs fun e => sim_if hr (q := [61]) (by decide) (A := fun r => (sub r).th fun x q => .ok (bothX 14 e x, q)) (A' := fun r => (sub' r).th fun x q => .ok (bothX 14 e x, q)) (sim_the hs fun x => sim_ok _)
    (sim_if hr (q := [33, 61]) (by decide) (A := fun r => (sub r).th fun x q => .ok (oneX 18 (bothX 14 e x), q)) (A' := fun r => (sub' r).th fun x q => .ok (oneX 18 (bothX 14 e x), q)) (sim_the hs fun x => sim_ok _)
    (sim_if hr (q := [60]) (by decide) (A := fun r => (sub r).th fun x q => .ok (bothX 15 e x, q)) (A' := fun r => (sub' r).th fun x q => .ok (bothX 15 e x, q)) (sim_the hs fun x => sim_ok _)
    (sim_if hr (q := [60, 61]) (by decide) (A := fun r => (sub r).th fun x q => .ok (bothX 16 e x, q)) (A' := fun r => (sub' r).th fun x q => .ok (bothX 16 e x, q)) (sim_the hs fun x => sim_ok _)
    (sim_if hr (q := [105, 110]) (by decide) (A := fun r => (sub r).th fun x q => .ok (bothX 17 e x, q)) (A' := fun r => (sub' r).th fun x q => .ok (bothX 17 e x, q)) (sim_the hs fun x => sim_ok _) (sim_ok e)))))
theorem sim_any {one one' : Nat → PR X} (hs : Sim m Eq one one') {F F' : Nat} (hF : F ≤ F') : Sim m Eq (anyP h F one) (anyP h' F' one') :=
  sim_chain hr (by decide) (sim_chain hr (by decide) (sim_rel hr (sim_chain hr (by decide) (sim_chain hr (by decide) hs hF) hF)) hF) hF
theorem sim_setF : ∀ f F ks, f ≤ F → Sim m Eq (setF h f ks) (setF h' F ks)
  | 0, F, ks, _ => by intro p x r hp hh; cases hh
  | f + 1, 0, ks, hF => by omega
  | f + 1, F + 1, ks, hF => by
    have key : Sim m Eq (fun p => (takeP h 3 p).th fun t r => if setBad ks t.s = true then .error (16, r) else if isB h r [125] = true then .ok (setX (ks ++ [leafX 3 t.s 0 0]), r + 1) else (needP h [44] r).th fun _ q => setF h f (ks ++ [leafX 3 t.s 0 0]) q)
        (fun p => (takeP h' 3 p).th fun t r => if setBad ks t.s = true then .error (16, r) else if isB h' r [125] = true then .ok (setX (ks ++ [leafX 3 t.s 0 0]), r + 1) else (needP h' [44] r).th fun _ q => setF h' F (ks ++ [leafX 3 t.s 0 0]) q) := by
      refine sim_tht (sim_take hr (by decide)) fun t t' ht => ?_
      rw [ht.1]
      by_cases hb : setBad ks t.s = true
      · simp only [hb, if_true]
        exact sim_error 16 _
      · simp only [hb, if_false, Bool.false_eq_true]
        exact sim_if hr (q := [125]) (by decide) (A := fun q => .ok (setX (ks ++ [leafX 3 t.s 0 0]), q)) (A' := fun q => .ok (setX (ks ++ [leafX 3 t.s 0 0]), q)) (sim_ok _)
          (sim_the (sim_need hr [44]) fun _ => sim_setF f F _ (by omega))
    intro p x r hp hh
    rw [setF] at hh ⊢
    exact key p x r hp hh
theorem sim_set {F F' : Nat} (hF : F ≤ F') : Sim m Eq (setP h F) (setP h' F') :=
  sim_if hr (q := [125]) (by decide) (A := fun q => .ok (leafX 4 [] 0 0, q)) (A' := fun q => .ok (leafX 4 [] 0 0, q)) (sim_ok _) (sim_setF hr F F' [] hF)
theorem sim_arg {any any' : Nat → PR X} (ha : Sim m Eq any any') : Sim m Eq (argP h any) (argP h' any') :=
  sim_the (sim_need hr [40]) fun _ => sim_the ha fun e => sim_the (sim_need hr [41]) fun _ => sim_ok e
theorem sim_signed {one one' any any' : Nat → PR X} (ho : Sim m Eq one one') (ha : Sim m Eq any any') {F F' : Nat} (hF : F ≤ F') : Sim m Eq (signedP h F one any) (signedP h' F' one' any') :=
  sim_if hr (q := [45]) (by decide) (A := fun q => (one q).th fun x r => .ok (oneX 11 x, r)) (A' := fun q => (one' q).th fun x r => .ok (oneX 11 x, r)) (sim_the ho fun x => sim_ok _)
    (sim_if hr (q := [123]) (by decide) (A := setP h F) (A' := setP h' F') (sim_set hr hF) (sim_arg hr ha))
theorem sim_attr (side : Int) : Sim m Eq (attrP h side) (attrP h' side) :=
  sim_the (sim_need hr [46]) fun _ => sim_tht (sim_take hr (by decide)) fun t t' ht => by rw [ht.1]; exact sim_ok _
theorem sim_times : Sim m Eq (timesP h) (timesP h') :=
  sim_the (sim_need hr [40]) fun _ => sim_tht (sim_take hr (by decide)) fun t t' ht => sim_the (sim_need hr [44]) fun _ => sim_tht (sim_take hr (by decide)) fun u u' hu => sim_the (sim_need hr [41]) fun _ => by rw [ht.1, hu.2]; exact sim_ok _
theorem sim_act : Sim m Eq (actP h) (actP h') :=
  sim_the (sim_need hr [40]) fun _ => sim_tht (sim_take hr (by decide)) fun t t' ht => sim_the (sim_need hr [41]) fun _ => by rw [ht.1]; exact sim_ok _
theorem sim_span : Sim m Eq (spanP h) (spanP h') := by
  refine sim_the (sim_need hr [91]) fun _ => sim_tht (sim_take hr (by decide)) fun t t' ht => sim_the (sim_need hr [44]) fun _ => ?_
  rw [ht.2]
  refine sim_if hr (q := [42]) (by decide) (A := fun r2 => (needP h [93] r2).th fun _ r4 => .ok ((t.n, -1), r4)) (A' := fun r2 => (needP h' [93] r2).th fun _ r4 => .ok ((t.n, -1), r4)) (sim_the (sim_need hr [93]) fun _ => sim_ok _) ?_
  refine sim_tht (sim_take hr (by decide)) fun u u' hu => ?_
  rw [hu.2]
  by_cases hc : u.n < t.n
  · simp only [hc, if_true]; exact sim_error 16 _
  · simp only [hc, if_false]; exact sim_the (sim_need hr [93]) fun _ => sim_ok _
theorem sim_look (k : Int) {any any' : Nat → PR X} (ha : Sim m Eq any any') : Sim m Eq (lookP h k any) (lookP h' k any') :=
  sim_the (sim_span hr) fun lh => sim_the (sim_arg hr ha) fun e => sim_ok _
theorem sim_since {any any' : Nat → PR X} (ha : Sim m Eq any any') : Sim m Eq (sinceP h any) (sinceP h' any') :=
  sim_the (sim_span hr) fun lh => sim_the (sim_need hr [40]) fun _ => sim_the ha fun x => sim_the (sim_need hr [44]) fun _ => sim_the ha fun y => sim_the (sim_need hr [41]) fun _ => sim_ok _
theorem sim_timed {any any' : Nat → PR X} (ha : Sim m Eq any any') : Sim m Eq (timedP h any) (timedP h' any') :=
  sim_if hr (q := [111, 110, 99, 101]) (by decide) (A := lookP h 22 any) (A' := lookP h' 22 any') (sim_look hr 22 ha)
    (sim_if hr (q := [104, 105, 115, 116]) (by decide) (A := lookP h 23 any) (A' := lookP h' 23 any') (sim_look hr 23 ha)
    (sim_if hr (q := [115, 105, 110, 99, 101]) (by decide) (A := sinceP h any) (A' := sinceP h' any') (sim_since hr ha) (sim_error 16 _)))
theorem sim_named {one one' any any' : Nat → PR X} (ho : Sim m Eq one one') (ha : Sim m Eq any any') : Sim m Eq (namedP h one any) (namedP h' one' any') :=
  sim_if hr (q := [116, 114, 117, 101]) (by decide) (A := fun q => .ok (leafX 2 [] 1 0, q)) (A' := fun q => .ok (leafX 2 [] 1 0, q)) (sim_ok _)
    (sim_if hr (q := [102, 97, 108, 115, 101]) (by decide) (A := fun q => .ok (leafX 2 [] 0 0, q)) (A' := fun q => .ok (leafX 2 [] 0 0, q)) (sim_ok _)
    (sim_if hr (q := [110, 111, 119]) (by decide) (A := fun q => .ok (leafX 7 [] 0 0, q)) (A' := fun q => .ok (leafX 7 [] 0 0, q)) (sim_ok _)
    (sim_if hr (q := [110, 111, 116]) (by decide) (A := fun q => (one q).th fun x r => .ok (oneX 18 x, r)) (A' := fun q => (one' q).th fun x r => .ok (oneX 18 x, r)) (sim_the ho fun x => sim_ok _)
    (sim_if hr (q := [115]) (by decide) (A := attrP h 5) (A' := attrP h' 5) (sim_attr hr 5)
    (sim_if hr (q := [111]) (by decide) (A := attrP h 6) (A' := attrP h' 6) (sim_attr hr 6)
    (sim_if hr (q := [97, 99, 116]) (by decide) (A := actP h) (A' := actP h') (sim_act hr)
    (sim_if hr (q := [116, 105, 109, 101, 115]) (by decide) (A := timesP h) (A' := timesP h') (sim_times hr)
    (sim_if hr (q := [108, 101, 110]) (by decide) (A := fun q => (argP h any q).th fun x r => .ok (oneX 12 x, r)) (A' := fun q => (argP h' any' q).th fun x r => .ok (oneX 12 x, r)) (sim_the (sim_arg hr ha) fun x => sim_ok _)
    (sim_if hr (q := [112, 114, 101, 118]) (by decide) (A := fun q => (argP h any q).th fun x r => .ok (oneX 25 x, r)) (A' := fun q => (argP h' any' q).th fun x r => .ok (oneX 25 x, r)) (sim_the (sim_arg hr ha) fun x => sim_ok _)
    (sim_timed hr ha))))))))))
theorem sim_one {F F' : Nat} (hF : F ≤ F') (hm : ∀ k p x r, p ≤ m → oneF h F k p = .ok (x, r) → r ≤ m) : ∀ k, Sim m Eq (oneF h F (k + 1)) (oneF h' F' k)
  | 0 => by
    intro p x r hp hh
    exact ⟨hm _ _ _ _ hp hh, .inr ⟨p + 1, by rw [oneF]⟩⟩
  | k + 1 => by
    intro p x r hp hh
    have ih := sim_one hF hm k
    refine ⟨hm _ _ _ _ hp hh, ?_⟩
    have h1 : p < m := by
      rcases Nat.lt_or_ge p m with h1 | h1
      · exact h1
      · have : p = m := by omega
        subst this
        rw [oneF, hr.e] at hh
        simp at hh
    rw [oneF] at hh
    rw [oneF, hr.k p h1, hr.n p h1, hr.s p h1]
    split at hh
    · rename_i hk
      cases hh
      exact .inl ⟨_, rfl, by rw [if_pos hk]⟩
    · rename_i hk
      rw [if_neg hk]
      split at hh
      · rename_i hk
        cases hh
        exact .inl ⟨_, rfl, by rw [if_pos hk]⟩
      · rename_i hk
        rw [if_neg hk]
        split at hh
        · rename_i hk
          rw [if_pos hk]
          exact (sim_signed hr ih (sim_any hr ih hF) hF p x r hp hh).2
        · rename_i hk
          rw [if_neg hk]
          split at hh
          · rename_i hk
            rw [if_pos hk]
            exact (sim_named hr ih (sim_any hr ih hF) p x r hp hh).2
          · cases hh
end

/-- a text's words in parentheses -/
theorem take_paren {more : List Tk} {e : Int} (hk : ∀ t ∈ more, t.k ≠ 5) {a b c : Int} {x : X} {q : Nat} (ht : takeR (more ++ [⟨5, [], 0, e⟩]) = .ok (x, q)) (hq : (hereT (more ++ [⟨5, [], 0, e⟩]) q).k = 5) (hql : q < (more ++ [(⟨5, [], 0, e⟩ : Tk)]).length) :
    (takeR (⟨4, [40], 0, a⟩ :: more.map (fun t => { t with p := t.p + 1 }) ++ [⟨4, [41], 0, b⟩, ⟨5, [], 0, c⟩]) = .ok (x, more.length + 2) ∧ (hereT (⟨4, [40], 0, a⟩ :: more.map (fun t => { t with p := t.p + 1 }) ++ [⟨4, [41], 0, b⟩, ⟨5, [], 0, c⟩]) (more.length + 2)).k = 5) ∨
    ∃ p, takeR (⟨4, [40], 0, a⟩ :: more.map (fun t => { t with p := t.p + 1 }) ++ [⟨4, [41], 0, b⟩, ⟨5, [], 0, c⟩]) = .error (32, p) := by
  generalize hl : more ++ [(⟨5, [], 0, e⟩ : Tk)] = l at *
  generalize hl' : ((⟨4, [40], 0, a⟩ : Tk) :: more.map (fun t => { t with p := t.p + 1 }) ++ [⟨4, [41], 0, b⟩, ⟨5, [], 0, c⟩]) = l' at *
  have g1 : ∀ i (h : i < more.length), hereT l i = more[i] := fun i h => by
    have : l[i]? = some more[i] := by rw [← hl, List.getElem?_append_left h]; simp
    simp [hereT, this]
  have g2 : hereT l more.length = ⟨5, [], 0, e⟩ := by
    have : l[more.length]? = some ⟨5, [], 0, e⟩ := by rw [← hl]; simp
    simp [hereT, this]
  have g3 : ∀ i (h : i < more.length), hereT l' (i + 1) = { more[i] with p := more[i].p + 1 } := fun i h => by
    have : l'[i + 1]? = some { more[i] with p := more[i].p + 1 } := by
      rw [← hl', List.cons_append, List.getElem?_cons_succ, List.getElem?_append_left (by simpa using h), List.getElem?_map, List.getElem?_eq_getElem h]
      rfl
    simp [hereT, this]
  have g4 : hereT l' (more.length + 1) = ⟨4, [41], 0, b⟩ := by
    have : l'[more.length + 1]? = some ⟨4, [41], 0, b⟩ := by rw [← hl']; simp
    simp [hereT, this]
  have g5 : hereT l' (more.length + 2) = ⟨5, [], 0, c⟩ := by
    have : l'[more.length + 2]? = some ⟨5, [], 0, c⟩ := by rw [← hl']; simp
    simp [hereT, this]
  have g0 : hereT l' 0 = ⟨4, [40], 0, a⟩ := by
    have : l'[0]? = some ⟨4, [40], 0, a⟩ := by rw [← hl']; simp
    simp [hereT, this]
  have hr : Rel (hereT l) (hereT l') more.length := ⟨fun i h => by rw [g1 i h, g3 i h], fun i h => by rw [g1 i h, g3 i h], fun i h => by rw [g1 i h, g3 i h], by rw [g2], by rw [g4], by rw [g4]⟩
  have hlen : l.length = more.length + 1 := by rw [← hl]; simp
  have hlen' : l'.length = more.length + 3 := by rw [← hl']; simp
  have hqm : q = more.length := by
    rcases Nat.lt_or_ge q more.length with h | h
    · rw [g1 q h] at hq
      exact absurd hq (hk _ (List.getElem_mem h))
    · omega
  subst hqm
  have hF : l.length + 1 ≤ l'.length + 1 := by omega
  have hm : ∀ k p x r, p ≤ more.length → oneF (hereT l) (l.length + 1) k p = .ok (x, r) → r ≤ more.length := fun k p x r hp hh => by
    have b2 := bd_one (Wok_end (l := l) (m := more.length) (by rw [g2]) (by omega)) (l.length + 1) k _ _ _ hh
    have hb := bulk_pos x
    simp only [hp, if_true] at b2
    split at b2
    · assumption
    · omega
  have hs := sim_any hr (sim_one hr hF hm 31) hF
  unfold takeR at ht ⊢
  obtain ⟨_, h2⟩ := hs 0 x _ (by omega) ht
  have one0 : oneF (hereT l') (l'.length + 1) 32 0 = argP (hereT l') (anyP (hereT l') (l'.length + 1) (oneF (hereT l') (l'.length + 1) 31)) 0 := by
    rw [oneF, g0]
    have e1 : isB (hereT l') 0 [45] = false := by simp only [isB, g0]; decide
    have e2 : isB (hereT l') 0 [123] = false := by simp only [isB, g0]; decide
    simp [signedP, e1, e2]
  have n0 : needP (hereT l') [40] 0 = .ok ((), 1) := by
    unfold needP
    rw [if_pos]
    simp only [isB, g0]; decide
  rcases h2 with ⟨x', rfl, h2⟩ | ⟨p, h2⟩
  · left
    have n1 : needP (hereT l') [41] (more.length + 1) = .ok ((), more.length + 2) := by
      unfold needP
      rw [if_pos]
      simp only [isB, g4]; decide
    have h3 : oneF (hereT l') (l'.length + 1) 32 0 = .ok (x, more.length + 2) := by
      rw [one0]
      unfold argP
      rw [n0, th_ok, h2, th_ok, n1, th_ok]
    exact ⟨any_end h3 (by omega) (by rw [g5]), by rw [g5]⟩
  · right
    refine ⟨p, any_err ?_⟩
    rw [one0]
    unfold argP
    rw [n0, th_ok, h2, th_err]
end Go.Proofs.YtemggoaefohliaaGreatDoor.PS
/- The words of an expression's text, parsed: that expression. No condition. -/
namespace Go.Proofs.YtemggoaefohliaaGreatDoor.LX
set_option linter.unusedVariables false
set_option linter.unusedSimpArgs false
open Go AE EX PT NF PS
set_option maxRecDepth 100000

/-- these words stand from p on -/
def At (h : Nat → Tk) (p : Nat) : List WD → Prop
  | [] => True
  | w :: r => ((h p).k = w.1 ∧ (h p).s = w.2.1 ∧ (h p).n = w.2.2) ∧ At h (p + 1) r
theorem At_app {h : Nat → Tk} : ∀ {p : Nat} {a b : List WD}, At h p (a ++ b) ↔ At h p a ∧ At h (p + a.length) b
  | p, [], b => by simp [At]
  | p, w :: a, b => by
    have := @At_app h (p + 1) a b
    simp only [List.cons_append, At, this, List.length_cons, and_assoc]
    rw [show p + 1 + a.length = p + (a.length + 1) by omega]
theorem At_one {h : Nat → Tk} {p : Nat} {w : WD} : At h p [w] ↔ ((h p).k = w.1 ∧ (h p).s = w.2.1 ∧ (h p).n = w.2.2) := by simp [At]
/-- no sign between two stands here -/
def Cl (h : Nat → Tk) (q : Nat) : Prop := isB h q [42] = false ∧ isB h q [43] = false ∧ isB h q [45] = false ∧ isB h q [61] = false ∧ isB h q [33, 61] = false ∧ isB h q [60] = false ∧ isB h q [60, 61] = false ∧ isB h q [105, 110] = false ∧ isB h q [97, 110, 100] = false ∧ isB h q [111, 114] = false
theorem cl_sign {h : Nat → Tk} {q : Nat} {s : List UInt8} (hk : (h q).k = 4) (hs : (h q).s = s) (hn : s ≠ [42] ∧ s ≠ [43] ∧ s ≠ [45] ∧ s ≠ [61] ∧ s ≠ [33, 61] ∧ s ≠ [60] ∧ s ≠ [60, 61]) : Cl h q := by
  subst hs
  obtain ⟨h1, h2, h3, h4, h5, h6, h7⟩ := hn
  refine ⟨?_, ?_, ?_, ?_, ?_, ?_, ?_, ?_, ?_, ?_⟩ <;> simp only [isB, hk] <;> simp [*, kindOf]
theorem cl_end {h : Nat → Tk} {q : Nat} (hk : (h q).k = 5) : Cl h q :=
  ⟨is_end hk _, is_end hk _, is_end hk _, is_end hk _, is_end hk _, is_end hk _, is_end hk _, is_end hk _, is_end hk _, is_end hk _⟩
section
variable {h : Nat → Tk} {F : Nat} {one : Nat → PR X} {p q r : Nat} {a b : X}
theorem chain_no {ops : List (List UInt8 × Int)} {sub : Nat → PR X} (hs : sub p = .ok (a, q)) (hF : 0 < F) (ho : opAt h q ops = none) : chainP h F ops sub p = .ok (a, q) := by
  obtain ⟨F, rfl⟩ : ∃ k, F = k + 1 := ⟨F - 1, by omega⟩
  simp only [chainP, hs, th_ok, loopF, ho]
theorem chain_two {ops : List (List UInt8 × Int)} {sub : Nat → PR X} {k : Int} (hs : sub p = .ok (a, q)) (hF : 1 < F) (ho : opAt h q ops = some k) (hb : sub (q + 1) = .ok (b, r)) (hr : opAt h r ops = none) : chainP h F ops sub p = .ok (bothX k a b, r) := by
  obtain ⟨F, rfl⟩ : ∃ k, F = k + 1 + 1 := ⟨F - 2, by omega⟩
  simp only [chainP, hs, th_ok, loopF, ho, hb, hr]
theorem prod_no (hs : one p = .ok (a, q)) (hF : 0 < F) (h1 : isB h q [42] = false) : prodP h F one p = .ok (a, q) := chain_no hs hF (by simp [opAt, h1])
theorem sum_no (hs : prodP h F one p = .ok (a, q)) (hF : 0 < F) (h1 : isB h q [43] = false) (h2 : isB h q [45] = false) : sumP h F one p = .ok (a, q) := chain_no hs hF (by simp [opAt, h1, h2])
theorem rel_no {sub : Nat → PR X} (hs : sub p = .ok (a, q)) (h1 : isB h q [61] = false) (h2 : isB h q [33, 61] = false) (h3 : isB h q [60] = false) (h4 : isB h q [60, 61] = false) (h5 : isB h q [105, 110] = false) : relP h sub p = .ok (a, q) := by
  simp [relP, hs, th_ok, h1, h2, h3, h4, h5]
theorem all_no (hs : relP h (sumP h F one) p = .ok (a, q)) (hF : 0 < F) (h1 : isB h q [97, 110, 100] = false) : allP h F one p = .ok (a, q) := chain_no hs hF (by simp [opAt, h1])
theorem any_no (hs : allP h F one p = .ok (a, q)) (hF : 0 < F) (h1 : isB h q [111, 114] = false) : anyP h F one p = .ok (a, q) := chain_no hs hF (by simp [opAt, h1])
theorem sum_cl (hs : one p = .ok (a, q)) (hF : 0 < F) (hq : isB h q [42] = false ∧ isB h q [43] = false ∧ isB h q [45] = false) : sumP h F one p = .ok (a, q) := sum_no (prod_no hs hF hq.1) hF hq.2.1 hq.2.2
theorem rest_sum (hs : sumP h F one p = .ok (a, q)) (hF : 0 < F) (hq : Cl h q) : anyP h F one p = .ok (a, q) := by
  obtain ⟨h1, h2, h3, h4, h5, h6, h7, h8, h9, h10⟩ := hq
  exact any_no (all_no (rel_no hs h4 h5 h6 h7 h8) hF h9) hF h10
theorem any_cl (hs : one p = .ok (a, q)) (hF : 0 < F) (hq : Cl h q) : anyP h F one p = .ok (a, q) := rest_sum (sum_cl hs hF ⟨hq.1, hq.2.1, hq.2.2.1⟩) hF hq
theorem any_bin {k : Int} (hk : kb k) (hs : one p = .ok (a, q)) (hF : 1 < F) (ho : At h q [signW k]) (hb : one (q + 1) = .ok (b, r)) (hr : Cl h r) : anyP h F one p = .ok (bothX k a b, r) := by
  obtain ⟨g1, g2, _⟩ := At_one.1 ho
  have hr' := hr
  obtain ⟨h1, h2, h3, h4, h5, h6, h7, h8, h9, h10⟩ := hr'
  have hF0 : 0 < F := by omega
  have sb := sum_cl hb hF0 ⟨h1, h2, h3⟩
  have pb := prod_no hb hF0 h1
  have is : ∀ s, isB h q s = (((signW k).1 == kindOf s) && ((signW k).2.1 == s)) := fun s => by unfold isB; rw [g1, g2]
  rcases hk with rfl | rfl | rfl | rfl | rfl | rfl | rfl | rfl | rfl
  · exact rest_sum (chain_two (k := 8) (prod_no hs hF0 (by rw [is]; decide)) hF (by simp only [opAt, is]; decide) pb (by simp [opAt, h2, h3])) hF0 hr
  · exact rest_sum (chain_two (k := 9) (prod_no hs hF0 (by rw [is]; decide)) hF (by simp only [opAt, is]; decide) pb (by simp [opAt, h2, h3])) hF0 hr
  · exact rest_sum (sum_no (chain_two (k := 10) hs hF (by simp only [opAt, is]; decide) hb (by simp [opAt, h1])) hF0 h2 h3) hF0 hr
  · have sa := sum_cl hs hF0 ⟨by rw [is]; decide, by rw [is]; decide, by rw [is]; decide⟩
    exact any_no (all_no (by simp only [relP, sa, th_ok, is, sb]; rfl) hF0 h9) hF0 h10
  · have sa := sum_cl hs hF0 ⟨by rw [is]; decide, by rw [is]; decide, by rw [is]; decide⟩
    exact any_no (all_no (by simp only [relP, sa, th_ok, is, sb]; rfl) hF0 h9) hF0 h10
  · have sa := sum_cl hs hF0 ⟨by rw [is]; decide, by rw [is]; decide, by rw [is]; decide⟩
    exact any_no (all_no (by simp only [relP, sa, th_ok, is, sb]; rfl) hF0 h9) hF0 h10
  · have sa := sum_cl hs hF0 ⟨by rw [is]; decide, by rw [is]; decide, by rw [is]; decide⟩
    exact any_no (all_no (by simp only [relP, sa, th_ok, is, sb]; rfl) hF0 h9) hF0 h10
  · have sa := sum_cl hs hF0 ⟨by rw [is]; decide, by rw [is]; decide, by rw [is]; decide⟩
    have ra := rel_no sa (h := h) (by rw [is]; decide) (by rw [is]; decide) (by rw [is]; decide) (by rw [is]; decide) (by rw [is]; decide)
    have rb := rel_no sb h4 h5 h6 h7 h8
    exact any_no (chain_two (k := 19) ra hF (by simp only [opAt, is]; decide) rb (by simp [opAt, h9])) hF0 h10
  · have sa := sum_cl hs hF0 ⟨by rw [is]; decide, by rw [is]; decide, by rw [is]; decide⟩
    have ra := rel_no sa (h := h) (by rw [is]; decide) (by rw [is]; decide) (by rw [is]; decide) (by rw [is]; decide) (by rw [is]; decide)
    have rb := rel_no sb h4 h5 h6 h7 h8
    exact chain_two (k := 20) (all_no ra hF0 (by rw [is]; decide)) hF (by simp only [opAt, is]; decide) (all_no rb hF0 h9) (by simp [opAt, h10])
end

/-! ### one after another -/
theorem need_at {h : Nat → Tk} {p : Nat} {s : List UInt8} {rest : List WD} (hc : kindOf s = 4 := by decide) (ha : At h p ((4, s, 0) :: rest)) : needP h s p = .ok ((), p + 1) := by
  obtain ⟨⟨g1, g2, _⟩, _⟩ := ha
  unfold needP isB
  rw [if_pos (by rw [g1, g2, hc]; simp)]
theorem is_at {h : Nat → Tk} {p : Nat} {w : WD} {rest : List WD} (ha : At h p (w :: rest)) (s : List UInt8) : isB h p s = ((w.1 == kindOf s) && (w.2.1 == s)) := by
  obtain ⟨⟨g1, g2, _⟩, _⟩ := ha
  unfold isB
  rw [g1, g2]
theorem take_at {h : Nat → Tk} {p : Nat} {k n : Int} {s : List UInt8} {rest : List WD} (ha : At h p ((k, s, n) :: rest)) : ∃ t, takeP h k p = .ok (t, p + 1) ∧ t.s = s ∧ t.n = n := by
  obtain ⟨⟨g1, g2, g3⟩, _⟩ := ha
  exact ⟨h p, by unfold takeP; rw [if_pos g1], g2, g3⟩
theorem At.tail {h : Nat → Tk} {p : Nat} {w : WD} {rest : List WD} (ha : At h p (w :: rest)) : At h (p + 1) rest := ha.2
theorem cl_at {h : Nat → Tk} {q : Nat} {s : List UInt8} {rest : List WD} (ha : At h q ((4, s, 0) :: rest)) (hn : s ≠ [42] ∧ s ≠ [43] ∧ s ≠ [45] ∧ s ≠ [61] ∧ s ≠ [33, 61] ∧ s ≠ [60] ∧ s ≠ [60, 61]) : Cl h q := cl_sign ha.1.1 ha.1.2.1 hn

theorem span_at {h : Nat → Tk} {p : Nat} {lo hi : Int} {rest : List WD} (hh : hi = -1 ∨ lo ≤ hi) (ha : At h p (spanW lo hi ++ rest)) : spanP h p = .ok ((lo, hi), p + 5) := by
  simp only [spanW, List.cons_append, List.append_assoc, List.nil_append] at ha
  have a1 := ha.tail
  have a2 := a1.tail
  have a3 := a2.tail
  have a4 := a3.tail
  obtain ⟨t, h1, _, h2⟩ := take_at a1
  simp only [spanP, need_at (s := [91]) (by decide) ha, th_ok, h1, need_at (s := [44]) (by decide) a2]
  by_cases he : hi = -1
  · subst he
    have i1 : isB h (p + 1 + 1 + 1) [42] = true := by rw [is_at a3]; decide
    simp only [i1, if_true, need_at (s := [93]) (by decide) a4, th_ok, h2]
  · simp only [if_neg he] at a3
    obtain ⟨u, h3, _, h4⟩ := take_at a3
    have i1 : isB h (p + 1 + 1 + 1) [42] = false := by rw [is_at a3]; simp [kindOf]
    have hlt : ¬ hi < lo := by omega
    simp only [i1, Bool.false_eq_true, if_false, h3, th_ok, need_at (s := [93]) (by decide) a4, h2, h4, hlt]
theorem arg_at {h : Nat → Tk} {any : Nat → PR X} {p : Nat} {x : X} {w rest : List WD} (ha : At h p ((4, [40], 0) :: w ++ (4, [41], 0) :: rest)) (hx : any (p + 1) = .ok (x, p + 1 + w.length)) : argP h any p = .ok (x, p + 1 + w.length + 1) := by
  have a1 := ha.tail
  have a2 := (At_app.1 a1).2
  simp only [argP, need_at (s := [40]) (by decide) ha, th_ok, hx, need_at (s := [41]) (by decide) a2]

/-! ### sets -/
theorem set_at {h : Nat → Tk} : ∀ (ks ys : List X) (F p : Nat) (rest : List WD), SetOK (ks ++ ys) → ys ≠ [] → ys.length < F → (∀ y ∈ ks, ∃ nm, y = leafX 3 nm 0 0) →
    At h p (joinW (toksL ys) ++ (4, [125], 0) :: rest) → ∃ zs : List X, sameL zs ys = true ∧ zs.length = ys.length ∧ setF h F ks p = .ok (setX (ks ++ zs), p + (joinW (toksL ys)).length + 1)
  | ks, [], F, p, rest, _, hne, _, _, _ => absurd rfl hne
  | ks, y :: ys, 0, p, rest, _, _, hF, _, _ => by omega
  | ks, y :: ys, F + 1, p, rest, hok, _, hF, hks, ha => by
    have hlen := hok.1
    simp only [List.length_append, List.length_cons] at hlen hF
    obtain ⟨nm, tk, hy, hp, hord⟩ := hok.2 ks.length (by simp)
    rw [List.getElem?_append_right (Nat.le_refl _)] at hy
    simp at hy
    subst hy
    have htk : (X.mk 3 nm 0 0 0 tk []).toks = [(3, nm, 0)] := rfl
    simp only [toksL, joinW, htk, List.singleton_append, List.cons_append] at ha
    obtain ⟨t, h1, h2, _⟩ := take_at ha
    have a1 := ha.tail
    have hbad : setBad ks t.s = false := by
      unfold setBad
      rw [h2]
      have e1 : (ks.length == 8) = false := by simp; omega
      rw [e1, Bool.false_or]
      by_cases h0 : ks = []
      · subst h0; rfl
      · have hpos : 0 < ks.length := List.length_pos_iff.2 h0
        have hl : ks.getLast? = some ks[ks.length - 1] := by rw [List.getLast?_eq_getElem?]; simp [hpos]
        have hz := hord hpos (ks[ks.length - 1]) (by rw [List.getElem?_append_left (by omega)]; simp [hpos])
        have hls : lastS ks = (ks[ks.length - 1]).nm := by
          unfold lastS
          rw [hl]
          obtain ⟨nm', hm⟩ := hks _ (List.getElem_mem (show ks.length - 1 < ks.length by omega))
          rw [hm]; rfl
        rw [hls, hz]
        simp
    simp only [setF, h1, th_ok, hbad, Bool.false_eq_true, if_false]
    rw [h2]
    cases ys with
    | nil =>
      have i1 : isB h (p + 1) [125] = true := by
        rw [is_at (w := (4, [125], 0)) (rest := rest) (by simpa [toksL, joinTailW] using a1)]; decide
      refine ⟨[leafX 3 nm 0 0], by simp [sameL, leafX, X.same], rfl, ?_⟩
      simp only [i1, if_true]
      simp [toksL, joinW, joinTailW, htk]
    | cons z zs =>
      have a1' : At h (p + 1) ((4, [44], 0) :: (joinW (toksL (z :: zs)) ++ (4, [125], 0) :: rest)) := by
        simpa [toksL, joinTailW, joinW] using a1
      have i1 : isB h (p + 1) [125] = false := by rw [is_at a1']; decide
      obtain ⟨us, g1, g2, g3⟩ := set_at (ks ++ [leafX 3 nm 0 0]) (z :: zs) F (p + 1 + 1) rest (by
        refine ⟨by simp only [List.length_append, List.length_cons, List.length_nil]; simp only [List.length_cons] at hlen; omega, fun i hi => ?_⟩
        have hi' : i < (ks ++ X.mk 3 nm 0 0 0 tk [] :: z :: zs).length := by
          simp only [List.length_append, List.length_cons, List.length_nil] at hi ⊢; omega
        obtain ⟨nm2, tk2, w1, w2, w3⟩ := hok.2 i hi'
        have eq : ∀ j, (ks ++ [leafX 3 nm 0 0] ++ z :: zs)[j]? = (if j = ks.length then some (leafX 3 nm 0 0) else (ks ++ X.mk 3 nm 0 0 0 tk [] :: z :: zs)[j]?) := fun j => by
          by_cases hj : j = ks.length
          · subst hj; rw [if_pos rfl]; simp
          · have hu : ∀ u : X, ks.length ≤ j → (ks ++ u :: z :: zs)[j]? = (z :: zs)[j - ks.length - 1]? := fun u h0 => by
              rw [List.getElem?_append_right h0]
              obtain ⟨d, hd⟩ : ∃ d, j - ks.length = d + 1 := ⟨j - ks.length - 1, by omega⟩
              rw [hd]; simp
            rw [if_neg hj, List.append_assoc, List.singleton_append]
            by_cases hj2 : j < ks.length
            · rw [List.getElem?_append_left hj2, List.getElem?_append_left hj2]
            · rw [hu _ (by omega), hu _ (by omega)]
        have hnm : ∀ (j : Nat) (y : X), (ks ++ [leafX 3 nm 0 0] ++ z :: zs)[j]? = some y → ∃ y' : X, (ks ++ X.mk 3 nm 0 0 0 tk [] :: z :: zs)[j]? = some y' ∧ y'.nm = y.nm := fun j y hj => by
          rw [eq] at hj
          split at hj
          · rename_i e; subst e; cases hj; exact ⟨X.mk 3 nm 0 0 0 tk [], by simp, rfl⟩
          · exact ⟨y, hj, rfl⟩
        by_cases hie : i = ks.length
        · subst hie
          have e0 : (ks ++ X.mk 3 nm 0 0 0 tk [] :: z :: zs)[ks.length]? = some (X.mk 3 nm 0 0 0 tk []) := by simp
          rw [e0] at w1
          cases w1
          refine ⟨nm, true, by rw [eq, if_pos rfl]; rfl, w2, fun h0 y hy => ?_⟩
          obtain ⟨y', e1, e2⟩ := hnm _ y hy
          rw [← e2]
          exact w3 h0 y' e1
        · refine ⟨nm2, tk2, by rw [eq, if_neg hie]; exact w1, w2, fun h0 y hy => ?_⟩
          obtain ⟨y', e1, e2⟩ := hnm _ y hy
          rw [← e2]
          exact w3 h0 y' e1) (by simp) (by simp only [List.length_cons] at hF ⊢; omega) (by
        intro y hy
        rcases List.mem_append.1 hy with hy | hy
        · exact hks y hy
        · simp at hy; exact ⟨nm, hy⟩) a1'.tail
      refine ⟨leafX 3 nm 0 0 :: us, by simp [sameL, leafX, X.same, g1], by simp [g2], ?_⟩
      simp only [i1, Bool.false_eq_true, if_false, need_at (s := [44]) (by decide) a1', th_ok, g3, List.append_assoc, List.singleton_append]
      simp [toksL, joinW, joinTailW, htk]
      omega
theorem tail_len : ∀ r : List (List WD), r.length ≤ (joinTailW r).length
  | [] => by simp
  | x :: r => by
    have := tail_len r
    simp only [joinTailW, List.map_cons, List.flatten_cons, List.length_append, List.length_cons] at this ⊢
    omega
theorem toks_length : ∀ l : List X, (toksL l).length = l.length
  | [] => rfl
  | x :: l => by simp [toksL, toks_length l]
theorem toks_len (l : List X) : l.length ≤ (joinW (toksL l)).length + 1 := by
  cases l with
  | nil => simp
  | cons x r =>
    have h1 := tail_len (toksL r)
    have h2 := toks_length r
    simp only [toksL, joinW, List.length_append, List.length_cons]
    omega
end Go.Proofs.YtemggoaefohliaaGreatDoor.LX
/- parse.Take, evaluated. Condition: the world outside is closed. -/
namespace Go.Proofs.YtemggoaefohliaaGreatDoor.PS
set_option linter.unusedVariables false
set_option linter.unusedSimpArgs false
open Go AE EX PT NF LX
set_option maxRecDepth 100000

theorem esc15 (d : Nat) : E.esc 10 d = (d == 2 || d == 3 || d == 4 || d == 8) := by simp [E]
noncomputable def r015 : Code := cutC (bodyOf Tryz.f10) [0]
noncomputable def r115 : Code := cutC (bodyOf Tryz.f10) [1, 0]
noncomputable def B15 : Code := cutC (bodyOf Tryz.f10) [1, 1, 1]
noncomputable def O15 : Array Oper := opsOf (cutC (bodyOf Tryz.f10) [1, 1, 0])
theorem cut15 : cutD (bodyOf Tryz.f10) = some (.seq r015 (.seq r115 .skip), O15, ⟨.value (.tmp 9), #[], #[]⟩, B15) := rfl
theorem zv68 : zvQ Tryz.prog 65 = some (.agg [.int .i64 0, .int .i64 0]) := by kernel_rfl
theorem tz27 : zeroQ Tryz.prog 27 = some [.nilif] := by kernel_rfl
noncomputable def y26 : Code := cutC (bodyOf Tryz.f26) [1]
noncomputable def O26 : Array Oper := opsOf (cutC (bodyOf Tryz.f26) [0])
theorem cut26 : cutR (bodyOf Tryz.f26) = some (0, O26, 6, y26) := rfl

/-- the boxes of Take: its results, and the parser -/
def TB (l : List Tk) (e : X) (n : Int) (er : AV) (q : Nat) : List HBox := [⟨25, e.cells⟩, ⟨3, [.int .i64 n]⟩, ⟨27, [er]⟩, box l q 0]
def TSt (S0 : St) (l : List Tk) (e : X) (n : Int) (er : AV) (q : Nat) (more : List HBox) : St := ⟨S0.H ++ (TB l e n er q ++ more), S0.T⟩
def zX : X := leafX 0 [] 0 0
theorem zX_cells : zX.cells = z6 := rfl

theorem TSt_eq (S0 : St) (l : List Tk) (q : Nat) : PSt (S0.H ++ TB l zX 0 .nilif 0) S0.T (S0.H.length + 3) l q 0 = TSt S0 l zX 0 .nilif q [] := by
  simp [PSt, TSt, TB, List.set_append_right]
theorem TSt_get0 (S0 : St) (l : List Tk) (e : X) (n : Int) (er : AV) (q : Nat) (more : List HBox) : (TSt S0 l e n er q more).H[S0.H.length]? = some ⟨25, e.cells⟩ := by simp [TSt, TB]
theorem TSt_get1 (S0 : St) (l : List Tk) (e : X) (n : Int) (er : AV) (q : Nat) (more : List HBox) : (TSt S0 l e n er q more).H[S0.H.length + 1]? = some ⟨3, [.int .i64 n]⟩ := by simp [TSt, TB]
theorem TSt_get2 (S0 : St) (l : List Tk) (e : X) (n : Int) (er : AV) (q : Nat) (more : List HBox) : (TSt S0 l e n er q more).H[S0.H.length + 2]? = some ⟨27, [er]⟩ := by simp [TSt, TB]
theorem TSt_get3 (S0 : St) (l : List Tk) (e : X) (n : Int) (er : AV) (q : Nat) (more : List HBox) : (TSt S0 l e n er q more).H[S0.H.length + 3]? = some ⟨63, [.slice (tkL l) .non, .int .i64 q, .int .i64 0]⟩ := by simp [TSt, TB, box]
theorem TSt_set0 (S0 : St) (l : List Tk) (e e' : X) (n : Int) (er : AV) (q : Nat) (more : List HBox) : (⟨(TSt S0 l e n er q more).H.set S0.H.length ⟨25, e'.cells⟩, (TSt S0 l e n er q more).T⟩ : St) = TSt S0 l e' n er q more := by simp [TSt, TB]
theorem TSt_set1 (S0 : St) (l : List Tk) (e : X) (n n' : Int) (er : AV) (q : Nat) (more : List HBox) : (⟨(TSt S0 l e n er q more).H.set (S0.H.length + 1) ⟨3, [.int .i64 n']⟩, (TSt S0 l e n er q more).T⟩ : St) = TSt S0 l e n' er q more := by simp [TSt, TB]
theorem TSt_set2 (S0 : St) (l : List Tk) (e : X) (n : Int) (er er' : AV) (q : Nat) (more : List HBox) : (⟨(TSt S0 l e n er q more).H.set (S0.H.length + 2) ⟨27, [er']⟩, (TSt S0 l e n er q more).T⟩ : St) = TSt S0 l e n er' q more := by simp [TSt, TB]
theorem wf4 {S0 : St} (hw : lowB S0.H.length S0.T.length S0.H = true) (l : List Tk) : lowB (S0.H ++ TB l zX 0 .nilif 0).length S0.T.length (S0.H ++ TB l zX 0 .nilif 0) = true := by
  rw [lowB_append]
  simp only [List.length_append, Bool.and_eq_true]
  refine ⟨lowB_mono (lowB_mono (lowB_mono (lowB_mono hw))), ?_⟩
  have := box_low (S0.H.length + (TB l zX 0 .nilif 0).length) S0.T.length l 0 0
  simp [TB, lowB, AV.lowL, AV.low, zX, leafX, X.cells, embL, tokOf] at this ⊢
  exact this

set_option maxHeartbeats 4000000 in
/-- no panic: nothing -/
theorem ev26n (n : Nat) (S0 : St) (l : List Tk) (e : X) (k : Int) (er : AV) (q : Nat) :
    evd Tryz.prog E (n + 2) 26 [.ptr S0.H.length 0, .ptr (S0.H.length + 1) 0, .ptr (S0.H.length + 2) 0] (TSt S0 l e k er q []) none = some (false, TSt S0 l e k er q []) := by
  rw [evd_enter (show E.ok 26 = true from rfl), evDefer, Tryz.func26]
  have hb : Tryz.f26.body = some (bodyOf Tryz.f26) := rfl
  simp only [hb]
  rw [if_pos ⟨Nat.le_of_ble_eq_true rfl, by decide +kernel⟩, cut26]
  have hr : List.range' 1 (O26.size - 1) = [1, 2, 3, 4, 5, 6, 7] := rfl
  have hf : finish (TSt S0 l e k er q []) (.tup []) (TSt S0 l e k er q []) = some (.tup [], TSt S0 l e k er q []) := finish_same rfl rfl rfl rfl rfl
  simp only [hr]
  generalize TSt S0 l e k er q [] = L1 at *
  simp (disch := first | (simp only [List.length_append, List.length_cons, List.length_nil]; omega) | (simp; done) | assumption) [AV.cells?, AV.isCell, seqA, O26, opsOf, y26, pvOf, cutC, bodyOf, Tryz.f26, E_esc, evAssert, tn68, tz68, tc68, ta68, tk68, ti68, zv68, endD, hf]

set_option maxHeartbeats 8000000 in
/-- a panic of fail: the fault, new -/
theorem ev26p (n : Nat) (S0 : St) (l : List Tk) (q : Nat) (c pl : Int) :
    evd Tryz.prog E (n + 2) 26 [.ptr S0.H.length 0, .ptr (S0.H.length + 1) 0, .ptr (S0.H.length + 2) 0] (TSt S0 l zX 0 .nilif q []) (some (.iface 65 (.agg [.int .i64 c, .int .i64 pl]))) =
      some (true, TSt S0 l zX 0 (.iface 78 (.ptr (S0.H.length + 4) 0)) q [⟨81, [.int .i64 c, .int .i64 pl, .nilif]⟩]) := by
  rw [evd_enter (show E.ok 26 = true from rfl), evDefer, Tryz.func26]
  have hb : Tryz.f26.body = some (bodyOf Tryz.f26) := rfl
  simp only [hb]
  rw [if_pos ⟨Nat.le_of_ble_eq_true rfl, by decide +kernel⟩, cut26]
  have hr : List.range' 1 (O26.size - 1) = [1, 2, 3, 4, 5, 6, 7] := rfl
  have hlen : (TSt S0 l zX 0 .nilif q []).H.length = S0.H.length + 4 := by simp [TSt, TB]
  have hN : ev Tryz.prog E (n + 1) 22 [.int .i64 c, .int .i64 pl] (TSt S0 l zX 0 .nilif q []) = some (.ret (.iface 78 (.ptr (S0.H.length + 4) 0)), TSt S0 l zX 0 .nilif q [⟨81, [.int .i64 c, .int .i64 pl, .nilif]⟩]) := by
    rw [ev_New, hlen]
    simp [TSt, TB]
  have hg0 := TSt_get0 S0 l zX 0 .nilif q [⟨81, [.int .i64 c, .int .i64 pl, .nilif]⟩]
  have hg1 := TSt_get1 S0 l zX 0 .nilif q [⟨81, [.int .i64 c, .int .i64 pl, .nilif]⟩]
  have hg2 := TSt_get2 S0 l zX 0 .nilif q [⟨81, [.int .i64 c, .int .i64 pl, .nilif]⟩]
  have hs0 := TSt_set0 S0 l zX zX 0 .nilif q [⟨81, [.int .i64 c, .int .i64 pl, .nilif]⟩]
  have hs1 := TSt_set1 S0 l zX 0 0 .nilif q [⟨81, [.int .i64 c, .int .i64 pl, .nilif]⟩]
  have hs2 := TSt_set2 S0 l zX 0 .nilif (.iface 78 (.ptr (S0.H.length + 4) 0)) q [⟨81, [.int .i64 c, .int .i64 pl, .nilif]⟩]
  have hf : finish (TSt S0 l zX 0 .nilif q []) (.tup []) (TSt S0 l zX 0 (.iface 78 (.ptr (S0.H.length + 4) 0)) q [⟨81, [.int .i64 c, .int .i64 pl, .nilif]⟩]) = some (.tup [], TSt S0 l zX 0 (.iface 78 (.ptr (S0.H.length + 4) 0)) q [⟨81, [.int .i64 c, .int .i64 pl, .nilif]⟩]) := by
    have e1 : (TSt S0 l zX 0 (.iface 78 (.ptr (S0.H.length + 4) 0)) q [⟨81, [.int .i64 c, .int .i64 pl, .nilif]⟩]).H.take (S0.H.length + 4) = (TSt S0 l zX 0 (.iface 78 (.ptr (S0.H.length + 4) 0)) q []).H := by
      have e2 : ∀ more, (TSt S0 l zX 0 (.iface 78 (.ptr (S0.H.length + 4) 0)) q more).H = (S0.H ++ TB l zX 0 (.iface 78 (.ptr (S0.H.length + 4) 0)) q) ++ more := fun more => by simp [TSt]
      rw [e2, e2, List.append_nil]
      exact List.take_left' (by simp [TB])
    unfold finish
    rw [hlen, e1, if_pos (show (AV.tup []).sealed = true from rfl), if_neg, if_neg, if_neg]
    · simp only [Bool.and_eq_true, not_and, Bool.not_eq_true]
      rintro ⟨_, h1⟩
      simp [TSt, TB, lowB_append, lowB, AV.lowL, AV.low] at h1
    · simp only [Bool.and_eq_true, not_and, Bool.not_eq_true]
      rintro ⟨⟨_, _⟩, h1⟩
      simp [TSt, TB, lowB_append, lowB, AV.lowL, AV.low] at h1
    · simp only [Bool.and_eq_true, not_and, Bool.not_eq_true]
      rintro ⟨h1, _⟩
      have := boxEqL_spec _ _ h1
      simp [TSt, TB] at this
  have hbz := bXz
  have hcz := xcells zX
  have hlz := xlen zX
  have hsz := sealed_emb zX
  have hszc : AV.sealedL zX.cells = true := rfl
  have hdz : List.drop 6 zX.cells = [] := rfl
  have e0 : leafX 0 [] 0 0 = zX := rfl
  rw [e0] at hbz
  simp only [hr]
  generalize TSt S0 l zX 0 (.iface 78 (.ptr (S0.H.length + 4) 0)) q [⟨81, [.int .i64 c, .int .i64 pl, .nilif]⟩] = L3 at *
  generalize TSt S0 l zX 0 .nilif q [⟨81, [.int .i64 c, .int .i64 pl, .nilif]⟩] = L2 at *
  generalize TSt S0 l zX 0 .nilif q [] = L1 at *
  generalize zX.cells = zc at *
  generalize zX.emb = ze at *
  simp (disch := first | (simp only [List.length_append, List.length_cons, List.length_nil]; omega) | (simp; done) | assumption) [AV.cells?, AV.isCell, -AV.cells?, cq_int, cq_iface, cq_agg, -evBuild, seqA, O26, opsOf, y26, pvOf, cutC, bodyOf, Tryz.f26, E_esc, evAssert, tn68, tz68, tc68, ta68, tk68, ti68, zv68, endD, tq68_0, tq68_1, k3, c3, a3, i3, tk30, tc30, ta30, hN, hg0, hg1, hg2, hs0, hs1, hs2, hbz, hcz, hlz, hszc, hdz, List.append_nil, AV.sealed, AV.sealedL, c24, i24, tc27, ti27, hf]
end Go.Proofs.YtemggoaefohliaaGreatDoor.PS
/- parse.Take, evaluated whole. Condition: the world outside is closed. -/
namespace Go.Proofs.YtemggoaefohliaaGreatDoor.PS
set_option linter.unusedVariables false
set_option linter.unusedSimpArgs false
open Go AE EX PT NF LX
set_option maxRecDepth 100000

theorem fin_take (S0 : St) (l : List Tk) (x : X) (k : Int) (q : Nat) : finish S0 (.tup [x.emb, .int .i64 k, .nilif]) (TSt S0 l x k .nilif q []) = some (.tup [x.emb, .int .i64 k, .nilif], S0) := by
  have h1 := sealed_emb x
  have h2 := strip_emb S0.T.length x
  have h3 := low_emb S0.H.length S0.T.length x
  have h4 : (TSt S0 l x k .nilif q []).H.take S0.H.length = S0.H := by simp [TSt]
  have h5 : (TSt S0 l x k .nilif q []).T = S0.T := rfl
  unfold finish
  simp [AV.sealed, AV.sealedL, AV.strip, AV.stripL, AV.low, AV.lowL, h1, h2, h3, h4, h5, boxEqL_refl]
theorem fin_hi3 {S S' : St} {id : Nat} (h : S.H.length ≤ id) (w u : AV) (h1 : w.sealed = true) (h2 : u.sealed = true) : finish S (.tup [w, u, .iface 78 (.ptr id 0)]) S' = some (.tup [w, u, .iface 78 (.ptr id 0)], S') := by
  unfold finish
  have : ¬ id < S.H.length := by omega
  simp [AV.sealed, AV.sealedL, AV.strip, AV.stripL, AV.low, AV.lowL, this, h1, h2]

/-- what Take hands back -/
def takeAns (S0 : St) (l : List Tk) : Option (Res × St) :=
  match takeR l with
  | .ok (x, q) => some (.ret (.tup [x.emb, .int .i64 q, .nilif]), S0)
  | .error (c, p) => some (.ret (.tup [zX.emb, .int .i64 0, .iface 78 (.ptr (S0.H.length + 4) 0)]),
      TSt S0 l zX 0 (.iface 78 (.ptr (S0.H.length + 4) 0)) p [⟨81, [.int .i64 c, .int .i64 (hereT l p).p, .nilif]⟩])

set_option maxHeartbeats 8000000 in
theorem ev_Take (n : Nat) (S0 : St) (l : List Tk) (hl : l.length ≤ 2000000) (hw : lowB S0.H.length S0.T.length S0.H = true) (hn : l.length + 710 ≤ n) :
    ev Tryz.prog E (n + 5) 10 [.slice (tkL l) .non] S0 = takeAns S0 l := by
  have hE4 : TSt S0 l zX 0 .nilif 0 [] = PSt (S0.H ++ TB l zX 0 .nilif 0) S0.T (S0.H.length + 3) l 0 0 := (TSt_eq S0 l 0).symm
  have hA := any_all S0.T l hl (S0.H ++ TB l zX 0 .nilif 0) (S0.H.length + 3) (by simp [TB]) (wf4 hw l) (n + 4) (by omega)
  rw [← hE4] at hA
  rw [show n + 5 = (n + 4) + 1 from rfl, ev_enterD (n := n + 4) (show E.ok 10 = true from rfl) (show E.dfr 10 = true from rfl) Tryz.func10 (fn := Tryz.f10) (c := bodyOf Tryz.f10) rfl cut15 (Nat.le_of_ble_eq_true rfl) (by decide +kernel)]
  obtain ⟨fs1, e1, q2, q3, q4, q5, qS⟩ : ∃ fs1, evCode ⟨Tryz.prog, E.esc 10, n + 4⟩ (ev Tryz.prog E (n + 4)) (E.ps 10) (n + 4) (.seq r015 (.seq r115 .skip)) ⟨argsA [.slice (tkL l) .non], fun _ => (0, []), 0, S0⟩ = some (.norm, fs1) ∧ fs1.t 2 = .ptr S0.H.length 0 ∧ fs1.t 3 = .ptr (S0.H.length + 1) 0 ∧ fs1.t 4 = .ptr (S0.H.length + 2) 0 ∧ fs1.t 5 = .ptr (S0.H.length + 3) 0 ∧ fs1.S = TSt S0 l zX 0 .nilif 0 [] := by
    have hst := sealed_tkL l
    have hTB : TSt S0 l zX 0 .nilif 0 [] = ⟨S0.H ++ [⟨25, z6⟩] ++ [⟨3, [.int .i64 0]⟩] ++ [⟨27, [.nilif]⟩] ++ [⟨63, [.slice (tkL l) .non, .int .i64 0, .int .i64 0]⟩], S0.T⟩ := by
      simp [TSt, TB, zX_cells, box]
    have hbd : evBuild Tryz.prog 63 [(0, .slice (tkL l) .non)] = some (.agg [.slice (tkL l) .non, .int .i64 0, .int .i64 0]) := by
      simp [evBuild, tp66, tz66, fillA, tl66_0, AV.cells?, wrc]
    have hz3 : zeroQ Tryz.prog 3 = some [.int .i64 0] := by kernel_rfl
    have hz25 : zeroQ Tryz.prog 25 = some z6 := by kernel_rfl
    have hsz : AV.sealedL z6 = true := rfl
    generalize tkL l = es at *
    rw [hTB]
    generalize z6 = z at *
    refine ⟨_, by
      simp (disch := first | (simp only [List.length_append, List.length_cons, List.length_nil]; omega) | (simp; done) | assumption) [AV.cells?, AV.isCell, -evBuild, r015, r115, cutC, bodyOf, Tryz.f10, esc15, hz3, hz25, tz27, hsz, AV.sealed, AV.sealedL, hst, hbd]
      rfl, by simp [upd, putA], by simp [upd, putA], by simp [upd, putA], by simp [upd, putA], by simp⟩
  rw [e1]
  clear e1
  obtain ⟨t, b, c, S⟩ := fs1
  simp only at q2 q3 q4 q5 qS
  subst qS
  have hsq : seqA ⟨Tryz.prog, E.esc 10, n + 4⟩ (ev Tryz.prog E (n + 4)) O15 (List.range (O15.size - 1)) ⟨t, b, c, TSt S0 l zX 0 .nilif 0 []⟩ = some (.ok ⟨upd 9 (.fn 26 [] [.ptr S0.H.length 0, .ptr (S0.H.length + 1) 0, .ptr (S0.H.length + 2) 0]) t, b, c, TSt S0 l zX 0 .nilif 0 []⟩ .non) := by
    have hr : List.range (O15.size - 1) = [0] := rfl
    have ho0 : ∃ o, O15[0]? = some o ∧ o.guard = none ∧ o.dst = some 9 ∧ o.op = .makeFunc (.func 26) #[] #[.tmp 2, .tmp 3, .tmp 4] := ⟨_, rfl, rfl, rfl, rfl⟩
    obtain ⟨o, o1, o2, o3, o4⟩ := ho0
    rw [hr]
    simp only [seqA, o1, stepA, o2, wantedA, evOp, o4, o3, putA, rhoL, rho, q2, q3, q4, List.map_nil, List.map_cons]
  have hsz : O15.size = 2 := rfl
  simp only [hsq]
  simp only [rho, upd, if_true, hsz]
  unfold takeAns
  cases hR : takeR l with
  | ok r =>
    obtain ⟨x, q⟩ := r
    rw [hR, ansX_ok] at hA
    have hq : PSt (S0.H ++ TB l zX 0 .nilif 0) S0.T (S0.H.length + 3) l q 0 = TSt S0 l zX 0 .nilif q [] := TSt_eq S0 l q
    rw [hq] at hA
    have hD := ev26n (n + 2) S0 l x q .nilif q
    have hB : ∃ fs2, evCode ⟨Tryz.prog, E.esc 10, n + 4⟩ (ev Tryz.prog E (n + 4)) (E.ps 10) (n + 4) B15 ⟨upd 9 (.fn 26 [] [.ptr S0.H.length 0, .ptr (S0.H.length + 1) 0, .ptr (S0.H.length + 2) 0]) t, b, c + 2, TSt S0 l zX 0 .nilif 0 []⟩ = some (.ret, fs2) ∧ fs2.t 2 = .ptr S0.H.length 0 ∧ fs2.t 3 = .ptr (S0.H.length + 1) 0 ∧ fs2.t 4 = .ptr (S0.H.length + 2) 0 ∧ fs2.S = TSt S0 l x q .nilif q [] := by
      have g0 := TSt_get0 S0 l zX 0 .nilif q []
      have g0' := TSt_get0 S0 l x 0 .nilif q []
      have g3' := TSt_get3 S0 l x 0 .nilif q []
      have g1' := TSt_get1 S0 l x 0 .nilif q []
      have g2' := TSt_get2 S0 l x q .nilif q []
      have s0 := TSt_set0 S0 l zX x 0 .nilif q []
      have s0' := TSt_set0 S0 l x x 0 .nilif q []
      have s1 := TSt_set1 S0 l x 0 q .nilif q []
      have s2 := TSt_set2 S0 l x q .nilif .nilif q []
      have hps : E.ps 10 4 = [(0, 4), (4, 5)] := rfl
      have hlz : zX.cells.length = 6 := xlen zX
      have hdz : List.drop 6 zX.cells = [] := rfl
      have hcx := xcells x
      have hlx := xlen x
      have htx := xtake x
      have hex := xemb x
      have hdx : List.drop 6 x.cells = [] := List.drop_eq_nil_of_le (by rw [hlx]; omega)
      have hsx : AV.sealedL x.cells = true := by have := sealed_emb x; rw [emb_cells] at this; simpa [AV.sealed] using this
      generalize TSt S0 l x q .nilif q [] = L5 at *
      generalize TSt S0 l x 0 .nilif q [] = L4 at *
      generalize TSt S0 l zX 0 .nilif q [] = L3 at *
      generalize TSt S0 l zX 0 .nilif 0 [] = L2 at *
      generalize zX.cells = zc at *
      generalize x.cells = xc at *
      generalize x.emb = xe at *
      generalize tkL l = es at *
      refine ⟨_, by
        simp (disch := first | (simp only [List.length_append, List.length_cons, List.length_nil]; omega) | (simp; done) | assumption) [AV.cells?, AV.isCell, -AV.cells?, cq_int, cq_nilif, B15, cutC, bodyOf, Tryz.f10, esc15, q2, q3, q4, q5, hA, g0, g0', g3', g1', g2', s0, s0', s1, s2, hps, hlz, hdz, hcx, hlx, htx, hex, hdx, hsx, List.append_nil, c24, a24, k24, i24, tq66_1, tk66, k3, c3, a3, i3, tk27, tc27, ta27, ti27, AV.sealed, AV.sealedL, ofC]
        rfl, by simp [upd, putA, q2], by simp [upd, putA, q3], by simp [upd, putA, q4], rfl⟩
    obtain ⟨⟨t2, b2, c2, S2⟩, r1, w2, w3, w4, wS⟩ := hB
    simp only at w2 w3 w4 wS
    subst wS
    rw [r1]
    have hD' := ev26n (n + 2) S0 l x q .nilif q
    simp only [fromD, List.nil_append, rhoL, List.map_nil, hD']
    have g0 := TSt_get0 S0 l x q .nilif q []
    have g1 := TSt_get1 S0 l x q .nilif q []
    have g2 := TSt_get2 S0 l x q .nilif q []
    have hf := fin_take S0 l x q q
    have hrs : Tryz.f10.results.toList = [.cell 2 25, .cell 3 3, .cell 4 27] := rfl
    have hlx := xlen x
    have htx := xtake x
    have hex := xemb x
    generalize TSt S0 l x q .nilif q [] = L5 at *
    generalize x.cells = xc at *
    generalize x.emb = xe at *
    simp (disch := first | (simp only [List.length_append, List.length_cons, List.length_nil]; omega) | (simp; done) | assumption) [AV.cells?, AV.isCell, -AV.cells?, hrs, w2, w3, w4, g0, g1, g2, hlx, htx, hex, hf, c24, a24, k24, k3, c3, a3, tk27, tc27, ta27]
  | error e =>
    obtain ⟨c', p⟩ := e
    rw [hR, ansX_err] at hA
    have hq : PSt (S0.H ++ TB l zX 0 .nilif 0) S0.T (S0.H.length + 3) l p 0 = TSt S0 l zX 0 .nilif p [] := TSt_eq S0 l p
    rw [hq] at hA
    have hB : ∃ fs2, evCode ⟨Tryz.prog, E.esc 10, n + 4⟩ (ev Tryz.prog E (n + 4)) (E.ps 10) (n + 4) B15 ⟨upd 9 (.fn 26 [] [.ptr S0.H.length 0, .ptr (S0.H.length + 1) 0, .ptr (S0.H.length + 2) 0]) t, b, c + 2, TSt S0 l zX 0 .nilif 0 []⟩ = some (.pan (stopV (hereT l) c' p), fs2) ∧ fs2.t 2 = .ptr S0.H.length 0 ∧ fs2.t 3 = .ptr (S0.H.length + 1) 0 ∧ fs2.t 4 = .ptr (S0.H.length + 2) 0 ∧ fs2.S = TSt S0 l zX 0 .nilif p [] := by
      generalize TSt S0 l zX 0 .nilif p [] = L3 at *
      generalize TSt S0 l zX 0 .nilif 0 [] = L2 at *
      generalize tkL l = es at *
      generalize stopV (hereT l) c' p = sv at *
      refine ⟨_, by
        simp (disch := first | (simp only [List.length_append, List.length_cons, List.length_nil]; omega) | (simp; done) | assumption) [AV.cells?, AV.isCell, -AV.cells?, cq_int, cq_nilif, B15, cutC, bodyOf, Tryz.f10, esc15, q2, q3, q4, q5, hA]
        rfl, by simp [upd, putA, q2], by simp [upd, putA, q3], by simp [upd, putA, q4], rfl⟩
    obtain ⟨⟨t2, b2, c2, S2⟩, r1, w2, w3, w4, wS⟩ := hB
    simp only at w2 w3 w4 wS
    subst wS
    rw [r1]
    have hD' := ev26p (n + 2) S0 l p c' (hereT l p).p
    have hsv : stopV (hereT l) c' p = .iface 65 (.agg [.int .i64 c', .int .i64 (hereT l p).p]) := rfl
    rw [hsv]
    simp only [fromD, List.nil_append, rhoL, List.map_nil, hD']
    have g0 := TSt_get0 S0 l zX 0 (.iface 78 (.ptr (S0.H.length + 4) 0)) p [⟨81, [.int .i64 c', .int .i64 (hereT l p).p, .nilif]⟩]
    have g1 := TSt_get1 S0 l zX 0 (.iface 78 (.ptr (S0.H.length + 4) 0)) p [⟨81, [.int .i64 c', .int .i64 (hereT l p).p, .nilif]⟩]
    have g2 := TSt_get2 S0 l zX 0 (.iface 78 (.ptr (S0.H.length + 4) 0)) p [⟨81, [.int .i64 c', .int .i64 (hereT l p).p, .nilif]⟩]
    have hf := fin_hi3 (S := S0) (S' := TSt S0 l zX 0 (.iface 78 (.ptr (S0.H.length + 4) 0)) p [⟨81, [.int .i64 c', .int .i64 (hereT l p).p, .nilif]⟩]) (show S0.H.length ≤ S0.H.length + 4 by omega) zX.emb (.int .i64 0) (sealed_emb _) rfl
    have hrs : Tryz.f10.results.toList = [.cell 2 25, .cell 3 3, .cell 4 27] := rfl
    have hlx := xlen zX
    have htx := xtake zX
    have hex := xemb zX
    generalize TSt S0 l zX 0 (.iface 78 (.ptr (S0.H.length + 4) 0)) p [⟨81, [.int .i64 c', .int .i64 (hereT l p).p, .nilif]⟩] = L5 at *
    generalize zX.cells = xc at *
    generalize zX.emb = xe at *
    simp (disch := first | (simp only [List.length_append, List.length_cons, List.length_nil]; omega) | (simp; done) | assumption) [AV.cells?, AV.isCell, -AV.cells?, hrs, w2, w3, w4, g0, g1, g2, hlx, htx, hex, hf, c24, a24, k24, k3, c3, a3, tk27, tc27, ta27]
end Go.Proofs.YtemggoaefohliaaGreatDoor.PS
/- fault.Code, Place, Wrap, evaluated. No condition. -/
namespace Go.Proofs.YtemggoaefohliaaGreatDoor.PS
set_option linter.unusedVariables false
set_option linter.unusedSimpArgs false
open Go AE EX PT NF LX
set_option maxRecDepth 100000

theorem esc9 (d : Nat) : E.esc 18 d = (d == 3) := by simp [E]
theorem esc13 (d : Nat) : E.esc 19 d = (d == 3) := by simp [E]
theorem esc16 (d : Nat) : E.esc 21 d = (d == 13) := by simp [E]
theorem ev_As (n : Nat) (args : List AV) (S : St) : ev Tryz.prog E (n + 1) 44 args S = asX args S := by
  have h : ev Tryz.prog E (n + 1) 44 args S = (if E.ok 44 then (if E.dfr 44 then evFuncD Tryz.prog E (ev Tryz.prog E n) (evd Tryz.prog E n) n 44 args S else evFunc Tryz.prog E (ev Tryz.prog E n) n 44 args S) else E.ext 44 args S) := rfl
  rw [h]
  rfl
theorem fin_low {S : St} (H1 : List HBox) (v : AV) (h1 : v.sealed = true) (h2 : v.strip S.T.length = v) (h3 : v.low S.H.length S.T.length = true) : finish S v ⟨S.H ++ H1, S.T⟩ = some (v, S) := by
  unfold finish
  simp [h1, h2, h3, boxEqL_refl]

theorem ev_Code (n : Nat) (S : St) (id : Nat) (c a : Int) (e : AV) (h : S.H[id]? = some ⟨81, [.int .i64 c, .int .i64 a, e]⟩) :
    ev Tryz.prog E (n + 2) 18 [.iface 78 (.ptr id 0)] S = some (.ret (.int .i64 c), S) := by
  have hid : id < S.H.length := (List.getElem?_eq_some_iff.1 h).1
  have hid' : S.H[id] = ⟨81, [.int .i64 c, .int .i64 a, e]⟩ := (List.getElem?_eq_some_iff.1 h).2
  have hA : ev Tryz.prog E (n + 1) 44 [.iface 78 (.ptr id 0), .iface 77 (.ptr S.H.length 0)] ⟨S.H ++ [⟨48, [.int .i64 0]⟩], S.T⟩ = some (.ret (.bool true), ⟨S.H ++ [⟨48, [.int .i64 c]⟩], S.T⟩) := by
    rw [ev_As]
    have h1 : (S.H ++ [(⟨48, [.int .i64 0]⟩ : HBox)])[id]? = some ⟨81, [.int .i64 c, .int .i64 a, e]⟩ := by rw [List.getElem?_append_left hid]; exact h
    have h2 : (S.H ++ [(⟨48, [.int .i64 0]⟩ : HBox)])[S.H.length]? = some ⟨48, [.int .i64 0]⟩ := by simp
    simp only [asX, h1, h2]
    simp
  have hz30 : zeroQ Tryz.prog 48 = some [.int .i64 0] := by kernel_rfl
  have hf := fin_low (S := S) [⟨48, [.int .i64 c]⟩] (.int .i64 c) rfl rfl rfl
  have hg : (S.H ++ [(⟨48, [.int .i64 c]⟩ : HBox)])[S.H.length]? = some ⟨48, [.int .i64 c]⟩ := by simp
  rw [show n + 2 = (n + 1) + 1 from rfl, ev_enter (n := n + 1) (show E.ok 18 = true from rfl) Tryz.func18 (fn := Tryz.f18) rfl (Nat.le_of_ble_eq_true rfl) (by decide +kernel)]
  simp (disch := first | (simp only [List.length_append, List.length_cons, List.length_nil]; omega) | (simp; done) | assumption) [AV.cells?, AV.isCell, Tryz.f18, esc9, hz30, tn51, hA, hg, hf, tk30, tc30, ta30, AV.sealed, AV.sealedL]
theorem ev_Code0 (n : Nat) (S : St) : ev Tryz.prog E (n + 2) 18 [.nilif] S = some (.ret (.int .i64 0), S) := by
  have hA : ev Tryz.prog E (n + 1) 44 [.nilif, .iface 77 (.ptr S.H.length 0)] ⟨S.H ++ [⟨48, [.int .i64 0]⟩], S.T⟩ = some (.ret (.bool false), ⟨S.H ++ [⟨48, [.int .i64 0]⟩], S.T⟩) := by
    rw [ev_As]; rfl
  have hz30 : zeroQ Tryz.prog 48 = some [.int .i64 0] := by kernel_rfl
  have hf := fin_low (S := S) [⟨48, [.int .i64 0]⟩] (.int .i64 0) rfl rfl rfl
  rw [show n + 2 = (n + 1) + 1 from rfl, ev_enter (n := n + 1) (show E.ok 18 = true from rfl) Tryz.func18 (fn := Tryz.f18) rfl (Nat.le_of_ble_eq_true rfl) (by decide +kernel)]
  simp (disch := first | (simp only [List.length_append, List.length_cons, List.length_nil]; omega) | (simp; done) | assumption) [AV.cells?, AV.isCell, Tryz.f18, esc9, hz30, tn51, hA, hf, tk30, tc30, ta30, AV.sealed, AV.sealedL]
theorem ev_Place (n : Nat) (S : St) (id : Nat) (c a : Int) (e : AV) (h : S.H[id]? = some ⟨81, [.int .i64 c, .int .i64 a, e]⟩) :
    ev Tryz.prog E (n + 2) 19 [.iface 78 (.ptr id 0)] S = some (.ret (.int .i64 a), S) := by
  have hid : id < S.H.length := (List.getElem?_eq_some_iff.1 h).1
  have hA : ev Tryz.prog E (n + 1) 44 [.iface 78 (.ptr id 0), .iface 79 (.ptr S.H.length 0)] ⟨S.H ++ [⟨78, [.nilp]⟩], S.T⟩ = some (.ret (.bool true), ⟨S.H ++ [⟨78, [.ptr id 0]⟩], S.T⟩) := by
    rw [ev_As]
    have h2 : (S.H ++ [(⟨78, [.nilp]⟩ : HBox)])[S.H.length]? = some ⟨78, [.nilp]⟩ := by simp
    simp only [asX, h2]
    simp
  have htr := tr55
  have hz55 : zeroQ Tryz.prog 78 = some [.nilp] := by kernel_rfl
  have hf := fin_low (S := S) [⟨78, [.ptr id 0]⟩] (.int .i64 a) rfl rfl rfl
  have hg : (⟨S.H ++ [⟨78, [.ptr id 0]⟩], S.T⟩ : St).H[S.H.length]? = some ⟨78, [.ptr id 0]⟩ := by simp
  have hg2 : (⟨S.H ++ [⟨78, [.ptr id 0]⟩], S.T⟩ : St).H[id]? = some ⟨81, [.int .i64 c, .int .i64 a, e]⟩ := by simp only; rw [List.getElem?_append_left hid]; exact h
  generalize (⟨S.H ++ [⟨78, [.ptr id 0]⟩], S.T⟩ : St) = S2 at *
  rw [show n + 2 = (n + 1) + 1 from rfl, ev_enter (n := n + 1) (show E.ok 19 = true from rfl) Tryz.func19 (fn := Tryz.f19) rfl (Nat.le_of_ble_eq_true rfl) (by decide +kernel)]
  simp (disch := first | (simp only [List.length_append, List.length_cons, List.length_nil]; omega) | (simp; done) | assumption) [AV.cells?, AV.isCell, Tryz.f19, esc13, hz55, tn56, hA, hg, hg2, hf, tk55, tc55, ta55, tr55, tq58_1, k3, c3, a3, AV.sealed, AV.sealedL, ofC]
theorem ev_Wrap (n : Nat) (S : St) (id : Nat) (c a : Int) : ev Tryz.prog E (n + 1) 21 [.int .i64 c, .int .i64 a, .iface 78 (.ptr id 0)] S = some (.ret (.iface 78 (.ptr S.H.length 0)), ⟨S.H ++ [⟨81, [.int .i64 c, .int .i64 a, .iface 78 (.ptr id 0)]⟩], S.T⟩) := by
  have htf := tf27
  have hbd : evBuild Tryz.prog 81 [(0, .int .i64 c), (1, .int .i64 a), (2, .iface 78 (.ptr id 0))] = some (.agg [.int .i64 c, .int .i64 a, .iface 78 (.ptr id 0)]) := by
    simp [evBuild, tp58, tz58, fillA, tl58_0, tl58_1, tl58_2, AV.cells?, wrc]
  have hf : finish S (.iface 78 (.ptr S.H.length 0)) ⟨S.H ++ [⟨81, [.int .i64 c, .int .i64 a, .iface 78 (.ptr id 0)]⟩], S.T⟩ = some (.iface 78 (.ptr S.H.length 0), ⟨S.H ++ [⟨81, [.int .i64 c, .int .i64 a, .iface 78 (.ptr id 0)]⟩], S.T⟩) := by
    unfold finish
    simp [AV.sealed, AV.strip, AV.low]
  rw [ev_enter (n := n) (show E.ok 21 = true from rfl) Tryz.func21 (fn := Tryz.f21) rfl (Nat.le_of_ble_eq_true rfl) (by decide +kernel)]
  simp (disch := first | (simp only [List.length_append, List.length_cons, List.length_nil]; omega) | (simp; done) | assumption) [AV.cells?, AV.isCell, -evBuild, Tryz.f21, esc16, hbd, tf27, tn55, hf, AV.sealed, AV.sealedL, ofC]
end Go.Proofs.YtemggoaefohliaaGreatDoor.PS
/- parse.Expr, evaluated whole. Condition: the world outside is closed. -/
namespace Go.Proofs.YtemggoaefohliaaGreatDoor.PS
set_option linter.unusedVariables false
set_option linter.unusedSimpArgs false
open Go AE EX PT NF LX
set_option maxRecDepth 100000

/-- a fault stands at id, so many in one another -/
def FaultAt (S : St) : Nat → Nat → Int → Int → Prop
  | 0, id, c, p => S.H[id]? = some ⟨81, [.int .i64 c, .int .i64 p, .nilif]⟩
  | d + 1, id, c, p => ∃ id2 c2 p2, S.H[id]? = some ⟨81, [.int .i64 c, .int .i64 p, .iface 78 (.ptr id2 0)]⟩ ∧ FaultAt S d id2 c2 p2
/-- a text's expression; or its first error's code and place, and whether it is in another one -/
noncomputable def exprR (s : List UInt8) : Except (Int × Int × Nat) X :=
  match lexAll s with
  | .error (c, p) => .error (c, p, 0)
  | .ok l => match takeR l with
    | .error (c, p) => .error (c, (hereT l p).p, 1)
    | .ok (x, q) => if (hereT l q).k = 5 then (if chkX x = 0 then .ok x else .error (chkX x, 0, 0)) else .error (16, (hereT l q).p, 0)

theorem fin_hi2 {S S' : St} {id : Nat} (h : S.H.length ≤ id) : finish S (.tup [zX.emb, .iface 78 (.ptr id 0)]) S' = some (.tup [zX.emb, .iface 78 (.ptr id 0)], S') := fin_hi h _ (sealed_emb _)
theorem fin_ok (S : St) (x : X) : finish S (.tup [x.emb, .nilif]) S = some (.tup [x.emb, .nilif], S) :=
  finish_same (by simp [AV.sealed, AV.sealedL, sealed_emb]) (by simp [AV.strip, AV.stripL, strip_emb]) (by simp [AV.low, AV.lowL, low_emb]) rfl rfl

set_option maxHeartbeats 8000000 in
theorem ev_Expr (n : Nat) (S0 : St) (s : List UInt8) (hs : s.length ≤ 1100000) (hw : lowB S0.H.length S0.T.length S0.H = true) (hn : 1200000 ≤ n) :
    (∀ x, exprR s = .ok x → ev Tryz.prog E (n + 1) 7 [.str s] S0 = some (.ret (.tup [x.emb, .nilif]), S0)) ∧
    (∀ c p d, exprR s = .error (c, p, d) → ∃ id S', S0.H.length ≤ id ∧ ev Tryz.prog E (n + 1) 7 [.str s] S0 = some (.ret (.tup [zX.emb, .iface 78 (.ptr id 0)]), S') ∧ FaultAt S' d id c p ∧ Grows S0 S') := by
  have ez : evBuild Tryz.prog 25 [] = some zX.emb := bXz
  have hz25 : zeroQ Tryz.prog 25 = some z6 := by kernel_rfl
  have zc := xcells zX
  have zl := xlen zX
  have zt := xtake zX
  have ze := xemb zX
  have hti := tf27
  have hsz : AV.sealedL z6 = true := rfl
  have l6 := z6_len
  obtain ⟨hA1, hA2⟩ := ev_All (n - 6) S0 s hs (by omega)
  rw [show n - 6 + 6 = n by omega] at hA1 hA2
  cases hL : lexAll s with
  | error e =>
    obtain ⟨c, p⟩ := e
    have hR : exprR s = .error (c, p, 0) := by unfold exprR; rw [hL]
    rw [hR]
    refine ⟨(fun x h => by cases h), fun c' p' d' h => ?_⟩
    cases h
    obtain ⟨id, S', h1, h2, h3, h4⟩ := hA2 c p hL
    refine ⟨id, S', h1, ?_, h3, h4⟩
    have hf := fin_hi2 (S := S0) (S' := S') h1
    generalize zX.cells = zcs at *
    generalize zX.emb = zem at *
    generalize z6 = z at *
    rw [ev_enter (n := n) (show E.ok 7 = true from rfl) Tryz.func7 (fn := Tryz.f7) rfl (Nat.le_of_ble_eq_true rfl) (by decide +kernel)]
    simp (disch := first | (simp only [List.length_append, List.length_cons, List.length_nil]; omega) | (simp; done) | assumption) [AV.cells?, AV.isCell, -AV.cells?, cq_int, cq_nilif, cq_iface, -evBuild, Tryz.f7, E_esc, hz25, h2, ez, zc, zl, zt, ze, l6, hf, c24, a24, k24, i24, ofC]
  | ok l =>
    have hl := hA1 l hL
    obtain ⟨_, more, e1, e2, e3, e4⟩ := lexAll_shape hL
    have hlen : l.length ≤ 4097 := by rw [e1]; simp; have := (lexAll_shape hL).1; omega
    have hT := ev_Take (n - 5) S0 l (by omega) hw (by omega)
    rw [show n - 5 + 5 = n by omega] at hT
    unfold takeAns at hT
    cases hR2 : takeR l with
    | error e =>
      obtain ⟨c, p⟩ := e
      rw [hR2] at hT
      have hR : exprR s = .error (c, (hereT l p).p, 1) := by unfold exprR; rw [hL]; simp only [hR2]
      rw [hR]
      refine ⟨(fun x h => by cases h), fun c' p' d' h => ?_⟩
      cases h
      simp only at hT
      generalize hp : (hereT l p).p = pl at *
      have g : (TSt S0 l zX 0 (.iface 78 (.ptr (S0.H.length + 4) 0)) p [⟨81, [.int .i64 c, .int .i64 pl, .nilif]⟩]).H[S0.H.length + 4]? = some ⟨81, [.int .i64 c, .int .i64 pl, .nilif]⟩ := by
        simp [TSt, TB]
      have hlen2 : (TSt S0 l zX 0 (.iface 78 (.ptr (S0.H.length + 4) 0)) p [⟨81, [.int .i64 c, .int .i64 pl, .nilif]⟩]).H.length = S0.H.length + 5 := by
        simp [TSt, TB]
      generalize hS1 : TSt S0 l zX 0 (.iface 78 (.ptr (S0.H.length + 4) 0)) p [⟨81, [.int .i64 c, .int .i64 pl, .nilif]⟩] = S1 at *
      have hC := ev_Code (n - 2) S1 _ _ _ _ g
      have hP := ev_Place (n - 2) S1 _ _ _ _ g
      rw [show n - 2 + 2 = n by omega] at hC hP
      have hW := ev_Wrap (n - 1) S1 (S0.H.length + 4) c pl
      rw [show n - 1 + 1 = n by omega, hlen2] at hW
      refine ⟨S0.H.length + 5, ⟨S1.H ++ [⟨81, [.int .i64 c, .int .i64 pl, .iface 78 (.ptr (S0.H.length + 4) 0)]⟩], S1.T⟩, by omega, ?_, ⟨S0.H.length + 4, c, pl, ?_, ?_⟩, ?_⟩
      · have hf := fin_hi2 (S := S0) (S' := ⟨S1.H ++ [⟨81, [.int .i64 c, .int .i64 pl, .iface 78 (.ptr (S0.H.length + 4) 0)]⟩], S1.T⟩) (show S0.H.length ≤ S0.H.length + 5 by omega)
        generalize (⟨S1.H ++ [⟨81, [.int .i64 c, .int .i64 pl, .iface 78 (.ptr (S0.H.length + 4) 0)]⟩], S1.T⟩ : St) = S2 at *
        generalize S0.H.length + 4 = i4 at *
        generalize S0.H.length + 5 = i5 at *
        clear hL hR hR2 hA1 hA2 hS1
        generalize tkL l = es at *
        generalize zX.cells = zcs at *
        generalize zX.emb = zem at *
        generalize z6 = z at *
        rw [ev_enter (n := n) (show E.ok 7 = true from rfl) Tryz.func7 (fn := Tryz.f7) rfl (Nat.le_of_ble_eq_true rfl) (by decide +kernel)]
        simp (disch := first | (simp only [List.length_append, List.length_cons, List.length_nil]; omega) | (simp; done) | assumption) [AV.cells?, AV.isCell, -AV.cells?, cq_int, cq_nilif, cq_iface, -evBuild, Tryz.f7, E_esc, hz25, hl, hT, hC, hP, hW, ez, zc, zl, zt, ze, l6, hf, c24, a24, k24, i24, ofC]
      · simp [hlen2]
      · show (S1.H ++ _)[S0.H.length + 4]? = _
        rw [List.getElem?_append_left (by omega)]
        exact g
      · rw [← hS1]
        exact Grows.push ⟨by simp [TSt], by simp [TSt]⟩ _
    | ok r =>
      obtain ⟨x, q⟩ := r
      rw [hR2] at hT
      simp only at hT
      obtain ⟨hq, hb, _⟩ := take_bound hL hR2
      have hx : l[q]? = some l[q] := List.getElem?_eq_getElem hq
      have hh : hereT l q = l[q] := by simp [hereT, hx]
      have hia := ia l .non q _ hx
      have hE : exprR s = (if (hereT l q).k = 5 then (if chkX x = 0 then .ok x else .error (chkX x, 0, 0)) else .error (16, (hereT l q).p, 0)) := by
        unfold exprR; rw [hL]; simp only [hR2]
      rw [hh] at hE
      have xc := xcells x
      have xl := xlen x
      have xt := xtake x
      have xe := xemb x
      have xd : List.drop 6 x.cells = [] := List.drop_eq_nil_of_le (by rw [xl]; omega)
      generalize l[q] = t at *
      obtain ⟨k, ts, tn, tp⟩ := t
      simp only [Tk.cells] at hia hE
      by_cases h5 : k = 5
      · rw [if_pos h5] at hE
        subst h5
        have hK := ev_aCheckC (n - 1) x (by omega) (by omega) S0
        rw [show n - 1 + 1 = n by omega] at hK
        by_cases hc : chkX x = 0
        · rw [if_pos hc] at hE
          rw [hE]
          refine ⟨fun y h => ?_, fun c p d h => by cases h⟩
          cases h
          rw [hc] at hK
          have hf := fin_ok S0 x
          clear hL hE hR2 hA1 hA2 hx hh
          generalize tkL l = es at *
          generalize x.cells = xcs at *
          generalize x.emb = xem at *
          generalize z6 = z at *
          rw [ev_enter (n := n) (show E.ok 7 = true from rfl) Tryz.func7 (fn := Tryz.f7) rfl (Nat.le_of_ble_eq_true rfl) (by decide +kernel)]
          simp (disch := first | (simp only [List.length_append, List.length_cons, List.length_nil]; omega) | (simp; done) | assumption) [AV.cells?, AV.isCell, -AV.cells?, cq_int, cq_nilif, cq_iface, -evBuild, -evIndexAddr, Tryz.f7, E_esc, hz25, hl, hT, hia, hK, ez, xc, xl, xt, xe, xd, l6, hf, c24, a24, k24, i24, tq46_0, tc46, ta46, tk46, bq3, k3, c3, a3, tb30, ofC]
        · rw [if_neg hc] at hE
          rw [hE]
          refine ⟨(fun y h => by cases h), fun c p d h => ?_⟩
          cases h
          generalize chkX x = cc at *
          have hN := ev_New (n - 1) cc 0 S0
          rw [show n - 1 + 1 = n by omega] at hN
          have hf := fin_hi2 (S := S0) (S' := ⟨S0.H ++ [⟨81, [.int .i64 cc, .int .i64 0, .nilif]⟩], S0.T⟩) (Nat.le_refl _)
          refine ⟨S0.H.length, ⟨S0.H ++ [⟨81, [.int .i64 cc, .int .i64 0, .nilif]⟩], S0.T⟩, Nat.le_refl _, ?_, by simp [FaultAt], ⟨by simp, by simp⟩⟩
          generalize (⟨S0.H ++ [⟨81, [.int .i64 cc, .int .i64 0, .nilif]⟩], S0.T⟩ : St) = S2 at *
          clear hL hE hR2 hA1 hA2 hx hh
          generalize tkL l = es at *
          generalize x.cells = xcs at *
          generalize x.emb = xem at *
          generalize zX.cells = zcs at *
          generalize zX.emb = zem at *
          generalize z6 = z at *
          rw [ev_enter (n := n) (show E.ok 7 = true from rfl) Tryz.func7 (fn := Tryz.f7) rfl (Nat.le_of_ble_eq_true rfl) (by decide +kernel)]
          simp (disch := first | (simp only [List.length_append, List.length_cons, List.length_nil]; omega) | (simp; done) | assumption) [AV.cells?, AV.isCell, -AV.cells?, cq_int, cq_nilif, cq_iface, -evBuild, -evIndexAddr, Tryz.f7, E_esc, hz25, hl, hT, hia, hK, hc, hN, ez, zc, zl, zt, ze, xc, xl, xt, xe, xd, l6, hf, c24, a24, k24, i24, tq46_0, tc46, ta46, tk46, bq3, k3, c3, a3, tb30, ofC]
      · rw [if_neg h5] at hE
        rw [hE]
        refine ⟨(fun y h => by cases h), fun c p d h => ?_⟩
        cases h
        have hN := ev_New (n - 1) 16 tp S0
        rw [show n - 1 + 1 = n by omega] at hN
        have hf := fin_hi2 (S := S0) (S' := ⟨S0.H ++ [⟨81, [.int .i64 16, .int .i64 tp, .nilif]⟩], S0.T⟩) (Nat.le_refl _)
        refine ⟨S0.H.length, ⟨S0.H ++ [⟨81, [.int .i64 16, .int .i64 tp, .nilif]⟩], S0.T⟩, Nat.le_refl _, ?_, by simp [FaultAt], ⟨by simp, by simp⟩⟩
        generalize (⟨S0.H ++ [⟨81, [.int .i64 16, .int .i64 tp, .nilif]⟩], S0.T⟩ : St) = S2 at *
        clear hL hE hR2 hA1 hA2 hx hh
        generalize tkL l = es at *
        generalize x.cells = xcs at *
        generalize x.emb = xem at *
        generalize zX.cells = zcs at *
        generalize zX.emb = zem at *
        generalize z6 = z at *
        rw [ev_enter (n := n) (show E.ok 7 = true from rfl) Tryz.func7 (fn := Tryz.f7) rfl (Nat.le_of_ble_eq_true rfl) (by decide +kernel)]
        simp (disch := first | (simp only [List.length_append, List.length_cons, List.length_nil]; omega) | (simp; done) | assumption) [AV.cells?, AV.isCell, -AV.cells?, cq_int, cq_nilif, cq_iface, -evBuild, -evIndexAddr, Tryz.f7, E_esc, hz25, hl, hT, hia, h5, hN, ez, zc, zl, zt, ze, xc, xl, xt, xe, xd, l6, hf, c24, a24, k24, i24, tq46_0, tq46_3, tc46, ta46, tk46, bq3, k3, c3, a3, ofC]
end Go.Proofs.YtemggoaefohliaaGreatDoor.PS
/- What a text that has an expression is; alike, of itself. Condition: the world outside is closed. -/
namespace Go.Proofs.YtemggoaefohliaaGreatDoor.PS
set_option linter.unusedVariables false
set_option linter.unusedSimpArgs false
open Go AE EX PT NF LX
set_option maxRecDepth 100000

mutual
theorem same_refl : ∀ x : X, x.same x = true
  | .mk k nm n lo hi tk ks => by
    have := sameL_refl ks
    simp [X.same, this]
theorem sameL_refl : ∀ l : List X, sameL l l = true
  | [] => rfl
  | x :: l => by
    have h1 := same_refl x
    have h2 := sameL_refl l
    simp [sameL, h1, h2]
end
/-- what a text that has an expression is -/
theorem expr_parts {s : List UInt8} {x : X} (h : exprR s = .ok x) : ∃ l q, lexAll s = .ok l ∧ takeR l = .ok (x, q) ∧ (hereT l q).k = 5 ∧ chkX x = 0 ∧ q < l.length ∧ x.bulk ≤ 62000 := by
  unfold exprR at h
  cases hL : lexAll s with
  | error e => obtain ⟨c, p⟩ := e; rw [hL] at h; cases h
  | ok l =>
    rw [hL] at h
    simp only at h
    cases hT : takeR l with
    | error e => obtain ⟨c, p⟩ := e; rw [hT] at h; cases h
    | ok r =>
      obtain ⟨y, q⟩ := r
      rw [hT] at h
      simp only at h
      split at h
      · rename_i h5
        split at h
        · rename_i h0
          cases h
          obtain ⟨b1, b2, _⟩ := take_bound hL hT
          exact ⟨l, q, rfl, hT, h5, h0, b1, b2⟩
        · cases h
      · cases h
end Go.Proofs.YtemggoaefohliaaGreatDoor.PS
/- An expression's text, lexed and parsed, is that expression. No condition. -/
namespace Go.Proofs.YtemggoaefohliaaGreatDoor.LX
set_option linter.unusedVariables false
set_option linter.unusedSimpArgs false
open Go AE EX PT NF PS
set_option maxRecDepth 100000

theorem depL_mem {x : X} : ∀ {l : List X}, x ∈ l → x.dep ≤ depL l
  | y :: l, h => by
    simp only [depL]
    rcases List.mem_cons.1 h with rfl | h
    · split <;> omega
    · have := depL_mem h
      split <;> omega
theorem one_sign {h : Nat → Tk} {F k p : Nat} {s : List UInt8} {rest : List WD} (ha : At h p ((4, s, 0) :: rest)) : oneF h F (k + 1) p = signedP h F (oneF h F k) (anyP h F (oneF h F k)) p := by
  have hk := ha.1.1
  simp only at hk
  simp [oneF, hk]
theorem one_name {h : Nat → Tk} {F k p : Nat} {s : List UInt8} {rest : List WD} (ha : At h p ((1, s, 0) :: rest)) : oneF h F (k + 1) p = namedP h (oneF h F k) (anyP h F (oneF h F k)) p := by
  have hk := ha.1.1
  simp only at hk
  simp [oneF, hk]
theorem same_leaf {k : Int} {nm : List UInt8} {n lo hi n' hi' : Int} {tk : Bool} {nm' : List UInt8} (h1 : nm' = nm) (h2 : n' = n) (h3 : lo = 0) (h4 : hi' = hi) : (leafX k nm' n' hi').same (.mk k nm n lo hi tk []) = true := by
  subst h1 h2 h3 h4
  simp [leafX, X.same, sameL]
set_option maxHeartbeats 4000000 in
theorem leaf_at {k : Int} {nm : List UInt8} {n lo hi : Int} {tk : Bool} (hk : isLeaf k) (hf : Fits k nm n lo hi) {h : Nat → Tk} {F d p : Nat} {rest : List WD} (ha : At h p (leafW k nm n hi ++ rest)) :
    ∃ y, y.same (.mk k nm n lo hi tk []) = true ∧ oneF h F (d + 1) p = .ok (y, p + (leafW k nm n hi).length) := by
  rcases hk with rfl | rfl | rfl | rfl | rfl | rfl | rfl | rfl
  · obtain ⟨⟨g1, g2, g3⟩, _⟩ := ha
    exact ⟨leafX 1 [] (h p).n 0, same_leaf (hf.none (by omega)).symm g3 (hf.zero (by omega)).1 (hf.zero (by omega)).2.symm, by rw [oneF, if_pos g1]; rfl⟩
  · have h0 := hf.bool rfl
    have ha' : At h p ((1, if n = 0 then [102, 97, 108, 115, 101] else [116, 114, 117, 101], 0) :: rest) := ha
    refine ⟨leafX 2 [] n 0, same_leaf (hf.none (by omega)).symm rfl (hf.zero (by omega)).1 (hf.zero (by omega)).2.symm, ?_⟩
    rw [one_name ha']
    simp only [namedP, is_at ha']
    rcases h0 with rfl | rfl <;> rfl
  · obtain ⟨⟨g1, g2, g3⟩, _⟩ := ha
    have g1' : (h p).k = 3 := g1
    exact ⟨leafX 3 (h p).s 0 0, same_leaf g2 (hf.num (by omega) (by omega)).symm (hf.zero (by omega)).1 (hf.zero (by omega)).2.symm, by rw [oneF, if_neg (by rw [g1']; decide), if_pos g1']; rfl⟩
  · have ha' : At h p ((1, [115], 0) :: (4, [46], 0) :: (1, nm, 0) :: rest) := ha
    obtain ⟨t, t1, t2, _⟩ := take_at ha'.tail.tail
    refine ⟨leafX 5 t.s 0 0, same_leaf t2 (hf.num (by omega) (by omega)).symm (hf.zero (by omega)).1 (hf.zero (by omega)).2.symm, ?_⟩
    rw [one_name ha']
    simp only [namedP, is_at ha']
    show attrP h 5 (p + 1) = _
    simp only [attrP, need_at (s := [46]) (by decide) ha'.tail, th_ok, t1]
    rfl
  · have ha' : At h p ((1, [111], 0) :: (4, [46], 0) :: (1, nm, 0) :: rest) := ha
    obtain ⟨t, t1, t2, _⟩ := take_at ha'.tail.tail
    refine ⟨leafX 6 t.s 0 0, same_leaf t2 (hf.num (by omega) (by omega)).symm (hf.zero (by omega)).1 (hf.zero (by omega)).2.symm, ?_⟩
    rw [one_name ha']
    simp only [namedP, is_at ha']
    show attrP h 6 (p + 1) = _
    simp only [attrP, need_at (s := [46]) (by decide) ha'.tail, th_ok, t1]
    rfl
  · have ha' : At h p ((1, [110, 111, 119], 0) :: rest) := ha
    refine ⟨leafX 7 [] 0 0, same_leaf (hf.none (by omega)).symm (hf.num (by omega) (by omega)).symm (hf.zero (by omega)).1 (hf.zero (by omega)).2.symm, ?_⟩
    rw [one_name ha']
    simp only [namedP, is_at ha']
    rfl
  · have ha' : At h p ((1, [116, 105, 109, 101, 115], 0) :: (4, [40], 0) :: (1, nm, 0) :: (4, [44], 0) :: (2, dec hi, hi) :: (4, [41], 0) :: rest) := ha
    obtain ⟨t, t1, t2, _⟩ := take_at ha'.tail.tail
    obtain ⟨u, u1, _, u2⟩ := take_at ha'.tail.tail.tail.tail
    refine ⟨leafX 13 t.s 0 u.n, same_leaf t2 (hf.num (by omega) (by omega)).symm (hf.times rfl).1 u2, ?_⟩
    rw [one_name ha']
    simp only [namedP, is_at ha']
    show timesP h (p + 1) = _
    simp only [timesP, need_at (s := [40]) (by decide) ha'.tail, th_ok, t1, need_at (s := [44]) (by decide) ha'.tail.tail.tail, u1, need_at (s := [41]) (by decide) ha'.tail.tail.tail.tail.tail]
    rfl
  · have ha' : At h p ((1, [97, 99, 116], 0) :: (4, [40], 0) :: (1, nm, 0) :: (4, [41], 0) :: rest) := ha
    obtain ⟨t, t1, t2, _⟩ := take_at ha'.tail.tail
    refine ⟨leafX 21 t.s 0 0, same_leaf t2 (hf.num (by omega) (by omega)).symm (hf.zero (by omega)).1 (hf.zero (by omega)).2.symm, ?_⟩
    rw [one_name ha']
    simp only [namedP, is_at ha']
    show actP h (p + 1) = _
    simp only [actP, need_at (s := [40]) (by decide) ha'.tail, th_ok, t1, need_at (s := [41]) (by decide) ha'.tail.tail.tail]
    rfl
theorem toks_leaf {k : Int} (hk : isLeaf k) (nm : List UInt8) (n lo hi : Int) (tk : Bool) : (X.mk k nm n lo hi tk []).toks = leafW k nm n hi := by
  rcases hk with rfl | rfl | rfl | rfl | rfl | rfl | rfl | rfl <;> rfl
set_option maxHeartbeats 4000000 in
theorem one_at : ∀ (m : Nat) (x : X), x.size ≤ m → MayAll x → ∀ (h : Nat → Tk) (F d p : Nat) (rest : List WD), x.dep ≤ d → x.toks.length < F → At h p (x.toks ++ rest) →
    ∃ y, y.same x = true ∧ oneF h F d p = .ok (y, p + x.toks.length)
  | 0, x, hm, _ => by have := size_pos x; omega
  | m + 1, .mk k nm n lo hi tk kids, hm, hmay => by
    intro h F d p rest hd hF ha
    obtain ⟨hf, hs⟩ := may_shape hmay
    simp only [X.size] at hm
    have hd1 : 1 ≤ (X.mk k nm n lo hi tk kids).dep := by simp only [X.dep]; split <;> omega
    obtain ⟨d, rfl⟩ : ∃ e, d = e + 1 := ⟨d - 1, by omega⟩
    have hdk : k ≠ 4 → ∀ x ∈ kids, x.dep ≤ d := fun h4 x hx => by
      have := depL_mem hx
      have e : (k == 4) = false := by simp [h4]
      simp only [X.dep, e, Bool.false_eq_true, if_false] at hd
      omega
    have hsz : ∀ x ∈ kids, x.size ≤ m := fun x hx => by have := sizeL_mem hx; omega
    rcases hs with ⟨rfl, hset⟩ | ⟨hk, rfl⟩ | ⟨hk, a, rfl, ham⟩ | ⟨hk, a, b, rfl, ham, hbm⟩ | ⟨rfl, a, b, rfl, ham, hbm⟩
    · have ht : (X.mk 4 nm n lo hi tk kids).toks = (4, [123], 0) :: joinW (toksL kids) ++ [(4, [125], 0)] := rfl
      rw [ht] at ha hF ⊢
      have ha' : At h p ((4, [123], 0) :: (joinW (toksL kids) ++ (4, [125], 0) :: rest)) := by simpa using ha
      have hS : oneF h F (d + 1) p = setP h F (p + 1) := by
        rw [one_sign ha']
        simp only [signedP, is_at ha']
        rfl
      rw [hS]
      have hnm := hf.none (by omega)
      have hn := hf.num (by omega) (by omega)
      have hlh := hf.zero (by omega)
      obtain ⟨rfl, rfl⟩ := hlh
      subst hnm hn
      cases kids with
      | nil =>
        have i1 : isB h (p + 1) [125] = true := by rw [is_at (w := (4, [125], 0)) (rest := rest) ha'.tail]; decide
        exact ⟨leafX 4 [] 0 0, by simp [leafX, X.same, sameL], by simp only [setP, i1, if_true]; rfl⟩
      | cons y ys =>
        obtain ⟨nm', tk', hy, hp', _⟩ := hset.2 0 (by simp)
        have a1 := ha'.tail
        have i1 : isB h (p + 1) [125] = false := by
          simp at hy
          subst hy
          have a2 : At h (p + 1) ((3, nm', 0) :: (joinTailW (toksL ys) ++ (4, [125], 0) :: rest)) := by simpa [toksL, joinW, X.toks, leafW] using a1
          rw [is_at a2]; rfl
        simp only [List.length_append, List.length_cons, List.length_nil] at hF
        have hl8 := toks_len (y :: ys)
        obtain ⟨zs, z1, z2, z3⟩ := set_at [] (y :: ys) F (p + 1) rest (by simpa using hset) (by simp) (by omega) (by simp) a1
        refine ⟨setX zs, ?_, ?_⟩
        · have hl : (zs.length == (y :: ys).length) = true := by simp [z2]
          simp only [setX, X.same, z1, hl]
          simp
        · simp only [setP, i1, Bool.false_eq_true, if_false, z3, List.nil_append]
          simp; omega
    · rw [toks_leaf hk] at ha ⊢
      exact leaf_at hk hf ha
    · have hj : joinW (toksL [a]) = a.toks := by simp [toksL, joinW, joinTailW]
      have hda := hdk (by unfold k1 at hk; omega) a (by simp)
      have hsa := hsz a (by simp)
      have hnm := hf.none (by unfold k1 at hk; omega)
      have hn := hf.num (by unfold k1 at hk; omega) (by unfold k1 at hk; omega)
      have sm : ∀ (k lo hi : Int) (y : X), y.same a = true → (X.mk k [] 0 lo hi true [y]).same (.mk k [] 0 lo hi tk [a]) = true := fun k lo hi y hy => by simp [X.same, sameL, hy]
      subst hnm hn
      have arg : ∀ (q : Nat), a.toks.length < F → At h q ((4, [40], 0) :: a.toks ++ (4, [41], 0) :: rest) → ∃ y, y.same a = true ∧ argP h (anyP h F (oneF h F d)) q = .ok (y, q + 1 + a.toks.length + 1) := fun q hFa hq => by
        obtain ⟨y, y1, y2⟩ := one_at m a hsa ham h F d (q + 1) ((4, [41], 0) :: rest) hda hFa hq.tail
        exact ⟨y, y1, arg_at hq (any_cl y2 (by omega) (cl_at (At_app.1 hq.tail).2 (by decide)))⟩
      rcases hk with rfl | rfl | rfl | rfl | rfl | rfl
      · have ht : (X.mk 11 [] 0 lo hi tk [a]).toks = (4, [45], 0) :: joinW (toksL [a]) := rfl
        obtain ⟨rfl, rfl⟩ := hf.zero (by omega)
        rw [ht, hj] at ha hF ⊢
        simp only [List.length_cons] at hF
        obtain ⟨y, y1, y2⟩ := one_at m a hsa ham h F d (p + 1) rest hda (by omega) ha.tail
        refine ⟨oneX 11 y, sm 11 0 0 y y1, ?_⟩
        have ha' : At h p ((4, [45], 0) :: (a.toks ++ rest)) := ha
        rw [one_sign ha']
        simp only [signedP, is_at ha']
        show PR.th (oneF h F d (p + 1)) _ = _
        rw [y2]
        simp [th_ok]; omega
      · have ht : (X.mk 12 [] 0 lo hi tk [a]).toks = (1, [108, 101, 110], 0) :: (4, [40], 0) :: joinW (toksL [a]) ++ [(4, [41], 0)] := rfl
        obtain ⟨rfl, rfl⟩ := hf.zero (by omega)
        rw [ht, hj] at ha hF ⊢
        simp only [List.length_append, List.length_cons] at hF
        have ha' : At h p ((1, [108, 101, 110], 0) :: ((4, [40], 0) :: a.toks ++ (4, [41], 0) :: rest)) := by simpa using ha
        obtain ⟨y, y1, y2⟩ := arg (p + 1) (by omega) ha'.tail
        refine ⟨oneX 12 y, sm 12 0 0 y y1, ?_⟩
        rw [one_name ha']
        simp only [namedP, is_at ha']
        show PR.th (argP h _ (p + 1)) _ = _
        rw [y2]
        simp [th_ok]; omega
      · have ht : (X.mk 18 [] 0 lo hi tk [a]).toks = (1, [110, 111, 116], 0) :: joinW (toksL [a]) := rfl
        obtain ⟨rfl, rfl⟩ := hf.zero (by omega)
        rw [ht, hj] at ha hF ⊢
        simp only [List.length_cons] at hF
        obtain ⟨y, y1, y2⟩ := one_at m a hsa ham h F d (p + 1) rest hda (by omega) ha.tail
        refine ⟨oneX 18 y, sm 18 0 0 y y1, ?_⟩
        have ha' : At h p ((1, [110, 111, 116], 0) :: (a.toks ++ rest)) := ha
        rw [one_name ha']
        simp only [namedP, is_at ha']
        show PR.th (oneF h F d (p + 1)) _ = _
        rw [y2]
        simp [th_ok]; omega
      · have ht : (X.mk 22 [] 0 lo hi tk [a]).toks = (1, [111, 110, 99, 101], 0) :: (spanW lo hi ++ (4, [40], 0) :: joinW (toksL [a]) ++ [(4, [41], 0)]) := by simp [X.toks, frontW, wordT]
        have hsp := hf.span (by omega)
        have hsl : (spanW lo hi).length = 5 := rfl
        rw [ht, hj] at ha hF ⊢
        simp only [List.length_append, List.length_cons, hsl] at hF
        have ha' : At h p ((1, [111, 110, 99, 101], 0) :: (spanW lo hi ++ ((4, [40], 0) :: a.toks ++ (4, [41], 0) :: rest))) := by simpa using ha
        have hs5 := span_at hsp.2 ha'.tail
        have a5 := (At_app.1 ha'.tail).2
        obtain ⟨y, y1, y2⟩ := arg (p + 1 + 5) (by omega) a5
        refine ⟨.mk 22 [] 0 lo hi true [y], sm 22 lo hi y y1, ?_⟩
        rw [one_name ha']
        simp only [namedP, is_at ha']
        show timedP h _ p = _
        simp only [timedP, is_at ha']
        show lookP h 22 _ (p + 1) = _
        simp only [lookP, hs5, th_ok, y2]
        simp [hsl]; omega
      · have ht : (X.mk 23 [] 0 lo hi tk [a]).toks = (1, [104, 105, 115, 116], 0) :: (spanW lo hi ++ (4, [40], 0) :: joinW (toksL [a]) ++ [(4, [41], 0)]) := by simp [X.toks, frontW, wordT]
        have hsp := hf.span (by omega)
        have hsl : (spanW lo hi).length = 5 := rfl
        rw [ht, hj] at ha hF ⊢
        simp only [List.length_append, List.length_cons, hsl] at hF
        have ha' : At h p ((1, [104, 105, 115, 116], 0) :: (spanW lo hi ++ ((4, [40], 0) :: a.toks ++ (4, [41], 0) :: rest))) := by simpa using ha
        have hs5 := span_at hsp.2 ha'.tail
        have a5 := (At_app.1 ha'.tail).2
        obtain ⟨y, y1, y2⟩ := arg (p + 1 + 5) (by omega) a5
        refine ⟨.mk 23 [] 0 lo hi true [y], sm 23 lo hi y y1, ?_⟩
        rw [one_name ha']
        simp only [namedP, is_at ha']
        show timedP h _ p = _
        simp only [timedP, is_at ha']
        show lookP h 23 _ (p + 1) = _
        simp only [lookP, hs5, th_ok, y2]
        simp [hsl]; omega
      · have ht : (X.mk 25 [] 0 lo hi tk [a]).toks = (1, [112, 114, 101, 118], 0) :: (4, [40], 0) :: joinW (toksL [a]) ++ [(4, [41], 0)] := rfl
        obtain ⟨rfl, rfl⟩ := hf.zero (by omega)
        rw [ht, hj] at ha hF ⊢
        simp only [List.length_append, List.length_cons] at hF
        have ha' : At h p ((1, [112, 114, 101, 118], 0) :: ((4, [40], 0) :: a.toks ++ (4, [41], 0) :: rest)) := by simpa using ha
        obtain ⟨y, y1, y2⟩ := arg (p + 1) (by omega) ha'.tail
        refine ⟨oneX 25 y, sm 25 0 0 y y1, ?_⟩
        rw [one_name ha']
        simp only [namedP, is_at ha']
        show PR.th (argP h _ (p + 1)) _ = _
        rw [y2]
        simp [th_ok]; omega
    · have ht : (X.mk k nm n lo hi tk [a, b]).toks = (4, [40], 0) :: (a.toks ++ signW k :: (b.toks ++ [(4, [41], 0)])) := by
        rcases hk with rfl | rfl | rfl | rfl | rfl | rfl | rfl | rfl | rfl <;> simp [X.toks, toksL, binW]
      have hnm := hf.none (by unfold kb at hk; omega)
      have hn := hf.num (by unfold kb at hk; omega) (by unfold kb at hk; omega)
      obtain ⟨rfl, rfl⟩ := hf.zero (by unfold kb at hk; omega)
      subst hnm hn
      rw [ht] at ha hF ⊢
      simp only [List.length_append, List.length_cons, List.length_nil] at hF
      have ha' : At h p ((4, [40], 0) :: ((a.toks ++ signW k :: b.toks) ++ (4, [41], 0) :: rest)) := by simpa using ha
      have a1 : At h (p + 1) (a.toks ++ (signW k :: (b.toks ++ (4, [41], 0) :: rest))) := by simpa using ha'.tail
      have a2 := (At_app.1 a1).2
      obtain ⟨y, y1, y2⟩ := one_at m a (hsz a (by simp)) ham h F d (p + 1) _ (hdk (by unfold kb at hk; omega) a (by simp)) (by omega) a1
      obtain ⟨z, z1, z2⟩ := one_at m b (hsz b (by simp)) hbm h F d (p + 1 + a.toks.length + 1) _ (hdk (by unfold kb at hk; omega) b (by simp)) (by omega) a2.tail
      have hcl := cl_at (At_app.1 a2.tail).2 (by decide)
      have hany := any_bin (F := F) hk y2 (by omega) (At_one.2 a2.1) z2 hcl
      refine ⟨bothX k y z, by simp [bothX, X.same, sameL, y1, z1], ?_⟩
      have hne : oneF h F (d + 1) p = argP h (anyP h F (oneF h F d)) p := by
        rw [one_sign ha']
        simp only [signedP, is_at ha']
        rfl
      have e1 : p + 1 + a.toks.length + 1 + b.toks.length = p + 1 + (a.toks ++ signW k :: b.toks).length := by
        simp only [List.length_append, List.length_cons]; omega
      have e2 : p + 1 + (a.toks ++ signW k :: b.toks).length + 1 = p + ((4, [40], 0) :: (a.toks ++ signW k :: (b.toks ++ [(4, [41], 0)])) : List WD).length := by
        simp only [List.length_append, List.length_cons, List.length_nil]; omega
      rw [e1] at hany
      rw [hne, arg_at (w := a.toks ++ signW k :: b.toks) ha' hany, e2]
    · have hnm := hf.none (by omega)
      have hn := hf.num (by omega) (by omega)
      have hsp := hf.span (by omega)
      have hsl : (spanW lo hi).length = 5 := rfl
      subst hnm hn
      have ht : (X.mk 24 [] 0 lo hi tk [a, b]).toks = (1, [115, 105, 110, 99, 101], 0) :: (spanW lo hi ++ (4, [40], 0) :: (a.toks ++ (4, [44], 0) :: (b.toks ++ [(4, [41], 0)]))) := by
        simp [X.toks, frontW, wordT, toksL, joinW, joinTailW]
      rw [ht] at ha hF ⊢
      simp only [List.length_append, List.length_cons, List.length_nil, hsl] at hF
      have ha' : At h p ((1, [115, 105, 110, 99, 101], 0) :: (spanW lo hi ++ ((4, [40], 0) :: (a.toks ++ (4, [44], 0) :: (b.toks ++ (4, [41], 0) :: rest))))) := by simpa using ha
      have hs5 := span_at hsp.2 ha'.tail
      have a5 := (At_app.1 ha'.tail).2
      rw [hsl] at a5
      have a6 := a5.tail
      have a7 := (At_app.1 a6).2
      obtain ⟨y, y1, y2⟩ := one_at m a (hsz a (by simp)) ham h F d (p + 1 + 5 + 1) _ (hdk (by omega) a (by simp)) (by omega) a6
      obtain ⟨z, z1, z2⟩ := one_at m b (hsz b (by simp)) hbm h F d (p + 1 + 5 + 1 + a.toks.length + 1) _ (hdk (by omega) b (by simp)) (by omega) a7.tail
      have hya := any_cl (F := F) y2 (by omega) (cl_at a7 (by decide))
      have a8 := (At_app.1 a7.tail).2
      have hzb := any_cl (F := F) z2 (by omega) (cl_at a8 (by decide))
      refine ⟨.mk 24 [] 0 lo hi true [y, z], by simp [X.same, sameL, y1, z1], ?_⟩
      rw [one_name ha']
      simp only [namedP, is_at ha']
      show timedP h _ p = _
      simp only [timedP, is_at ha']
      show sinceP h _ (p + 1) = _
      simp only [sinceP, hs5, th_ok, need_at (s := [40]) (by decide) a5, hya, need_at (s := [44]) (by decide) a7, hzb, need_at (s := [41]) (by decide) a8]
      simp [hsl]; omega
end Go.Proofs.YtemggoaefohliaaGreatDoor.LX
/- An expression that may be, printed and parsed, is the same. No condition. -/
namespace Go.Proofs.YtemggoaefohliaaGreatDoor.LX
set_option linter.unusedVariables false
set_option linter.unusedSimpArgs false
open Go AE EX PT NF PS
set_option maxRecDepth 100000

theorem may_of : ∀ (m : Nat) (x : X), x.size ≤ m → MayAll x → May x
  | 0, x, hm, _ => by have := size_pos x; omega
  | m + 1, .mk k nm n lo hi tk kids, hm, h => by
    simp only [X.size] at hm
    obtain ⟨hf, hs⟩ := may_shape h
    rcases hs with ⟨rfl, hset⟩ | ⟨hk, rfl⟩ | ⟨hk, a, rfl, ha⟩ | ⟨hk, a, b, rfl, ha, hb⟩ | ⟨rfl, a, b, rfl, ha, hb⟩
    · exact .set _ _ _ _ _ _ fun x hx => by
        obtain ⟨nm', tk', rfl, _⟩ := hset.kid x hx
        exact ⟨nm', 0, 0, 0, tk', rfl⟩
    · exact .leaf _ _ _ _ _ _ hk hf.bool
    · exact .one _ _ _ _ _ _ _ hk (may_of m a (by simp [sizeL] at hm; omega) ha)
    · exact .two _ _ _ _ _ _ _ _ (by unfold kb at hk; omega) (may_of m a (by simp [sizeL] at hm; omega) ha) (may_of m b (by simp [sizeL] at hm; omega) hb)
    · exact .two _ _ _ _ _ _ _ _ (by omega) (may_of m a (by simp [sizeL] at hm; omega) ha) (may_of m b (by simp [sizeL] at hm; omega) hb)

/-! ### what is alike may be alike -/
theorem same_mk {k k' n n' lo lo' hi hi' : Int} {nm nm' : List UInt8} {tk tk' : Bool} {ks ks' : List X} (h : (X.mk k nm n lo hi tk ks).same (.mk k' nm' n' lo' hi' tk' ks') = true) :
    k = k' ∧ nm = nm' ∧ n = n' ∧ lo = lo' ∧ hi = hi' ∧ ks.length = ks'.length ∧ sameL ks ks' = true := by
  simp only [X.same, Bool.and_eq_true, beq_iff_eq] at h
  obtain ⟨⟨⟨⟨⟨⟨h1, h2⟩, h3⟩, h4⟩, h5⟩, h6⟩, h7⟩ := h
  exact ⟨h1, h2, h3, h4, h5, h6, h7⟩
theorem sameL_get : ∀ {l l' : List X}, l.length = l'.length → sameL l l' = true → ∀ (i : Nat) (x : X), l[i]? = some x → ∃ y, l'[i]? = some y ∧ x.same y = true
  | [], _, _, _, i, x, h => by simp at h
  | a :: l, [], hl, _, _, _, _ => by simp at hl
  | a :: l, b :: m, hl, hs, i, x, h => by
    simp only [sameL, Bool.and_eq_true] at hs
    cases i with
    | zero => simp at h; subst h; exact ⟨b, by simp, hs.1⟩
    | succ i => simpa using sameL_get (by simpa using hl) hs.2 i x (by simpa using h)
theorem same_nm {x y : X} (h : x.same y = true) : x.nm = y.nm := by
  cases x; cases y; exact (same_mk h).2.1
mutual
theorem same_dep : ∀ x y : X, x.same y = true → x.dep = y.dep
  | .mk k nm n lo hi tk ks, .mk k' nm' n' lo' hi' tk' ks', h => by
    obtain ⟨rfl, rfl, rfl, rfl, rfl, hl, hs⟩ := same_mk h
    simp only [X.dep, sameL_dep ks ks' hl hs]
theorem sameL_dep : ∀ l m : List X, l.length = m.length → sameL l m = true → depL l = depL m
  | [], [], _, _ => rfl
  | [], _ :: _, h, _ => by simp at h
  | _ :: _, [], h, _ => by simp at h
  | x :: l, y :: m, hl, hs => by
    simp only [sameL, Bool.and_eq_true] at hs
    simp only [depL, same_dep x y hs.1, sameL_dep l m (by simpa using hl) hs.2]
end
mutual
theorem same_nodes : ∀ x y : X, x.same y = true → x.nodes.length = y.nodes.length
  | .mk k nm n lo hi tk ks, .mk k' nm' n' lo' hi' tk' ks', h => by
    obtain ⟨rfl, rfl, rfl, rfl, rfl, hl, hs⟩ := same_mk h
    have := sameL_nodes ks ks' hl hs
    simp only [X.nodes]
    split <;> simp [this]
theorem sameL_nodes : ∀ l m : List X, l.length = m.length → sameL l m = true → (nodesL l).length = (nodesL m).length
  | [], [], _, _ => rfl
  | [], _ :: _, h, _ => by simp at h
  | _ :: _, [], h, _ => by simp at h
  | x :: l, y :: m, hl, hs => by
    simp only [sameL, Bool.and_eq_true] at hs
    simp only [nodesL, List.length_append, same_nodes x y hs.1, sameL_nodes l m (by simpa using hl) hs.2]
end
theorem same_set {ks ks' : List X} (hl : ks.length = ks'.length) (hs : sameL ks ks' = true) (h : SetOK ks') : SetOK ks := by
  refine ⟨by have := h.1; omega, fun i hi => ?_⟩
  obtain ⟨nm, tk, h1, h2, h3⟩ := h.2 i (by omega)
  have hx : ks[i]? = some ks[i] := List.getElem?_eq_getElem hi
  obtain ⟨y, e1, e2⟩ := sameL_get hl hs i _ hx
  rw [h1] at e1
  cases e1
  unfold kidOK
  rw [hx]
  generalize ks[i] = x at *
  cases x with
  | mk k nm2 n lo hi' tk2 kk =>
    obtain ⟨rfl, rfl, rfl, rfl, rfl, g1, _⟩ := same_mk e2
    obtain rfl : kk = [] := List.eq_nil_of_length_eq_zero (by simpa using g1)
    refine ⟨_, tk2, rfl, h2, fun h0 z hz => ?_⟩
    obtain ⟨w, w1, w2⟩ := sameL_get hl hs _ z hz
    rw [same_nm w2]
    exact h3 h0 w w1
theorem same_may : ∀ (m : Nat) (x y : X), x.size ≤ m → x.same y = true → MayAll y → MayAll x
  | 0, x, _, hm, _, _ => by have := size_pos x; omega
  | m + 1, .mk k nm n lo hi tk ks, .mk k' nm' n' lo' hi' tk' ks', hm, h, hy => by
    obtain ⟨rfl, rfl, rfl, rfl, rfl, hl, hs⟩ := same_mk h
    simp only [X.size] at hm
    by_cases h4 : k = 4
    · obtain ⟨h1, h2⟩ := (mayAll_set h4).1 hy
      exact (mayAll_set h4).2 ⟨h1, same_set hl hs h2⟩
    · obtain ⟨h1, h2, h3, h5⟩ := (mayAll_more h4).1 hy
      refine (mayAll_more h4).2 ⟨h1, by rw [hl]; exact h2, h3, fun x hx => ?_⟩
      obtain ⟨i, hi, e⟩ := List.getElem_of_mem hx
      obtain ⟨y, e1, e2⟩ := sameL_get hl hs i x (by rw [List.getElem?_eq_getElem hi, e])
      exact same_may m x y (by have := sizeL_mem hx; omega) e2 (h5 y (List.mem_of_getElem? e1))
theorem same_ok {x y : X} (h : x.same y = true) (hy : OKx y) : OKx x :=
  ⟨by rw [same_dep x y h]; exact hy.1, by rw [same_nodes x y h]; exact hy.2.1, same_may _ x y (Nat.le_refl _) h hy.2.2⟩

theorem At_map {l : List Tk} {e : Tk} {ws : List WD} (h : l.map wof = ws) : At (hereT (l ++ [e])) 0 (ws ++ []) := by
  have key : ∀ (a b : List Tk), At (hereT (a ++ b ++ [e])) a.length (b.map wof) := by
    intro a b
    induction b generalizing a with
    | nil => trivial
    | cons t b ih =>
      have hh : hereT (a ++ (t :: b) ++ [e]) a.length = t := by simp [hereT]
      refine ⟨by rw [hh]; exact ⟨rfl, rfl, rfl⟩, ?_⟩
      have := ih (a ++ [t])
      simpa using this
  subst h
  have := key [] l
  simpa using this
/-- THE TEXT, LEXED AND PARSED. -/
theorem expr_back {x : X} (h : OKx x) (hf : x.fit) (hl : x.txt.length ≤ 4096) : ∃ y, y.same x = true ∧ exprR x.txt = .ok y := by
  obtain ⟨l, l1, l2⟩ := Lx_expr x.size x (Nat.le_refl _) h.2.2 hf [] 0 Sep_nil
  have hlx : lexAll x.txt = .ok (l ++ [⟨5, [], 0, ((0 + x.txt.length : Nat) : Int)⟩]) := by
    rw [lexAll_U, if_neg (by omega)]
    rw [List.append_nil] at l2
    exact l2
  generalize ((0 + x.txt.length : Nat) : Int) = e at hlx
  have hlen : l.length = x.toks.length := by rw [← l1]; simp
  have hF : x.toks.length < (l ++ [(⟨5, [], 0, e⟩ : Tk)]).length + 1 := by simp; omega
  obtain ⟨y, y1, y2⟩ := one_at x.size x (Nat.le_refl _) h.2.2 (hereT (l ++ [⟨5, [], 0, e⟩])) ((l ++ [(⟨5, [], 0, e⟩ : Tk)]).length + 1) 32 0 [] (by have := h.1; omega) hF (At_map l1)
  have hend : (hereT (l ++ [⟨5, [], 0, e⟩]) (0 + x.toks.length)).k = 5 := by
    rw [Nat.zero_add, ← hlen]; simp [hereT]
  have hT : takeR (l ++ [⟨5, [], 0, e⟩]) = .ok (y, 0 + x.toks.length) := any_cl y2 (by omega) (cl_end hend)
  refine ⟨y, y1, ?_⟩
  unfold exprR
  rw [hlx]
  simp only [hT]
  rw [if_pos hend, if_pos ((chkX_ok y).2 (same_ok y1 h))]
end Go.Proofs.YtemggoaefohliaaGreatDoor.LX
/- Expressions as texts, evaluated (made by genpc.py). No condition. -/
namespace Go.Proofs.YtemggoaefohliaaGreatDoor.PT
set_option linter.unusedVariables false
set_option linter.unusedSimpArgs false
open Go AE EX
set_option maxRecDepth 100000


theorem k56 : (Tryz.prog.info? 25).isSome = true := by kernel_rfl

noncomputable def aLoop : Code := cutC (bodyOf Tryz.f40) [1, 1, 0, 1, 0, 0]
noncomputable def al0 : Code := cutC (bodyOf Tryz.f40) [0]
noncomputable def al1 : Code := cutC (bodyOf Tryz.f40) [1, 0]
noncomputable def al2 : Code := cutC (bodyOf Tryz.f40) [1, 1, 0, 0]
noncomputable def al3 : Code := cutC (bodyOf Tryz.f40) [1, 1, 1]
theorem f37b : Tryz.f40.body = some (.seq al0 (.seq al1 (.seq (.seq al2 (.block 0 (.loop aLoop))) al3))) := rfl

def AI (kids : List X) (tk : Bool) (S0 : St) (i : Nat) (fs : FS) : Prop :=
  fs.t 6 = .slice (embL kids) (tokOf tk) ∧ fs.t 7 = .int .i64 kids.length ∧ fs.t 8 = .int .i64 i ∧
    (if i = 0 then fs.t 3 = .slice [] .clip ∧ fs.S = S0 else fs.t 3 = .slice ((txtL (kids.take i)).map AV.str) (.own S0.T.length i) ∧ fs.S = ⟨S0.H, S0.T ++ [i]⟩)

theorem txtL_append (a b : List X) : txtL (a ++ b) = txtL a ++ txtL b := by simp [txtL_map]
theorem txtL_length (l : List X) : (txtL l).length = l.length := by simp [txtL_map]

theorem all_round (n : Nat) (kids : List X) (tk : Bool) (S0 : St) (hlen : kids.length ≤ 1099511627776)
    (hrec : ∀ x ∈ kids, ∀ S, ev Tryz.prog E n 16 [x.emb] S = some (.ret (.str x.txt), S)) (i : Nat) (hi : i < kids.length) (fs : FS) (h : AI kids tk S0 i fs) :
    ∃ fs', evCode ⟨Tryz.prog, E.esc 40, n⟩ (ev Tryz.prog E n) (E.ps 40) n aLoop fs = some (.norm, fs') ∧ AI kids tk S0 (i + 1) fs' := by
  obtain ⟨t, b, v, S⟩ := fs
  obtain ⟨h1, h2, h3, h4⟩ := h
  simp at h1 h2 h3 h4
  have hxe : kids[i]? = some kids[i] := List.getElem?_eq_getElem hi
  have hr := hrec kids[i] (List.getElem_mem hi) S
  have hsplit : kids.take (i + 1) = kids.take i ++ [kids[i]] := by rw [List.take_add_one, hxe]; rfl
  have htx : txtL (kids.take (i + 1)) = txtL (kids.take i) ++ [kids[i].txt] := by rw [hsplit, txtL_append]; rfl
  have hemb : (embL kids)[i]? = some kids[i].emb := by rw [embL_map, List.getElem?_map, hxe]; rfl
  have htl : (txtL (kids.take i)).length = i := by rw [txtL_length]; simp; omega
  generalize kids[i] = x at *
  obtain ⟨k, nm, a, lo, hi', tk', ks⟩ := x
  generalize (X.mk k nm a lo hi' tk' ks).txt = xt at *
  simp only [X.emb] at hemb hr
  have hw : IntKind.i64.wrap ((i : Int) + 1) = (i : Int) + 1 := wrap64 _ (by omega)
  have hlt : (i : Int) < kids.length := by omega
  obtain ⟨z, hz⟩ := ii24
  by_cases h0 : i = 0
  · subst h0
    simp only [if_pos] at h4
    obtain ⟨h4, rfl⟩ := h4
    have ha := app0 xt S
    refine ⟨_, by
      simp (disch := first | (simp only [List.length_append, List.length_cons, List.length_nil]; omega) | (simp; done) | assumption) [AV.cells?, AV.isCell, -evBuildSlice, aLoop, cutC, bodyOf, Tryz.f40, E_esc, k24, c24, a24, z24, i24, hz, sq22, h1, h2, h3, h4, hemb, hr, hlt, hi, bq3, evBuildSlice, evElems, sq56, z9, c9, a9, ha]
      rfl, by simp [upd, h1], by simp [upd, h2], by simp [upd, wrap64 1 (by omega)], ?_⟩
    rw [if_neg (by omega), htx]
    exact ⟨by simp [upd, txtL], rfl⟩
  · rw [if_neg h0] at h4
    obtain ⟨h4, rfl⟩ := h4
    have ha := app1 (txtL (kids.take i)) xt S0 (by omega)
    rw [htl] at ha
    refine ⟨_, by
      simp (disch := first | (simp only [List.length_append, List.length_cons, List.length_nil]; omega) | (simp; done) | assumption) [AV.cells?, AV.isCell, aLoop, cutC, bodyOf, Tryz.f40, E_esc, k24, c24, a24, z24, i24, hz, sq22, h1, h2, h3, h4, hemb, hr, hlt, bq3, evBuildSlice, evElems, sq56, z9, c9, a9, ha, -List.map_append]
      rfl, by simp [upd, h1], by simp [upd, h2], by simp [upd, hw], ?_⟩
    rw [if_neg (by omega), htx]
    exact ⟨by simp [upd], rfl⟩

theorem ev_all (n : Nat) (hn : 2 ≤ n) (kids : List X) (tk : Bool) (S : St) (hl : kids.length < n) (hlen : kids.length ≤ 1099511627776) (hj : (joinT (txtL kids)).length ≤ 1099511627776)
    (hrec : ∀ x ∈ kids, ∀ S, ev Tryz.prog E n 16 [x.emb] S = some (.ret (.str x.txt), S)) :
    ev Tryz.prog E (n + 1) 40 [.slice (embL kids) (tokOf tk)] S = some (.ret (.str (joinT (txtL kids))), S) := by
  have key : ∀ fs, AI kids tk S 0 fs → ∃ fs', iter n (evCode ⟨Tryz.prog, E.esc 40, n⟩ (ev Tryz.prog E n) (E.ps 40) n aLoop) fs = some (.exit 0, fs') ∧ AI kids tk S kids.length fs' := fun fs h => by
    obtain ⟨⟨o, fs'⟩, r1, r2, r3⟩ := iter_range (Q := fun r => r.1 = .exit 0 ∧ AI kids tk S kids.length r.2) (len := kids.length) (fun i hi fs h => all_round n kids tk S hlen hrec i hi fs h)
      (fun fs h => by
        obtain ⟨t, b, v, S'⟩ := fs
        obtain ⟨h1, h2, h3, h4⟩ := h
        simp at h1 h2 h3 h4
        refine ⟨.exit 0, _, by
          simp (disch := first | (simp only [List.length_append, List.length_cons, List.length_nil]; omega) | (simp; done) | assumption) [AV.cells?, AV.isCell, aLoop, cutC, bodyOf, Tryz.f40, h2, h3, bq3]
          rfl, by simp, rfl, by simp [upd, h1], by simp [upd, h2], by simp [upd, h3], by simpa [upd] using h4⟩) kids.length 0 n fs (by omega) hl h
    simp only at r2
    subst r2
    exact ⟨fs', r1, r3⟩
  have hlen2 : (embL kids).length = kids.length := by rw [embL_map]; simp
  obtain ⟨⟨t, b, v, S'⟩, hr, g1, g2, g3, g4⟩ := key ⟨upd 8 (.int .i64 0) (upd 7 (.int .i64 kids.length) (upd 6 (.slice (embL kids) (tokOf tk)) (upd 3 (.slice [] .clip) (upd 2 (.str []) (argsA [.slice (embL kids) (tokOf tk)]))))), fun _ => (0, []), 5, S⟩
    ⟨by simp [upd], by simp [upd], by simp [upd], by simp [upd]⟩
  simp at g1 g2 g3 g4
  obtain ⟨n, rfl⟩ : ∃ k, n = k + 1 := ⟨n - 1, by omega⟩
  rw [ev_enter (n := n + 1) (show E.ok 40 = true from rfl) Tryz.func40 f37b (Nat.le_of_ble_eq_true rfl) (by decide +kernel)]
  obtain ⟨l, tok, ex, hl1, hl2, hl3⟩ : ∃ (l : List (List UInt8)) (tok : Tok) (ex : List Nat), l = txtL kids ∧ t 3 = .slice (l.map AV.str) tok ∧ S' = ⟨S.H, S.T ++ ex⟩ := by
    by_cases h0 : kids.length = 0
    · rw [if_pos (by simpa using h0)] at g4
      have : kids = [] := List.eq_nil_of_length_eq_zero h0
      subst this
      exact ⟨[], .clip, [], rfl, g4.1, by rw [g4.2]; simp⟩
    · rw [if_neg (by simpa using h0)] at g4
      exact ⟨txtL kids, _, _, rfl, by simpa using g4.1, g4.2⟩
  subst hl3
  have hjn := ev_join n l tok ⟨S.H, S.T ++ ex⟩ (by rw [hl1, txtL_length]; exact hlen) (by rw [hl1]; exact hj)
  have hf := fin_strT (joinT l) S ex
  rw [← hl1]
  simp (disch := first | (simp only [List.length_append, List.length_cons, List.length_nil]; omega) | (simp; done) | assumption) [AV.cells?, AV.isCell, al0, al1, al2, al3, cutC, bodyOf, Tryz.f40, hlen2, sq22, hr, hl2, hjn, hf]
end Go.Proofs.YtemggoaefohliaaGreatDoor.PT
/- Expressions as texts, evaluated (made by genpc.py). No condition. -/
namespace Go.Proofs.YtemggoaefohliaaGreatDoor.PT
set_option linter.unusedVariables false
set_option linter.unusedSimpArgs false
open Go AE EX
set_option maxRecDepth 100000


theorem bulkL_mem {x : X} : ∀ {l : List X}, x ∈ l → x.bulk ≤ bulkL l
  | y :: l, h => by
    rcases List.mem_cons.1 h with rfl | h
    · simp [bulkL]
    · have := bulkL_mem h; simp [bulkL]; omega
theorem fitL_mem {x : X} : ∀ {l : List X}, x ∈ l → fitL l → x.fit
  | y :: l, h, hf => by
    rcases List.mem_cons.1 h with rfl | h
    · exact hf.1
    · exact fitL_mem h hf.2

theorem join_bulk {kids : List X} (hf : fitL kids) : (joinT (txtL kids)).length ≤ 64 * bulkL kids := by
  have h1 := txtL_len kids hf
  have h2 := join_len (txtL kids)
  omega

set_option maxHeartbeats 4000000 in
theorem ev_Expr : ∀ (m : Nat) (x : X), x.bulk ≤ m → May x → x.fit → m ≤ 1048576 → ∀ n, 2 * m + 40 ≤ n → ∀ S, ev Tryz.prog E n 16 [x.emb] S = some (.ret (.str x.txt), S)
  | 0, x, hm, _, _, _, _, _, _ => by cases x; simp [X.bulk] at hm
  | m + 1, x, hm, hmay, hfit, hmm, n, hn, S => by
    obtain ⟨n, rfl⟩ : ∃ k, n = k + 3 := ⟨n - 3, by omega⟩
    obtain ⟨k, nm, a, lo, hi, tk, kids⟩ := x
    obtain ⟨f1, f2, f3, f4, f5, f6⟩ := hfit
    simp only [X.bulk] at hm
    have hsz := size_bulkL kids
    have hlen := sizeL_length kids
    have hrec : ∀ x ∈ kids, May x → ∀ S, ev Tryz.prog E (n + 1) 16 [x.emb] S = some (.ret (.str x.txt), S) := fun x hx hx' S =>
      ev_Expr m x (by have := bulkL_mem hx; omega) hx' (fitL_mem hx f6) (by omega) (n + 1) (by omega) S
    have hrec2 : ∀ x ∈ kids, May x → ∀ S, ev Tryz.prog E (n + 2) 16 [x.emb] S = some (.ret (.str x.txt), S) := fun x hx hx' S =>
      ev_Expr m x (by have := bulkL_mem hx; omega) hx' (fitL_mem hx f6) (by omega) (n + 2) (by omega) S
    have hj := join_bulk f6
    have hall : (∀ x ∈ kids, May x) → ∀ S, ev Tryz.prog E (n + 2) 40 [.slice (embL kids) (tokOf tk)] S = some (.ret (.str (joinT (txtL kids))), S) := fun h S =>
      ev_all (n + 1) (by omega) kids tk S (by omega) (by omega) (by omega) fun x hx S => hrec x hx (h x hx) S
    have hspan : ev Tryz.prog E (n + 2) 30 [.int .i64 lo, .int .i64 hi] S = some (.ret (.str (spanT lo hi)), S) := ev_Span (n + 1) (by omega) lo hi f3 f4 S
    have hsl := spanT_len f3 f4
    have hword := word_len k
    have hE2 : (embL kids).length = kids.length := by rw [embL_map]; simp
    have p1 : E.ps 16 9 = [(1, 5), (2, 5)] := rfl
    have p2 : E.ps 16 11 = [(1, 4), (2, 4), (1, 6), (2, 6), (4, 6), (1, 11), (2, 11), (4, 11), (6, 11), (7, 11)] := rfl
    have p3 : E.ps 16 13 = [(1, 8), (3, 8), (4, 8), (1, 13), (3, 13), (4, 13), (8, 13), (9, 13), (1, 15), (3, 15), (4, 15), (8, 15), (9, 15)] := rfl
    simp only [X.emb]
    rw [ev_enter (n := n + 2) (show E.ok 16 = true from rfl) Tryz.func16 (fn := Tryz.f16) rfl (Nat.le_of_ble_eq_true rfl) (by decide +kernel)]
    cases hmay with
    | set _ _ _ _ _ _ hk =>
      have ha := hall (fun x hx => by obtain ⟨_, _, _, _, _, rfl⟩ := hk x hx; exact .leaf _ _ _ _ _ _ (.inr (.inr (.inl rfl))) (by simp)) S
      generalize hJ : joinT (txtL kids) = J at *
      simp (disch := first | (simp only [List.length_append, List.length_cons, List.length_nil]; omega) | (simp; done) | assumption) [AV.cells?, AV.isCell, Tryz.f16, E_esc, k24, c24, a24, k3, c3, a3, k22, c22, a22, fq0, fq5, ha, X.txt, hJ]
    | leaf _ _ _ _ _ _ hk hb =>
      have hl : ev Tryz.prog E (n + 2) 43 [.agg [.int .i64 k, .str nm, .int .i64 a, .int .i64 lo, .int .i64 hi, .slice [] (tokOf tk)]] S = some (.ret (.str (leafT k nm a hi)), S) := ev_leaf (n + 1) (by omega) k nm a lo hi (.slice [] (tokOf tk)) rfl hk f2 f4 (by omega) S
      rcases hk with rfl | rfl | rfl | rfl | rfl | rfl | rfl | rfl <;>
        simp (disch := first | (simp only [List.length_append, List.length_cons, List.length_nil]; omega) | (simp; done) | assumption) [AV.cells?, AV.isCell, Tryz.f16, E_esc, k24, c24, a24, k3, c3, a3, k22, c22, a22, fq0, fq5, sq22, hl, X.txt, embL]
    | one _ _ _ _ _ _ x hk hx =>
      have ha := hall (fun y hy => by simp at hy; subst hy; exact hx) S
      have hw : ∀ k, (k = 12 ∨ k = 25 ∨ k = 22 ∨ k = 23 ∨ k = 24) → ev Tryz.prog E (n + 2) 41 [.int .i64 k] S = some (.ret (.str (wordT k)), S) := fun k hk => ev_word (n + 1) k hk S
      generalize hJ : joinT (txtL [x]) = J at *
      generalize embL [x] = es at *
      rcases hk with rfl | rfl | rfl | rfl | rfl | rfl <;>
        simp (disch := first | (simp only [List.length_append, List.length_cons, List.length_nil]; omega) | (simp; done) | assumption) [AV.cells?, AV.isCell, Tryz.f16, E_esc, k24, c24, a24, k3, c3, a3, k2, c2, a2, k22, c22, a22, fq0, fq3, fq4, fq5, sq22, ha, hw, hspan, hJ, X.txt, p1, p2, frontT, wordT]
    | two _ _ _ _ _ _ x y hk hx hy =>
      have ha := hall (fun z hz => by simp at hz; rcases hz with rfl | rfl <;> assumption) S
      have hw : ∀ k, (k = 12 ∨ k = 25 ∨ k = 22 ∨ k = 23 ∨ k = 24) → ev Tryz.prog E (n + 2) 41 [.int .i64 k] S = some (.ret (.str (wordT k)), S) := fun k hk => ev_word (n + 1) k hk S
      have hs : ∀ k, (k = 8 ∨ k = 9 ∨ k = 10 ∨ k = 14 ∨ k = 15 ∨ k = 16 ∨ k = 17 ∨ k = 19 ∨ k = 20) → ev Tryz.prog E (n + 2) 42 [.int .i64 k] S = some (.ret (.str (signT k)), S) := fun k hk => ev_sign (n + 1) k hk S
      have e1 := hrec2 x (by simp) hx S
      have e2 := hrec2 y (by simp) hy S
      have l1 := txt_len x (fitL_mem (l := [x, y]) (by simp) f6)
      have l2 := txt_len y (fitL_mem (l := [x, y]) (by simp) f6)
      have l3 : x.bulk ≤ 1048576 := by have := bulkL_mem (x := x) (l := [x, y]) (by simp); omega
      have l4 : y.bulk ≤ 1048576 := by have := bulkL_mem (x := y) (l := [x, y]) (by simp); omega
      obtain ⟨z, hz⟩ := ii24
      have ha1 := cells_all x
      have ha2 := cells_all y
      have hc1 := (cells_ok x).2
      have hc2 := (cells_ok y).2
      have ht1 : List.take 6 x.cells = x.cells := List.take_of_length_le (by omega)
      have ht2 : List.take 6 y.cells = y.cells := List.take_of_length_le (by omega)
      simp only [emb_cells, embL] at e1 e2 ha ⊢
      rcases hk with rfl | rfl | rfl | rfl | rfl | rfl | rfl | rfl | rfl | rfl
      rotate_right 1
      · generalize hJ : joinT (txtL [x, y]) = J at *
        simp (disch := first | (simp only [List.length_append, List.length_cons, List.length_nil]; omega) | (simp; done) | assumption) [AV.cells?, AV.isCell, Tryz.f16, E_esc, k24, c24, a24, k3, c3, a3, k2, c2, a2, k22, c22, a22, fq0, fq3, fq4, fq5, sq22, ha, hw, hspan, hJ, X.txt, p1, p2, frontT, wordT]
      all_goals
        simp only [X.txt, txtL]
        generalize x.txt = t1 at *
        generalize y.txt = t2 at *
        generalize x.cells = C1 at *
        generalize y.cells = C2 at *
        simp (disch := first | (simp only [List.length_append, List.length_cons, List.length_nil]; omega) | (simp; done) | assumption) [AV.cells?, AV.isCell, Tryz.f16, E_esc, k24, c24, a24, k3, c3, a3, k22, c22, a22, fq0, fq5, sq22, hs, e1, e2, i24, hz, p3, binT, signT, ha1, ha2, hc1, hc2, ht1, ht2]
end Go.Proofs.YtemggoaefohliaaGreatDoor.PT
/- Expressions as texts, evaluated (made by genpc.py). No condition. -/
namespace Go.Proofs.YtemggoaefohliaaGreatDoor.PT
set_option linter.unusedVariables false
set_option linter.unusedSimpArgs false
open Go AE EX
set_option maxRecDepth 100000


theorem join_snoc (l : List (List UInt8)) (x : List UInt8) : joinT (l ++ [x]) = if l = [] then x else joinT l ++ [44, 32] ++ x := by
  cases l with
  | nil => simp [joinT, Lib.join_one]
  | cons y r =>
    simp only [joinT, List.cons_append, Lib.join_cons, Lib.joinTail]
    simp

noncomputable def lLoop : Code := cutC (bodyOf Tryz.f36) [1, 1, 0, 1, 0, 0]
noncomputable def ll0 : Code := cutC (bodyOf Tryz.f36) [0]
noncomputable def ll1 : Code := cutC (bodyOf Tryz.f36) [1, 0]
noncomputable def ll2 : Code := cutC (bodyOf Tryz.f36) [1, 1, 0, 0]
noncomputable def ll3 : Code := cutC (bodyOf Tryz.f36) [1, 1, 1]
theorem f41b : Tryz.f36.body = some (.seq ll0 (.seq ll1 (.seq (.seq ll2 (.block 0 (.loop lLoop))) ll3))) := rfl

def LI (kids : List X) (tk : Bool) (S0 : St) (i : Nat) (fs : FS) : Prop :=
  fs.t 0 = .slice (embL kids) (tokOf tk) ∧ fs.t 4 = .int .i64 i ∧ fs.t 3 = .str (joinT (txtL (kids.take i))) ∧ fs.S = S0

theorem list_round (n : Nat) (kids : List X) (tk : Bool) (S0 : St) (hlen : kids.length ≤ 1099511627776) (hj : ∀ i, (joinT (txtL (kids.take i))).length ≤ 1099511627776) (ht : ∀ x ∈ kids, x.txt.length ≤ 1099511627776)
    (hrec : ∀ x ∈ kids, ∀ S, ev Tryz.prog E n 15 [x.emb] S = some (.ret (.str x.txt), S)) (i : Nat) (hi : i < kids.length) (fs : FS) (h : LI kids tk S0 i fs) :
    ∃ fs', evCode ⟨Tryz.prog, E.esc 36, n⟩ (ev Tryz.prog E n) (E.ps 36) n lLoop fs = some (.norm, fs') ∧ LI kids tk S0 (i + 1) fs' := by
  obtain ⟨t, b, v, S⟩ := fs
  obtain ⟨h1, h2, h3, h4⟩ := h
  simp at h1 h2 h3 h4
  subst h4
  have hxe : kids[i]? = some kids[i] := List.getElem?_eq_getElem hi
  have hr := hrec kids[i] (List.getElem_mem hi) S
  have htl := ht kids[i] (List.getElem_mem hi)
  have hji := hj i
  have hsplit : kids.take (i + 1) = kids.take i ++ [kids[i]] := by rw [List.take_add_one, hxe]; rfl
  have htx : joinT (txtL (kids.take (i + 1))) = if i = 0 then kids[i].txt else joinT (txtL (kids.take i)) ++ [44, 32] ++ kids[i].txt := by
    rw [hsplit, txtL_append, show txtL [kids[i]] = [kids[i].txt] from rfl, join_snoc]
    have : (txtL (kids.take i) = []) ↔ i = 0 := by
      rw [← List.length_eq_zero_iff, txtL_length, List.length_take]; omega
    simp only [this]
  have hemb : (embL kids)[i]? = some kids[i].emb := by rw [embL_map, List.getElem?_map, hxe]; rfl
  have ha1 := cells_all kids[i]
  have hc1 := (cells_ok kids[i]).2
  have ht1 : List.take 6 kids[i].cells = kids[i].cells := List.take_of_length_le (by omega)
  rw [emb_cells] at hemb hr
  generalize kids[i].txt = xt at *
  generalize kids[i].cells = C1 at *
  have hE2 : (embL kids).length = kids.length := by rw [embL_map]; simp
  have hw : IntKind.i64.wrap ((i : Int) + 1) = (i : Int) + 1 := wrap64 _ (by omega)
  obtain ⟨z, hz⟩ := ii24
  by_cases h0 : i = 0
  · subst h0
    have e0 : joinT (txtL (kids.take 0)) = [] := rfl
    rw [e0] at h3
    refine ⟨_, by
      simp (disch := first | (simp only [List.length_append, List.length_cons, List.length_nil]; omega) | (simp; done) | assumption) [AV.cells?, AV.isCell, lLoop, cutC, bodyOf, Tryz.f36, E_esc, k24, c24, a24, i24, hz, sq22, h1, h2, h3, hemb, hr, hi, bq3, hE2, ha1, hc1, ht1]
      rfl, by simp [upd, h1], by simp [upd, wrap64 1 (by omega)], ?_, rfl⟩
    rw [htx, if_pos rfl]
    simp [upd]
  · have hi0 : (0 : Int) < i := by omega
    have hi0' : 0 < i := by omega
    have hlt : (i : Int) < kids.length := by omega
    generalize joinT (txtL (kids.take i)) = J at *
    refine ⟨_, by
      simp (disch := first | (simp only [List.length_append, List.length_cons, List.length_nil]; omega) | (simp; done) | assumption) [AV.cells?, AV.isCell, lLoop, cutC, bodyOf, Tryz.f36, E_esc, k24, c24, a24, i24, hz, sq22, h1, h2, h3, hemb, hr, hi, hi0, hi0', hlt, bq3, hE2, ha1, hc1, ht1]
      rfl, by simp [upd, h1], by simp [upd, hw], ?_, rfl⟩
    rw [htx, if_neg h0]
    simp [upd]

theorem ev_list (n : Nat) (kids : List X) (tk : Bool) (S : St) (hl : kids.length < n) (hlen : kids.length ≤ 1099511627776) (hj : ∀ i, (joinT (txtL (kids.take i))).length ≤ 1099511627776) (ht : ∀ x ∈ kids, x.txt.length ≤ 1099511627776)
    (hrec : ∀ x ∈ kids, ∀ S, ev Tryz.prog E n 15 [x.emb] S = some (.ret (.str x.txt), S)) :
    ev Tryz.prog E (n + 1) 36 [.slice (embL kids) (tokOf tk)] S = some (.ret (.str (joinT (txtL kids))), S) := by
  have hE2 : (embL kids).length = kids.length := by rw [embL_map]; simp
  have key : ∀ fs, LI kids tk S 0 fs → ∃ fs', iter n (evCode ⟨Tryz.prog, E.esc 36, n⟩ (ev Tryz.prog E n) (E.ps 36) n lLoop) fs = some (.exit 0, fs') ∧ LI kids tk S kids.length fs' := fun fs h => by
    obtain ⟨⟨o, fs'⟩, r1, r2, r3⟩ := iter_range (Q := fun r => r.1 = .exit 0 ∧ LI kids tk S kids.length r.2) (len := kids.length) (fun i hi fs h => list_round n kids tk S hlen hj ht hrec i hi fs h)
      (fun fs h => by
        obtain ⟨t, b, v, S'⟩ := fs
        obtain ⟨h1, h2, h3, h4⟩ := h
        simp at h1 h2 h3 h4
        refine ⟨.exit 0, _, by
          simp (disch := first | (simp only [List.length_append, List.length_cons, List.length_nil]; omega) | (simp; done) | assumption) [AV.cells?, AV.isCell, lLoop, cutC, bodyOf, Tryz.f36, h1, h2, bq3, sq22, hE2]
          rfl, by simp, rfl, by simp [upd, h1], by simp [upd, h2], by simp [upd, h3], by simpa [upd] using h4⟩) kids.length 0 n fs (by omega) hl h
    simp only at r2
    subst r2
    exact ⟨fs', r1, r3⟩
  obtain ⟨⟨t, b, v, S'⟩, hr, g1, g2, g3, g4⟩ := key ⟨upd 4 (.int .i64 0) (upd 3 (.str []) (upd 2 (.str []) (argsA [.slice (embL kids) (tokOf tk)]))), fun _ => (0, []), 3, S⟩
    ⟨by simp [upd, argsA], by simp [upd], by simp [upd, txtL, joinT, Lib.join_nil], rfl⟩
  simp at g1 g2 g3 g4
  subst g4
  rw [ev_enter (n := n) (show E.ok 36 = true from rfl) Tryz.func36 f41b (Nat.le_of_ble_eq_true rfl) (by decide +kernel)]
  simp (disch := first | (simp only [List.length_append, List.length_cons, List.length_nil]; omega) | (simp; done) | assumption) [AV.cells?, AV.isCell, ll0, ll1, ll2, ll3, cutC, bodyOf, Tryz.f36, hr, g3]

theorem take_fit {l : List X} (h : fitL l) (i : Nat) : fitL (l.take i) ∧ bulkL (l.take i) ≤ bulkL l := by
  induction l generalizing i with
  | nil => simp [fitL]
  | cons x l ih =>
    cases i with
    | zero => simp [fitL, bulkL]
    | succ i =>
      have := ih h.2 i
      simp only [List.take_succ_cons, fitL, bulkL]
      exact ⟨⟨h.1, this.1⟩, by omega⟩

set_option maxHeartbeats 4000000 in
theorem ev_rExpr : ∀ (m : Nat) (x : X), x.bulk ≤ m → May x → x.fit → m ≤ 1048576 → ∀ n, 2 * m + 40 ≤ n → ∀ S, ev Tryz.prog E n 15 [x.emb] S = some (.ret (.str x.txt), S)
  | 0, x, hm, _, _, _, _, _, _ => by cases x; simp [X.bulk] at hm
  | m + 1, x, hm, hmay, hfit, hmm, n, hn, S => by
    obtain ⟨n, rfl⟩ : ∃ k, n = k + 3 := ⟨n - 3, by omega⟩
    obtain ⟨k, nm, a, lo, hi, tk, kids⟩ := x
    obtain ⟨f1, f2, f3, f4, f5, f6⟩ := hfit
    simp only [X.bulk] at hm
    have hsz := size_bulkL kids
    have hlen := sizeL_length kids
    have hrec : ∀ x ∈ kids, May x → ∀ S, ev Tryz.prog E (n + 1) 15 [x.emb] S = some (.ret (.str x.txt), S) := fun x hx hx' S =>
      ev_rExpr m x (by have := bulkL_mem hx; omega) hx' (fitL_mem hx f6) (by omega) (n + 1) (by omega) S
    have hrec2 : ∀ x ∈ kids, May x → ∀ S, ev Tryz.prog E (n + 2) 15 [x.emb] S = some (.ret (.str x.txt), S) := fun x hx hx' S =>
      ev_rExpr m x (by have := bulkL_mem hx; omega) hx' (fitL_mem hx f6) (by omega) (n + 2) (by omega) S
    have hj := join_bulk f6
    have hall : (∀ x ∈ kids, May x) → ∀ S, ev Tryz.prog E (n + 2) 36 [.slice (embL kids) (tokOf tk)] S = some (.ret (.str (joinT (txtL kids))), S) := fun h S =>
      ev_list (n + 1) kids tk S (by omega) (by omega) (fun i => by have := take_fit f6 i; have := join_bulk this.1; omega) (fun x hx => by have := txt_len x (fitL_mem hx f6); have := bulkL_mem hx; omega) fun x hx S => hrec x hx (h x hx) S
    have hfl := front_len (k := k) f3 f4
    have hE2 : (embL kids).length = kids.length := by rw [embL_map]; simp
    have p1 : E.ps 15 10 = [(0, 4), (1, 4)] := rfl
    have p3 : E.ps 15 11 = [(1, 8), (3, 8), (4, 8), (1, 13), (3, 13), (4, 13), (8, 13), (9, 13), (1, 15), (3, 15), (4, 15), (8, 15), (9, 15)] := rfl
    simp only [X.emb]
    rw [ev_enter (n := n + 2) (show E.ok 15 = true from rfl) Tryz.func15 (fn := Tryz.f15) rfl (Nat.le_of_ble_eq_true rfl) (by decide +kernel)]
    cases hmay with
    | set _ _ _ _ _ _ hk =>
      have ha := hall (fun x hx => by obtain ⟨_, _, _, _, _, rfl⟩ := hk x hx; exact .leaf _ _ _ _ _ _ (.inr (.inr (.inl rfl))) (by simp)) S
      generalize hJ : joinT (txtL kids) = J at *
      simp (disch := first | (simp only [List.length_append, List.length_cons, List.length_nil]; omega) | (simp; done) | assumption) [AV.cells?, AV.isCell, Tryz.f15, E_esc, k24, c24, a24, k3, c3, a3, k22, c22, a22, fq0, fq5, ha, X.txt, hJ]
    | leaf _ _ _ _ _ _ hk hb =>
      have hl : ev Tryz.prog E (n + 2) 37 [.agg [.int .i64 k, .str nm, .int .i64 a, .int .i64 lo, .int .i64 hi, .slice [] (tokOf tk)]] S = some (.ret (.str (leafT k nm a hi)), S) := ev_rleaf (n + 1) (by omega) k nm a lo hi (.slice [] (tokOf tk)) rfl hk hb f2 f4 (by omega) S
      rcases hk with rfl | rfl | rfl | rfl | rfl | rfl | rfl | rfl <;>
        simp (disch := first | (simp only [List.length_append, List.length_cons, List.length_nil]; omega) | (simp; done) | assumption) [AV.cells?, AV.isCell, Tryz.f15, E_esc, k24, c24, a24, k3, c3, a3, k22, c22, a22, fq0, fq5, sq22, hl, X.txt, embL]
    | one _ _ _ _ _ _ x hk hx =>
      have ha := hall (fun y hy => by simp at hy; subst hy; exact hx) S
      have hw : ∀ k, (k = 12 ∨ k = 25 ∨ k = 22 ∨ k = 23 ∨ k = 24) → ev Tryz.prog E (n + 2) 38 [.agg [.int .i64 k, .str nm, .int .i64 a, .int .i64 lo, .int .i64 hi, .slice (embL [x]) (tokOf tk)]] S = some (.ret (.str (frontT k lo hi)), S) := fun k hk => ev_front (n + 1) (by omega) k nm a lo hi _ rfl hk f3 f4 S
      have e1 := hrec2 x (by simp) hx S
      have l1 := txt_len x (fitL_mem (l := [x]) (by simp) f6)
      have l3 : x.bulk ≤ 1048576 := by have := bulkL_mem (x := x) (l := [x]) (by simp); omega
      obtain ⟨z, hz⟩ := ii24
      have ha1 := cells_all x
      have hc1 := (cells_ok x).2
      have ht1 : List.take 6 x.cells = x.cells := List.take_of_length_le (by omega)
      have hj1 : joinT (txtL [x]) = x.txt := by simp [joinT, txtL, Lib.join_one]
      simp only [emb_cells, embL] at e1 ha hw ⊢
      rw [hj1] at ha hj
      simp only [X.txt, hj1]
      generalize x.txt = t1 at *
      generalize x.cells = C1 at *
      have hfr := fun k => front_len (k := k) f3 f4
      rcases hk with rfl | rfl | rfl | rfl | rfl | rfl
      · simp (disch := first | (simp only [List.length_append, List.length_cons, List.length_nil]; omega) | (simp; done) | assumption) [AV.cells?, AV.isCell, Tryz.f15, E_esc, k24, c24, a24, k3, c3, a3, k22, c22, a22, fq0, fq5, sq22, e1, i24, hz, ha1, hc1, ht1]
      · have hq := hw 12 (by simp)
        have := hfr 12
        generalize frontT 12 lo hi = fr at *
        simp (disch := first | (simp only [List.length_append, List.length_cons, List.length_nil]; omega) | (simp; done) | assumption) [AV.cells?, AV.isCell, Tryz.f15, E_esc, k24, c24, a24, k3, c3, a3, k22, c22, a22, fq0, fq5, sq22, ha, hq, p1, ha1, hc1, ht1]
      · simp (disch := first | (simp only [List.length_append, List.length_cons, List.length_nil]; omega) | (simp; done) | assumption) [AV.cells?, AV.isCell, Tryz.f15, E_esc, k24, c24, a24, k3, c3, a3, k22, c22, a22, fq0, fq5, sq22, e1, i24, hz, ha1, hc1, ht1]
      · have hq := hw 22 (by simp)
        have := hfr 22
        generalize frontT 22 lo hi = fr at *
        simp (disch := first | (simp only [List.length_append, List.length_cons, List.length_nil]; omega) | (simp; done) | assumption) [AV.cells?, AV.isCell, Tryz.f15, E_esc, k24, c24, a24, k3, c3, a3, k22, c22, a22, fq0, fq5, sq22, ha, hq, p1, ha1, hc1, ht1]
      · have hq := hw 23 (by simp)
        have := hfr 23
        generalize frontT 23 lo hi = fr at *
        simp (disch := first | (simp only [List.length_append, List.length_cons, List.length_nil]; omega) | (simp; done) | assumption) [AV.cells?, AV.isCell, Tryz.f15, E_esc, k24, c24, a24, k3, c3, a3, k22, c22, a22, fq0, fq5, sq22, ha, hq, p1, ha1, hc1, ht1]
      · have hq := hw 25 (by simp)
        have := hfr 25
        generalize frontT 25 lo hi = fr at *
        simp (disch := first | (simp only [List.length_append, List.length_cons, List.length_nil]; omega) | (simp; done) | assumption) [AV.cells?, AV.isCell, Tryz.f15, E_esc, k24, c24, a24, k3, c3, a3, k22, c22, a22, fq0, fq5, sq22, ha, hq, p1, ha1, hc1, ht1]
    | two _ _ _ _ _ _ x y hk hx hy =>
      have ha := hall (fun z hz => by simp at hz; rcases hz with rfl | rfl <;> assumption) S
      have hs : ∀ k, (k = 8 ∨ k = 9 ∨ k = 10 ∨ k = 14 ∨ k = 15 ∨ k = 16 ∨ k = 17 ∨ k = 19 ∨ k = 20) → ev Tryz.prog E (n + 2) 39 [.int .i64 k] S = some (.ret (.str (signT k)), S) := fun k hk => ev_between (n + 1) k hk S
      have hq : ev Tryz.prog E (n + 2) 38 [.agg [.int .i64 24, .str nm, .int .i64 a, .int .i64 lo, .int .i64 hi, .slice (embL [x, y]) (tokOf tk)]] S = some (.ret (.str (frontT 24 lo hi)), S) := ev_front (n + 1) (by omega) 24 nm a lo hi _ rfl (by simp) f3 f4 S
      have hf24 := front_len (k := 24) f3 f4
      have e1 := hrec2 x (by simp) hx S
      have e2 := hrec2 y (by simp) hy S
      have l1 := txt_len x (fitL_mem (l := [x, y]) (by simp) f6)
      have l2 := txt_len y (fitL_mem (l := [x, y]) (by simp) f6)
      have l3 : x.bulk ≤ 1048576 := by have := bulkL_mem (x := x) (l := [x, y]) (by simp); omega
      have l4 : y.bulk ≤ 1048576 := by have := bulkL_mem (x := y) (l := [x, y]) (by simp); omega
      obtain ⟨z, hz⟩ := ii24
      have ha1 := cells_all x
      have ha2 := cells_all y
      have hc1 := (cells_ok x).2
      have hc2 := (cells_ok y).2
      have ht1 : List.take 6 x.cells = x.cells := List.take_of_length_le (by omega)
      have ht2 : List.take 6 y.cells = y.cells := List.take_of_length_le (by omega)
      simp only [emb_cells, embL] at e1 e2 ha hq ⊢
      rcases hk with rfl | rfl | rfl | rfl | rfl | rfl | rfl | rfl | rfl | rfl
      rotate_right 1
      · simp only [X.txt]
        generalize hJ : joinT (txtL [x, y]) = J at *
        generalize frontT 24 lo hi = fr at *
        generalize x.cells = C1 at *
        generalize y.cells = C2 at *
        simp (disch := first | (simp only [List.length_append, List.length_cons, List.length_nil]; omega) | (simp; done) | assumption) [AV.cells?, AV.isCell, Tryz.f15, E_esc, k24, c24, a24, k3, c3, a3, k22, c22, a22, fq0, fq5, sq22, ha, hq, p1, ha1, hc1, ht1, ha2, hc2, ht2]
      all_goals
        simp only [X.txt, txtL]
        generalize x.txt = t1 at *
        generalize y.txt = t2 at *
        generalize x.cells = C1 at *
        generalize y.cells = C2 at *
        simp (disch := first | (simp only [List.length_append, List.length_cons, List.length_nil]; omega) | (simp; done) | assumption) [AV.cells?, AV.isCell, Tryz.f15, E_esc, k24, c24, a24, k3, c3, a3, k22, c22, a22, fq0, fq5, sq22, hs, e1, e2, i24, hz, p3, binT, signT, ha1, ha2, hc1, hc2, ht1, ht2]
end Go.Proofs.YtemggoaefohliaaGreatDoor.PT
/- The reference's Check, evaluated (made by genck.py). No condition. -/
namespace Go.Proofs.YtemggoaefohliaaGreatDoor.CK
set_option linter.unusedVariables false
set_option linter.unusedSimpArgs false
open Go AE EX PT
set_option maxRecDepth 100000


theorem ev_head (n : Nat) (c : Int) (S : St) : ev Tryz.prog E (n + 1) 80 [.int .u8 c] S = some (.ret (.bool (headB c)), S) := by
  rw [ev_enter (n := n) (show E.ok 80 = true from rfl) Tryz.func80 (fn := Tryz.f80) rfl (Nat.le_of_ble_eq_true rfl) (by decide +kernel)]
  cases h1 : decide (97 ≤ c) <;> cases h2 : decide (c ≤ 122) <;> cases h3 : decide (65 ≤ c) <;> cases h4 : decide (c ≤ 90) <;> cases h5 : c == 95 <;>
    simp (disch := first | (simp only [List.length_append, List.length_cons, List.length_nil]; omega) | (simp; done) | assumption) [AV.cells?, AV.isCell, Tryz.f80, bq5, headB, h1, h2, h3, h4, h5]
theorem ev_tail (n : Nat) (c : Int) (S : St) : ev Tryz.prog E (n + 2) 96 [.int .u8 c] S = some (.ret (.bool (tailB c)), S) := by
  have hh := ev_head n c S
  rw [show n + 2 = (n + 1) + 1 from rfl, ev_enter (n := n + 1) (show E.ok 96 = true from rfl) Tryz.func96 (fn := Tryz.f96) rfl (Nat.le_of_ble_eq_true rfl) (by decide +kernel)]
  cases h0 : headB c <;> rw [h0] at hh <;> cases h1 : decide (48 ≤ c) <;> cases h2 : decide (c ≤ 57) <;>
    simp (disch := first | (simp only [List.length_append, List.length_cons, List.length_nil]; omega) | (simp; done) | assumption) [AV.cells?, AV.isCell, Tryz.f96, bq5, tailB, h0, h1, h2, hh]

/-! ### a text -/
noncomputable def pLoop : Code := cutC (bodyOf Tryz.f58) [1, 1, 0, 1, 0, 0]
noncomputable def pl0 : Code := cutC (bodyOf Tryz.f58) [0]
noncomputable def pl1 : Code := cutC (bodyOf Tryz.f58) [1, 0]
noncomputable def pl2 : Code := cutC (bodyOf Tryz.f58) [1, 1, 0, 0]
noncomputable def pl3 : Code := cutC (bodyOf Tryz.f58) [1, 1, 1]
theorem f54b : Tryz.f58.body = some (.seq pl0 (.seq pl1 (.seq (.seq pl2 (.block 0 (.loop pLoop))) pl3))) := rfl

theorem plain_round (n : Nat) (s : List UInt8) (S0 : St) (hs : s.length ≤ 32) (m : Nat) (fs : FS) (h : PI s S0 m fs) :
    ∃ o fs', evCode ⟨Tryz.prog, E.esc 58, n⟩ (ev Tryz.prog E n) (E.ps 58) n pLoop fs = some (o, fs') ∧ ((o = .norm ∧ ∃ m', m' < m ∧ PI s S0 m' fs') ∨ (o ≠ .norm ∧ PQ s S0 (o, fs'))) := by
  obtain ⟨t, b, v, S⟩ := fs
  obtain ⟨i, hi, h1, h2, h3, h4⟩ := h
  simp at h1 h2 h3
  subst h3
  cases m with
  | zero =>
    have hi : i = s.length := by omega
    subst hi
    refine ⟨.exit 0, _, by
      simp (disch := first | (simp only [List.length_append, List.length_cons, List.length_nil]; omega) | (simp; done) | assumption) [AV.cells?, AV.isCell, pLoop, cutC, bodyOf, Tryz.f58, h1, h2, bq3, sq9]
      rfl, .inr ⟨by simp, rfl, .inl ⟨rfl, by simpa using h4⟩⟩⟩
  | succ m =>
    have hlt : i < s.length := by omega
    have hxe : s[i]? = some s[i] := List.getElem?_eq_getElem hlt
    have hmem : s[i] ∈ s := List.getElem_mem hlt
    have htake : s.take (i + 1) = s.take i ++ [s[i]] := by rw [List.take_add_one, hxe]; rfl
    have hw : IntKind.i64.wrap ((i : Int) + 1) = (i : Int) + 1 := wrap64 _ (by omega)
    have bad : badB s[i] = true → s.all (fun c => !badB c) = false := fun hb => by
      rw [List.all_eq_false]
      exact ⟨_, hmem, by simp [hb]⟩
    have good : badB s[i] = false → (s.take (i + 1)).all (fun c => !badB c) = true := fun hb => by
      rw [htake, List.all_append, h4]; simp [hb]
    cases e1 : ((s[i].toNat : Int) == 34)
    · cases e2 : ((s[i].toNat : Int) == 10)
      · refine ⟨.norm, _, by
          simp (disch := first | (simp only [List.length_append, List.length_cons, List.length_nil]; omega) | (simp; done) | assumption) [AV.cells?, AV.isCell, pLoop, cutC, bodyOf, Tryz.f58, h1, h2, bq3, sq9, hlt, hxe, bq5, e1, e2]
          rfl, .inl ⟨rfl, m, by omega, i + 1, by omega, by simp [upd, h1], by simp [upd, hw], rfl, good (by simp [badB, e1, e2])⟩⟩
      · refine ⟨.ret, _, by
          simp (disch := first | (simp only [List.length_append, List.length_cons, List.length_nil]; omega) | (simp; done) | assumption) [AV.cells?, AV.isCell, pLoop, cutC, bodyOf, Tryz.f58, h1, h2, bq3, sq9, hlt, hxe, bq5, e1, e2]
          rfl, .inr ⟨by simp, rfl, .inr ⟨rfl, by simp [upd], bad (by simp [badB, e1, e2])⟩⟩⟩
    · refine ⟨.ret, _, by
        simp (disch := first | (simp only [List.length_append, List.length_cons, List.length_nil]; omega) | (simp; done) | assumption) [AV.cells?, AV.isCell, pLoop, cutC, bodyOf, Tryz.f58, h1, h2, bq3, sq9, hlt, hxe, bq5, e1]
        rfl, .inr ⟨by simp, rfl, .inr ⟨rfl, by simp [upd], bad (by simp [badB, e1])⟩⟩⟩

theorem ev_Plain (n : Nat) (hn : 33 ≤ n) (s : List UInt8) (S : St) : ev Tryz.prog E (n + 1) 58 [.str s] S = some (.ret (.bool (plainB s)), S) := by
  rw [ev_enter (n := n) (show E.ok 58 = true from rfl) Tryz.func58 f54b (Nat.le_of_ble_eq_true rfl) (by decide +kernel)]
  by_cases hs : s.length ≤ 32
  · obtain ⟨⟨o, t, b, v, S'⟩, hr, hS, hq⟩ := iter_meas (fun m fs h => plain_round n s S hs m fs h) s.length n ⟨upd 3 (.int .i64 0) (upd 6 (.bool false) (upd 5 (.int .i64 s.length) (upd 4 (.str s) (upd 2 (.bool false) (argsA [.str s]))))), fun _ => (0, []), 5, S⟩ (by omega)
      ⟨0, by omega, by simp [upd, argsA], by simp [upd], rfl, by simp⟩
    simp at hS hq
    subst hS
    have h32 : ¬ (32 : Int) < s.length := by omega
    have h32' : ¬ 32 < s.length := by omega
    rcases hq with ⟨rfl, ha⟩ | ⟨rfl, h2, ha⟩
    · have hp : plainB s = true := by simp [plainB, hs]; exact ha
      simp (disch := first | (simp only [List.length_append, List.length_cons, List.length_nil]; omega) | (simp; done) | assumption) [AV.cells?, AV.isCell, pl0, pl1, pl2, pl3, cutC, bodyOf, Tryz.f58, bq3, sq9, h32, h32', hr, hp]
    · have hp : plainB s = false := by simp [plainB, hs]; simpa using ha
      simp (disch := first | (simp only [List.length_append, List.length_cons, List.length_nil]; omega) | (simp; done) | assumption) [AV.cells?, AV.isCell, pl0, pl1, pl2, pl3, cutC, bodyOf, Tryz.f58, bq3, sq9, h32, h32', hr, hp, h2]
  · have h32 : (32 : Int) < s.length := by omega
    have h32' : 32 < s.length := by omega
    have hp : plainB s = false := by simp [plainB, hs]
    simp (disch := first | (simp only [List.length_append, List.length_cons, List.length_nil]; omega) | (simp; done) | assumption) [AV.cells?, AV.isCell, pl0, pl1, pl2, pl3, cutC, bodyOf, Tryz.f58, bq3, sq9, h32, h32', hp]
end Go.Proofs.YtemggoaefohliaaGreatDoor.CK
/- The reference's Check, evaluated (made by genck.py). No condition. -/
namespace Go.Proofs.YtemggoaefohliaaGreatDoor.CK
set_option linter.unusedVariables false
set_option linter.unusedSimpArgs false
open Go AE EX PT
set_option maxRecDepth 100000


noncomputable def nLoop : Code := cutC (bodyOf Tryz.f59) [1, 1, 0, 1, 0, 0]
noncomputable def nl0 : Code := cutC (bodyOf Tryz.f59) [0]
noncomputable def nl1 : Code := cutC (bodyOf Tryz.f59) [1, 0]
noncomputable def nl2 : Code := cutC (bodyOf Tryz.f59) [1, 1, 0, 0]
noncomputable def nl3 : Code := cutC (bodyOf Tryz.f59) [1, 1, 1]
theorem f55b : Tryz.f59.body = some (.seq nl0 (.seq nl1 (.seq (.seq nl2 (.block 0 (.loop nLoop))) nl3))) := rfl

theorem name_round (n : Nat) (c : UInt8) (r : List UInt8) (S0 : St) (hs : r.length ≤ 16) (m : Nat) (fs : FS) (h : NI c r S0 m fs) :
    ∃ o fs', evCode ⟨Tryz.prog, E.esc 59, n + 2⟩ (ev Tryz.prog E (n + 2)) (E.ps 59) (n + 2) nLoop fs = some (o, fs') ∧ ((o = .norm ∧ ∃ m', m' < m ∧ NI c r S0 m' fs') ∨ (o ≠ .norm ∧ NQ c r S0 (o, fs'))) := by
  obtain ⟨t, b, v, S⟩ := fs
  obtain ⟨i, hi, h1, h2, h3, h4⟩ := h
  simp only at h1 h2 h3
  subst h3
  cases m with
  | zero =>
    have hi : i = r.length := by omega
    subst hi
    refine ⟨.exit 0, _, by
      simp (disch := first | (simp only [List.length_append, List.length_cons, List.length_nil]; omega) | (simp; done) | assumption) [AV.cells?, AV.isCell, nLoop, cutC, bodyOf, Tryz.f59, h1, h2, bq3, sq9]
      rfl, .inr ⟨by simp, rfl, .inl ⟨rfl, by simpa using h4⟩⟩⟩
  | succ m =>
    have hlt : i < r.length := by omega
    have hxe : r[i]? = some r[i] := List.getElem?_eq_getElem hlt
    have hmem : r[i] ∈ r := List.getElem_mem hlt
    have htake : r.take (i + 1) = r.take i ++ [r[i]] := by rw [List.take_add_one, hxe]; rfl
    have hw : IntKind.i64.wrap (((i + 1 : Nat) : Int) + 1) = ((i + 1 + 1 : Nat) : Int) := by rw [wrap64 _ (by omega)]; omega
    have ht := ev_tail n (r[i].toNat : Int) S
    have hidx : evIndex Tryz.prog 9 (.str (c :: r)) (.int .i64 ((i + 1 : Nat) : Int)) = some (.int .u8 (r[i].toNat : Int)) := by
      simp [evIndex, sq9, hlt]
      omega
    have hlt2 : decide (((i + 1 : Nat) : Int) < ((c :: r).length : Int)) = true := by simp; omega
    have hlt3 : i + 1 < (c :: r).length := by simp; omega
    cases e1 : tailB (r[i].toNat : Int)
    · rw [e1] at ht
      have bad : r.all tl = false := by
        rw [List.all_eq_false]
        exact ⟨_, hmem, by simp [tl, e1]⟩
      refine ⟨.ret, _, by
        simp -implicitDefEqProofs (disch := first | (simp only [List.length_append, List.length_cons, List.length_nil]; omega) | (simp; done) | assumption) [AV.cells?, AV.isCell, -evIndex, -Int.natCast_add, -List.length_cons, nLoop, cutC, bodyOf, Tryz.f59, h1, h2, bq3, sq9, hidx, hlt2, hlt3, ht]
        rfl, .inr ⟨by simp, rfl, .inr ⟨rfl, by simp [upd], bad⟩⟩⟩
    · rw [e1] at ht
      have good : (r.take (i + 1)).all tl = true := by rw [htake, List.all_append, h4]; simp [tl, e1]
      refine ⟨.norm, _, by
        simp -implicitDefEqProofs (disch := first | (simp only [List.length_append, List.length_cons, List.length_nil]; omega) | (simp; done) | assumption) [AV.cells?, AV.isCell, -evIndex, -Int.natCast_add, -List.length_cons, nLoop, cutC, bodyOf, Tryz.f59, h1, h2, bq3, sq9, hidx, hlt2, hlt3, ht, hw]
        rfl, .inl ⟨rfl, m, by omega, i + 1, by omega, by simp [upd, h1], by simp [upd, hw], rfl, good⟩⟩

theorem ev_Name (n : Nat) (hn : 33 ≤ n) (s : List UInt8) (S : St) : ev Tryz.prog E (n + 3) 59 [.str s] S = some (.ret (.bool (nameB s)), S) := by
  rw [show n + 3 = (n + 2) + 1 from rfl, ev_enter (n := n + 2) (show E.ok 59 = true from rfl) Tryz.func59 f55b (Nat.le_of_ble_eq_true rfl) (by decide +kernel)]
  cases s with
  | nil => simp (disch := first | (simp only [List.length_append, List.length_cons, List.length_nil]; omega) | (simp; done) | assumption) [AV.cells?, AV.isCell, nl0, nl1, nl2, nl3, cutC, bodyOf, Tryz.f59, bq9, bq3, sq9, nameB]
  | cons c r =>
    have hne : ((c :: r) == ([] : List UInt8)) = false := rfl
    by_cases hs : r.length + 1 ≤ 16
    · have h16 : ¬ 16 < r.length + 1 := by omega
      have h16z : ¬ (16 : Int) < (r.length : Int) + 1 := by omega
      have hh : ev Tryz.prog E (n + 2) 80 [.int .u8 (c.toNat : Int)] S = _ := ev_head (n + 1) (c.toNat : Int) S
      have hidx : evIndex Tryz.prog 9 (.str (c :: r)) (.int .i64 0) = some (.int .u8 (c.toNat : Int)) := by simp [evIndex, sq9]
      cases e0 : headB (c.toNat : Int)
      · rw [e0] at hh
        simp (disch := first | (simp only [List.length_append, List.length_cons, List.length_nil]; omega) | (simp; done) | assumption) [AV.cells?, AV.isCell, -evIndex, nl0, nl1, nl2, nl3, cutC, bodyOf, Tryz.f59, bq9, bq3, sq9, nameB, hne, h16, h16z, hidx, hh, e0]
      · rw [e0] at hh
        obtain ⟨⟨o, t, b, v, S'⟩, hr, hS, hq⟩ := iter_meas (fun m fs h => name_round n c r S (by omega) m fs h) r.length (n + 2)
          ⟨upd 3 (.int .i64 1) (upd 16 (.bool false) (upd 15 (.bool false) (upd 14 (.bool true) (upd 13 (.int .u8 (c.toNat : Int)) (upd 12 (.str (c :: r)) (upd 11 (.bool false) (upd 10 (.bool false) (upd 9 (.bool false) (upd 8 (.int .i64 ((r.length : Int) + 1)) (upd 7 (.str (c :: r)) (upd 6 (.bool false) (upd 5 (.bool false) (upd 4 (.str (c :: r)) (upd 2 (.bool false) (argsA [.str (c :: r)]))))))))))))))), fun _ => (0, []), 15, S⟩ (by omega)
          ⟨0, by omega, by simp [upd, argsA], by simp [upd], rfl, by simp⟩
        simp only at hS hq
        subst hS
        rcases hq with ⟨rfl, ha⟩ | ⟨rfl, h2, ha⟩
        · simp (disch := first | (simp only [List.length_append, List.length_cons, List.length_nil]; omega) | (simp; done) | assumption) [AV.cells?, AV.isCell, -evIndex, nl0, nl1, nl2, nl3, cutC, bodyOf, Tryz.f59, bq9, bq3, sq9, nameB, hne, h16, h16z, hidx, hh, e0, hr, ha, hs]
        · simp (disch := first | (simp only [List.length_append, List.length_cons, List.length_nil]; omega) | (simp; done) | assumption) [AV.cells?, AV.isCell, -evIndex, nl0, nl1, nl2, nl3, cutC, bodyOf, Tryz.f59, bq9, bq3, sq9, nameB, hne, h16, h16z, hidx, hh, e0, hr, ha, h2, hs]
    · have h16 : 16 < r.length + 1 := by omega
      have h16z : (16 : Int) < (r.length : Int) + 1 := by omega
      have hs' : decide (r.length + 1 ≤ 16) = false := by simp; omega
      simp (disch := first | (simp only [List.length_append, List.length_cons, List.length_nil]; omega) | (simp; done) | assumption) [AV.cells?, AV.isCell, -evIndex, nl0, nl1, nl2, nl3, cutC, bodyOf, Tryz.f59, bq9, bq3, sq9, nameB, hne, h16, h16z, hs']
      intro h
      omega
end Go.Proofs.YtemggoaefohliaaGreatDoor.CK
/- The reference's Check, evaluated (made by genck.py). No condition. -/
namespace Go.Proofs.YtemggoaefohliaaGreatDoor.CK
set_option linter.unusedVariables false
set_option linter.unusedSimpArgs false
open Go AE EX PT
set_option maxRecDepth 100000


theorem ev_Kids (n : Nat) (k : Int) (S : St) : ev Tryz.prog E (n + 1) 33 [.int .i64 k] S = some (.ret (.int .i64 (kidsI k)), S) := by
  rw [ev_enter (n := n) (show E.ok 33 = true from rfl) Tryz.func33 (fn := Tryz.f33) rfl (Nat.le_of_ble_eq_true rfl) (by decide +kernel)]
  by_cases h1 : k < 1
  · simp (disch := first | (simp only [List.length_append, List.length_cons, List.length_nil]; omega) | (simp; done) | assumption) [AV.cells?, AV.isCell, Tryz.f33, bq3, kidsI, h1]
  by_cases h2 : 25 < k
  · simp (disch := first | (simp only [List.length_append, List.length_cons, List.length_nil]; omega) | (simp; done) | assumption) [AV.cells?, AV.isCell, Tryz.f33, bq3, kidsI, h1, h2]
  have hk : kinds k := (kinds_iff k).2 (by omega)
  clear h1 h2
  rcases hk with rfl | rfl | rfl | rfl | rfl | rfl | rfl | rfl | rfl | rfl | rfl | rfl | rfl | rfl | rfl | rfl | rfl | rfl | rfl | rfl | rfl | rfl | rfl | rfl | rfl <;>
    simp (disch := first | (simp only [List.length_append, List.length_cons, List.length_nil]; omega) | (simp; done) | assumption) [AV.cells?, AV.isCell, Tryz.f33, bq3, kidsI]


def FitsOut (n : Nat) (k : Int) (nm : List UInt8) (a lo hi : Int) (ks : AV) (S : St) : Prop :=
  ∃ b, ev Tryz.prog E (n + 4) 35 [.agg [.int .i64 k, .str nm, .int .i64 a, .int .i64 lo, .int .i64 hi, ks]] S = some (.ret (.bool b), S) ∧ (b = true ↔ Fits k nm a lo hi)

set_option maxHeartbeats 4000000 in
theorem fits_plain (n : Nat) (hn : 40 ≤ n) (k : Int) (nm : List UInt8) (a lo hi : Int) (ks : AV) (hks : ks.isCell = true) (S : St)
    (hk : k = 4 ∨ k = 7 ∨ k = 8 ∨ k = 9 ∨ k = 10 ∨ k = 11 ∨ k = 12 ∨ k = 14 ∨ k = 15 ∨ k = 16 ∨ k = 17 ∨ k = 18 ∨ k = 19 ∨ k = 20 ∨ k = 25) : FitsOut n k nm a lo hi ks S := by
  unfold FitsOut
  rw [ev_enter (n := n + 3) (show E.ok 35 = true from rfl) Tryz.func35 (fn := Tryz.f35) rfl (Nat.le_of_ble_eq_true rfl) (by decide +kernel)]
  cases h1 : (nm == [])
  · refine ⟨false, ?_, iff_of_false (by simp) fun f => by have := f.none (by omega); subst this; simp at h1⟩
    rcases hk with rfl | rfl | rfl | rfl | rfl | rfl | rfl | rfl | rfl | rfl | rfl | rfl | rfl | rfl | rfl <;>
      simp (disch := first | (simp only [List.length_append, List.length_cons, List.length_nil]; omega) | (simp; done) | assumption) [AV.cells?, AV.isCell, Tryz.f35, E_esc, k24, c24, a24, k3, c3, a3, k2, c2, a2, k9, c9, a9, fq0, fq1, fq2, fq3, fq4, bq3, bq2, bq9, hks, -AV.isCell, bne, h1]
  cases h2 : (a == 0)
  · refine ⟨false, ?_, iff_of_false (by simp) fun f => by have := f.num (by omega) (by omega); subst this; simp at h2⟩
    rcases hk with rfl | rfl | rfl | rfl | rfl | rfl | rfl | rfl | rfl | rfl | rfl | rfl | rfl | rfl | rfl <;>
      simp (disch := first | (simp only [List.length_append, List.length_cons, List.length_nil]; omega) | (simp; done) | assumption) [AV.cells?, AV.isCell, Tryz.f35, E_esc, k24, c24, a24, k3, c3, a3, k2, c2, a2, k9, c9, a9, fq0, fq1, fq2, fq3, fq4, bq3, bq2, bq9, hks, -AV.isCell, bne, h1, h2]
  cases h3 : (lo == 0)
  · refine ⟨false, ?_, iff_of_false (by simp) fun f => by have := (f.zero (by omega)).1; subst this; simp at h3⟩
    rcases hk with rfl | rfl | rfl | rfl | rfl | rfl | rfl | rfl | rfl | rfl | rfl | rfl | rfl | rfl | rfl <;>
      simp (disch := first | (simp only [List.length_append, List.length_cons, List.length_nil]; omega) | (simp; done) | assumption) [AV.cells?, AV.isCell, Tryz.f35, E_esc, k24, c24, a24, k3, c3, a3, k2, c2, a2, k9, c9, a9, fq0, fq1, fq2, fq3, fq4, bq3, bq2, bq9, hks, -AV.isCell, bne, h1, h2, h3]
  refine ⟨hi == 0, ?_, fun h => ?_, fun f => by have := (f.zero (by omega)).2; simp [this]⟩
  · rcases hk with rfl | rfl | rfl | rfl | rfl | rfl | rfl | rfl | rfl | rfl | rfl | rfl | rfl | rfl | rfl <;>
      simp (disch := first | (simp only [List.length_append, List.length_cons, List.length_nil]; omega) | (simp; done) | assumption) [AV.cells?, AV.isCell, Tryz.f35, E_esc, k24, c24, a24, k3, c3, a3, k2, c2, a2, k9, c9, a9, fq0, fq1, fq2, fq3, fq4, bq3, bq2, bq9, hks, -AV.isCell, bne, h1, h2, h3]
  · have e1 : nm = [] := by simpa using h1
    have e2 : a = 0 := by simpa using h2
    have e3 : lo = 0 := by simpa using h3
    have e4 : hi = 0 := by simpa using h
    exact ⟨by omega, by omega, fun _ => e1, by omega, by omega, fun _ _ => e2, by omega, by omega, fun _ => ⟨e3, e4⟩⟩
end Go.Proofs.YtemggoaefohliaaGreatDoor.CK
