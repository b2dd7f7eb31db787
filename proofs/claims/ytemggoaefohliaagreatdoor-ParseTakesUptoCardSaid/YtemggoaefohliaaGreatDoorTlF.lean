/- Joined: DpI, DpJ, DpK, DpL, DpM, DpN, DpO, DpP, DqA, DqB, DqC, DqD, RpA. No condition beyond those of its lemmas. -/
import Derived.Test.YtemggoaefohliaaGreatDoorTlE
/- The parser: timed, signed, named, evaluated (printed by gendp4.py). No condition. -/
namespace Go.Proofs.YtemggoaefohliaaGreatDoor.PS
set_option linter.unusedVariables false
set_option linter.unusedSimpArgs false
open Go AE EX PT NF LX
set_option maxRecDepth 100000
theorem i22 : (Tryz.prog.info? 23).isSome = true := by kernel_rfl
theorem embL1 (x : X) : embL [x] = [x.emb] := rfl
theorem embL2 (x y : X) : embL [x, y] = [x.emb, y.emb] := rfl
theorem bS1' (x : X) : evBuildSlice Tryz.prog 23 1 [(0, x.emb)] = some (.slice [x.emb] .clip) := bS1 x
theorem bS2' (x y : X) : evBuildSlice Tryz.prog 23 2 [(0, x.emb), (1, y.emb)] = some (.slice [x.emb, y.emb] .clip) := bS2 x y
theorem mk_emb (k : Int) (lo hi : Int) (ks : List X) : (X.mk k [] 0 lo hi true ks).emb = .agg [.int .i64 k, .str [], .int .i64 0, .int .i64 lo, .int .i64 hi, .slice (embL ks) .clip] := rfl
theorem bX0' (k : Int) : evBuild Tryz.prog 25 [(0, .int .i64 k)] = some (.agg [.int .i64 k, .str [], .int .i64 0, .int .i64 0, .int .i64 0, .slice [] .clip]) := bX0 k
section
variable {H0 : List HBox} {a : Nat} (ha : a < H0.length) (T : List Nat) (l : List Tk) (hl : l.length ≤ 2000000)
include ha hl
set_option maxHeartbeats 8000000 in
theorem ev80 (n d : Nat) (any : Nat → PR X) (hA : Sub H0 T a l d (n + 5) 138 (argP (hereT l) any)) (hs : Sub H0 T a l d (n + 5) 27 any) : Sub H0 T a l d (n + 6) 139 (timedP (hereT l) any) := by
  intro p
  rw [show n + 6 = (n + 5) + 1 from rfl, ev_enter (n := n + 5) (show E.ok 139 = true from rfl) Tryz.func139 (fn := Tryz.f139) rfl (Nat.le_of_ble_eq_true rfl) (by decide +kernel)]
  unfold timedP
  have i1 : ev Tryz.prog E (n + 5) 52 [.ptr a 0, .str [111, 110, 99, 101]] (PSt H0 T a l (p) d) = _ := ev_is ha T l hl (n + 3) (p) d _ _
  by_cases b1 : isB (hereT l) (p) [111, 110, 99, 101] = true
  · rw [if_pos b1]
    have ilt := is_lt b1
    have ib := b1
    rw [b1] at i1
    simp only [if_true] at i1
    unfold lookP
    have h2 := ev82 ha T l hl n (p + 1) d
    cases e2 : spanP (hereT l) (p + 1) with
    | error z =>
      obtain ⟨c', w⟩ := z
      rw [e2, ansR_err] at h2
      rw [th_err, ansX_err]
      have hf := fin_stop H0 T a l p d w c' w
      generalize PSt H0 T a l (w) d = L0 at *
      generalize PSt H0 T a l (p + 1) d = L1 at *
      generalize PSt H0 T a l (p) d = L2 at *
      generalize stopV (hereT l) c' w = sv at *
      simp (disch := first | (simp only [List.length_append, List.length_cons, List.length_nil]; omega) | (simp; done) | assumption) [AV.cells?, AV.isCell, -AV.cells?, cq_int, cq_str, cq_slice, cq_bool, -evBuild, -evBuildSlice, Tryz.f139, E_esc, i1, h2, finPan, hf, z24, c24, a24, k24, i24, tq46_0, tq46_1, tq46_2, tc46, ta46, tk46, ti46, tz46, fq0, fq3, fq4, fq5, c3, a3, k3, i3, c2, a2, k2, i2, c22, a22, k22, i22, bq3, bq2]
    | ok z =>
      obtain ⟨lh, r2⟩ := z
      rw [e2, ansR_ok] at h2
      rw [th_ok]
      obtain ⟨lo, hi⟩ := lh; simp only at h2
      have h3 := hA (r2)
      cases e3 : argP (hereT l) any (r2) with
      | error z =>
        obtain ⟨c', w⟩ := z
        rw [e3, ansX_err] at h3
        rw [th_err, ansX_err]
        have hf := fin_stop H0 T a l p d w c' w
        generalize PSt H0 T a l (w) d = L0 at *
        generalize PSt H0 T a l (r2) d = L1 at *
        generalize PSt H0 T a l (p + 1) d = L2 at *
        generalize PSt H0 T a l (p) d = L3 at *
        generalize stopV (hereT l) c' w = sv at *
        simp (disch := first | (simp only [List.length_append, List.length_cons, List.length_nil]; omega) | (simp; done) | assumption) [AV.cells?, AV.isCell, -AV.cells?, cq_int, cq_str, cq_slice, cq_bool, -evBuild, -evBuildSlice, Tryz.f139, E_esc, i1, h2, h3, finPan, hf, z24, c24, a24, k24, i24, tq46_0, tq46_1, tq46_2, tc46, ta46, tk46, ti46, tz46, fq0, fq3, fq4, fq5, c3, a3, k3, i3, c2, a2, k2, i2, c22, a22, k22, i22, bq3, bq2]
      | ok z =>
        obtain ⟨x, r3⟩ := z
        rw [e3, ansX_ok] at h3
        rw [th_ok]
        have hcx := xcells x
        have hlx := xlen x
        have htx := xtake x
        have hex := xemb x
        rw [ansX_ok]
        have hf := fin_X H0 T a l p d (r3) (X.mk 22 [] 0 lo hi true [x])
        have hbs := bS1' x
        simp only [mk_emb, embL1] at hf ⊢
        generalize PSt H0 T a l (r3) d = L0 at *
        generalize PSt H0 T a l (r2) d = L1 at *
        generalize PSt H0 T a l (p + 1) d = L2 at *
        generalize PSt H0 T a l (p) d = L3 at *
        generalize x.cells = xc at *
        generalize x.emb = xe at *
        simp (disch := first | (simp only [List.length_append, List.length_cons, List.length_nil]; omega) | (simp; done) | assumption) [AV.cells?, AV.isCell, -AV.cells?, cq_int, cq_str, cq_slice, cq_bool, -evBuild, -evBuildSlice, Tryz.f139, E_esc, i1, h2, h3, hcx, hlx, htx, hex, hbs, hf, z24, c24, a24, k24, i24, tq46_0, tq46_1, tq46_2, tc46, ta46, tk46, ti46, tz46, fq0, fq3, fq4, fq5, c3, a3, k3, i3, c2, a2, k2, i2, c22, a22, k22, i22, bq3, bq2]
  · rw [if_neg b1]
    simp only [Bool.not_eq_true] at b1
    rw [b1] at i1
    simp only [Bool.false_eq_true, if_false] at i1
    have i4 : ev Tryz.prog E (n + 5) 52 [.ptr a 0, .str [104, 105, 115, 116]] (PSt H0 T a l (p) d) = _ := ev_is ha T l hl (n + 3) (p) d _ _
    by_cases b4 : isB (hereT l) (p) [104, 105, 115, 116] = true
    · rw [if_pos b4]
      have ilt := is_lt b4
      have ib := b4
      rw [b4] at i4
      simp only [if_true] at i4
      unfold lookP
      have h5 := ev82 ha T l hl n (p + 1) d
      cases e5 : spanP (hereT l) (p + 1) with
      | error z =>
        obtain ⟨c', w⟩ := z
        rw [e5, ansR_err] at h5
        rw [th_err, ansX_err]
        have hf := fin_stop H0 T a l p d w c' w
        generalize PSt H0 T a l (w) d = L0 at *
        generalize PSt H0 T a l (p + 1) d = L1 at *
        generalize PSt H0 T a l (p) d = L2 at *
        generalize stopV (hereT l) c' w = sv at *
        simp (disch := first | (simp only [List.length_append, List.length_cons, List.length_nil]; omega) | (simp; done) | assumption) [AV.cells?, AV.isCell, -AV.cells?, cq_int, cq_str, cq_slice, cq_bool, -evBuild, -evBuildSlice, Tryz.f139, E_esc, i1, i4, h5, finPan, hf, z24, c24, a24, k24, i24, tq46_0, tq46_1, tq46_2, tc46, ta46, tk46, ti46, tz46, fq0, fq3, fq4, fq5, c3, a3, k3, i3, c2, a2, k2, i2, c22, a22, k22, i22, bq3, bq2]
      | ok z =>
        obtain ⟨lh, r5⟩ := z
        rw [e5, ansR_ok] at h5
        rw [th_ok]
        obtain ⟨lo, hi⟩ := lh; simp only at h5
        have h6 := hA (r5)
        cases e6 : argP (hereT l) any (r5) with
        | error z =>
          obtain ⟨c', w⟩ := z
          rw [e6, ansX_err] at h6
          rw [th_err, ansX_err]
          have hf := fin_stop H0 T a l p d w c' w
          generalize PSt H0 T a l (w) d = L0 at *
          generalize PSt H0 T a l (r5) d = L1 at *
          generalize PSt H0 T a l (p + 1) d = L2 at *
          generalize PSt H0 T a l (p) d = L3 at *
          generalize stopV (hereT l) c' w = sv at *
          simp (disch := first | (simp only [List.length_append, List.length_cons, List.length_nil]; omega) | (simp; done) | assumption) [AV.cells?, AV.isCell, -AV.cells?, cq_int, cq_str, cq_slice, cq_bool, -evBuild, -evBuildSlice, Tryz.f139, E_esc, i1, i4, h5, h6, finPan, hf, z24, c24, a24, k24, i24, tq46_0, tq46_1, tq46_2, tc46, ta46, tk46, ti46, tz46, fq0, fq3, fq4, fq5, c3, a3, k3, i3, c2, a2, k2, i2, c22, a22, k22, i22, bq3, bq2]
        | ok z =>
          obtain ⟨x, r6⟩ := z
          rw [e6, ansX_ok] at h6
          rw [th_ok]
          have hcx := xcells x
          have hlx := xlen x
          have htx := xtake x
          have hex := xemb x
          rw [ansX_ok]
          have hf := fin_X H0 T a l p d (r6) (X.mk 23 [] 0 lo hi true [x])
          have hbs := bS1' x
          simp only [mk_emb, embL1] at hf ⊢
          generalize PSt H0 T a l (r6) d = L0 at *
          generalize PSt H0 T a l (r5) d = L1 at *
          generalize PSt H0 T a l (p + 1) d = L2 at *
          generalize PSt H0 T a l (p) d = L3 at *
          generalize x.cells = xc at *
          generalize x.emb = xe at *
          simp (disch := first | (simp only [List.length_append, List.length_cons, List.length_nil]; omega) | (simp; done) | assumption) [AV.cells?, AV.isCell, -AV.cells?, cq_int, cq_str, cq_slice, cq_bool, -evBuild, -evBuildSlice, Tryz.f139, E_esc, i1, i4, h5, h6, hcx, hlx, htx, hex, hbs, hf, z24, c24, a24, k24, i24, tq46_0, tq46_1, tq46_2, tc46, ta46, tk46, ti46, tz46, fq0, fq3, fq4, fq5, c3, a3, k3, i3, c2, a2, k2, i2, c22, a22, k22, i22, bq3, bq2]
    · rw [if_neg b4]
      simp only [Bool.not_eq_true] at b4
      rw [b4] at i4
      simp only [Bool.false_eq_true, if_false] at i4
      have i7 : ev Tryz.prog E (n + 5) 52 [.ptr a 0, .str [115, 105, 110, 99, 101]] (PSt H0 T a l (p) d) = _ := ev_is ha T l hl (n + 3) (p) d _ _
      by_cases b7 : isB (hereT l) (p) [115, 105, 110, 99, 101] = true
      · rw [if_pos b7]
        have ilt := is_lt b7
        have ib := b7
        rw [b7] at i7
        simp only [if_true] at i7
        have hps : E.ps 139 16 = [(0, 2), (2, 2)] := rfl
        unfold sinceP
        have h8 := ev82 ha T l hl n (p + 1) d
        cases e8 : spanP (hereT l) (p + 1) with
        | error z =>
          obtain ⟨c', w⟩ := z
          rw [e8, ansR_err] at h8
          rw [th_err, ansX_err]
          have hf := fin_stop H0 T a l p d w c' w
          generalize PSt H0 T a l (w) d = L0 at *
          generalize PSt H0 T a l (p + 1) d = L1 at *
          generalize PSt H0 T a l (p) d = L2 at *
          generalize stopV (hereT l) c' w = sv at *
          simp (disch := first | (simp only [List.length_append, List.length_cons, List.length_nil]; omega) | (simp; done) | assumption) [AV.cells?, AV.isCell, -AV.cells?, cq_int, cq_str, cq_slice, cq_bool, -evBuild, -evBuildSlice, Tryz.f139, E_esc, i1, i4, i7, hps, h8, finPan, hf, z24, c24, a24, k24, i24, tq46_0, tq46_1, tq46_2, tc46, ta46, tk46, ti46, tz46, fq0, fq3, fq4, fq5, c3, a3, k3, i3, c2, a2, k2, i2, c22, a22, k22, i22, bq3, bq2]
        | ok z =>
          obtain ⟨lh, r8⟩ := z
          rw [e8, ansR_ok] at h8
          rw [th_ok]
          obtain ⟨lo, hi⟩ := lh; simp only at h8
          have h9 : ev Tryz.prog E (n + 5) 134 [.ptr a 0, .str [40]] (PSt H0 T a l (r8) d) = _ := ev_need ha T l hl (n + 1) (r8) d _ _
          cases e9 : needP (hereT l) [40] (r8) with
          | error z =>
            obtain ⟨c', w⟩ := z
            rw [e9, ansR_err] at h9
            rw [th_err, ansX_err]
            have hf := fin_stop H0 T a l p d w c' w
            generalize PSt H0 T a l (w) d = L0 at *
            generalize PSt H0 T a l (r8) d = L1 at *
            generalize PSt H0 T a l (p + 1) d = L2 at *
            generalize PSt H0 T a l (p) d = L3 at *
            generalize stopV (hereT l) c' w = sv at *
            simp (disch := first | (simp only [List.length_append, List.length_cons, List.length_nil]; omega) | (simp; done) | assumption) [AV.cells?, AV.isCell, -AV.cells?, cq_int, cq_str, cq_slice, cq_bool, -evBuild, -evBuildSlice, Tryz.f139, E_esc, i1, i4, i7, hps, h8, h9, finPan, hf, z24, c24, a24, k24, i24, tq46_0, tq46_1, tq46_2, tc46, ta46, tk46, ti46, tz46, fq0, fq3, fq4, fq5, c3, a3, k3, i3, c2, a2, k2, i2, c22, a22, k22, i22, bq3, bq2]
          | ok z =>
            obtain ⟨_u9, r9⟩ := z
            rw [e9, ansR_ok] at h9
            rw [th_ok]
            have h10 := hs (r9)
            cases e10 : any (r9) with
            | error z =>
              obtain ⟨c', w⟩ := z
              rw [e10, ansX_err] at h10
              rw [th_err, ansX_err]
              have hf := fin_stop H0 T a l p d w c' w
              generalize PSt H0 T a l (w) d = L0 at *
              generalize PSt H0 T a l (r9) d = L1 at *
              generalize PSt H0 T a l (r8) d = L2 at *
              generalize PSt H0 T a l (p + 1) d = L3 at *
              generalize PSt H0 T a l (p) d = L4 at *
              generalize stopV (hereT l) c' w = sv at *
              simp (disch := first | (simp only [List.length_append, List.length_cons, List.length_nil]; omega) | (simp; done) | assumption) [AV.cells?, AV.isCell, -AV.cells?, cq_int, cq_str, cq_slice, cq_bool, -evBuild, -evBuildSlice, Tryz.f139, E_esc, i1, i4, i7, hps, h8, h9, h10, finPan, hf, z24, c24, a24, k24, i24, tq46_0, tq46_1, tq46_2, tc46, ta46, tk46, ti46, tz46, fq0, fq3, fq4, fq5, c3, a3, k3, i3, c2, a2, k2, i2, c22, a22, k22, i22, bq3, bq2]
            | ok z =>
              obtain ⟨x, r10⟩ := z
              rw [e10, ansX_ok] at h10
              rw [th_ok]
              have hcx := xcells x
              have hlx := xlen x
              have htx := xtake x
              have hex := xemb x
              have h11 : ev Tryz.prog E (n + 5) 134 [.ptr a 0, .str [44]] (PSt H0 T a l (r10) d) = _ := ev_need ha T l hl (n + 1) (r10) d _ _
              cases e11 : needP (hereT l) [44] (r10) with
              | error z =>
                obtain ⟨c', w⟩ := z
                rw [e11, ansR_err] at h11
                rw [th_err, ansX_err]
                have hf := fin_stop H0 T a l p d w c' w
                generalize PSt H0 T a l (w) d = L0 at *
                generalize PSt H0 T a l (r10) d = L1 at *
                generalize PSt H0 T a l (r9) d = L2 at *
                generalize PSt H0 T a l (r8) d = L3 at *
                generalize PSt H0 T a l (p + 1) d = L4 at *
                generalize PSt H0 T a l (p) d = L5 at *
                generalize stopV (hereT l) c' w = sv at *
                generalize x.cells = xc at *
                generalize x.emb = xe at *
                simp (disch := first | (simp only [List.length_append, List.length_cons, List.length_nil]; omega) | (simp; done) | assumption) [AV.cells?, AV.isCell, -AV.cells?, cq_int, cq_str, cq_slice, cq_bool, -evBuild, -evBuildSlice, Tryz.f139, E_esc, i1, i4, i7, hps, h8, h9, h10, h11, hcx, hlx, htx, hex, finPan, hf, z24, c24, a24, k24, i24, tq46_0, tq46_1, tq46_2, tc46, ta46, tk46, ti46, tz46, fq0, fq3, fq4, fq5, c3, a3, k3, i3, c2, a2, k2, i2, c22, a22, k22, i22, bq3, bq2]
              | ok z =>
                obtain ⟨_u11, r11⟩ := z
                rw [e11, ansR_ok] at h11
                rw [th_ok]
                have h12 := hs (r11)
                cases e12 : any (r11) with
                | error z =>
                  obtain ⟨c', w⟩ := z
                  rw [e12, ansX_err] at h12
                  rw [th_err, ansX_err]
                  have hf := fin_stop H0 T a l p d w c' w
                  generalize PSt H0 T a l (w) d = L0 at *
                  generalize PSt H0 T a l (r11) d = L1 at *
                  generalize PSt H0 T a l (r10) d = L2 at *
                  generalize PSt H0 T a l (r9) d = L3 at *
                  generalize PSt H0 T a l (r8) d = L4 at *
                  generalize PSt H0 T a l (p + 1) d = L5 at *
                  generalize PSt H0 T a l (p) d = L6 at *
                  generalize stopV (hereT l) c' w = sv at *
                  generalize x.cells = xc at *
                  generalize x.emb = xe at *
                  simp (disch := first | (simp only [List.length_append, List.length_cons, List.length_nil]; omega) | (simp; done) | assumption) [AV.cells?, AV.isCell, -AV.cells?, cq_int, cq_str, cq_slice, cq_bool, -evBuild, -evBuildSlice, Tryz.f139, E_esc, i1, i4, i7, hps, h8, h9, h10, h11, h12, hcx, hlx, htx, hex, finPan, hf, z24, c24, a24, k24, i24, tq46_0, tq46_1, tq46_2, tc46, ta46, tk46, ti46, tz46, fq0, fq3, fq4, fq5, c3, a3, k3, i3, c2, a2, k2, i2, c22, a22, k22, i22, bq3, bq2]
                | ok z =>
                  obtain ⟨y, r12⟩ := z
                  rw [e12, ansX_ok] at h12
                  rw [th_ok]
                  have hbs := bS2' x y
                  have hcy := xcells y
                  have hly := xlen y
                  have hty := xtake y
                  have hey := xemb y
                  have h13 : ev Tryz.prog E (n + 5) 134 [.ptr a 0, .str [41]] (PSt H0 T a l (r12) d) = _ := ev_need ha T l hl (n + 1) (r12) d _ _
                  cases e13 : needP (hereT l) [41] (r12) with
                  | error z =>
                    obtain ⟨c', w⟩ := z
                    rw [e13, ansR_err] at h13
                    rw [th_err, ansX_err]
                    have hf := fin_stop H0 T a l p d w c' w
                    generalize PSt H0 T a l (w) d = L0 at *
                    generalize PSt H0 T a l (r12) d = L1 at *
                    generalize PSt H0 T a l (r11) d = L2 at *
                    generalize PSt H0 T a l (r10) d = L3 at *
                    generalize PSt H0 T a l (r9) d = L4 at *
                    generalize PSt H0 T a l (r8) d = L5 at *
                    generalize PSt H0 T a l (p + 1) d = L6 at *
                    generalize PSt H0 T a l (p) d = L7 at *
                    generalize stopV (hereT l) c' w = sv at *
                    generalize x.cells = xc at *
                    generalize x.emb = xe at *
                    generalize y.cells = yc at *
                    generalize y.emb = ye at *
                    simp (disch := first | (simp only [List.length_append, List.length_cons, List.length_nil]; omega) | (simp; done) | assumption) [AV.cells?, AV.isCell, -AV.cells?, cq_int, cq_str, cq_slice, cq_bool, -evBuild, -evBuildSlice, Tryz.f139, E_esc, i1, i4, i7, hps, h8, h9, h10, h11, h12, hbs, h13, hcx, hlx, htx, hex, hcy, hly, hty, hey, finPan, hf, z24, c24, a24, k24, i24, tq46_0, tq46_1, tq46_2, tc46, ta46, tk46, ti46, tz46, fq0, fq3, fq4, fq5, c3, a3, k3, i3, c2, a2, k2, i2, c22, a22, k22, i22, bq3, bq2]
                  | ok z =>
                    obtain ⟨_u13, r13⟩ := z
                    rw [e13, ansR_ok] at h13
                    rw [th_ok]
                    rw [ansX_ok]
                    have hf := fin_X H0 T a l p d (r13) (X.mk 24 [] 0 lo hi true [x, y])
                    simp only [mk_emb, embL2] at hf ⊢
                    generalize PSt H0 T a l (r13) d = L0 at *
                    generalize PSt H0 T a l (r12) d = L1 at *
                    generalize PSt H0 T a l (r11) d = L2 at *
                    generalize PSt H0 T a l (r10) d = L3 at *
                    generalize PSt H0 T a l (r9) d = L4 at *
                    generalize PSt H0 T a l (r8) d = L5 at *
                    generalize PSt H0 T a l (p + 1) d = L6 at *
                    generalize PSt H0 T a l (p) d = L7 at *
                    generalize x.cells = xc at *
                    generalize x.emb = xe at *
                    generalize y.cells = yc at *
                    generalize y.emb = ye at *
                    simp (disch := first | (simp only [List.length_append, List.length_cons, List.length_nil]; omega) | (simp; done) | assumption) [AV.cells?, AV.isCell, -AV.cells?, cq_int, cq_str, cq_slice, cq_bool, -evBuild, -evBuildSlice, Tryz.f139, E_esc, i1, i4, i7, hps, h8, h9, h10, h11, h12, hbs, h13, hcx, hlx, htx, hex, hcy, hly, hty, hey, hf, z24, c24, a24, k24, i24, tq46_0, tq46_1, tq46_2, tc46, ta46, tk46, ti46, tz46, fq0, fq3, fq4, fq5, c3, a3, k3, i3, c2, a2, k2, i2, c22, a22, k22, i22, bq3, bq2]
      · rw [if_neg b7]
        simp only [Bool.not_eq_true] at b7
        rw [b7] at i7
        simp only [Bool.false_eq_true, if_false] at i7
        rw [ansX_err]
        have hfl := ev_fail ha T l hl (n + 3) (p) d 16
        have hf := fin_stop H0 T a l p d (p) 16 (p)
        generalize PSt H0 T a l (p) d = L0 at *
        generalize stopV (hereT l) 16 (p) = sv at *
        simp (disch := first | (simp only [List.length_append, List.length_cons, List.length_nil]; omega) | (simp; done) | assumption) [AV.cells?, AV.isCell, -AV.cells?, cq_int, cq_str, cq_slice, cq_bool, -evBuild, -evBuildSlice, Tryz.f139, E_esc, i1, i4, i7, hfl, finPan, hf, z24, c24, a24, k24, i24, tq46_0, tq46_1, tq46_2, tc46, ta46, tk46, ti46, tz46, fq0, fq3, fq4, fq5, c3, a3, k3, i3, c2, a2, k2, i2, c22, a22, k22, i22, bq3, bq2]
set_option maxHeartbeats 8000000 in
theorem ev72 (n d F : Nat) (one any : Nat → PR X) (h1 : Sub H0 T a l d (n + 6) 128 one) (hs : Sub H0 T a l d (n + 6) 27 any) (hS : Sub H0 T a l d (n + 6) 133 (setP (hereT l) F)) : Sub H0 T a l d (n + 7) 131 (signedP (hereT l) F one any) := by
  intro p
  rw [show n + 7 = (n + 6) + 1 from rfl, ev_enter (n := n + 6) (show E.ok 131 = true from rfl) Tryz.func131 (fn := Tryz.f131) rfl (Nat.le_of_ble_eq_true rfl) (by decide +kernel)]
  unfold signedP
  have i1 : ev Tryz.prog E (n + 6) 52 [.ptr a 0, .str [45]] (PSt H0 T a l (p) d) = _ := ev_is ha T l hl (n + 4) (p) d _ _
  by_cases b1 : isB (hereT l) (p) [45] = true
  · rw [if_pos b1]
    have ilt := is_lt b1
    have ib := b1
    rw [b1] at i1
    simp only [if_true] at i1
    have h2 := h1 (p + 1)
    cases e2 : one (p + 1) with
    | error z =>
      obtain ⟨c', w⟩ := z
      rw [e2, ansX_err] at h2
      rw [th_err, ansX_err]
      have hf := fin_stop H0 T a l p d w c' w
      generalize PSt H0 T a l (w) d = L0 at *
      generalize PSt H0 T a l (p + 1) d = L1 at *
      generalize PSt H0 T a l (p) d = L2 at *
      generalize stopV (hereT l) c' w = sv at *
      simp (disch := first | (simp only [List.length_append, List.length_cons, List.length_nil]; omega) | (simp; done) | assumption) [AV.cells?, AV.isCell, -AV.cells?, cq_int, cq_str, cq_slice, cq_bool, -evBuild, -evBuildSlice, Tryz.f131, E_esc, i1, h2, finPan, hf, z24, c24, a24, k24, i24, tq46_0, tq46_1, tq46_2, tc46, ta46, tk46, ti46, tz46, fq0, fq3, fq4, fq5, c3, a3, k3, i3, c2, a2, k2, i2, c22, a22, k22, i22, bq3, bq2]
    | ok z =>
      obtain ⟨x, r2⟩ := z
      rw [e2, ansX_ok] at h2
      rw [th_ok]
      have hcx := xcells x
      have hlx := xlen x
      have htx := xtake x
      have hex := xemb x
      rw [ansX_ok]
      have hf := fin_X H0 T a l p d (r2) (oneX 11 x)
      have ho := fun S => ev_one1 (n + 5) 11 x S
      have hcz := xcells (oneX 11 x)
      have hlz := xlen (oneX 11 x)
      have htz := xtake (oneX 11 x)
      have hez := xemb (oneX 11 x)
      generalize (oneX 11 x).cells = zc at *
      generalize (oneX 11 x).emb = ze at *
      generalize PSt H0 T a l (r2) d = L0 at *
      generalize PSt H0 T a l (p + 1) d = L1 at *
      generalize PSt H0 T a l (p) d = L2 at *
      generalize x.cells = xc at *
      generalize x.emb = xe at *
      simp (disch := first | (simp only [List.length_append, List.length_cons, List.length_nil]; omega) | (simp; done) | assumption) [AV.cells?, AV.isCell, -AV.cells?, cq_int, cq_str, cq_slice, cq_bool, -evBuild, -evBuildSlice, Tryz.f131, E_esc, i1, h2, hcx, hlx, htx, hex, ho, hcz, hlz, htz, hez, hf, z24, c24, a24, k24, i24, tq46_0, tq46_1, tq46_2, tc46, ta46, tk46, ti46, tz46, fq0, fq3, fq4, fq5, c3, a3, k3, i3, c2, a2, k2, i2, c22, a22, k22, i22, bq3, bq2]
  · rw [if_neg b1]
    simp only [Bool.not_eq_true] at b1
    rw [b1] at i1
    simp only [Bool.false_eq_true, if_false] at i1
    have i3 : ev Tryz.prog E (n + 6) 52 [.ptr a 0, .str [123]] (PSt H0 T a l (p) d) = _ := ev_is ha T l hl (n + 4) (p) d _ _
    by_cases b3 : isB (hereT l) (p) [123] = true
    · rw [if_pos b3]
      have ilt := is_lt b3
      have ib := b3
      rw [b3] at i3
      simp only [if_true] at i3
      have h4 := hS (p + 1)
      cases e4 : setP (hereT l) F (p + 1) with
      | error z =>
        obtain ⟨c', w⟩ := z
        rw [e4, ansX_err] at h4
        rw [ansX_err]
        have hf := fin_stop H0 T a l p d w c' w
        generalize PSt H0 T a l (w) d = L0 at *
        generalize PSt H0 T a l (p + 1) d = L1 at *
        generalize PSt H0 T a l (p) d = L2 at *
        generalize stopV (hereT l) c' w = sv at *
        simp (disch := first | (simp only [List.length_append, List.length_cons, List.length_nil]; omega) | (simp; done) | assumption) [AV.cells?, AV.isCell, -AV.cells?, cq_int, cq_str, cq_slice, cq_bool, -evBuild, -evBuildSlice, Tryz.f131, E_esc, i1, i3, h4, finPan, hf, z24, c24, a24, k24, i24, tq46_0, tq46_1, tq46_2, tc46, ta46, tk46, ti46, tz46, fq0, fq3, fq4, fq5, c3, a3, k3, i3, c2, a2, k2, i2, c22, a22, k22, i22, bq3, bq2]
      | ok z =>
        obtain ⟨x, r4⟩ := z
        rw [e4, ansX_ok] at h4
        have hcx := xcells x
        have hlx := xlen x
        have htx := xtake x
        have hex := xemb x
        rw [ansX_ok]
        have hf := fin_X H0 T a l p d (r4) (x)
        generalize PSt H0 T a l (r4) d = L0 at *
        generalize PSt H0 T a l (p + 1) d = L1 at *
        generalize PSt H0 T a l (p) d = L2 at *
        generalize x.cells = xc at *
        generalize x.emb = xe at *
        simp (disch := first | (simp only [List.length_append, List.length_cons, List.length_nil]; omega) | (simp; done) | assumption) [AV.cells?, AV.isCell, -AV.cells?, cq_int, cq_str, cq_slice, cq_bool, -evBuild, -evBuildSlice, Tryz.f131, E_esc, i1, i3, h4, hcx, hlx, htx, hex, hf, z24, c24, a24, k24, i24, tq46_0, tq46_1, tq46_2, tc46, ta46, tk46, ti46, tz46, fq0, fq3, fq4, fq5, c3, a3, k3, i3, c2, a2, k2, i2, c22, a22, k22, i22, bq3, bq2]
    · rw [if_neg b3]
      simp only [Bool.not_eq_true] at b3
      rw [b3] at i3
      simp only [Bool.false_eq_true, if_false] at i3
      unfold argP
      have h5 : ev Tryz.prog E (n + 6) 134 [.ptr a 0, .str [40]] (PSt H0 T a l (p) d) = _ := ev_need ha T l hl (n + 2) (p) d _ _
      cases e5 : needP (hereT l) [40] (p) with
      | error z =>
        obtain ⟨c', w⟩ := z
        rw [e5, ansR_err] at h5
        rw [th_err, ansX_err]
        have hf := fin_stop H0 T a l p d w c' w
        generalize PSt H0 T a l (w) d = L0 at *
        generalize PSt H0 T a l (p) d = L1 at *
        generalize stopV (hereT l) c' w = sv at *
        simp (disch := first | (simp only [List.length_append, List.length_cons, List.length_nil]; omega) | (simp; done) | assumption) [AV.cells?, AV.isCell, -AV.cells?, cq_int, cq_str, cq_slice, cq_bool, -evBuild, -evBuildSlice, Tryz.f131, E_esc, i1, i3, h5, finPan, hf, z24, c24, a24, k24, i24, tq46_0, tq46_1, tq46_2, tc46, ta46, tk46, ti46, tz46, fq0, fq3, fq4, fq5, c3, a3, k3, i3, c2, a2, k2, i2, c22, a22, k22, i22, bq3, bq2]
      | ok z =>
        obtain ⟨_u5, r5⟩ := z
        rw [e5, ansR_ok] at h5
        rw [th_ok]
        have h6 := hs (r5)
        cases e6 : any (r5) with
        | error z =>
          obtain ⟨c', w⟩ := z
          rw [e6, ansX_err] at h6
          rw [th_err, ansX_err]
          have hf := fin_stop H0 T a l p d w c' w
          generalize PSt H0 T a l (w) d = L0 at *
          generalize PSt H0 T a l (r5) d = L1 at *
          generalize PSt H0 T a l (p) d = L2 at *
          generalize stopV (hereT l) c' w = sv at *
          simp (disch := first | (simp only [List.length_append, List.length_cons, List.length_nil]; omega) | (simp; done) | assumption) [AV.cells?, AV.isCell, -AV.cells?, cq_int, cq_str, cq_slice, cq_bool, -evBuild, -evBuildSlice, Tryz.f131, E_esc, i1, i3, h5, h6, finPan, hf, z24, c24, a24, k24, i24, tq46_0, tq46_1, tq46_2, tc46, ta46, tk46, ti46, tz46, fq0, fq3, fq4, fq5, c3, a3, k3, i3, c2, a2, k2, i2, c22, a22, k22, i22, bq3, bq2]
        | ok z =>
          obtain ⟨x, r6⟩ := z
          rw [e6, ansX_ok] at h6
          rw [th_ok]
          have hcx := xcells x
          have hlx := xlen x
          have htx := xtake x
          have hex := xemb x
          have h7 : ev Tryz.prog E (n + 6) 134 [.ptr a 0, .str [41]] (PSt H0 T a l (r6) d) = _ := ev_need ha T l hl (n + 2) (r6) d _ _
          cases e7 : needP (hereT l) [41] (r6) with
          | error z =>
            obtain ⟨c', w⟩ := z
            rw [e7, ansR_err] at h7
            rw [th_err, ansX_err]
            have hf := fin_stop H0 T a l p d w c' w
            generalize PSt H0 T a l (w) d = L0 at *
            generalize PSt H0 T a l (r6) d = L1 at *
            generalize PSt H0 T a l (r5) d = L2 at *
            generalize PSt H0 T a l (p) d = L3 at *
            generalize stopV (hereT l) c' w = sv at *
            generalize x.cells = xc at *
            generalize x.emb = xe at *
            simp (disch := first | (simp only [List.length_append, List.length_cons, List.length_nil]; omega) | (simp; done) | assumption) [AV.cells?, AV.isCell, -AV.cells?, cq_int, cq_str, cq_slice, cq_bool, -evBuild, -evBuildSlice, Tryz.f131, E_esc, i1, i3, h5, h6, h7, hcx, hlx, htx, hex, finPan, hf, z24, c24, a24, k24, i24, tq46_0, tq46_1, tq46_2, tc46, ta46, tk46, ti46, tz46, fq0, fq3, fq4, fq5, c3, a3, k3, i3, c2, a2, k2, i2, c22, a22, k22, i22, bq3, bq2]
          | ok z =>
            obtain ⟨_u7, r7⟩ := z
            rw [e7, ansR_ok] at h7
            rw [th_ok]
            rw [ansX_ok]
            have hf := fin_X H0 T a l p d (r7) (x)
            generalize PSt H0 T a l (r7) d = L0 at *
            generalize PSt H0 T a l (r6) d = L1 at *
            generalize PSt H0 T a l (r5) d = L2 at *
            generalize PSt H0 T a l (p) d = L3 at *
            generalize x.cells = xc at *
            generalize x.emb = xe at *
            simp (disch := first | (simp only [List.length_append, List.length_cons, List.length_nil]; omega) | (simp; done) | assumption) [AV.cells?, AV.isCell, -AV.cells?, cq_int, cq_str, cq_slice, cq_bool, -evBuild, -evBuildSlice, Tryz.f131, E_esc, i1, i3, h5, h6, h7, hcx, hlx, htx, hex, hf, z24, c24, a24, k24, i24, tq46_0, tq46_1, tq46_2, tc46, ta46, tk46, ti46, tz46, fq0, fq3, fq4, fq5, c3, a3, k3, i3, c2, a2, k2, i2, c22, a22, k22, i22, bq3, bq2]
set_option maxHeartbeats 16000000 in
theorem ev73 (n d : Nat) (one any : Nat → PR X) (h1 : Sub H0 T a l d (n + 6) 128 one) (hA : Sub H0 T a l d (n + 6) 138 (argP (hereT l) any)) (hT : Sub H0 T a l d (n + 6) 139 (timedP (hereT l) any)) : Sub H0 T a l d (n + 7) 132 (namedP (hereT l) one any) := by
  intro p
  rw [show n + 7 = (n + 6) + 1 from rfl, ev_enter (n := n + 6) (show E.ok 132 = true from rfl) Tryz.func132 (fn := Tryz.f132) rfl (Nat.le_of_ble_eq_true rfl) (by decide +kernel)]
  unfold namedP
  have i1 : ev Tryz.prog E (n + 6) 52 [.ptr a 0, .str [116, 114, 117, 101]] (PSt H0 T a l (p) d) = _ := ev_is ha T l hl (n + 4) (p) d _ _
  by_cases b1 : isB (hereT l) (p) [116, 114, 117, 101] = true
  · rw [if_pos b1]
    have ilt := is_lt b1
    have ib := b1
    rw [b1] at i1
    simp only [if_true] at i1
    rw [ansX_ok]
    have hf := fin_X H0 T a l p d (p + 1) (leafX 2 [] 1 0)
    have ht0 := ev_truth (n + 5) 1 (PSt H0 T a l (p + 1) d)
    have hcz := xcells (leafX 2 [] 1 0)
    have hlz := xlen (leafX 2 [] 1 0)
    have htz := xtake (leafX 2 [] 1 0)
    have hez := xemb (leafX 2 [] 1 0)
    generalize (leafX 2 [] 1 0).cells = zc at *
    generalize (leafX 2 [] 1 0).emb = ze at *
    generalize PSt H0 T a l (p + 1) d = L0 at *
    generalize PSt H0 T a l (p) d = L1 at *
    simp (disch := first | (simp only [List.length_append, List.length_cons, List.length_nil]; omega) | (simp; done) | assumption) [AV.cells?, AV.isCell, -AV.cells?, cq_int, cq_str, cq_slice, cq_bool, -evBuild, -evBuildSlice, Tryz.f132, E_esc, i1, ht0, hcz, hlz, htz, hez, hf, z24, c24, a24, k24, i24, tq46_0, tq46_1, tq46_2, tc46, ta46, tk46, ti46, tz46, fq0, fq3, fq4, fq5, c3, a3, k3, i3, c2, a2, k2, i2, c22, a22, k22, i22, bq3, bq2]
  · rw [if_neg b1]
    simp only [Bool.not_eq_true] at b1
    rw [b1] at i1
    simp only [Bool.false_eq_true, if_false] at i1
    have i2 : ev Tryz.prog E (n + 6) 52 [.ptr a 0, .str [102, 97, 108, 115, 101]] (PSt H0 T a l (p) d) = _ := ev_is ha T l hl (n + 4) (p) d _ _
    by_cases b2 : isB (hereT l) (p) [102, 97, 108, 115, 101] = true
    · rw [if_pos b2]
      have ilt := is_lt b2
      have ib := b2
      rw [b2] at i2
      simp only [if_true] at i2
      rw [ansX_ok]
      have hf := fin_X H0 T a l p d (p + 1) (leafX 2 [] 0 0)
      have ht0 := ev_truth (n + 5) 0 (PSt H0 T a l (p + 1) d)
      have hcz := xcells (leafX 2 [] 0 0)
      have hlz := xlen (leafX 2 [] 0 0)
      have htz := xtake (leafX 2 [] 0 0)
      have hez := xemb (leafX 2 [] 0 0)
      generalize (leafX 2 [] 0 0).cells = zc at *
      generalize (leafX 2 [] 0 0).emb = ze at *
      generalize PSt H0 T a l (p + 1) d = L0 at *
      generalize PSt H0 T a l (p) d = L1 at *
      simp (disch := first | (simp only [List.length_append, List.length_cons, List.length_nil]; omega) | (simp; done) | assumption) [AV.cells?, AV.isCell, -AV.cells?, cq_int, cq_str, cq_slice, cq_bool, -evBuild, -evBuildSlice, Tryz.f132, E_esc, i1, i2, ht0, hcz, hlz, htz, hez, hf, z24, c24, a24, k24, i24, tq46_0, tq46_1, tq46_2, tc46, ta46, tk46, ti46, tz46, fq0, fq3, fq4, fq5, c3, a3, k3, i3, c2, a2, k2, i2, c22, a22, k22, i22, bq3, bq2]
    · rw [if_neg b2]
      simp only [Bool.not_eq_true] at b2
      rw [b2] at i2
      simp only [Bool.false_eq_true, if_false] at i2
      have i3 : ev Tryz.prog E (n + 6) 52 [.ptr a 0, .str [110, 111, 119]] (PSt H0 T a l (p) d) = _ := ev_is ha T l hl (n + 4) (p) d _ _
      by_cases b3 : isB (hereT l) (p) [110, 111, 119] = true
      · rw [if_pos b3]
        have ilt := is_lt b3
        have ib := b3
        rw [b3] at i3
        simp only [if_true] at i3
        rw [ansX_ok]
        have hf := fin_X H0 T a l p d (p + 1) (leafX 7 [] 0 0)
        have hb0 := bX0 7
        have hcz := xcells (leafX 7 [] 0 0)
        have hlz := xlen (leafX 7 [] 0 0)
        have htz := xtake (leafX 7 [] 0 0)
        have hez := xemb (leafX 7 [] 0 0)
        generalize (leafX 7 [] 0 0).cells = zc at *
        generalize (leafX 7 [] 0 0).emb = ze at *
        generalize PSt H0 T a l (p + 1) d = L0 at *
        generalize PSt H0 T a l (p) d = L1 at *
        simp (disch := first | (simp only [List.length_append, List.length_cons, List.length_nil]; omega) | (simp; done) | assumption) [AV.cells?, AV.isCell, -AV.cells?, cq_int, cq_str, cq_slice, cq_bool, -evBuild, -evBuildSlice, Tryz.f132, E_esc, i1, i2, i3, hb0, hcz, hlz, htz, hez, hf, z24, c24, a24, k24, i24, tq46_0, tq46_1, tq46_2, tc46, ta46, tk46, ti46, tz46, fq0, fq3, fq4, fq5, c3, a3, k3, i3, c2, a2, k2, i2, c22, a22, k22, i22, bq3, bq2]
      · rw [if_neg b3]
        simp only [Bool.not_eq_true] at b3
        rw [b3] at i3
        simp only [Bool.false_eq_true, if_false] at i3
        have i4 : ev Tryz.prog E (n + 6) 52 [.ptr a 0, .str [110, 111, 116]] (PSt H0 T a l (p) d) = _ := ev_is ha T l hl (n + 4) (p) d _ _
        by_cases b4 : isB (hereT l) (p) [110, 111, 116] = true
        · rw [if_pos b4]
          have ilt := is_lt b4
          have ib := b4
          rw [b4] at i4
          simp only [if_true] at i4
          have h5 := h1 (p + 1)
          cases e5 : one (p + 1) with
          | error z =>
            obtain ⟨c', w⟩ := z
            rw [e5, ansX_err] at h5
            rw [th_err, ansX_err]
            have hf := fin_stop H0 T a l p d w c' w
            generalize PSt H0 T a l (w) d = L0 at *
            generalize PSt H0 T a l (p + 1) d = L1 at *
            generalize PSt H0 T a l (p) d = L2 at *
            generalize stopV (hereT l) c' w = sv at *
            simp (disch := first | (simp only [List.length_append, List.length_cons, List.length_nil]; omega) | (simp; done) | assumption) [AV.cells?, AV.isCell, -AV.cells?, cq_int, cq_str, cq_slice, cq_bool, -evBuild, -evBuildSlice, Tryz.f132, E_esc, i1, i2, i3, i4, h5, finPan, hf, z24, c24, a24, k24, i24, tq46_0, tq46_1, tq46_2, tc46, ta46, tk46, ti46, tz46, fq0, fq3, fq4, fq5, c3, a3, k3, i3, c2, a2, k2, i2, c22, a22, k22, i22, bq3, bq2]
          | ok z =>
            obtain ⟨x, r5⟩ := z
            rw [e5, ansX_ok] at h5
            rw [th_ok]
            have hcx := xcells x
            have hlx := xlen x
            have htx := xtake x
            have hex := xemb x
            rw [ansX_ok]
            have hf := fin_X H0 T a l p d (r5) (oneX 18 x)
            have ho := fun S => ev_one1 (n + 5) 18 x S
            have hcz := xcells (oneX 18 x)
            have hlz := xlen (oneX 18 x)
            have htz := xtake (oneX 18 x)
            have hez := xemb (oneX 18 x)
            generalize (oneX 18 x).cells = zc at *
            generalize (oneX 18 x).emb = ze at *
            generalize PSt H0 T a l (r5) d = L0 at *
            generalize PSt H0 T a l (p + 1) d = L1 at *
            generalize PSt H0 T a l (p) d = L2 at *
            generalize x.cells = xc at *
            generalize x.emb = xe at *
            simp (disch := first | (simp only [List.length_append, List.length_cons, List.length_nil]; omega) | (simp; done) | assumption) [AV.cells?, AV.isCell, -AV.cells?, cq_int, cq_str, cq_slice, cq_bool, -evBuild, -evBuildSlice, Tryz.f132, E_esc, i1, i2, i3, i4, h5, hcx, hlx, htx, hex, ho, hcz, hlz, htz, hez, hf, z24, c24, a24, k24, i24, tq46_0, tq46_1, tq46_2, tc46, ta46, tk46, ti46, tz46, fq0, fq3, fq4, fq5, c3, a3, k3, i3, c2, a2, k2, i2, c22, a22, k22, i22, bq3, bq2]
        · rw [if_neg b4]
          simp only [Bool.not_eq_true] at b4
          rw [b4] at i4
          simp only [Bool.false_eq_true, if_false] at i4
          have i6 : ev Tryz.prog E (n + 6) 52 [.ptr a 0, .str [115]] (PSt H0 T a l (p) d) = _ := ev_is ha T l hl (n + 4) (p) d _ _
          by_cases b6 : isB (hereT l) (p) [115] = true
          · rw [if_pos b6]
            have ilt := is_lt b6
            have ib := b6
            rw [b6] at i6
            simp only [if_true] at i6
            have h7 := ev77 ha T l hl (n + 1) (p + 1) d 5
            cases e7 : attrP (hereT l) 5 (p + 1) with
            | error z =>
              obtain ⟨c', w⟩ := z
              rw [e7, ansX_err] at h7
              rw [ansX_err]
              have hf := fin_stop H0 T a l p d w c' w
              generalize PSt H0 T a l (w) d = L0 at *
              generalize PSt H0 T a l (p + 1) d = L1 at *
              generalize PSt H0 T a l (p) d = L2 at *
              generalize stopV (hereT l) c' w = sv at *
              simp (disch := first | (simp only [List.length_append, List.length_cons, List.length_nil]; omega) | (simp; done) | assumption) [AV.cells?, AV.isCell, -AV.cells?, cq_int, cq_str, cq_slice, cq_bool, -evBuild, -evBuildSlice, Tryz.f132, E_esc, i1, i2, i3, i4, i6, h7, finPan, hf, z24, c24, a24, k24, i24, tq46_0, tq46_1, tq46_2, tc46, ta46, tk46, ti46, tz46, fq0, fq3, fq4, fq5, c3, a3, k3, i3, c2, a2, k2, i2, c22, a22, k22, i22, bq3, bq2]
            | ok z =>
              obtain ⟨x, r7⟩ := z
              rw [e7, ansX_ok] at h7
              have hcx := xcells x
              have hlx := xlen x
              have htx := xtake x
              have hex := xemb x
              rw [ansX_ok]
              have hf := fin_X H0 T a l p d (r7) (x)
              generalize PSt H0 T a l (r7) d = L0 at *
              generalize PSt H0 T a l (p + 1) d = L1 at *
              generalize PSt H0 T a l (p) d = L2 at *
              generalize x.cells = xc at *
              generalize x.emb = xe at *
              simp (disch := first | (simp only [List.length_append, List.length_cons, List.length_nil]; omega) | (simp; done) | assumption) [AV.cells?, AV.isCell, -AV.cells?, cq_int, cq_str, cq_slice, cq_bool, -evBuild, -evBuildSlice, Tryz.f132, E_esc, i1, i2, i3, i4, i6, h7, hcx, hlx, htx, hex, hf, z24, c24, a24, k24, i24, tq46_0, tq46_1, tq46_2, tc46, ta46, tk46, ti46, tz46, fq0, fq3, fq4, fq5, c3, a3, k3, i3, c2, a2, k2, i2, c22, a22, k22, i22, bq3, bq2]
          · rw [if_neg b6]
            simp only [Bool.not_eq_true] at b6
            rw [b6] at i6
            simp only [Bool.false_eq_true, if_false] at i6
            have i8 : ev Tryz.prog E (n + 6) 52 [.ptr a 0, .str [111]] (PSt H0 T a l (p) d) = _ := ev_is ha T l hl (n + 4) (p) d _ _
            by_cases b8 : isB (hereT l) (p) [111] = true
            · rw [if_pos b8]
              have ilt := is_lt b8
              have ib := b8
              rw [b8] at i8
              simp only [if_true] at i8
              have h9 := ev77 ha T l hl (n + 1) (p + 1) d 6
              cases e9 : attrP (hereT l) 6 (p + 1) with
              | error z =>
                obtain ⟨c', w⟩ := z
                rw [e9, ansX_err] at h9
                rw [ansX_err]
                have hf := fin_stop H0 T a l p d w c' w
                generalize PSt H0 T a l (w) d = L0 at *
                generalize PSt H0 T a l (p + 1) d = L1 at *
                generalize PSt H0 T a l (p) d = L2 at *
                generalize stopV (hereT l) c' w = sv at *
                simp (disch := first | (simp only [List.length_append, List.length_cons, List.length_nil]; omega) | (simp; done) | assumption) [AV.cells?, AV.isCell, -AV.cells?, cq_int, cq_str, cq_slice, cq_bool, -evBuild, -evBuildSlice, Tryz.f132, E_esc, i1, i2, i3, i4, i6, i8, h9, finPan, hf, z24, c24, a24, k24, i24, tq46_0, tq46_1, tq46_2, tc46, ta46, tk46, ti46, tz46, fq0, fq3, fq4, fq5, c3, a3, k3, i3, c2, a2, k2, i2, c22, a22, k22, i22, bq3, bq2]
              | ok z =>
                obtain ⟨x, r9⟩ := z
                rw [e9, ansX_ok] at h9
                have hcx := xcells x
                have hlx := xlen x
                have htx := xtake x
                have hex := xemb x
                rw [ansX_ok]
                have hf := fin_X H0 T a l p d (r9) (x)
                generalize PSt H0 T a l (r9) d = L0 at *
                generalize PSt H0 T a l (p + 1) d = L1 at *
                generalize PSt H0 T a l (p) d = L2 at *
                generalize x.cells = xc at *
                generalize x.emb = xe at *
                simp (disch := first | (simp only [List.length_append, List.length_cons, List.length_nil]; omega) | (simp; done) | assumption) [AV.cells?, AV.isCell, -AV.cells?, cq_int, cq_str, cq_slice, cq_bool, -evBuild, -evBuildSlice, Tryz.f132, E_esc, i1, i2, i3, i4, i6, i8, h9, hcx, hlx, htx, hex, hf, z24, c24, a24, k24, i24, tq46_0, tq46_1, tq46_2, tc46, ta46, tk46, ti46, tz46, fq0, fq3, fq4, fq5, c3, a3, k3, i3, c2, a2, k2, i2, c22, a22, k22, i22, bq3, bq2]
            · rw [if_neg b8]
              simp only [Bool.not_eq_true] at b8
              rw [b8] at i8
              simp only [Bool.false_eq_true, if_false] at i8
              have i10 : ev Tryz.prog E (n + 6) 52 [.ptr a 0, .str [97, 99, 116]] (PSt H0 T a l (p) d) = _ := ev_is ha T l hl (n + 4) (p) d _ _
              by_cases b10 : isB (hereT l) (p) [97, 99, 116] = true
              · rw [if_pos b10]
                have ilt := is_lt b10
                have ib := b10
                rw [b10] at i10
                simp only [if_true] at i10
                have hps : E.ps 132 15 = [(4, 8), (14, 14)] := rfl
                have hg := PSt_get ha T l (p + 1) d
                have hw : IntKind.i64.wrap (((p + 1 : Nat) : Int) - 1) = (p : Int) := by rw [wrap64 _ (by omega)]; omega
                have hx : l[p]? = some (hereT l p) := by
                  have e : l[p]? = some l[p] := List.getElem?_eq_getElem ilt
                  simp [hereT, e]
                have hia := ia l .non p _ hx
                have hcs : (hereT l p).cells = [.int .i64 (hereT l p).k, .str (hereT l p).s, .int .i64 (hereT l p).n, .int .i64 (hereT l p).p] := rfl
                have hss : (hereT l p).s = [97, 99, 116] := by
                  simp only [isB, Bool.and_eq_true, beq_iff_eq] at ib
                  exact ib.2
                rw [hcs, hss] at hia
                generalize tkL l = es at *
                clear ib
                generalize (hereT l p).k = zk at *
                generalize (hereT l p).n = zn at *
                generalize (hereT l p).p = zp at *
                generalize hP1 : p + 1 = P1 at *
                have h11 := ev78a ha T l hl (n + 1) (P1) d
                cases e11 : actP (hereT l) (P1) with
                | error z =>
                  obtain ⟨c', w⟩ := z
                  rw [e11, ansX_err] at h11
                  rw [ansX_err]
                  have hf := fin_stop H0 T a l p d w c' w
                  generalize PSt H0 T a l (w) d = L0 at *
                  generalize PSt H0 T a l (P1) d = L1 at *
                  generalize PSt H0 T a l (p) d = L2 at *
                  generalize stopV (hereT l) c' w = sv at *
                  simp (disch := first | (simp only [List.length_append, List.length_cons, List.length_nil]; omega) | (simp; done) | assumption) [AV.cells?, AV.isCell, -AV.cells?, cq_int, cq_str, cq_slice, cq_bool, -evBuild, -evBuildSlice, Tryz.f132, E_esc, i1, i2, i3, i4, i6, i8, i10, hps, hg, hw, hia, -evIndexAddr, tq66_0, tq66_1, tk66, tk39, tc39, ta39, k9, a9, c9, bq9, h11, finPan, hf, z24, c24, a24, k24, i24, tq46_0, tq46_1, tq46_2, tc46, ta46, tk46, ti46, tz46, fq0, fq3, fq4, fq5, c3, a3, k3, i3, c2, a2, k2, i2, c22, a22, k22, i22, bq3, bq2]
                | ok z =>
                  obtain ⟨x, r11⟩ := z
                  rw [e11, ansX_ok] at h11
                  have hcx := xcells x
                  have hlx := xlen x
                  have htx := xtake x
                  have hex := xemb x
                  rw [ansX_ok]
                  have hf := fin_X H0 T a l p d (r11) (x)
                  generalize PSt H0 T a l (r11) d = L0 at *
                  generalize PSt H0 T a l (P1) d = L1 at *
                  generalize PSt H0 T a l (p) d = L2 at *
                  generalize x.cells = xc at *
                  generalize x.emb = xe at *
                  simp (disch := first | (simp only [List.length_append, List.length_cons, List.length_nil]; omega) | (simp; done) | assumption) [AV.cells?, AV.isCell, -AV.cells?, cq_int, cq_str, cq_slice, cq_bool, -evBuild, -evBuildSlice, Tryz.f132, E_esc, i1, i2, i3, i4, i6, i8, i10, hps, hg, hw, hia, -evIndexAddr, tq66_0, tq66_1, tk66, tk39, tc39, ta39, k9, a9, c9, bq9, h11, hcx, hlx, htx, hex, hf, z24, c24, a24, k24, i24, tq46_0, tq46_1, tq46_2, tc46, ta46, tk46, ti46, tz46, fq0, fq3, fq4, fq5, c3, a3, k3, i3, c2, a2, k2, i2, c22, a22, k22, i22, bq3, bq2]
              · rw [if_neg b10]
                simp only [Bool.not_eq_true] at b10
                rw [b10] at i10
                simp only [Bool.false_eq_true, if_false] at i10
                have i12 : ev Tryz.prog E (n + 6) 52 [.ptr a 0, .str [116, 105, 109, 101, 115]] (PSt H0 T a l (p) d) = _ := ev_is ha T l hl (n + 4) (p) d _ _
                by_cases b12 : isB (hereT l) (p) [116, 105, 109, 101, 115] = true
                · rw [if_pos b12]
                  have ilt := is_lt b12
                  have ib := b12
                  rw [b12] at i12
                  simp only [if_true] at i12
                  have hps : E.ps 132 15 = [(4, 8), (14, 14)] := rfl
                  have hg := PSt_get ha T l (p + 1) d
                  have hw : IntKind.i64.wrap (((p + 1 : Nat) : Int) - 1) = (p : Int) := by rw [wrap64 _ (by omega)]; omega
                  have hx : l[p]? = some (hereT l p) := by
                    have e : l[p]? = some l[p] := List.getElem?_eq_getElem ilt
                    simp [hereT, e]
                  have hia := ia l .non p _ hx
                  have hcs : (hereT l p).cells = [.int .i64 (hereT l p).k, .str (hereT l p).s, .int .i64 (hereT l p).n, .int .i64 (hereT l p).p] := rfl
                  have hss : (hereT l p).s = [116, 105, 109, 101, 115] := by
                    simp only [isB, Bool.and_eq_true, beq_iff_eq] at ib
                    exact ib.2
                  rw [hcs, hss] at hia
                  generalize tkL l = es at *
                  clear ib
                  generalize (hereT l p).k = zk at *
                  generalize (hereT l p).n = zn at *
                  generalize (hereT l p).p = zp at *
                  generalize hP1 : p + 1 = P1 at *
                  have h13 := ev78b ha T l hl (n + 1) (P1) d
                  cases e13 : timesP (hereT l) (P1) with
                  | error z =>
                    obtain ⟨c', w⟩ := z
                    rw [e13, ansX_err] at h13
                    rw [ansX_err]
                    have hf := fin_stop H0 T a l p d w c' w
                    generalize PSt H0 T a l (w) d = L0 at *
                    generalize PSt H0 T a l (P1) d = L1 at *
                    generalize PSt H0 T a l (p) d = L2 at *
                    generalize stopV (hereT l) c' w = sv at *
                    simp (disch := first | (simp only [List.length_append, List.length_cons, List.length_nil]; omega) | (simp; done) | assumption) [AV.cells?, AV.isCell, -AV.cells?, cq_int, cq_str, cq_slice, cq_bool, -evBuild, -evBuildSlice, Tryz.f132, E_esc, i1, i2, i3, i4, i6, i8, i10, i12, hps, hg, hw, hia, -evIndexAddr, tq66_0, tq66_1, tk66, tk39, tc39, ta39, k9, a9, c9, bq9, h13, finPan, hf, z24, c24, a24, k24, i24, tq46_0, tq46_1, tq46_2, tc46, ta46, tk46, ti46, tz46, fq0, fq3, fq4, fq5, c3, a3, k3, i3, c2, a2, k2, i2, c22, a22, k22, i22, bq3, bq2]
                  | ok z =>
                    obtain ⟨x, r13⟩ := z
                    rw [e13, ansX_ok] at h13
                    have hcx := xcells x
                    have hlx := xlen x
                    have htx := xtake x
                    have hex := xemb x
                    rw [ansX_ok]
                    have hf := fin_X H0 T a l p d (r13) (x)
                    generalize PSt H0 T a l (r13) d = L0 at *
                    generalize PSt H0 T a l (P1) d = L1 at *
                    generalize PSt H0 T a l (p) d = L2 at *
                    generalize x.cells = xc at *
                    generalize x.emb = xe at *
                    simp (disch := first | (simp only [List.length_append, List.length_cons, List.length_nil]; omega) | (simp; done) | assumption) [AV.cells?, AV.isCell, -AV.cells?, cq_int, cq_str, cq_slice, cq_bool, -evBuild, -evBuildSlice, Tryz.f132, E_esc, i1, i2, i3, i4, i6, i8, i10, i12, hps, hg, hw, hia, -evIndexAddr, tq66_0, tq66_1, tk66, tk39, tc39, ta39, k9, a9, c9, bq9, h13, hcx, hlx, htx, hex, hf, z24, c24, a24, k24, i24, tq46_0, tq46_1, tq46_2, tc46, ta46, tk46, ti46, tz46, fq0, fq3, fq4, fq5, c3, a3, k3, i3, c2, a2, k2, i2, c22, a22, k22, i22, bq3, bq2]
                · rw [if_neg b12]
                  simp only [Bool.not_eq_true] at b12
                  rw [b12] at i12
                  simp only [Bool.false_eq_true, if_false] at i12
                  have i14 : ev Tryz.prog E (n + 6) 52 [.ptr a 0, .str [108, 101, 110]] (PSt H0 T a l (p) d) = _ := ev_is ha T l hl (n + 4) (p) d _ _
                  by_cases b14 : isB (hereT l) (p) [108, 101, 110] = true
                  · rw [if_pos b14]
                    have ilt := is_lt b14
                    have ib := b14
                    rw [b14] at i14
                    simp only [if_true] at i14
                    have h15 := hA (p + 1)
                    cases e15 : argP (hereT l) any (p + 1) with
                    | error z =>
                      obtain ⟨c', w⟩ := z
                      rw [e15, ansX_err] at h15
                      rw [th_err, ansX_err]
                      have hf := fin_stop H0 T a l p d w c' w
                      generalize PSt H0 T a l (w) d = L0 at *
                      generalize PSt H0 T a l (p + 1) d = L1 at *
                      generalize PSt H0 T a l (p) d = L2 at *
                      generalize stopV (hereT l) c' w = sv at *
                      simp (disch := first | (simp only [List.length_append, List.length_cons, List.length_nil]; omega) | (simp; done) | assumption) [AV.cells?, AV.isCell, -AV.cells?, cq_int, cq_str, cq_slice, cq_bool, -evBuild, -evBuildSlice, Tryz.f132, E_esc, i1, i2, i3, i4, i6, i8, i10, i12, i14, h15, finPan, hf, z24, c24, a24, k24, i24, tq46_0, tq46_1, tq46_2, tc46, ta46, tk46, ti46, tz46, fq0, fq3, fq4, fq5, c3, a3, k3, i3, c2, a2, k2, i2, c22, a22, k22, i22, bq3, bq2]
                    | ok z =>
                      obtain ⟨x, r15⟩ := z
                      rw [e15, ansX_ok] at h15
                      rw [th_ok]
                      have hcx := xcells x
                      have hlx := xlen x
                      have htx := xtake x
                      have hex := xemb x
                      rw [ansX_ok]
                      have hf := fin_X H0 T a l p d (r15) (oneX 12 x)
                      have ho := fun S => ev_one1 (n + 5) 12 x S
                      have hcz := xcells (oneX 12 x)
                      have hlz := xlen (oneX 12 x)
                      have htz := xtake (oneX 12 x)
                      have hez := xemb (oneX 12 x)
                      generalize (oneX 12 x).cells = zc at *
                      generalize (oneX 12 x).emb = ze at *
                      generalize PSt H0 T a l (r15) d = L0 at *
                      generalize PSt H0 T a l (p + 1) d = L1 at *
                      generalize PSt H0 T a l (p) d = L2 at *
                      generalize x.cells = xc at *
                      generalize x.emb = xe at *
                      simp (disch := first | (simp only [List.length_append, List.length_cons, List.length_nil]; omega) | (simp; done) | assumption) [AV.cells?, AV.isCell, -AV.cells?, cq_int, cq_str, cq_slice, cq_bool, -evBuild, -evBuildSlice, Tryz.f132, E_esc, i1, i2, i3, i4, i6, i8, i10, i12, i14, h15, hcx, hlx, htx, hex, ho, hcz, hlz, htz, hez, hf, z24, c24, a24, k24, i24, tq46_0, tq46_1, tq46_2, tc46, ta46, tk46, ti46, tz46, fq0, fq3, fq4, fq5, c3, a3, k3, i3, c2, a2, k2, i2, c22, a22, k22, i22, bq3, bq2]
                  · rw [if_neg b14]
                    simp only [Bool.not_eq_true] at b14
                    rw [b14] at i14
                    simp only [Bool.false_eq_true, if_false] at i14
                    have i16 : ev Tryz.prog E (n + 6) 52 [.ptr a 0, .str [112, 114, 101, 118]] (PSt H0 T a l (p) d) = _ := ev_is ha T l hl (n + 4) (p) d _ _
                    by_cases b16 : isB (hereT l) (p) [112, 114, 101, 118] = true
                    · rw [if_pos b16]
                      have ilt := is_lt b16
                      have ib := b16
                      rw [b16] at i16
                      simp only [if_true] at i16
                      have h17 := hA (p + 1)
                      cases e17 : argP (hereT l) any (p + 1) with
                      | error z =>
                        obtain ⟨c', w⟩ := z
                        rw [e17, ansX_err] at h17
                        rw [th_err, ansX_err]
                        have hf := fin_stop H0 T a l p d w c' w
                        generalize PSt H0 T a l (w) d = L0 at *
                        generalize PSt H0 T a l (p + 1) d = L1 at *
                        generalize PSt H0 T a l (p) d = L2 at *
                        generalize stopV (hereT l) c' w = sv at *
                        simp (disch := first | (simp only [List.length_append, List.length_cons, List.length_nil]; omega) | (simp; done) | assumption) [AV.cells?, AV.isCell, -AV.cells?, cq_int, cq_str, cq_slice, cq_bool, -evBuild, -evBuildSlice, Tryz.f132, E_esc, i1, i2, i3, i4, i6, i8, i10, i12, i14, i16, h17, finPan, hf, z24, c24, a24, k24, i24, tq46_0, tq46_1, tq46_2, tc46, ta46, tk46, ti46, tz46, fq0, fq3, fq4, fq5, c3, a3, k3, i3, c2, a2, k2, i2, c22, a22, k22, i22, bq3, bq2]
                      | ok z =>
                        obtain ⟨x, r17⟩ := z
                        rw [e17, ansX_ok] at h17
                        rw [th_ok]
                        have hcx := xcells x
                        have hlx := xlen x
                        have htx := xtake x
                        have hex := xemb x
                        rw [ansX_ok]
                        have hf := fin_X H0 T a l p d (r17) (oneX 25 x)
                        have ho := fun S => ev_one1 (n + 5) 25 x S
                        have hcz := xcells (oneX 25 x)
                        have hlz := xlen (oneX 25 x)
                        have htz := xtake (oneX 25 x)
                        have hez := xemb (oneX 25 x)
                        generalize (oneX 25 x).cells = zc at *
                        generalize (oneX 25 x).emb = ze at *
                        generalize PSt H0 T a l (r17) d = L0 at *
                        generalize PSt H0 T a l (p + 1) d = L1 at *
                        generalize PSt H0 T a l (p) d = L2 at *
                        generalize x.cells = xc at *
                        generalize x.emb = xe at *
                        simp (disch := first | (simp only [List.length_append, List.length_cons, List.length_nil]; omega) | (simp; done) | assumption) [AV.cells?, AV.isCell, -AV.cells?, cq_int, cq_str, cq_slice, cq_bool, -evBuild, -evBuildSlice, Tryz.f132, E_esc, i1, i2, i3, i4, i6, i8, i10, i12, i14, i16, h17, hcx, hlx, htx, hex, ho, hcz, hlz, htz, hez, hf, z24, c24, a24, k24, i24, tq46_0, tq46_1, tq46_2, tc46, ta46, tk46, ti46, tz46, fq0, fq3, fq4, fq5, c3, a3, k3, i3, c2, a2, k2, i2, c22, a22, k22, i22, bq3, bq2]
                    · rw [if_neg b16]
                      simp only [Bool.not_eq_true] at b16
                      rw [b16] at i16
                      simp only [Bool.false_eq_true, if_false] at i16
                      have h18 := hT (p)
                      cases e18 : timedP (hereT l) any (p) with
                      | error z =>
                        obtain ⟨c', w⟩ := z
                        rw [e18, ansX_err] at h18
                        rw [ansX_err]
                        have hf := fin_stop H0 T a l p d w c' w
                        generalize PSt H0 T a l (w) d = L0 at *
                        generalize PSt H0 T a l (p) d = L1 at *
                        generalize stopV (hereT l) c' w = sv at *
                        simp (disch := first | (simp only [List.length_append, List.length_cons, List.length_nil]; omega) | (simp; done) | assumption) [AV.cells?, AV.isCell, -AV.cells?, cq_int, cq_str, cq_slice, cq_bool, -evBuild, -evBuildSlice, Tryz.f132, E_esc, i1, i2, i3, i4, i6, i8, i10, i12, i14, i16, h18, finPan, hf, z24, c24, a24, k24, i24, tq46_0, tq46_1, tq46_2, tc46, ta46, tk46, ti46, tz46, fq0, fq3, fq4, fq5, c3, a3, k3, i3, c2, a2, k2, i2, c22, a22, k22, i22, bq3, bq2]
                      | ok z =>
                        obtain ⟨x, r18⟩ := z
                        rw [e18, ansX_ok] at h18
                        have hcx := xcells x
                        have hlx := xlen x
                        have htx := xtake x
                        have hex := xemb x
                        rw [ansX_ok]
                        have hf := fin_X H0 T a l p d (r18) (x)
                        generalize PSt H0 T a l (r18) d = L0 at *
                        generalize PSt H0 T a l (p) d = L1 at *
                        generalize x.cells = xc at *
                        generalize x.emb = xe at *
                        simp (disch := first | (simp only [List.length_append, List.length_cons, List.length_nil]; omega) | (simp; done) | assumption) [AV.cells?, AV.isCell, -AV.cells?, cq_int, cq_str, cq_slice, cq_bool, -evBuild, -evBuildSlice, Tryz.f132, E_esc, i1, i2, i3, i4, i6, i8, i10, i12, i14, i16, h18, hcx, hlx, htx, hex, hf, z24, c24, a24, k24, i24, tq46_0, tq46_1, tq46_2, tc46, ta46, tk46, ti46, tz46, fq0, fq3, fq4, fq5, c3, a3, k3, i3, c2, a2, k2, i2, c22, a22, k22, i22, bq3, bq2]
end
end Go.Proofs.YtemggoaefohliaaGreatDoor.PS
/- The parser: set, evaluated. Condition: the world outside is closed. -/
namespace Go.Proofs.YtemggoaefohliaaGreatDoor.PS
set_option linter.unusedVariables false
set_option linter.unusedSimpArgs false
open Go AE EX PT NF LX
set_option maxRecDepth 100000

theorem fin_drop {S S' : St} {v : AV} (hv : v.sealed = true) (hlen : S.H.length ≤ S'.H.length) (hT : S'.T.take S.T.length = S.T) (hlow : lowB S.H.length S.T.length (S'.H.take S.H.length) = true) (hvl : (v.strip S.T.length).low S.H.length S.T.length = true) :
    finish S v S' = some (v.strip S.T.length, ⟨S'.H.take S.H.length, S.T⟩) := by
  unfold finish
  rw [if_pos hv]
  by_cases h1 : boxEqL (S'.H.take S.H.length) S.H = true
  · have e := boxEqL_spec _ _ h1
    rw [if_pos (by simp [h1, hT, hvl]), e]
  · rw [if_neg (by simp [h1]), if_pos (by simp [hlen, hT, hvl, hlow])]
theorem lowB_set {h0 t0 : Nat} {b : HBox} (hb : AV.lowL h0 t0 b.cs = true) : ∀ {H : List HBox} {a : Nat}, lowB h0 t0 H = true → lowB h0 t0 (H.set a b) = true
  | [], a, h => h
  | x :: H, 0, h => by
    simp only [lowB, Bool.and_eq_true] at h
    simp [lowB, hb, h.2]
  | x :: H, a + 1, h => by
    simp only [lowB, Bool.and_eq_true] at h
    simp [lowB, h.1, lowB_set hb h.2]
theorem box_low (h0 t0 : Nat) (l : List Tk) (p d : Nat) : AV.lowL h0 t0 (box l p d).cs = true := by simp [box, AV.lowL, AV.low, low_tkL]
def kT (ks : List X) : List Nat := if ks = [] then [] else [6 * ks.length]
def kS (T : List Nat) (ks : List X) : AV := if ks = [] then .slice (embL ks) .clip else .slice (embL ks) (.own T.length (6 * ks.length))
theorem embL_len (ks : List X) : (embL ks).length = ks.length := by rw [embL_map]; simp
theorem embL_app (ks : List X) (x : X) : embL (ks ++ [x]) = embL ks ++ [x.emb] := by simp [embL_map]
theorem kS_cells (T : List Nat) (ks : List X) : (kS T ks).cells? = some [kS T ks] := by unfold kS; split <;> rfl
theorem kS_isCell (T : List Nat) (ks : List X) : (kS T ks).isCell = true := by unfold kS; split <;> rfl
theorem kS_sealed (T : List Nat) (ks : List X) : (kS T ks).sealed = true := by unfold kS; split <;> simp [AV.sealed, sealed_embL]
theorem kS_strip (T : List Nat) (ks : List X) (h : ks ≠ []) : (kS T ks).strip T.length = .slice (embL ks) .non := by simp [kS, h, AV.strip, strip_embL]
theorem kS_len (T : List Nat) (ks : List X) : evLen Tryz.prog 23 (kS T ks) = some (.int .i64 (ks.length : Int)) := by unfold kS; split <;> simp [evLen, embL_len, sq22]
theorem sizes_embL : ∀ ks : List X, sizesOk 6 (embL ks) = true
  | [] => rfl
  | x :: ks => by
    have := sizes_embL ks
    have hc := xcells x
    have hl := xlen x
    simp [embL, sizesOk, hc, hl, this]
theorem kS_ia (T : List Nat) (ks : List X) (i : Nat) (x : X) (h : ks[i]? = some x) : evIndexAddr Tryz.prog 23 (kS T ks) (.int .i64 (i : Int)) = some (.ref x.cells) := by
  have hc := xcells x
  have hl := xlen x
  have hi : (Tryz.prog.info? 25).isSome = true := i24
  have hg : (embL ks)[i]? = some x.emb := by rw [embL_map]; simp [h]
  unfold kS
  split <;> (simp [evIndexAddr, sq22, nth, hg, hc, c24, hl]; exact Option.isSome_iff_ne_none.1 hi)
theorem kS_app (H1 : List HBox) (T : List Nat) (ks : List X) (x : X) (h : ks.length ≤ 8) : evAppend Tryz.prog [23, 23] (kS T ks) (.slice (embL [x]) .clip) ⟨H1, T ++ kT ks⟩ = some (kS T (ks ++ [x]), ⟨H1, T ++ kT (ks ++ [x])⟩) := by
  have hs := sizes_embL ks
  have hx := sizes_embL [x]
  have hl := embL_len ks
  have he := embL_app ks x
  have hne : ks ++ [x] ≠ [] := by simp
  have hb : Tryz.prog.bytesOf 25 = 72 := by kernel_rfl
  have hs1 : embL [x] = [x.emb] := rfl
  rw [hs1] at hx ⊢
  have hcx := xcells x
  have hlx := xlen x
  simp only [evAppend, sq22, u22, elemsOf, z24, c24, hb, kS, kT, if_neg hne, he]
  by_cases h0 : ks = []
  · subst h0
    have he0 : embL ([] : List X) = [] := rfl
    simp [he0, hx, sizesOk, hcx, hlx]
  · simp only [if_neg h0]
    simp [hs, hx, hl]
    omega

/-! ### the loop -/
noncomputable def lp74 : Code := cutC (bodyOf Tryz.f133) [1, 1, 1, 0, 0]
noncomputable def s074 : Code := cutC (bodyOf Tryz.f133) [0]
noncomputable def s174 : Code := cutC (bodyOf Tryz.f133) [1, 0]
noncomputable def s274 : Code := cutC (bodyOf Tryz.f133) [1, 1, 0]
theorem fb74 : Tryz.f133.body = some (.seq s074 (.seq s174 (.seq s274 (.block 0 (.loop lp74))))) := rfl
def ksC (T : List Nat) (ks : List X) : List AV := [.int .i64 4, .str [], .int .i64 0, .int .i64 0, .int .i64 0, kS T ks]
def SEI (H0 : List HBox) (T : List Nat) (a : Nat) (l : List Tk) (d n : Nat) (R : PR X) (m : Nat) (fs : FS) : Prop :=
  ∃ ks r f, m = l.length - r ∧ ks.length ≤ 8 ∧ fs.t 0 = .ptr a 0 ∧ fs.t 2 = .loc n 2 1 0 ∧ fs.t 3 = .loc n 3 3 0 ∧ fs.b 2 = (1, z6) ∧ fs.b 3 = (3, ksC T ks) ∧ fs.S = PSt H0 (T ++ kT ks) a l r d ∧ m < f ∧ setF (hereT l) f ks r = R
def SEQ (H0 : List HBox) (T : List Nat) (a : Nat) (l : List Tk) (d n : Nat) (R : PR X) (r : Out × FS) : Prop :=
  (r.1 = .ret ∧ ∃ ks q, ks ≠ [] ∧ r.2.t 2 = .loc n 2 1 0 ∧ r.2.b 2 = (1, ksC T ks) ∧ r.2.S = PSt H0 (T ++ kT ks) a l q d ∧ R = .ok (setX ks, q)) ∨
  (∃ c q ks, r.1 = .pan (stopV (hereT l) c q) ∧ r.2.S = PSt H0 (T ++ kT ks) a l q d ∧ R = .error (c, q))
theorem lastS_name (ks : List X) (i : Nat) (hi : ks.length = i + 1) : ∃ k s n lo hi tk kk, ks[i]? = some (X.mk k s n lo hi tk kk) ∧ lastS ks = s := by
  have hlt : i < ks.length := by omega
  have hg : ks[i]? = some ks[i] := List.getElem?_eq_getElem hlt
  have hl : ks.getLast? = some ks[i] := by rw [List.getLast?_eq_getElem?, show ks.length - 1 = i by omega]; exact hg
  rcases hk : ks[i] with ⟨k, s, n, lo, hi', tk, kk⟩
  rw [hk] at hg hl
  exact ⟨k, s, n, lo, hi', tk, kk, hg, by simp [lastS, hl]⟩
end Go.Proofs.YtemggoaefohliaaGreatDoor.PS
/- The parser: set's rounds; set, evaluated (printed by gendp5.py). Condition: the world outside is closed. -/
namespace Go.Proofs.YtemggoaefohliaaGreatDoor.PS
set_option linter.unusedVariables false
set_option linter.unusedSimpArgs false
open Go AE EX PT NF LX
set_option maxRecDepth 100000
section
variable {H0 : List HBox} {a : Nat} (ha : a < H0.length) (T : List Nat) (l : List Tk) (hl : l.length ≤ 2000000)
include ha hl
set_option maxHeartbeats 8000000 in
theorem rd74 (n d : Nat) (R : PR X) (m : Nat) (fs : FS) (h : SEI H0 T a l d (n + 4) R m fs) :
    ∃ o fs', evCode ⟨Tryz.prog, E.esc 133, n + 4⟩ (ev Tryz.prog E (n + 4)) (E.ps 133) (n + 4) lp74 fs = some (o, fs') ∧ ((o = .norm ∧ ∃ m', m' < m ∧ SEI H0 T a l d (n + 4) R m' fs') ∨ (o ≠ .norm ∧ SEQ H0 T a l d (n + 4) R (o, fs'))) := by
  obtain ⟨t, b, c, S⟩ := fs
  obtain ⟨ks, r, f, hmr, hk8, h0, h2, h3, hb2, hb3, hS, hmf, hR⟩ := h
  simp only at h0 h2 h3 hb2 hb3 hS
  subst hS
  obtain ⟨f, rfl⟩ : ∃ g, f = g + 1 := ⟨f - 1, by omega⟩
  have hps : E.ps 133 6 = [(7, 9), (7, 14)] := rfl
  have htk : ev Tryz.prog E (n + 4) 140 [.ptr a 0, .int .i64 3] (PSt H0 (T ++ kT ks) a l r d) = _ := ev_take ha (T ++ kT ks) l hl (n + 1) r d 3 (by decide)
  simp only [ksC] at hb3
  have hcl := kS_cells T ks
  have hlen := kS_len T ks
  rw [setF] at hR
  cases e1 : takeP (hereT l) 3 r with
  | error z =>
    obtain ⟨c', w⟩ := z
    rw [e1, ansR_err] at htk
    rw [e1, th_err] at hR
    generalize hL2 : PSt H0 (T ++ kT ks) a l w d = L2 at *
    generalize hL1 : PSt H0 (T ++ kT ks) a l r d = L1 at *
    generalize hsv : stopV (hereT l) c' w = sv at *
    refine ⟨.pan sv, _, by
      simp (disch := first | (simp only [List.length_append, List.length_cons, List.length_nil]; omega) | (simp; done) | assumption) [AV.cells?, AV.isCell, -AV.cells?, -evLen, -evIndexAddr, cq_int, cq_str, cq_slice, cq_bool, -evBuild, -evBuildSlice, lp74, s074, s174, s274, cutC, bodyOf, Tryz.f133, E_esc, h0, h2, h3, hb2, hb3, htk, z24, c24, a24, k24, i24, tq46_0, tq46_1, tq46_2, tc46, ta46, tk46, ti46, tz46, fq0, fq3, fq4, fq5, c3, a3, k3, i3, c2, a2, k2, i2, c22, a22, k22, i22, bq3, bq2, fq1, k9, a9, c9, bq9]
      rfl, .inr ⟨by simp, .inr ⟨c', w, ks, by rw [hsv], hL2.symm, hR.symm⟩⟩⟩
  | ok z =>
    obtain ⟨u, r1⟩ := z
    have hlt : r < l.length ∧ r1 = r + 1 := by
      unfold takeP at e1
      split at e1
      · rename_i hk
        cases e1
        exact ⟨here_lt (by rw [hk]; decide), rfl⟩
      · cases e1
    obtain ⟨hlt, hr1⟩ := hlt
    rw [e1, ansR_ok] at htk
    rw [e1, th_ok] at hR
    obtain ⟨uk, us, un, up⟩ := u
    simp only [Tk.emb, Tk.cells] at htk
    simp only at hR
    have hfl := ev_fail ha (T ++ kT ks) l hl (n + 2) r1 d 16
    -- whether it may stand here
    have hbad : setBad ks us = true → ∃ fs', evCode ⟨Tryz.prog, E.esc 133, n + 4⟩ (ev Tryz.prog E (n + 4)) (E.ps 133) (n + 4) lp74 ⟨t, b, c, PSt H0 (T ++ kT ks) a l r d⟩ = some (.pan (stopV (hereT l) 16 r1), fs') ∧ fs'.S = PSt H0 (T ++ kT ks) a l r1 d := by
      intro hbad
      generalize hL2 : PSt H0 (T ++ kT ks) a l r1 d = L2 at *
      generalize hL1 : PSt H0 (T ++ kT ks) a l r d = L1 at *
      generalize hsv : stopV (hereT l) 16 r1 = sv at *
      unfold setBad at hbad
      rcases hkn : ks.length with _ | i
      · rw [hkn] at hbad
        simp at hbad
      · obtain ⟨k, s, n', lo, hi, tk, kk, hg, hls⟩ := lastS_name ks i hkn
        have hia := kS_ia T ks i _ hg
        rw [hkn] at hlen hbad
        rw [hls] at hbad
        simp only [X.cells] at hia
        have hw : IntKind.i64.wrap (((i + 1 : Nat) : Int) - 1) = (i : Int) := by rw [wrap64 _ (by omega)]; omega
        have hpos : (0 : Int) < ((i + 1 : Nat) : Int) := by omega
        generalize kS T ks = sl at *
        generalize embL kk = ekk at *
        by_cases h8 : i + 1 = 8
        · have hi7 : i = 7 := by omega
          subst hi7
          refine ⟨_, by
            simp (disch := first | (simp only [List.length_append, List.length_cons, List.length_nil]; omega) | (simp; done) | assumption) [AV.cells?, AV.isCell, -AV.cells?, -evLen, -evIndexAddr, cq_int, cq_str, cq_slice, cq_bool, -evBuild, -evBuildSlice, lp74, s074, s174, s274, cutC, bodyOf, Tryz.f133, E_esc, h0, h2, h3, hb2, hb3, htk, hlen, hps, hcl, hia, hw, hpos, hfl, z24, c24, a24, k24, i24, tq46_0, tq46_1, tq46_2, tc46, ta46, tk46, ti46, tz46, fq0, fq3, fq4, fq5, c3, a3, k3, i3, c2, a2, k2, i2, c22, a22, k22, i22, bq3, bq2, fq1, k9, a9, c9, bq9]
            rfl, rfl⟩
        · have h8z : ¬ ((i + 1 : Nat) : Int) = 8 := by omega
          have h8b : (i + 1 == 8) = false := by simp; omega
          have hdp : decide (0 < i + 1) = true := by simp
          rw [h8b, hdp] at hbad
          simp only [Bool.false_or, Bool.true_and] at hbad
          clear hkn h8b hdp
          generalize ((i + 1 : Nat) : Int) = I1 at *
          refine ⟨_, by
            simp (disch := first | (simp only [List.length_append, List.length_cons, List.length_nil]; omega) | (simp; done) | assumption) [AV.cells?, AV.isCell, -AV.cells?, -evLen, -evIndexAddr, cq_int, cq_str, cq_slice, cq_bool, -evBuild, -evBuildSlice, lp74, s074, s174, s274, cutC, bodyOf, Tryz.f133, E_esc, h0, h2, h3, hb2, hb3, htk, hlen, hps, hcl, hia, hw, hpos, h8z, hbad, hfl, z24, c24, a24, k24, i24, tq46_0, tq46_1, tq46_2, tc46, ta46, tk46, ti46, tz46, fq0, fq3, fq4, fq5, c3, a3, k3, i3, c2, a2, k2, i2, c22, a22, k22, i22, bq3, bq2, fq1, k9, a9, c9, bq9]
            rfl, rfl⟩
    cases hsb : setBad ks us
    · rw [hsb] at hR
      simp only [Bool.false_eq_true, if_false] at hR
      have hk7 : ks.length < 8 := by
        unfold setBad at hsb
        simp only [Bool.or_eq_false_iff, beq_eq_false_iff_ne, ne_eq] at hsb
        omega
      have hi : ev Tryz.prog E (n + 4) 52 [.ptr a 0, .str [125]] (PSt H0 (T ++ kT (ks ++ [leafX 3 us 0 0])) a l r1 d) = _ := ev_is ha (T ++ kT (ks ++ [leafX 3 us 0 0])) l hl (n + 2) r1 d _ _
      have hap : evAppend Tryz.prog [23, 23] (kS T ks) (.slice (embL [leafX 3 us 0 0]) .clip) (PSt H0 (T ++ kT ks) a l r1 d) = some (kS T (ks ++ [leafX 3 us 0 0]), PSt H0 (T ++ kT (ks ++ [leafX 3 us 0 0])) a l r1 d) := kS_app _ T ks _ hk8
      have hbl := bX1 3 us
      have hbs := bS1 (leafX 3 us 0 0)
      have hcl2 := kS_cells T (ks ++ [leafX 3 us 0 0])
      have hic2 := kS_isCell T (ks ++ [leafX 3 us 0 0])
      have hag : (AV.agg (ksC T (ks ++ [leafX 3 us 0 0]))).cells? = some (ksC T (ks ++ [leafX 3 us 0 0])) := cq_agg _ (by simp only [ksC, List.all_cons, List.all_nil, hic2]; rfl)
      simp only [ksC] at hag
      have hks2 : (ks ++ [leafX 3 us 0 0]).length ≤ 8 := by simp; omega
      have hne2 : ks ++ [leafX 3 us 0 0] ≠ [] := by simp
      have hnd : ev Tryz.prog E (n + 4) 134 [.ptr a 0, .str [44]] (PSt H0 (T ++ kT (ks ++ [leafX 3 us 0 0])) a l r1 d) = _ := ev_need ha (T ++ kT (ks ++ [leafX 3 us 0 0])) l hl n r1 d _ _
      generalize ks ++ [leafX 3 us 0 0] = ks2 at *
      generalize embL [leafX 3 us 0 0] = el at *
      generalize (leafX 3 us 0 0).emb = le at *
      have hC2 : ksC T ks2 = [.int .i64 4, .str [], .int .i64 0, .int .i64 0, .int .i64 0, kS T ks2] := rfl
      rcases hkn : ks.length with _ | i
      · have h00 : ks = [] := by simpa using hkn
        rw [hkn] at hlen
        cases hB : isB (hereT l) r1 [125]
        · rw [hB] at hi hR
          simp only [Bool.false_eq_true, if_false] at hi hR
          cases e2 : needP (hereT l) [44] r1 with
          | error z =>
            obtain ⟨c', w⟩ := z
            rw [e2, ansR_err] at hnd
            rw [e2, th_err] at hR
            generalize hL4 : PSt H0 (T ++ kT ks2) a l w d = L4 at *
            generalize hL3 : PSt H0 (T ++ kT ks2) a l r1 d = L3 at *
            generalize hL2 : PSt H0 (T ++ kT ks) a l r1 d = L2 at *
            generalize hL1 : PSt H0 (T ++ kT ks) a l r d = L1 at *
            generalize hsv : stopV (hereT l) c' w = sv at *
            generalize kS T ks = sl at *
            generalize kS T ks2 = sl2 at *
            refine ⟨.pan sv, _, by
              simp (disch := first | (simp only [List.length_append, List.length_cons, List.length_nil]; omega) | (simp; done) | assumption) [AV.cells?, AV.isCell, -AV.cells?, -evLen, -evIndexAddr, cq_int, cq_str, cq_slice, cq_bool, -evBuild, -evBuildSlice, lp74, s074, s174, s274, cutC, bodyOf, Tryz.f133, E_esc, h0, h2, h3, hb2, hb3, htk, hlen, hps, hcl, hbl, hbs, hap, hcl2, hag, i22, z6_len, hi, hnd, z24, c24, a24, k24, i24, tq46_0, tq46_1, tq46_2, tc46, ta46, tk46, ti46, tz46, fq0, fq3, fq4, fq5, c3, a3, k3, i3, c2, a2, k2, i2, c22, a22, k22, i22, bq3, bq2, fq1, k9, a9, c9, bq9]
              rfl, .inr ⟨by simp, .inr ⟨c', w, ks2, by rw [hsv], hL4.symm, hR.symm⟩⟩⟩
          | ok z =>
            obtain ⟨_u, w⟩ := z
            have hw2 := mono_need _ _ _ _ e2
            rw [e2, ansR_ok] at hnd
            rw [e2, th_ok] at hR
            generalize hL4 : PSt H0 (T ++ kT ks2) a l w d = L4 at *
            generalize hL3 : PSt H0 (T ++ kT ks2) a l r1 d = L3 at *
            generalize hL2 : PSt H0 (T ++ kT ks) a l r1 d = L2 at *
            generalize hL1 : PSt H0 (T ++ kT ks) a l r d = L1 at *
            generalize kS T ks = sl at *
            generalize hsl2 : kS T ks2 = sl2 at *
            refine ⟨.norm, _, by
              simp (disch := first | (simp only [List.length_append, List.length_cons, List.length_nil]; omega) | (simp; done) | assumption) [AV.cells?, AV.isCell, -AV.cells?, -evLen, -evIndexAddr, cq_int, cq_str, cq_slice, cq_bool, -evBuild, -evBuildSlice, lp74, s074, s174, s274, cutC, bodyOf, Tryz.f133, E_esc, h0, h2, h3, hb2, hb3, htk, hlen, hps, hcl, hbl, hbs, hap, hcl2, hag, i22, z6_len, hi, hnd, z24, c24, a24, k24, i24, tq46_0, tq46_1, tq46_2, tc46, ta46, tk46, ti46, tz46, fq0, fq3, fq4, fq5, c3, a3, k3, i3, c2, a2, k2, i2, c22, a22, k22, i22, bq3, bq2, fq1, k9, a9, c9, bq9]
              rfl, .inl ⟨rfl, l.length - w, by omega, ks2, w, f, rfl, hks2, by simp [upd, putA, h0], by simp [upd, putA, h2], by simp [upd, putA, h3], by simp [upd, hb2], by simp [upd, ksC, hsl2], hL4.symm, by omega, hR⟩⟩
        · rw [hB] at hi hR
          simp only [if_true] at hi hR
          generalize hL4 : PSt H0 (T ++ kT ks2) a l (r1 + 1) d = L4 at *
          generalize hL3 : PSt H0 (T ++ kT ks2) a l r1 d = L3 at *
          generalize hL2 : PSt H0 (T ++ kT ks) a l r1 d = L2 at *
          generalize hL1 : PSt H0 (T ++ kT ks) a l r d = L1 at *
          generalize kS T ks = sl at *
          generalize hsl2 : kS T ks2 = sl2 at *
          refine ⟨.ret, _, by
            simp (disch := first | (simp only [List.length_append, List.length_cons, List.length_nil]; omega) | (simp; done) | assumption) [AV.cells?, AV.isCell, -AV.cells?, -evLen, -evIndexAddr, cq_int, cq_str, cq_slice, cq_bool, -evBuild, -evBuildSlice, lp74, s074, s174, s274, cutC, bodyOf, Tryz.f133, E_esc, h0, h2, h3, hb2, hb3, htk, hlen, hps, hcl, hbl, hbs, hap, hcl2, hag, i22, z6_len, hi, z24, c24, a24, k24, i24, tq46_0, tq46_1, tq46_2, tc46, ta46, tk46, ti46, tz46, fq0, fq3, fq4, fq5, c3, a3, k3, i3, c2, a2, k2, i2, c22, a22, k22, i22, bq3, bq2, fq1, k9, a9, c9, bq9]
            rfl, .inr ⟨by simp, .inl ⟨rfl, ks2, r1 + 1, hne2, by simp [upd, putA, h2], by simp [upd, ksC, hsl2, hb2, z6], hL4.symm, hR.symm⟩⟩⟩
      · obtain ⟨k, s, n', lo, hi', tk, kk, hg, hls⟩ := lastS_name ks i hkn
        have hia := kS_ia T ks i _ hg
        unfold setBad at hsb
        rw [hkn] at hlen hsb
        rw [hls] at hsb
        simp only [X.cells] at hia
        have hw : IntKind.i64.wrap (((i + 1 : Nat) : Int) - 1) = (i : Int) := by rw [wrap64 _ (by omega)]; omega
        have hpos : (0 : Int) < ((i + 1 : Nat) : Int) := by omega
        have h8z : ¬ ((i + 1 : Nat) : Int) = 8 := by omega
        have h8b : (i + 1 == 8) = false := by simp; omega
        have hdp : decide (0 < i + 1) = true := by simp
        rw [h8b, hdp] at hsb
        simp only [Bool.false_or, Bool.true_and] at hsb
        clear h8b hdp
        generalize ((i + 1 : Nat) : Int) = I1 at *
        generalize embL kk = ekk at *
        cases hB : isB (hereT l) r1 [125]
        · rw [hB] at hi hR
          simp only [Bool.false_eq_true, if_false] at hi hR
          cases e2 : needP (hereT l) [44] r1 with
          | error z =>
            obtain ⟨c', w⟩ := z
            rw [e2, ansR_err] at hnd
            rw [e2, th_err] at hR
            generalize hL4 : PSt H0 (T ++ kT ks2) a l w d = L4 at *
            generalize hL3 : PSt H0 (T ++ kT ks2) a l r1 d = L3 at *
            generalize hL2 : PSt H0 (T ++ kT ks) a l r1 d = L2 at *
            generalize hL1 : PSt H0 (T ++ kT ks) a l r d = L1 at *
            generalize hsv : stopV (hereT l) c' w = sv at *
            generalize kS T ks = sl at *
            generalize kS T ks2 = sl2 at *
            refine ⟨.pan sv, _, by
              simp (disch := first | (simp only [List.length_append, List.length_cons, List.length_nil]; omega) | (simp; done) | assumption) [AV.cells?, AV.isCell, -AV.cells?, -evLen, -evIndexAddr, cq_int, cq_str, cq_slice, cq_bool, -evBuild, -evBuildSlice, lp74, s074, s174, s274, cutC, bodyOf, Tryz.f133, E_esc, h0, h2, h3, hb2, hb3, htk, hlen, hps, hcl, hbl, hbs, hap, hcl2, hag, i22, z6_len, hi, hnd, hia, hw, hpos, h8z, hsb, z24, c24, a24, k24, i24, tq46_0, tq46_1, tq46_2, tc46, ta46, tk46, ti46, tz46, fq0, fq3, fq4, fq5, c3, a3, k3, i3, c2, a2, k2, i2, c22, a22, k22, i22, bq3, bq2, fq1, k9, a9, c9, bq9]
              rfl, .inr ⟨by simp, .inr ⟨c', w, ks2, by rw [hsv], hL4.symm, hR.symm⟩⟩⟩
          | ok z =>
            obtain ⟨_u, w⟩ := z
            have hw2 := mono_need _ _ _ _ e2
            rw [e2, ansR_ok] at hnd
            rw [e2, th_ok] at hR
            generalize hL4 : PSt H0 (T ++ kT ks2) a l w d = L4 at *
            generalize hL3 : PSt H0 (T ++ kT ks2) a l r1 d = L3 at *
            generalize hL2 : PSt H0 (T ++ kT ks) a l r1 d = L2 at *
            generalize hL1 : PSt H0 (T ++ kT ks) a l r d = L1 at *
            generalize kS T ks = sl at *
            generalize hsl2 : kS T ks2 = sl2 at *
            refine ⟨.norm, _, by
              simp (disch := first | (simp only [List.length_append, List.length_cons, List.length_nil]; omega) | (simp; done) | assumption) [AV.cells?, AV.isCell, -AV.cells?, -evLen, -evIndexAddr, cq_int, cq_str, cq_slice, cq_bool, -evBuild, -evBuildSlice, lp74, s074, s174, s274, cutC, bodyOf, Tryz.f133, E_esc, h0, h2, h3, hb2, hb3, htk, hlen, hps, hcl, hbl, hbs, hap, hcl2, hag, i22, z6_len, hi, hnd, hia, hw, hpos, h8z, hsb, z24, c24, a24, k24, i24, tq46_0, tq46_1, tq46_2, tc46, ta46, tk46, ti46, tz46, fq0, fq3, fq4, fq5, c3, a3, k3, i3, c2, a2, k2, i2, c22, a22, k22, i22, bq3, bq2, fq1, k9, a9, c9, bq9]
              rfl, .inl ⟨rfl, l.length - w, by omega, ks2, w, f, rfl, hks2, by simp [upd, putA, h0], by simp [upd, putA, h2], by simp [upd, putA, h3], by simp [upd, hb2], by simp [upd, ksC, hsl2], hL4.symm, by omega, hR⟩⟩
        · rw [hB] at hi hR
          simp only [if_true] at hi hR
          generalize hL4 : PSt H0 (T ++ kT ks2) a l (r1 + 1) d = L4 at *
          generalize hL3 : PSt H0 (T ++ kT ks2) a l r1 d = L3 at *
          generalize hL2 : PSt H0 (T ++ kT ks) a l r1 d = L2 at *
          generalize hL1 : PSt H0 (T ++ kT ks) a l r d = L1 at *
          generalize kS T ks = sl at *
          generalize hsl2 : kS T ks2 = sl2 at *
          refine ⟨.ret, _, by
            simp (disch := first | (simp only [List.length_append, List.length_cons, List.length_nil]; omega) | (simp; done) | assumption) [AV.cells?, AV.isCell, -AV.cells?, -evLen, -evIndexAddr, cq_int, cq_str, cq_slice, cq_bool, -evBuild, -evBuildSlice, lp74, s074, s174, s274, cutC, bodyOf, Tryz.f133, E_esc, h0, h2, h3, hb2, hb3, htk, hlen, hps, hcl, hbl, hbs, hap, hcl2, hag, i22, z6_len, hi, hia, hw, hpos, h8z, hsb, z24, c24, a24, k24, i24, tq46_0, tq46_1, tq46_2, tc46, ta46, tk46, ti46, tz46, fq0, fq3, fq4, fq5, c3, a3, k3, i3, c2, a2, k2, i2, c22, a22, k22, i22, bq3, bq2, fq1, k9, a9, c9, bq9]
            rfl, .inr ⟨by simp, .inl ⟨rfl, ks2, r1 + 1, hne2, by simp [upd, putA, h2], by simp [upd, ksC, hsl2, hb2, z6], hL4.symm, hR.symm⟩⟩⟩
    · rw [hsb] at hR
      simp only [if_true] at hR
      obtain ⟨fs', g1, g2⟩ := hbad hsb
      exact ⟨_, fs', g1, .inr ⟨by simp, .inr ⟨16, r1, ks, rfl, g2, hR.symm⟩⟩⟩
end
end Go.Proofs.YtemggoaefohliaaGreatDoor.PS
/- The parser: set, evaluated (printed by gendp6.py). Condition: the world outside is closed. -/
namespace Go.Proofs.YtemggoaefohliaaGreatDoor.PS
set_option linter.unusedVariables false
set_option linter.unusedSimpArgs false
open Go AE EX PT NF LX
set_option maxRecDepth 100000
theorem PSt_take {H0 : List HBox} (T T' : List Nat) (a : Nat) (l : List Tk) (q d : Nat) : (PSt H0 T' a l q d).H.take H0.length = (PSt H0 T a l q d).H := by
  simp [PSt, List.take_of_length_le]
theorem fin_dropP {H0 : List HBox} (T : List Nat) (a : Nat) (l : List Tk) (p q d : Nat) (ex : List Nat) (v : AV) (hw : lowB H0.length T.length H0 = true) (hv : v.sealed = true) (hvl : (v.strip T.length).low H0.length T.length = true) :
    finish (PSt H0 T a l p d) v (PSt H0 (T ++ ex) a l q d) = some (v.strip T.length, PSt H0 T a l q d) := by
  have := fin_drop (S := PSt H0 T a l p d) (S' := PSt H0 (T ++ ex) a l q d) (v := v) hv (by simp [PSt]) (by simp [PSt]) (by
    have e : (PSt H0 T a l p d).H.length = H0.length := by simp [PSt]
    have et : (PSt H0 T a l p d).T.length = T.length := rfl
    rw [e, et, PSt_take T]
    exact lowB_set (box_low _ _ l q d) hw) (by simpa [PSt] using hvl)
  rw [this]
  have e : (PSt H0 T a l p d).H.length = H0.length := by simp [PSt]
  rw [e, PSt_take T]
  rfl
section
variable {H0 : List HBox} {a : Nat} (ha : a < H0.length) (T : List Nat) (l : List Tk) (hl : l.length ≤ 2000000)
include ha hl
set_option maxHeartbeats 4000000 in
theorem ev74 (n d : Nat) (hw : lowB H0.length T.length H0 = true) (F : Nat) (hF : l.length < F) (hn : l.length < n) : Sub H0 T a l d (n + 5) 133 (setP (hereT l) F) := by
  intro p
  rw [show n + 5 = (n + 4) + 1 from rfl, ev_enter (n := n + 4) (show E.ok 133 = true from rfl) Tryz.func133 fb74 (Nat.le_of_ble_eq_true rfl) (by decide +kernel)]
  unfold setP
  have hi : ev Tryz.prog E (n + 4) 52 [.ptr a 0, .str [125]] (PSt H0 T a l p d) = _ := ev_is ha T l hl (n + 2) p d _ _
  have hb : evBuild Tryz.prog 25 [(0, .int .i64 4)] = some (.agg [.int .i64 4, .str [], .int .i64 0, .int .i64 0, .int .i64 0, .slice [] .clip]) := bX0 4
  by_cases hB : isB (hereT l) p [125] = true
  · rw [if_pos hB]
    rw [hB] at hi
    simp only [if_true] at hi
    rw [ansX_ok]
    have hf := fin_X H0 T a l p d (p + 1) (leafX 4 [] 0 0)
    simp only [leaf_emb] at hf ⊢
    generalize PSt H0 T a l (p + 1) d = L2 at *
    generalize PSt H0 T a l p d = L1 at *
    simp (disch := first | (simp only [List.length_append, List.length_cons, List.length_nil]; omega) | (simp; done) | assumption) [AV.cells?, AV.isCell, -AV.cells?, -evLen, -evIndexAddr, cq_int, cq_str, cq_slice, cq_bool, -evBuild, -evBuildSlice, s074, s174, s274, cutC, bodyOf, Tryz.f133, E_esc, hi, hb, hf, z24, c24, a24, k24, i24, tq46_0, tq46_1, tq46_2, tc46, ta46, tk46, ti46, tz46, fq0, fq3, fq4, fq5, c3, a3, k3, i3, c2, a2, k2, i2, c22, a22, k22, i22, bq3, bq2, fq1, k9, a9, c9, bq9]
  · rw [if_neg hB]
    simp only [Bool.not_eq_true] at hB
    rw [hB] at hi
    simp only [Bool.false_eq_true, if_false] at hi
    obtain ⟨fs1, e1, p1⟩ : ∃ fs', evCode ⟨Tryz.prog, E.esc 133, n + 4⟩ (ev Tryz.prog E (n + 4)) (E.ps 133) (n + 4) (.seq (.seq s074 s174) s274) ⟨argsA [.ptr a 0], fun _ => (0, []), 0, PSt H0 T a l p d⟩ = some (.norm, fs') ∧ SEI H0 T a l d (n + 4) (setF (hereT l) F [] p) (l.length - p) fs' := by
      have hT : PSt H0 (T ++ kT []) a l p d = PSt H0 T a l p d := by simp [kT]
      generalize hL1 : PSt H0 T a l p d = L1 at *
      have hks : ksC T [] = [.int .i64 4, .str [], .int .i64 0, .int .i64 0, .int .i64 0, .slice [] .clip] := rfl
      refine ⟨_, by
        simp (disch := first | (simp only [List.length_append, List.length_cons, List.length_nil]; omega) | (simp; done) | assumption) [AV.cells?, AV.isCell, -AV.cells?, -evLen, -evIndexAddr, cq_int, cq_str, cq_slice, cq_bool, -evBuild, -evBuildSlice, s074, s174, s274, cutC, bodyOf, Tryz.f133, E_esc, hi, hb, z24, c24, a24, k24, i24, tq46_0, tq46_1, tq46_2, tc46, ta46, tk46, ti46, tz46, fq0, fq3, fq4, fq5, c3, a3, k3, i3, c2, a2, k2, i2, c22, a22, k22, i22, bq3, bq2, fq1, k9, a9, c9, bq9]
        rfl, [], p, F, rfl, by simp, by simp [upd, putA, argsA], by simp [upd, putA], by simp [upd, putA], by simp [upd, z6], by simp [upd, hks], hT.symm, by omega, rfl⟩
    obtain ⟨⟨o, fs2⟩, r1, r2⟩ := iter_meas (fun m' fs h => rd74 ha T l hl n d _ m' fs h) (l.length - p) (n + 4) fs1 (by omega) p1
    rw [evCode_assoc, evCode_assoc, evCode_seq, e1, seqK_norm, evCode_block, evCode_loop, r1]
    obtain ⟨t, b, c, S⟩ := fs2
    rcases r2 with ⟨q1, ks, q, q2, q3, q4, q5, q6⟩ | ⟨c', q, ks, q1, q2, q3⟩
    · simp only at q1 q3 q4 q5
      subst q1 q5
      rw [q6, blockK_ret, ansX_ok]
      clear r1 e1 p1
      have hsl : AV.sealed (.agg (ksC T ks)) = true := by
        have := kS_sealed T ks
        simp [ksC, AV.sealed, AV.sealedL, this]
      have hst : (AV.agg (ksC T ks)).strip T.length = (setX ks).emb := by
        have := kS_strip T ks q2
        simp [ksC, AV.strip, AV.stripL, this, setX, X.emb, tokOf]
      have hf := fin_dropP T a l p q d (kT ks) (.agg (ksC T ks)) hw hsl (by rw [hst]; exact low_emb _ _ _)
      rw [hst] at hf
      have hk6 : (ksC T ks).length = 6 := rfl
      have hkt : List.take 6 (ksC T ks) = ksC T ks := rfl
      generalize PSt H0 (T ++ kT ks) a l q d = L3 at *
      generalize PSt H0 T a l q d = L2 at *
      generalize PSt H0 T a l p d = L1 at *
      generalize (setX ks).emb = ze at *
      generalize ksC T ks = kc at *
      clear hsl hst
      simp (disch := first | (simp only [List.length_append, List.length_cons, List.length_nil]; omega) | (simp; done) | assumption) [AV.cells?, AV.isCell, -AV.cells?, -evLen, -evIndexAddr, cq_int, cq_str, cq_slice, cq_bool, -evBuild, -evBuildSlice, s074, s174, s274, cutC, bodyOf, Tryz.f133, E_esc, q3, q4, hk6, hkt, hf, z24, c24, a24, k24, i24, tq46_0, tq46_1, tq46_2, tc46, ta46, tk46, ti46, tz46, fq0, fq3, fq4, fq5, c3, a3, k3, i3, c2, a2, k2, i2, c22, a22, k22, i22, bq3, bq2, fq1, k9, a9, c9, bq9]
    · simp only at q1 q2
      subst q1 q2
      rw [q3, blockK_pan, ansX_err]
      clear r1 e1 p1
      have hf := fin_dropP T a l p q d (kT ks) (stopV (hereT l) c' q) hw rfl rfl
      simp only [fromBody, finPan, hf]
      rfl
end
end Go.Proofs.YtemggoaefohliaaGreatDoor.PS
/- The parser: one, evaluated (printed by gendp7.py). Condition: the world outside is closed. -/
namespace Go.Proofs.YtemggoaefohliaaGreatDoor.PS
set_option linter.unusedVariables false
set_option linter.unusedSimpArgs false
open Go AE EX PT NF LX
set_option maxRecDepth 100000
theorem esc69 (d : Nat) : E.esc 128 d = (d == 1) := by simp [E]
noncomputable def r069 : Code := cutC (bodyOf Tryz.f128) [0]
noncomputable def rc69 : Code := cutC (bodyOf Tryz.f128) [1, 0]
noncomputable def r369 : Code := cutC (bodyOf Tryz.f128) [1, 1, 0]
noncomputable def B69 : Code := cutC (bodyOf Tryz.f128) [1, 1, 1, 1]
def opsOf : Code → Array Oper
  | .region _ ops _ => ops
  | _ => #[]
noncomputable def O69 : Array Oper := opsOf (cutC (bodyOf Tryz.f128) [1, 1, 1, 0])
theorem cut69 : cutD (bodyOf Tryz.f128) = some (.seq r069 (.seq rc69 (.seq r369 .skip)), O69, ⟨.value (.tmp 18), #[], #[]⟩, B69) := rfl

def b64 (a : Nat) : HBox := ⟨61, [.ptr a 0]⟩
theorem PSt_app {H0 : List HBox} {a : Nat} (ha : a < H0.length) (T : List Nat) (l : List Tk) (p d : Nat) : (⟨(PSt H0 T a l p d).H ++ [b64 a], (PSt H0 T a l p d).T⟩ : St) = PSt (H0 ++ [b64 a]) T a l p d := by
  simp [PSt, List.set_append_left, ha]
theorem PSt_own {H0 : List HBox} {a : Nat} (ha : a < H0.length) (T : List Nat) (l : List Tk) (p d : Nat) : (PSt (H0 ++ [b64 a]) T a l p d).H[H0.length]? = some ⟨61, [.ptr a 0]⟩ := by
  simp [PSt, List.set_append_left, ha, b64]
theorem PSt_Hlen (H0 : List HBox) (T : List Nat) (a : Nat) (l : List Tk) (p d : Nat) : (PSt H0 T a l p d).H.length = H0.length := by simp [PSt]
theorem fin_one {H0 : List HBox} {a : Nat} (ha : a < H0.length) (T : List Nat) (l : List Tk) (p d q : Nat) (v : AV) (hw : lowB H0.length T.length H0 = true) (hv : v.sealed = true) (hst : v.strip T.length = v) (hvl : v.low H0.length T.length = true) :
    finish (PSt H0 T a l p d) v (PSt (H0 ++ [b64 a]) T a l q d) = some (v, PSt H0 T a l q d) := by
  have ht : (PSt (H0 ++ [b64 a]) T a l q d).H.take (PSt H0 T a l p d).H.length = (PSt H0 T a l q d).H := by
    rw [PSt_Hlen, ← PSt_app ha]
    simp [PSt]
  have := fin_drop (S := PSt H0 T a l p d) (S' := PSt (H0 ++ [b64 a]) T a l q d) (v := v) hv (by simp [PSt]) (by simp [PSt]) (by
    rw [ht, PSt_Hlen]
    exact lowB_set (box_low _ _ l q d) hw) (by rw [PSt_Hlen]; show ((v.strip T.length).low H0.length T.length) = true; rw [hst]; exact hvl)
  rw [this, ht]
  show some (v.strip T.length, _) = _
  rw [hst]
  rfl
mutual
theorem low_mono {h0 t0 : Nat} : ∀ {v : AV}, v.low h0 t0 = true → v.low (h0 + 1) t0 = true
  | .ptr id _, h => by simp [AV.low] at h ⊢; omega
  | .slice es (.own t _), h => by
    simp only [AV.low, Bool.and_eq_true] at h ⊢
    exact ⟨h.1, lowL_mono h.2⟩
  | .slice es .non, h => by simp only [AV.low] at h ⊢; exact lowL_mono h
  | .slice es .clip, h => by simp only [AV.low] at h ⊢; exact lowL_mono h
  | .agg cs, h => by simp only [AV.low] at h ⊢; exact lowL_mono h
  | .tup cs, h => by simp only [AV.low] at h ⊢; exact lowL_mono h
  | .ref cs, h => by simp only [AV.low] at h ⊢; exact lowL_mono h
  | .fn _ a b, h => by
    simp only [AV.low, Bool.and_eq_true] at h ⊢
    exact ⟨lowL_mono h.1, lowL_mono h.2⟩
  | .iface _ v, h => by simp only [AV.low] at h ⊢; exact low_mono h
  | .junk, _ => rfl | .undef, _ => rfl | .bool _, _ => rfl | .int _ _, _ => rfl | .str _, _ => rfl | .nilp, _ => rfl | .loc .., _ => rfl | .nilif, _ => rfl
theorem lowL_mono {h0 t0 : Nat} : ∀ {l : List AV}, AV.lowL h0 t0 l = true → AV.lowL (h0 + 1) t0 l = true
  | [], _ => rfl
  | v :: l, h => by
    simp only [AV.lowL, Bool.and_eq_true] at h ⊢
    exact ⟨low_mono h.1, lowL_mono h.2⟩
end
theorem lowB_mono {h0 t0 : Nat} : ∀ {H : List HBox}, lowB h0 t0 H = true → lowB (h0 + 1) t0 H = true
  | [], _ => rfl
  | b :: H, h => by
    simp only [lowB, Bool.and_eq_true] at h ⊢
    exact ⟨lowL_mono h.1, lowB_mono h.2⟩
theorem wf_app {H0 : List HBox} {T : List Nat} {a : Nat} (ha : a < H0.length) (hw : lowB H0.length T.length H0 = true) : lowB (H0 ++ [b64 a]).length T.length (H0 ++ [b64 a]) = true := by
  rw [lowB_append]
  simp only [List.length_append, List.length_singleton, Bool.and_eq_true]
  refine ⟨lowB_mono hw, ?_⟩
  simp [lowB, b64, AV.lowL, AV.low]
  omega

theorem ev71 (n : Nat) {H0 : List HBox} {a : Nat} (ha : a < H0.length) (T : List Nat) (l : List Tk) (p d : Nat) (hd : d ≤ 100) (pv : Option AV) :
    evd Tryz.prog E (n + 1) 130 [.ptr H0.length 0] (PSt (H0 ++ [b64 a]) T a l p (d + 1)) pv = some (false, PSt (H0 ++ [b64 a]) T a l p d) := by
  have ha1 : a < (H0 ++ [b64 a]).length := by simp; omega
  have hg := PSt_get ha1 T l p (d + 1)
  have ho := PSt_own ha T l p (d + 1)
  have hset := PSt_set (H0 := H0 ++ [b64 a]) (a := a) T l p (d + 1) p d
  have hf := PSt_fin (H0 := H0 ++ [b64 a]) (a := a) T l p (d + 1) p d (v := .tup []) rfl rfl rfl
  have hw : IntKind.i64.wrap (((d + 1 : Nat) : Int) - 1) = (d : Int) := by rw [wrap64 _ (by omega)]; omega
  rw [evd_enter (show E.ok 130 = true from rfl), evDefer, Tryz.func130]
  have hcr : cutR (bodyOf Tryz.f130) = none := rfl
  have hb : Tryz.f130.body = some (bodyOf Tryz.f130) := rfl
  simp only [hb]
  rw [if_pos ⟨Nat.le_of_ble_eq_true rfl, by decide +kernel⟩, hcr]
  generalize PSt (H0 ++ [b64 a]) T a l p d = L2 at *
  generalize PSt (H0 ++ [b64 a]) T a l p (d + 1) = L1 at *
  generalize tkL l = es at *
  generalize d + 1 = D1 at *
  simp (disch := first | (simp only [List.length_append, List.length_cons, List.length_nil]; omega) | (simp; done) | assumption) [AV.cells?, AV.isCell, AV.sealed, AV.sealedL, bodyOf, Tryz.f130, E_esc, hg, ho, hset, hw, hf, endD, tq66_0, tq66_1, tq66_2, tk66, k3, c3, a3, i3, tk64, tc64, ta64, ti64]

section
variable {H0 : List HBox} {a : Nat} (ha : a < H0.length) (T : List Nat) (l : List Tk) (hl : l.length ≤ 2000000)
include ha hl
/-- what the body behind the defer gives -/
def BQ (H1 : List HBox) (T : List Nat) (a : Nat) (l : List Tk) (d n : Nat) (R : PR X) (r : Out × FS) : Prop :=
  (r.1 = .ret ∧ ∃ e q, r.2.t 2 = .loc n 2 2 0 ∧ r.2.b 2 = (2, X.cells e) ∧ r.2.S = PSt H1 T a l q d ∧ R = .ok (e, q)) ∨
  (∃ c q, r.1 = .pan (stopV (hereT l) c q) ∧ r.2.S = PSt H1 T a l q d ∧ R = .error (c, q))
set_option maxHeartbeats 8000000 in
theorem one_body (n d F k : Nat) (one any : Nat → PR X) (h72 : Sub (H0 ++ [b64 a]) T a l (d + 1) (n + 4) 131 (signedP (hereT l) F one any)) (h73 : Sub (H0 ++ [b64 a]) T a l (d + 1) (n + 4) 132 (namedP (hereT l) one any)) (p : Nat)
    (t : Nat → AV) (b : Nat → Nat × List AV) (c : Nat) (h1 : t 1 = .ptr H0.length 0) (h2 : t 2 = .loc (n + 4) 2 2 0) (hb2 : b 2 = (2, z6)) :
    ∃ r, evCode ⟨Tryz.prog, E.esc 128, n + 4⟩ (ev Tryz.prog E (n + 4)) (E.ps 128) (n + 4) B69 ⟨t, b, c, PSt (H0 ++ [b64 a]) T a l p (d + 1)⟩ = some r ∧
      BQ (H0 ++ [b64 a]) T a l (d + 1) (n + 4) (if (hereT l p).k = 2 then .ok (leafX 1 [] (hereT l p).n 0, p + 1)
    else if (hereT l p).k = 3 then .ok (leafX 3 (hereT l p).s 0 0, p + 1)
    else if (hereT l p).k = 4 then signedP (hereT l) F one any p
    else if (hereT l p).k = 1 then namedP (hereT l) one any p
    else .error (16, p)) r := by
  have ha1 : a < (H0 ++ [b64 a]).length := by simp; omega
  have hh := ev_hereP ha1 T l hl (n + 3) p (d + 1)
  have hg := PSt_get ha1 T l p (d + 1)
  have ho := fun q => PSt_own ha T l q (d + 1)
  have ho1 := ho p
  have ho2 := ho (p + 1)
  have hset := PSt_set (H0 := H0 ++ [b64 a]) (a := a) T l p (d + 1) (p + 1) (d + 1)
  have hw : (hereT l p).k ≠ 5 → IntKind.i64.wrap ((p : Int) + 1) = ((p + 1 : Nat) : Int) := fun h => by have := here_lt h; rw [wrap64 _ (by omega)]; omega
  have h72p := h72 p
  have h73p := h73 p
  have hfl := ev_fail ha1 T l hl (n + 2) p (d + 1) 16
  have hS2 : PSt (H0 ++ [b64 a]) T a l (p + 1) (d + 1) = PSt (H0 ++ [b64 a]) T a l (p + 1) (d + 1) := rfl
  clear ho
  generalize hereT l p = w at *
  obtain ⟨k, ts, tn, tp⟩ := w
  simp only [Tk.emb, Tk.cells] at hh hw ⊢
  by_cases k2 : k = 2
  · subst k2
    have hw := hw (by decide)
    rw [if_pos rfl]
    have hb : evBuild Tryz.prog 25 [(0, .int .i64 1), (2, .int .i64 tn)] = some (leafX 1 [] tn 0).emb := bX2 1 tn
    have hcz := xcells (leafX 1 [] tn 0)
    have hlz := xlen (leafX 1 [] tn 0)
    generalize hL2 : PSt (H0 ++ [b64 a]) T a l (p + 1) (d + 1) = L2 at *
    generalize PSt (H0 ++ [b64 a]) T a l p (d + 1) = L1 at *
    generalize hzc : (leafX 1 [] tn 0).cells = zc at *
    generalize (leafX 1 [] tn 0).emb = ze at *
    generalize hP1 : p + 1 = P1 at *
    generalize hD1 : d + 1 = D1 at *
    generalize tkL l = es at *
    refine ⟨_, by
      simp (disch := first | (simp only [List.length_append, List.length_cons, List.length_nil]; omega) | (simp; done) | assumption) [AV.cells?, AV.isCell, -AV.cells?, cq_int, cq_str, cq_slice, cq_bool, cq_ptr, -evBuild, -evBuildSlice, AV.sealed, AV.sealedL, r069, rc69, r369, B69, cutC, bodyOf, Tryz.f128, esc69, h1, h2, hb2, hh, ho1, hg, hset, hw, hb, hcz, hlz, z6_len, z24, c24, a24, k24, i24, tq46_0, tq46_1, tq46_2, tc46, ta46, tk46, ti46, tz46, fq0, fq3, fq4, fq5, c3, a3, k3, i3, c2, a2, k2, i2, c22, a22, k22, i22, bq3, bq2, tq66_0, tq66_1, tq66_2, tk66, k9, a9, c9, bq9, tk64, tc64, ta64, ti64]
      rfl, .inl ⟨rfl, leafX 1 [] tn 0, P1, by simp [upd, putA, h2], by simp [upd, hzc, hb2, z6, hlz], hL2.symm, rfl⟩⟩
  · rw [if_neg k2]
    by_cases k3' : k = 3
    · subst k3'
      have hw := hw (by decide)
      rw [if_pos rfl]
      have hb : evBuild Tryz.prog 25 [(0, .int .i64 3), (1, .str ts)] = some (leafX 3 ts 0 0).emb := bX1 3 ts
      have hcz := xcells (leafX 3 ts 0 0)
      have hlz := xlen (leafX 3 ts 0 0)
      generalize hL2 : PSt (H0 ++ [b64 a]) T a l (p + 1) (d + 1) = L2 at *
      generalize PSt (H0 ++ [b64 a]) T a l p (d + 1) = L1 at *
      generalize hzc : (leafX 3 ts 0 0).cells = zc at *
      generalize (leafX 3 ts 0 0).emb = ze at *
      generalize hP1 : p + 1 = P1 at *
      generalize hD1 : d + 1 = D1 at *
      generalize tkL l = es at *
      refine ⟨_, by
        simp (disch := first | (simp only [List.length_append, List.length_cons, List.length_nil]; omega) | (simp; done) | assumption) [AV.cells?, AV.isCell, -AV.cells?, cq_int, cq_str, cq_slice, cq_bool, cq_ptr, -evBuild, -evBuildSlice, AV.sealed, AV.sealedL, r069, rc69, r369, B69, cutC, bodyOf, Tryz.f128, esc69, h1, h2, hb2, hh, ho1, hg, hset, hw, hb, hcz, hlz, z6_len, z24, c24, a24, k24, i24, tq46_0, tq46_1, tq46_2, tc46, ta46, tk46, ti46, tz46, fq0, fq3, fq4, fq5, c3, a3, k3, i3, c2, a2, k2, i2, c22, a22, k22, i22, bq3, bq2, tq66_0, tq66_1, tq66_2, tk66, k9, a9, c9, bq9, tk64, tc64, ta64, ti64]
        rfl, .inl ⟨rfl, leafX 3 ts 0 0, P1, by simp [upd, putA, h2], by simp [upd, hzc, hb2, z6, hlz], hL2.symm, rfl⟩⟩
    · rw [if_neg k3']
      by_cases k4 : k = 4
      · subst k4
        rw [if_pos rfl]
        cases e1 : signedP (hereT l) F one any p with
        | error z =>
          obtain ⟨c', q⟩ := z
          rw [e1, ansX_err] at h72p
          generalize hL2 : PSt (H0 ++ [b64 a]) T a l q (d + 1) = L2 at *
          generalize PSt (H0 ++ [b64 a]) T a l p (d + 1) = L1 at *
          generalize hsv : stopV (hereT l) c' q = sv at *
          refine ⟨_, by
            simp (disch := first | (simp only [List.length_append, List.length_cons, List.length_nil]; omega) | (simp; done) | assumption) [AV.cells?, AV.isCell, -AV.cells?, cq_int, cq_str, cq_slice, cq_bool, cq_ptr, -evBuild, -evBuildSlice, AV.sealed, AV.sealedL, r069, rc69, r369, B69, cutC, bodyOf, Tryz.f128, esc69, h1, h2, hb2, hh, ho1, h72p, h73p, z24, c24, a24, k24, i24, tq46_0, tq46_1, tq46_2, tc46, ta46, tk46, ti46, tz46, fq0, fq3, fq4, fq5, c3, a3, k3, i3, c2, a2, k2, i2, c22, a22, k22, i22, bq3, bq2, tq66_0, tq66_1, tq66_2, tk66, k9, a9, c9, bq9, tk64, tc64, ta64, ti64]
            rfl, .inr ⟨c', q, by rw [hsv], hL2.symm, rfl⟩⟩
        | ok z =>
          obtain ⟨x, q⟩ := z
          rw [e1, ansX_ok] at h72p
          have hcz := xcells x
          have hlz := xlen x
          generalize hL2 : PSt (H0 ++ [b64 a]) T a l q (d + 1) = L2 at *
          generalize PSt (H0 ++ [b64 a]) T a l p (d + 1) = L1 at *
          generalize hzc : x.cells = zc at *
          generalize x.emb = ze at *
          refine ⟨_, by
            simp (disch := first | (simp only [List.length_append, List.length_cons, List.length_nil]; omega) | (simp; done) | assumption) [AV.cells?, AV.isCell, -AV.cells?, cq_int, cq_str, cq_slice, cq_bool, cq_ptr, -evBuild, -evBuildSlice, AV.sealed, AV.sealedL, r069, rc69, r369, B69, cutC, bodyOf, Tryz.f128, esc69, h1, h2, hb2, hh, ho1, h72p, h73p, hcz, hlz, z6_len, z24, c24, a24, k24, i24, tq46_0, tq46_1, tq46_2, tc46, ta46, tk46, ti46, tz46, fq0, fq3, fq4, fq5, c3, a3, k3, i3, c2, a2, k2, i2, c22, a22, k22, i22, bq3, bq2, tq66_0, tq66_1, tq66_2, tk66, k9, a9, c9, bq9, tk64, tc64, ta64, ti64]
            rfl, .inl ⟨rfl, x, q, by simp [upd, putA, h2], by simp [upd, hzc, hb2, z6, hlz], hL2.symm, rfl⟩⟩
      · rw [if_neg k4]
        by_cases k1 : k = 1
        · subst k1
          rw [if_pos rfl]
          cases e1 : namedP (hereT l) one any p with
          | error z =>
            obtain ⟨c', q⟩ := z
            rw [e1, ansX_err] at h73p
            generalize hL2 : PSt (H0 ++ [b64 a]) T a l q (d + 1) = L2 at *
            generalize PSt (H0 ++ [b64 a]) T a l p (d + 1) = L1 at *
            generalize hsv : stopV (hereT l) c' q = sv at *
            refine ⟨_, by
              simp (disch := first | (simp only [List.length_append, List.length_cons, List.length_nil]; omega) | (simp; done) | assumption) [AV.cells?, AV.isCell, -AV.cells?, cq_int, cq_str, cq_slice, cq_bool, cq_ptr, -evBuild, -evBuildSlice, AV.sealed, AV.sealedL, r069, rc69, r369, B69, cutC, bodyOf, Tryz.f128, esc69, h1, h2, hb2, hh, ho1, h72p, h73p, z24, c24, a24, k24, i24, tq46_0, tq46_1, tq46_2, tc46, ta46, tk46, ti46, tz46, fq0, fq3, fq4, fq5, c3, a3, k3, i3, c2, a2, k2, i2, c22, a22, k22, i22, bq3, bq2, tq66_0, tq66_1, tq66_2, tk66, k9, a9, c9, bq9, tk64, tc64, ta64, ti64]
              rfl, .inr ⟨c', q, by rw [hsv], hL2.symm, rfl⟩⟩
          | ok z =>
            obtain ⟨x, q⟩ := z
            rw [e1, ansX_ok] at h73p
            have hcz := xcells x
            have hlz := xlen x
            generalize hL2 : PSt (H0 ++ [b64 a]) T a l q (d + 1) = L2 at *
            generalize PSt (H0 ++ [b64 a]) T a l p (d + 1) = L1 at *
            generalize hzc : x.cells = zc at *
            generalize x.emb = ze at *
            refine ⟨_, by
              simp (disch := first | (simp only [List.length_append, List.length_cons, List.length_nil]; omega) | (simp; done) | assumption) [AV.cells?, AV.isCell, -AV.cells?, cq_int, cq_str, cq_slice, cq_bool, cq_ptr, -evBuild, -evBuildSlice, AV.sealed, AV.sealedL, r069, rc69, r369, B69, cutC, bodyOf, Tryz.f128, esc69, h1, h2, hb2, hh, ho1, h72p, h73p, hcz, hlz, z6_len, z24, c24, a24, k24, i24, tq46_0, tq46_1, tq46_2, tc46, ta46, tk46, ti46, tz46, fq0, fq3, fq4, fq5, c3, a3, k3, i3, c2, a2, k2, i2, c22, a22, k22, i22, bq3, bq2, tq66_0, tq66_1, tq66_2, tk66, k9, a9, c9, bq9, tk64, tc64, ta64, ti64]
              rfl, .inl ⟨rfl, x, q, by simp [upd, putA, h2], by simp [upd, hzc, hb2, z6, hlz], hL2.symm, rfl⟩⟩
        · rw [if_neg k1]
          generalize hL1 : PSt (H0 ++ [b64 a]) T a l p (d + 1) = L1 at *
          generalize hsv : stopV (hereT l) 16 p = sv at *
          refine ⟨_, by
            simp (disch := first | (simp only [List.length_append, List.length_cons, List.length_nil]; omega) | (simp; done) | assumption) [AV.cells?, AV.isCell, -AV.cells?, cq_int, cq_str, cq_slice, cq_bool, cq_ptr, -evBuild, -evBuildSlice, AV.sealed, AV.sealedL, r069, rc69, r369, B69, cutC, bodyOf, Tryz.f128, esc69, h1, h2, hb2, hh, ho1, k2, k3', k4, k1, hfl, z24, c24, a24, k24, i24, tq46_0, tq46_1, tq46_2, tc46, ta46, tk46, ti46, tz46, fq0, fq3, fq4, fq5, c3, a3, k3, i3, c2, a2, k2, i2, c22, a22, k22, i22, bq3, bq2, tq66_0, tq66_1, tq66_2, tk66, k9, a9, c9, bq9, tk64, tc64, ta64, ti64]
            rfl, .inr ⟨16, p, by rw [hsv], hL1.symm, rfl⟩⟩

set_option maxHeartbeats 8000000 in
theorem ev69 (n d F k : Nat) (hdk : d + k + 1 = 32) (hw : lowB H0.length T.length H0 = true) (one any : Nat → PR X) (h72 : Sub (H0 ++ [b64 a]) T a l (d + 1) (n + 4) 131 (signedP (hereT l) F one any)) (h73 : Sub (H0 ++ [b64 a]) T a l (d + 1) (n + 4) 132 (namedP (hereT l) one any)) :
    Sub H0 T a l d (n + 5) 128 (fun p => if (hereT l p).k = 2 then .ok (leafX 1 [] (hereT l p).n 0, p + 1)
    else if (hereT l p).k = 3 then .ok (leafX 3 (hereT l p).s 0 0, p + 1)
    else if (hereT l p).k = 4 then signedP (hereT l) F one any p
    else if (hereT l p).k = 1 then namedP (hereT l) one any p
    else .error (16, p)) := by
  intro p
  have ha1 : a < (H0 ++ [b64 a]).length := by simp; omega
  rw [show n + 5 = (n + 4) + 1 from rfl, ev_enterD (n := n + 4) (show E.ok 128 = true from rfl) (show E.dfr 128 = true from rfl) Tryz.func128 (fn := Tryz.f128) (c := bodyOf Tryz.f128) rfl cut69 (Nat.le_of_ble_eq_true rfl) (by decide +kernel)]
  have happ := PSt_app ha T l p d
  have hlen := PSt_Hlen H0 T a l p d
  have hg := PSt_get ha1 T l p d
  have ho := PSt_own ha T l p d
  have hset := PSt_set (H0 := H0 ++ [b64 a]) (a := a) T l p d p (d + 1)
  have hd1 : IntKind.i64.wrap ((d : Int) + 1) = ((d + 1 : Nat) : Int) := by rw [wrap64 _ (by omega)]; omega
  have hlt : ¬ (32 : Int) ≤ (d : Int) := by omega
  obtain ⟨fs1, e1, q1, q2, q3, q4⟩ : ∃ fs1, evCode ⟨Tryz.prog, E.esc 128, n + 4⟩ (ev Tryz.prog E (n + 4)) (E.ps 128) (n + 4) (.seq r069 (.seq rc69 (.seq r369 .skip))) ⟨argsA [.ptr a 0], fun _ => (0, []), 0, PSt H0 T a l p d⟩ = some (.norm, fs1) ∧ fs1.t 1 = .ptr H0.length 0 ∧ fs1.t 2 = .loc (n + 4) 2 2 0 ∧ fs1.b 2 = (2, z6) ∧ fs1.S = PSt (H0 ++ [b64 a]) T a l p (d + 1) := by
    simp only [b64] at happ hset hg ho ⊢
    generalize hL3 : PSt (H0 ++ [⟨61, [.ptr a 0]⟩]) T a l p (d + 1) = L3 at *
    generalize PSt (H0 ++ [⟨61, [.ptr a 0]⟩]) T a l p d = L2 at *
    generalize PSt H0 T a l p d = L1 at *
    generalize d + 1 = D1 at *
    generalize tkL l = es at *
    refine ⟨_, by
      simp (disch := first | (simp only [List.length_append, List.length_cons, List.length_nil]; omega) | (simp; done) | assumption) [AV.cells?, AV.isCell, -AV.cells?, cq_int, cq_str, cq_slice, cq_bool, cq_ptr, -evBuild, -evBuildSlice, AV.sealed, AV.sealedL, r069, rc69, r369, B69, cutC, bodyOf, Tryz.f128, esc69, happ, hlen, hg, ho, hset, hd1, hlt, z24', z24, c24, a24, k24, i24, tq46_0, tq46_1, tq46_2, tc46, ta46, tk46, ti46, tz46, fq0, fq3, fq4, fq5, c3, a3, k3, i3, c2, a2, k2, i2, c22, a22, k22, i22, bq3, bq2, tq66_0, tq66_1, tq66_2, tk66, k9, a9, c9, bq9, tk64, tc64, ta64, ti64]
      rfl, by simp [upd, putA], by simp [upd, putA], by simp [upd, z6], rfl⟩
  rw [e1]
  clear e1 happ hlen hg ho hset
  obtain ⟨t, b, c, S⟩ := fs1
  simp only at q1 q2 q3 q4
  subst q4
  obtain ⟨⟨o, fs2⟩, r1, r2⟩ := one_body ha T l hl n d F k one any h72 h73 p (upd 18 (.fn 130 [] [.ptr H0.length 0]) t) b (c + 2) (by simp [upd, q1]) (by simp [upd, q2]) q3
  have hsq : seqA ⟨Tryz.prog, E.esc 128, n + 4⟩ (ev Tryz.prog E (n + 4)) O69 (List.range (O69.size - 1)) ⟨t, b, c, PSt (H0 ++ [b64 a]) T a l p (d + 1)⟩ = some (.ok ⟨upd 18 (.fn 130 [] [.ptr H0.length 0]) t, b, c, PSt (H0 ++ [b64 a]) T a l p (d + 1)⟩ .non) := by
    have hr : List.range (O69.size - 1) = [0] := rfl
    have ho0 : ∃ o, O69[0]? = some o ∧ o.guard = none ∧ o.dst = some 18 ∧ o.op = .makeFunc (.func 130) #[] #[.tmp 1] := ⟨_, rfl, rfl, rfl, rfl⟩
    obtain ⟨o, o1, o2, o3, o4⟩ := ho0
    rw [hr]
    simp only [seqA, o1, stepA, o2, wantedA, evOp, o4, o3, putA, rhoL, rho, q1, List.map_nil, List.map_cons]
  have hsz : O69.size = 2 := rfl
  simp only [hsq]
  simp only [rho, upd, if_true, hsz]
  rw [r1]
  obtain ⟨t2, b2, c2, S2⟩ := fs2
  rcases r2 with ⟨z1, e, q, z2, z3, z4, z5⟩ | ⟨c', q, z1, z2, z3⟩
  · simp only at z1 z2 z3 z4
    subst z1 z4
    rw [z5, ansX_ok]
    have hdf := ev71 (n + 3) ha T l q d (by omega) none
    have hf := fin_one ha T l p d q e.emb hw (sealed_emb e) (strip_emb _ e) (low_emb _ _ e)
    have hlz := xlen e
    have htz := xtake e
    have hez := xemb e
    simp only [fromD, List.nil_append, rhoL, List.map_nil, hdf]
    generalize PSt H0 T a l q d = L3 at *
    generalize PSt (H0 ++ [b64 a]) T a l q d = L2 at *
    generalize e.cells = ec at *
    generalize e.emb = ee at *
    have hrs : Tryz.f128.results.toList = [.cell 2 25] := rfl
    simp (disch := first | (simp only [List.length_append, List.length_cons, List.length_nil]; omega) | (simp; done) | assumption) [AV.cells?, AV.isCell, -AV.cells?, hrs, z2, z3, hlz, htz, hez, hf, c24, a24, k24]
  · simp only at z1 z2
    subst z1 z2
    rw [z3, ansX_err]
    have hdf := ev71 (n + 3) ha T l q d (by omega) (some (stopV (hereT l) c' q))
    have hf := fin_one ha T l p d q (stopV (hereT l) c' q) hw rfl rfl rfl
    simp only [fromD, List.nil_append, rhoL, List.map_nil, hdf, finPan, hf]
theorem ev69z (n d : Nat) (hd : d = 32) (hw : lowB H0.length T.length H0 = true) (p : Nat) : ev Tryz.prog E (n + 5) 128 [.ptr a 0] (PSt H0 T a l p d) = ansX H0 T a l d (.error (32, p)) := by
  have ha1 : a < (H0 ++ [b64 a]).length := by simp; omega
  rw [show n + 5 = (n + 4) + 1 from rfl, ev_enterD (n := n + 4) (show E.ok 128 = true from rfl) (show E.dfr 128 = true from rfl) Tryz.func128 (fn := Tryz.f128) (c := bodyOf Tryz.f128) rfl cut69 (Nat.le_of_ble_eq_true rfl) (by decide +kernel)]
  have happ := PSt_app ha T l p d
  have hlen := PSt_Hlen H0 T a l p d
  have hg := PSt_get ha1 T l p d
  have ho := PSt_own ha T l p d
  have hlt : (32 : Int) ≤ (d : Int) := by omega
  have hfl := ev_fail ha1 T l hl (n + 2) p d 32
  have hf := fin_one ha T l p d p (stopV (hereT l) 32 p) hw rfl rfl rfl
  rw [ansX_err]
  simp only [b64] at happ hg ho hfl hf ⊢
  generalize PSt (H0 ++ [⟨61, [.ptr a 0]⟩]) T a l p d = L2 at *
  generalize PSt H0 T a l p d = L1 at *
  generalize stopV (hereT l) 32 p = sv at *
  generalize tkL l = es at *
  simp (disch := first | (simp only [List.length_append, List.length_cons, List.length_nil]; omega) | (simp; done) | assumption) [AV.cells?, AV.isCell, -AV.cells?, cq_int, cq_str, cq_slice, cq_bool, cq_ptr, -evBuild, -evBuildSlice, AV.sealed, AV.sealedL, r069, rc69, r369, B69, cutC, bodyOf, Tryz.f128, esc69, happ, hlen, hg, ho, hlt, hfl, hf, finPan, z24', z24, c24, a24, k24, i24, tq46_0, tq46_1, tq46_2, tc46, ta46, tk46, ti46, tz46, fq0, fq3, fq4, fq5, c3, a3, k3, i3, c2, a2, k2, i2, c22, a22, k22, i22, bq3, bq2, tq66_0, tq66_1, tq66_2, tk66, k9, a9, c9, bq9, tk64, tc64, ta64, ti64]
end
end Go.Proofs.YtemggoaefohliaaGreatDoor.PS
/- The parser, whole: by how many levels there still are. Condition: the world outside is closed. -/
namespace Go.Proofs.YtemggoaefohliaaGreatDoor.PS
set_option linter.unusedVariables false
set_option linter.unusedSimpArgs false
open Go AE EX PT NF LX
set_option maxRecDepth 100000

/-- whatever depth of calls from b on -/
def From (H0 : List HBox) (T : List Nat) (a : Nat) (l : List Tk) (d b f : Nat) (sub : Nat → PR X) : Prop := ∀ m, b ≤ m → Sub H0 T a l d m f sub
section
variable {H0 : List HBox} {a : Nat} (ha : a < H0.length) (T : List Nat) (l : List Tk) (hl : l.length ≤ 2000000)
include ha hl
theorem from68 {d b F : Nat} {one : Nat → PR X} (hb : l.length + 4 ≤ b) (hF : l.length < F) (hm : Mono one) (h : From H0 T a l d b 128 one) : From H0 T a l d (b + 1) 123 (prodP (hereT l) F one) := by
  intro m hbm
  obtain ⟨n, rfl⟩ : ∃ n, m = n + 3 := ⟨m - 3, by omega⟩
  exact ev68 ha T l hl n d one (h _ (by omega)) hm F hF (by omega)
theorem from64 {d b F : Nat} {one : Nat → PR X} (hb : l.length + 4 ≤ b) (hF : l.length < F) (hm : Mono one) (h : From H0 T a l d b 128 one) : From H0 T a l d (b + 2) 111 (sumP (hereT l) F one) := by
  intro m hbm
  obtain ⟨n, rfl⟩ : ∃ n, m = n + 3 := ⟨m - 3, by omega⟩
  exact ev64 ha T l hl n d _ (from68 ha T l hl hb hF hm h _ (by omega)) (mono_any hm).1 F hF (by omega)
theorem from56 {d b F : Nat} {one : Nat → PR X} (hb : l.length + 4 ≤ b) (hF : l.length < F) (hm : Mono one) (h : From H0 T a l d b 128 one) : From H0 T a l d (b + 3) 84 (relP (hereT l) (sumP (hereT l) F one)) := by
  intro m hbm
  obtain ⟨n, rfl⟩ : ∃ n, m = n + 3 := ⟨m - 3, by omega⟩
  exact ev56 ha T l hl n d _ (from64 ha T l hl hb hF hm h _ (by omega))
theorem from43 {d b F : Nat} {one : Nat → PR X} (hb : l.length + 4 ≤ b) (hF : l.length < F) (hm : Mono one) (h : From H0 T a l d b 128 one) : From H0 T a l d (b + 4) 51 (allP (hereT l) F one) := by
  intro m hbm
  obtain ⟨n, rfl⟩ : ∃ n, m = n + 3 := ⟨m - 3, by omega⟩
  exact ev43 ha T l hl n d _ (from56 ha T l hl hb hF hm h _ (by omega)) (mono_rel (mono_any hm).2.1) F hF (by omega)
theorem from27 {d b F : Nat} {one : Nat → PR X} (hb : l.length + 4 ≤ b) (hF : l.length < F) (hm : Mono one) (h : From H0 T a l d b 128 one) : From H0 T a l d (b + 5) 27 (anyP (hereT l) F one) := by
  intro m hbm
  obtain ⟨n, rfl⟩ : ∃ n, m = n + 3 := ⟨m - 3, by omega⟩
  exact ev27 ha T l hl n d _ (from43 ha T l hl hb hF hm h _ (by omega)) (mono_any hm).2.2.1 F hF (by omega)
theorem from79 {d b F : Nat} {one : Nat → PR X} (hb : l.length + 4 ≤ b) (hF : l.length < F) (hm : Mono one) (h : From H0 T a l d b 128 one) : From H0 T a l d (b + 6) 138 (argP (hereT l) (anyP (hereT l) F one)) := by
  intro m hbm
  obtain ⟨n, rfl⟩ : ∃ n, m = n + 5 := ⟨m - 5, by omega⟩
  exact ev79 ha T l hl n d _ (from27 ha T l hl hb hF hm h _ (by omega))
theorem from80 {d b F : Nat} {one : Nat → PR X} (hb : l.length + 4 ≤ b) (hF : l.length < F) (hm : Mono one) (h : From H0 T a l d b 128 one) : From H0 T a l d (b + 7) 139 (timedP (hereT l) (anyP (hereT l) F one)) := by
  intro m hbm
  obtain ⟨n, rfl⟩ : ∃ n, m = n + 6 := ⟨m - 6, by omega⟩
  exact ev80 ha T l hl n d _ (from79 ha T l hl hb hF hm h _ (by omega)) (from27 ha T l hl hb hF hm h _ (by omega))
theorem from72 {d b F : Nat} {one : Nat → PR X} (hw : lowB H0.length T.length H0 = true) (hb : l.length + 4 ≤ b) (hF : l.length < F) (hm : Mono one) (h : From H0 T a l d b 128 one) : From H0 T a l d (b + 6) 131 (signedP (hereT l) F one (anyP (hereT l) F one)) := by
  intro m hbm
  obtain ⟨n, rfl⟩ : ∃ n, m = n + 7 := ⟨m - 7, by omega⟩
  exact ev72 ha T l hl n d F _ _ (h _ (by omega)) (from27 ha T l hl hb hF hm h _ (by omega)) (ev74 ha T l hl (n + 1) d hw F hF (by omega))
theorem from73 {d b F : Nat} {one : Nat → PR X} (hb : l.length + 4 ≤ b) (hF : l.length < F) (hm : Mono one) (h : From H0 T a l d b 128 one) : From H0 T a l d (b + 8) 132 (namedP (hereT l) one (anyP (hereT l) F one)) := by
  intro m hbm
  obtain ⟨n, rfl⟩ : ∃ n, m = n + 7 := ⟨m - 7, by omega⟩
  exact ev73 ha T l hl n d _ _ (h _ (by omega)) (from79 ha T l hl hb hF hm h _ (by omega)) (from80 ha T l hl hb hF hm h _ (by omega))
end
theorem one_all (T : List Nat) (l : List Tk) (hl : l.length ≤ 2000000) (F : Nat) (hF : l.length < F) : ∀ (k : Nat) (H0 : List HBox) (a d : Nat), a < H0.length → lowB H0.length T.length H0 = true → d + k = 32 →
    From H0 T a l d (l.length + 20 * k + 20) 128 (oneF (hereT l) F k)
  | 0, H0, a, d, ha, hw, hd => by
    intro m hm p
    obtain ⟨n, rfl⟩ : ∃ n, m = n + 5 := ⟨m - 5, by omega⟩
    rw [oneF]
    exact ev69z ha T l hl n d (by omega) hw p
  | k + 1, H0, a, d, ha, hw, hd => by
    have ha1 : a < (H0 ++ [b64 a]).length := by simp; omega
    have hw1 := wf_app ha hw
    have ih := one_all T l hl F hF k (H0 ++ [b64 a]) a (d + 1) ha1 hw1 (by omega)
    have hm1 := mono_one (h := hereT l) F k
    intro m hm
    obtain ⟨n, rfl⟩ : ∃ n, m = n + 5 := ⟨m - 5, by omega⟩
    have e : oneF (hereT l) F (k + 1) = (fun p => if (hereT l p).k = 2 then .ok (leafX 1 [] (hereT l p).n 0, p + 1)
    else if (hereT l p).k = 3 then .ok (leafX 3 (hereT l p).s 0 0, p + 1)
    else if (hereT l p).k = 4 then signedP (hereT l) F (oneF (hereT l) F k) (anyP (hereT l) F (oneF (hereT l) F k)) p
    else if (hereT l p).k = 1 then namedP (hereT l) (oneF (hereT l) F k) (anyP (hereT l) F (oneF (hereT l) F k)) p
    else .error (16, p)) := by funext p; rw [oneF]
    rw [e]
    exact ev69 ha T l hl n d F k (by omega) hw _ _ (from72 ha1 T l hl hw1 (by omega) hF hm1 ih _ (by omega)) (from73 ha1 T l hl (by omega) hF hm1 ih _ (by omega))
/-- from the first word on -/
def takeR (l : List Tk) : PR X := anyP (hereT l) (l.length + 1) (oneF (hereT l) (l.length + 1) 32) 0
theorem any_all (T : List Nat) (l : List Tk) (hl : l.length ≤ 2000000) (H0 : List HBox) (a : Nat) (ha : a < H0.length) (hw : lowB H0.length T.length H0 = true) (m : Nat) (hm : l.length + 700 ≤ m) :
    ev Tryz.prog E m 27 [.ptr a 0] (PSt H0 T a l 0 0) = ansX H0 T a l 0 (takeR l) :=
  from27 ha T l hl (by omega) (by omega) (mono_one _ 32) (one_all T l hl (l.length + 1) (by omega) 32 H0 a 0 ha hw rfl) m (by omega) 0
end Go.Proofs.YtemggoaefohliaaGreatDoor.PS
/- parse.Take, evaluated. Condition: the world outside is closed. -/
namespace Go.Proofs.YtemggoaefohliaaGreatDoor.PS
set_option linter.unusedVariables false
set_option linter.unusedSimpArgs false
open Go AE EX PT NF LX
set_option maxRecDepth 100000

theorem esc15 (d : Nat) : E.esc 10 d = (d == 2 || d == 3 || d == 4 || d == 8) := by simp [E]
noncomputable def r015 : Code := cutC (bodyOf Tryz.f10) [0]
noncomputable def r115 : Code := cutC (bodyOf Tryz.f10) [1, 0]
noncomputable def B15 : Code := cutC (bodyOf Tryz.f10) [1, 1, 1]
noncomputable def O15 : Array Oper := opsOf (cutC (bodyOf Tryz.f10) [1, 1, 0])
theorem cut15 : cutD (bodyOf Tryz.f10) = some (.seq r015 (.seq r115 .skip), O15, ⟨.value (.tmp 9), #[], #[]⟩, B15) := rfl
theorem zv68 : zvQ Tryz.prog 65 = some (.agg [.int .i64 0, .int .i64 0]) := by kernel_rfl
theorem tz27 : zeroQ Tryz.prog 27 = some [.nilif] := by kernel_rfl
noncomputable def y26 : Code := cutC (bodyOf Tryz.f26) [1]
noncomputable def O26 : Array Oper := opsOf (cutC (bodyOf Tryz.f26) [0])
theorem cut26 : cutR (bodyOf Tryz.f26) = some (0, O26, 6, y26) := rfl

/-- the boxes of Take: its results, and the parser -/
def TB (l : List Tk) (e : X) (n : Int) (er : AV) (q : Nat) : List HBox := [⟨25, e.cells⟩, ⟨3, [.int .i64 n]⟩, ⟨27, [er]⟩, box l q 0]
def TSt (S0 : St) (l : List Tk) (e : X) (n : Int) (er : AV) (q : Nat) (more : List HBox) : St := ⟨S0.H ++ (TB l e n er q ++ more), S0.T⟩
def zX : X := leafX 0 [] 0 0
theorem zX_cells : zX.cells = z6 := rfl

theorem TSt_eq (S0 : St) (l : List Tk) (q : Nat) : PSt (S0.H ++ TB l zX 0 .nilif 0) S0.T (S0.H.length + 3) l q 0 = TSt S0 l zX 0 .nilif q [] := by
  simp [PSt, TSt, TB, List.set_append_right]
theorem TSt_get0 (S0 : St) (l : List Tk) (e : X) (n : Int) (er : AV) (q : Nat) (more : List HBox) : (TSt S0 l e n er q more).H[S0.H.length]? = some ⟨25, e.cells⟩ := by simp [TSt, TB]
theorem TSt_get1 (S0 : St) (l : List Tk) (e : X) (n : Int) (er : AV) (q : Nat) (more : List HBox) : (TSt S0 l e n er q more).H[S0.H.length + 1]? = some ⟨3, [.int .i64 n]⟩ := by simp [TSt, TB]
theorem TSt_get2 (S0 : St) (l : List Tk) (e : X) (n : Int) (er : AV) (q : Nat) (more : List HBox) : (TSt S0 l e n er q more).H[S0.H.length + 2]? = some ⟨27, [er]⟩ := by simp [TSt, TB]
theorem TSt_get3 (S0 : St) (l : List Tk) (e : X) (n : Int) (er : AV) (q : Nat) (more : List HBox) : (TSt S0 l e n er q more).H[S0.H.length + 3]? = some ⟨63, [.slice (tkL l) .non, .int .i64 q, .int .i64 0]⟩ := by simp [TSt, TB, box]
theorem TSt_set0 (S0 : St) (l : List Tk) (e e' : X) (n : Int) (er : AV) (q : Nat) (more : List HBox) : (⟨(TSt S0 l e n er q more).H.set S0.H.length ⟨25, e'.cells⟩, (TSt S0 l e n er q more).T⟩ : St) = TSt S0 l e' n er q more := by simp [TSt, TB]
theorem TSt_set1 (S0 : St) (l : List Tk) (e : X) (n n' : Int) (er : AV) (q : Nat) (more : List HBox) : (⟨(TSt S0 l e n er q more).H.set (S0.H.length + 1) ⟨3, [.int .i64 n']⟩, (TSt S0 l e n er q more).T⟩ : St) = TSt S0 l e n' er q more := by simp [TSt, TB]
theorem TSt_set2 (S0 : St) (l : List Tk) (e : X) (n : Int) (er er' : AV) (q : Nat) (more : List HBox) : (⟨(TSt S0 l e n er q more).H.set (S0.H.length + 2) ⟨27, [er']⟩, (TSt S0 l e n er q more).T⟩ : St) = TSt S0 l e n er' q more := by simp [TSt, TB]
theorem wf4 {S0 : St} (hw : lowB S0.H.length S0.T.length S0.H = true) (l : List Tk) : lowB (S0.H ++ TB l zX 0 .nilif 0).length S0.T.length (S0.H ++ TB l zX 0 .nilif 0) = true := by
  rw [lowB_append]
  simp only [List.length_append, Bool.and_eq_true]
  refine ⟨lowB_mono (lowB_mono (lowB_mono (lowB_mono hw))), ?_⟩
  have := box_low (S0.H.length + (TB l zX 0 .nilif 0).length) S0.T.length l 0 0
  simp [TB, lowB, AV.lowL, AV.low, zX, leafX, X.cells, embL, tokOf] at this ⊢
  exact this

set_option maxHeartbeats 4000000 in
/-- no panic: nothing -/
theorem ev26n (n : Nat) (S0 : St) (l : List Tk) (e : X) (k : Int) (er : AV) (q : Nat) :
    evd Tryz.prog E (n + 2) 26 [.ptr S0.H.length 0, .ptr (S0.H.length + 1) 0, .ptr (S0.H.length + 2) 0] (TSt S0 l e k er q []) none = some (false, TSt S0 l e k er q []) := by
  rw [evd_enter (show E.ok 26 = true from rfl), evDefer, Tryz.func26]
  have hb : Tryz.f26.body = some (bodyOf Tryz.f26) := rfl
  simp only [hb]
  rw [if_pos ⟨Nat.le_of_ble_eq_true rfl, by decide +kernel⟩, cut26]
  have hr : List.range' 1 (O26.size - 1) = [1, 2, 3, 4, 5, 6, 7] := rfl
  have hf : finish (TSt S0 l e k er q []) (.tup []) (TSt S0 l e k er q []) = some (.tup [], TSt S0 l e k er q []) := finish_same rfl rfl rfl rfl rfl
  simp only [hr]
  generalize TSt S0 l e k er q [] = L1 at *
  simp (disch := first | (simp only [List.length_append, List.length_cons, List.length_nil]; omega) | (simp; done) | assumption) [AV.cells?, AV.isCell, seqA, O26, opsOf, y26, pvOf, cutC, bodyOf, Tryz.f26, E_esc, evAssert, tn68, tz68, tc68, ta68, tk68, ti68, zv68, endD, hf]

set_option maxHeartbeats 8000000 in
/-- a panic of fail: the fault, new -/
theorem ev26p (n : Nat) (S0 : St) (l : List Tk) (q : Nat) (c pl : Int) :
    evd Tryz.prog E (n + 2) 26 [.ptr S0.H.length 0, .ptr (S0.H.length + 1) 0, .ptr (S0.H.length + 2) 0] (TSt S0 l zX 0 .nilif q []) (some (.iface 65 (.agg [.int .i64 c, .int .i64 pl]))) =
      some (true, TSt S0 l zX 0 (.iface 78 (.ptr (S0.H.length + 4) 0)) q [⟨81, [.int .i64 c, .int .i64 pl, .nilif]⟩]) := by
  rw [evd_enter (show E.ok 26 = true from rfl), evDefer, Tryz.func26]
  have hb : Tryz.f26.body = some (bodyOf Tryz.f26) := rfl
  simp only [hb]
  rw [if_pos ⟨Nat.le_of_ble_eq_true rfl, by decide +kernel⟩, cut26]
  have hr : List.range' 1 (O26.size - 1) = [1, 2, 3, 4, 5, 6, 7] := rfl
  have hlen : (TSt S0 l zX 0 .nilif q []).H.length = S0.H.length + 4 := by simp [TSt, TB]
  have hN : ev Tryz.prog E (n + 1) 22 [.int .i64 c, .int .i64 pl] (TSt S0 l zX 0 .nilif q []) = some (.ret (.iface 78 (.ptr (S0.H.length + 4) 0)), TSt S0 l zX 0 .nilif q [⟨81, [.int .i64 c, .int .i64 pl, .nilif]⟩]) := by
    rw [ev_New, hlen]
    simp [TSt, TB]
  have hg0 := TSt_get0 S0 l zX 0 .nilif q [⟨81, [.int .i64 c, .int .i64 pl, .nilif]⟩]
  have hg1 := TSt_get1 S0 l zX 0 .nilif q [⟨81, [.int .i64 c, .int .i64 pl, .nilif]⟩]
  have hg2 := TSt_get2 S0 l zX 0 .nilif q [⟨81, [.int .i64 c, .int .i64 pl, .nilif]⟩]
  have hs0 := TSt_set0 S0 l zX zX 0 .nilif q [⟨81, [.int .i64 c, .int .i64 pl, .nilif]⟩]
  have hs1 := TSt_set1 S0 l zX 0 0 .nilif q [⟨81, [.int .i64 c, .int .i64 pl, .nilif]⟩]
  have hs2 := TSt_set2 S0 l zX 0 .nilif (.iface 78 (.ptr (S0.H.length + 4) 0)) q [⟨81, [.int .i64 c, .int .i64 pl, .nilif]⟩]
  have hf : finish (TSt S0 l zX 0 .nilif q []) (.tup []) (TSt S0 l zX 0 (.iface 78 (.ptr (S0.H.length + 4) 0)) q [⟨81, [.int .i64 c, .int .i64 pl, .nilif]⟩]) = some (.tup [], TSt S0 l zX 0 (.iface 78 (.ptr (S0.H.length + 4) 0)) q [⟨81, [.int .i64 c, .int .i64 pl, .nilif]⟩]) := by
    have e1 : (TSt S0 l zX 0 (.iface 78 (.ptr (S0.H.length + 4) 0)) q [⟨81, [.int .i64 c, .int .i64 pl, .nilif]⟩]).H.take (S0.H.length + 4) = (TSt S0 l zX 0 (.iface 78 (.ptr (S0.H.length + 4) 0)) q []).H := by
      have e2 : ∀ more, (TSt S0 l zX 0 (.iface 78 (.ptr (S0.H.length + 4) 0)) q more).H = (S0.H ++ TB l zX 0 (.iface 78 (.ptr (S0.H.length + 4) 0)) q) ++ more := fun more => by simp [TSt]
      rw [e2, e2, List.append_nil]
      exact List.take_left' (by simp [TB])
    unfold finish
    rw [hlen, e1, if_pos (show (AV.tup []).sealed = true from rfl), if_neg, if_neg, if_neg]
    · simp only [Bool.and_eq_true, not_and, Bool.not_eq_true]
      rintro ⟨_, h1⟩
      simp [TSt, TB, lowB_append, lowB, AV.lowL, AV.low] at h1
    · simp only [Bool.and_eq_true, not_and, Bool.not_eq_true]
      rintro ⟨⟨_, _⟩, h1⟩
      simp [TSt, TB, lowB_append, lowB, AV.lowL, AV.low] at h1
    · simp only [Bool.and_eq_true, not_and, Bool.not_eq_true]
      rintro ⟨h1, _⟩
      have := boxEqL_spec _ _ h1
      simp [TSt, TB] at this
  have hbz := bXz
  have hcz := xcells zX
  have hlz := xlen zX
  have hsz := sealed_emb zX
  have hszc : AV.sealedL zX.cells = true := rfl
  have hdz : List.drop 6 zX.cells = [] := rfl
  have e0 : leafX 0 [] 0 0 = zX := rfl
  rw [e0] at hbz
  simp only [hr]
  generalize TSt S0 l zX 0 (.iface 78 (.ptr (S0.H.length + 4) 0)) q [⟨81, [.int .i64 c, .int .i64 pl, .nilif]⟩] = L3 at *
  generalize TSt S0 l zX 0 .nilif q [⟨81, [.int .i64 c, .int .i64 pl, .nilif]⟩] = L2 at *
  generalize TSt S0 l zX 0 .nilif q [] = L1 at *
  generalize zX.cells = zc at *
  generalize zX.emb = ze at *
  simp (disch := first | (simp only [List.length_append, List.length_cons, List.length_nil]; omega) | (simp; done) | assumption) [AV.cells?, AV.isCell, -AV.cells?, cq_int, cq_iface, cq_agg, -evBuild, seqA, O26, opsOf, y26, pvOf, cutC, bodyOf, Tryz.f26, E_esc, evAssert, tn68, tz68, tc68, ta68, tk68, ti68, zv68, endD, tq68_0, tq68_1, k3, c3, a3, i3, tk30, tc30, ta30, hN, hg0, hg1, hg2, hs0, hs1, hs2, hbz, hcz, hlz, hszc, hdz, List.append_nil, AV.sealed, AV.sealedL, c24, i24, tc27, ti27, hf]
end Go.Proofs.YtemggoaefohliaaGreatDoor.PS
/- parse.Take, evaluated whole. Condition: the world outside is closed. -/
namespace Go.Proofs.YtemggoaefohliaaGreatDoor.PS
set_option linter.unusedVariables false
set_option linter.unusedSimpArgs false
open Go AE EX PT NF LX
set_option maxRecDepth 100000

theorem fin_take (S0 : St) (l : List Tk) (x : X) (k : Int) (q : Nat) : finish S0 (.tup [x.emb, .int .i64 k, .nilif]) (TSt S0 l x k .nilif q []) = some (.tup [x.emb, .int .i64 k, .nilif], S0) := by
  have h1 := sealed_emb x
  have h2 := strip_emb S0.T.length x
  have h3 := low_emb S0.H.length S0.T.length x
  have h4 : (TSt S0 l x k .nilif q []).H.take S0.H.length = S0.H := by simp [TSt]
  have h5 : (TSt S0 l x k .nilif q []).T = S0.T := rfl
  unfold finish
  simp [AV.sealed, AV.sealedL, AV.strip, AV.stripL, AV.low, AV.lowL, h1, h2, h3, h4, h5, boxEqL_refl]
theorem fin_hi3 {S S' : St} {id : Nat} (h : S.H.length ≤ id) (w u : AV) (h1 : w.sealed = true) (h2 : u.sealed = true) : finish S (.tup [w, u, .iface 78 (.ptr id 0)]) S' = some (.tup [w, u, .iface 78 (.ptr id 0)], S') := by
  unfold finish
  have : ¬ id < S.H.length := by omega
  simp [AV.sealed, AV.sealedL, AV.strip, AV.stripL, AV.low, AV.lowL, this, h1, h2]

/-- what Take hands back -/
def takeAns (S0 : St) (l : List Tk) : Option (Res × St) :=
  match takeR l with
  | .ok (x, q) => some (.ret (.tup [x.emb, .int .i64 q, .nilif]), S0)
  | .error (c, p) => some (.ret (.tup [zX.emb, .int .i64 0, .iface 78 (.ptr (S0.H.length + 4) 0)]),
      TSt S0 l zX 0 (.iface 78 (.ptr (S0.H.length + 4) 0)) p [⟨81, [.int .i64 c, .int .i64 (hereT l p).p, .nilif]⟩])

set_option maxHeartbeats 8000000 in
theorem ev_Take (n : Nat) (S0 : St) (l : List Tk) (hl : l.length ≤ 2000000) (hw : lowB S0.H.length S0.T.length S0.H = true) (hn : l.length + 710 ≤ n) :
    ev Tryz.prog E (n + 5) 10 [.slice (tkL l) .non] S0 = takeAns S0 l := by
  have hE4 : TSt S0 l zX 0 .nilif 0 [] = PSt (S0.H ++ TB l zX 0 .nilif 0) S0.T (S0.H.length + 3) l 0 0 := (TSt_eq S0 l 0).symm
  have hA := any_all S0.T l hl (S0.H ++ TB l zX 0 .nilif 0) (S0.H.length + 3) (by simp [TB]) (wf4 hw l) (n + 4) (by omega)
  rw [← hE4] at hA
  rw [show n + 5 = (n + 4) + 1 from rfl, ev_enterD (n := n + 4) (show E.ok 10 = true from rfl) (show E.dfr 10 = true from rfl) Tryz.func10 (fn := Tryz.f10) (c := bodyOf Tryz.f10) rfl cut15 (Nat.le_of_ble_eq_true rfl) (by decide +kernel)]
  obtain ⟨fs1, e1, q2, q3, q4, q5, qS⟩ : ∃ fs1, evCode ⟨Tryz.prog, E.esc 10, n + 4⟩ (ev Tryz.prog E (n + 4)) (E.ps 10) (n + 4) (.seq r015 (.seq r115 .skip)) ⟨argsA [.slice (tkL l) .non], fun _ => (0, []), 0, S0⟩ = some (.norm, fs1) ∧ fs1.t 2 = .ptr S0.H.length 0 ∧ fs1.t 3 = .ptr (S0.H.length + 1) 0 ∧ fs1.t 4 = .ptr (S0.H.length + 2) 0 ∧ fs1.t 5 = .ptr (S0.H.length + 3) 0 ∧ fs1.S = TSt S0 l zX 0 .nilif 0 [] := by
    have hst := sealed_tkL l
    have hTB : TSt S0 l zX 0 .nilif 0 [] = ⟨S0.H ++ [⟨25, z6⟩] ++ [⟨3, [.int .i64 0]⟩] ++ [⟨27, [.nilif]⟩] ++ [⟨63, [.slice (tkL l) .non, .int .i64 0, .int .i64 0]⟩], S0.T⟩ := by
      simp [TSt, TB, zX_cells, box]
    have hbd : evBuild Tryz.prog 63 [(0, .slice (tkL l) .non)] = some (.agg [.slice (tkL l) .non, .int .i64 0, .int .i64 0]) := by
      simp [evBuild, tp66, tz66, fillA, tl66_0, AV.cells?, wrc]
    have hz3 : zeroQ Tryz.prog 3 = some [.int .i64 0] := by kernel_rfl
    have hz25 : zeroQ Tryz.prog 25 = some z6 := by kernel_rfl
    have hsz : AV.sealedL z6 = true := rfl
    generalize tkL l = es at *
    rw [hTB]
    generalize z6 = z at *
    refine ⟨_, by
      simp (disch := first | (simp only [List.length_append, List.length_cons, List.length_nil]; omega) | (simp; done) | assumption) [AV.cells?, AV.isCell, -evBuild, r015, r115, cutC, bodyOf, Tryz.f10, esc15, hz3, hz25, tz27, hsz, AV.sealed, AV.sealedL, hst, hbd]
      rfl, by simp [upd, putA], by simp [upd, putA], by simp [upd, putA], by simp [upd, putA], by simp⟩
  rw [e1]
  clear e1
  obtain ⟨t, b, c, S⟩ := fs1
  simp only at q2 q3 q4 q5 qS
  subst qS
  have hsq : seqA ⟨Tryz.prog, E.esc 10, n + 4⟩ (ev Tryz.prog E (n + 4)) O15 (List.range (O15.size - 1)) ⟨t, b, c, TSt S0 l zX 0 .nilif 0 []⟩ = some (.ok ⟨upd 9 (.fn 26 [] [.ptr S0.H.length 0, .ptr (S0.H.length + 1) 0, .ptr (S0.H.length + 2) 0]) t, b, c, TSt S0 l zX 0 .nilif 0 []⟩ .non) := by
    have hr : List.range (O15.size - 1) = [0] := rfl
    have ho0 : ∃ o, O15[0]? = some o ∧ o.guard = none ∧ o.dst = some 9 ∧ o.op = .makeFunc (.func 26) #[] #[.tmp 2, .tmp 3, .tmp 4] := ⟨_, rfl, rfl, rfl, rfl⟩
    obtain ⟨o, o1, o2, o3, o4⟩ := ho0
    rw [hr]
    simp only [seqA, o1, stepA, o2, wantedA, evOp, o4, o3, putA, rhoL, rho, q2, q3, q4, List.map_nil, List.map_cons]
  have hsz : O15.size = 2 := rfl
  simp only [hsq]
  simp only [rho, upd, if_true, hsz]
  unfold takeAns
  cases hR : takeR l with
  | ok r =>
    obtain ⟨x, q⟩ := r
    rw [hR, ansX_ok] at hA
    have hq : PSt (S0.H ++ TB l zX 0 .nilif 0) S0.T (S0.H.length + 3) l q 0 = TSt S0 l zX 0 .nilif q [] := TSt_eq S0 l q
    rw [hq] at hA
    have hD := ev26n (n + 2) S0 l x q .nilif q
    have hB : ∃ fs2, evCode ⟨Tryz.prog, E.esc 10, n + 4⟩ (ev Tryz.prog E (n + 4)) (E.ps 10) (n + 4) B15 ⟨upd 9 (.fn 26 [] [.ptr S0.H.length 0, .ptr (S0.H.length + 1) 0, .ptr (S0.H.length + 2) 0]) t, b, c + 2, TSt S0 l zX 0 .nilif 0 []⟩ = some (.ret, fs2) ∧ fs2.t 2 = .ptr S0.H.length 0 ∧ fs2.t 3 = .ptr (S0.H.length + 1) 0 ∧ fs2.t 4 = .ptr (S0.H.length + 2) 0 ∧ fs2.S = TSt S0 l x q .nilif q [] := by
      have g0 := TSt_get0 S0 l zX 0 .nilif q []
      have g0' := TSt_get0 S0 l x 0 .nilif q []
      have g3' := TSt_get3 S0 l x 0 .nilif q []
      have g1' := TSt_get1 S0 l x 0 .nilif q []
      have g2' := TSt_get2 S0 l x q .nilif q []
      have s0 := TSt_set0 S0 l zX x 0 .nilif q []
      have s0' := TSt_set0 S0 l x x 0 .nilif q []
      have s1 := TSt_set1 S0 l x 0 q .nilif q []
      have s2 := TSt_set2 S0 l x q .nilif .nilif q []
      have hps : E.ps 10 4 = [(0, 4), (4, 5)] := rfl
      have hlz : zX.cells.length = 6 := xlen zX
      have hdz : List.drop 6 zX.cells = [] := rfl
      have hcx := xcells x
      have hlx := xlen x
      have htx := xtake x
      have hex := xemb x
      have hdx : List.drop 6 x.cells = [] := List.drop_eq_nil_of_le (by rw [hlx]; omega)
      have hsx : AV.sealedL x.cells = true := by have := sealed_emb x; rw [emb_cells] at this; simpa [AV.sealed] using this
      generalize TSt S0 l x q .nilif q [] = L5 at *
      generalize TSt S0 l x 0 .nilif q [] = L4 at *
      generalize TSt S0 l zX 0 .nilif q [] = L3 at *
      generalize TSt S0 l zX 0 .nilif 0 [] = L2 at *
      generalize zX.cells = zc at *
      generalize x.cells = xc at *
      generalize x.emb = xe at *
      generalize tkL l = es at *
      refine ⟨_, by
        simp (disch := first | (simp only [List.length_append, List.length_cons, List.length_nil]; omega) | (simp; done) | assumption) [AV.cells?, AV.isCell, -AV.cells?, cq_int, cq_nilif, B15, cutC, bodyOf, Tryz.f10, esc15, q2, q3, q4, q5, hA, g0, g0', g3', g1', g2', s0, s0', s1, s2, hps, hlz, hdz, hcx, hlx, htx, hex, hdx, hsx, List.append_nil, c24, a24, k24, i24, tq66_1, tk66, k3, c3, a3, i3, tk27, tc27, ta27, ti27, AV.sealed, AV.sealedL, ofC]
        rfl, by simp [upd, putA, q2], by simp [upd, putA, q3], by simp [upd, putA, q4], rfl⟩
    obtain ⟨⟨t2, b2, c2, S2⟩, r1, w2, w3, w4, wS⟩ := hB
    simp only at w2 w3 w4 wS
    subst wS
    rw [r1]
    have hD' := ev26n (n + 2) S0 l x q .nilif q
    simp only [fromD, List.nil_append, rhoL, List.map_nil, hD']
    have g0 := TSt_get0 S0 l x q .nilif q []
    have g1 := TSt_get1 S0 l x q .nilif q []
    have g2 := TSt_get2 S0 l x q .nilif q []
    have hf := fin_take S0 l x q q
    have hrs : Tryz.f10.results.toList = [.cell 2 25, .cell 3 3, .cell 4 27] := rfl
    have hlx := xlen x
    have htx := xtake x
    have hex := xemb x
    generalize TSt S0 l x q .nilif q [] = L5 at *
    generalize x.cells = xc at *
    generalize x.emb = xe at *
    simp (disch := first | (simp only [List.length_append, List.length_cons, List.length_nil]; omega) | (simp; done) | assumption) [AV.cells?, AV.isCell, -AV.cells?, hrs, w2, w3, w4, g0, g1, g2, hlx, htx, hex, hf, c24, a24, k24, k3, c3, a3, tk27, tc27, ta27]
  | error e =>
    obtain ⟨c', p⟩ := e
    rw [hR, ansX_err] at hA
    have hq : PSt (S0.H ++ TB l zX 0 .nilif 0) S0.T (S0.H.length + 3) l p 0 = TSt S0 l zX 0 .nilif p [] := TSt_eq S0 l p
    rw [hq] at hA
    have hB : ∃ fs2, evCode ⟨Tryz.prog, E.esc 10, n + 4⟩ (ev Tryz.prog E (n + 4)) (E.ps 10) (n + 4) B15 ⟨upd 9 (.fn 26 [] [.ptr S0.H.length 0, .ptr (S0.H.length + 1) 0, .ptr (S0.H.length + 2) 0]) t, b, c + 2, TSt S0 l zX 0 .nilif 0 []⟩ = some (.pan (stopV (hereT l) c' p), fs2) ∧ fs2.t 2 = .ptr S0.H.length 0 ∧ fs2.t 3 = .ptr (S0.H.length + 1) 0 ∧ fs2.t 4 = .ptr (S0.H.length + 2) 0 ∧ fs2.S = TSt S0 l zX 0 .nilif p [] := by
      generalize TSt S0 l zX 0 .nilif p [] = L3 at *
      generalize TSt S0 l zX 0 .nilif 0 [] = L2 at *
      generalize tkL l = es at *
      generalize stopV (hereT l) c' p = sv at *
      refine ⟨_, by
        simp (disch := first | (simp only [List.length_append, List.length_cons, List.length_nil]; omega) | (simp; done) | assumption) [AV.cells?, AV.isCell, -AV.cells?, cq_int, cq_nilif, B15, cutC, bodyOf, Tryz.f10, esc15, q2, q3, q4, q5, hA]
        rfl, by simp [upd, putA, q2], by simp [upd, putA, q3], by simp [upd, putA, q4], rfl⟩
    obtain ⟨⟨t2, b2, c2, S2⟩, r1, w2, w3, w4, wS⟩ := hB
    simp only at w2 w3 w4 wS
    subst wS
    rw [r1]
    have hD' := ev26p (n + 2) S0 l p c' (hereT l p).p
    have hsv : stopV (hereT l) c' p = .iface 65 (.agg [.int .i64 c', .int .i64 (hereT l p).p]) := rfl
    rw [hsv]
    simp only [fromD, List.nil_append, rhoL, List.map_nil, hD']
    have g0 := TSt_get0 S0 l zX 0 (.iface 78 (.ptr (S0.H.length + 4) 0)) p [⟨81, [.int .i64 c', .int .i64 (hereT l p).p, .nilif]⟩]
    have g1 := TSt_get1 S0 l zX 0 (.iface 78 (.ptr (S0.H.length + 4) 0)) p [⟨81, [.int .i64 c', .int .i64 (hereT l p).p, .nilif]⟩]
    have g2 := TSt_get2 S0 l zX 0 (.iface 78 (.ptr (S0.H.length + 4) 0)) p [⟨81, [.int .i64 c', .int .i64 (hereT l p).p, .nilif]⟩]
    have hf := fin_hi3 (S := S0) (S' := TSt S0 l zX 0 (.iface 78 (.ptr (S0.H.length + 4) 0)) p [⟨81, [.int .i64 c', .int .i64 (hereT l p).p, .nilif]⟩]) (show S0.H.length ≤ S0.H.length + 4 by omega) zX.emb (.int .i64 0) (sealed_emb _) rfl
    have hrs : Tryz.f10.results.toList = [.cell 2 25, .cell 3 3, .cell 4 27] := rfl
    have hlx := xlen zX
    have htx := xtake zX
    have hex := xemb zX
    generalize TSt S0 l zX 0 (.iface 78 (.ptr (S0.H.length + 4) 0)) p [⟨81, [.int .i64 c', .int .i64 (hereT l p).p, .nilif]⟩] = L5 at *
    generalize zX.cells = xc at *
    generalize zX.emb = xe at *
    simp (disch := first | (simp only [List.length_append, List.length_cons, List.length_nil]; omega) | (simp; done) | assumption) [AV.cells?, AV.isCell, -AV.cells?, hrs, w2, w3, w4, g0, g1, g2, hlx, htx, hex, hf, c24, a24, k24, k3, c3, a3, tk27, tc27, ta27]
end Go.Proofs.YtemggoaefohliaaGreatDoor.PS
/- How great what the parser builds can be: by the words it has passed. No condition. -/
namespace Go.Proofs.YtemggoaefohliaaGreatDoor.PS
set_option linter.unusedVariables false
set_option linter.unusedSimpArgs false
open Go AE EX PT NF LX
set_option maxRecDepth 100000

def wT (t : Tk) : Nat := 14 + t.s.length
def Wt (l : List Tk) (i : Nat) : Nat := ((l.take i).map wT).sum
theorem Wt_succ {l : List Tk} {p : Nat} (h : p < l.length) : Wt l (p + 1) = Wt l p + wT (hereT l p) := by
  have hg : l[p]? = some l[p] := List.getElem?_eq_getElem h
  have hh : hereT l p = l[p] := by simp [hereT, hg]
  rw [hh]
  unfold Wt
  rw [List.take_add_one, hg]
  simp only [Option.toList_some, List.map_append, List.map_cons, List.map_nil, List.sum_append_nat, List.sum_cons, List.sum_nil]
  omega
theorem Wt_all (l : List Tk) (i : Nat) : Wt l i ≤ (l.map wT).sum := by
  have : (l.map wT).sum = ((l.take i).map wT).sum + ((l.drop i).map wT).sum := by
    rw [← List.sum_append, ← List.map_append, List.take_append_drop]
  unfold Wt; omega
/-- a word's weight, at the least -/
def Wok (h : Nat → Tk) (Wf : Nat → Nat) : Prop := ∀ p, (h p).k ≠ 5 → Wf p + 14 + (h p).s.length ≤ Wf (p + 1)
theorem Wok_l (l : List Tk) : Wok (hereT l) (Wt l) := fun p hp => by
  rw [Wt_succ (here_lt hp)]; unfold wT; omega
/-- nothing is passed behind a word that ends all -/
theorem Wok_end {l : List Tk} {m : Nat} (hm : (hereT l m).k = 5) (hl : l.length ≤ m + 1) : Wok (hereT l) (fun i => if i ≤ m then Wt l i else 0) := fun p hp => by
  have := Wok_l l p hp
  have h1 := here_lt hp
  have h2 : p ≠ m := fun e => hp (by rw [e]; exact hm)
  have e1 : p ≤ m := by omega
  have e2 : p + 1 ≤ m := by omega
  simp only [e1, e2, if_true]
  exact this
/-- so much at the most -/
def Bd (Wf : Nat → Nat) (sub : Nat → PR X) : Prop := ∀ p x r, sub p = .ok (x, r) → x.bulk + Wf p ≤ Wf r

section
variable {h0 : Nat → Tk} {Wf : Nat → Nat} (hW : Wok h0 Wf)
include hW
theorem is_c {p : Nat} {q : List UInt8} (h : isB h0 p q = true) : Wf p + 14 ≤ Wf (p + 1) := by
  simp only [isB, Bool.and_eq_true, beq_iff_eq] at h
  have := hW p (by rw [h.1]; exact kindOf_ne q)
  omega
theorem need_c {p : Nat} {q : List UInt8} {u : Unit} {r : Nat} (h : needP h0 q p = .ok (u, r)) : Wf p + 14 ≤ Wf r := by
  unfold needP at h
  split at h
  · rename_i hb; cases h; exact is_c hW hb
  · cases h
theorem take_c {p : Nat} {k : Int} {t : Tk} {r : Nat} (hk : k ≠ 5) (h : takeP h0 k p = .ok (t, r)) : Wf p + 14 + t.s.length ≤ Wf r := by
  unfold takeP at h
  split at h
  · rename_i hb
    cases h
    exact hW p (by rw [hb]; exact hk)
  · cases h
theorem here_c {p : Nat} {k : Int} (hk : k ≠ 5) (h : (h0 p).k = k) : Wf p + 14 + (h0 p).s.length ≤ Wf (p + 1) := hW p (by rw [h]; exact hk)
omit hW in
theorem leaf_b (k : Int) (s : List UInt8) (n hi : Int) : (leafX k s n hi).bulk = 7 + s.length := by simp [leafX, X.bulk, bulkL]
omit hW in
theorem both_b (k : Int) (x y : X) : (bothX k x y).bulk = 7 + (x.bulk + y.bulk) := by simp [bothX, X.bulk, bulkL]
omit hW in
theorem one_b (k : Int) (x : X) : (oneX k x).bulk = 7 + x.bulk := by simp [oneX, X.bulk, bulkL]
omit hW in
theorem mk1_b (k lo hi : Int) (b : Bool) (x : X) : (X.mk k [] 0 lo hi b [x]).bulk = 7 + x.bulk := by simp [X.bulk, bulkL]
omit hW in
theorem mk2_b (k lo hi : Int) (b : Bool) (x y : X) : (X.mk k [] 0 lo hi b [x, y]).bulk = 7 + (x.bulk + y.bulk) := by simp [X.bulk, bulkL]

omit hW in
theorem opAt_is {h : Nat → Tk} {p : Nat} {k : Int} : ∀ {ops : List (List UInt8 × Int)}, opAt h p ops = some k → ∃ q, isB h p q = true
  | [], hh => by cases hh
  | (q, k') :: r, hh => by
    rw [opAt] at hh
    split at hh
    · rename_i hb; exact ⟨q, hb⟩
    · exact opAt_is hh
theorem bd_loop {ops : List (List UInt8 × Int)} {sub : Nat → PR X} (hs : Bd Wf sub) : ∀ f e p x r, loopF h0 ops sub f e p = .ok (x, r) → x.bulk + Wf p ≤ e.bulk + Wf r
  | 0, e, p, x, r, h => by cases h
  | f + 1, e, p, x, r, h => by
    rw [loopF] at h
    split at h
    · cases h; omega
    · rename_i k hk
      obtain ⟨v, q, h1, h2⟩ := th_split h
      obtain ⟨w, hw⟩ := opAt_is hk
      have := is_c hW hw
      have := hs _ _ _ h1
      have := bd_loop hs f _ _ _ _ h2
      rw [both_b] at this
      omega
theorem bd_chain {ops : List (List UInt8 × Int)} {sub : Nat → PR X} (hs : Bd Wf sub) (F : Nat) : Bd Wf (chainP h0 F ops sub) := by
  intro p x r h
  obtain ⟨v, q, h1, h2⟩ := th_split h
  have := hs _ _ _ h1
  have := bd_loop hW hs F _ _ _ _ h2
  omega
theorem bd_rel {sub : Nat → PR X} (hs : Bd Wf sub) : Bd Wf (relP h0 sub) := by
  intro p x r h
  obtain ⟨v, q, h1, h2⟩ := th_split h
  have h3 := hs _ _ _ h1
  have key : ∀ {k : Int}, isB h0 q [61] = true ∨ isB h0 q [60] = true ∨ isB h0 q [60, 61] = true ∨ isB h0 q [105, 110] = true → (sub (q + 1)).th (fun y t => .ok (bothX k v y, t)) = .ok (x, r) → x.bulk + Wf p ≤ Wf r := fun hb hh => by
    obtain ⟨y, t, g1, g2⟩ := th_split hh
    cases g2
    have := hs _ _ _ g1
    rw [both_b]
    rcases hb with hb | hb | hb | hb <;> (have := is_c hW hb; omega)
  split at h2
  · rename_i hb; exact key (.inl hb) h2
  · split at h2
    · rename_i hb
      obtain ⟨y, t, g1, g2⟩ := th_split h2
      cases g2
      have := hs _ _ _ g1
      have := is_c hW hb
      rw [one_b, both_b]
      omega
    · split at h2
      · rename_i hb; exact key (.inr (.inl hb)) h2
      · split at h2
        · rename_i hb; exact key (.inr (.inr (.inl hb))) h2
        · split at h2
          · rename_i hb; exact key (.inr (.inr (.inr hb))) h2
          · cases h2; omega
theorem bd_any {one : Nat → PR X} (hs : Bd Wf one) (F : Nat) : Bd Wf (anyP h0 F one) := bd_chain hW (bd_chain hW (bd_rel hW (bd_chain hW (bd_chain hW hs F) F)) F) F
theorem bd_setF : ∀ f ks p x r, setF h0 f ks p = .ok (x, r) → x.bulk + Wf p ≤ 7 + bulkL ks + Wf r
  | 0, ks, p, x, r, h => by cases h
  | f + 1, ks, p, x, r, h => by
    rw [setF] at h
    obtain ⟨t, q, h1, h2⟩ := th_split h
    have := take_c hW (by decide) h1
    have hb : bulkL (ks ++ [leafX 3 t.s 0 0]) = bulkL ks + (7 + t.s.length) := by
      have : ∀ a b : List X, bulkL (a ++ b) = bulkL a + bulkL b := fun a b => by
        induction a with
        | nil => simp [bulkL]
        | cons x a ih => simp [bulkL, ih]; omega
      rw [this]; simp [bulkL, leaf_b]
    split at h2
    · cases h2
    · split at h2
      · rename_i hc
        cases h2
        have := is_c hW hc
        simp only [setX, X.bulk, hb, List.length_nil]
        omega
      · obtain ⟨u, q2, h3, h4⟩ := th_split h2
        have := need_c hW h3
        have := bd_setF f _ _ _ _ h4
        rw [hb] at this
        omega
theorem bd_set (F : Nat) : ∀ p x r, setP h0 F p = .ok (x, r) → x.bulk + Wf p ≤ 7 + Wf r := by
  intro p x r h
  unfold setP at h
  split at h
  · rename_i hb
    cases h
    have := is_c hW hb
    simp [leaf_b]; omega
  · have := bd_setF hW F _ _ _ _ h
    simpa [bulkL] using this
theorem bd_arg {any : Nat → PR X} (ha : Bd Wf any) : ∀ p x r, argP h0 any p = .ok (x, r) → x.bulk + Wf p + 28 ≤ Wf r := by
  intro p x r h
  obtain ⟨_, q, h1, h2⟩ := th_split h
  obtain ⟨v, q2, h3, h4⟩ := th_split h2
  obtain ⟨_, q3, h5, h6⟩ := th_split h4
  cases h6
  have := need_c hW h1
  have := ha _ _ _ h3
  have := need_c hW h5
  omega
theorem bd_signed {one any : Nat → PR X} (ho : Bd Wf one) (ha : Bd Wf any) (F : Nat) : Bd Wf (signedP h0 F one any) := by
  intro p x r h
  unfold signedP at h
  split at h
  · rename_i hb
    obtain ⟨v, q, h1, h2⟩ := th_split h
    cases h2
    have := ho _ _ _ h1
    have := is_c hW hb
    rw [one_b]; omega
  · split at h
    · rename_i hb
      have := bd_set hW F _ _ _ h
      have := is_c hW hb
      omega
    · have := bd_arg hW ha _ _ _ h
      omega
theorem bd_span : ∀ p x r, spanP h0 p = .ok (x, r) → Wf p + 14 ≤ Wf r := by
  intro p x r h
  obtain ⟨_, q, h1, h2⟩ := th_split h
  obtain ⟨t, q2, h3, h4⟩ := th_split h2
  obtain ⟨_, q3, h5, h6⟩ := th_split h4
  have := need_c hW h1
  have := take_c hW (by decide) h3
  have := need_c hW h5
  split at h6
  · rename_i hb
    obtain ⟨_, q4, h7, h8⟩ := th_split h6
    cases h8
    have := is_c hW hb
    have := need_c hW h7
    omega
  · obtain ⟨u, q4, h7, h8⟩ := th_split h6
    have := take_c hW (by decide) h7
    split at h8
    · cases h8
    · obtain ⟨_, q5, h9, h10⟩ := th_split h8
      cases h10
      have := need_c hW h9
      omega
theorem bd_look {any : Nat → PR X} (ha : Bd Wf any) (k : Int) : Bd Wf (lookP h0 k any) := by
  intro p x r h
  obtain ⟨lh, q, h1, h2⟩ := th_split h
  obtain ⟨v, q2, h3, h4⟩ := th_split h2
  cases h4
  have := bd_span hW _ _ _ h1
  have := bd_arg hW ha _ _ _ h3
  rw [mk1_b]; omega
theorem bd_since {any : Nat → PR X} (ha : Bd Wf any) : Bd Wf (sinceP h0 any) := by
  intro p x r h
  obtain ⟨lh, q, h1, h2⟩ := th_split h
  obtain ⟨_, q2, h3, h4⟩ := th_split h2
  obtain ⟨x1, q3, h5, h6⟩ := th_split h4
  obtain ⟨_, q4, h7, h8⟩ := th_split h6
  obtain ⟨x2, q5, h9, h10⟩ := th_split h8
  obtain ⟨_, q6, h11, h12⟩ := th_split h10
  cases h12
  have := bd_span hW _ _ _ h1
  have := need_c hW h3
  have := ha _ _ _ h5
  have := need_c hW h7
  have := ha _ _ _ h9
  have := need_c hW h11
  rw [mk2_b]; omega
theorem bd_timed {any : Nat → PR X} (ha : Bd Wf any) : Bd Wf (timedP h0 any) := by
  intro p x r h
  unfold timedP at h
  split at h
  · rename_i hb; have := bd_look hW ha _ _ _ _ h; have := is_c hW hb; omega
  · split at h
    · rename_i hb; have := bd_look hW ha _ _ _ _ h; have := is_c hW hb; omega
    · split at h
      · rename_i hb; have := bd_since hW ha _ _ _ h; have := is_c hW hb; omega
      · cases h
theorem bd_attr (side : Int) : Bd Wf (attrP h0 side) := by
  intro p x r h
  obtain ⟨_, q, h1, h2⟩ := th_split h
  obtain ⟨t, q2, h3, h4⟩ := th_split h2
  cases h4
  have := need_c hW h1
  have := take_c hW (by decide) h3
  rw [leaf_b]; omega
theorem bd_act : Bd Wf (actP h0) := by
  intro p x r h
  obtain ⟨_, q, h1, h2⟩ := th_split h
  obtain ⟨t, q2, h3, h4⟩ := th_split h2
  obtain ⟨_, q3, h5, h6⟩ := th_split h4
  cases h6
  have := need_c hW h1
  have := take_c hW (by decide) h3
  have := need_c hW h5
  rw [leaf_b]; omega
theorem bd_times : Bd Wf (timesP h0) := by
  intro p x r h
  obtain ⟨_, q, h1, h2⟩ := th_split h
  obtain ⟨t, q2, h3, h4⟩ := th_split h2
  obtain ⟨_, q3, h5, h6⟩ := th_split h4
  obtain ⟨u, q4, h7, h8⟩ := th_split h6
  obtain ⟨_, q5, h9, h10⟩ := th_split h8
  cases h10
  have := need_c hW h1
  have := take_c hW (by decide) h3
  have := need_c hW h5
  have := take_c hW (by decide) h7
  have := need_c hW h9
  rw [leaf_b]; omega
theorem bd_named {one any : Nat → PR X} (ho : Bd Wf one) (ha : Bd Wf any) : Bd Wf (namedP h0 one any) := by
  intro p x r h
  unfold namedP at h
  split at h
  · rename_i hb; cases h; have := is_c hW hb; rw [leaf_b]; simp; omega
  · split at h
    · rename_i hb; cases h; have := is_c hW hb; rw [leaf_b]; simp; omega
    · split at h
      · rename_i hb; cases h; have := is_c hW hb; rw [leaf_b]; simp; omega
      · split at h
        · rename_i hb
          obtain ⟨v, q, h1, h2⟩ := th_split h
          cases h2
          have := ho _ _ _ h1
          have := is_c hW hb
          rw [one_b]; omega
        · split at h
          · rename_i hb; have := bd_attr hW _ _ _ _ h; have := is_c hW hb; omega
          · split at h
            · rename_i hb; have := bd_attr hW _ _ _ _ h; have := is_c hW hb; omega
            · split at h
              · rename_i hb; have := bd_act hW _ _ _ h; have := is_c hW hb; omega
              · split at h
                · rename_i hb; have := bd_times hW _ _ _ h; have := is_c hW hb; omega
                · split at h
                  · rename_i hb
                    obtain ⟨v, q, h1, h2⟩ := th_split h
                    cases h2
                    have := bd_arg hW ha _ _ _ h1
                    have := is_c hW hb
                    rw [one_b]; omega
                  · split at h
                    · rename_i hb
                      obtain ⟨v, q, h1, h2⟩ := th_split h
                      cases h2
                      have := bd_arg hW ha _ _ _ h1
                      have := is_c hW hb
                      rw [one_b]; omega
                    · exact bd_timed hW ha _ _ _ h
theorem bd_one (F : Nat) : ∀ k, Bd Wf (oneF h0 F k)
  | 0 => by intro p x r h; rw [oneF] at h; cases h
  | k + 1 => by
    intro p x r h
    have ih := bd_one F k
    rw [oneF] at h
    split at h
    · rename_i hb; cases h; have := here_c hW (by decide) hb; rw [leaf_b]; simp; omega
    · split at h
      · rename_i hb; cases h; have := here_c hW (by decide) hb; rw [leaf_b]; omega
      · split at h
        · exact bd_signed hW ih (bd_any hW ih F) F _ _ _ h
        · split at h
          · exact bd_named hW ih (bd_any hW ih F) _ _ _ h
          · cases h
end
theorem bulk_pos : ∀ x : X, 7 ≤ x.bulk
  | .mk _ _ _ _ _ _ _ => by simp only [X.bulk]; omega
end Go.Proofs.YtemggoaefohliaaGreatDoor.PS
/- The words of a text: the last one ends all, no other does; their weight. No condition. -/
namespace Go.Proofs.YtemggoaefohliaaGreatDoor.LX
set_option linter.unusedVariables false
set_option linter.unusedSimpArgs false
open Go AE EX PT NF PS
set_option maxRecDepth 100000

theorem sub_le (s : List UInt8) (p q : Nat) : (sub s p q).length ≤ q - p := by
  simp [sub]; omega
theorem next_word {s : List UInt8} {p : Nat} {c : UInt8} {t : Tk} {to : Nat} (hc : s[p]? = some c) (h : nextR s p c = some (.word t to)) : t.s.length ≤ to - p ∧ t.k ≠ 5 := by
  unfold nextR at h
  split at h
  · cases h
  · simp only [Option.some.injEq] at h
    split at h
    · unfold namedR at h
      split at h
      · cases h
      · cases h
        exact ⟨sub_le _ _ _, by simp⟩
    · split at h
      · unfold numberedR at h
        split at h
        · cases h
          exact ⟨sub_le _ _ _, by simp⟩
        · cases h
      · split at h
        · unfold quotedR at h
          split at h
          · cases h
          · split at h
            · cases h
            · split at h
              · cases h
                have := sub_le s (p + 1) (p + 1 + (Lib.indexByte (s.drop (p + 1)) 34).toNat)
                exact ⟨by simp only; omega, by simp⟩
              · cases h
        · unfold signedR at h
          split at h
          · rename_i q hq
            cases h
            have hm := List.mem_of_find?_eq_some hq
            have h2 := sgL_len q hm
            exact ⟨by simp only; omega, by simp⟩
          · split at h
            · split at h
              · cases h
                exact ⟨by have := sub_le s p (p + 1); simp only; omega, by simp⟩
              · cases h
            · cases h

theorem lexF_shape {s : List UInt8} : ∀ (f p : Nat) (out l : List Tk), p ≤ s.length → s.length < f + p → lexF s f p out = .ok l →
    ∃ more, l = out ++ more ++ [⟨5, [], 0, s.length⟩] ∧ (∀ t ∈ more, t.k ≠ 5) ∧ (more.map wT).sum ≤ 15 * (s.length - p) ∧ more.length ≤ s.length - p
  | 0, p, out, l, hp, hf, h => by omega
  | f + 1, p, out, l, hp, hf, h => by
    rw [lexF] at h
    split at h
    · rename_i hn
      have := List.getElem?_eq_none_iff.1 hn
      have hpe : p = s.length := by omega
      cases h
      exact ⟨[], by simp [hpe], by simp, by simp, by simp⟩
    · rename_i c hc
      have hlt := (List.getElem?_eq_some_iff.1 hc).1
      split at h
      · obtain ⟨more, e1, e2, e3, e4⟩ := lexF_shape f (p + 1) out l (by omega) (by omega) h
        exact ⟨more, e1, e2, by omega, by omega⟩
      · cases h
      · rename_i t to hw
        obtain ⟨w1, w2, w3⟩ := next_far hc hw
        obtain ⟨w4, w5⟩ := next_word hc hw
        obtain ⟨more, e1, e2, e3, e4⟩ := lexF_shape f to (out ++ [t]) l w2 (by omega) h
        refine ⟨t :: more, by rw [e1]; simp, ?_, ?_, ?_⟩
        · intro u hu
          rcases List.mem_cons.1 hu with rfl | hu
          · exact w5
          · exact e2 u hu
        · simp only [List.map_cons, List.sum_cons, wT] at e3 ⊢
          omega
        · simp only [List.length_cons]; omega
theorem lexAll_shape {s : List UInt8} {l : List Tk} (h : lexAll s = .ok l) : s.length ≤ 4096 ∧
    ∃ more, l = more ++ [⟨5, [], 0, s.length⟩] ∧ (∀ t ∈ more, t.k ≠ 5) ∧ (more.map wT).sum ≤ 15 * s.length ∧ more.length ≤ s.length := by
  unfold lexAll at h
  split at h
  · cases h
  · obtain ⟨more, e1, e2, e3, e4⟩ := lexF_shape _ 0 [] l (by omega) (by omega) h
    exact ⟨by omega, more, by simpa using e1, e2, by simpa using e3, by simpa using e4⟩

/-- what the parser takes of a text's words -/
theorem take_bound {s : List UInt8} {l : List Tk} (h : lexAll s = .ok l) {x : X} {q : Nat} (hx : anyP (hereT l) (l.length + 1) (oneF (hereT l) (l.length + 1) 32) 0 = .ok (x, q)) : q < l.length ∧ x.bulk ≤ 62000 ∧ l.length ≤ 4097 := by
  obtain ⟨h1, more, e1, e2, e3, e4⟩ := lexAll_shape h
  have hlen : l.length = more.length + 1 := by rw [e1]; simp
  have hm : (hereT l more.length).k = 5 := by
    have : l[more.length]? = some ⟨5, [], 0, s.length⟩ := by rw [e1]; simp
    simp [hereT, this]
  have b1 := bd_any (Wok_l l) (bd_one (Wok_l l) (l.length + 1) 32) (l.length + 1) _ _ _ hx
  have b2 := bd_any (Wok_end hm (by omega)) (bd_one (Wok_end hm (by omega)) (l.length + 1) 32) (l.length + 1) _ _ _ hx
  have hb := bulk_pos x
  have hall := Wt_all l q
  have hs : (l.map wT).sum ≤ 15 * s.length + 14 := by rw [e1]; simp [wT]; exact e3
  refine ⟨?_, by omega, by omega⟩
  simp only [Nat.zero_le, if_true] at b2
  split at b2
  · omega
  · omega
end Go.Proofs.YtemggoaefohliaaGreatDoor.LX
/- fault.Code, Place, Wrap, evaluated. No condition. -/
namespace Go.Proofs.YtemggoaefohliaaGreatDoor.PS
set_option linter.unusedVariables false
set_option linter.unusedSimpArgs false
open Go AE EX PT NF LX
set_option maxRecDepth 100000

theorem esc9 (d : Nat) : E.esc 18 d = (d == 3) := by simp [E]
theorem esc13 (d : Nat) : E.esc 19 d = (d == 3) := by simp [E]
theorem esc16 (d : Nat) : E.esc 21 d = (d == 13) := by simp [E]
theorem ev_As (n : Nat) (args : List AV) (S : St) : ev Tryz.prog E (n + 1) 44 args S = asX args S := by
  have h : ev Tryz.prog E (n + 1) 44 args S = (if E.ok 44 then (if E.dfr 44 then evFuncD Tryz.prog E (ev Tryz.prog E n) (evd Tryz.prog E n) n 44 args S else evFunc Tryz.prog E (ev Tryz.prog E n) n 44 args S) else E.ext 44 args S) := rfl
  rw [h]
  rfl
theorem fin_low {S : St} (H1 : List HBox) (v : AV) (h1 : v.sealed = true) (h2 : v.strip S.T.length = v) (h3 : v.low S.H.length S.T.length = true) : finish S v ⟨S.H ++ H1, S.T⟩ = some (v, S) := by
  unfold finish
  simp [h1, h2, h3, boxEqL_refl]

theorem ev_Code (n : Nat) (S : St) (id : Nat) (c a : Int) (e : AV) (h : S.H[id]? = some ⟨81, [.int .i64 c, .int .i64 a, e]⟩) :
    ev Tryz.prog E (n + 2) 18 [.iface 78 (.ptr id 0)] S = some (.ret (.int .i64 c), S) := by
  have hid : id < S.H.length := (List.getElem?_eq_some_iff.1 h).1
  have hid' : S.H[id] = ⟨81, [.int .i64 c, .int .i64 a, e]⟩ := (List.getElem?_eq_some_iff.1 h).2
  have hA : ev Tryz.prog E (n + 1) 44 [.iface 78 (.ptr id 0), .iface 77 (.ptr S.H.length 0)] ⟨S.H ++ [⟨48, [.int .i64 0]⟩], S.T⟩ = some (.ret (.bool true), ⟨S.H ++ [⟨48, [.int .i64 c]⟩], S.T⟩) := by
    rw [ev_As]
    have h1 : (S.H ++ [(⟨48, [.int .i64 0]⟩ : HBox)])[id]? = some ⟨81, [.int .i64 c, .int .i64 a, e]⟩ := by rw [List.getElem?_append_left hid]; exact h
    have h2 : (S.H ++ [(⟨48, [.int .i64 0]⟩ : HBox)])[S.H.length]? = some ⟨48, [.int .i64 0]⟩ := by simp
    simp only [asX, h1, h2]
    simp
  have hz30 : zeroQ Tryz.prog 48 = some [.int .i64 0] := by kernel_rfl
  have hf := fin_low (S := S) [⟨48, [.int .i64 c]⟩] (.int .i64 c) rfl rfl rfl
  have hg : (S.H ++ [(⟨48, [.int .i64 c]⟩ : HBox)])[S.H.length]? = some ⟨48, [.int .i64 c]⟩ := by simp
  rw [show n + 2 = (n + 1) + 1 from rfl, ev_enter (n := n + 1) (show E.ok 18 = true from rfl) Tryz.func18 (fn := Tryz.f18) rfl (Nat.le_of_ble_eq_true rfl) (by decide +kernel)]
  simp (disch := first | (simp only [List.length_append, List.length_cons, List.length_nil]; omega) | (simp; done) | assumption) [AV.cells?, AV.isCell, Tryz.f18, esc9, hz30, tn51, hA, hg, hf, tk30, tc30, ta30, AV.sealed, AV.sealedL]
theorem ev_Code0 (n : Nat) (S : St) : ev Tryz.prog E (n + 2) 18 [.nilif] S = some (.ret (.int .i64 0), S) := by
  have hA : ev Tryz.prog E (n + 1) 44 [.nilif, .iface 77 (.ptr S.H.length 0)] ⟨S.H ++ [⟨48, [.int .i64 0]⟩], S.T⟩ = some (.ret (.bool false), ⟨S.H ++ [⟨48, [.int .i64 0]⟩], S.T⟩) := by
    rw [ev_As]; rfl
  have hz30 : zeroQ Tryz.prog 48 = some [.int .i64 0] := by kernel_rfl
  have hf := fin_low (S := S) [⟨48, [.int .i64 0]⟩] (.int .i64 0) rfl rfl rfl
  rw [show n + 2 = (n + 1) + 1 from rfl, ev_enter (n := n + 1) (show E.ok 18 = true from rfl) Tryz.func18 (fn := Tryz.f18) rfl (Nat.le_of_ble_eq_true rfl) (by decide +kernel)]
  simp (disch := first | (simp only [List.length_append, List.length_cons, List.length_nil]; omega) | (simp; done) | assumption) [AV.cells?, AV.isCell, Tryz.f18, esc9, hz30, tn51, hA, hf, tk30, tc30, ta30, AV.sealed, AV.sealedL]
theorem ev_Place (n : Nat) (S : St) (id : Nat) (c a : Int) (e : AV) (h : S.H[id]? = some ⟨81, [.int .i64 c, .int .i64 a, e]⟩) :
    ev Tryz.prog E (n + 2) 19 [.iface 78 (.ptr id 0)] S = some (.ret (.int .i64 a), S) := by
  have hid : id < S.H.length := (List.getElem?_eq_some_iff.1 h).1
  have hA : ev Tryz.prog E (n + 1) 44 [.iface 78 (.ptr id 0), .iface 79 (.ptr S.H.length 0)] ⟨S.H ++ [⟨78, [.nilp]⟩], S.T⟩ = some (.ret (.bool true), ⟨S.H ++ [⟨78, [.ptr id 0]⟩], S.T⟩) := by
    rw [ev_As]
    have h2 : (S.H ++ [(⟨78, [.nilp]⟩ : HBox)])[S.H.length]? = some ⟨78, [.nilp]⟩ := by simp
    simp only [asX, h2]
    simp
  have htr := tr55
  have hz55 : zeroQ Tryz.prog 78 = some [.nilp] := by kernel_rfl
  have hf := fin_low (S := S) [⟨78, [.ptr id 0]⟩] (.int .i64 a) rfl rfl rfl
  have hg : (⟨S.H ++ [⟨78, [.ptr id 0]⟩], S.T⟩ : St).H[S.H.length]? = some ⟨78, [.ptr id 0]⟩ := by simp
  have hg2 : (⟨S.H ++ [⟨78, [.ptr id 0]⟩], S.T⟩ : St).H[id]? = some ⟨81, [.int .i64 c, .int .i64 a, e]⟩ := by simp only; rw [List.getElem?_append_left hid]; exact h
  generalize (⟨S.H ++ [⟨78, [.ptr id 0]⟩], S.T⟩ : St) = S2 at *
  rw [show n + 2 = (n + 1) + 1 from rfl, ev_enter (n := n + 1) (show E.ok 19 = true from rfl) Tryz.func19 (fn := Tryz.f19) rfl (Nat.le_of_ble_eq_true rfl) (by decide +kernel)]
  simp (disch := first | (simp only [List.length_append, List.length_cons, List.length_nil]; omega) | (simp; done) | assumption) [AV.cells?, AV.isCell, Tryz.f19, esc13, hz55, tn56, hA, hg, hg2, hf, tk55, tc55, ta55, tr55, tq58_1, k3, c3, a3, AV.sealed, AV.sealedL, ofC]
theorem ev_Wrap (n : Nat) (S : St) (id : Nat) (c a : Int) : ev Tryz.prog E (n + 1) 21 [.int .i64 c, .int .i64 a, .iface 78 (.ptr id 0)] S = some (.ret (.iface 78 (.ptr S.H.length 0)), ⟨S.H ++ [⟨81, [.int .i64 c, .int .i64 a, .iface 78 (.ptr id 0)]⟩], S.T⟩) := by
  have htf := tf27
  have hbd : evBuild Tryz.prog 81 [(0, .int .i64 c), (1, .int .i64 a), (2, .iface 78 (.ptr id 0))] = some (.agg [.int .i64 c, .int .i64 a, .iface 78 (.ptr id 0)]) := by
    simp [evBuild, tp58, tz58, fillA, tl58_0, tl58_1, tl58_2, AV.cells?, wrc]
  have hf : finish S (.iface 78 (.ptr S.H.length 0)) ⟨S.H ++ [⟨81, [.int .i64 c, .int .i64 a, .iface 78 (.ptr id 0)]⟩], S.T⟩ = some (.iface 78 (.ptr S.H.length 0), ⟨S.H ++ [⟨81, [.int .i64 c, .int .i64 a, .iface 78 (.ptr id 0)]⟩], S.T⟩) := by
    unfold finish
    simp [AV.sealed, AV.strip, AV.low]
  rw [ev_enter (n := n) (show E.ok 21 = true from rfl) Tryz.func21 (fn := Tryz.f21) rfl (Nat.le_of_ble_eq_true rfl) (by decide +kernel)]
  simp (disch := first | (simp only [List.length_append, List.length_cons, List.length_nil]; omega) | (simp; done) | assumption) [AV.cells?, AV.isCell, -evBuild, Tryz.f21, esc16, hbd, tf27, tn55, hf, AV.sealed, AV.sealedL, ofC]
end Go.Proofs.YtemggoaefohliaaGreatDoor.PS
/- parse.Expr, evaluated whole. Condition: the world outside is closed. -/
namespace Go.Proofs.YtemggoaefohliaaGreatDoor.PS
set_option linter.unusedVariables false
set_option linter.unusedSimpArgs false
open Go AE EX PT NF LX
set_option maxRecDepth 100000

/-- a fault stands at id, so many in one another -/
def FaultAt (S : St) : Nat → Nat → Int → Int → Prop
  | 0, id, c, p => S.H[id]? = some ⟨81, [.int .i64 c, .int .i64 p, .nilif]⟩
  | d + 1, id, c, p => ∃ id2 c2 p2, S.H[id]? = some ⟨81, [.int .i64 c, .int .i64 p, .iface 78 (.ptr id2 0)]⟩ ∧ FaultAt S d id2 c2 p2
/-- a text's expression; or its first error's code and place, and whether it is in another one -/
noncomputable def exprR (s : List UInt8) : Except (Int × Int × Nat) X :=
  match lexAll s with
  | .error (c, p) => .error (c, p, 0)
  | .ok l => match takeR l with
    | .error (c, p) => .error (c, (hereT l p).p, 1)
    | .ok (x, q) => if (hereT l q).k = 5 then (if chkX x = 0 then .ok x else .error (chkX x, 0, 0)) else .error (16, (hereT l q).p, 0)

theorem fin_hi2 {S S' : St} {id : Nat} (h : S.H.length ≤ id) : finish S (.tup [zX.emb, .iface 78 (.ptr id 0)]) S' = some (.tup [zX.emb, .iface 78 (.ptr id 0)], S') := fin_hi h _ (sealed_emb _)
theorem fin_ok (S : St) (x : X) : finish S (.tup [x.emb, .nilif]) S = some (.tup [x.emb, .nilif], S) :=
  finish_same (by simp [AV.sealed, AV.sealedL, sealed_emb]) (by simp [AV.strip, AV.stripL, strip_emb]) (by simp [AV.low, AV.lowL, low_emb]) rfl rfl

set_option maxHeartbeats 8000000 in
theorem ev_Expr (n : Nat) (S0 : St) (s : List UInt8) (hs : s.length ≤ 1100000) (hw : lowB S0.H.length S0.T.length S0.H = true) (hn : 1200000 ≤ n) :
    (∀ x, exprR s = .ok x → ev Tryz.prog E (n + 1) 7 [.str s] S0 = some (.ret (.tup [x.emb, .nilif]), S0)) ∧
    (∀ c p d, exprR s = .error (c, p, d) → ∃ id S', S0.H.length ≤ id ∧ ev Tryz.prog E (n + 1) 7 [.str s] S0 = some (.ret (.tup [zX.emb, .iface 78 (.ptr id 0)]), S') ∧ FaultAt S' d id c p ∧ Grows S0 S') := by
  have ez : evBuild Tryz.prog 25 [] = some zX.emb := bXz
  have hz25 : zeroQ Tryz.prog 25 = some z6 := by kernel_rfl
  have zc := xcells zX
  have zl := xlen zX
  have zt := xtake zX
  have ze := xemb zX
  have hti := tf27
  have hsz : AV.sealedL z6 = true := rfl
  have l6 := z6_len
  obtain ⟨hA1, hA2⟩ := ev_All (n - 6) S0 s hs (by omega)
  rw [show n - 6 + 6 = n by omega] at hA1 hA2
  cases hL : lexAll s with
  | error e =>
    obtain ⟨c, p⟩ := e
    have hR : exprR s = .error (c, p, 0) := by unfold exprR; rw [hL]
    rw [hR]
    refine ⟨(fun x h => by cases h), fun c' p' d' h => ?_⟩
    cases h
    obtain ⟨id, S', h1, h2, h3, h4⟩ := hA2 c p hL
    refine ⟨id, S', h1, ?_, h3, h4⟩
    have hf := fin_hi2 (S := S0) (S' := S') h1
    generalize zX.cells = zcs at *
    generalize zX.emb = zem at *
    generalize z6 = z at *
    rw [ev_enter (n := n) (show E.ok 7 = true from rfl) Tryz.func7 (fn := Tryz.f7) rfl (Nat.le_of_ble_eq_true rfl) (by decide +kernel)]
    simp (disch := first | (simp only [List.length_append, List.length_cons, List.length_nil]; omega) | (simp; done) | assumption) [AV.cells?, AV.isCell, -AV.cells?, cq_int, cq_nilif, cq_iface, -evBuild, Tryz.f7, E_esc, hz25, h2, ez, zc, zl, zt, ze, l6, hf, c24, a24, k24, i24, ofC]
  | ok l =>
    have hl := hA1 l hL
    obtain ⟨_, more, e1, e2, e3, e4⟩ := lexAll_shape hL
    have hlen : l.length ≤ 4097 := by rw [e1]; simp; have := (lexAll_shape hL).1; omega
    have hT := ev_Take (n - 5) S0 l (by omega) hw (by omega)
    rw [show n - 5 + 5 = n by omega] at hT
    unfold takeAns at hT
    cases hR2 : takeR l with
    | error e =>
      obtain ⟨c, p⟩ := e
      rw [hR2] at hT
      have hR : exprR s = .error (c, (hereT l p).p, 1) := by unfold exprR; rw [hL]; simp only [hR2]
      rw [hR]
      refine ⟨(fun x h => by cases h), fun c' p' d' h => ?_⟩
      cases h
      simp only at hT
      generalize hp : (hereT l p).p = pl at *
      have g : (TSt S0 l zX 0 (.iface 78 (.ptr (S0.H.length + 4) 0)) p [⟨81, [.int .i64 c, .int .i64 pl, .nilif]⟩]).H[S0.H.length + 4]? = some ⟨81, [.int .i64 c, .int .i64 pl, .nilif]⟩ := by
        simp [TSt, TB]
      have hlen2 : (TSt S0 l zX 0 (.iface 78 (.ptr (S0.H.length + 4) 0)) p [⟨81, [.int .i64 c, .int .i64 pl, .nilif]⟩]).H.length = S0.H.length + 5 := by
        simp [TSt, TB]
      generalize hS1 : TSt S0 l zX 0 (.iface 78 (.ptr (S0.H.length + 4) 0)) p [⟨81, [.int .i64 c, .int .i64 pl, .nilif]⟩] = S1 at *
      have hC := ev_Code (n - 2) S1 _ _ _ _ g
      have hP := ev_Place (n - 2) S1 _ _ _ _ g
      rw [show n - 2 + 2 = n by omega] at hC hP
      have hW := ev_Wrap (n - 1) S1 (S0.H.length + 4) c pl
      rw [show n - 1 + 1 = n by omega, hlen2] at hW
      refine ⟨S0.H.length + 5, ⟨S1.H ++ [⟨81, [.int .i64 c, .int .i64 pl, .iface 78 (.ptr (S0.H.length + 4) 0)]⟩], S1.T⟩, by omega, ?_, ⟨S0.H.length + 4, c, pl, ?_, ?_⟩, ?_⟩
      · have hf := fin_hi2 (S := S0) (S' := ⟨S1.H ++ [⟨81, [.int .i64 c, .int .i64 pl, .iface 78 (.ptr (S0.H.length + 4) 0)]⟩], S1.T⟩) (show S0.H.length ≤ S0.H.length + 5 by omega)
        generalize (⟨S1.H ++ [⟨81, [.int .i64 c, .int .i64 pl, .iface 78 (.ptr (S0.H.length + 4) 0)]⟩], S1.T⟩ : St) = S2 at *
        generalize S0.H.length + 4 = i4 at *
        generalize S0.H.length + 5 = i5 at *
        clear hL hR hR2 hA1 hA2 hS1
        generalize tkL l = es at *
        generalize zX.cells = zcs at *
        generalize zX.emb = zem at *
        generalize z6 = z at *
        rw [ev_enter (n := n) (show E.ok 7 = true from rfl) Tryz.func7 (fn := Tryz.f7) rfl (Nat.le_of_ble_eq_true rfl) (by decide +kernel)]
        simp (disch := first | (simp only [List.length_append, List.length_cons, List.length_nil]; omega) | (simp; done) | assumption) [AV.cells?, AV.isCell, -AV.cells?, cq_int, cq_nilif, cq_iface, -evBuild, Tryz.f7, E_esc, hz25, hl, hT, hC, hP, hW, ez, zc, zl, zt, ze, l6, hf, c24, a24, k24, i24, ofC]
      · simp [hlen2]
      · show (S1.H ++ _)[S0.H.length + 4]? = _
        rw [List.getElem?_append_left (by omega)]
        exact g
      · rw [← hS1]
        exact Grows.push ⟨by simp [TSt], by simp [TSt]⟩ _
    | ok r =>
      obtain ⟨x, q⟩ := r
      rw [hR2] at hT
      simp only at hT
      obtain ⟨hq, hb, _⟩ := take_bound hL hR2
      have hx : l[q]? = some l[q] := List.getElem?_eq_getElem hq
      have hh : hereT l q = l[q] := by simp [hereT, hx]
      have hia := ia l .non q _ hx
      have hE : exprR s = (if (hereT l q).k = 5 then (if chkX x = 0 then .ok x else .error (chkX x, 0, 0)) else .error (16, (hereT l q).p, 0)) := by
        unfold exprR; rw [hL]; simp only [hR2]
      rw [hh] at hE
      have xc := xcells x
      have xl := xlen x
      have xt := xtake x
      have xe := xemb x
      have xd : List.drop 6 x.cells = [] := List.drop_eq_nil_of_le (by rw [xl]; omega)
      generalize l[q] = t at *
      obtain ⟨k, ts, tn, tp⟩ := t
      simp only [Tk.cells] at hia hE
      by_cases h5 : k = 5
      · rw [if_pos h5] at hE
        subst h5
        have hK := ev_aCheckC (n - 1) x (by omega) (by omega) S0
        rw [show n - 1 + 1 = n by omega] at hK
        by_cases hc : chkX x = 0
        · rw [if_pos hc] at hE
          rw [hE]
          refine ⟨fun y h => ?_, fun c p d h => by cases h⟩
          cases h
          rw [hc] at hK
          have hf := fin_ok S0 x
          clear hL hE hR2 hA1 hA2 hx hh
          generalize tkL l = es at *
          generalize x.cells = xcs at *
          generalize x.emb = xem at *
          generalize z6 = z at *
          rw [ev_enter (n := n) (show E.ok 7 = true from rfl) Tryz.func7 (fn := Tryz.f7) rfl (Nat.le_of_ble_eq_true rfl) (by decide +kernel)]
          simp (disch := first | (simp only [List.length_append, List.length_cons, List.length_nil]; omega) | (simp; done) | assumption) [AV.cells?, AV.isCell, -AV.cells?, cq_int, cq_nilif, cq_iface, -evBuild, -evIndexAddr, Tryz.f7, E_esc, hz25, hl, hT, hia, hK, ez, xc, xl, xt, xe, xd, l6, hf, c24, a24, k24, i24, tq46_0, tc46, ta46, tk46, bq3, k3, c3, a3, tb30, ofC]
        · rw [if_neg hc] at hE
          rw [hE]
          refine ⟨(fun y h => by cases h), fun c p d h => ?_⟩
          cases h
          generalize chkX x = cc at *
          have hN := ev_New (n - 1) cc 0 S0
          rw [show n - 1 + 1 = n by omega] at hN
          have hf := fin_hi2 (S := S0) (S' := ⟨S0.H ++ [⟨81, [.int .i64 cc, .int .i64 0, .nilif]⟩], S0.T⟩) (Nat.le_refl _)
          refine ⟨S0.H.length, ⟨S0.H ++ [⟨81, [.int .i64 cc, .int .i64 0, .nilif]⟩], S0.T⟩, Nat.le_refl _, ?_, by simp [FaultAt], ⟨by simp, by simp⟩⟩
          generalize (⟨S0.H ++ [⟨81, [.int .i64 cc, .int .i64 0, .nilif]⟩], S0.T⟩ : St) = S2 at *
          clear hL hE hR2 hA1 hA2 hx hh
          generalize tkL l = es at *
          generalize x.cells = xcs at *
          generalize x.emb = xem at *
          generalize zX.cells = zcs at *
          generalize zX.emb = zem at *
          generalize z6 = z at *
          rw [ev_enter (n := n) (show E.ok 7 = true from rfl) Tryz.func7 (fn := Tryz.f7) rfl (Nat.le_of_ble_eq_true rfl) (by decide +kernel)]
          simp (disch := first | (simp only [List.length_append, List.length_cons, List.length_nil]; omega) | (simp; done) | assumption) [AV.cells?, AV.isCell, -AV.cells?, cq_int, cq_nilif, cq_iface, -evBuild, -evIndexAddr, Tryz.f7, E_esc, hz25, hl, hT, hia, hK, hc, hN, ez, zc, zl, zt, ze, xc, xl, xt, xe, xd, l6, hf, c24, a24, k24, i24, tq46_0, tc46, ta46, tk46, bq3, k3, c3, a3, tb30, ofC]
      · rw [if_neg h5] at hE
        rw [hE]
        refine ⟨(fun y h => by cases h), fun c p d h => ?_⟩
        cases h
        have hN := ev_New (n - 1) 16 tp S0
        rw [show n - 1 + 1 = n by omega] at hN
        have hf := fin_hi2 (S := S0) (S' := ⟨S0.H ++ [⟨81, [.int .i64 16, .int .i64 tp, .nilif]⟩], S0.T⟩) (Nat.le_refl _)
        refine ⟨S0.H.length, ⟨S0.H ++ [⟨81, [.int .i64 16, .int .i64 tp, .nilif]⟩], S0.T⟩, Nat.le_refl _, ?_, by simp [FaultAt], ⟨by simp, by simp⟩⟩
        generalize (⟨S0.H ++ [⟨81, [.int .i64 16, .int .i64 tp, .nilif]⟩], S0.T⟩ : St) = S2 at *
        clear hL hE hR2 hA1 hA2 hx hh
        generalize tkL l = es at *
        generalize x.cells = xcs at *
        generalize x.emb = xem at *
        generalize zX.cells = zcs at *
        generalize zX.emb = zem at *
        generalize z6 = z at *
        rw [ev_enter (n := n) (show E.ok 7 = true from rfl) Tryz.func7 (fn := Tryz.f7) rfl (Nat.le_of_ble_eq_true rfl) (by decide +kernel)]
        simp (disch := first | (simp only [List.length_append, List.length_cons, List.length_nil]; omega) | (simp; done) | assumption) [AV.cells?, AV.isCell, -AV.cells?, cq_int, cq_nilif, cq_iface, -evBuild, -evIndexAddr, Tryz.f7, E_esc, hz25, hl, hT, hia, h5, hN, ez, zc, zl, zt, ze, xc, xl, xt, xe, xd, l6, hf, c24, a24, k24, i24, tq46_0, tq46_3, tc46, ta46, tk46, bq3, k3, c3, a3, ofC]
end Go.Proofs.YtemggoaefohliaaGreatDoor.PS
/- The reference's parser: does a word stand here; an error there, evaluated. No condition. -/
namespace Go.Proofs.YtemggoaefohliaaGreatDoor.RP
set_option linter.unusedVariables false
set_option linter.unusedSimpArgs false
open Go AE EX PT NF LX PS
set_option maxRecDepth 100000

theorem wc : Tryz.prog.cellsOf 60 = 4 := by kernel_rfl
theorem wa : aggQ Tryz.prog 60 = true := by kernel_rfl
theorem wk : knownQ Tryz.prog 60 = true := by kernel_rfl
theorem wi : (Tryz.prog.info? 60).isSome = true := by kernel_rfl
theorem wz : zeroQ Tryz.prog 60 = some [.int .i64 0, .str [], .int .i64 0, .int .i64 0] := by kernel_rfl
theorem wp : partsQ Tryz.prog 60 = true := by kernel_rfl
theorem wq0 : fieldQ Tryz.prog 60 0 = some (0, 1, false) := by kernel_rfl
theorem wq1 : fieldQ Tryz.prog 60 1 = some (1, 1, false) := by kernel_rfl
theorem wq2 : fieldQ Tryz.prog 60 2 = some (2, 1, false) := by kernel_rfl
theorem wq3 : fieldQ Tryz.prog 60 3 = some (3, 1, false) := by kernel_rfl
theorem wl0 : placeQ Tryz.prog 60 0 = some (0, 1) := by kernel_rfl
theorem wl1 : placeQ Tryz.prog 60 1 = some (1, 1) := by kernel_rfl
theorem wl2 : placeQ Tryz.prog 60 2 = some (2, 1) := by kernel_rfl
theorem wl3 : placeQ Tryz.prog 60 3 = some (3, 1) := by kernel_rfl
theorem ws : sliceQ Tryz.prog 41 = some 60 := by kernel_rfl
theorem wu : Tryz.prog.underlying 41 = some (.slice 60) := by kernel_rfl
theorem wy : Tryz.prog.bytesOf 60 = 40 := by kernel_rfl
theorem wzs : zeroQ Tryz.prog 41 = some [.slice [] .clip] := by kernel_rfl
theorem fc : Tryz.prog.cellsOf 31 = 3 := by kernel_rfl
theorem fa : aggQ Tryz.prog 31 = true := by kernel_rfl
theorem fk : knownQ Tryz.prog 31 = true := by kernel_rfl
theorem fi : (Tryz.prog.info? 31).isSome = true := by kernel_rfl
theorem fz0 : zeroQ Tryz.prog 31 = some [.int .i64 0, .int .i64 0, .int .i64 0] := by kernel_rfl
theorem fp0 : partsQ Tryz.prog 31 = true := by kernel_rfl
theorem fq0' : fieldQ Tryz.prog 31 0 = some (0, 1, false) := by kernel_rfl
theorem fq1' : fieldQ Tryz.prog 31 1 = some (1, 1, false) := by kernel_rfl
theorem fq2' : fieldQ Tryz.prog 31 2 = some (2, 1, false) := by kernel_rfl
theorem fl0' : placeQ Tryz.prog 31 0 = some (0, 1) := by kernel_rfl
theorem fl1' : placeQ Tryz.prog 31 1 = some (1, 1) := by kernel_rfl
theorem fl2' : placeQ Tryz.prog 31 2 = some (2, 1) := by kernel_rfl
theorem bq5 : boolQ Tryz.prog 5 = false := by kernel_rfl

def fzL : List AV := [.int .i64 0, .int .i64 0, .int .i64 0]
def fEL (c p : Int) : List AV := [.int .i64 c, .int .i64 p, .int .i64 1]
/-- what a function of the reference hands back -/
def ansA (l : List Tk) : PR X → AV
  | .ok (x, q) => .tup [x.emb, .int .i64 q, .agg fzL]
  | .error (c, p) => .tup [zX.emb, .int .i64 0, .agg (fEL c (hereT l p).p)]
theorem ansA_ok (l : List Tk) (x : X) (q : Nat) : ansA l (.ok (x, q)) = .tup [x.emb, .int .i64 q, .agg fzL] := rfl
theorem ansA_err (l : List Tk) (c : Int) (p : Nat) : ansA l (.error (c, p)) = .tup [zX.emb, .int .i64 0, .agg (fEL c (hereT l p).p)] := rfl
theorem fin_ans (l : List Tk) (r : PR X) (S : St) : finish S (ansA l r) S = some (ansA l r, S) := by
  match r with
  | .ok (x, q) => exact finish_same (by simp [ansA, fzL, AV.sealed, AV.sealedL, sealed_emb]) (by simp [ansA, fzL, AV.strip, AV.stripL, strip_emb]) (by simp [ansA, fzL, AV.low, AV.lowL, low_emb]) rfl rfl
  | .error (c, p) => exact finish_same (by simp [ansA, fEL, AV.sealed, AV.sealedL, sealed_emb]) (by simp [ansA, fEL, AV.strip, AV.stripL, strip_emb]) (by simp [ansA, fEL, AV.low, AV.lowL, low_emb]) rfl rfl
theorem iw (l : List Tk) (k : Tok) (i : Nat) (t : Tk) (h : l[i]? = some t) : evIndexAddr Tryz.prog 41 (.slice (tkL l) k) (.int .i64 (i : Int)) = some (.ref t.cells) := by
  have hc := tkcells t
  have hi : (Tryz.prog.info? 60).isSome = true := wi
  simp [evIndexAddr, ws, nth, sl_get, h, hc, wc, tk_len]
  exact Option.isSome_iff_ne_none.1 hi

theorem of_isB {l : List Tk} {p : Nat} (h : l.length ≤ p) (q : List UInt8) : isB (hereT l) p q = false := by
  have hk : (hereT l p).k = 5 := by
    have hn : l[p]? = none := List.getElem?_eq_none h
    simp only [hereT, hn]
    split <;> rfl
  have := kindOf_ne q
  have h5 : ((5 : Int) == kindOf q) = false := by simp [Ne.symm this]
  simp only [isB, hk, h5, Bool.false_and]

theorem ev_rIs (n : Nat) (l : List Tk) (k : Tok) (p : Nat) (c : UInt8) (q : List UInt8) (S : St) :
    ev Tryz.prog E (n + 1) 89 [.slice (tkL l) k, .int .i64 (p : Int), .str (c :: q)] S = some (.ret (.bool (isB (hereT l) p (c :: q))), S) := by
  have hlen := tkL_length l
  have hidx : evIndex Tryz.prog 9 (.str (c :: q)) (.int .i64 0) = some (.int .u8 (c.toNat : Int)) := by simp [evIndex, sq9]
  have hk : kindOf (c :: q) = if (97 ≤ c.toNat ∧ c.toNat ≤ 122) then 1 else 4 := rfl
  rw [ev_enter (n := n) (show E.ok 89 = true from rfl) Tryz.func89 (fn := Tryz.f89) rfl (Nat.le_of_ble_eq_true rfl) (by decide +kernel)]
  by_cases hp : p < l.length
  · have hpz : ¬ (p : Int) ≥ l.length := by omega
    have hpz' : ¬ (l.length : Int) ≤ p := by omega
    have hx : l[p]? = some l[p] := List.getElem?_eq_getElem hp
    have hia := iw l k p _ hx
    have hh : hereT l p = l[p] := by simp [hereT, hx]
    unfold isB
    rw [hh, hk]
    generalize l[p] = t at *
    obtain ⟨tk, ts, tn, tp⟩ := t
    simp only [Tk.cells] at hia
    generalize hes : tkL l = es at *
    generalize hw : c :: q = w at *
    by_cases h0 : ts = w
    · have h0b : (ts == w) = true := by simp [h0]
      subst h0
      by_cases h1 : 97 ≤ c.toNat
      · have h1z : (97 : Int) ≤ c.toNat := by omega
        by_cases h2 : c.toNat ≤ 122
        · have h2z : (c.toNat : Int) ≤ 122 := by omega
          simp (disch := first | (simp only [List.length_append, List.length_cons, List.length_nil]; omega) | (simp; done) | assumption) [AV.cells?, AV.isCell, -evIndex, -evIndexAddr, Tryz.f89, E_esc, hlen, hp, hpz, hpz', hia, hidx, wq0, wq1, wk, wa, wc, k3, c3, a3, k9, c9, a9, ws, bq3, bq9, bq5, h1, h1z, h2, h2z]
        · have h2z : ¬ (c.toNat : Int) ≤ 122 := by omega
          simp (disch := first | (simp only [List.length_append, List.length_cons, List.length_nil]; omega) | (simp; done) | assumption) [AV.cells?, AV.isCell, -evIndex, -evIndexAddr, Tryz.f89, E_esc, hlen, hp, hpz, hpz', hia, hidx, wq0, wq1, wk, wa, wc, k3, c3, a3, k9, c9, a9, ws, bq3, bq9, bq5, h1, h1z, h2, h2z]
      · have h1z : ¬ (97 : Int) ≤ c.toNat := by omega
        simp (disch := first | (simp only [List.length_append, List.length_cons, List.length_nil]; omega) | (simp; done) | assumption) [AV.cells?, AV.isCell, -evIndex, -evIndexAddr, Tryz.f89, E_esc, hlen, hp, hpz, hpz', hia, hidx, wq0, wq1, wk, wa, wc, k3, c3, a3, k9, c9, a9, ws, bq3, bq9, bq5, h1, h1z]
    · have h0b : (ts == w) = false := by simp [h0]
      simp (disch := first | (simp only [List.length_append, List.length_cons, List.length_nil]; omega) | (simp; done) | assumption) [AV.cells?, AV.isCell, -evIndex, -evIndexAddr, Tryz.f89, E_esc, hlen, hp, hpz, hpz', hia, hidx, wq0, wq1, wk, wa, wc, k3, c3, a3, k9, c9, a9, ws, bq3, bq9, bq5, h0, h0b]
  · have hpz : (p : Int) ≥ l.length := by omega
    have hpz' : (l.length : Int) ≤ p := by omega
    rw [of_isB (by omega)]
    generalize hes : tkL l = es at *
    simp (disch := first | (simp only [List.length_append, List.length_cons, List.length_nil]; omega) | (simp; done) | assumption) [AV.cells?, AV.isCell, -evIndex, -evIndexAddr, Tryz.f89, E_esc, hlen, hp, hpz, hpz', ws, bq3]
theorem ev_rof (n : Nat) (l : List Tk) (k : Tok) (p : Nat) (kd : Int) (hkd : kd ≠ 5) (S : St) :
    ev Tryz.prog E (n + 1) 88 [.slice (tkL l) k, .int .i64 (p : Int), .int .i64 kd] S = some (.ret (.bool ((hereT l p).k == kd)), S) := by
  have hlen := tkL_length l
  rw [ev_enter (n := n) (show E.ok 88 = true from rfl) Tryz.func88 (fn := Tryz.f88) rfl (Nat.le_of_ble_eq_true rfl) (by decide +kernel)]
  by_cases hp : p < l.length
  · have hpz : (p : Int) < l.length := by omega
    have hx : l[p]? = some l[p] := List.getElem?_eq_getElem hp
    have hia := iw l k p _ hx
    have hh : hereT l p = l[p] := by simp [hereT, hx]
    rw [hh]
    generalize l[p] = t at *
    obtain ⟨tk, ts, tn, tp⟩ := t
    simp only [Tk.cells] at hia
    generalize hes : tkL l = es at *
    simp (disch := first | (simp only [List.length_append, List.length_cons, List.length_nil]; omega) | (simp; done) | assumption) [AV.cells?, AV.isCell, -evIndexAddr, Tryz.f88, E_esc, hlen, hp, hpz, hia, wq0, wk, wa, wc, k3, c3, a3, ws, bq3]
  · have hpz : ¬ (p : Int) < l.length := by omega
    have hk : (hereT l p).k = 5 := by
      have hn : l[p]? = none := List.getElem?_eq_none (by omega)
      simp only [hereT, hn]
      split <;> rfl
    have h5 : ((5 : Int) == kd) = false := by simp [Ne.symm hkd]
    rw [hk, h5]
    generalize hes : tkL l = es at *
    simp (disch := first | (simp only [List.length_append, List.length_cons, List.length_nil]; omega) | (simp; done) | assumption) [AV.cells?, AV.isCell, -evIndexAddr, Tryz.f88, E_esc, hlen, hp, hpz, ws, bq3]
theorem bF (c p d : Int) : evBuild Tryz.prog 31 [(0, .int .i64 c), (1, .int .i64 p), (2, .int .i64 d)] = some (.agg [.int .i64 c, .int .i64 p, .int .i64 d]) := by
  simp [evBuild, fp0, fz0, fillA, fl0', fl1', fl2', AV.cells?, wrc]
theorem bFz : evBuild Tryz.prog 31 [] = some (.agg fzL) := by
  simp [evBuild, fp0, fz0, fillA, fzL]
set_option maxHeartbeats 4000000 in
theorem ev_rfail (n : Nat) (l : List Tk) (k : Tok) (p : Nat) (c : Int) (S : St) (hl : l.length ≤ 2000000) :
    ev Tryz.prog E (n + 1) 87 [.slice (tkL l) k, .int .i64 (p : Int), .int .i64 c] S = some (.ret (ansA l (.error (c, p))), S) := by
  have hlen := tkL_length l
  have hf := fin_ans l (.error (c, p)) S
  rw [ansA_err] at hf ⊢
  have ez : evBuild Tryz.prog 25 [] = some zX.emb := bXz
  have zc := xcells zX
  have zl := xlen zX
  have zt := xtake zX
  have ze := xemb zX
  have zd : List.drop 6 zX.cells = [] := rfl
  have hb := fun p => bF c p 1
  have hz25 : zeroQ Tryz.prog 25 = some z6 := by kernel_rfl
  have l6 := z6_len
  have zzd : List.drop 6 z6 = [] := rfl
  rw [ev_enter (n := n) (show E.ok 87 = true from rfl) Tryz.func87 (fn := Tryz.f87) rfl (Nat.le_of_ble_eq_true rfl) (by decide +kernel)]
  by_cases hp : p < l.length
  · have hpz : (p : Int) < l.length := by omega
    have hx : l[p]? = some l[p] := List.getElem?_eq_getElem hp
    have hia := iw l k p _ hx
    have hh : hereT l p = l[p] := by simp [hereT, hx]
    rw [hh] at hf ⊢
    generalize l[p] = t at *
    obtain ⟨tk, ts, tn, tp⟩ := t
    simp only [Tk.cells, fEL] at hia hf ⊢
    generalize zX.cells = zcs at *
    generalize zX.emb = zem at *
    generalize z6 = z at *
    generalize hes : tkL l = es at *
    simp (disch := first | (simp only [List.length_append, List.length_cons, List.length_nil]; omega) | (simp; done) | assumption) [AV.cells?, AV.isCell, -AV.cells?, cq_int, cq_agg, -evBuild, -evIndexAddr, Tryz.f87, E_esc, hz25, hlen, hp, hpz, hia, ez, zc, zl, zt, ze, zd, l6, zzd, List.append_nil, hb, fz0, fc, fa, fk, fi, wq3, wk, wa, wc, k3, c3, a3, c24, a24, k24, i24, ws, bq3, hf]
  · have hpz : ¬ (p : Int) < l.length := by omega
    have hn : l[p]? = none := List.getElem?_eq_none (by omega)
    cases hl0 : l.getLast? with
    | none =>
      have h0 : l = [] := by simpa using hl0
      subst h0
      have hh : hereT [] p = ⟨5, [], 0, 0⟩ := rfl
      rw [hh] at hf ⊢
      simp only [fEL] at hf ⊢
      have hnp : ¬ (p : Int) < 0 := by omega
      generalize zX.cells = zcs at *
      generalize zX.emb = zem at *
      generalize z6 = z at *
      simp (disch := first | (simp only [List.length_append, List.length_cons, List.length_nil]; omega) | (simp; done) | assumption) [AV.cells?, AV.isCell, -AV.cells?, cq_int, cq_agg, -evBuild, -evIndexAddr, Tryz.f87, E_esc, tkL, hz25, hnp, ez, zc, zl, zt, ze, zd, l6, zzd, List.append_nil, hb, fz0, fc, fa, fk, fi, wq3, wk, wa, wc, k3, c3, a3, c24, a24, k24, i24, ws, bq3, hf]
    | some t =>
      have hpos : 0 < l.length := by
        cases l with
        | nil => simp at hl0
        | cons => simp
      have hposz : (0 : Int) < l.length := by omega
      have hx : l[l.length - 1]? = some t := by rw [← List.getLast?_eq_getElem?]; exact hl0
      have hia := iw l k (l.length - 1) t hx
      have hw : IntKind.i64.wrap ((l.length : Int) - 1) = ((l.length - 1 : Nat) : Int) := by rw [wrap64 _ (by omega)]; omega
      have hh : hereT l p = ⟨5, [], 0, t.p⟩ := by simp [hereT, hn, hl0]
      rw [hh] at hf ⊢
      obtain ⟨tk, ts, tn, tp⟩ := t
      simp only [Tk.cells, fEL] at hia hf ⊢
      generalize zX.cells = zcs at *
      generalize zX.emb = zem at *
      generalize z6 = z at *
      generalize tkL l = es at *
      generalize l.length - 1 = lm at *
      generalize l.length = ll at *
      simp (disch := first | (simp only [List.length_append, List.length_cons, List.length_nil]; omega) | (simp; done) | assumption) [AV.cells?, AV.isCell, -AV.cells?, cq_int, cq_agg, -evBuild, -evIndexAddr, Tryz.f87, E_esc, hz25, hlen, hp, hpz, hpos, hposz, hw, hia, ez, zc, zl, zt, ze, zd, l6, zzd, List.append_nil, hb, fz0, fc, fa, fk, fi, wq3, wk, wa, wc, k3, c3, a3, c24, a24, k24, i24, ws, bq3, hf]
end Go.Proofs.YtemggoaefohliaaGreatDoor.RP
