/- Joined: RpK, RpL, RpM, RpN, PuA, DqP, RpO, LrA, LrB, LrC, LrD, LrE, LrF, LrG, CkA, CkB, CkC. No condition beyond those of its lemmas. -/
import Derived.Test.YtemggoaefohliaaGreatDoorTlG
import Derived.Test.YtemggoaefohliaaGreatDoorTlD
import Derived.Test.YtemggoaefohliaaGreatDoorTlF
/- The reference's parser: level rounds, evaluated (printed by genrp.py). No condition. -/
namespace Go.Proofs.YtemggoaefohliaaGreatDoor.RP
set_option linter.unusedVariables false
set_option linter.unusedSimpArgs false
open Go AE EX PT NF LX PS
set_option maxRecDepth 100000
/-- the rounds at a level -/
def lvF (h : Nat → Tk) (v : Nat) (sub : Nat → PR X) : Nat → X → Nat → PR X
  | 0, e, p => .error (0, p)
  | f + 1, e, p => if opK h v p = 0 then .ok (e, p) else (sub (p + 1)).th fun x r => if v = 2 then .ok (joinK (opK h v p) e x, r) else lvF h v sub f (joinK (opK h v p) e x) r
theorem opAt_lt {l : List Tk} {p : Nat} : ∀ (ops : List (List UInt8 × Int)) (k : Int), opAt (hereT l) p ops = some k → p < l.length
  | [], k, h => by cases h
  | (q, k') :: r, k, h => by
    unfold opAt at h
    split at h
    · rename_i hb
      exact is_lt hb
    · exact opAt_lt r k h
theorem opK_lt {l : List Tk} {v p : Nat} (h : opK (hereT l) v p ≠ 0) : p < l.length := by
  unfold opK at h
  split at h
  · unfold relK at h
    repeat' split at h
    all_goals first | exact is_lt ‹_› | exact absurd rfl h
  · split at h
    · rename_i hh
      exact opAt_lt _ _ hh
    · exact absurd rfl h
noncomputable def lpL : Code := cutC (bodyOf Tryz.f28) [1, 1, 1, 1, 0, 0]
noncomputable def a0L : Code := cutC (bodyOf Tryz.f28) [0]
noncomputable def a1L : Code := cutC (bodyOf Tryz.f28) [1, 0]
noncomputable def a2L : Code := cutC (bodyOf Tryz.f28) [1, 1, 0]
noncomputable def a3L : Code := cutC (bodyOf Tryz.f28) [1, 1, 1, 0]
theorem fbL : Tryz.f28.body = some (.seq a0L (.seq a1L (.seq a2L (.seq a3L (.block 0 (.loop lpL)))))) := rfl
def LI (l : List Tk) (k : Tok) (n v d : Nat) (sub : Nat → PR X) (S : St) (R : PR X) (m : Nat) (fs : FS) : Prop :=
  ∃ e r f c8 c10 c11, c8 ≠ 0 ∧ c10 ≠ 0 ∧ c11 ≠ 0 ∧ m = l.length - r ∧ r ≤ l.length ∧ fs.t 0 = .slice (tkL l) k ∧ fs.t 2 = .int .i64 (v : Int) ∧ fs.t 3 = .int .i64 (d : Int) ∧ fs.t 8 = .loc n 8 c8 0 ∧ fs.t 10 = .loc n 10 c10 0 ∧ fs.t 11 = .loc n 11 c11 0 ∧ fs.t 12 = .int .i64 (r : Int) ∧ fs.b 8 = (c8, z6) ∧ fs.b 10 = (c10, fzL) ∧ fs.b 11 = (c11, X.cells e) ∧ fs.S = S ∧ m < f ∧ lvF (hereT l) v sub f e r = R
def LQ (l : List Tk) (n : Nat) (S : St) (R : PR X) (r : Out × FS) : Prop :=
  r.1 = .ret ∧
  ((∃ x q c8 c10, c8 ≠ 0 ∧ c10 ≠ 0 ∧ q ≤ l.length ∧ r.2.t 8 = .loc n 8 c8 0 ∧ r.2.t 9 = .int .i64 ((q : Nat) : Int) ∧ r.2.t 10 = .loc n 10 c10 0 ∧ r.2.b 8 = (c8, X.cells x) ∧ r.2.b 10 = (c10, fzL) ∧ r.2.S = S ∧ R = .ok (x, q)) ∨
  (∃ c q c8 c10, c8 ≠ 0 ∧ c10 ≠ 0 ∧ c ≠ 0 ∧ r.2.t 8 = .loc n 8 c8 0 ∧ r.2.t 9 = .int .i64 0 ∧ r.2.t 10 = .loc n 10 c10 0 ∧ r.2.b 8 = (c8, zX.cells) ∧ r.2.b 10 = (c10, fEL c (hereT l q).p) ∧ r.2.S = S ∧ R = .error (c, q)))
section
variable {l : List Tk} {k : Tok} (hl : l.length ≤ 2000000)
include hl
set_option maxHeartbeats 16000000 in
theorem rdL (n v d : Nat) (hv : v < 5) (sub : Nat → PR X) (hm : Mono sub) (hs : RSub l k (n + 3) 28 [.int .i64 ((v + 1 : Nat) : Int), .int .i64 (d : Int)] sub) (S : St) (R : PR X) (m : Nat) (fs : FS) (h : LI l k (n + 3) v d sub S R m fs) :
    ∃ o fs', evCode ⟨Tryz.prog, E.esc 28, n + 3⟩ (ev Tryz.prog E (n + 3)) (E.ps 28) (n + 3) lpL fs = some (o, fs') ∧ ((o = .norm ∧ ∃ m', m' < m ∧ LI l k (n + 3) v d sub S R m' fs') ∨ (o ≠ .norm ∧ LQ l (n + 3) S R (o, fs'))) := by
  obtain ⟨t, b, c, S'⟩ := fs
  obtain ⟨e, r, f, c8, c10, c11, n8, n10, n11, hmr, hr, t0, t2, t3, t8, t10, t11, t12, b8, b10, b11, hS, hmf, hR⟩ := h
  simp only at t0 t2 t3 t8 t10 t11 t12 b8 b10 b11 hS
  subst hS
  obtain ⟨f, rfl⟩ : ∃ g, f = g + 1 := ⟨f - 1, by omega⟩
  have hz25 : zeroQ Tryz.prog 25 = some z6 := by kernel_rfl
  have l6 := z6_len
  have zzd : List.drop 6 z6 = [] := rfl
  have ez : evBuild Tryz.prog 25 [] = some zX.emb := bXz
  have zc := xcells zX
  have zl := xlen zX
  have zt := xtake zX
  have ze := xemb zX
  have zd : List.drop 6 zX.cells = [] := rfl
  have ef := bFz
  have wr : ∀ a : Nat, a ≤ 3000000 → ∀ b : Nat, b ≤ 10 → IntKind.i64.wrap ((a : Int) + (b : Int)) = ((a + b : Nat) : Int) := fun a ha b hb => by rw [wrap64 _ (by omega)]; omega
  have hwr : IntKind.i64.wrap ((r : Int) + 1) = ((r + 1 : Nat) : Int) := wr r (by omega) 1 (by omega)
  have hwv : IntKind.i64.wrap ((v : Int) + 1) = ((v + 1 : Nat) : Int) := wr v (by omega) 1 (by omega)
  simp only [fzL] at b10 ef
  have hop := ev_rop n l k r v hv S'
  have ecc := xcells e
  have ell := xlen e
  have ett := xtake e
  have eem := xemb e
  have edd : List.drop 6 e.cells = [] := List.drop_eq_nil_of_le (by rw [ell]; omega)
  rw [lvF] at hR
  by_cases hk : opK (hereT l) v r = 0
  · rw [if_pos hk] at hR
    rw [hk] at hop
    generalize hzcs : zX.cells = zcs at *
    generalize hzem : zX.emb = zem at *
    generalize hz : z6 = z at *
    generalize hes : tkL l = es at *
    generalize hee : e.cells = ecs at *
    generalize e.emb = eem at *
    refine ⟨.ret, _, by
      simp (disch := first | (simp only [List.length_append, List.length_cons, List.length_nil]; omega) | (simp; done) | assumption) [AV.cells?, AV.isCell, -AV.cells?, cq_int, cq_agg, cq_slice, cq_str, -evBuild, -evBuildSlice, -evIndexAddr, lpL, a0L, a1L, a2L, a3L, cutC, bodyOf, Tryz.f28, E_esc, hz25, ez, zc, zl, zt, ze, zd, l6, zzd, List.append_nil, ef, fz0, fc, fa, fk, fi, fq0', k3, c3, a3, i3, c24, a24, k24, i24, bq3, t0, t2, t3, t8, t10, t11, t12, b8, b10, b11, n8, n10, n11, ecc, ell, ett, eem, edd, hop, hk, hwr, hwv]
      rfl, .inr ⟨by simp, rfl, .inl ⟨e, r, c8, c10, n8, n10, by omega, by simp [upd, putA, t8], by simp [upd, putA], by simp [upd, putA, t10], by simp [upd, b8, hee], by simp [upd, fzL], rfl, hR.symm⟩⟩⟩
  · rw [if_neg hk] at hR
    have hlt := opK_lt hk
    have hj := fun x => ev_rjoin (n + 1) (opK (hereT l) v r) e x S'
    obtain ⟨h1, h2, h3⟩ := hs (r + 1) S' (by omega)
    generalize opK (hereT l) v r = kk at *
    cases hq : sub (r + 1) with
    | error z =>
      obtain ⟨c', q⟩ := z
      rw [hq] at h1 h2 h3 hR
      rw [th_err] at hR
      have hc0 : c' ≠ 0 := h1 c' q rfl
      rw [ansA_err] at h3
      simp only [fEL] at h3
      clear h1 h2 hj
      generalize hpl : (hereT l q).p = pl at *
      generalize hzcs : zX.cells = zcs at *
      generalize hzem : zX.emb = zem at *
      generalize hz : z6 = z at *
      generalize hes : tkL l = es at *
      generalize hee : e.cells = ecs at *
      generalize e.emb = eem at *
      generalize r + 1 = R1 at *
      generalize v + 1 = V1 at *
      refine ⟨.ret, _, by
        simp (disch := first | (simp only [List.length_append, List.length_cons, List.length_nil]; omega) | (simp; done) | assumption) [AV.cells?, AV.isCell, -AV.cells?, cq_int, cq_agg, cq_slice, cq_str, -evBuild, -evBuildSlice, -evIndexAddr, lpL, a0L, a1L, a2L, a3L, cutC, bodyOf, Tryz.f28, E_esc, hz25, ez, zc, zl, zt, ze, zd, l6, zzd, List.append_nil, ef, fz0, fc, fa, fk, fi, fq0', k3, c3, a3, i3, c24, a24, k24, i24, bq3, t0, t2, t3, t8, t10, t11, t12, b8, b10, b11, n8, n10, n11, ecc, ell, ett, eem, edd, hop, hk, hwr, hwv, h3, hc0]
        rfl, .inr ⟨by simp, rfl, .inr ⟨c', q, c8, c10, n8, n10, hc0, by simp [upd, putA, t8], by simp [upd, putA], by simp [upd, putA, t10], by simp [upd, b8, hzcs], by simp [upd, fEL, hpl], rfl, hR.symm⟩⟩⟩
    | ok z =>
      obtain ⟨x, q⟩ := z
      have hmq := hm _ _ _ hq
      rw [hq] at h1 h2 h3 hR
      rw [th_ok] at hR
      have hqb := h2 x q rfl
      rw [ansA_ok] at h3
      simp only [fzL] at h3
      have hj := hj x
      clear h1 h2
      have xcc := xcells x
      have xll := xlen x
      have xtt := xtake x
      have xem := xemb x
      have xdd : List.drop 6 x.cells = [] := List.drop_eq_nil_of_le (by rw [xll]; omega)
      have ycc := xcells (joinK kk e x)
      have yll := xlen (joinK kk e x)
      have ytt := xtake (joinK kk e x)
      have yem := xemb (joinK kk e x)
      have ydd : List.drop 6 (joinK kk e x).cells = [] := List.drop_eq_nil_of_le (by rw [yll]; omega)
      generalize joinK kk e x = y at *
      by_cases hv2 : v = 2
      · rw [if_pos hv2] at hR
        have hv2z : ((v : Int) = 2) ↔ True := ⟨fun _ => trivial, fun _ => by omega⟩
        generalize hzcs : zX.cells = zcs at *
        generalize hzem : zX.emb = zem at *
        generalize hz : z6 = z at *
        generalize hes : tkL l = es at *
        generalize hee : e.cells = ecs at *
        generalize e.emb = eem at *
        generalize x.cells = xcs at *
        generalize x.emb = xem' at *
        generalize hyy : y.cells = ycs at *
        generalize y.emb = yem' at *
        generalize r + 1 = R1 at *
        generalize v + 1 = V1 at *
        refine ⟨.ret, _, by
          simp (disch := first | (simp only [List.length_append, List.length_cons, List.length_nil]; omega) | (simp; done) | assumption) [AV.cells?, AV.isCell, -AV.cells?, cq_int, cq_agg, cq_slice, cq_str, -evBuild, -evBuildSlice, -evIndexAddr, lpL, a0L, a1L, a2L, a3L, cutC, bodyOf, Tryz.f28, E_esc, hz25, ez, zc, zl, zt, ze, zd, l6, zzd, List.append_nil, ef, fz0, fc, fa, fk, fi, fq0', k3, c3, a3, i3, c24, a24, k24, i24, bq3, t0, t2, t3, t8, t10, t11, t12, b8, b10, b11, n8, n10, n11, ecc, ell, ett, eem, edd, hop, hk, hwr, hwv, h3, hj, hv2z, xcc, xll, xtt, xem, xdd, ycc, yll, ytt, yem, ydd]
          rfl, .inr ⟨by simp, rfl, .inl ⟨y, q, c8, c10, n8, n10, by omega, by simp [upd, putA, t8], by simp [upd, putA], by simp [upd, putA, t10], by simp [upd, b8, hyy], by simp [upd, fzL], rfl, hR.symm⟩⟩⟩
      · rw [if_neg hv2] at hR
        have hv2z : ¬ (v : Int) = 2 := by omega
        generalize hzcs : zX.cells = zcs at *
        generalize hzem : zX.emb = zem at *
        generalize hz : z6 = z at *
        generalize hes : tkL l = es at *
        generalize hee : e.cells = ecs at *
        generalize e.emb = eem at *
        generalize x.cells = xcs at *
        generalize x.emb = xem' at *
        generalize hyy : y.cells = ycs at *
        generalize y.emb = yem' at *
        generalize hR1 : r + 1 = R1 at *
        generalize v + 1 = V1 at *
        refine ⟨.norm, _, by
          simp (disch := first | (simp only [List.length_append, List.length_cons, List.length_nil]; omega) | (simp; done) | assumption) [AV.cells?, AV.isCell, -AV.cells?, cq_int, cq_agg, cq_slice, cq_str, -evBuild, -evBuildSlice, -evIndexAddr, lpL, a0L, a1L, a2L, a3L, cutC, bodyOf, Tryz.f28, E_esc, hz25, ez, zc, zl, zt, ze, zd, l6, zzd, List.append_nil, ef, fz0, fc, fa, fk, fi, fq0', k3, c3, a3, i3, c24, a24, k24, i24, bq3, t0, t2, t3, t8, t10, t11, t12, b8, b10, b11, n8, n10, n11, ecc, ell, ett, eem, edd, hop, hk, hwr, hwv, h3, hj, hv2z, xcc, xll, xtt, xem, xdd, ycc, yll, ytt, yem, ydd]
          rfl, .inl ⟨rfl, l.length - q, by omega, y, q, f, c8, c10, c11, n8, n10, n11, rfl, hqb, by simp [upd, putA, t0, hes], by simp [upd, putA, t2], by simp [upd, putA, t3], by simp [upd, putA, t8], by simp [upd, putA, t10], by simp [upd, putA, t11], by simp [upd, putA], by simp [upd, b8, hz], by simp [upd, b10, fzL], by simp [upd, hyy], rfl, by omega, hR⟩⟩
end
end Go.Proofs.YtemggoaefohliaaGreatDoor.RP
/- The reference's parser: level, evaluated (printed by genrp.py). No condition. -/
namespace Go.Proofs.YtemggoaefohliaaGreatDoor.RP
set_option linter.unusedVariables false
set_option linter.unusedSimpArgs false
open Go AE EX PT NF LX PS
set_option maxRecDepth 100000
section
variable {l : List Tk} {k : Tok} (hl : l.length ≤ 2000000)
include hl
omit hl in
set_option maxHeartbeats 8000000 in
theorem r_level5 (n d : Nat) (one : Nat → PR X) (h : RSub l k n 54 [.int .i64 (d : Int)] one) : RSub l k (n + 1) 28 [.int .i64 5, .int .i64 (d : Int)] one := by
  intro p S hp
  have hz25 : zeroQ Tryz.prog 25 = some z6 := by kernel_rfl
  have l6 := z6_len
  have zzd : List.drop 6 z6 = [] := rfl
  have ez : evBuild Tryz.prog 25 [] = some zX.emb := bXz
  have zc := xcells zX
  have zl := xlen zX
  have zt := xtake zX
  have ze := xemb zX
  have zd : List.drop 6 zX.cells = [] := rfl
  have ef := bFz
  have wr : ∀ a : Nat, a ≤ 3000000 → ∀ b : Nat, b ≤ 10 → IntKind.i64.wrap ((a : Int) + (b : Int)) = ((a + b : Nat) : Int) := fun a ha b hb => by rw [wrap64 _ (by omega)]; omega
  have key : ∀ R : PR X, (NZ R ∧ Inb l R ∧ ev Tryz.prog E n 54 [.slice (tkL l) k, .int .i64 (p : Int), .int .i64 (d : Int)] S = some (.ret (ansA l R), S)) → (NZ R ∧ Inb l R ∧ ev Tryz.prog E (n + 1) 28 [.slice (tkL l) k, .int .i64 (p : Int), .int .i64 5, .int .i64 (d : Int)] S = some (.ret (ansA l R), S)) := by
    intro R ⟨h1, h2, h3⟩
    refine ⟨h1, h2, ?_⟩
    clear h1 h2
    obtain ⟨x, q, c, a, b, hx⟩ := ansA_ex l R
    have hf := fin_ans l R S
    rw [hx] at h3 hf ⊢
    have xc := xcells x
    have xl := xlen x
    have xt := xtake x
    have xe := xemb x
    have xd : List.drop 6 x.cells = [] := List.drop_eq_nil_of_le (by rw [xl]; omega)
    rw [ev_enter (n := n) (show E.ok 28 = true from rfl) Tryz.func28 fbL (Nat.le_of_ble_eq_true rfl) (by decide +kernel)]
    generalize lpL = lp at *
    generalize x.cells = xcs at *
    generalize x.emb = xem at *
    generalize tkL l = es at *
    generalize z6 = z at *
    simp (disch := first | (simp only [List.length_append, List.length_cons, List.length_nil]; omega) | (simp; done) | assumption) [AV.cells?, AV.isCell, -AV.cells?, cq_int, cq_agg, cq_slice, cq_str, -evBuild, -evBuildSlice, -evIndexAddr, a0L, a1L, a2L, a3L, cutC, bodyOf, Tryz.f28, E_esc, hz25, ez, zc, zl, zt, ze, zd, l6, zzd, List.append_nil, ef, fz0, fc, fa, fk, fi, fq0', k3, c3, a3, i3, c24, a24, k24, i24, bq3, xc, xl, xt, xe, xd, h3, hf]
  exact key _ (h p S hp)
set_option maxHeartbeats 8000000 in
theorem r_level (n v d F : Nat) (hv : v < 5) (hF : l.length < F) (hn : l.length ≤ n + 2) (sub : Nat → PR X) (hm : Mono sub) (hs : RSub l k (n + 3) 28 [.int .i64 ((v + 1 : Nat) : Int), .int .i64 (d : Int)] sub) :
    RSub l k (n + 4) 28 [.int .i64 (v : Int), .int .i64 (d : Int)] (fun p => (sub p).th fun e r => lvF (hereT l) v sub F e r) := by
  intro p S hp
  show NZ ((sub p).th fun e r => lvF (hereT l) v sub F e r) ∧ Inb l ((sub p).th fun e r => lvF (hereT l) v sub F e r) ∧ _ = some (Res.ret (ansA l ((sub p).th fun e r => lvF (hereT l) v sub F e r)), S)
  have hz25 : zeroQ Tryz.prog 25 = some z6 := by kernel_rfl
  have l6 := z6_len
  have zzd : List.drop 6 z6 = [] := rfl
  have ez : evBuild Tryz.prog 25 [] = some zX.emb := bXz
  have zc := xcells zX
  have zl := xlen zX
  have zt := xtake zX
  have ze := xemb zX
  have zd : List.drop 6 zX.cells = [] := rfl
  have ef := bFz
  have wr : ∀ a : Nat, a ≤ 3000000 → ∀ b : Nat, b ≤ 10 → IntKind.i64.wrap ((a : Int) + (b : Int)) = ((a + b : Nat) : Int) := fun a ha b hb => by rw [wrap64 _ (by omega)]; omega
  have hwv : IntKind.i64.wrap ((v : Int) + 1) = ((v + 1 : Nat) : Int) := wr v (by omega) 1 (by omega)
  have hv5 : ¬ (v : Int) = 5 := by omega
  obtain ⟨h1, h2, h3⟩ := hs p S hp
  cases hq : sub p with
  | error z =>
    obtain ⟨c, q⟩ := z
    rw [hq] at h1 h2 h3
    rw [th_err]
    have hc0 : c ≠ 0 := h1 c q rfl
    refine ⟨h1, Inb_err, ?_⟩
    rw [ansA_err] at h3
    clear h1 h2
    have hf := fin_ans l (.error (c, q)) S
    rw [ansA_err] at hf ⊢
    rw [ev_enter (n := n + 3) (show E.ok 28 = true from rfl) Tryz.func28 fbL (Nat.le_of_ble_eq_true rfl) (by decide +kernel)]
    simp only [fzL, fEL] at *
    generalize lpL = lp at *
    generalize (hereT l q).p = pl at *
    generalize v + 1 = V1 at *
    generalize tkL l = es at *
    generalize zX.cells = zcs at *
    generalize zX.emb = zem at *
    generalize z6 = z at *
    simp (disch := first | (simp only [List.length_append, List.length_cons, List.length_nil]; omega) | (simp; done) | assumption) [AV.cells?, AV.isCell, -AV.cells?, cq_int, cq_agg, cq_slice, cq_str, -evBuild, -evBuildSlice, -evIndexAddr, a0L, a1L, a2L, a3L, cutC, bodyOf, Tryz.f28, E_esc, hz25, ez, zc, zl, zt, ze, zd, l6, zzd, List.append_nil, ef, fz0, fc, fa, fk, fi, fq0', k3, c3, a3, i3, c24, a24, k24, i24, bq3, hwv, hv5, h3, hc0, hf]
  | ok z =>
    obtain ⟨x, q⟩ := z
    rw [hq] at h1 h2 h3
    have hqb := h2 x q rfl
    rw [th_ok]
    rw [ansA_ok] at h3
    clear h1 h2
    have xc := xcells x
    have xl := xlen x
    have xt := xtake x
    have xe := xemb x
    have xd : List.drop 6 x.cells = [] := List.drop_eq_nil_of_le (by rw [xl]; omega)
    obtain ⟨fs1, e1, p1⟩ : ∃ fs', evCode ⟨Tryz.prog, E.esc 28, n + 3⟩ (ev Tryz.prog E (n + 3)) (E.ps 28) (n + 3) (.seq (.seq (.seq a0L a1L) a2L) a3L) ⟨argsA [.slice (tkL l) k, .int .i64 (p : Int), .int .i64 (v : Int), .int .i64 (d : Int)], fun _ => (0, []), 0, S⟩ = some (.norm, fs') ∧ LI l k (n + 3) v d sub S (lvF (hereT l) v sub F x q) (l.length - q) fs' := by
      generalize hz : z6 = z at *
      generalize zX.cells = zcs at *
      generalize zX.emb = zem at *
      generalize hes : tkL l = es at *
      simp only [fzL] at *
      generalize hxx : x.cells = xcs at *
      generalize x.emb = xem at *
      generalize v + 1 = V1 at *
      refine ⟨_, by
        simp (disch := first | (simp only [List.length_append, List.length_cons, List.length_nil]; omega) | (simp; done) | assumption) [AV.cells?, AV.isCell, -AV.cells?, cq_int, cq_agg, cq_slice, cq_str, -evBuild, -evBuildSlice, -evIndexAddr, a0L, a1L, a2L, a3L, cutC, bodyOf, Tryz.f28, E_esc, hz25, ez, zc, zl, zt, ze, zd, l6, zzd, List.append_nil, ef, fz0, fc, fa, fk, fi, fq0', k3, c3, a3, i3, c24, a24, k24, i24, bq3, hwv, hv5, h3, xc, xl, xt, xe, xd]
        rfl, x, q, F, 1, 3, 16, by decide, by decide, by decide, rfl, hqb, by simp [upd, putA, argsA, hes], by simp [upd, putA, argsA], by simp [upd, putA, argsA], by simp [upd, putA], by simp [upd, putA], by simp [upd, putA], by simp [upd, putA], by simp [upd, hz], by simp [upd, fzL], by simp [upd, hxx], rfl, by omega, rfl⟩
    obtain ⟨⟨o, fs2⟩, r1, r2⟩ := iter_meas (fun m' fs h => rdL hl n v d hv sub hm hs S _ m' fs h) (l.length - q) (n + 3) fs1 (by omega) p1
    rw [ev_enter (n := n + 3) (show E.ok 28 = true from rfl) Tryz.func28 fbL (Nat.le_of_ble_eq_true rfl) (by decide +kernel)]
    rw [evCode_assoc, evCode_assoc, evCode_assoc, evCode_seq, e1, seqK_norm, evCode_block, evCode_loop, r1]
    obtain ⟨t, b, c, S'⟩ := fs2
    obtain ⟨q1, r2⟩ := r2
    simp only at q1
    subst q1
    clear r1 e1 p1 h3 xc xl xt xe xd
    rcases r2 with ⟨x', q', c8, c10, n8, n10, hqb', t8, t9, t10, b8, b10, hS, hR⟩ | ⟨c', q', c8, c10, n8, n10, hc, t8, t9, t10, b8, b10, hS, hR⟩
    · simp only at t8 t9 t10 b8 b10 hS
      subst hS
      rw [hR, blockK_ret, ansA_ok]
      refine ⟨NZ_ok, Inb_ok hqb', ?_⟩
      have hf := fin_ans l (.ok (x', q')) S'
      rw [ansA_ok] at hf
      have xc := xcells x'
      have xl := xlen x'
      have xt := xtake x'
      have xe := xemb x'
      clear hR
      generalize x'.cells = xcs at *
      generalize x'.emb = xem at *
      simp only [fzL] at *
      generalize z6 = z at *
      generalize zX.cells = zcs at *
      generalize zX.emb = zem at *
      simp (disch := first | (simp only [List.length_append, List.length_cons, List.length_nil]; omega) | (simp; done) | assumption) [AV.cells?, AV.isCell, -AV.cells?, cq_int, cq_agg, cq_slice, cq_str, -evBuild, -evBuildSlice, -evIndexAddr, a0L, a1L, a2L, a3L, cutC, bodyOf, Tryz.f28, E_esc, hz25, ez, zc, zl, zt, ze, zd, l6, zzd, List.append_nil, ef, fz0, fc, fa, fk, fi, fq0', k3, c3, a3, i3, c24, a24, k24, i24, bq3, t8, t9, t10, b8, b10, n8, n10, xc, xl, xt, xe, hf]
    · simp only at t8 t9 t10 b8 b10 hS
      subst hS
      rw [hR, blockK_ret, ansA_err]
      refine ⟨NZ_err hc, Inb_err, ?_⟩
      have hf := fin_ans l (.error (c', q')) S'
      rw [ansA_err] at hf
      clear hR
      simp only [fEL] at *
      generalize (hereT l q').p = pl at *
      generalize z6 = z at *
      generalize zX.cells = zcs at *
      generalize zX.emb = zem at *
      simp (disch := first | (simp only [List.length_append, List.length_cons, List.length_nil]; omega) | (simp; done) | assumption) [AV.cells?, AV.isCell, -AV.cells?, cq_int, cq_agg, cq_slice, cq_str, -evBuild, -evBuildSlice, -evIndexAddr, a0L, a1L, a2L, a3L, cutC, bodyOf, Tryz.f28, E_esc, hz25, ez, zc, zl, zt, ze, zd, l6, zzd, List.append_nil, ef, fz0, fc, fa, fk, fi, fq0', k3, c3, a3, i3, c24, a24, k24, i24, bq3, t8, t9, t10, b8, b10, n8, n10, hf]
end
end Go.Proofs.YtemggoaefohliaaGreatDoor.RP
/- The reference's parser, whole, is the parser. No condition. -/
namespace Go.Proofs.YtemggoaefohliaaGreatDoor.RP
set_option linter.unusedVariables false
set_option linter.unusedSimpArgs false
open Go AE EX PT NF LX PS
set_option maxRecDepth 100000

/-! ### the rounds at a level are the parser's -/
theorem opAt_val {h : Nat → Tk} {p : Nat} {v : Nat} {k : Int} (hv : v ≠ 2) (e : opAt h p (opsN v) = some k) : k ≠ 0 ∧ k ≠ -1 := by
  unfold opsN at e
  split at e
  all_goals simp only [opAt] at e
  all_goals (repeat' split at e)
  all_goals first
    | (cases e; decide)
    | cases e
theorem lv_loop (h : Nat → Tk) (v : Nat) (hv : v ≠ 2) (sub : Nat → PR X) : ∀ f e p, lvF h v sub f e p = loopF h (opsN v) sub f e p
  | 0, e, p => rfl
  | f + 1, e, p => by
    have ih := lv_loop h v hv sub f
    rw [lvF, loopF]
    have hk : opK h v p = (opAt h p (opsN v)).getD 0 := by unfold opK; rw [if_neg hv]; cases opAt h p (opsN v) <;> rfl
    rw [hk]
    cases e1 : opAt h p (opsN v) with
    | none => simp
    | some k =>
      obtain ⟨h0, h1⟩ := opAt_val hv e1
      simp only [Option.getD_some, h0, if_false, if_neg hv, joinK, if_neg h1]
      congr 1
      funext x r
      exact ih _ _
theorem lv_rel (h : Nat → Tk) (sub : Nat → PR X) (f : Nat) (p : Nat) : ((sub p).th fun e r => lvF h 2 sub (f + 1) e r) = relP h sub p := by
  unfold relP
  congr 1
  funext e r
  rw [lvF]
  simp only [opK, relK, if_true]
  cases isB h r [61]
  · cases isB h r [33, 61]
    · cases isB h r [60]
      · cases isB h r [60, 61]
        · cases isB h r [105, 110] <;> simp [joinK]
        · simp [joinK]
      · simp [joinK]
    · simp [joinK]
  · simp [joinK]

theorem kw1 : kindOf [116, 114, 117, 101] = 1 := by decide
theorem kw2 : kindOf [102, 97, 108, 115, 101] = 1 := by decide
theorem kw3 : kindOf [110, 111, 119] = 1 := by decide
theorem kw4 : kindOf [110, 111, 116] = 1 := by decide
theorem kw5 : kindOf [115] = 1 := by decide
theorem kw6 : kindOf [111] = 1 := by decide
theorem kw7 : kindOf [97, 99, 116] = 1 := by decide
theorem kw8 : kindOf [116, 105, 109, 101, 115] = 1 := by decide
theorem kw9 : kindOf [108, 101, 110] = 1 := by decide
theorem kw10 : kindOf [112, 114, 101, 118] = 1 := by decide
theorem kw11 : kindOf [111, 110, 99, 101] = 1 := by decide
theorem kw12 : kindOf [104, 105, 115, 116] = 1 := by decide
theorem kw13 : kindOf [115, 105, 110, 99, 101] = 1 := by decide
theorem kw14 : kindOf [123] = 4 := by decide
theorem kw15 : kindOf [40] = 4 := by decide
theorem kw16 : kindOf [45] = 4 := by decide
theorem isB_of {h : Nat → Tk} {p : Nat} {q : List UInt8} (e : (h p).k ≠ kindOf q) : isB h p q = false := by simp [isB, e]
theorem isB_s {h : Nat → Tk} {p : Nat} {q : List UInt8} (e : isB h p q = true) : (h p).s = q := by
  simp only [isB, Bool.and_eq_true, beq_iff_eq] at e
  exact e.2
theorem isB_other {h : Nat → Tk} {p : Nat} {q q' : List UInt8} (e : isB h p q = true) (n : q ≠ q') : isB h p q' = false := by
  have := isB_s e
  simp [isB, this, n]
theorem one_eq (h : Nat → Tk) (F : Nat) (one any : Nat → PR X) (p : Nat) : oneQ h F one any p =
    if (h p).k = 2 then .ok (leafX 1 [] (h p).n 0, p + 1)
    else if (h p).k = 3 then .ok (leafX 3 (h p).s 0 0, p + 1)
    else if (h p).k = 4 then signedP h F one any p
    else if (h p).k = 1 then namedP h one any p
    else .error (16, p) := by
  unfold oneQ
  by_cases h2 : (h p).k = 2
  · simp [h2]
  by_cases h3 : (h p).k = 3
  · simp [h2, h3]
  rw [if_neg h2, if_neg h3, if_neg h2, if_neg h3]
  have W : (h p).k ≠ 1 → ∀ q, kindOf q = 1 → isB h p q = false := fun e q hq => isB_of (by rw [hq]; exact e)
  have V : (h p).k ≠ 4 → ∀ q, kindOf q = 4 → isB h p q = false := fun e q hq => isB_of (by rw [hq]; exact e)
  have N : (h p).k ≠ 1 → namedQ h any p = .error (16, p) := fun e => by
    unfold namedQ timedP
    simp [W e _ kw5, W e _ kw6, W e _ kw7, W e _ kw8, W e _ kw9, W e _ kw10, W e _ kw11, W e _ kw12, W e _ kw13]
  by_cases h1 : (h p).k = 1
  · have h4 : (h p).k ≠ 4 := by rw [h1]; decide
    rw [if_neg h4, if_pos h1, V h4 _ kw14, V h4 _ kw15, V h4 _ kw16]
    simp only [Bool.false_eq_true, if_false]
    rfl
  · rw [W h1 _ kw1, W h1 _ kw2, W h1 _ kw3, W h1 _ kw4, N h1]
    simp only [Bool.false_eq_true, if_false]
    by_cases h4 : (h p).k = 4
    · rw [if_pos h4]
      unfold signedP
      cases e1 : isB h p [45]
      · cases e2 : isB h p [123]
        · cases e3 : isB h p [40]
          · simp [argP, needP, e3, th_err]
          · simp
        · simp
      · have e2 : isB h p [123] = false := isB_other e1 (by decide)
        have e3 : isB h p [40] = false := isB_other e1 (by decide)
        simp [e2, e3]
    · rw [if_neg h4, if_neg h1, V h4 _ kw14, V h4 _ kw15, V h4 _ kw16]
      simp

/-! ### whole -/
def RFrom (l : List Tk) (k : Tok) (b f : Nat) (ex : List AV) (sub : Nat → PR X) : Prop := ∀ m, b ≤ m → RSub l k m f ex sub
section
variable {l : List Tk} {k : Tok} (hl : l.length ≤ 2000000)
include hl
theorem rf_level {d b F : Nat} {one : Nat → PR X} (hF : l.length < F) (hb : l.length ≤ b) (hm : Mono one) (h : RFrom l k b 54 [.int .i64 (d : Int)] one) :
    RFrom l k (b + 20) 28 [.int .i64 0, .int .i64 (d : Int)] (anyP (hereT l) F one) := by
  obtain ⟨F', rfl⟩ : ∃ f, F = f + 1 := ⟨F - 1, by omega⟩
  have m4 := (mono_any (h := hereT l) (F := F' + 1) hm)
  have f5 : RFrom l k (b + 1) 28 [.int .i64 ((5 : Nat) : Int), .int .i64 (d : Int)] one := fun m hbm => by
    obtain ⟨n, rfl⟩ : ∃ n, m = n + 1 := ⟨m - 1, by omega⟩
    exact r_level5 n d one (h n (by omega))
  have f4 : RFrom l k (b + 4) 28 [.int .i64 ((4 : Nat) : Int), .int .i64 (d : Int)] (prodP (hereT l) (F' + 1) one) := fun m hbm => by
    obtain ⟨n, rfl⟩ : ∃ n, m = n + 4 := ⟨m - 4, by omega⟩
    have := r_level hl n 4 d (F' + 1) (by decide) hF (by omega) one hm (f5 _ (by omega))
    simp only [lv_loop _ 4 (by decide)] at this
    exact this
  have f3 : RFrom l k (b + 7) 28 [.int .i64 ((3 : Nat) : Int), .int .i64 (d : Int)] (sumP (hereT l) (F' + 1) one) := fun m hbm => by
    obtain ⟨n, rfl⟩ : ∃ n, m = n + 4 := ⟨m - 4, by omega⟩
    have := r_level hl n 3 d (F' + 1) (by decide) hF (by omega) _ m4.1 (f4 _ (by omega))
    simp only [lv_loop _ 3 (by decide)] at this
    exact this
  have f2 : RFrom l k (b + 10) 28 [.int .i64 ((2 : Nat) : Int), .int .i64 (d : Int)] (relP (hereT l) (sumP (hereT l) (F' + 1) one)) := fun m hbm => by
    obtain ⟨n, rfl⟩ : ∃ n, m = n + 4 := ⟨m - 4, by omega⟩
    have := r_level hl n 2 d (F' + 1) (by decide) hF (by omega) _ m4.2.1 (f3 _ (by omega))
    simp only [lv_rel] at this
    exact this
  have f1 : RFrom l k (b + 13) 28 [.int .i64 ((1 : Nat) : Int), .int .i64 (d : Int)] (allP (hereT l) (F' + 1) one) := fun m hbm => by
    obtain ⟨n, rfl⟩ : ∃ n, m = n + 4 := ⟨m - 4, by omega⟩
    have := r_level hl n 1 d (F' + 1) (by decide) hF (by omega) _ (mono_rel m4.2.1) (f2 _ (by omega))
    simp only [lv_loop _ 1 (by decide)] at this
    exact this
  intro m hbm
  obtain ⟨n, rfl⟩ : ∃ n, m = n + 4 := ⟨m - 4, by omega⟩
  have := r_level hl n 0 d (F' + 1) (by decide) hF (by omega) _ m4.2.2.1 (f1 _ (by omega))
  simp only [lv_loop _ 0 (by decide)] at this
  exact this
theorem rf_one (F : Nat) (hF : l.length < F) : ∀ (j d : Nat), d + j = 32 → RFrom l k (l.length + 40 * j + 40) 54 [.int .i64 (d : Int)] (oneF (hereT l) F j)
  | 0, d, hd => by
    intro m hm
    obtain ⟨n, rfl⟩ : ∃ n, m = n + 2 := ⟨m - 2, by omega⟩
    have := r_deep (k := k) hl n d (by omega)
    have e : oneF (hereT l) F 0 = fun p => .error (32, p) := by funext p; rfl
    rw [e]
    exact this
  | j + 1, d, hd => by
    have ih := rf_one F hF j (d + 1) (by omega)
    have hm1 := mono_one (h := hereT l) F j
    have hL := rf_level hl hF (by omega) hm1 ih
    intro m hm
    obtain ⟨n, rfl⟩ : ∃ n, m = n + 9 := ⟨m - 9, by omega⟩
    have := r_one hl n d F (by omega) (oneF (hereT l) F j) (anyP (hereT l) F (oneF (hereT l) F j)) (fun m' h' => by
      obtain ⟨n', rfl⟩ : ∃ n, m' = n + 2 := ⟨m' - 2, by omega⟩
      exact r_set hl n' F hF (by omega)) (fun m' h' => ih m' (by omega)) (fun m' h' => hL m' (by omega))
    have e : oneF (hereT l) F (j + 1) = oneQ (hereT l) F (oneF (hereT l) F j) (anyP (hereT l) F (oneF (hereT l) F j)) := by
      funext p
      rw [one_eq, oneF]
    rw [e]
    exact this
/-- level 0 from the first word on is the parser's -/
theorem rf_any : RFrom l k (l.length + 1340) 28 [.int .i64 0, .int .i64 0] (anyP (hereT l) (l.length + 1) (oneF (hereT l) (l.length + 1) 32)) := fun m hm =>
  rf_level (d := 0) (b := l.length + 40 * 32 + 40) hl (by omega) (by omega) (mono_one _ 32) (rf_one hl (l.length + 1) (by omega) 32 0 (by omega)) m (by omega)
end
end Go.Proofs.YtemggoaefohliaaGreatDoor.RP
/- The reference's Take; fault.Depth, evaluated. No condition. -/
namespace Go.Proofs.YtemggoaefohliaaGreatDoor.RP
set_option linter.unusedVariables false
set_option linter.unusedSimpArgs false
open Go AE EX PT NF LX PS
set_option maxRecDepth 100000

set_option maxHeartbeats 4000000 in
theorem ev_rTake (n : Nat) (l : List Tk) (k : Tok) (hl : l.length ≤ 2000000) (hn : l.length + 1340 ≤ n) (S : St) :
    NZ (takeR l) ∧ Inb l (takeR l) ∧ ev Tryz.prog E (n + 1) 11 [.slice (tkL l) k] S = some (.ret (ansA l (takeR l)), S) := by
  have h := rf_any (k := k) hl n hn 0 S (by omega)
  have key : ∀ R : PR X, (NZ R ∧ Inb l R ∧ ev Tryz.prog E n 28 [.slice (tkL l) k, .int .i64 0, .int .i64 0, .int .i64 0] S = some (.ret (ansA l R), S)) → (NZ R ∧ Inb l R ∧ ev Tryz.prog E (n + 1) 11 [.slice (tkL l) k] S = some (.ret (ansA l R), S)) := by
    intro R ⟨h1, h2, h3⟩
    refine ⟨h1, h2, ?_⟩
    clear h1 h2 h
    obtain ⟨x, q, c, a, b, hx⟩ := ansA_ex l R
    have hf := fin_ans l R S
    rw [hx] at h3 hf ⊢
    have xc := xcells x
    have xl := xlen x
    have xt := xtake x
    have xe := xemb x
    have xd : List.drop 6 x.cells = [] := List.drop_eq_nil_of_le (by rw [xl]; omega)
    have hz25 : zeroQ Tryz.prog 25 = some z6 := by kernel_rfl
    have l6 := z6_len
    have zzd : List.drop 6 z6 = [] := rfl
    rw [ev_enter (n := n) (show E.ok 11 = true from rfl) Tryz.func11 (fn := Tryz.f11) rfl (Nat.le_of_ble_eq_true rfl) (by decide +kernel)]
    generalize x.cells = xcs at *
    generalize x.emb = xem at *
    generalize tkL l = es at *
    generalize z6 = z at *
    simp (disch := first | (simp only [List.length_append, List.length_cons, List.length_nil]; omega) | (simp; done) | assumption) [AV.cells?, AV.isCell, -AV.cells?, cq_int, cq_agg, cq_slice, cq_str, -evBuild, Tryz.f11, E_esc, hz25, l6, zzd, List.append_nil, fz0, fc, fa, fk, fi, k3, c3, a3, i3, c24, a24, k24, i24, xc, xl, xt, xe, xd, h3, hf]
  exact key _ h

/-! ### how many faults in one another -/
theorem esc25 (d : Nat) : E.esc 25 d = (d == 4) := by simp [E]
noncomputable def lpD : Code := cutC (bodyOf Tryz.f25) [1, 1, 1, 0, 0, 0]
noncomputable def d0D : Code := cutC (bodyOf Tryz.f25) [0]
noncomputable def d1D : Code := cutC (bodyOf Tryz.f25) [1, 0]
noncomputable def d2D : Code := cutC (bodyOf Tryz.f25) [1, 1, 0]
noncomputable def d3D : Code := cutC (bodyOf Tryz.f25) [1, 1, 1, 1]
theorem fbD : Tryz.f25.body = some (.seq d0D (.seq d1D (.seq d2D (.seq (.block 0 (.loop lpD)) d3D)))) := rfl
def dS (S : St) (v : AV) : St := ⟨S.H ++ [⟨78, [v]⟩], S.T⟩
theorem dS_get (S : St) (v : AV) : (dS S v).H[S.H.length]? = some ⟨78, [v]⟩ := by simp [dS]
theorem dS_old {S : St} {id : Nat} {b : HBox} (v : AV) (h : S.H[id]? = some b) : (dS S v).H[id]? = some b := by
  have hid : id < S.H.length := (List.getElem?_eq_some_iff.1 h).1
  simp only [dS]; rw [List.getElem?_append_left hid]; exact h
theorem ev_AsF (n : Nat) (S : St) (id : Nat) (v : AV) : ev Tryz.prog E (n + 1) 44 [.iface 78 (.ptr id 0), .iface 79 (.ptr S.H.length 0)] (dS S v) = some (.ret (.bool true), dS S (.ptr id 0)) := by
  rw [ev_As]
  have h2 := dS_get S v
  simp only [asX, h2]
  simp [dS]
theorem ev_AsN (n : Nat) (S : St) (v w : AV) : ev Tryz.prog E (n + 1) 44 [.nilif, w] (dS S v) = some (.ret (.bool false), dS S v) := by
  rw [ev_As]; rfl
def DFI (S : St) (d : Nat) (m : Nat) (fs : FS) : Prop :=
  ∃ v, fs.t 4 = .ptr S.H.length 0 ∧ fs.t 3 = .int .i64 ((d - m : Nat) : Int) ∧ m ≤ d ∧ fs.S = dS S v ∧
    (m = 0 ∧ fs.t 0 = .nilif ∨ ∃ m' id c p, m = m' + 1 ∧ fs.t 0 = .iface 78 (.ptr id 0) ∧ FaultAt S m' id c p)
def DFQ (S : St) (d : Nat) (r : Out × FS) : Prop := r.1 = .exit 0 ∧ r.2.t 3 = .int .i64 (d : Int) ∧ ∃ v, r.2.S = dS S v
theorem rdD (n : Nat) (S : St) (d : Nat) (hd : d ≤ 1000) (m : Nat) (fs : FS) (h : DFI S d m fs) :
    ∃ o fs', evCode ⟨Tryz.prog, E.esc 25, n + 1⟩ (ev Tryz.prog E (n + 1)) (E.ps 25) (n + 1) lpD fs = some (o, fs') ∧ ((o = .norm ∧ ∃ m', m' < m ∧ DFI S d m' fs') ∨ (o ≠ .norm ∧ DFQ S d (o, fs'))) := by
  obtain ⟨t, b, c, S'⟩ := fs
  obtain ⟨v, t4, t3, hm, hS, h⟩ := h
  simp only at t4 t3 hS h
  subst hS
  rcases h with ⟨rfl, t0⟩ | ⟨m', id, c', p', rfl, t0, hF⟩
  · have hA := ev_AsN n S v (.iface 79 (.ptr S.H.length 0))
    refine ⟨.exit 0, _, by
      simp (disch := first | (simp only [List.length_append, List.length_cons, List.length_nil]; omega) | (simp; done) | assumption) [AV.cells?, AV.isCell, lpD, cutC, bodyOf, Tryz.f25, esc25, t0, t3, t4, hA, tn56]
      rfl, .inr ⟨by simp, rfl, by simp [upd, t3], v, rfl⟩⟩
  · have hA := ev_AsF n S id v
    have htr := tr55
    have hg := dS_get S (.ptr id 0)
    have hw : IntKind.i64.wrap (((d - (m' + 1) : Nat) : Int) + 1) = ((d - m' : Nat) : Int) := by rw [wrap64 _ (by omega)]; omega
    generalize hsl : S.H.length = sl at *
    cases m' with
    | zero =>
      have hg2 := dS_old (.ptr id 0) hF
      generalize hS2 : dS S (.ptr id 0) = S2 at *
      generalize dS S v = S1 at *
      refine ⟨.norm, _, by
        simp (disch := first | (simp only [List.length_append, List.length_cons, List.length_nil]; omega) | (simp; done) | assumption) [AV.cells?, AV.isCell, lpD, cutC, bodyOf, Tryz.f25, esc25, t0, t3, t4, hA, tn56, hg, hg2, hw, tk55, tc55, ta55, tr55, tq58_2, tk27, tc27, ta27, ofC]
        rfl, .inl ⟨rfl, 0, by omega, .ptr id 0, by simp [upd, t4, hsl], by simp [upd], by omega, hS2.symm, .inl ⟨rfl, by simp [upd]⟩⟩⟩
    | succ m'' =>
      obtain ⟨id2, c2, p2, hb, hF2⟩ := hF
      have hg2 := dS_old (.ptr id 0) hb
      generalize hS2 : dS S (.ptr id 0) = S2 at *
      generalize dS S v = S1 at *
      refine ⟨.norm, _, by
        simp (disch := first | (simp only [List.length_append, List.length_cons, List.length_nil]; omega) | (simp; done) | assumption) [AV.cells?, AV.isCell, lpD, cutC, bodyOf, Tryz.f25, esc25, t0, t3, t4, hA, tn56, hg, hg2, hw, tk55, tc55, ta55, tr55, tq58_2, tk27, tc27, ta27, ofC]
        rfl, .inl ⟨rfl, m'' + 1, by omega, .ptr id 0, by simp [upd, t4, hsl], by simp [upd], by omega, hS2.symm, .inr ⟨m'', id2, c2, p2, rfl, by simp [upd], hF2⟩⟩⟩
theorem ev_Depth (n : Nat) (S : St) (d : Nat) (hd : d < 1000) (hn : d + 1 ≤ n) (id : Nat) (c p : Int) (h : FaultAt S d id c p) :
    ev Tryz.prog E (n + 2) 25 [.iface 78 (.ptr id 0)] S = some (.ret (.int .i64 ((d + 1 : Nat) : Int)), S) := by
  rw [show n + 2 = (n + 1) + 1 from rfl, ev_enter (n := n + 1) (show E.ok 25 = true from rfl) Tryz.func25 fbD (Nat.le_of_ble_eq_true rfl) (by decide +kernel)]
  obtain ⟨fs1, e1, p1⟩ : ∃ fs', evCode ⟨Tryz.prog, E.esc 25, n + 1⟩ (ev Tryz.prog E (n + 1)) (E.ps 25) (n + 1) (.seq (.seq d0D d1D) d2D) ⟨argsA [.iface 78 (.ptr id 0)], fun _ => (0, []), 0, S⟩ = some (.norm, fs') ∧ DFI S (d + 1) (d + 1) fs' := by
    have hz55 : zeroQ Tryz.prog 78 = some [.nilp] := by kernel_rfl
    refine ⟨_, by
      simp (disch := first | (simp only [List.length_append, List.length_cons, List.length_nil]; omega) | (simp; done) | assumption) [AV.cells?, AV.isCell, d0D, d1D, d2D, cutC, bodyOf, Tryz.f25, esc25, hz55, AV.sealed, AV.sealedL]
      rfl, .nilp, by simp [upd, putA], by simp [upd], Nat.le_refl _, by simp [dS], .inr ⟨d, id, c, p, rfl, by simp [upd, argsA], h⟩⟩
  obtain ⟨⟨o, fs2⟩, r1, q1, q2, v, q3⟩ := iter_meas (fun m' fs h => rdD n S (d + 1) (by omega) m' fs h) (d + 1) (n + 1) fs1 (by omega) p1
  simp only at q1 q2 q3
  subst q1
  rw [evCode_assoc, evCode_assoc, evCode_seq, e1, seqK_norm, evCode_seq, evCode_block, evCode_loop, r1, blockK_exit, if_pos rfl, seqK_norm]
  obtain ⟨t, b, c', S'⟩ := fs2
  simp only at q2 q3
  subst q3
  have hf := fin_low (S := S) [⟨78, [v]⟩] (.int .i64 ((d + 1 : Nat) : Int)) rfl rfl rfl
  have hds : dS S v = ⟨S.H ++ [⟨78, [v]⟩], S.T⟩ := rfl
  rw [← hds] at hf
  generalize dS S v = S2 at *
  generalize ((d + 1 : Nat) : Int) = D at *
  simp (disch := first | (simp only [List.length_append, List.length_cons, List.length_nil]; omega) | (simp; done) | assumption) [AV.cells?, AV.isCell, d3D, cutC, bodyOf, Tryz.f25, q2, hf]
end Go.Proofs.YtemggoaefohliaaGreatDoor.RP
/- Are two expressions alike, evaluated. No condition. -/
namespace Go.Proofs.YtemggoaefohliaaGreatDoor.PT
set_option linter.unusedVariables false
set_option linter.unusedSimpArgs false
open Go AE EX
set_option maxRecDepth 100000

mutual
def _root_.Go.Proofs.YtemggoaefohliaaGreatDoor.EX.X.same : X → X → Bool
  | .mk k nm n lo hi _ ks, .mk k' nm' n' lo' hi' _ ks' => k == k' && nm == nm' && n == n' && lo == lo' && hi == hi' && ks.length == ks'.length && sameL ks ks'
def sameL : List X → List X → Bool
  | [], [] => true
  | a :: l, b :: m => a.same b && sameL l m
  | _, _ => false
end
theorem sameL_append : ∀ (a a' b b' : List X), a.length = a'.length → sameL (a ++ b) (a' ++ b') = (sameL a a' && sameL b b')
  | [], [], b, b', _ => by simp [sameL]
  | x :: a, y :: a', b, b', h => by
    simp only [List.cons_append, sameL, sameL_append a a' b b' (by simpa using h), Bool.and_assoc]
  | [], _ :: _, _, _, h => by simp at h
  | _ :: _, [], _, _, h => by simp at h

noncomputable def eLoop : Code := cutC (bodyOf Tryz.f17) [1, 1, 0, 1, 0, 0]
noncomputable def el0 : Code := cutC (bodyOf Tryz.f17) [0]
noncomputable def el1 : Code := cutC (bodyOf Tryz.f17) [1, 0]
noncomputable def el2 : Code := cutC (bodyOf Tryz.f17) [1, 1, 0, 0]
noncomputable def el3 : Code := cutC (bodyOf Tryz.f17) [1, 1, 1]
theorem f19b : Tryz.f17.body = some (.seq el0 (.seq el1 (.seq (.seq el2 (.block 0 (.loop eLoop))) el3))) := rfl

def EI (n : Nat) (C D : List AV) (ks ks' : List X) (S0 : St) (m : Nat) (fs : FS) : Prop :=
  ∃ i, i + m = ks.length ∧ fs.t 2 = .loc n 2 1 0 ∧ fs.t 3 = .loc n 3 2 0 ∧ fs.b 2 = (1, C) ∧ fs.b 3 = (2, D) ∧ fs.t 5 = .int .i64 i ∧ fs.S = S0 ∧ sameL (ks.take i) (ks'.take i) = true
def EQ (ks ks' : List X) (S0 : St) (r : Out × FS) : Prop :=
  r.2.S = S0 ∧ ((r.1 = .exit 0 ∧ sameL ks ks' = true) ∨ (r.1 = .ret ∧ r.2.t 4 = .bool false ∧ sameL ks ks' = false))

theorem same_round (n : Nat) (c0 c1' c2' c3' c4' d0 d1 d2 d3 d4 : AV) (tk tk' : Bool) (ks ks' : List X) (S0 : St) (hs : ks.length ≤ 1048576) (hl : ks'.length = ks.length)
    (hrec : ∀ x ∈ ks, ∀ y ∈ ks', ∀ S, ev Tryz.prog E n 17 [x.emb, y.emb] S = some (.ret (.bool (x.same y)), S)) (m : Nat) (fs : FS)
    (h : EI n [c0, c1', c2', c3', c4', .slice (embL ks) (tokOf tk)] [d0, d1, d2, d3, d4, .slice (embL ks') (tokOf tk')] ks ks' S0 m fs) :
    ∃ o fs', evCode ⟨Tryz.prog, E.esc 17, n⟩ (ev Tryz.prog E n) (E.ps 17) n eLoop fs = some (o, fs') ∧
      ((o = .norm ∧ ∃ m', m' < m ∧ EI n [c0, c1', c2', c3', c4', .slice (embL ks) (tokOf tk)] [d0, d1, d2, d3, d4, .slice (embL ks') (tokOf tk')] ks ks' S0 m' fs') ∨ (o ≠ .norm ∧ EQ ks ks' S0 (o, fs'))) := by
  obtain ⟨t, b, v, S⟩ := fs
  obtain ⟨i, hi, h1, h2, h3, h4, h5, h6, h7⟩ := h
  simp only at h1 h2 h3 h4 h5 h6
  subst h6
  have hlen := embL_length ks
  have hlen' := embL_length ks'
  cases m with
  | zero =>
    have hi : i = ks.length := by omega
    subst hi
    refine ⟨.exit 0, _, by
      simp (disch := first | (simp only [List.length_append, List.length_cons, List.length_nil]; omega) | (simp; done) | assumption) [AV.cells?, AV.isCell, eLoop, cutC, bodyOf, Tryz.f17, h1, h2, h3, h4, h5, fq5, k22, c22, a22, sq22, bq3, hlen]
      rfl, .inr ⟨by simp, rfl, .inl ⟨rfl, by rw [List.take_length, ← hl, List.take_length] at h7; exact h7⟩⟩⟩
  | succ m =>
    have hlt : i < ks.length := by omega
    have hlt' : i < ks'.length := by omega
    have hltz : (i : Int) < ks.length := by omega
    have hxe : ks[i]? = some ks[i] := List.getElem?_eq_getElem hlt
    have hye : ks'[i]? = some ks'[i] := List.getElem?_eq_getElem hlt'
    have hr := hrec ks[i] (List.getElem_mem hlt) ks'[i] (List.getElem_mem hlt') S
    have hemb : (embL ks)[i]? = some ks[i].emb := by rw [embL_map, List.getElem?_map, hxe]; rfl
    have hemb' : (embL ks')[i]? = some ks'[i].emb := by rw [embL_map, List.getElem?_map, hye]; rfl
    have t1 : ks.take (i + 1) = ks.take i ++ [ks[i]] := by rw [List.take_add_one, hxe]; rfl
    have t2 : ks'.take (i + 1) = ks'.take i ++ [ks'[i]] := by rw [List.take_add_one, hye]; rfl
    have hw : IntKind.i64.wrap ((i : Int) + 1) = (i : Int) + 1 := wrap64 _ (by omega)
    have ha1 := cells_all ks[i]
    have hc1 := (cells_ok ks[i]).2
    have ht1 : List.take 6 ks[i].cells = ks[i].cells := List.take_of_length_le (by omega)
    have ha2 := cells_all ks'[i]
    have hc2 := (cells_ok ks'[i]).2
    have ht2 : List.take 6 ks'[i].cells = ks'[i].cells := List.take_of_length_le (by omega)
    have hps : E.ps 17 6 = [(1, 6), (4, 6), (1, 9), (4, 9)] := rfl
    obtain ⟨z, hz⟩ := ii24
    rw [emb_cells] at hemb hemb'
    rw [emb_cells, emb_cells] at hr
    have hst : sameL (ks.take (i + 1)) (ks'.take (i + 1)) = ks[i].same ks'[i] := by
      rw [t1, t2, sameL_append _ _ _ _ (by simp; omega), h7]
      simp [sameL]
    cases e1 : ks[i].same ks'[i]
    · rw [e1] at hr hst
      have hbad : sameL ks ks' = false := by
        have : sameL (ks.take (i + 1) ++ ks.drop (i + 1)) (ks'.take (i + 1) ++ ks'.drop (i + 1)) = false := by
          rw [sameL_append _ _ _ _ (by simp; omega), hst]; rfl
        rwa [List.take_append_drop, List.take_append_drop] at this
      generalize ks[i].cells = C1 at *
      generalize ks'[i].cells = C2 at *
      refine ⟨.ret, _, by
        simp (disch := first | (simp only [List.length_append, List.length_cons, List.length_nil]; omega) | (simp; done) | assumption) [AV.cells?, AV.isCell, eLoop, cutC, bodyOf, Tryz.f17, E_esc, h1, h2, h3, h4, h5, fq5, k22, c22, a22, k24, c24, a24, i24, hz, sq22, bq3, hlen, hlen', hlt, hltz, hemb, hemb', hr, hps, ha1, hc1, ht1, ha2, hc2, ht2]
        rfl, .inr ⟨by simp, rfl, .inr ⟨rfl, by simp [upd], hbad⟩⟩⟩
    · rw [e1] at hr hst
      generalize ks[i].cells = C1 at *
      generalize ks'[i].cells = C2 at *
      refine ⟨.norm, _, by
        simp (disch := first | (simp only [List.length_append, List.length_cons, List.length_nil]; omega) | (simp; done) | assumption) [AV.cells?, AV.isCell, eLoop, cutC, bodyOf, Tryz.f17, E_esc, h1, h2, h3, h4, h5, fq5, k22, c22, a22, k24, c24, a24, i24, hz, sq22, bq3, hlen, hlen', hlt, hltz, hemb, hemb', hr, hps, ha1, hc1, ht1, ha2, hc2, ht2]
        rfl, .inl ⟨rfl, m, by omega, i + 1, by omega, by simp [upd, h1], by simp [upd, h2], by simp [upd, h3], by simp [upd, h4], by simp [upd, hw], rfl, hst⟩⟩

theorem ev_same : ∀ (m : Nat) (x y : X), x.size ≤ m → y.size ≤ 1048576 → m ≤ 1048576 → ∀ n, m + 2 ≤ n → ∀ S, ev Tryz.prog E n 17 [x.emb, y.emb] S = some (.ret (.bool (x.same y)), S)
  | 0, x, _, hm, _, _, _, _, _ => absurd hm (by have := size_pos x; omega)
  | m + 1, x, y, hm, hy, hmm, n, hn, S => by
    obtain ⟨n, rfl⟩ : ∃ k, n = k + 1 := ⟨n - 1, by omega⟩
    obtain ⟨k, nm, a, lo, hi, tk, ks⟩ := x
    obtain ⟨k', nm', a', lo', hi', tk', ks'⟩ := y
    simp only [X.size] at hm hy
    have hl := sizeL_length ks
    have hl' := sizeL_length ks'
    have hlen := embL_length ks
    have hlen' := embL_length ks'
    simp only [X.emb]
    rw [ev_enter (n := n) (show E.ok 17 = true from rfl) Tryz.func17 f19b (Nat.le_of_ble_eq_true rfl) (by decide +kernel)]
    cases h0 : (k == k')
    · have hx : (X.mk k nm a lo hi tk ks).same (.mk k' nm' a' lo' hi' tk' ks') = false := by simp only [X.same, h0]; simp
      rw [hx]
      simp (disch := first | (simp only [List.length_append, List.length_cons, List.length_nil]; omega) | (simp; done) | assumption) [AV.cells?, AV.isCell, el0, el1, el2, el3, cutC, bodyOf, Tryz.f17, E_esc, k24, c24, a24, k3, c3, a3, k2, c2, a2, k9, c9, a9, k22, c22, a22, fq0, fq1, fq2, fq3, fq4, fq5, sq22, bq3, bq2, bq9, bne, hlen, hlen', -AV.isCell, h0]
    cases h1 : (nm == nm')
    · have hx : (X.mk k nm a lo hi tk ks).same (.mk k' nm' a' lo' hi' tk' ks') = false := by simp only [X.same, h0, h1]; simp
      rw [hx]
      simp (disch := first | (simp only [List.length_append, List.length_cons, List.length_nil]; omega) | (simp; done) | assumption) [AV.cells?, AV.isCell, el0, el1, el2, el3, cutC, bodyOf, Tryz.f17, E_esc, k24, c24, a24, k3, c3, a3, k2, c2, a2, k9, c9, a9, k22, c22, a22, fq0, fq1, fq2, fq3, fq4, fq5, sq22, bq3, bq2, bq9, bne, hlen, hlen', -AV.isCell, h0, h1]
    cases h2 : (a == a')
    · have hx : (X.mk k nm a lo hi tk ks).same (.mk k' nm' a' lo' hi' tk' ks') = false := by simp only [X.same, h0, h1, h2]; simp
      rw [hx]
      simp (disch := first | (simp only [List.length_append, List.length_cons, List.length_nil]; omega) | (simp; done) | assumption) [AV.cells?, AV.isCell, el0, el1, el2, el3, cutC, bodyOf, Tryz.f17, E_esc, k24, c24, a24, k3, c3, a3, k2, c2, a2, k9, c9, a9, k22, c22, a22, fq0, fq1, fq2, fq3, fq4, fq5, sq22, bq3, bq2, bq9, bne, hlen, hlen', -AV.isCell, h0, h1, h2]
    cases h3 : (lo == lo')
    · have hx : (X.mk k nm a lo hi tk ks).same (.mk k' nm' a' lo' hi' tk' ks') = false := by simp only [X.same, h0, h1, h2, h3]; simp
      rw [hx]
      simp (disch := first | (simp only [List.length_append, List.length_cons, List.length_nil]; omega) | (simp; done) | assumption) [AV.cells?, AV.isCell, el0, el1, el2, el3, cutC, bodyOf, Tryz.f17, E_esc, k24, c24, a24, k3, c3, a3, k2, c2, a2, k9, c9, a9, k22, c22, a22, fq0, fq1, fq2, fq3, fq4, fq5, sq22, bq3, bq2, bq9, bne, hlen, hlen', -AV.isCell, h0, h1, h2, h3]
    cases h4 : (hi == hi')
    · have hx : (X.mk k nm a lo hi tk ks).same (.mk k' nm' a' lo' hi' tk' ks') = false := by simp only [X.same, h0, h1, h2, h3, h4]; simp
      rw [hx]
      simp (disch := first | (simp only [List.length_append, List.length_cons, List.length_nil]; omega) | (simp; done) | assumption) [AV.cells?, AV.isCell, el0, el1, el2, el3, cutC, bodyOf, Tryz.f17, E_esc, k24, c24, a24, k3, c3, a3, k2, c2, a2, k9, c9, a9, k22, c22, a22, fq0, fq1, fq2, fq3, fq4, fq5, sq22, bq3, bq2, bq9, bne, hlen, hlen', -AV.isCell, h0, h1, h2, h3, h4]
    cases h5 : (ks.length == ks'.length)
    · have hx : (X.mk k nm a lo hi tk ks).same (.mk k' nm' a' lo' hi' tk' ks') = false := by simp only [X.same, h0, h1, h2, h3, h4, h5]; simp
      have h5z : ((ks.length : Int) == (ks'.length : Int)) = false := by
        have : ks.length ≠ ks'.length := by simpa using h5
        simp; omega
      rw [hx]
      simp (disch := first | (simp only [List.length_append, List.length_cons, List.length_nil]; omega) | (simp; done) | assumption) [AV.cells?, AV.isCell, el0, el1, el2, el3, cutC, bodyOf, Tryz.f17, E_esc, k24, c24, a24, k3, c3, a3, k2, c2, a2, k9, c9, a9, k22, c22, a22, fq0, fq1, fq2, fq3, fq4, fq5, sq22, bq3, bq2, bq9, bne, hlen, hlen', -AV.isCell, h0, h1, h2, h3, h4, h5z]
    have e5 : ks'.length = ks.length := by
      have : ks.length = ks'.length := by simpa using h5
      omega
    have h5z : ((ks.length : Int) == (ks'.length : Int)) = true := by simp; omega
    have hx : (X.mk k nm a lo hi tk ks).same (.mk k' nm' a' lo' hi' tk' ks') = sameL ks ks' := by simp only [X.same, h0, h1, h2, h3, h4, h5]; simp
    rw [hx]
    have key : ∀ fs, EI n [.int .i64 k, .str nm, .int .i64 a, .int .i64 lo, .int .i64 hi, .slice (embL ks) (tokOf tk)] [.int .i64 k', .str nm', .int .i64 a', .int .i64 lo', .int .i64 hi', .slice (embL ks') (tokOf tk')] ks ks' S ks.length fs →
        ∃ r, iter n (evCode ⟨Tryz.prog, E.esc 17, n⟩ (ev Tryz.prog E n) (E.ps 17) n eLoop) fs = some r ∧ EQ ks ks' S r := fun fs h =>
      iter_meas (fun q fs h => same_round n _ _ _ _ _ _ _ _ _ _ tk tk' ks ks' S (by omega) e5 (fun x hx y hy' S => ev_same m x y (by have := sizeL_mem hx; omega) (by have := sizeL_mem hy'; omega) (by omega) n (by omega) S) q fs h) ks.length n fs (by omega) h
    cases hb : sameL ks ks'
    · have key2 : ∀ fs : FS, (fs.t 2 = .loc n 2 1 0 ∧ fs.t 3 = .loc n 3 2 0 ∧ fs.b 2 = (1, [.int .i64 k, .str nm, .int .i64 a, .int .i64 lo, .int .i64 hi, .slice (embL ks) (tokOf tk)]) ∧ fs.b 3 = (2, [.int .i64 k', .str nm', .int .i64 a', .int .i64 lo', .int .i64 hi', .slice (embL ks') (tokOf tk')]) ∧ fs.t 5 = .int .i64 0 ∧ fs.S = S) →
          ∃ r, iter n (evCode ⟨Tryz.prog, E.esc 17, n⟩ (ev Tryz.prog E n) (E.ps 17) n eLoop) fs = some (.ret, r) ∧ r.t 4 = .bool false ∧ r.S = S := fun fs ⟨q1, q2, q3, q4, q5, q6⟩ => by
        obtain ⟨⟨o, r⟩, r1, r2, r3⟩ := key fs ⟨0, by omega, q1, q2, q3, q4, q5, q6, by simp [sameL]⟩
        rcases r3 with ⟨_, r4⟩ | ⟨r4, r5, _⟩
        · rw [hb] at r4; cases r4
        · simp only at r4; subst r4; exact ⟨r, r1, r5, r2⟩
      obtain ⟨F, hF⟩ := skolem key2
      have hF1 := fun x h => (hF x h).1
      have hF2 := fun x h => (hF x h).2.1
      have hF3 := fun x h => (hF x h).2.2
      simp (disch := first | (simp [upd]; done) | omega | assumption) [AV.cells?, AV.isCell, el0, el1, el2, el3, cutC, bodyOf, Tryz.f17, E_esc, k24, c24, a24, k3, c3, a3, k2, c2, a2, k9, c9, a9, k22, c22, a22, fq0, fq1, fq2, fq3, fq4, fq5, sq22, bq3, bq2, bq9, bne, hlen, hlen', -AV.isCell, h0, h1, h2, h3, h4, h5z, hF1, hF2, hF3]
    · have key2 : ∀ fs : FS, (fs.t 2 = .loc n 2 1 0 ∧ fs.t 3 = .loc n 3 2 0 ∧ fs.b 2 = (1, [.int .i64 k, .str nm, .int .i64 a, .int .i64 lo, .int .i64 hi, .slice (embL ks) (tokOf tk)]) ∧ fs.b 3 = (2, [.int .i64 k', .str nm', .int .i64 a', .int .i64 lo', .int .i64 hi', .slice (embL ks') (tokOf tk')]) ∧ fs.t 5 = .int .i64 0 ∧ fs.S = S) →
          ∃ r, iter n (evCode ⟨Tryz.prog, E.esc 17, n⟩ (ev Tryz.prog E n) (E.ps 17) n eLoop) fs = some (.exit 0, r) ∧ r.S = S := fun fs ⟨q1, q2, q3, q4, q5, q6⟩ => by
        obtain ⟨⟨o, r⟩, r1, r2, r3⟩ := key fs ⟨0, by omega, q1, q2, q3, q4, q5, q6, by simp [sameL]⟩
        rcases r3 with ⟨r4, _⟩ | ⟨_, _, r4⟩
        · simp only at r4; subst r4; exact ⟨r, r1, r2⟩
        · rw [hb] at r4; cases r4
      obtain ⟨F, hF⟩ := skolem key2
      have hF1 := fun x h => (hF x h).1
      have hF3 := fun x h => (hF x h).2
      simp (disch := first | (simp [upd]; done) | omega | assumption) [AV.cells?, AV.isCell, el0, el1, el2, el3, cutC, bodyOf, Tryz.f17, E_esc, k24, c24, a24, k3, c3, a3, k2, c2, a2, k9, c9, a9, k22, c22, a22, fq0, fq1, fq2, fq3, fq4, fq5, sq22, bq3, bq2, bq9, bne, hlen, hlen', -AV.isCell, h0, h1, h2, h3, h4, h5z, hF1, hF3]
end Go.Proofs.YtemggoaefohliaaGreatDoor.PT
/- What a text that has an expression is; alike, of itself. Condition: the world outside is closed. -/
namespace Go.Proofs.YtemggoaefohliaaGreatDoor.PS
set_option linter.unusedVariables false
set_option linter.unusedSimpArgs false
open Go AE EX PT NF LX
set_option maxRecDepth 100000

mutual
theorem same_refl : ∀ x : X, x.same x = true
  | .mk k nm n lo hi tk ks => by
    have := sameL_refl ks
    simp [X.same, this]
theorem sameL_refl : ∀ l : List X, sameL l l = true
  | [] => rfl
  | x :: l => by
    have h1 := same_refl x
    have h2 := sameL_refl l
    simp [sameL, h1, h2]
end
/-- what a text that has an expression is -/
theorem expr_parts {s : List UInt8} {x : X} (h : exprR s = .ok x) : ∃ l q, lexAll s = .ok l ∧ takeR l = .ok (x, q) ∧ (hereT l q).k = 5 ∧ chkX x = 0 ∧ q < l.length ∧ x.bulk ≤ 62000 := by
  unfold exprR at h
  cases hL : lexAll s with
  | error e => obtain ⟨c, p⟩ := e; rw [hL] at h; cases h
  | ok l =>
    rw [hL] at h
    simp only at h
    cases hT : takeR l with
    | error e => obtain ⟨c, p⟩ := e; rw [hT] at h; cases h
    | ok r =>
      obtain ⟨y, q⟩ := r
      rw [hT] at h
      simp only at h
      split at h
      · rename_i h5
        split at h
        · rename_i h0
          cases h
          obtain ⟨b1, b2, _⟩ := take_bound hL hT
          exact ⟨l, q, rfl, hT, h5, h0, b1, b2⟩
        · cases h
      · cases h
end Go.Proofs.YtemggoaefohliaaGreatDoor.PS
/- beadlelaw08.like, evaluated. No condition. -/
namespace Go.Proofs.YtemggoaefohliaaGreatDoor.RP
set_option linter.unusedVariables false
set_option linter.unusedSimpArgs false
open Go AE EX PT NF LX PS
set_option maxRecDepth 100000

set_option maxHeartbeats 8000000 in
theorem ev_likeE (n : Nat) (hn : 1003 ≤ n) (S : St) (d : Nat) (hd : d < 1000) (id : Nat) (c p : Int) (hc : c ≠ 0) (y : X) (h : FaultAt S d id c p) :
    ev Tryz.prog E (n + 1) 9 [zX.emb, .iface 78 (.ptr id 0), y.emb, .agg [.int .i64 c, .int .i64 p, .int .i64 ((d + 1 : Nat) : Int)]] S = some (.ret (.bool true), S) := by
  obtain ⟨e, hb⟩ : ∃ e, S.H[id]? = some ⟨81, [.int .i64 c, .int .i64 p, e]⟩ := by
    cases d with
    | zero => exact ⟨_, h⟩
    | succ d => obtain ⟨i2, c2, p2, h1, _⟩ := h; exact ⟨_, h1⟩
  have hC := ev_Code (n - 2) S id c p e hb
  have hP := ev_Place (n - 2) S id c p e hb
  have hD := ev_Depth (n - 2) S d hd (by omega) id c p h
  have hS := ev_same 2 zX zX (by decide) (by decide) (by omega) n (by omega) S
  rw [show n - 2 + 2 = n by omega] at hC hP hD
  rw [same_refl] at hS
  have hz25 : zeroQ Tryz.prog 25 = some z6 := by kernel_rfl
  have ez : evBuild Tryz.prog 25 [] = some zX.emb := bXz
  have zc := xcells zX
  have zl := xlen zX
  have zt := xtake zX
  have ze := xemb zX
  have zd : List.drop 6 zX.cells = [] := rfl
  have yc := xcells y
  have yl := xlen y
  have yt := xtake y
  have ye := xemb y
  have hti := tf27
  have hb30 := tb30
  have hcF : (AV.agg [.int .i64 c, .int .i64 p, .int .i64 ((d + 1 : Nat) : Int)]).cells? = some [.int .i64 c, .int .i64 p, .int .i64 ((d + 1 : Nat) : Int)] := rfl
  generalize ((d + 1 : Nat) : Int) = D at *
  generalize zX.cells = zcs at *
  generalize zX.emb = zem at *
  generalize y.cells = ycs at *
  generalize y.emb = yem at *
  generalize z6 = z at *
  rw [ev_enter (n := n) (show E.ok 9 = true from rfl) Tryz.func9 (fn := Tryz.f9) rfl (Nat.le_of_ble_eq_true rfl) (by decide +kernel)]
  simp (disch := first | (simp only [List.length_append, List.length_cons, List.length_nil]; omega) | (simp; done) | assumption) [AV.cells?, AV.isCell, -AV.cells?, cq_int, cq_nilif, cq_iface, cq_bool, -evBuild, Tryz.f9, E_esc, hc, hC, hP, hD, hS, hz25, ez, zc, zl, zt, ze, zd, yc, yl, yt, ye, hcF, fc, fa, fk, fi, fq0', fq1', fq2', k3, c3, a3, i3, c24, a24, k24, i24, bq3, hb30, ofC]
set_option maxHeartbeats 8000000 in
theorem ev_likeO (n : Nat) (S : St) (x : X) (hx : x.size ≤ 1048576) (hn : 1048580 ≤ n) :
    ev Tryz.prog E (n + 1) 9 [x.emb, .nilif, x.emb, .agg fzL] S = some (.ret (.bool true), S) := by
  have hS := ev_same 1048576 x x hx hx (by omega) n (by omega) S
  rw [same_refl] at hS
  have xc := xcells x
  have xl := xlen x
  have xt := xtake x
  have xe := xemb x
  have hti := tf27
  have hb30 := tb30
  have hcF : (AV.agg fzL).cells? = some fzL := rfl
  simp only [fzL] at *
  generalize x.cells = xcs at *
  generalize x.emb = xem at *
  rw [ev_enter (n := n) (show E.ok 9 = true from rfl) Tryz.func9 (fn := Tryz.f9) rfl (Nat.le_of_ble_eq_true rfl) (by decide +kernel)]
  simp (disch := first | (simp only [List.length_append, List.length_cons, List.length_nil]; omega) | (simp; done) | assumption) [AV.cells?, AV.isCell, -AV.cells?, cq_int, cq_nilif, cq_iface, cq_bool, -evBuild, Tryz.f9, E_esc, hS, xc, xl, xt, xe, hcF, fc, fa, fk, fi, fq0', fq1', fq2', k3, c3, a3, i3, c24, a24, k24, i24, bq3, hb30, ofC]
end Go.Proofs.YtemggoaefohliaaGreatDoor.RP
/- The reference's lexer: letters; how far a name's letters go; where a text ends, evaluated. No condition. -/
namespace Go.Proofs.YtemggoaefohliaaGreatDoor.LR6
set_option linter.unusedVariables false
set_option linter.unusedSimpArgs false
open Go AE EX PT NF LX PS RP
set_option maxRecDepth 100000

theorem ev_head6 (n : Nat) (c : Int) (S : St) : ev Tryz.prog E (n + 1) 80 [.int .u8 c] S = some (.ret (.bool (headB c)), S) := by
  rw [ev_enter (n := n) (show E.ok 80 = true from rfl) Tryz.func80 (fn := Tryz.f80) rfl (Nat.le_of_ble_eq_true rfl) (by decide +kernel)]
  cases h1 : decide (97 ≤ c) <;> cases h2 : decide (c ≤ 122) <;> cases h3 : decide (65 ≤ c) <;> cases h4 : decide (c ≤ 90) <;> cases h5 : c == 95 <;>
    simp (disch := first | (simp only [List.length_append, List.length_cons, List.length_nil]; omega) | (simp; done) | assumption) [AV.cells?, AV.isCell, Tryz.f80, RP.bq5, headB, h1, h2, h3, h4, h5]
theorem ev_tail6 (n : Nat) (c : Int) (S : St) : ev Tryz.prog E (n + 2) 96 [.int .u8 c] S = some (.ret (.bool (tailB c)), S) := by
  have hh := ev_head6 n c S
  rw [show n + 2 = (n + 1) + 1 from rfl, ev_enter (n := n + 1) (show E.ok 96 = true from rfl) Tryz.func96 (fn := Tryz.f96) rfl (Nat.le_of_ble_eq_true rfl) (by decide +kernel)]
  cases h0 : headB c <;> rw [h0] at hh <;> cases h1 : decide (48 ≤ c) <;> cases h2 : decide (c ≤ 57) <;>
    simp (disch := first | (simp only [List.length_append, List.length_cons, List.length_nil]; omega) | (simp; done) | assumption) [AV.cells?, AV.isCell, Tryz.f96, RP.bq5, tailB, h0, h1, h2, hh]

/-! ### far -/
noncomputable def frLoop : Code := cutC (bodyOf Tryz.f81) [1, 0, 0, 0]
noncomputable def fr0 : Code := cutC (bodyOf Tryz.f81) [0]
noncomputable def fr2 : Code := cutC (bodyOf Tryz.f81) [1, 1]
theorem fbfr : Tryz.f81.body = some (.seq fr0 (.seq (.block 0 (.loop frLoop)) fr2)) := rfl
def FRI (s : List UInt8) (p : Nat) (L : St) (m : Nat) (fs : FS) : Prop :=
  ∃ q, q + m = s.length ∧ p ≤ q ∧ fs.t 0 = .str s ∧ fs.t 1 = .int .i64 (q : Int) ∧ fs.S = L ∧ ∀ j c, p ≤ j → j < q → s[j]? = some c → tl c = true
def FRQ (s : List UInt8) (p : Nat) (L : St) (r : Out × FS) : Prop := r.2.S = L ∧ r.1 = .exit 0 ∧ r.2.t 1 = .int .i64 (far s p : Int)
theorem fr_round (n : Nat) (s : List UInt8) (p : Nat) (L : St) (hs : s.length ≤ 1100000) (m : Nat) (fs : FS) (h : FRI s p L m fs) :
    ∃ o fs', evCode ⟨Tryz.prog, E.esc 81, n + 2⟩ (ev Tryz.prog E (n + 2)) (E.ps 81) (n + 2) frLoop fs = some (o, fs') ∧ ((o = .norm ∧ ∃ m', m' < m ∧ FRI s p L m' fs') ∨ (o ≠ .norm ∧ FRQ s p L (o, fs'))) := by
  obtain ⟨t, b, c, S⟩ := fs
  obtain ⟨q, hq, hp, h0, h1, hS, hall⟩ := h
  simp only at h0 h1 hS
  subst hS
  cases m with
  | zero =>
    have hq' : q = s.length := by omega
    subst hq'
    have hfar : far s p = s.length := far_eq hp (Nat.le_refl _) hall (fun c hc => by simp at hc)
    refine ⟨.exit 0, _, by
      simp (disch := first | (simp only [List.length_append, List.length_cons, List.length_nil]; omega) | (simp; done) | assumption) [AV.cells?, AV.isCell, frLoop, cutC, bodyOf, Tryz.f81, E_esc, h0, h1, sq9, bq3]
      rfl, .inr ⟨by simp, rfl, rfl, by rw [hfar]; simp [upd, h1]⟩⟩
  | succ m =>
    have hlt : q < s.length := by omega
    have hltz : (q : Int) < s.length := by omega
    have hxe : s[q]? = some s[q] := List.getElem?_eq_getElem hlt
    have hidx : evIndex Tryz.prog 9 (.str s) (.int .i64 (q : Int)) = some (.int .u8 (s[q].toNat : Int)) := by simp [evIndex, sq9, hlt]
    have ht := ev_tail6 n (s[q].toNat : Int) S
    have hw : IntKind.i64.wrap ((q : Int) + 1) = ((q + 1 : Nat) : Int) := by rw [wrap64 _ (by omega)]; omega
    have htl : tl s[q] = tailB (s[q].toNat : Int) := rfl
    generalize s[q] = x at *
    cases e1 : tailB (x.toNat : Int)
    · rw [e1] at ht htl
      have hfar : far s p = q := far_eq hp (by omega) hall (fun c hc => by rw [hxe] at hc; cases hc; exact htl)
      refine ⟨.exit 0, _, by
        simp (disch := first | (simp only [List.length_append, List.length_cons, List.length_nil]; omega) | (simp; done) | assumption) [AV.cells?, AV.isCell, -evIndex, frLoop, cutC, bodyOf, Tryz.f81, E_esc, h0, h1, sq9, bq3, hlt, hltz, hidx, ht]
        rfl, .inr ⟨by simp, rfl, rfl, by rw [hfar]; simp [upd, h1]⟩⟩
    · rw [e1] at ht htl
      refine ⟨.norm, _, by
        simp (disch := first | (simp only [List.length_append, List.length_cons, List.length_nil]; omega) | (simp; done) | assumption) [AV.cells?, AV.isCell, -evIndex, frLoop, cutC, bodyOf, Tryz.f81, E_esc, h0, h1, sq9, bq3, hlt, hltz, hidx, ht]
        rfl, .inl ⟨rfl, m, by omega, q + 1, by omega, by omega, by simp [upd, h0], by simp [upd, hw], rfl, fun j c h1 h2 hc => by
          by_cases hj : j = q
          · subst hj; rw [hxe] at hc; cases hc; exact htl
          · exact hall j c h1 (by omega) hc⟩⟩
theorem ev_far6 (n : Nat) (s : List UInt8) (p : Nat) (S : St) (hs : s.length ≤ 1100000) (hp : p ≤ s.length) (hn : s.length < n) :
    ev Tryz.prog E (n + 3) 81 [.str s, .int .i64 (p : Int)] S = some (.ret (.int .i64 (far s p)), S) := by
  rw [show n + 3 = (n + 2) + 1 from rfl, ev_enter (n := n + 2) (show E.ok 81 = true from rfl) Tryz.func81 fbfr (Nat.le_of_ble_eq_true rfl) (by decide +kernel)]
  obtain ⟨fs1, e1, p1⟩ : ∃ fs', evCode ⟨Tryz.prog, E.esc 81, n + 2⟩ (ev Tryz.prog E (n + 2)) (E.ps 81) (n + 2) fr0 ⟨argsA [.str s, .int .i64 (p : Int)], fun _ => (0, []), 0, S⟩ = some (.norm, fs') ∧ FRI s p S (s.length - p) fs' := by
    refine ⟨_, by
      simp (disch := first | (simp only [List.length_append, List.length_cons, List.length_nil]; omega) | (simp; done) | assumption) [AV.cells?, AV.isCell, fr0, cutC, bodyOf, Tryz.f81, E_esc]
      rfl, p, by omega, Nat.le_refl _, by simp [upd, argsA], by simp [upd, argsA], rfl, fun j c h1 h2 => by omega⟩
  obtain ⟨⟨o, fs2⟩, r1, r2, r3, r4⟩ := iter_meas (fun m' fs h => fr_round n s p S hs m' fs h) (s.length - p) (n + 2) fs1 (by omega) p1
  simp only at r2 r3 r4
  subst r3
  rw [evCode_seq, e1, seqK_norm, evCode_seq, evCode_block, evCode_loop, r1, blockK_exit, if_pos rfl, seqK_norm]
  obtain ⟨t, b, c, S'⟩ := fs2
  simp only at r2 r4
  subst r2
  simp (disch := first | (simp only [List.length_append, List.length_cons, List.length_nil]; omega) | (simp; done) | assumption) [AV.cells?, AV.isCell, fr2, cutC, bodyOf, Tryz.f81, r4]

/-! ### quote -/
/-- where a text ends that begins at p -/
def quF (s : List UInt8) : Nat → Nat → Int
  | 0, i => -1
  | f + 1, i => match s[i]? with
    | none => -1
    | some c => if c.toNat = 34 then (i : Int) else if c.toNat = 10 then -1 else quF s f (i + 1)
noncomputable def quLoop : Code := cutC (bodyOf Tryz.f83) [1, 0, 1, 0, 0]
noncomputable def qu0 : Code := cutC (bodyOf Tryz.f83) [0]
noncomputable def qu1 : Code := cutC (bodyOf Tryz.f83) [1, 0, 0]
noncomputable def qu2 : Code := cutC (bodyOf Tryz.f83) [1, 1]
theorem fbqu : Tryz.f83.body = some (.seq qu0 (.seq (.seq qu1 (.block 0 (.loop quLoop))) qu2)) := rfl
def QUI (s : List UInt8) (R : Int) (L : St) (m : Nat) (fs : FS) : Prop :=
  ∃ q f, m = s.length - q ∧ q ≤ s.length ∧ m < f ∧ fs.t 0 = .str s ∧ fs.t 5 = .int .i64 (q : Int) ∧ fs.S = L ∧ quF s f q = R
def QUQ (s : List UInt8) (R : Int) (L : St) (r : Out × FS) : Prop := r.2.S = L ∧ ((r.1 = .exit 0 ∧ R = -1) ∨ (r.1 = .ret ∧ r.2.t 4 = .int .i64 R))
theorem qu_round (n : Nat) (s : List UInt8) (R : Int) (L : St) (hs : s.length ≤ 1100000) (m : Nat) (fs : FS) (h : QUI s R L m fs) :
    ∃ o fs', evCode ⟨Tryz.prog, E.esc 83, n⟩ (ev Tryz.prog E n) (E.ps 83) n quLoop fs = some (o, fs') ∧ ((o = .norm ∧ ∃ m', m' < m ∧ QUI s R L m' fs') ∨ (o ≠ .norm ∧ QUQ s R L (o, fs'))) := by
  obtain ⟨t, b, c, S⟩ := fs
  obtain ⟨q, f, hm, hq, hmf, h0, h3, hS, hR⟩ := h
  simp only at h0 h3 hS
  subst hS
  obtain ⟨f, rfl⟩ : ∃ g, f = g + 1 := ⟨f - 1, by omega⟩
  rw [quF] at hR
  by_cases hlt : q < s.length
  · have hltz : (q : Int) < s.length := by omega
    have hxe : s[q]? = some s[q] := List.getElem?_eq_getElem hlt
    have hidx : evIndex Tryz.prog 9 (.str s) (.int .i64 (q : Int)) = some (.int .u8 (s[q].toNat : Int)) := by simp [evIndex, sq9, hlt]
    have hw : IntKind.i64.wrap ((q : Int) + 1) = ((q + 1 : Nat) : Int) := by rw [wrap64 _ (by omega)]; omega
    rw [hxe] at hR
    simp only at hR
    generalize s[q] = x at *
    by_cases e1 : x.toNat = 34
    · have e1z : ((x.toNat : Int) = 34) ↔ True := ⟨fun _ => trivial, fun _ => by omega⟩
      rw [if_pos e1] at hR
      refine ⟨.ret, _, by
        simp (disch := first | (simp only [List.length_append, List.length_cons, List.length_nil]; omega) | (simp; done) | assumption) [AV.cells?, AV.isCell, -evIndex, quLoop, cutC, bodyOf, Tryz.f83, E_esc, h0, h3, sq9, bq3, RP.bq5, hlt, hltz, hidx, e1z]
        rfl, .inr ⟨by simp, rfl, .inr ⟨rfl, by simp [upd, hR]⟩⟩⟩
    · have e1z : ¬ (x.toNat : Int) = 34 := by omega
      rw [if_neg e1] at hR
      by_cases e2 : x.toNat = 10
      · have e2z : ((x.toNat : Int) = 10) ↔ True := ⟨fun _ => trivial, fun _ => by omega⟩
        rw [if_pos e2] at hR
        refine ⟨.ret, _, by
          simp (disch := first | (simp only [List.length_append, List.length_cons, List.length_nil]; omega) | (simp; done) | assumption) [AV.cells?, AV.isCell, -evIndex, quLoop, cutC, bodyOf, Tryz.f83, E_esc, h0, h3, sq9, bq3, RP.bq5, hlt, hltz, hidx, e1z, e2z]
          rfl, .inr ⟨by simp, rfl, .inr ⟨rfl, by simp [upd, hR]⟩⟩⟩
      · have e2z : ¬ (x.toNat : Int) = 10 := by omega
        rw [if_neg e2] at hR
        refine ⟨.norm, _, by
          simp (disch := first | (simp only [List.length_append, List.length_cons, List.length_nil]; omega) | (simp; done) | assumption) [AV.cells?, AV.isCell, -evIndex, quLoop, cutC, bodyOf, Tryz.f83, E_esc, h0, h3, sq9, bq3, RP.bq5, hlt, hltz, hidx, e1z, e2z]
          rfl, .inl ⟨rfl, s.length - (q + 1), by omega, q + 1, f, rfl, by omega, by omega, by simp [upd, h0], by simp [upd, hw], rfl, hR⟩⟩
  · have hltz : ¬ (q : Int) < s.length := by omega
    have hxe : s[q]? = none := List.getElem?_eq_none (by omega)
    rw [hxe] at hR
    refine ⟨.exit 0, _, by
      simp (disch := first | (simp only [List.length_append, List.length_cons, List.length_nil]; omega) | (simp; done) | assumption) [AV.cells?, AV.isCell, quLoop, cutC, bodyOf, Tryz.f83, E_esc, h0, h3, sq9, bq3, hlt, hltz]
      rfl, .inr ⟨by simp, rfl, .inl ⟨rfl, hR.symm⟩⟩⟩
theorem ev_quote6 (n : Nat) (s : List UInt8) (p : Nat) (S : St) (hs : s.length ≤ 1100000) (hp : p < s.length) (hn : s.length < n) :
    ev Tryz.prog E (n + 1) 83 [.str s, .int .i64 (p : Int)] S = some (.ret (.int .i64 (quF s (s.length + 1) (p + 1))), S) := by
  rw [ev_enter (n := n) (show E.ok 83 = true from rfl) Tryz.func83 fbqu (Nat.le_of_ble_eq_true rfl) (by decide +kernel)]
  obtain ⟨fs1, e1, p1⟩ : ∃ fs', evCode ⟨Tryz.prog, E.esc 83, n⟩ (ev Tryz.prog E n) (E.ps 83) n (.seq qu0 qu1) ⟨argsA [.str s, .int .i64 (p : Int)], fun _ => (0, []), 0, S⟩ = some (.norm, fs') ∧ QUI s (quF s (s.length + 1) (p + 1)) S (s.length - (p + 1)) fs' := by
    have hw : IntKind.i64.wrap ((p : Int) + 1) = ((p + 1 : Nat) : Int) := by rw [wrap64 _ (by omega)]; omega
    refine ⟨_, by
      simp (disch := first | (simp only [List.length_append, List.length_cons, List.length_nil]; omega) | (simp; done) | assumption) [AV.cells?, AV.isCell, qu0, qu1, cutC, bodyOf, Tryz.f83, E_esc]
      rfl, p + 1, s.length + 1, rfl, by omega, by omega, by simp [upd, argsA], by simp [upd, hw], rfl, rfl⟩
  obtain ⟨⟨o, fs2⟩, r1, r2, r3⟩ := iter_meas (fun m' fs h => qu_round n s _ S hs m' fs h) (s.length - (p + 1)) n fs1 (by omega) p1
  simp only at r2 r3
  generalize quF s (s.length + 1) (p + 1) = R at *
  obtain ⟨t, b, c, S'⟩ := fs2
  simp only at r2 r3
  subst r2
  rcases r3 with ⟨q1, q2⟩ | ⟨q1, q2⟩
  · subst q1 q2
    rw [evCode_assoc, evCode_seq, evCode_assoc, evCode_seq, e1, seqK_norm, evCode_block, evCode_loop, r1, blockK_exit, if_pos rfl, seqK_norm]
    simp (disch := first | (simp only [List.length_append, List.length_cons, List.length_nil]; omega) | (simp; done) | assumption) [AV.cells?, AV.isCell, qu2, cutC, bodyOf, Tryz.f83]
  · subst q1
    rw [evCode_assoc, evCode_seq, evCode_assoc, evCode_seq, e1, seqK_norm, evCode_block, evCode_loop, r1, blockK_ret]
    simp (disch := first | (simp only [List.length_append, List.length_cons, List.length_nil]; omega) | (simp; done) | assumption) [AV.cells?, AV.isCell, qu2, cutC, bodyOf, Tryz.f83, q2]
end Go.Proofs.YtemggoaefohliaaGreatDoor.LR6
/- The reference's numbers are the program's: the plain law. No condition. -/
namespace Go.Proofs.YtemggoaefohliaaGreatDoor.LR6
set_option linter.unusedVariables false
set_option linter.unusedSimpArgs false
open Go AE EX PT NF LX PS RP
set_option maxRecDepth 100000

def maxS : List UInt8 := [57, 50, 50, 51, 51, 55, 50, 48, 51, 54, 56, 53, 52, 55, 55, 53, 56, 48, 55]
def badP (s : List UInt8) : Bool := s == [] || decide (19 < s.length) || (decide (1 < s.length) && s.head? == some 48) || (s.length == 19 && !(Op.bytesLess s maxS || s == maxS))
def parse6 (s : List UInt8) : Option Nat := if badP s = true then none else if s.all isDig = true then some (val s) else none
theorem fold_add : ∀ (l : List UInt8) (a : Nat), l.foldl (fun v c => v * 10 + (c.toNat - 48)) a = a * 10 ^ l.length + l.foldl (fun v c => v * 10 + (c.toNat - 48)) 0
  | [], a => by simp
  | c :: l, a => by
    have h1 := fold_add l (a * 10 + (c.toNat - 48))
    have h2 := fold_add l (0 * 10 + (c.toNat - 48))
    simp only [List.foldl_cons, List.length_cons]
    rw [h1, h2, Nat.pow_succ, Nat.zero_mul, Nat.zero_add, Nat.add_mul, Nat.add_assoc]
    congr 1
    rw [Nat.mul_assoc, Nat.mul_comm 10]
theorem val_cons (c : UInt8) (r : List UInt8) : val (c :: r) = (c.toNat - 48) * 10 ^ r.length + val r := by
  unfold val
  rw [List.foldl_cons, fold_add]
  simp
theorem dig_lt {c : UInt8} (h : isDig c = true) : c.toNat - 48 < 10 ∧ 48 ≤ c.toNat := by
  simp [isDig] at h; omega
theorem val_lt : ∀ s : List UInt8, s.all isDig = true → val s < 10 ^ s.length
  | [], _ => by simp [val]
  | c :: r, h => by
    simp only [List.all_cons, Bool.and_eq_true] at h
    have ih := val_lt r h.2
    have hc := (dig_lt h.1).1
    rw [val_cons, List.length_cons, Nat.pow_succ]
    have := Nat.mul_le_mul_right (10 ^ r.length) (show c.toNat - 48 + 1 ≤ 10 by omega)
    rw [Nat.add_mul] at this
    omega
theorem less_val : ∀ a b : List UInt8, a.length = b.length → a.all isDig = true → b.all isDig = true → (Op.bytesLess a b = true ↔ val a < val b)
  | [], [], _, _, _ => by simp [Op.bytesLess, val]
  | [], _ :: _, h, _, _ => by simp at h
  | _ :: _, [], h, _, _ => by simp at h
  | c :: r, d :: q, h, h1, h2 => by
    simp only [List.all_cons, Bool.and_eq_true] at h1 h2
    have hl : r.length = q.length := by simpa using h
    have ih := less_val r q hl h1.2 h2.2
    have v1 := val_lt r h1.2
    have v2 := val_lt q h2.2
    have hc := (dig_lt h1.1).2
    have hd := (dig_lt h2.1).2
    rw [val_cons, val_cons, hl]
    rw [hl] at v1
    generalize 10 ^ q.length = T at *
    simp only [Op.bytesLess]
    by_cases e : c = d
    · subst e
      simp [ih]
    · have hne : c.toNat ≠ d.toNat := fun h => e (UInt8.toNat_inj.1 h)
      by_cases g : c.toNat < d.toNat
      · have := Nat.mul_le_mul_right T (show c.toNat - 48 + 1 ≤ d.toNat - 48 by omega)
        rw [Nat.add_mul] at this
        have hlt : c < d := UInt8.lt_iff_toNat_lt.2 g
        simp [hlt, e]
        omega
      · have := Nat.mul_le_mul_right T (show d.toNat - 48 + 1 ≤ c.toNat - 48 by omega)
        rw [Nat.add_mul] at this
        have hlt : ¬ c < d := fun h => g (UInt8.lt_iff_toNat_lt.1 h)
        simp [hlt, e]
        omega
theorem dig_back {c : UInt8} (h : isDig c = true) : dig (c.toNat - 48) = c := by
  have h1 := dig_lt h
  apply UInt8.toNat_inj.1
  rw [dig_nat h1.1]
  omega
theorem val_pos : ∀ l : List UInt8, l.all isDig = true → l ≠ [] → l.head? ≠ some 48 → 1 ≤ val l
  | [], _, h, _ => absurd rfl h
  | c :: r, h, _, h1 => by
    simp only [List.all_cons, Bool.and_eq_true] at h
    have hd := (dig_lt h.1).2
    have hne : c.toNat ≠ 48 := fun e => h1 (by simp; exact UInt8.toNat_inj.1 e)
    rw [val_cons]
    have := Nat.mul_le_mul (show 1 ≤ c.toNat - 48 by omega) (Nat.one_le_pow r.length 10 (by omega))
    omega
theorem dg_val : ∀ (n : Nat) (s : List UInt8), s.length = n → s.all isDig = true → s ≠ [] → (s.length = 1 ∨ s.head? ≠ some 48) → dg (val s) = s := by
  intro n
  induction n with
  | zero => intro s hs _ hne _; exact absurd (List.length_eq_zero_iff.1 hs) hne
  | succ n ih =>
    intro s hs ha hne hh
    obtain ⟨l, c, rfl⟩ : ∃ l c, s = l ++ [c] := ⟨s.dropLast, s.getLast hne, (List.dropLast_concat_getLast hne).symm⟩
    have hln : l.length = n := by simpa using hs
    rw [List.all_append, Bool.and_eq_true] at ha
    have hc : isDig c = true := by simpa using ha.2
    have hd := dig_lt hc
    rw [val_snoc]
    by_cases h0 : l = []
    · subst h0
      rw [dg_lt (by simp [val]; omega)]
      simp [val, dig_back hc]
    · have hhl : l.head? ≠ some 48 := by
        rcases hh with h | h
        · exfalso
          have : l.length = 0 := by simpa using h
          exact h0 (List.length_eq_zero_iff.1 this)
        · intro e
          apply h
          rw [List.head?_append, e]
          rfl
      have hp := val_pos l ha.1 h0 hhl
      rw [dg_ge (by omega), show (val l * 10 + (c.toNat - 48)) / 10 = val l by omega, show (val l * 10 + (c.toNat - 48)) % 10 = c.toNat - 48 by omega, ih l hln ha.1 h0 (.inr hhl), dig_back hc]
theorem dg_head : ∀ (k u : Nat), u < 10 ^ k → 1 ≤ u → (dg u).head? ≠ some 48
  | 0, u, h, h1 => by simp at h; omega
  | k + 1, u, h, h1 => by
    by_cases h10 : u < 10
    · rw [dg_lt h10]
      intro e
      have e2 : dig u = 48 := by simpa using e
      have e3 := dig_nat h10
      rw [e2] at e3
      have : (48 : UInt8).toNat = 48 := rfl
      omega
    · have ih := dg_head k (u / 10) (by rw [Nat.pow_succ] at h; omega) (by omega)
      rw [dg_ge h10, List.head?_append]
      cases hq : (dg (u / 10)).head? with
      | none =>
        exfalso
        have := dg_pos (u / 10)
        rw [List.head?_eq_none_iff] at hq
        rw [hq] at this
        simp at this
      | some z =>
        rw [hq] at ih
        simpa using ih
theorem max_val : val maxS = 9223372036854775807 := by decide +kernel
theorem max_all : maxS.all isDig = true := by decide +kernel
theorem good_val {s : List UInt8} (hb : badP s = false) (ha : s.all isDig = true) : val s ≤ 9223372036854775807 := by
  simp only [badP, Bool.or_eq_false_iff, Bool.and_eq_false_iff, decide_eq_false_iff_not, beq_eq_false_iff_ne, ne_eq] at hb
  obtain ⟨⟨⟨h1, h2⟩, h3⟩, h4⟩ := hb
  by_cases h19 : s.length = 19
  · have hl : Op.bytesLess s maxS = true ∨ s = maxS := by
      rcases h4 with h | h
      · exact absurd h19 h
      · cases e : Op.bytesLess s maxS
        · rw [e] at h
          exact .inr (by simpa using h)
        · exact .inl rfl
    rcases hl with hl | hl
    · have hv := (less_val s maxS (by rw [h19]; rfl) ha max_all).1 hl
      rw [max_val] at hv
      omega
    · rw [hl, max_val]
      exact Nat.le_refl _
  · have hv := val_lt s ha
    have := Nat.pow_le_pow_right (show 0 < 10 by omega) (show s.length ≤ 18 by omega)
    have : 10 ^ 18 ≤ 9223372036854775807 := by decide +kernel
    omega
theorem parse6_eq (s : List UInt8) : parse6 s = parseN s := by
  unfold parse6 parseN
  have hdec : dec ((val s : Nat) : Int) = dg (val s) := by rw [dec_pos (by omega)]; rfl
  rw [hdec]
  by_cases ha : s.all isDig = true
  · cases hb : badP s
    · rw [if_neg (by simp), if_pos ha, if_pos]
      have hv := good_val hb ha
      refine ⟨ha, hv, ?_⟩
      simp only [badP, Bool.or_eq_false_iff, Bool.and_eq_false_iff, decide_eq_false_iff_not, beq_eq_false_iff_ne, ne_eq] at hb
      obtain ⟨⟨⟨h1, h2⟩, h3⟩, h4⟩ := hb
      have hpos : s.length ≠ 0 := fun e => h1 (List.length_eq_zero_iff.1 e)
      refine dg_val s.length s rfl ha h1 ?_
      rcases h3 with h | h
      · exact .inl (by omega)
      · exact .inr h
    · rw [if_pos rfl, if_neg]
      rintro ⟨_, hv, hd⟩
      simp only [badP, Bool.or_eq_true, Bool.and_eq_true, decide_eq_true_eq, beq_iff_eq] at hb
      have h19 : 10 ^ 19 = 10000000000000000000 := by decide +kernel
      have hl := dg_len 18 (val s) (by omega)
      rw [hd] at hl
      rcases hb with ((h | h) | h) | h
      · have := dg_pos (val s)
        rw [hd, h] at this
        simp at this
      · omega
      · have h0 : 1 ≤ val s := by
          by_cases e : val s = 0
          · exfalso
            rw [e, dg_lt (by omega)] at hd
            rw [← hd] at h
            simp at h
          · omega
        have := dg_head 19 (val s) (by omega) h0
        rw [hd] at this
        exact this h.2
      · obtain ⟨hl19, hno⟩ := h
        simp only [Bool.not_eq_true', Bool.or_eq_false_iff, beq_eq_false_iff_ne, ne_eq] at hno
        have hv2 := (less_val s maxS (by rw [hl19]; rfl) ha max_all)
        rw [max_val] at hv2
        have hlt : ¬ val s < 9223372036854775807 := fun h => by
          have := hv2.2 h
          rw [hno.1] at this
          cases this
        have he : val s = 9223372036854775807 := by omega
        have hm := dg_val 19 maxS rfl max_all (by decide) (.inr (by decide))
        rw [max_val, ← he, hd] at hm
        exact hno.2 hm
  · rw [if_neg (show ¬ (s.all isDig = true ∧ _) from fun h => ha h.1), if_neg ha]
    split <;> rfl
end Go.Proofs.YtemggoaefohliaaGreatDoor.LR6
/- The reference's Parse of numbers, evaluated. No condition. -/
namespace Go.Proofs.YtemggoaefohliaaGreatDoor.LR6
set_option linter.unusedVariables false
set_option linter.unusedSimpArgs false
open Go AE EX PT NF LX PS RP
set_option maxRecDepth 100000

noncomputable def paLoop : Code := cutC (bodyOf Tryz.f82) [1, 1, 1, 0, 1, 0, 0]
noncomputable def pa0 : Code := cutC (bodyOf Tryz.f82) [0]
noncomputable def pa1 : Code := cutC (bodyOf Tryz.f82) [1, 0]
noncomputable def pa2 : Code := cutC (bodyOf Tryz.f82) [1, 1, 0]
noncomputable def pa3 : Code := cutC (bodyOf Tryz.f82) [1, 1, 1, 0, 0]
noncomputable def pa4 : Code := cutC (bodyOf Tryz.f82) [1, 1, 1, 1]
theorem fbpa : Tryz.f82.body = some (.seq pa0 (.seq pa1 (.seq pa2 (.seq (.seq pa3 (.block 0 (.loop paLoop))) pa4)))) := rfl
def PAI (s : List UInt8) (S0 : St) (m : Nat) (fs : FS) : Prop :=
  ∃ i, i + m = s.length ∧ fs.t 0 = .str s ∧ fs.t 4 = .int .i64 (val (s.take i) : Int) ∧ fs.t 5 = .int .i64 (i : Int) ∧ fs.S = S0 ∧ (s.take i).all isDig = true
def PAQ (s : List UInt8) (S0 : St) (r : Out × FS) : Prop :=
  r.2.S = S0 ∧ ((r.1 = .exit 0 ∧ r.2.t 4 = .int .i64 (val s : Int) ∧ s.all isDig = true) ∨ (r.1 = .ret ∧ r.2.t 2 = .int .i64 0 ∧ r.2.t 3 = .bool false ∧ s.all isDig = false))
theorem evBin_gtrS {bq : Bool} {s t : List UInt8} : evBin bq .gtr (.str s) (.str t) = some (.bool (!(Op.bytesLess s t || s == t))) := by simp [evBin]
set_option maxHeartbeats 4000000 in
theorem pa_round (n : Nat) (s : List UInt8) (S0 : St) (hs : s.length ≤ 19) (hb : badP s = false) (m : Nat) (fs : FS) (h : PAI s S0 m fs) :
    ∃ o fs', evCode ⟨Tryz.prog, E.esc 82, n⟩ (ev Tryz.prog E n) (E.ps 82) n paLoop fs = some (o, fs') ∧ ((o = .norm ∧ ∃ m', m' < m ∧ PAI s S0 m' fs') ∨ (o ≠ .norm ∧ PAQ s S0 (o, fs'))) := by
  obtain ⟨t, b, v, S⟩ := fs
  obtain ⟨i, hi, h0, h4, h5, hS, hall⟩ := h
  simp only at h0 h4 h5 hS
  subst hS
  cases m with
  | zero =>
    have hi' : i = s.length := by omega
    subst hi'
    rw [List.take_length] at hall h4
    refine ⟨.exit 0, _, by
      simp (disch := first | (simp only [List.length_append, List.length_cons, List.length_nil]; omega) | (simp; done) | assumption) [AV.cells?, AV.isCell, paLoop, cutC, bodyOf, Tryz.f82, h0, h4, h5, bq3, sq9]
      rfl, .inr ⟨by simp, rfl, .inl ⟨rfl, by simp [upd, h4], hall⟩⟩⟩
  | succ m =>
    have hlt : i < s.length := by omega
    have hltz : (i : Int) < s.length := by omega
    have hxe : s[i]? = some s[i] := List.getElem?_eq_getElem hlt
    have hmem : s[i] ∈ s := List.getElem_mem hlt
    have hidx : evIndex Tryz.prog 9 (.str s) (.int .i64 (i : Int)) = some (.int .u8 (s[i].toNat : Int)) := by simp [evIndex, sq9, hlt]
    have htake : s.take (i + 1) = s.take i ++ [s[i]] := by rw [List.take_add_one, hxe]; rfl
    have hvs : val (s.take (i + 1)) = val (s.take i) * 10 + (s[i].toNat - 48) := by rw [htake, val_snoc]
    have hw : IntKind.i64.wrap ((i : Int) + 1) = ((i + 1 : Nat) : Int) := by rw [wrap64 _ (by omega)]; omega
    have hbnd : (s.take (i + 1)).all isDig = true → val (s.take (i + 1)) ≤ 9223372036854775807 := fun ha => by
      by_cases he : i + 1 = s.length
      · rw [he, List.take_length] at ha ⊢
        exact good_val hb ha
      · have hv := val_lt _ ha
        have hl : (s.take (i + 1)).length ≤ 18 := by rw [List.length_take]; omega
        have := Nat.pow_le_pow_right (show 0 < 10 by omega) hl
        have : 10 ^ 18 ≤ 9223372036854775807 := by decide +kernel
        omega
    have hx256 := s[i].toNat_lt
    generalize s[i] = x at *
    by_cases g1 : (x.toNat : Int) < 48
    · refine ⟨.ret, _, by
        simp (disch := first | (simp only [List.length_append, List.length_cons, List.length_nil]; omega) | (simp; done) | assumption) [AV.cells?, AV.isCell, -evIndex, paLoop, cutC, bodyOf, Tryz.f82, h0, h4, h5, bq3, RP.bq5, sq9, hlt, hltz, hidx, g1]
        rfl, .inr ⟨by simp, rfl, .inr ⟨rfl, by simp [upd], by simp [upd], ?_⟩⟩⟩
      rw [List.all_eq_false]
      exact ⟨x, hmem, by simp [isDig]; omega⟩
    by_cases g2 : 57 < (x.toNat : Int)
    · refine ⟨.ret, _, by
        simp (disch := first | (simp only [List.length_append, List.length_cons, List.length_nil]; omega) | (simp; done) | assumption) [AV.cells?, AV.isCell, -evIndex, paLoop, cutC, bodyOf, Tryz.f82, h0, h4, h5, bq3, RP.bq5, sq9, hlt, hltz, hidx, g1, g2]
        rfl, .inr ⟨by simp, rfl, .inr ⟨rfl, by simp [upd], by simp [upd], ?_⟩⟩⟩
      rw [List.all_eq_false]
      exact ⟨x, hmem, by simp [isDig]; omega⟩
    have hdig : isDig x = true := by simp [isDig]; omega
    have hall2 : (s.take (i + 1)).all isDig = true := by rw [htake, List.all_append, hall]; simp [hdig]
    have hle := hbnd hall2
    have hsub : IntKind.u8.wrap ((x.toNat : Int) - 48) = ((x.toNat - 48 : Nat) : Int) := by rw [wrapu8 _ (by omega)]; omega
    have hcv : IntKind.i64.wrap ((x.toNat - 48 : Nat) : Int) = ((x.toNat - 48 : Nat) : Int) := wrap64 _ (by omega)
    have hm10 : IntKind.i64.wrap ((val (s.take i) : Int) * 10) = (val (s.take i) : Int) * 10 := wrap64 _ (by omega)
    have hsum : IntKind.i64.wrap ((val (s.take i) : Int) * 10 + ((x.toNat - 48 : Nat) : Int)) = (val (s.take (i + 1)) : Int) := by rw [wrap64 _ (by omega)]; omega
    clear hvs hle hbnd
    generalize x.toNat - 48 = d at *
    generalize hv2 : val (s.take (i + 1)) = v2 at *
    generalize val (s.take i) = v1 at *
    generalize hi1 : i + 1 = i1 at *
    refine ⟨.norm, _, by
      simp (disch := first | (simp only [List.length_append, List.length_cons, List.length_nil]; omega) | (simp; done) | assumption) [AV.cells?, AV.isCell, -evIndex, paLoop, cutC, bodyOf, Tryz.f82, h0, h4, h5, bq3, RP.bq5, bq2, iq5, iq2, sq9, hlt, hltz, hidx, g1, g2, hsub, hcv, hm10, hsum, hw]
      rfl, .inl ⟨rfl, m, by omega, i1, by omega, by simp [upd, h0], by rw [hv2]; simp [upd], by simp [upd], rfl, hall2⟩⟩
set_option maxHeartbeats 4000000 in
theorem pa_pre (n : Nat) (s : List UInt8) (hs : s.length ≤ 1100000) (S : St) :
    (badP s = true → ∃ fs', evCode ⟨Tryz.prog, E.esc 82, n⟩ (ev Tryz.prog E n) (E.ps 82) n (.seq pa0 pa1) ⟨argsA [.str s], fun _ => (0, []), 0, S⟩ = some (.ret, fs') ∧ fs'.t 2 = .int .i64 0 ∧ fs'.t 3 = .bool false ∧ fs'.S = S) ∧
    (badP s = false → ∃ fs', evCode ⟨Tryz.prog, E.esc 82, n⟩ (ev Tryz.prog E n) (E.ps 82) n (.seq pa0 pa1) ⟨argsA [.str s], fun _ => (0, []), 0, S⟩ = some (.norm, fs') ∧ fs'.t 0 = .str s ∧ fs'.S = S) := by
  cases s with
  | nil =>
    refine ⟨fun _ => ⟨_, by
      simp (disch := first | (simp only [List.length_append, List.length_cons, List.length_nil]; omega) | (simp; done) | assumption) [AV.cells?, AV.isCell, pa0, pa1, cutC, bodyOf, Tryz.f82, sq9, bq9, bq3]
      rfl, by simp [upd], by simp [upd], rfl⟩, fun h => by simp [badP] at h⟩
  | cons c r =>
    have hidx : evIndex Tryz.prog 9 (.str (c :: r)) (.int .i64 0) = some (.int .u8 (c.toNat : Int)) := by simp [evIndex, sq9]
    have hne : ((c :: r : List UInt8) == []) = false := rfl
    have hlen : evLen Tryz.prog 9 (.str (c :: r)) = some (.int .i64 ((c :: r).length : Int)) := by simp [evLen, sq9]
    have hbad : badP (c :: r) = (decide (19 < (c :: r).length) || (decide (1 < (c :: r).length) && c == 48) || ((c :: r).length == 19 && !(Op.bytesLess (c :: r) maxS || (c :: r) == maxS))) := by
      simp [badP]
    rw [hbad]
    have hc48 : (c == 48) = ((c.toNat : Int) == 48) := by
      by_cases e : c = 48
      · subst e; rfl
      · have : ¬ (c.toNat : Int) = 48 := fun h => e (UInt8.toNat_inj.1 (by have : (48 : UInt8).toNat = 48 := rfl; omega))
        rw [beq_eq_false_iff_ne.2 e, beq_eq_false_iff_ne.2 this]
    rw [hc48]
    have hm : maxS = [57, 50, 50, 51, 51, 55, 50, 48, 51, 54, 56, 53, 52, 55, 55, 53, 56, 48, 55] := rfl
    simp only [hm] at *
    generalize hs' : c :: r = s at *
    have hnil : (s == []) = false := by rw [← hs']; rfl
    have hnil2 : s ≠ [] := by rw [← hs']; simp
    have hz19 : (decide (19 < s.length)) = decide ((19 : Int) < (s.length : Int)) := by
      by_cases e : 19 < s.length
      · have : (19 : Int) < s.length := by omega
        simp [e, this]
      · have : ¬ (19 : Int) < s.length := by omega
        simp [e, this]
    have hz1 : (decide (1 < s.length)) = decide ((1 : Int) < (s.length : Int)) := by
      by_cases e : 1 < s.length
      · have : (1 : Int) < s.length := by omega
        simp [e, this]
      · have : ¬ (1 : Int) < s.length := by omega
        simp [e, this]
    have hz19e : (s.length == 19) = ((s.length : Int) == 19) := by
      by_cases e : s.length = 19
      · have : (s.length : Int) = 19 := by omega
        simp [e, this]
      · have : ¬ (s.length : Int) = 19 := by omega
        rw [beq_eq_false_iff_ne.2 e, beq_eq_false_iff_ne.2 this]
    rw [hz19, hz1, hz19e]
    generalize (s.length : Int) = L at *
    generalize (c.toNat : Int) = C at *
    by_cases e1 : (19 : Int) < L
    · refine ⟨fun _ => ⟨_, by
        simp (disch := first | (simp only [List.length_append, List.length_cons, List.length_nil]; omega) | (simp; done) | assumption) [AV.cells?, AV.isCell, -evIndex, -evLen, pa0, pa1, cutC, bodyOf, Tryz.f82, sq9, bq9, bq3, RP.bq5, hidx, hlen, hnil, hnil2, e1]
        rfl, by simp [upd], by simp [upd], rfl⟩, fun h => by simp [e1] at h⟩
    · have finish : ∀ B1 : Bool, (decide ((1 : Int) < L) && C == 48) = B1 → (B1 = true → ∃ fs', evCode ⟨Tryz.prog, E.esc 82, n⟩ (ev Tryz.prog E n) (E.ps 82) n (.seq pa0 pa1) ⟨argsA [.str s], fun _ => (0, []), 0, S⟩ = some (.ret, fs') ∧ fs'.t 2 = .int .i64 0 ∧ fs'.t 3 = .bool false ∧ fs'.S = S) := fun B1 h h1 => by
        subst h
        simp only [Bool.and_eq_true, decide_eq_true_eq, beq_iff_eq] at h1
        obtain ⟨g1, g2⟩ := h1
        subst g2
        exact ⟨_, by
          simp (disch := first | (simp only [List.length_append, List.length_cons, List.length_nil]; omega) | (simp; done) | assumption) [AV.cells?, AV.isCell, -evIndex, -evLen, pa0, pa1, cutC, bodyOf, Tryz.f82, sq9, bq9, bq3, RP.bq5, hidx, hlen, hnil, hnil2, e1, g1]
          rfl, by simp [upd], by simp [upd], rfl⟩
      cases eB : (decide ((1 : Int) < L) && C == 48)
      · have two : ∀ (B2 : Bool), (L == 19 && !(Op.bytesLess s [57, 50, 50, 51, 51, 55, 50, 48, 51, 54, 56, 53, 52, 55, 55, 53, 56, 48, 55] || s == [57, 50, 50, 51, 51, 55, 50, 48, 51, 54, 56, 53, 52, 55, 55, 53, 56, 48, 55])) = B2 →
            ∃ o fs', evCode ⟨Tryz.prog, E.esc 82, n⟩ (ev Tryz.prog E n) (E.ps 82) n (.seq pa0 pa1) ⟨argsA [.str s], fun _ => (0, []), 0, S⟩ = some (o, fs') ∧ fs'.S = S ∧ (B2 = true → o = .ret ∧ fs'.t 2 = .int .i64 0 ∧ fs'.t 3 = .bool false) ∧ (B2 = false → o = .norm ∧ fs'.t 0 = .str s) := fun B2 h2 => by
          by_cases g1 : (1 : Int) < L
          · have g2 : ¬ C = 48 := by intro e; simp [g1, e] at eB
            by_cases g3 : L = 19
            · subst g3
              cases e5 : Op.bytesLess s [57, 50, 50, 51, 51, 55, 50, 48, 51, 54, 56, 53, 52, 55, 55, 53, 56, 48, 55]
              · cases e6 : (s == [57, 50, 50, 51, 51, 55, 50, 48, 51, 54, 56, 53, 52, 55, 55, 53, 56, 48, 55])
                · rw [e5, e6] at h2
                  refine ⟨.ret, _, by
                    simp (disch := first | (simp only [List.length_append, List.length_cons, List.length_nil]; omega) | (simp; done) | assumption) [AV.cells?, AV.isCell, -evIndex, -evLen, pa0, pa1, cutC, bodyOf, Tryz.f82, sq9, bq9, bq3, RP.bq5, hidx, hlen, hnil, hnil2, g2, evBin_gtrS, e5, e6]
                    rfl, rfl, fun _ => ⟨rfl, by simp [upd], by simp [upd]⟩, fun h => by subst h; simp at h2⟩
                · rw [e5, e6] at h2
                  refine ⟨.norm, _, by
                    simp (disch := first | (simp only [List.length_append, List.length_cons, List.length_nil]; omega) | (simp; done) | assumption) [AV.cells?, AV.isCell, -evIndex, -evLen, pa0, pa1, cutC, bodyOf, Tryz.f82, sq9, bq9, bq3, RP.bq5, hidx, hlen, hnil, hnil2, g2, evBin_gtrS, e5, e6]
                    rfl, rfl, fun h => by subst h; simp at h2, fun _ => ⟨rfl, by simp [upd, argsA]⟩⟩
              · rw [e5] at h2
                refine ⟨.norm, _, by
                  simp (disch := first | (simp only [List.length_append, List.length_cons, List.length_nil]; omega) | (simp; done) | assumption) [AV.cells?, AV.isCell, -evIndex, -evLen, pa0, pa1, cutC, bodyOf, Tryz.f82, sq9, bq9, bq3, RP.bq5, hidx, hlen, hnil, hnil2, g2, evBin_gtrS, e5]
                  rfl, rfl, fun h => by subst h; simp at h2, fun _ => ⟨rfl, by simp [upd, argsA]⟩⟩
            · have g3b : (L == 19) = false := by simp [g3]
              rw [g3b] at h2
              refine ⟨.norm, _, by
                simp (disch := first | (simp only [List.length_append, List.length_cons, List.length_nil]; omega) | (simp; done) | assumption) [AV.cells?, AV.isCell, -evIndex, -evLen, pa0, pa1, cutC, bodyOf, Tryz.f82, sq9, bq9, bq3, RP.bq5, hidx, hlen, hnil, hnil2, e1, g1, g2, g3]
                rfl, rfl, fun h => by subst h; simp at h2, fun _ => ⟨rfl, by simp [upd, argsA]⟩⟩
          · have g3 : ¬ L = 19 := by omega
            have g3b : (L == 19) = false := by simp [g3]
            rw [g3b] at h2
            refine ⟨.norm, _, by
              simp (disch := first | (simp only [List.length_append, List.length_cons, List.length_nil]; omega) | (simp; done) | assumption) [AV.cells?, AV.isCell, -evIndex, -evLen, pa0, pa1, cutC, bodyOf, Tryz.f82, sq9, bq9, bq3, RP.bq5, hidx, hlen, hnil, hnil2, e1, g1, g3]
              rfl, rfl, fun h => by subst h; simp at h2, fun _ => ⟨rfl, by simp [upd, argsA]⟩⟩
        obtain ⟨o, fs', r1, r2, r3, r4⟩ := two _ rfl
        have e1d : decide ((19 : Int) < L) = false := by simp [e1]
        rw [e1d, Bool.false_or, Bool.false_or]
        refine ⟨fun h => ?_, fun h => ?_⟩
        · obtain ⟨rfl, k2, k3⟩ := r3 h
          exact ⟨fs', r1, k2, k3, r2⟩
        · obtain ⟨rfl, k2⟩ := r4 h
          exact ⟨fs', r1, k2, r2⟩
      · refine ⟨fun _ => finish true eB rfl, fun h => by simp at h⟩
theorem ev_Parse6 (n : Nat) (s : List UInt8) (hs : s.length ≤ 1100000) (hn : 40 ≤ n) (S : St) :
    ev Tryz.prog E (n + 1) 82 [.str s] S = some (.ret (match parseN s with | some v => .tup [.int .i64 (v : Int), .bool true] | none => .tup [.int .i64 0, .bool false]), S) := by
  rw [← parse6_eq]
  rw [ev_enter (n := n) (show E.ok 82 = true from rfl) Tryz.func82 fbpa (Nat.le_of_ble_eq_true rfl) (by decide +kernel)]
  obtain ⟨hp1, hp2⟩ := pa_pre n s hs S
  unfold parse6
  cases hb : badP s
  · obtain ⟨fs1, e1, h0, hS⟩ := hp2 hb
    have hs19 : s.length ≤ 19 := by
      simp only [badP, Bool.or_eq_false_iff, decide_eq_false_iff_not] at hb
      have := hb.1.1.2
      omega
    obtain ⟨fs2, e2, p2⟩ : ∃ fs', evCode ⟨Tryz.prog, E.esc 82, n⟩ (ev Tryz.prog E n) (E.ps 82) n (.seq pa2 pa3) fs1 = some (.norm, fs') ∧ PAI s S s.length fs' := by
      obtain ⟨t, b, c, S'⟩ := fs1
      simp only at h0 hS
      subst hS
      refine ⟨_, by
        simp (disch := first | (simp only [List.length_append, List.length_cons, List.length_nil]; omega) | (simp; done) | assumption) [AV.cells?, AV.isCell, pa2, pa3, cutC, bodyOf, Tryz.f82]
        rfl, 0, by omega, by simp [upd, h0], by simp [upd, val], by simp [upd], rfl, by simp⟩
    obtain ⟨⟨o, fs3⟩, r1, r2, r3⟩ := iter_meas (fun m' fs h => pa_round n s S hs19 hb m' fs h) s.length n fs2 (by omega) p2
    simp only at r2 r3
    rw [evCode_assoc, evCode_seq, e1, seqK_norm, evCode_assoc, evCode_seq, evCode_assoc, evCode_seq, e2, seqK_norm, evCode_block, evCode_loop, r1]
    obtain ⟨t, b, c, S'⟩ := fs3
    simp only at r2 r3
    subst r2
    rw [if_neg (by simp)]
    rcases r3 with ⟨rfl, q2, q3⟩ | ⟨rfl, q2, q3, q4⟩
    · rw [if_pos q3, blockK_exit, if_pos rfl, seqK_norm]
      generalize val s = v at *
      simp (disch := first | (simp only [List.length_append, List.length_cons, List.length_nil]; omega) | (simp; done) | assumption) [AV.cells?, AV.isCell, pa4, cutC, bodyOf, Tryz.f82, q2, fin_ib]
    · rw [if_neg (by rw [q4]; simp), blockK_ret]
      simp (disch := first | (simp only [List.length_append, List.length_cons, List.length_nil]; omega) | (simp; done) | assumption) [AV.cells?, AV.isCell, pa4, cutC, bodyOf, Tryz.f82, q2, q3, fin_ib]
  · obtain ⟨fs1, e1, h2, h3, hS⟩ := hp1 hb
    rw [evCode_assoc, evCode_seq, e1, if_pos rfl]
    obtain ⟨t, b, c, S'⟩ := fs1
    simp only at h2 h3 hS
    subst hS
    simp (disch := first | (simp only [List.length_append, List.length_cons, List.length_nil]; omega) | (simp; done) | assumption) [AV.cells?, AV.isCell, h2, h3, fin_ib, Tryz.f82]
end Go.Proofs.YtemggoaefohliaaGreatDoor.LR6
/- The reference's texts and signs are the lexer's: the plain law. No condition. -/
namespace Go.Proofs.YtemggoaefohliaaGreatDoor.LR6
set_option linter.unusedVariables false
set_option linter.unusedSimpArgs false
open Go AE EX PT NF LX PS RP
set_option maxRecDepth 100000

def qu : List UInt8 → Option Nat
  | [] => none
  | c :: r => if c.toNat = 34 then some 0 else if c.toNat = 10 then none else (qu r).map (· + 1)
theorem quF_qu (s : List UInt8) : ∀ f i, s.length - i < f → quF s f i = match qu (s.drop i) with | none => -1 | some k => ((i + k : Nat) : Int)
  | 0, i, h => by omega
  | f + 1, i, h => by
    rw [quF]
    cases hc : s[i]? with
    | none =>
      rw [List.drop_eq_nil_of_le (List.getElem?_eq_none_iff.1 hc)]
      rfl
    | some c =>
      obtain ⟨hi, he⟩ := List.getElem?_eq_some_iff.1 hc
      rw [List.drop_eq_getElem_cons hi, he, qu]
      simp only
      by_cases h1 : c.toNat = 34
      · rw [if_pos h1, if_pos h1]; simp
      · rw [if_neg h1, if_neg h1]
        by_cases h2 : c.toNat = 10
        · rw [if_pos h2, if_pos h2]
        · rw [if_neg h2, if_neg h2, quF_qu s f (i + 1) (by omega)]
          cases qu (s.drop (i + 1)) with
          | none => rfl
          | some k => show ((i + 1 + k : Nat) : Int) = ((i + (k + 1) : Nat) : Int); omega
theorem idx_cons {c b : UInt8} {r : List UInt8} (h : c ≠ b) : Lib.indexByte (c :: r) b = if Lib.indexByte r b = -1 then -1 else Lib.indexByte r b + 1 := by
  simp [Lib.indexByte, h]
theorem u8_ne {c : UInt8} {n : Nat} (b : UInt8) (hb : b.toNat = n) (h : c.toNat ≠ n) : c ≠ b := fun e => h (by rw [e, hb])
theorem qu_none : ∀ l : List UInt8, qu l = none → Lib.indexByte l 34 < 0 ∨ 0 ≤ Lib.indexByte (l.take (Lib.indexByte l 34).toNat) 10
  | [], _ => .inl (by simp [Lib.indexByte])
  | c :: r, h => by
    have hg := Lib.indexByte_ge r 34
    rw [qu] at h
    by_cases h1 : c.toNat = 34
    · rw [if_pos h1] at h; cases h
    · rw [if_neg h1] at h
      have n34 := u8_ne 34 rfl h1
      rw [idx_cons n34]
      by_cases hr : Lib.indexByte r 34 = -1
      · rw [if_pos hr]; exact .inl (by omega)
      · rw [if_neg hr, show (Lib.indexByte r 34 + 1).toNat = (Lib.indexByte r 34).toNat + 1 by omega, List.take_succ_cons]
        by_cases h2 : c.toNat = 10
        · have e : c = 10 := UInt8.toNat_inj.1 (by rw [h2]; rfl)
          subst e
          exact .inr (by simp [Lib.indexByte])
        · rw [if_neg h2] at h
          have n10 := u8_ne 10 rfl h2
          have hn : qu r = none := by
            cases hq : qu r with
            | none => rfl
            | some k => rw [hq] at h; cases h
          rcases qu_none r hn with g | g
          · omega
          · rw [idx_cons n10]
            refine .inr ?_
            split
            · omega
            · omega
theorem qu_some : ∀ (l : List UInt8) (k : Nat), qu l = some k → Lib.indexByte l 34 = (k : Int) ∧ ((l.take k).all fun c => !badB c) = true ∧ k < l.length
  | [], k, h => by cases h
  | c :: r, k, h => by
    rw [qu] at h
    by_cases h1 : c.toNat = 34
    · rw [if_pos h1] at h
      cases h
      have e : c = 34 := UInt8.toNat_inj.1 (by rw [h1]; rfl)
      subst e
      exact ⟨by simp [Lib.indexByte], by simp, by simp⟩
    · rw [if_neg h1] at h
      have n34 := u8_ne 34 rfl h1
      by_cases h2 : c.toNat = 10
      · rw [if_pos h2] at h; cases h
      · rw [if_neg h2] at h
        cases hq : qu r with
        | none => rw [hq] at h; cases h
        | some k' =>
          rw [hq] at h
          obtain rfl : k' + 1 = k := by simpa using h
          obtain ⟨g1, g2, g3⟩ := qu_some r k' hq
          refine ⟨?_, ?_, by show k' + 1 < (c :: r).length; simp; omega⟩
          · rw [idx_cons n34, g1, if_neg (by omega)]; omega
          · rw [List.take_succ_cons, List.all_cons, g2]
            have b1 : ¬ (c.toNat : Int) = 34 := by omega
            have b2 : ¬ (c.toNat : Int) = 10 := by omega
            simp [badB, b1, b2]
theorem sub_drop (s : List UInt8) (p k : Nat) : sub s p (p + k) = (s.drop p).take k := by
  unfold sub
  rw [List.drop_take]
  congr 1
  omega
theorem quoted_eq (s : List UInt8) (p : Nat) : quotedR s p = match qu (s.drop (p + 1)) with
    | none => .err 16
    | some k => if k ≤ 32 then .word ⟨3, sub s (p + 1) (p + 1 + k), 0, p⟩ (p + 1 + k + 1) else .err 5 := by
  unfold quotedR
  cases hq : qu (s.drop (p + 1)) with
  | none =>
    rcases qu_none _ hq with h | h
    · rw [if_pos h]
    · by_cases h0 : Lib.indexByte (s.drop (p + 1)) 34 < 0
      · rw [if_pos h0]
      · rw [if_neg h0, sub_drop, if_pos h]
  | some k =>
    obtain ⟨h1, h2, h3⟩ := qu_some _ _ hq
    have hk : (Lib.indexByte (s.drop (p + 1)) 34).toNat = k := by omega
    rw [hk, if_neg (by omega), sub_drop]
    have h10 := h2
    rw [plain_index, Bool.and_eq_true, decide_eq_true_eq, decide_eq_true_eq] at h10
    rw [if_neg (by omega)]
    have hl : ((s.drop (p + 1)).take k).length = k := by rw [List.length_take]; omega
    have hp : plainB ((s.drop (p + 1)).take k) = decide (k ≤ 32) := by
      unfold plainB
      rw [h2, hl, Bool.and_true]
    rw [hp]
    by_cases h32 : k ≤ 32
    · rw [if_pos (by simpa using h32)]
      simp only [h32, if_true, sub_drop]
      rw [show p + k + 2 = p + 1 + k + 1 by omega]
    · rw [if_neg (by simpa using h32)]
      simp only [h32, if_false]
def two61 (s : List UInt8) (p : Nat) (c : UInt8) : Bool := decide (p + 1 < s.length) && (s[p + 1]?.getD 0).toNat == 61 && (c.toNat == 58 || c.toNat == 33 || c.toNat == 60)
theorem nat_beq (c : UInt8) (b : UInt8) (n : Nat) (hb : b.toNat = n) : (c.toNat == n) = (c == b) := by
  by_cases e : c = b
  · subst e; simp [hb]
  · rw [beq_eq_false_iff_ne.2 e, beq_eq_false_iff_ne]
    exact fun h => e (UInt8.toNat_inj.1 (by rw [h, hb]))
theorem sg_eq (s : List UInt8) (p : Nat) (c : UInt8) (hc : s[p]? = some c) : sgAt s p = if two61 s p c = true then some (sub s p (p + 2)) else none := by
  obtain ⟨hi, he⟩ := List.getElem?_eq_some_iff.1 hc
  rw [sub_drop]
  unfold sgAt two61
  rw [nat_beq c 58 58 rfl, nat_beq c 33 33 rfl, nat_beq c 60 60 rfl]
  rw [List.drop_eq_getElem_cons hi, he]
  by_cases h1 : p + 1 < s.length
  · rw [List.getElem?_eq_getElem h1, List.drop_eq_getElem_cons h1, Option.getD_some, nat_beq _ 61 61 rfl]
    generalize s[p + 1] = d
    have hp : ∀ q : List UInt8, q.length = 2 → pre (c :: d :: s.drop (p + 1 + 1)) q = ([c, d] == q) := fun q hq => by
      simp [pre, hq]
    have e1 := hp [58, 61] rfl
    have e2 := hp [33, 61] rfl
    have e3 := hp [60, 61] rfl
    simp only [sgL, List.find?, e1, e2, e3]
    by_cases g : d = 61
    · subst g
      by_cases g1 : c = 58
      · subst g1; simp [h1]
      · by_cases g2 : c = 33
        · subst g2; simp [h1]
        · by_cases g3 : c = 60
          · subst g3; simp [h1]
          · have k1 : ([c, 61] == ([58, 61] : List UInt8)) = false := by simp [g1]
            have k2 : ([c, 61] == ([33, 61] : List UInt8)) = false := by simp [g2]
            have k3 : ([c, 61] == ([60, 61] : List UInt8)) = false := by simp [g3]
            simp [k1, k2, k3, h1, g1, g2, g3]
    · have k1 : ([c, d] == ([58, 61] : List UInt8)) = false := by simp [g]
      have k2 : ([c, d] == ([33, 61] : List UInt8)) = false := by simp [g]
      have k3 : ([c, d] == ([60, 61] : List UInt8)) = false := by simp [g]
      simp [k1, k2, k3, g]
  · rw [List.drop_eq_nil_of_le (by omega)]
    simp [h1, sgL, List.find?, pre]
end Go.Proofs.YtemggoaefohliaaGreatDoor.LR6
/- The reference's lexer: one word, evaluated (printed by genlr.py). No condition. -/
namespace Go.Proofs.YtemggoaefohliaaGreatDoor.LR6
set_option linter.unusedVariables false
set_option linter.unusedSimpArgs false
open Go AE EX PT NF LX PS RP
set_option maxRecDepth 100000

noncomputable def on0 : Code := cutC (bodyOf Tryz.f50) [0]
noncomputable def on1 : Code := cutC (bodyOf Tryz.f50) [1, 0]
noncomputable def on2 : Code := cutC (bodyOf Tryz.f50) [1, 1, 0]
noncomputable def on3 : Code := cutC (bodyOf Tryz.f50) [1, 1, 1, 0]
noncomputable def on4 : Code := cutC (bodyOf Tryz.f50) [1, 1, 1, 1, 0]
noncomputable def on5 : Code := cutC (bodyOf Tryz.f50) [1, 1, 1, 1, 1, 0]
noncomputable def on6 : Code := cutC (bodyOf Tryz.f50) [1, 1, 1, 1, 1, 1, 0]
noncomputable def on7 : Code := cutC (bodyOf Tryz.f50) [1, 1, 1, 1, 1, 1, 1]
theorem fbon : Tryz.f50.body = some (.seq on0 (.seq on1 (.seq on2 (.seq on3 (.seq on4 (.seq on5 (.seq on6 on7))))))) := rfl
def wzc : List AV := [.int .i64 0, .str [], .int .i64 0, .int .i64 0]
theorem bz : evBuild Tryz.prog 60 [] = some (.agg wzc) := by
  simp [evBuild, wp, wz, fillA, AV.cells?, wrc, wzc]
theorem bw (k : Int) (q : List UInt8) (v a : Int) : evBuild Tryz.prog 60 [(0, .int .i64 k), (1, .str q), (2, .int .i64 v), (3, .int .i64 a)] = some (.agg [.int .i64 k, .str q, .int .i64 v, .int .i64 a]) := by
  simp [evBuild, wp, wz, fillA, wl0, wl1, wl2, wl3, AV.cells?, wrc]
theorem czw : (AV.agg wzc).cells? = some wzc := rfl
theorem cw (k : Int) (q : List UInt8) (v a : Int) : (AV.agg [.int .i64 k, .str q, .int .i64 v, .int .i64 a]).cells? = some [.int .i64 k, .str q, .int .i64 v, .int .i64 a] := rfl
/-- what a step hands back -/
def lrW : LR → List AV
  | .err c => wzc
  | .word t to => t.cells
def lrT : LR → Int
  | .err c => 0
  | .word t to => (to : Int)
def lrC : LR → Int
  | .err c => c
  | .word t to => 0
def ans6 (r : LR) : AV := .tup [.agg (lrW r), .int .i64 (lrT r), .int .i64 (lrC r)]
theorem fin6 (r : LR) (S : St) : finish S (ans6 r) S = some (ans6 r, S) := by
  cases r with
  | err c => exact finish_same rfl rfl rfl rfl rfl
  | word t to => exact finish_same rfl rfl rfl rfl rfl
def ON (n : Nat) (s : List UInt8) (p : Nat) (C : Int) (S : St) (fs : FS) : Prop := ∃ c4, c4 ≠ 0 ∧ fs.t 0 = .str s ∧ fs.t 1 = .int .i64 (p : Int) ∧ fs.t 7 = .int .u8 C ∧ fs.t 4 = .loc n 4 c4 0 ∧ fs.b 4 = (c4, wzc) ∧ fs.S = S
def OA (n : Nat) (r : LR) (S : St) (fs : FS) : Prop := ∃ c4, c4 ≠ 0 ∧ fs.t 4 = .loc n 4 c4 0 ∧ fs.b 4 = (c4, lrW r) ∧ fs.t 5 = .int .i64 (lrT r) ∧ fs.t 6 = .int .i64 (lrC r) ∧ fs.S = S
theorem on_first (n : Nat) (s : List UInt8) (p : Nat) (C : Int) (hidx : evIndex Tryz.prog 9 (.str s) (.int .i64 (p : Int)) = some (.int .u8 C)) (S : St) :
    ∃ fs', evCode ⟨Tryz.prog, E.esc 50, n⟩ (ev Tryz.prog E n) (E.ps 50) n (.seq on0 on1) ⟨argsA [.str s, .int .i64 (p : Int)], fun _ => (0, []), 0, S⟩ = some (.norm, fs') ∧ ON n s p C S fs' := by
  refine ⟨_, by
    simp (disch := first | (simp only [List.length_append, List.length_cons, List.length_nil]; omega) | (simp; done) | assumption) [AV.cells?, AV.isCell, -AV.cells?, cq_int, cq_str, -evIndex, -evSlice, -evLen, -evBuild, on0, on1, on2, on3, on4, on5, on6, on7, cutC, bodyOf, Tryz.f50, E_esc, sq9, bq9, bq3, RP.bq5, wc, wa, wk, wi, wz, k3, c3, a3, bz, czw, hidx]
    rfl, 1, by decide, by simp [upd, putA, argsA], by simp [upd, putA, argsA], by simp [upd], by simp [upd, putA], by simp [upd, wzc], rfl⟩
set_option maxHeartbeats 4000000 in
theorem on_head (n : Nat) (s : List UInt8) (p : Nat) (hs : s.length ≤ 1100000) (hp : p < s.length) (C : Int) (S : St) (fs : FS) (h : ON n s p C S fs) (m : Nat) (hm : n = m + 3) (hn : s.length < m) (hC : headB C = true) :
    ∃ fs', evCode ⟨Tryz.prog, E.esc 50, n⟩ (ev Tryz.prog E n) (E.ps 50) n on2 fs = some (.ret, fs') ∧ OA n (namedR s p) S fs' := by
  obtain ⟨t, b, cnt, S'⟩ := fs
  obtain ⟨c4, n4, t0, t1, t7, t4, b4, hS⟩ := h
  simp only at t0 t1 t7 t4 b4 hS
  subst hS
  subst hm
  have hH : ev Tryz.prog E (m + 3) 80 [.int .u8 C] S' = some (.ret (.bool (headB C)), S') := ev_head6 (m + 2) C S'
  rw [hC] at hH
  have hF := ev_far6 m s p S' hs (by omega) hn
  have hg := far_ge s p
  have hle := far_le (s := s) (p := p) (by omega)
  have hs2 := sl2 s p (far s p) hg hle
  have hd : IntKind.i64.wrap ((far s p : Int) - (p : Int)) = ((far s p - p : Nat) : Int) := by rw [wrap64 _ (by omega)]; omega
  unfold namedR
  by_cases h16 : 16 < far s p - p
  · rw [if_pos h16]
    have h16z : (16 : Int) < ((far s p - p : Nat) : Int) := by omega
    generalize ((far s p - p : Nat) : Int) = D at *
    generalize far s p = q at *
    exact ⟨_, by
      simp (disch := first | (simp only [List.length_append, List.length_cons, List.length_nil]; omega) | (simp; done) | assumption) [AV.cells?, AV.isCell, -AV.cells?, cq_int, cq_str, -evIndex, -evSlice, -evLen, -evBuild, on0, on1, on2, on3, on4, on5, on6, on7, cutC, bodyOf, Tryz.f50, E_esc, sq9, bq9, bq3, RP.bq5, wc, wa, wk, wi, wz, k3, c3, a3, bz, czw, t0, t1, t7, t4, b4, n4, hH, hF, hd, h16z]
      rfl, c4, n4, by simp [upd, putA, t4], by simp [upd, putA, lrW, Tk.cells, wzc], by simp [upd, lrT], by simp [upd, lrC], rfl⟩
  · rw [if_neg h16]
    have h16z : ¬ (16 : Int) < ((far s p - p : Nat) : Int) := by omega
    have hb := bw 1 (sub s p (far s p)) 0 (p : Int)
    have hcw := cw 1 (sub s p (far s p)) 0 (p : Int)
    generalize ((far s p - p : Nat) : Int) = D at *
    generalize sub s p (far s p) = w at *
    generalize far s p = q at *
    exact ⟨_, by
      simp (disch := first | (simp only [List.length_append, List.length_cons, List.length_nil]; omega) | (simp; done) | assumption) [AV.cells?, AV.isCell, -AV.cells?, cq_int, cq_str, -evIndex, -evSlice, -evLen, -evBuild, on0, on1, on2, on3, on4, on5, on6, on7, cutC, bodyOf, Tryz.f50, E_esc, sq9, bq9, bq3, RP.bq5, wc, wa, wk, wi, wz, k3, c3, a3, bz, czw, t0, t1, t7, t4, b4, n4, hH, hF, hd, h16z, hs2, hb, hcw]
      rfl, c4, n4, by simp [upd, putA, t4], by simp [upd, putA, lrW, Tk.cells, wzc], by simp [upd, lrT], by simp [upd, lrC], rfl⟩
set_option maxHeartbeats 4000000 in
theorem on_head0 (n : Nat) (s : List UInt8) (p : Nat) (hs : s.length ≤ 1100000) (hp : p < s.length) (C : Int) (S : St) (fs : FS) (h : ON n s p C S fs) (m : Nat) (hm : n = m + 3) (hC : headB C = false) :
    ∃ fs', evCode ⟨Tryz.prog, E.esc 50, n⟩ (ev Tryz.prog E n) (E.ps 50) n on2 fs = some (.norm, fs') ∧ ON n s p C S fs' := by
  obtain ⟨t, b, cnt, S'⟩ := fs
  obtain ⟨c4, n4, t0, t1, t7, t4, b4, hS⟩ := h
  simp only at t0 t1 t7 t4 b4 hS
  subst hS
  subst hm
  have hH : ev Tryz.prog E (m + 3) 80 [.int .u8 C] S' = some (.ret (.bool (headB C)), S') := ev_head6 (m + 2) C S'
  rw [hC] at hH
  exact ⟨_, by
    simp (disch := first | (simp only [List.length_append, List.length_cons, List.length_nil]; omega) | (simp; done) | assumption) [AV.cells?, AV.isCell, -AV.cells?, cq_int, cq_str, -evIndex, -evSlice, -evLen, -evBuild, on0, on1, on2, on3, on4, on5, on6, on7, cutC, bodyOf, Tryz.f50, E_esc, sq9, bq9, bq3, RP.bq5, wc, wa, wk, wi, wz, k3, c3, a3, bz, czw, t0, t1, t7, t4, b4, n4, hH]
    rfl, c4, n4, by simp [upd, t0], by simp [upd, t1], by simp [upd, t7], by simp [upd, t4], by simp [upd, b4], rfl⟩
set_option maxHeartbeats 4000000 in
theorem on_dig (n : Nat) (s : List UInt8) (p : Nat) (hs : s.length ≤ 1100000) (hp : p < s.length) (C : Int) (S : St) (fs : FS) (h : ON n s p C S fs) (m : Nat) (hm : n = m + 3) (hn : s.length + 60 < m) (hC : digB C = true) :
    ∃ fs', evCode ⟨Tryz.prog, E.esc 50, n⟩ (ev Tryz.prog E n) (E.ps 50) n on3 fs = some (.ret, fs') ∧ OA n (numberedR s p) S fs' := by
  obtain ⟨t, b, cnt, S'⟩ := fs
  obtain ⟨c4, n4, t0, t1, t7, t4, b4, hS⟩ := h
  simp only at t0 t1 t7 t4 b4 hS
  subst hS
  subst hm
  have hF := ev_far6 m s p S' hs (by omega) (by omega)
  have hg := far_ge s p
  have hle := far_le (s := s) (p := p) (by omega)
  have hs2 := sl2 s p (far s p) hg hle
  have hl := sub_len s p (far s p)
  have hP := ev_Parse6 (m + 2) (sub s p (far s p)) (by omega) (by omega) S'
  simp only [digB, Bool.and_eq_true, decide_eq_true_eq] at hC
  obtain ⟨hC1, hC2⟩ := hC
  unfold numberedR
  cases e : parseN (sub s p (far s p)) with
  | none =>
    rw [e] at hP
    simp only at hP ⊢
    generalize sub s p (far s p) = w at *
    generalize far s p = q at *
    exact ⟨_, by
      simp (disch := first | (simp only [List.length_append, List.length_cons, List.length_nil]; omega) | (simp; done) | assumption) [AV.cells?, AV.isCell, -AV.cells?, cq_int, cq_str, -evIndex, -evSlice, -evLen, -evBuild, on0, on1, on2, on3, on4, on5, on6, on7, cutC, bodyOf, Tryz.f50, E_esc, sq9, bq9, bq3, RP.bq5, wc, wa, wk, wi, wz, k3, c3, a3, bz, czw, t0, t1, t7, t4, b4, n4, hC1, hC2, hF, hs2, hP]
      rfl, c4, n4, by simp [upd, putA, t4], by simp [upd, putA, lrW, Tk.cells, wzc], by simp [upd, lrT], by simp [upd, lrC], rfl⟩
  | some v =>
    rw [e] at hP
    simp only at hP ⊢
    have hb := bw 2 (sub s p (far s p)) (v : Int) (p : Int)
    have hcw := cw 2 (sub s p (far s p)) (v : Int) (p : Int)
    generalize sub s p (far s p) = w at *
    generalize far s p = q at *
    exact ⟨_, by
      simp (disch := first | (simp only [List.length_append, List.length_cons, List.length_nil]; omega) | (simp; done) | assumption) [AV.cells?, AV.isCell, -AV.cells?, cq_int, cq_str, -evIndex, -evSlice, -evLen, -evBuild, on0, on1, on2, on3, on4, on5, on6, on7, cutC, bodyOf, Tryz.f50, E_esc, sq9, bq9, bq3, RP.bq5, wc, wa, wk, wi, wz, k3, c3, a3, bz, czw, t0, t1, t7, t4, b4, n4, hC1, hC2, hF, hs2, hP, hb, hcw, k2, c2, a2]
      rfl, c4, n4, by simp [upd, putA, t4], by simp [upd, putA, lrW, Tk.cells, wzc], by simp [upd, lrT], by simp [upd, lrC], rfl⟩
set_option maxHeartbeats 4000000 in
theorem on_dig0 (n : Nat) (s : List UInt8) (p : Nat) (hs : s.length ≤ 1100000) (hp : p < s.length) (C : Int) (S : St) (fs : FS) (h : ON n s p C S fs) (hC : digB C = false) :
    ∃ fs', evCode ⟨Tryz.prog, E.esc 50, n⟩ (ev Tryz.prog E n) (E.ps 50) n on3 fs = some (.norm, fs') ∧ ON n s p C S fs' := by
  obtain ⟨t, b, cnt, S'⟩ := fs
  obtain ⟨c4, n4, t0, t1, t7, t4, b4, hS⟩ := h
  simp only at t0 t1 t7 t4 b4 hS
  subst hS
  by_cases h1 : (48 : Int) ≤ C
  · have h2 : ¬ C ≤ 57 := fun h => by simp [digB, h1, h] at hC
    exact ⟨_, by
      simp (disch := first | (simp only [List.length_append, List.length_cons, List.length_nil]; omega) | (simp; done) | assumption) [AV.cells?, AV.isCell, -AV.cells?, cq_int, cq_str, -evIndex, -evSlice, -evLen, -evBuild, on0, on1, on2, on3, on4, on5, on6, on7, cutC, bodyOf, Tryz.f50, E_esc, sq9, bq9, bq3, RP.bq5, wc, wa, wk, wi, wz, k3, c3, a3, bz, czw, t0, t1, t7, t4, b4, n4, h1, h2]
      rfl, c4, n4, by simp [upd, t0], by simp [upd, t1], by simp [upd, t7], by simp [upd, t4], by simp [upd, b4], rfl⟩
  · skip
    exact ⟨_, by
      simp (disch := first | (simp only [List.length_append, List.length_cons, List.length_nil]; omega) | (simp; done) | assumption) [AV.cells?, AV.isCell, -AV.cells?, cq_int, cq_str, -evIndex, -evSlice, -evLen, -evBuild, on0, on1, on2, on3, on4, on5, on6, on7, cutC, bodyOf, Tryz.f50, E_esc, sq9, bq9, bq3, RP.bq5, wc, wa, wk, wi, wz, k3, c3, a3, bz, czw, t0, t1, t7, t4, b4, n4, h1]
      rfl, c4, n4, by simp [upd, t0], by simp [upd, t1], by simp [upd, t7], by simp [upd, t4], by simp [upd, b4], rfl⟩
set_option maxHeartbeats 4000000 in
theorem on_txt (n : Nat) (s : List UInt8) (p : Nat) (hs : s.length ≤ 1100000) (hp : p < s.length) (C : Int) (S : St) (fs : FS) (h : ON n s p C S fs) (m : Nat) (hm : n = m + 1) (hn : s.length < m) (hC : C = 34) :
    ∃ fs', evCode ⟨Tryz.prog, E.esc 50, n⟩ (ev Tryz.prog E n) (E.ps 50) n on4 fs = some (.ret, fs') ∧ OA n (quotedR s p) S fs' := by
  obtain ⟨t, b, cnt, S'⟩ := fs
  obtain ⟨c4, n4, t0, t1, t7, t4, b4, hS⟩ := h
  simp only at t0 t1 t7 t4 b4 hS
  subst hS
  subst hm
  subst hC
  have wr : ∀ a : Nat, a ≤ 3000000 → ∀ b : Nat, b ≤ 10 → IntKind.i64.wrap ((a : Int) + (b : Int)) = ((a + b : Nat) : Int) := fun a ha b hb => by rw [wrap64 _ (by omega)]; omega
  have hw1 : IntKind.i64.wrap ((p : Int) + 1) = ((p + 1 : Nat) : Int) := wr p (by omega) 1 (by omega)
  have hw2 : IntKind.i64.wrap ((p : Int) + 2) = ((p + 2 : Nat) : Int) := wr p (by omega) 2 (by omega)
  have hQ := ev_quote6 m s p S' hs hp hn
  rw [quoted_eq]
  rw [quF_qu s (s.length + 1) (p + 1) (by omega)] at hQ
  cases e : qu (s.drop (p + 1)) with
  | none =>
    rw [e] at hQ
    simp only at hQ ⊢
    have hneg : (-1 : Int) < 0 := by decide
    exact ⟨_, by
      simp (disch := first | (simp only [List.length_append, List.length_cons, List.length_nil]; omega) | (simp; done) | assumption) [AV.cells?, AV.isCell, -AV.cells?, cq_int, cq_str, -evIndex, -evSlice, -evLen, -evBuild, on0, on1, on2, on3, on4, on5, on6, on7, cutC, bodyOf, Tryz.f50, E_esc, sq9, bq9, bq3, RP.bq5, wc, wa, wk, wi, wz, k3, c3, a3, bz, czw, t0, t1, t7, t4, b4, n4, hQ, hneg]
      rfl, c4, n4, by simp [upd, putA, t4], by simp [upd, putA, lrW, Tk.cells, wzc], by simp [upd, lrT], by simp [upd, lrC], rfl⟩
  | some k =>
    rw [e] at hQ
    simp only at hQ ⊢
    obtain ⟨_, _, hkl⟩ := qu_some _ _ e
    rw [List.length_drop] at hkl
    have hs2 := sl2 s (p + 1) (p + 1 + k) (by omega) (by omega)
    have hnn : ¬ ((p + 1 + k : Nat) : Int) < 0 := by omega
    have hd1 : IntKind.i64.wrap (((p + 1 + k : Nat) : Int) - (p : Int)) = ((1 + k : Nat) : Int) := by rw [wrap64 _ (by omega)]; omega
    have hd2 : IntKind.i64.wrap (((1 + k : Nat) : Int) - 1) = (k : Int) := by rw [wrap64 _ (by omega)]; omega
    have hw3 : IntKind.i64.wrap (((p + 1 + k : Nat) : Int) + 1) = ((p + 1 + k + 1 : Nat) : Int) := by rw [wrap64 _ (by omega)]; omega
    by_cases h32 : k ≤ 32
    · rw [if_pos h32]
      have h32z : ¬ (32 : Int) < (k : Int) := by omega
      have hb := bw 3 (sub s (p + 1) (p + 1 + k)) 0 (p : Int)
      have hcw := cw 3 (sub s (p + 1) (p + 1 + k)) 0 (p : Int)
      generalize sub s (p + 1) (p + 1 + k) = w at *
      generalize p + 1 + k + 1 = Q1 at *
      generalize p + 1 + k = Q at *
      generalize p + 1 = P1 at *
      generalize 1 + k = K1 at *
      exact ⟨_, by
        simp (disch := first | (simp only [List.length_append, List.length_cons, List.length_nil]; omega) | (simp; done) | assumption) [AV.cells?, AV.isCell, -AV.cells?, cq_int, cq_str, -evIndex, -evSlice, -evLen, -evBuild, on0, on1, on2, on3, on4, on5, on6, on7, cutC, bodyOf, Tryz.f50, E_esc, sq9, bq9, bq3, RP.bq5, wc, wa, wk, wi, wz, k3, c3, a3, bz, czw, t0, t1, t7, t4, b4, n4, hQ, hnn, hd1, hd2, hw1, hw3, h32z, hs2, hb, hcw]
        rfl, c4, n4, by simp [upd, putA, t4], by simp [upd, putA, lrW, Tk.cells, wzc], by simp [upd, lrT], by simp [upd, lrC], rfl⟩
    · rw [if_neg h32]
      have h32z : (32 : Int) < (k : Int) := by omega
      generalize p + 1 + k + 1 = Q1 at *
      generalize p + 1 + k = Q at *
      generalize p + 1 = P1 at *
      generalize 1 + k = K1 at *
      exact ⟨_, by
        simp (disch := first | (simp only [List.length_append, List.length_cons, List.length_nil]; omega) | (simp; done) | assumption) [AV.cells?, AV.isCell, -AV.cells?, cq_int, cq_str, -evIndex, -evSlice, -evLen, -evBuild, on0, on1, on2, on3, on4, on5, on6, on7, cutC, bodyOf, Tryz.f50, E_esc, sq9, bq9, bq3, RP.bq5, wc, wa, wk, wi, wz, k3, c3, a3, bz, czw, t0, t1, t7, t4, b4, n4, hQ, hnn, hd1, hd2, h32z]
        rfl, c4, n4, by simp [upd, putA, t4], by simp [upd, putA, lrW, Tk.cells, wzc], by simp [upd, lrT], by simp [upd, lrC], rfl⟩
set_option maxHeartbeats 4000000 in
theorem on_txt0 (n : Nat) (s : List UInt8) (p : Nat) (hs : s.length ≤ 1100000) (hp : p < s.length) (C : Int) (S : St) (fs : FS) (h : ON n s p C S fs) (hC : ¬ C = 34) :
    ∃ fs', evCode ⟨Tryz.prog, E.esc 50, n⟩ (ev Tryz.prog E n) (E.ps 50) n on4 fs = some (.norm, fs') ∧ ON n s p C S fs' := by
  obtain ⟨t, b, cnt, S'⟩ := fs
  obtain ⟨c4, n4, t0, t1, t7, t4, b4, hS⟩ := h
  simp only at t0 t1 t7 t4 b4 hS
  subst hS
  exact ⟨_, by
    simp (disch := first | (simp only [List.length_append, List.length_cons, List.length_nil]; omega) | (simp; done) | assumption) [AV.cells?, AV.isCell, -AV.cells?, cq_int, cq_str, -evIndex, -evSlice, -evLen, -evBuild, on0, on1, on2, on3, on4, on5, on6, on7, cutC, bodyOf, Tryz.f50, E_esc, sq9, bq9, bq3, RP.bq5, wc, wa, wk, wi, wz, k3, c3, a3, bz, czw, t0, t1, t7, t4, b4, n4, hC]
    rfl, c4, n4, by simp [upd, t0], by simp [upd, t1], by simp [upd, t7], by simp [upd, t4], by simp [upd, b4], rfl⟩
set_option maxHeartbeats 4000000 in
theorem on_two (n : Nat) (s : List UInt8) (p : Nat) (hs : s.length ≤ 1100000) (hp : p < s.length) (C : Int) (S : St) (fs : FS) (h : ON n s p C S fs) (c : UInt8) (hc : C = (c.toNat : Int)) (h2 : two61 s p c = true) :
    ∃ fs', evCode ⟨Tryz.prog, E.esc 50, n⟩ (ev Tryz.prog E n) (E.ps 50) n on5 fs = some (.ret, fs') ∧ OA n (.word ⟨4, sub s p (p + 2), 0, p⟩ (p + 2)) S fs' := by
  obtain ⟨t, b, cnt, S'⟩ := fs
  obtain ⟨c4, n4, t0, t1, t7, t4, b4, hS⟩ := h
  simp only at t0 t1 t7 t4 b4 hS
  subst hS
  have wr : ∀ a : Nat, a ≤ 3000000 → ∀ b : Nat, b ≤ 10 → IntKind.i64.wrap ((a : Int) + (b : Int)) = ((a + b : Nat) : Int) := fun a ha b hb => by rw [wrap64 _ (by omega)]; omega
  have hw1 : IntKind.i64.wrap ((p : Int) + 1) = ((p + 1 : Nat) : Int) := wr p (by omega) 1 (by omega)
  have hw2 : IntKind.i64.wrap ((p : Int) + 2) = ((p + 2 : Nat) : Int) := wr p (by omega) 2 (by omega)
  simp only [two61, Bool.and_eq_true, Bool.or_eq_true, decide_eq_true_eq, beq_iff_eq] at h2
  obtain ⟨⟨hlt, h61⟩, h3⟩ := h2
  rw [List.getElem?_eq_getElem hlt, Option.getD_some] at h61
  have hidx : evIndex Tryz.prog 9 (.str s) (.int .i64 ((p + 1 : Nat) : Int)) = some (.int .u8 61) := by
    have : ((61 : Nat) : Int) = 61 := rfl
    simp [evIndex, sq9, hlt]; omega
  have hlen : evLen Tryz.prog 9 (.str s) = some (.int .i64 (s.length : Int)) := by simp [evLen, sq9]
  have hltz : ((p + 1 : Nat) : Int) < (s.length : Int) := by omega
  have hs2 := sl2 s p (p + 2) (by omega) (by omega)
  have hb := bw 4 (sub s p (p + 2)) 0 (p : Int)
  have hcw := cw 4 (sub s p (p + 2)) 0 (p : Int)
  have h3' : C = 58 ∨ C = 33 ∨ C = 60 := by omega
  generalize (s.length : Int) = L at *
  generalize sub s p (p + 2) = w at *
  generalize p + 2 = P2 at *
  generalize p + 1 = P1 at *
  rcases h3' with rfl | rfl | rfl
  · skip
    exact ⟨_, by
      simp (disch := first | (simp only [List.length_append, List.length_cons, List.length_nil]; omega) | (simp; done) | assumption) [AV.cells?, AV.isCell, -AV.cells?, cq_int, cq_str, -evIndex, -evSlice, -evLen, -evBuild, on0, on1, on2, on3, on4, on5, on6, on7, cutC, bodyOf, Tryz.f50, E_esc, sq9, bq9, bq3, RP.bq5, wc, wa, wk, wi, wz, k3, c3, a3, bz, czw, t0, t1, t7, t4, b4, n4, hw1, hw2, hidx, hlen, hltz, hs2, hb, hcw]
      rfl, c4, n4, by simp [upd, putA, t4], by simp [upd, putA, lrW, Tk.cells, wzc], by simp [upd, lrT], by simp [upd, lrC], rfl⟩
  · skip
    exact ⟨_, by
      simp (disch := first | (simp only [List.length_append, List.length_cons, List.length_nil]; omega) | (simp; done) | assumption) [AV.cells?, AV.isCell, -AV.cells?, cq_int, cq_str, -evIndex, -evSlice, -evLen, -evBuild, on0, on1, on2, on3, on4, on5, on6, on7, cutC, bodyOf, Tryz.f50, E_esc, sq9, bq9, bq3, RP.bq5, wc, wa, wk, wi, wz, k3, c3, a3, bz, czw, t0, t1, t7, t4, b4, n4, hw1, hw2, hidx, hlen, hltz, hs2, hb, hcw]
      rfl, c4, n4, by simp [upd, putA, t4], by simp [upd, putA, lrW, Tk.cells, wzc], by simp [upd, lrT], by simp [upd, lrC], rfl⟩
  · skip
    exact ⟨_, by
      simp (disch := first | (simp only [List.length_append, List.length_cons, List.length_nil]; omega) | (simp; done) | assumption) [AV.cells?, AV.isCell, -AV.cells?, cq_int, cq_str, -evIndex, -evSlice, -evLen, -evBuild, on0, on1, on2, on3, on4, on5, on6, on7, cutC, bodyOf, Tryz.f50, E_esc, sq9, bq9, bq3, RP.bq5, wc, wa, wk, wi, wz, k3, c3, a3, bz, czw, t0, t1, t7, t4, b4, n4, hw1, hw2, hidx, hlen, hltz, hs2, hb, hcw]
      rfl, c4, n4, by simp [upd, putA, t4], by simp [upd, putA, lrW, Tk.cells, wzc], by simp [upd, lrT], by simp [upd, lrC], rfl⟩
set_option maxHeartbeats 4000000 in
theorem on_two0 (n : Nat) (s : List UInt8) (p : Nat) (hs : s.length ≤ 1100000) (hp : p < s.length) (C : Int) (S : St) (fs : FS) (h : ON n s p C S fs) (c : UInt8) (hc : C = (c.toNat : Int)) (h2 : two61 s p c = false) :
    ∃ fs', evCode ⟨Tryz.prog, E.esc 50, n⟩ (ev Tryz.prog E n) (E.ps 50) n on5 fs = some (.norm, fs') ∧ ON n s p C S fs' := by
  obtain ⟨t, b, cnt, S'⟩ := fs
  obtain ⟨c4, n4, t0, t1, t7, t4, b4, hS⟩ := h
  simp only at t0 t1 t7 t4 b4 hS
  subst hS
  have wr : ∀ a : Nat, a ≤ 3000000 → ∀ b : Nat, b ≤ 10 → IntKind.i64.wrap ((a : Int) + (b : Int)) = ((a + b : Nat) : Int) := fun a ha b hb => by rw [wrap64 _ (by omega)]; omega
  have hw1 : IntKind.i64.wrap ((p : Int) + 1) = ((p + 1 : Nat) : Int) := wr p (by omega) 1 (by omega)
  have hw2 : IntKind.i64.wrap ((p : Int) + 2) = ((p + 2 : Nat) : Int) := wr p (by omega) 2 (by omega)
  have hlen : evLen Tryz.prog 9 (.str s) = some (.int .i64 (s.length : Int)) := by simp [evLen, sq9]
  by_cases hlt : p + 1 < s.length
  · have hltz : ((p + 1 : Nat) : Int) < (s.length : Int) := by omega
    have hidx : evIndex Tryz.prog 9 (.str s) (.int .i64 ((p + 1 : Nat) : Int)) = some (.int .u8 (s[p + 1].toNat : Int)) := by simp [evIndex, sq9, hlt]; omega
    simp only [two61, List.getElem?_eq_getElem hlt, Option.getD_some, hlt, decide_true, Bool.true_and] at h2
    generalize s[p + 1] = d at *
    generalize (s.length : Int) = L at *
    generalize p + 1 = P1 at *
    by_cases h61 : (d.toNat : Int) = 61
    · have h61n : d.toNat = 61 := by omega
      have g1 : ¬ C = 58 := fun e => by
        have : c.toNat = 58 := by omega
        simp [h61n, this] at h2
      have g2 : ¬ C = 33 := fun e => by
        have : c.toNat = 33 := by omega
        simp [h61n, this] at h2
      have g3 : ¬ C = 60 := fun e => by
        have : c.toNat = 60 := by omega
        simp [h61n, this] at h2
      rw [h61] at hidx
      exact ⟨_, by
        simp (disch := first | (simp only [List.length_append, List.length_cons, List.length_nil]; omega) | (simp; done) | assumption) [AV.cells?, AV.isCell, -AV.cells?, cq_int, cq_str, -evIndex, -evSlice, -evLen, -evBuild, on0, on1, on2, on3, on4, on5, on6, on7, cutC, bodyOf, Tryz.f50, E_esc, sq9, bq9, bq3, RP.bq5, wc, wa, wk, wi, wz, k3, c3, a3, bz, czw, t0, t1, t7, t4, b4, n4, hw1, hidx, hlen, hltz, g1, g2, g3]
        rfl, c4, n4, by simp [upd, t0], by simp [upd, t1], by simp [upd, t7], by simp [upd, t4], by simp [upd, b4], rfl⟩
    · skip
      exact ⟨_, by
        simp (disch := first | (simp only [List.length_append, List.length_cons, List.length_nil]; omega) | (simp; done) | assumption) [AV.cells?, AV.isCell, -AV.cells?, cq_int, cq_str, -evIndex, -evSlice, -evLen, -evBuild, on0, on1, on2, on3, on4, on5, on6, on7, cutC, bodyOf, Tryz.f50, E_esc, sq9, bq9, bq3, RP.bq5, wc, wa, wk, wi, wz, k3, c3, a3, bz, czw, t0, t1, t7, t4, b4, n4, hw1, hidx, hlen, hltz, h61]
        rfl, c4, n4, by simp [upd, t0], by simp [upd, t1], by simp [upd, t7], by simp [upd, t4], by simp [upd, b4], rfl⟩
  · have hltz : ¬ ((p + 1 : Nat) : Int) < (s.length : Int) := by omega
    generalize (s.length : Int) = L at *
    generalize p + 1 = P1 at *
    exact ⟨_, by
      simp (disch := first | (simp only [List.length_append, List.length_cons, List.length_nil]; omega) | (simp; done) | assumption) [AV.cells?, AV.isCell, -AV.cells?, cq_int, cq_str, -evIndex, -evSlice, -evLen, -evBuild, on0, on1, on2, on3, on4, on5, on6, on7, cutC, bodyOf, Tryz.f50, E_esc, sq9, bq9, bq3, RP.bq5, wc, wa, wk, wi, wz, k3, c3, a3, bz, czw, t0, t1, t7, t4, b4, n4, hw1, hlen, hltz]
      rfl, c4, n4, by simp [upd, t0], by simp [upd, t1], by simp [upd, t7], by simp [upd, t4], by simp [upd, b4], rfl⟩
set_option maxHeartbeats 4000000 in
theorem on_sig (n : Nat) (s : List UInt8) (p : Nat) (hs : s.length ≤ 1100000) (hp : p < s.length) (C : Int) (S : St) (fs : FS) (h : ON n s p C S fs) (h2 : C = 40 ∨ C = 41 ∨ C = 91 ∨ C = 93 ∨ C = 123 ∨ C = 125 ∨ C = 44 ∨ C = 59 ∨ C = 46 ∨ C = 43 ∨ C = 45 ∨ C = 42 ∨ C = 61 ∨ C = 60) :
    ∃ fs', evCode ⟨Tryz.prog, E.esc 50, n⟩ (ev Tryz.prog E n) (E.ps 50) n (.seq on6 on7) fs = some (.ret, fs') ∧ OA n (.word ⟨4, sub s p (p + 1), 0, p⟩ (p + 1)) S fs' := by
  obtain ⟨t, b, cnt, S'⟩ := fs
  obtain ⟨c4, n4, t0, t1, t7, t4, b4, hS⟩ := h
  simp only at t0 t1 t7 t4 b4 hS
  subst hS
  have wr : ∀ a : Nat, a ≤ 3000000 → ∀ b : Nat, b ≤ 10 → IntKind.i64.wrap ((a : Int) + (b : Int)) = ((a + b : Nat) : Int) := fun a ha b hb => by rw [wrap64 _ (by omega)]; omega
  have hw1 : IntKind.i64.wrap ((p : Int) + 1) = ((p + 1 : Nat) : Int) := wr p (by omega) 1 (by omega)
  have hw2 : IntKind.i64.wrap ((p : Int) + 2) = ((p + 2 : Nat) : Int) := wr p (by omega) 2 (by omega)
  have hs2 := sl2 s p (p + 1) (by omega) (by omega)
  have hb := bw 4 (sub s p (p + 1)) 0 (p : Int)
  have hcw := cw 4 (sub s p (p + 1)) 0 (p : Int)
  generalize sub s p (p + 1) = w at *
  generalize p + 1 = P1 at *
  rcases h2 with rfl | rfl | rfl | rfl | rfl | rfl | rfl | rfl | rfl | rfl | rfl | rfl | rfl | rfl
  · skip
    exact ⟨_, by
      simp (disch := first | (simp only [List.length_append, List.length_cons, List.length_nil]; omega) | (simp; done) | assumption) [AV.cells?, AV.isCell, -AV.cells?, cq_int, cq_str, -evIndex, -evSlice, -evLen, -evBuild, on0, on1, on2, on3, on4, on5, on6, on7, cutC, bodyOf, Tryz.f50, E_esc, sq9, bq9, bq3, RP.bq5, wc, wa, wk, wi, wz, k3, c3, a3, bz, czw, t0, t1, t7, t4, b4, n4, hw1, hs2, hb, hcw]
      rfl, c4, n4, by simp [upd, putA, t4], by simp [upd, putA, lrW, Tk.cells, wzc], by simp [upd, lrT], by simp [upd, lrC], rfl⟩
  · skip
    exact ⟨_, by
      simp (disch := first | (simp only [List.length_append, List.length_cons, List.length_nil]; omega) | (simp; done) | assumption) [AV.cells?, AV.isCell, -AV.cells?, cq_int, cq_str, -evIndex, -evSlice, -evLen, -evBuild, on0, on1, on2, on3, on4, on5, on6, on7, cutC, bodyOf, Tryz.f50, E_esc, sq9, bq9, bq3, RP.bq5, wc, wa, wk, wi, wz, k3, c3, a3, bz, czw, t0, t1, t7, t4, b4, n4, hw1, hs2, hb, hcw]
      rfl, c4, n4, by simp [upd, putA, t4], by simp [upd, putA, lrW, Tk.cells, wzc], by simp [upd, lrT], by simp [upd, lrC], rfl⟩
  · skip
    exact ⟨_, by
      simp (disch := first | (simp only [List.length_append, List.length_cons, List.length_nil]; omega) | (simp; done) | assumption) [AV.cells?, AV.isCell, -AV.cells?, cq_int, cq_str, -evIndex, -evSlice, -evLen, -evBuild, on0, on1, on2, on3, on4, on5, on6, on7, cutC, bodyOf, Tryz.f50, E_esc, sq9, bq9, bq3, RP.bq5, wc, wa, wk, wi, wz, k3, c3, a3, bz, czw, t0, t1, t7, t4, b4, n4, hw1, hs2, hb, hcw]
      rfl, c4, n4, by simp [upd, putA, t4], by simp [upd, putA, lrW, Tk.cells, wzc], by simp [upd, lrT], by simp [upd, lrC], rfl⟩
  · skip
    exact ⟨_, by
      simp (disch := first | (simp only [List.length_append, List.length_cons, List.length_nil]; omega) | (simp; done) | assumption) [AV.cells?, AV.isCell, -AV.cells?, cq_int, cq_str, -evIndex, -evSlice, -evLen, -evBuild, on0, on1, on2, on3, on4, on5, on6, on7, cutC, bodyOf, Tryz.f50, E_esc, sq9, bq9, bq3, RP.bq5, wc, wa, wk, wi, wz, k3, c3, a3, bz, czw, t0, t1, t7, t4, b4, n4, hw1, hs2, hb, hcw]
      rfl, c4, n4, by simp [upd, putA, t4], by simp [upd, putA, lrW, Tk.cells, wzc], by simp [upd, lrT], by simp [upd, lrC], rfl⟩
  · skip
    exact ⟨_, by
      simp (disch := first | (simp only [List.length_append, List.length_cons, List.length_nil]; omega) | (simp; done) | assumption) [AV.cells?, AV.isCell, -AV.cells?, cq_int, cq_str, -evIndex, -evSlice, -evLen, -evBuild, on0, on1, on2, on3, on4, on5, on6, on7, cutC, bodyOf, Tryz.f50, E_esc, sq9, bq9, bq3, RP.bq5, wc, wa, wk, wi, wz, k3, c3, a3, bz, czw, t0, t1, t7, t4, b4, n4, hw1, hs2, hb, hcw]
      rfl, c4, n4, by simp [upd, putA, t4], by simp [upd, putA, lrW, Tk.cells, wzc], by simp [upd, lrT], by simp [upd, lrC], rfl⟩
  · skip
    exact ⟨_, by
      simp (disch := first | (simp only [List.length_append, List.length_cons, List.length_nil]; omega) | (simp; done) | assumption) [AV.cells?, AV.isCell, -AV.cells?, cq_int, cq_str, -evIndex, -evSlice, -evLen, -evBuild, on0, on1, on2, on3, on4, on5, on6, on7, cutC, bodyOf, Tryz.f50, E_esc, sq9, bq9, bq3, RP.bq5, wc, wa, wk, wi, wz, k3, c3, a3, bz, czw, t0, t1, t7, t4, b4, n4, hw1, hs2, hb, hcw]
      rfl, c4, n4, by simp [upd, putA, t4], by simp [upd, putA, lrW, Tk.cells, wzc], by simp [upd, lrT], by simp [upd, lrC], rfl⟩
  · skip
    exact ⟨_, by
      simp (disch := first | (simp only [List.length_append, List.length_cons, List.length_nil]; omega) | (simp; done) | assumption) [AV.cells?, AV.isCell, -AV.cells?, cq_int, cq_str, -evIndex, -evSlice, -evLen, -evBuild, on0, on1, on2, on3, on4, on5, on6, on7, cutC, bodyOf, Tryz.f50, E_esc, sq9, bq9, bq3, RP.bq5, wc, wa, wk, wi, wz, k3, c3, a3, bz, czw, t0, t1, t7, t4, b4, n4, hw1, hs2, hb, hcw]
      rfl, c4, n4, by simp [upd, putA, t4], by simp [upd, putA, lrW, Tk.cells, wzc], by simp [upd, lrT], by simp [upd, lrC], rfl⟩
  · skip
    exact ⟨_, by
      simp (disch := first | (simp only [List.length_append, List.length_cons, List.length_nil]; omega) | (simp; done) | assumption) [AV.cells?, AV.isCell, -AV.cells?, cq_int, cq_str, -evIndex, -evSlice, -evLen, -evBuild, on0, on1, on2, on3, on4, on5, on6, on7, cutC, bodyOf, Tryz.f50, E_esc, sq9, bq9, bq3, RP.bq5, wc, wa, wk, wi, wz, k3, c3, a3, bz, czw, t0, t1, t7, t4, b4, n4, hw1, hs2, hb, hcw]
      rfl, c4, n4, by simp [upd, putA, t4], by simp [upd, putA, lrW, Tk.cells, wzc], by simp [upd, lrT], by simp [upd, lrC], rfl⟩
  · skip
    exact ⟨_, by
      simp (disch := first | (simp only [List.length_append, List.length_cons, List.length_nil]; omega) | (simp; done) | assumption) [AV.cells?, AV.isCell, -AV.cells?, cq_int, cq_str, -evIndex, -evSlice, -evLen, -evBuild, on0, on1, on2, on3, on4, on5, on6, on7, cutC, bodyOf, Tryz.f50, E_esc, sq9, bq9, bq3, RP.bq5, wc, wa, wk, wi, wz, k3, c3, a3, bz, czw, t0, t1, t7, t4, b4, n4, hw1, hs2, hb, hcw]
      rfl, c4, n4, by simp [upd, putA, t4], by simp [upd, putA, lrW, Tk.cells, wzc], by simp [upd, lrT], by simp [upd, lrC], rfl⟩
  · skip
    exact ⟨_, by
      simp (disch := first | (simp only [List.length_append, List.length_cons, List.length_nil]; omega) | (simp; done) | assumption) [AV.cells?, AV.isCell, -AV.cells?, cq_int, cq_str, -evIndex, -evSlice, -evLen, -evBuild, on0, on1, on2, on3, on4, on5, on6, on7, cutC, bodyOf, Tryz.f50, E_esc, sq9, bq9, bq3, RP.bq5, wc, wa, wk, wi, wz, k3, c3, a3, bz, czw, t0, t1, t7, t4, b4, n4, hw1, hs2, hb, hcw]
      rfl, c4, n4, by simp [upd, putA, t4], by simp [upd, putA, lrW, Tk.cells, wzc], by simp [upd, lrT], by simp [upd, lrC], rfl⟩
  · skip
    exact ⟨_, by
      simp (disch := first | (simp only [List.length_append, List.length_cons, List.length_nil]; omega) | (simp; done) | assumption) [AV.cells?, AV.isCell, -AV.cells?, cq_int, cq_str, -evIndex, -evSlice, -evLen, -evBuild, on0, on1, on2, on3, on4, on5, on6, on7, cutC, bodyOf, Tryz.f50, E_esc, sq9, bq9, bq3, RP.bq5, wc, wa, wk, wi, wz, k3, c3, a3, bz, czw, t0, t1, t7, t4, b4, n4, hw1, hs2, hb, hcw]
      rfl, c4, n4, by simp [upd, putA, t4], by simp [upd, putA, lrW, Tk.cells, wzc], by simp [upd, lrT], by simp [upd, lrC], rfl⟩
  · skip
    exact ⟨_, by
      simp (disch := first | (simp only [List.length_append, List.length_cons, List.length_nil]; omega) | (simp; done) | assumption) [AV.cells?, AV.isCell, -AV.cells?, cq_int, cq_str, -evIndex, -evSlice, -evLen, -evBuild, on0, on1, on2, on3, on4, on5, on6, on7, cutC, bodyOf, Tryz.f50, E_esc, sq9, bq9, bq3, RP.bq5, wc, wa, wk, wi, wz, k3, c3, a3, bz, czw, t0, t1, t7, t4, b4, n4, hw1, hs2, hb, hcw]
      rfl, c4, n4, by simp [upd, putA, t4], by simp [upd, putA, lrW, Tk.cells, wzc], by simp [upd, lrT], by simp [upd, lrC], rfl⟩
  · skip
    exact ⟨_, by
      simp (disch := first | (simp only [List.length_append, List.length_cons, List.length_nil]; omega) | (simp; done) | assumption) [AV.cells?, AV.isCell, -AV.cells?, cq_int, cq_str, -evIndex, -evSlice, -evLen, -evBuild, on0, on1, on2, on3, on4, on5, on6, on7, cutC, bodyOf, Tryz.f50, E_esc, sq9, bq9, bq3, RP.bq5, wc, wa, wk, wi, wz, k3, c3, a3, bz, czw, t0, t1, t7, t4, b4, n4, hw1, hs2, hb, hcw]
      rfl, c4, n4, by simp [upd, putA, t4], by simp [upd, putA, lrW, Tk.cells, wzc], by simp [upd, lrT], by simp [upd, lrC], rfl⟩
  · skip
    exact ⟨_, by
      simp (disch := first | (simp only [List.length_append, List.length_cons, List.length_nil]; omega) | (simp; done) | assumption) [AV.cells?, AV.isCell, -AV.cells?, cq_int, cq_str, -evIndex, -evSlice, -evLen, -evBuild, on0, on1, on2, on3, on4, on5, on6, on7, cutC, bodyOf, Tryz.f50, E_esc, sq9, bq9, bq3, RP.bq5, wc, wa, wk, wi, wz, k3, c3, a3, bz, czw, t0, t1, t7, t4, b4, n4, hw1, hs2, hb, hcw]
      rfl, c4, n4, by simp [upd, putA, t4], by simp [upd, putA, lrW, Tk.cells, wzc], by simp [upd, lrT], by simp [upd, lrC], rfl⟩
set_option maxHeartbeats 4000000 in
theorem on_none (n : Nat) (s : List UInt8) (p : Nat) (hs : s.length ≤ 1100000) (hp : p < s.length) (C : Int) (S : St) (fs : FS) (h : ON n s p C S fs) (g0 : ¬ C = 40) (g1 : ¬ C = 41) (g2 : ¬ C = 91) (g3 : ¬ C = 93) (g4 : ¬ C = 123) (g5 : ¬ C = 125) (g6 : ¬ C = 44) (g7 : ¬ C = 59) (g8 : ¬ C = 46) (g9 : ¬ C = 43) (g10 : ¬ C = 45) (g11 : ¬ C = 42) (g12 : ¬ C = 61) (g13 : ¬ C = 60) :
    ∃ fs', evCode ⟨Tryz.prog, E.esc 50, n⟩ (ev Tryz.prog E n) (E.ps 50) n (.seq on6 on7) fs = some (.ret, fs') ∧ OA n (.err 16) S fs' := by
  obtain ⟨t, b, cnt, S'⟩ := fs
  obtain ⟨c4, n4, t0, t1, t7, t4, b4, hS⟩ := h
  simp only at t0 t1 t7 t4 b4 hS
  subst hS
  exact ⟨_, by
    simp (disch := first | (simp only [List.length_append, List.length_cons, List.length_nil]; omega) | (simp; done) | assumption) [AV.cells?, AV.isCell, -AV.cells?, cq_int, cq_str, -evIndex, -evSlice, -evLen, -evBuild, on0, on1, on2, on3, on4, on5, on6, on7, cutC, bodyOf, Tryz.f50, E_esc, sq9, bq9, bq3, RP.bq5, wc, wa, wk, wi, wz, k3, c3, a3, bz, czw, t0, t1, t7, t4, b4, n4, g0, g1, g2, g3, g4, g5, g6, g7, g8, g9, g10, g11, g12, g13]
    rfl, c4, n4, by simp [upd, putA, t4], by simp [upd, putA, lrW, Tk.cells, wzc], by simp [upd, lrT], by simp [upd, lrC], rfl⟩
/-- a word that is no space -/
def oneR (s : List UInt8) (p : Nat) (c : UInt8) : LR := if headB c.toNat then namedR s p else if digB c.toNat then numberedR s p else if (c.toNat : Int) == 34 then quotedR s p else signedR s p
set_option maxHeartbeats 4000000 in
theorem on_all (n : Nat) (s : List UInt8) (p : Nat) (hs : s.length ≤ 1100000) (c : UInt8) (hc : s[p]? = some c) (hn : s.length + 70 < n) (S : St) :
    ∃ fs', evCode ⟨Tryz.prog, E.esc 50, n⟩ (ev Tryz.prog E n) (E.ps 50) n (.seq on0 (.seq on1 (.seq on2 (.seq on3 (.seq on4 (.seq on5 (.seq on6 on7))))))) ⟨argsA [.str s, .int .i64 (p : Int)], fun _ => (0, []), 0, S⟩ = some (.ret, fs') ∧ OA n (oneR s p c) S fs' := by
  obtain ⟨hp, he⟩ := List.getElem?_eq_some_iff.1 hc
  have hidx : evIndex Tryz.prog 9 (.str s) (.int .i64 (p : Int)) = some (.int .u8 (c.toNat : Int)) := by simp [evIndex, sq9, hp, he]
  obtain ⟨f1, e1, h1⟩ := on_first n s p _ hidx S
  unfold oneR
  rw [evCode_assoc, evCode_seq, e1, seqK_norm, evCode_seq]
  cases g1 : headB (c.toNat : Int)
  · obtain ⟨f2, e2, h2⟩ := on_head0 n s p hs hp _ S f1 h1 (n - 3) (by omega) g1
    rw [e2, seqK_norm, evCode_seq]
    simp only [Bool.false_eq_true, if_false]
    cases g2 : digB (c.toNat : Int)
    · obtain ⟨f3, e3, h3⟩ := on_dig0 n s p hs hp _ S f2 h2 g2
      rw [e3, seqK_norm, evCode_seq]
      simp only [Bool.false_eq_true, if_false]
      by_cases g3 : (c.toNat : Int) = 34
      · obtain ⟨f4, e4, h4⟩ := on_txt n s p hs hp _ S f3 h3 (n - 1) (by omega) (by omega) g3
        rw [e4, g3]
        exact ⟨f4, rfl, h4⟩
      · obtain ⟨f4, e4, h4⟩ := on_txt0 n s p hs hp _ S f3 h3 g3
        rw [e4, seqK_norm, evCode_seq, beq_eq_false_iff_ne.2 g3]
        simp only [Bool.false_eq_true, if_false]
        unfold signedR
        rw [sg_eq s p c hc]
        cases g4 : two61 s p c
        · obtain ⟨f5, e5, h5⟩ := on_two0 n s p hs hp _ S f4 h4 c rfl g4
          rw [e5, seqK_norm, if_neg (by simp), hc]
          simp only
          by_cases g5 : signsT.contains c = true
          · rw [if_pos g5]
            have : (c.toNat : Int) = 40 ∨ (c.toNat : Int) = 41 ∨ (c.toNat : Int) = 91 ∨ (c.toNat : Int) = 93 ∨ (c.toNat : Int) = 123 ∨ (c.toNat : Int) = 125 ∨ (c.toNat : Int) = 44 ∨ (c.toNat : Int) = 59 ∨ (c.toNat : Int) = 46 ∨ (c.toNat : Int) = 43 ∨ (c.toNat : Int) = 45 ∨ (c.toNat : Int) = 42 ∨ (c.toNat : Int) = 61 ∨ (c.toNat : Int) = 60 := by
              have := List.contains_iff_mem.1 g5
              simp only [signsT, List.mem_cons, List.not_mem_nil, or_false] at this
              rcases this with rfl | rfl | rfl | rfl | rfl | rfl | rfl | rfl | rfl | rfl | rfl | rfl | rfl | rfl <;> decide
            exact on_sig n s p hs hp _ S f5 h5 this
          · rw [if_neg g5]
            have hn : ∀ b : UInt8, b ∈ signsT → ¬ (c.toNat : Int) = (b.toNat : Int) := fun b hb e => g5 (List.contains_iff_mem.2 (by
              have : c = b := UInt8.toNat_inj.1 (by omega)
              rw [this]; exact hb))
            exact on_none n s p hs hp _ S f5 h5 (hn 40 (by decide)) (hn 41 (by decide)) (hn 91 (by decide)) (hn 93 (by decide)) (hn 123 (by decide)) (hn 125 (by decide)) (hn 44 (by decide)) (hn 59 (by decide)) (hn 46 (by decide)) (hn 43 (by decide)) (hn 45 (by decide)) (hn 42 (by decide)) (hn 61 (by decide)) (hn 60 (by decide))
        · obtain ⟨f5, e5, h5⟩ := on_two n s p hs hp _ S f4 h4 c rfl g4
          rw [e5, if_pos rfl]
          exact ⟨f5, rfl, h5⟩
    · obtain ⟨f3, e3, h3⟩ := on_dig n s p hs hp _ S f2 h2 (n - 3) (by omega) (by omega) g2
      rw [e3, if_pos rfl]
      exact ⟨f3, rfl, h3⟩
  · obtain ⟨f2, e2, h2⟩ := on_head n s p hs hp _ S f1 h1 (n - 3) (by omega) (by omega) g1
    rw [e2, if_pos rfl]
    exact ⟨f2, rfl, h2⟩
theorem ev_one6 (n : Nat) (s : List UInt8) (p : Nat) (hs : s.length ≤ 1100000) (c : UInt8) (hc : s[p]? = some c) (hn : s.length + 70 < n) (S : St) :
    ev Tryz.prog E (n + 1) 50 [.str s, .int .i64 (p : Int)] S = some (.ret (ans6 (oneR s p c)), S) := by
  rw [ev_enter (n := n) (show E.ok 50 = true from rfl) Tryz.func50 fbon (Nat.le_of_ble_eq_true rfl) (by decide +kernel)]
  obtain ⟨fs, e, c4, n4, t4, b4, t5, t6, hS⟩ := on_all n s p hs c hc hn S
  rw [e]
  clear e
  obtain ⟨t, b, cc, S'⟩ := fs
  simp only at t4 b4 t5 t6 hS
  subst hS
  have hf := fin6 (oneR s p c) S'
  have hl : (lrW (oneR s p c)).length = 4 := by cases oneR s p c <;> rfl
  have ht : List.take 4 (lrW (oneR s p c)) = lrW (oneR s p c) := List.take_of_length_le (by rw [hl]; exact Nat.le_refl _)
  unfold ans6 at *
  generalize lrW (oneR s p c) = W at *
  generalize lrT (oneR s p c) = T at *
  generalize lrC (oneR s p c) = K at *
  simp (disch := first | (simp only [List.length_append, List.length_cons, List.length_nil]; omega) | (simp; done) | assumption) [AV.cells?, AV.isCell, -AV.cells?, cq_int, Tryz.f50, t4, b4, t5, t6, n4, hl, ht, hf, wc, wa, wk]
end Go.Proofs.YtemggoaefohliaaGreatDoor.LR6
/- The reference's lexer, whole, is the lexer. No condition. -/
namespace Go.Proofs.YtemggoaefohliaaGreatDoor.LR6
set_option linter.unusedVariables false
set_option linter.unusedSimpArgs false
open Go AE EX PT NF LX PS RP
set_option maxRecDepth 100000

theorem oneR_err {s : List UInt8} {p : Nat} {c : UInt8} {e : Int} (h : oneR s p c = .err e) : e ≠ 0 := by
  unfold oneR namedR numberedR quotedR signedR at h
  repeat' split at h
  all_goals first
    | (cases h; done)
    | (cases h; decide)
theorem next_one (s : List UInt8) (p : Nat) (c : UInt8) : nextR s p c = if spaces.contains c then none else some (oneR s p c) := rfl
theorem appW (T : List Nat) (S0 : St) (out : List Tk) (t : Tk) (H1 : List HBox) (h : out.length ≤ 1048576) :
    evAppend Tryz.prog [41, 41] (lv S0 out) (.slice [.agg t.cells] .clip) ⟨H1, S0.T ++ lT out⟩ = some (lv S0 (out ++ [t]), ⟨H1, S0.T ++ lT (out ++ [t])⟩) := by
  have hs := sizes_tk out
  have ht : sizesOk 4 [.agg t.cells] = true := sizes_tk [t]
  have hl := tkL_length out
  have he : tkL (out ++ [t]) = tkL out ++ [.agg t.cells] := tkL_append out [t]
  have hne : out ++ [t] ≠ [] := by simp
  simp only [evAppend, ws, wu, elemsOf, wz, wc, wy, lv, lT, if_neg hne, he]
  by_cases h0 : out = []
  · subst h0
    simp [tkL, sizesOk, Tk.cells, AV.cells?, AV.isCell]
  · simp only [if_neg h0]
    simp [hs, ht, hl]
    omega
theorem bsW (t : Tk) : evBuildSlice Tryz.prog 41 1 [(0, .agg t.cells)] = some (.slice [.agg t.cells] .clip) := by
  have hc : (AV.agg t.cells).cells? = some t.cells := tkcells t
  simp [evBuildSlice, ws, wz, wc, wa, evElems, hc, tk_len]
theorem lv_cell (S0 : St) (out : List Tk) : (lv S0 out).cells? = some [lv S0 out] := by unfold lv; split <;> rfl
noncomputable def aaLoop : Code := cutC (bodyOf Tryz.f24) [1, 1, 1, 1, 0, 0, 0]
noncomputable def aa0 : Code := cutC (bodyOf Tryz.f24) [0]
noncomputable def aa1 : Code := cutC (bodyOf Tryz.f24) [1, 0]
noncomputable def aa2 : Code := cutC (bodyOf Tryz.f24) [1, 1, 0]
noncomputable def aa3 : Code := cutC (bodyOf Tryz.f24) [1, 1, 1, 0]
noncomputable def aa4 : Code := cutC (bodyOf Tryz.f24) [1, 1, 1, 1, 1]
theorem fbaa : Tryz.f24.body = some (.seq aa0 (.seq aa1 (.seq aa2 (.seq aa3 (.seq (.block 0 (.loop aaLoop)) aa4))))) := rfl
def aS (S : St) (out : List Tk) : St := ⟨S.H, S.T ++ lT out⟩
def AAI (S0 : St) (s : List UInt8) (R : Except (Int × Nat) (List Tk)) (m : Nat) (fs : FS) : Prop :=
  ∃ p out f, p + m = s.length ∧ out.length ≤ p ∧ m < f ∧ fs.t 0 = .str s ∧ fs.t 5 = lv S0 out ∧ fs.t 6 = .int .i64 (p : Int) ∧ fs.S = aS S0 out ∧ LX.lexF s f p out = R
def AAQ (S0 : St) (s : List UInt8) (R : Except (Int × Nat) (List Tk)) (r : Out × FS) : Prop :=
  (r.1 = .exit 0 ∧ ∃ p out, out.length ≤ p ∧ p ≤ s.length ∧ r.2.t 5 = lv S0 out ∧ r.2.t 6 = .int .i64 (p : Int) ∧ r.2.S = aS S0 out ∧ R = .ok (out ++ [⟨5, [], 0, p⟩])) ∨
  (r.1 = .ret ∧ ∃ p out c, c ≠ 0 ∧ r.2.t 2 = .slice [] .clip ∧ r.2.t 3 = .int .i64 c ∧ r.2.t 4 = .int .i64 ((p : Nat) : Int) ∧ r.2.S = aS S0 out ∧ R = .error (c, p))
set_option maxHeartbeats 4000000 in
theorem aa_round (n : Nat) (S0 : St) (s : List UInt8) (R : Except (Int × Nat) (List Tk)) (hs : s.length ≤ 1048576) (hn : s.length + 70 < n) (m : Nat) (fs : FS) (h : AAI S0 s R m fs) :
    ∃ o fs', evCode ⟨Tryz.prog, E.esc 24, n + 1⟩ (ev Tryz.prog E (n + 1)) (E.ps 24) (n + 1) aaLoop fs = some (o, fs') ∧ ((o = .norm ∧ ∃ m', m' < m ∧ AAI S0 s R m' fs') ∨ (o ≠ .norm ∧ AAQ S0 s R (o, fs'))) := by
  obtain ⟨t, b, cnt, S⟩ := fs
  obtain ⟨p, out, f, hpm, hol, hmf, h0, h5, h6, hS, hR⟩ := h
  simp only at h0 h5 h6 hS
  subst hS
  obtain ⟨f, rfl⟩ : ∃ g, f = g + 1 := ⟨f - 1, by omega⟩
  have hlen : evLen Tryz.prog 9 (.str s) = some (.int .i64 (s.length : Int)) := by simp [evLen, sq9]
  cases hc : s[p]? with
  | none =>
    have hge : s.length ≤ p := by simpa using hc
    have hltz : ¬ (p : Int) < s.length := by omega
    have hR' : R = .ok (out ++ [⟨5, [], 0, p⟩]) := by rw [← hR, LX.lexF, hc]
    have hlv := h5
    generalize (s.length : Int) = L at *
    refine ⟨.exit 0, _, by
      simp (disch := first | (simp only [List.length_append, List.length_cons, List.length_nil]; omega) | (simp; done) | assumption) [AV.cells?, AV.isCell, -evLen, aaLoop, cutC, bodyOf, Tryz.f24, E_esc, h0, h6, hlen, sq9, bq3, hltz]
      rfl, .inr ⟨by simp, .inl ⟨rfl, p, out, hol, by omega, by simp [upd, h5], by simp [upd, h6], rfl, hR'⟩⟩⟩
  | some c0 =>
    have hlt : p < s.length := (List.getElem?_eq_some_iff.1 hc).1
    have he : s[p] = c0 := (List.getElem?_eq_some_iff.1 hc).2
    have hltz : (p : Int) < s.length := by omega
    have hidx : evIndex Tryz.prog 9 (.str s) (.int .i64 (p : Int)) = some (.int .u8 (c0.toNat : Int)) := by simp [evIndex, sq9, hlt, he]
    have hN := ev_one6 n s p (by omega) c0 hc hn (aS S0 out)
    have hw : IntKind.i64.wrap ((p : Int) + 1) = ((p + 1 : Nat) : Int) := by rw [wrap64 _ (by omega)]; omega
    rw [LX.lexF, hc] at hR
    simp only at hR
    rw [next_one] at hR
    by_cases hsp : spaces.contains c0 = true
    · rw [if_pos hsp] at hR
      simp only at hR
      have hC : (c0.toNat : Int) = 32 ∨ (c0.toNat : Int) = 9 ∨ (c0.toNat : Int) = 10 ∨ (c0.toNat : Int) = 13 := by
        have := List.contains_iff_mem.1 hsp
        simp only [spaces, List.mem_cons, List.not_mem_nil, or_false] at this
        rcases this with rfl | rfl | rfl | rfl <;> decide
      clear hN he
      generalize (c0.toNat : Int) = C at *
      generalize hP1 : p + 1 = P1 at *
      generalize hSS : aS S0 out = S1 at *
      generalize hL : (s.length : Int) = L at *
      rcases hC with rfl | rfl | rfl | rfl
      · refine ⟨.norm, _, by
          simp (disch := first | (simp only [List.length_append, List.length_cons, List.length_nil]; omega) | (simp; done) | assumption) [AV.cells?, AV.isCell, -evLen, -evIndex, aaLoop, cutC, bodyOf, Tryz.f24, E_esc, h0, h6, hlen, sq9, bq3, RP.bq5, hltz, hidx, hw]
          rfl, .inl ⟨rfl, m - 1, by omega, P1, out, f, by omega, by omega, by omega, by simp [upd, h0], by simp [upd, h5], by simp [upd], hSS.symm, hR⟩⟩
      · refine ⟨.norm, _, by
          simp (disch := first | (simp only [List.length_append, List.length_cons, List.length_nil]; omega) | (simp; done) | assumption) [AV.cells?, AV.isCell, -evLen, -evIndex, aaLoop, cutC, bodyOf, Tryz.f24, E_esc, h0, h6, hlen, sq9, bq3, RP.bq5, hltz, hidx, hw]
          rfl, .inl ⟨rfl, m - 1, by omega, P1, out, f, by omega, by omega, by omega, by simp [upd, h0], by simp [upd, h5], by simp [upd], hSS.symm, hR⟩⟩
      · refine ⟨.norm, _, by
          simp (disch := first | (simp only [List.length_append, List.length_cons, List.length_nil]; omega) | (simp; done) | assumption) [AV.cells?, AV.isCell, -evLen, -evIndex, aaLoop, cutC, bodyOf, Tryz.f24, E_esc, h0, h6, hlen, sq9, bq3, RP.bq5, hltz, hidx, hw]
          rfl, .inl ⟨rfl, m - 1, by omega, P1, out, f, by omega, by omega, by omega, by simp [upd, h0], by simp [upd, h5], by simp [upd], hSS.symm, hR⟩⟩
      · refine ⟨.norm, _, by
          simp (disch := first | (simp only [List.length_append, List.length_cons, List.length_nil]; omega) | (simp; done) | assumption) [AV.cells?, AV.isCell, -evLen, -evIndex, aaLoop, cutC, bodyOf, Tryz.f24, E_esc, h0, h6, hlen, sq9, bq3, RP.bq5, hltz, hidx, hw]
          rfl, .inl ⟨rfl, m - 1, by omega, P1, out, f, by omega, by omega, by omega, by simp [upd, h0], by simp [upd, h5], by simp [upd], hSS.symm, hR⟩⟩
    · have hx : nextR s p c0 = some (oneR s p c0) := by rw [next_one, if_neg hsp]
      rw [if_neg hsp] at hR
      have hn' : ∀ b : UInt8, b ∈ spaces → ¬ (c0.toNat : Int) = (b.toNat : Int) := fun b hb e => hsp (List.contains_iff_mem.2 (by
        have : c0 = b := UInt8.toNat_inj.1 (by omega)
        rw [this]; exact hb))
      have g1 : ¬ (c0.toNat : Int) = 32 := hn' 32 (by decide)
      have g2 : ¬ (c0.toNat : Int) = 9 := hn' 9 (by decide)
      have g3 : ¬ (c0.toNat : Int) = 10 := hn' 10 (by decide)
      have g4 : ¬ (c0.toNat : Int) = 13 := hn' 13 (by decide)
      clear hn' he
      cases ho : oneR s p c0 with
      | err e =>
        have he0 := oneR_err ho
        rw [ho] at hN hR
        simp only [ans6, lrW, lrT, lrC] at hN
        simp only at hR
        clear hx
        have hz := czw
        have hzl : wzc.length = 4 := rfl
        have hzt : List.take 4 wzc = wzc := rfl
        generalize (c0.toNat : Int) = C at *
        generalize hSS : aS S0 out = S1 at *
        generalize hL : (s.length : Int) = L at *
        generalize wzc = W at *
        refine ⟨.ret, _, by
          simp (disch := first | (simp only [List.length_append, List.length_cons, List.length_nil]; omega) | (simp; done) | assumption) [AV.cells?, AV.isCell, -AV.cells?, cq_int, -evLen, -evIndex, aaLoop, cutC, bodyOf, Tryz.f24, E_esc, h0, h6, hlen, sq9, bq3, RP.bq5, hltz, hidx, g1, g2, g3, g4, hN, he0, hz, hzl, hzt, wz, wc, wa, wk, wi, k3, c3, a3]
          rfl, .inr ⟨by simp, .inr ⟨rfl, p, out, e, he0, by simp [upd, putA, rho, ofC, ofC0], by simp [upd], by simp [upd], hSS.symm, hR.symm⟩⟩⟩
      | word w to =>
        rw [ho] at hx
        obtain ⟨k1, k2, k3'⟩ := next_far hc hx
        rw [ho] at hN hR
        simp only [ans6, lrW, lrT, lrC] at hN
        simp only at hR
        clear hx
        have hz : (AV.agg w.cells).cells? = some w.cells := tkcells w
        have hzl : w.cells.length = 4 := rfl
        have hzt : List.take 4 w.cells = w.cells := rfl
        have hbs := bsW w
        have hap : evAppend Tryz.prog [41, 41] (lv S0 out) (.slice [.agg w.cells] .clip) (aS S0 out) = some (lv S0 (out ++ [w]), aS S0 (out ++ [w])) := appW [] S0 out w _ (by omega)
        have hlv := lv_cell S0 (out ++ [w])
        generalize (c0.toNat : Int) = C at *
        generalize hS2 : aS S0 (out ++ [w]) = S2 at *
        generalize hSS : aS S0 out = S1 at *
        generalize hL : (s.length : Int) = L at *
        generalize w.cells = W at *
        generalize hl2 : lv S0 (out ++ [w]) = l2 at *
        generalize lv S0 out = l1 at *
        refine ⟨.norm, _, by
          simp (disch := first | (simp only [List.length_append, List.length_cons, List.length_nil]; omega) | (simp; done) | assumption) [AV.cells?, AV.isCell, -AV.cells?, cq_int, -evLen, -evIndex, -evBuildSlice, aaLoop, cutC, bodyOf, Tryz.f24, E_esc, h0, h5, h6, hlen, sq9, bq3, RP.bq5, hltz, hidx, g1, g2, g3, g4, hN, hz, hzl, hzt, hbs, hap, hlv, wz, wc, wa, wk, wi, k3, c3, a3]
          rfl, .inl ⟨rfl, s.length - to, by omega, to, out ++ [w], f, by omega, by simp; omega, by omega, by simp [upd, putA, h0], by simp [upd, putA, hl2], by simp [upd, putA], hS2.symm, hR⟩⟩
end Go.Proofs.YtemggoaefohliaaGreatDoor.LR6
/- The reference's lexer, whole (2). No condition. -/
namespace Go.Proofs.YtemggoaefohliaaGreatDoor.LR6
set_option linter.unusedVariables false
set_option linter.unusedSimpArgs false
open Go AE EX PT NF LX PS RP
set_option maxRecDepth 100000

theorem fin_all6 (S0 : St) (out : List Tk) (t : Tk) : finish S0 (.tup [lv S0 (out ++ [t]), .int .i64 0, .int .i64 0]) (aS S0 (out ++ [t])) = some (.tup [.slice (tkL (out ++ [t])) .non, .int .i64 0, .int .i64 0], S0) := by
  have hne : out ++ [t] ≠ [] := by simp
  unfold finish
  simp [lv, hne, AV.sealed, AV.sealedL, AV.strip, AV.stripL, AV.low, AV.lowL, sealed_tkL, strip_tkL, low_tkL, aS, boxEqL_refl]
theorem fin_err6 (S0 : St) (out : List Tk) (c p : Int) : finish S0 (.tup [.slice [] .clip, .int .i64 c, .int .i64 p]) (aS S0 out) = some (.tup [.slice [] .clip, .int .i64 c, .int .i64 p], S0) := by
  unfold finish
  simp [AV.sealed, AV.sealedL, AV.strip, AV.stripL, AV.low, AV.lowL, aS, boxEqL_refl]
set_option maxHeartbeats 4000000 in
theorem ev_All6 (n : Nat) (S0 : St) (s : List UInt8) (hs : s.length ≤ 1100000) (hn : s.length + 70 < n) :
    (∀ l, lexAll s = .ok l → ev Tryz.prog E (n + 2) 24 [.str s] S0 = some (.ret (.tup [.slice (tkL l) .non, .int .i64 0, .int .i64 0]), S0)) ∧
    (∀ c p, lexAll s = .error (c, p) → c ≠ 0 ∧ ev Tryz.prog E (n + 2) 24 [.str s] S0 = some (.ret (.tup [.slice [] .clip, .int .i64 c, .int .i64 (p : Int)]), S0)) := by
  have hlen : evLen Tryz.prog 9 (.str s) = some (.int .i64 (s.length : Int)) := by simp [evLen, sq9]
  have haS : aS S0 [] = S0 := by simp [aS, lT]
  by_cases hlong : 4096 < s.length
  · have hlz : (4096 : Int) < s.length := by omega
    refine ⟨fun l h => by simp [lexAll, hlong] at h, fun c p h => ?_⟩
    simp [lexAll, hlong] at h
    obtain ⟨rfl, rfl⟩ := h
    refine ⟨by decide, ?_⟩
    have hf := fin_err6 S0 [] 5 0
    rw [haS] at hf
    simp only [Int.ofNat_zero, Int.natCast_zero]
    generalize (s.length : Int) = L at *
    rw [show n + 2 = (n + 1) + 1 from rfl, ev_enter (n := n + 1) (show E.ok 24 = true from rfl) Tryz.func24 (fn := Tryz.f24) rfl (Nat.le_of_ble_eq_true rfl) (by decide +kernel)]
    simp (disch := first | (simp only [List.length_append, List.length_cons, List.length_nil]; omega) | (simp; done) | assumption) [AV.cells?, AV.isCell, -evLen, Tryz.f24, E_esc, hlen, sq9, bq3, hlz, hf, ofC, ofC0]
  · have hlz : ¬ (4096 : Int) < s.length := by omega
    obtain ⟨fs1, e1, p1⟩ : ∃ fs', evCode ⟨Tryz.prog, E.esc 24, n + 1⟩ (ev Tryz.prog E (n + 1)) (E.ps 24) (n + 1) (.seq (.seq (.seq aa0 aa1) aa2) aa3) ⟨argsA [.str s], fun _ => (0, []), 0, S0⟩ = some (.norm, fs') ∧ AAI S0 s (LX.lexF s (s.length + 1) 0 []) s.length fs' := by
      generalize hL : (s.length : Int) = L at *
      refine ⟨_, by
        simp (disch := first | (simp only [List.length_append, List.length_cons, List.length_nil]; omega) | (simp; done) | assumption) [AV.cells?, AV.isCell, -evLen, aa0, aa1, aa2, aa3, cutC, bodyOf, Tryz.f24, E_esc, hlen, sq9, bq3, hlz]
        rfl, 0, [], s.length + 1, by omega, by simp, by omega, by simp [upd, argsA], by simp [upd, lv, tkL, ofC, ofC0], by simp [upd], haS.symm, rfl⟩
    obtain ⟨⟨o, fs2⟩, r1, r2⟩ := iter_meas (fun m' fs h => aa_round n S0 s _ (by omega) hn m' fs h) s.length (n + 1) fs1 (by omega) p1
    have hlx : lexAll s = LX.lexF s (s.length + 1) 0 [] := if_neg hlong
    rw [hlx]
    generalize LX.lexF s (s.length + 1) 0 [] = R at *
    have henter : ev Tryz.prog E (n + 2) 24 [.str s] S0 = _ := ev_enter (n := n + 1) (show E.ok 24 = true from rfl) Tryz.func24 fbaa (Nat.le_of_ble_eq_true rfl) (by decide +kernel)
    rw [henter]
    rw [evCode_assoc, evCode_assoc, evCode_assoc, evCode_seq, e1, seqK_norm, evCode_seq, evCode_block, evCode_loop, r1]
    clear e1 p1 r1 henter hlx
    obtain ⟨t, b, cnt, S'⟩ := fs2
    rcases r2 with ⟨q1, p, out, q2, q3, q5, q6, qS, qR⟩ | ⟨q1, p, out, c, hc, q2, q3, q4, qS, qR⟩
    · simp only at q1 q5 q6 qS
      subst q1 qS qR
      refine ⟨fun l h => ?_, fun c p h => by cases h⟩
      cases h
      rw [blockK_exit, if_pos rfl, seqK_norm]
      have hw : evBuild Tryz.prog 60 [(0, .int .i64 5), (1, .str []), (2, .int .i64 0), (3, .int .i64 (p : Int))] = some (.agg (Tk.cells ⟨5, [], 0, p⟩)) := bw 5 [] 0 p
      have hbs := bsW ⟨5, [], 0, p⟩
      have hap : evAppend Tryz.prog [41, 41] (lv S0 out) (.slice [.agg (Tk.cells ⟨5, [], 0, p⟩)] .clip) (aS S0 out) = some (lv S0 (out ++ [⟨5, [], 0, p⟩]), aS S0 (out ++ [⟨5, [], 0, p⟩])) := appW [] S0 out ⟨5, [], 0, p⟩ _ (by omega)
      have hf := fin_all6 S0 out ⟨5, [], 0, p⟩
      generalize tkL (out ++ [⟨5, [], 0, p⟩]) = TT at *
      generalize lv S0 (out ++ [⟨5, [], 0, p⟩]) = l2 at *
      generalize aS S0 (out ++ [⟨5, [], 0, p⟩]) = S2 at *
      generalize aS S0 out = S1 at *
      generalize lv S0 out = l1 at *
      generalize Tk.cells ⟨5, [], 0, p⟩ = W at *
      simp (disch := first | (simp only [List.length_append, List.length_cons, List.length_nil]; omega) | (simp; done) | assumption) [AV.cells?, AV.isCell, -evBuild, -evBuildSlice, aa4, cutC, bodyOf, Tryz.f24, E_esc, q5, q6, hw, hbs, hap, hf]
    · simp only at q1 q2 q3 q4 qS
      subst q1 qS qR
      refine ⟨fun l h => (by cases h), fun c' p' h => ?_⟩
      cases h
      refine ⟨hc, ?_⟩
      rw [blockK_ret]
      have hf := fin_err6 S0 out c (p : Int)
      generalize aS S0 out = S1 at *
      simp (disch := first | (simp only [List.length_append, List.length_cons, List.length_nil]; omega) | (simp; done) | assumption) [AV.cells?, AV.isCell, aa4, cutC, bodyOf, Tryz.f24, q2, q3, q4, hf]
end Go.Proofs.YtemggoaefohliaaGreatDoor.LR6
/- The reference's Check, evaluated (made by genck.py). No condition. -/
namespace Go.Proofs.YtemggoaefohliaaGreatDoor.CK
set_option linter.unusedVariables false
set_option linter.unusedSimpArgs false
open Go AE EX PT
set_option maxRecDepth 100000


theorem ev_head (n : Nat) (c : Int) (S : St) : ev Tryz.prog E (n + 1) 80 [.int .u8 c] S = some (.ret (.bool (headB c)), S) := by
  rw [ev_enter (n := n) (show E.ok 80 = true from rfl) Tryz.func80 (fn := Tryz.f80) rfl (Nat.le_of_ble_eq_true rfl) (by decide +kernel)]
  cases h1 : decide (97 ≤ c) <;> cases h2 : decide (c ≤ 122) <;> cases h3 : decide (65 ≤ c) <;> cases h4 : decide (c ≤ 90) <;> cases h5 : c == 95 <;>
    simp (disch := first | (simp only [List.length_append, List.length_cons, List.length_nil]; omega) | (simp; done) | assumption) [AV.cells?, AV.isCell, Tryz.f80, bq5, headB, h1, h2, h3, h4, h5]
theorem ev_tail (n : Nat) (c : Int) (S : St) : ev Tryz.prog E (n + 2) 96 [.int .u8 c] S = some (.ret (.bool (tailB c)), S) := by
  have hh := ev_head n c S
  rw [show n + 2 = (n + 1) + 1 from rfl, ev_enter (n := n + 1) (show E.ok 96 = true from rfl) Tryz.func96 (fn := Tryz.f96) rfl (Nat.le_of_ble_eq_true rfl) (by decide +kernel)]
  cases h0 : headB c <;> rw [h0] at hh <;> cases h1 : decide (48 ≤ c) <;> cases h2 : decide (c ≤ 57) <;>
    simp (disch := first | (simp only [List.length_append, List.length_cons, List.length_nil]; omega) | (simp; done) | assumption) [AV.cells?, AV.isCell, Tryz.f96, bq5, tailB, h0, h1, h2, hh]

/-! ### a text -/
noncomputable def pLoop : Code := cutC (bodyOf Tryz.f58) [1, 1, 0, 1, 0, 0]
noncomputable def pl0 : Code := cutC (bodyOf Tryz.f58) [0]
noncomputable def pl1 : Code := cutC (bodyOf Tryz.f58) [1, 0]
noncomputable def pl2 : Code := cutC (bodyOf Tryz.f58) [1, 1, 0, 0]
noncomputable def pl3 : Code := cutC (bodyOf Tryz.f58) [1, 1, 1]
theorem f54b : Tryz.f58.body = some (.seq pl0 (.seq pl1 (.seq (.seq pl2 (.block 0 (.loop pLoop))) pl3))) := rfl

theorem plain_round (n : Nat) (s : List UInt8) (S0 : St) (hs : s.length ≤ 32) (m : Nat) (fs : FS) (h : PI s S0 m fs) :
    ∃ o fs', evCode ⟨Tryz.prog, E.esc 58, n⟩ (ev Tryz.prog E n) (E.ps 58) n pLoop fs = some (o, fs') ∧ ((o = .norm ∧ ∃ m', m' < m ∧ PI s S0 m' fs') ∨ (o ≠ .norm ∧ PQ s S0 (o, fs'))) := by
  obtain ⟨t, b, v, S⟩ := fs
  obtain ⟨i, hi, h1, h2, h3, h4⟩ := h
  simp at h1 h2 h3
  subst h3
  cases m with
  | zero =>
    have hi : i = s.length := by omega
    subst hi
    refine ⟨.exit 0, _, by
      simp (disch := first | (simp only [List.length_append, List.length_cons, List.length_nil]; omega) | (simp; done) | assumption) [AV.cells?, AV.isCell, pLoop, cutC, bodyOf, Tryz.f58, h1, h2, bq3, sq9]
      rfl, .inr ⟨by simp, rfl, .inl ⟨rfl, by simpa using h4⟩⟩⟩
  | succ m =>
    have hlt : i < s.length := by omega
    have hxe : s[i]? = some s[i] := List.getElem?_eq_getElem hlt
    have hmem : s[i] ∈ s := List.getElem_mem hlt
    have htake : s.take (i + 1) = s.take i ++ [s[i]] := by rw [List.take_add_one, hxe]; rfl
    have hw : IntKind.i64.wrap ((i : Int) + 1) = (i : Int) + 1 := wrap64 _ (by omega)
    have bad : badB s[i] = true → s.all (fun c => !badB c) = false := fun hb => by
      rw [List.all_eq_false]
      exact ⟨_, hmem, by simp [hb]⟩
    have good : badB s[i] = false → (s.take (i + 1)).all (fun c => !badB c) = true := fun hb => by
      rw [htake, List.all_append, h4]; simp [hb]
    cases e1 : ((s[i].toNat : Int) == 34)
    · cases e2 : ((s[i].toNat : Int) == 10)
      · refine ⟨.norm, _, by
          simp (disch := first | (simp only [List.length_append, List.length_cons, List.length_nil]; omega) | (simp; done) | assumption) [AV.cells?, AV.isCell, pLoop, cutC, bodyOf, Tryz.f58, h1, h2, bq3, sq9, hlt, hxe, bq5, e1, e2]
          rfl, .inl ⟨rfl, m, by omega, i + 1, by omega, by simp [upd, h1], by simp [upd, hw], rfl, good (by simp [badB, e1, e2])⟩⟩
      · refine ⟨.ret, _, by
          simp (disch := first | (simp only [List.length_append, List.length_cons, List.length_nil]; omega) | (simp; done) | assumption) [AV.cells?, AV.isCell, pLoop, cutC, bodyOf, Tryz.f58, h1, h2, bq3, sq9, hlt, hxe, bq5, e1, e2]
          rfl, .inr ⟨by simp, rfl, .inr ⟨rfl, by simp [upd], bad (by simp [badB, e1, e2])⟩⟩⟩
    · refine ⟨.ret, _, by
        simp (disch := first | (simp only [List.length_append, List.length_cons, List.length_nil]; omega) | (simp; done) | assumption) [AV.cells?, AV.isCell, pLoop, cutC, bodyOf, Tryz.f58, h1, h2, bq3, sq9, hlt, hxe, bq5, e1]
        rfl, .inr ⟨by simp, rfl, .inr ⟨rfl, by simp [upd], bad (by simp [badB, e1])⟩⟩⟩

theorem ev_Plain (n : Nat) (hn : 33 ≤ n) (s : List UInt8) (S : St) : ev Tryz.prog E (n + 1) 58 [.str s] S = some (.ret (.bool (plainB s)), S) := by
  rw [ev_enter (n := n) (show E.ok 58 = true from rfl) Tryz.func58 f54b (Nat.le_of_ble_eq_true rfl) (by decide +kernel)]
  by_cases hs : s.length ≤ 32
  · obtain ⟨⟨o, t, b, v, S'⟩, hr, hS, hq⟩ := iter_meas (fun m fs h => plain_round n s S hs m fs h) s.length n ⟨upd 3 (.int .i64 0) (upd 6 (.bool false) (upd 5 (.int .i64 s.length) (upd 4 (.str s) (upd 2 (.bool false) (argsA [.str s]))))), fun _ => (0, []), 5, S⟩ (by omega)
      ⟨0, by omega, by simp [upd, argsA], by simp [upd], rfl, by simp⟩
    simp at hS hq
    subst hS
    have h32 : ¬ (32 : Int) < s.length := by omega
    have h32' : ¬ 32 < s.length := by omega
    rcases hq with ⟨rfl, ha⟩ | ⟨rfl, h2, ha⟩
    · have hp : plainB s = true := by simp [plainB, hs]; exact ha
      simp (disch := first | (simp only [List.length_append, List.length_cons, List.length_nil]; omega) | (simp; done) | assumption) [AV.cells?, AV.isCell, pl0, pl1, pl2, pl3, cutC, bodyOf, Tryz.f58, bq3, sq9, h32, h32', hr, hp]
    · have hp : plainB s = false := by simp [plainB, hs]; simpa using ha
      simp (disch := first | (simp only [List.length_append, List.length_cons, List.length_nil]; omega) | (simp; done) | assumption) [AV.cells?, AV.isCell, pl0, pl1, pl2, pl3, cutC, bodyOf, Tryz.f58, bq3, sq9, h32, h32', hr, hp, h2]
  · have h32 : (32 : Int) < s.length := by omega
    have h32' : 32 < s.length := by omega
    have hp : plainB s = false := by simp [plainB, hs]
    simp (disch := first | (simp only [List.length_append, List.length_cons, List.length_nil]; omega) | (simp; done) | assumption) [AV.cells?, AV.isCell, pl0, pl1, pl2, pl3, cutC, bodyOf, Tryz.f58, bq3, sq9, h32, h32', hp]
end Go.Proofs.YtemggoaefohliaaGreatDoor.CK
/- The reference's Check, evaluated (made by genck.py). No condition. -/
namespace Go.Proofs.YtemggoaefohliaaGreatDoor.CK
set_option linter.unusedVariables false
set_option linter.unusedSimpArgs false
open Go AE EX PT
set_option maxRecDepth 100000


noncomputable def nLoop : Code := cutC (bodyOf Tryz.f59) [1, 1, 0, 1, 0, 0]
noncomputable def nl0 : Code := cutC (bodyOf Tryz.f59) [0]
noncomputable def nl1 : Code := cutC (bodyOf Tryz.f59) [1, 0]
noncomputable def nl2 : Code := cutC (bodyOf Tryz.f59) [1, 1, 0, 0]
noncomputable def nl3 : Code := cutC (bodyOf Tryz.f59) [1, 1, 1]
theorem f55b : Tryz.f59.body = some (.seq nl0 (.seq nl1 (.seq (.seq nl2 (.block 0 (.loop nLoop))) nl3))) := rfl

theorem name_round (n : Nat) (c : UInt8) (r : List UInt8) (S0 : St) (hs : r.length ≤ 16) (m : Nat) (fs : FS) (h : NI c r S0 m fs) :
    ∃ o fs', evCode ⟨Tryz.prog, E.esc 59, n + 2⟩ (ev Tryz.prog E (n + 2)) (E.ps 59) (n + 2) nLoop fs = some (o, fs') ∧ ((o = .norm ∧ ∃ m', m' < m ∧ NI c r S0 m' fs') ∨ (o ≠ .norm ∧ NQ c r S0 (o, fs'))) := by
  obtain ⟨t, b, v, S⟩ := fs
  obtain ⟨i, hi, h1, h2, h3, h4⟩ := h
  simp only at h1 h2 h3
  subst h3
  cases m with
  | zero =>
    have hi : i = r.length := by omega
    subst hi
    refine ⟨.exit 0, _, by
      simp (disch := first | (simp only [List.length_append, List.length_cons, List.length_nil]; omega) | (simp; done) | assumption) [AV.cells?, AV.isCell, nLoop, cutC, bodyOf, Tryz.f59, h1, h2, bq3, sq9]
      rfl, .inr ⟨by simp, rfl, .inl ⟨rfl, by simpa using h4⟩⟩⟩
  | succ m =>
    have hlt : i < r.length := by omega
    have hxe : r[i]? = some r[i] := List.getElem?_eq_getElem hlt
    have hmem : r[i] ∈ r := List.getElem_mem hlt
    have htake : r.take (i + 1) = r.take i ++ [r[i]] := by rw [List.take_add_one, hxe]; rfl
    have hw : IntKind.i64.wrap (((i + 1 : Nat) : Int) + 1) = ((i + 1 + 1 : Nat) : Int) := by rw [wrap64 _ (by omega)]; omega
    have ht := ev_tail n (r[i].toNat : Int) S
    have hidx : evIndex Tryz.prog 9 (.str (c :: r)) (.int .i64 ((i + 1 : Nat) : Int)) = some (.int .u8 (r[i].toNat : Int)) := by
      simp [evIndex, sq9, hlt]
      omega
    have hlt2 : decide (((i + 1 : Nat) : Int) < ((c :: r).length : Int)) = true := by simp; omega
    have hlt3 : i + 1 < (c :: r).length := by simp; omega
    cases e1 : tailB (r[i].toNat : Int)
    · rw [e1] at ht
      have bad : r.all tl = false := by
        rw [List.all_eq_false]
        exact ⟨_, hmem, by simp [tl, e1]⟩
      refine ⟨.ret, _, by
        simp -implicitDefEqProofs (disch := first | (simp only [List.length_append, List.length_cons, List.length_nil]; omega) | (simp; done) | assumption) [AV.cells?, AV.isCell, -evIndex, -Int.natCast_add, -List.length_cons, nLoop, cutC, bodyOf, Tryz.f59, h1, h2, bq3, sq9, hidx, hlt2, hlt3, ht]
        rfl, .inr ⟨by simp, rfl, .inr ⟨rfl, by simp [upd], bad⟩⟩⟩
    · rw [e1] at ht
      have good : (r.take (i + 1)).all tl = true := by rw [htake, List.all_append, h4]; simp [tl, e1]
      refine ⟨.norm, _, by
        simp -implicitDefEqProofs (disch := first | (simp only [List.length_append, List.length_cons, List.length_nil]; omega) | (simp; done) | assumption) [AV.cells?, AV.isCell, -evIndex, -Int.natCast_add, -List.length_cons, nLoop, cutC, bodyOf, Tryz.f59, h1, h2, bq3, sq9, hidx, hlt2, hlt3, ht, hw]
        rfl, .inl ⟨rfl, m, by omega, i + 1, by omega, by simp [upd, h1], by simp [upd, hw], rfl, good⟩⟩

theorem ev_Name (n : Nat) (hn : 33 ≤ n) (s : List UInt8) (S : St) : ev Tryz.prog E (n + 3) 59 [.str s] S = some (.ret (.bool (nameB s)), S) := by
  rw [show n + 3 = (n + 2) + 1 from rfl, ev_enter (n := n + 2) (show E.ok 59 = true from rfl) Tryz.func59 f55b (Nat.le_of_ble_eq_true rfl) (by decide +kernel)]
  cases s with
  | nil => simp (disch := first | (simp only [List.length_append, List.length_cons, List.length_nil]; omega) | (simp; done) | assumption) [AV.cells?, AV.isCell, nl0, nl1, nl2, nl3, cutC, bodyOf, Tryz.f59, bq9, bq3, sq9, nameB]
  | cons c r =>
    have hne : ((c :: r) == ([] : List UInt8)) = false := rfl
    by_cases hs : r.length + 1 ≤ 16
    · have h16 : ¬ 16 < r.length + 1 := by omega
      have h16z : ¬ (16 : Int) < (r.length : Int) + 1 := by omega
      have hh : ev Tryz.prog E (n + 2) 80 [.int .u8 (c.toNat : Int)] S = _ := ev_head (n + 1) (c.toNat : Int) S
      have hidx : evIndex Tryz.prog 9 (.str (c :: r)) (.int .i64 0) = some (.int .u8 (c.toNat : Int)) := by simp [evIndex, sq9]
      cases e0 : headB (c.toNat : Int)
      · rw [e0] at hh
        simp (disch := first | (simp only [List.length_append, List.length_cons, List.length_nil]; omega) | (simp; done) | assumption) [AV.cells?, AV.isCell, -evIndex, nl0, nl1, nl2, nl3, cutC, bodyOf, Tryz.f59, bq9, bq3, sq9, nameB, hne, h16, h16z, hidx, hh, e0]
      · rw [e0] at hh
        obtain ⟨⟨o, t, b, v, S'⟩, hr, hS, hq⟩ := iter_meas (fun m fs h => name_round n c r S (by omega) m fs h) r.length (n + 2)
          ⟨upd 3 (.int .i64 1) (upd 16 (.bool false) (upd 15 (.bool false) (upd 14 (.bool true) (upd 13 (.int .u8 (c.toNat : Int)) (upd 12 (.str (c :: r)) (upd 11 (.bool false) (upd 10 (.bool false) (upd 9 (.bool false) (upd 8 (.int .i64 ((r.length : Int) + 1)) (upd 7 (.str (c :: r)) (upd 6 (.bool false) (upd 5 (.bool false) (upd 4 (.str (c :: r)) (upd 2 (.bool false) (argsA [.str (c :: r)]))))))))))))))), fun _ => (0, []), 15, S⟩ (by omega)
          ⟨0, by omega, by simp [upd, argsA], by simp [upd], rfl, by simp⟩
        simp only at hS hq
        subst hS
        rcases hq with ⟨rfl, ha⟩ | ⟨rfl, h2, ha⟩
        · simp (disch := first | (simp only [List.length_append, List.length_cons, List.length_nil]; omega) | (simp; done) | assumption) [AV.cells?, AV.isCell, -evIndex, nl0, nl1, nl2, nl3, cutC, bodyOf, Tryz.f59, bq9, bq3, sq9, nameB, hne, h16, h16z, hidx, hh, e0, hr, ha, hs]
        · simp (disch := first | (simp only [List.length_append, List.length_cons, List.length_nil]; omega) | (simp; done) | assumption) [AV.cells?, AV.isCell, -evIndex, nl0, nl1, nl2, nl3, cutC, bodyOf, Tryz.f59, bq9, bq3, sq9, nameB, hne, h16, h16z, hidx, hh, e0, hr, ha, h2, hs]
    · have h16 : 16 < r.length + 1 := by omega
      have h16z : (16 : Int) < (r.length : Int) + 1 := by omega
      have hs' : decide (r.length + 1 ≤ 16) = false := by simp; omega
      simp (disch := first | (simp only [List.length_append, List.length_cons, List.length_nil]; omega) | (simp; done) | assumption) [AV.cells?, AV.isCell, -evIndex, nl0, nl1, nl2, nl3, cutC, bodyOf, Tryz.f59, bq9, bq3, sq9, nameB, hne, h16, h16z, hs']
      intro h
      omega
end Go.Proofs.YtemggoaefohliaaGreatDoor.CK
/- The reference's Check, evaluated (made by genck.py). No condition. -/
namespace Go.Proofs.YtemggoaefohliaaGreatDoor.CK
set_option linter.unusedVariables false
set_option linter.unusedSimpArgs false
open Go AE EX PT
set_option maxRecDepth 100000


theorem ev_Kids (n : Nat) (k : Int) (S : St) : ev Tryz.prog E (n + 1) 33 [.int .i64 k] S = some (.ret (.int .i64 (kidsI k)), S) := by
  rw [ev_enter (n := n) (show E.ok 33 = true from rfl) Tryz.func33 (fn := Tryz.f33) rfl (Nat.le_of_ble_eq_true rfl) (by decide +kernel)]
  by_cases h1 : k < 1
  · simp (disch := first | (simp only [List.length_append, List.length_cons, List.length_nil]; omega) | (simp; done) | assumption) [AV.cells?, AV.isCell, Tryz.f33, bq3, kidsI, h1]
  by_cases h2 : 25 < k
  · simp (disch := first | (simp only [List.length_append, List.length_cons, List.length_nil]; omega) | (simp; done) | assumption) [AV.cells?, AV.isCell, Tryz.f33, bq3, kidsI, h1, h2]
  have hk : kinds k := (kinds_iff k).2 (by omega)
  clear h1 h2
  rcases hk with rfl | rfl | rfl | rfl | rfl | rfl | rfl | rfl | rfl | rfl | rfl | rfl | rfl | rfl | rfl | rfl | rfl | rfl | rfl | rfl | rfl | rfl | rfl | rfl | rfl <;>
    simp (disch := first | (simp only [List.length_append, List.length_cons, List.length_nil]; omega) | (simp; done) | assumption) [AV.cells?, AV.isCell, Tryz.f33, bq3, kidsI]


def FitsOut (n : Nat) (k : Int) (nm : List UInt8) (a lo hi : Int) (ks : AV) (S : St) : Prop :=
  ∃ b, ev Tryz.prog E (n + 4) 35 [.agg [.int .i64 k, .str nm, .int .i64 a, .int .i64 lo, .int .i64 hi, ks]] S = some (.ret (.bool b), S) ∧ (b = true ↔ Fits k nm a lo hi)

set_option maxHeartbeats 4000000 in
theorem fits_plain (n : Nat) (hn : 40 ≤ n) (k : Int) (nm : List UInt8) (a lo hi : Int) (ks : AV) (hks : ks.isCell = true) (S : St)
    (hk : k = 4 ∨ k = 7 ∨ k = 8 ∨ k = 9 ∨ k = 10 ∨ k = 11 ∨ k = 12 ∨ k = 14 ∨ k = 15 ∨ k = 16 ∨ k = 17 ∨ k = 18 ∨ k = 19 ∨ k = 20 ∨ k = 25) : FitsOut n k nm a lo hi ks S := by
  unfold FitsOut
  rw [ev_enter (n := n + 3) (show E.ok 35 = true from rfl) Tryz.func35 (fn := Tryz.f35) rfl (Nat.le_of_ble_eq_true rfl) (by decide +kernel)]
  cases h1 : (nm == [])
  · refine ⟨false, ?_, iff_of_false (by simp) fun f => by have := f.none (by omega); subst this; simp at h1⟩
    rcases hk with rfl | rfl | rfl | rfl | rfl | rfl | rfl | rfl | rfl | rfl | rfl | rfl | rfl | rfl | rfl <;>
      simp (disch := first | (simp only [List.length_append, List.length_cons, List.length_nil]; omega) | (simp; done) | assumption) [AV.cells?, AV.isCell, Tryz.f35, E_esc, k24, c24, a24, k3, c3, a3, k2, c2, a2, k9, c9, a9, fq0, fq1, fq2, fq3, fq4, bq3, bq2, bq9, hks, -AV.isCell, bne, h1]
  cases h2 : (a == 0)
  · refine ⟨false, ?_, iff_of_false (by simp) fun f => by have := f.num (by omega) (by omega); subst this; simp at h2⟩
    rcases hk with rfl | rfl | rfl | rfl | rfl | rfl | rfl | rfl | rfl | rfl | rfl | rfl | rfl | rfl | rfl <;>
      simp (disch := first | (simp only [List.length_append, List.length_cons, List.length_nil]; omega) | (simp; done) | assumption) [AV.cells?, AV.isCell, Tryz.f35, E_esc, k24, c24, a24, k3, c3, a3, k2, c2, a2, k9, c9, a9, fq0, fq1, fq2, fq3, fq4, bq3, bq2, bq9, hks, -AV.isCell, bne, h1, h2]
  cases h3 : (lo == 0)
  · refine ⟨false, ?_, iff_of_false (by simp) fun f => by have := (f.zero (by omega)).1; subst this; simp at h3⟩
    rcases hk with rfl | rfl | rfl | rfl | rfl | rfl | rfl | rfl | rfl | rfl | rfl | rfl | rfl | rfl | rfl <;>
      simp (disch := first | (simp only [List.length_append, List.length_cons, List.length_nil]; omega) | (simp; done) | assumption) [AV.cells?, AV.isCell, Tryz.f35, E_esc, k24, c24, a24, k3, c3, a3, k2, c2, a2, k9, c9, a9, fq0, fq1, fq2, fq3, fq4, bq3, bq2, bq9, hks, -AV.isCell, bne, h1, h2, h3]
  refine ⟨hi == 0, ?_, fun h => ?_, fun f => by have := (f.zero (by omega)).2; simp [this]⟩
  · rcases hk with rfl | rfl | rfl | rfl | rfl | rfl | rfl | rfl | rfl | rfl | rfl | rfl | rfl | rfl | rfl <;>
      simp (disch := first | (simp only [List.length_append, List.length_cons, List.length_nil]; omega) | (simp; done) | assumption) [AV.cells?, AV.isCell, Tryz.f35, E_esc, k24, c24, a24, k3, c3, a3, k2, c2, a2, k9, c9, a9, fq0, fq1, fq2, fq3, fq4, bq3, bq2, bq9, hks, -AV.isCell, bne, h1, h2, h3]
  · have e1 : nm = [] := by simpa using h1
    have e2 : a = 0 := by simpa using h2
    have e3 : lo = 0 := by simpa using h3
    have e4 : hi = 0 := by simpa using h
    exact ⟨by omega, by omega, fun _ => e1, by omega, by omega, fun _ _ => e2, by omega, by omega, fun _ => ⟨e3, e4⟩⟩
end Go.Proofs.YtemggoaefohliaaGreatDoor.CK
