/- Joined: RpB, RpC, RpD, RpE, RpF, RpG, RpH, RpI, RpJ. No condition beyond those of its lemmas. -/
import Derived.Test.YtemggoaefohliaaGreatDoorTlF
/- The reference's parser: operators; joining; around, group, applied, both, evaluated. No condition. -/
namespace Go.Proofs.YtemggoaefohliaaGreatDoor.RP
set_option linter.unusedVariables false
set_option linter.unusedSimpArgs false
open Go AE EX PT NF LX PS
set_option maxRecDepth 100000

def NZ (r : PR X) : Prop := ∀ c p, r = .error (c, p) → c ≠ 0
def Inb (l : List Tk) (r : PR X) : Prop := ∀ x q, r = .ok (x, q) → q ≤ l.length
/-- the reference's function f answers as sub says -/
def RSub (l : List Tk) (k : Tok) (n f : Nat) (ex : List AV) (sub : Nat → PR X) : Prop :=
  ∀ p S, p ≤ l.length → NZ (sub p) ∧ Inb l (sub p) ∧ ev Tryz.prog E n f (.slice (tkL l) k :: .int .i64 (p : Int) :: ex) S = some (.ret (ansA l (sub p)), S)
theorem NZ_err {c : Int} {p : Nat} (h : c ≠ 0) : NZ (.error (c, p)) := fun c' p' e => by cases e; exact h
theorem NZ_ok {x : X} {q : Nat} : NZ (.ok (x, q)) := fun c' p' e => by cases e
theorem Inb_err {l : List Tk} {e : Int × Nat} : Inb l (.error e) := fun x q h => by cases h
theorem Inb_ok {l : List Tk} {x : X} {q : Nat} (h : q ≤ l.length) : Inb l (.ok (x, q)) := fun x' q' e => by cases e; exact h

/-! ### operators -/
def relK (h : Nat → Tk) (p : Nat) : Int :=
  if isB h p [61] = true then 14 else if isB h p [33, 61] = true then -1 else if isB h p [60] = true then 15 else if isB h p [60, 61] = true then 16 else if isB h p [105, 110] = true then 17 else 0
theorem ev_rrel (n : Nat) (l : List Tk) (k : Tok) (p : Nat) (S : St) : ev Tryz.prog E (n + 2) 94 [.slice (tkL l) k, .int .i64 (p : Int)] S = some (.ret (.int .i64 (relK (hereT l) p)), S) := by
  have h1 := ev_rIs n l k p 61 [] S
  have h2 := ev_rIs n l k p 33 [61] S
  have h3 := ev_rIs n l k p 60 [] S
  have h4 := ev_rIs n l k p 60 [61] S
  have h5 := ev_rIs n l k p 105 [110] S
  unfold relK
  generalize tkL l = es at *
  rw [show n + 2 = (n + 1) + 1 from rfl, ev_enter (n := n + 1) (show E.ok 94 = true from rfl) Tryz.func94 (fn := Tryz.f94) rfl (Nat.le_of_ble_eq_true rfl) (by decide +kernel)]
  cases e1 : isB (hereT l) p [61]
  · cases e2 : isB (hereT l) p [33, 61]
    · cases e3 : isB (hereT l) p [60]
      · cases e4 : isB (hereT l) p [60, 61]
        · cases e5 : isB (hereT l) p [105, 110]
          · simp (disch := first | (simp only [List.length_append, List.length_cons, List.length_nil]; omega) | (simp; done) | assumption) [AV.cells?, AV.isCell, Tryz.f94, E_esc, h1, h2, h3, h4, h5, e1, e2, e3, e4, e5]
          · simp (disch := first | (simp only [List.length_append, List.length_cons, List.length_nil]; omega) | (simp; done) | assumption) [AV.cells?, AV.isCell, Tryz.f94, E_esc, h1, h2, h3, h4, h5, e1, e2, e3, e4, e5]
        · simp (disch := first | (simp only [List.length_append, List.length_cons, List.length_nil]; omega) | (simp; done) | assumption) [AV.cells?, AV.isCell, Tryz.f94, E_esc, h1, h2, h3, h4, e1, e2, e3, e4]
      · simp (disch := first | (simp only [List.length_append, List.length_cons, List.length_nil]; omega) | (simp; done) | assumption) [AV.cells?, AV.isCell, Tryz.f94, E_esc, h1, h2, h3, e1, e2, e3]
    · simp (disch := first | (simp only [List.length_append, List.length_cons, List.length_nil]; omega) | (simp; done) | assumption) [AV.cells?, AV.isCell, Tryz.f94, E_esc, h1, h2, e1, e2]
  · simp (disch := first | (simp only [List.length_append, List.length_cons, List.length_nil]; omega) | (simp; done) | assumption) [AV.cells?, AV.isCell, Tryz.f94, E_esc, h1, e1]
def opsN : Nat → List (List UInt8 × Int)
  | 0 => [([111, 114], 20)]
  | 1 => [([97, 110, 100], 19)]
  | 3 => [([43], 8), ([45], 9)]
  | _ => [([42], 10)]
def opK (h : Nat → Tk) (v : Nat) (p : Nat) : Int := if v = 2 then relK h p else match opAt h p (opsN v) with
  | some k => k
  | none => 0
theorem ev_rop (n : Nat) (l : List Tk) (k : Tok) (p v : Nat) (hv : v < 5) (S : St) : ev Tryz.prog E (n + 3) 55 [.slice (tkL l) k, .int .i64 (p : Int), .int .i64 (v : Int)] S = some (.ret (.int .i64 (opK (hereT l) v p)), S) := by
  have h1 := ev_rIs (n + 1) l k p 111 [114] S
  have h2 := ev_rIs (n + 1) l k p 97 [110, 100] S
  have h3 := ev_rrel n l k p S
  have h4 := ev_rIs (n + 1) l k p 43 [] S
  have h5 := ev_rIs (n + 1) l k p 45 [] S
  have h6 := ev_rIs (n + 1) l k p 42 [] S
  unfold opK
  generalize tkL l = es at *
  rw [show n + 3 = (n + 2) + 1 from rfl, ev_enter (n := n + 2) (show E.ok 55 = true from rfl) Tryz.func55 (fn := Tryz.f55) rfl (Nat.le_of_ble_eq_true rfl) (by decide +kernel)]
  obtain rfl | rfl | rfl | rfl | rfl : v = 0 ∨ v = 1 ∨ v = 2 ∨ v = 3 ∨ v = 4 := by omega
  · cases e1 : isB (hereT l) p [111, 114] <;> simp (disch := first | (simp only [List.length_append, List.length_cons, List.length_nil]; omega) | (simp; done) | assumption) [AV.cells?, AV.isCell, Tryz.f55, E_esc, bq3, h1, e1, opsN, opAt]
  · cases e1 : isB (hereT l) p [97, 110, 100] <;> simp (disch := first | (simp only [List.length_append, List.length_cons, List.length_nil]; omega) | (simp; done) | assumption) [AV.cells?, AV.isCell, Tryz.f55, E_esc, bq3, h2, e1, opsN, opAt]
  · simp (disch := first | (simp only [List.length_append, List.length_cons, List.length_nil]; omega) | (simp; done) | assumption) [AV.cells?, AV.isCell, Tryz.f55, E_esc, bq3, h3]
  · cases e1 : isB (hereT l) p [43]
    · cases e2 : isB (hereT l) p [45] <;> simp (disch := first | (simp only [List.length_append, List.length_cons, List.length_nil]; omega) | (simp; done) | assumption) [AV.cells?, AV.isCell, Tryz.f55, E_esc, bq3, h4, h5, e1, e2, opsN, opAt]
    · simp (disch := first | (simp only [List.length_append, List.length_cons, List.length_nil]; omega) | (simp; done) | assumption) [AV.cells?, AV.isCell, Tryz.f55, E_esc, bq3, h4, e1, opsN, opAt]
  · cases e1 : isB (hereT l) p [42] <;> simp (disch := first | (simp only [List.length_append, List.length_cons, List.length_nil]; omega) | (simp; done) | assumption) [AV.cells?, AV.isCell, Tryz.f55, E_esc, bq3, h6, e1, opsN, opAt]
def joinK (k : Int) (x y : X) : X := if k = -1 then oneX 18 (bothX 14 x y) else bothX k x y
theorem ev_rjoin0 (n : Nat) (k : Int) (hk : k ≠ -1) (x y : X) (S : St) : ev Tryz.prog E (n + 1) 56 [.int .i64 k, x.emb, y.emb] S = some (.ret (bothX k x y).emb, S) := by
  have hb : evBuild Tryz.prog 25 [(0, .int .i64 k), (5, .slice (embL [x, y]) .clip)] = some (bothX k x y).emb := bX5 k [x, y]
  have hbs := bS2 x y
  have hf := fin_emb (bothX k x y) S
  have hcx := xcells x
  have hlx := xlen x
  have htx := xtake x
  have hex := xemb x
  have hcy := xcells y
  have hly := xlen y
  have hty := xtake y
  have hey := xemb y
  have hc := xcells (bothX k x y)
  have hl := xlen (bothX k x y)
  have ht := xtake (bothX k x y)
  have he := xemb (bothX k x y)
  generalize embL [x, y] = es at *
  generalize bothX k x y = z at *
  generalize x.cells = xc at *
  generalize y.cells = yc at *
  generalize z.cells = zc at *
  generalize x.emb = xe at *
  generalize y.emb = ye at *
  generalize z.emb = ze at *
  rw [ev_enter (n := n) (show E.ok 56 = true from rfl) Tryz.func56 (fn := Tryz.f56) rfl (Nat.le_of_ble_eq_true rfl) (by decide +kernel)]
  simp (disch := first | (simp only [List.length_append, List.length_cons, List.length_nil]; omega) | (simp; done) | assumption) [AV.cells?, AV.isCell, -AV.cells?, cq_int, cq_str, cq_slice, -evBuild, -evBuildSlice, Tryz.f56, E_esc, bq3, hk, hb, hbs, hc, hl, ht, he, hcx, hlx, htx, hex, hcy, hly, hty, hey, hf, c24, a24, k24, i24, z24]
theorem ev_rjoin (n : Nat) (k : Int) (x y : X) (S : St) : ev Tryz.prog E (n + 2) 56 [.int .i64 k, x.emb, y.emb] S = some (.ret (joinK k x y).emb, S) := by
  by_cases hk : k = -1
  · have hj := ev_rjoin0 n 14 (by decide) x y S
    have hJ : joinK k x y = oneX 18 (bothX 14 x y) := if_pos hk
    rw [hJ]
    have hb : evBuild Tryz.prog 25 [(0, .int .i64 18), (5, .slice (embL [bothX 14 x y]) .clip)] = some (oneX 18 (bothX 14 x y)).emb := bX5 18 [bothX 14 x y]
    have hbs := bS1 (bothX 14 x y)
    have hf := fin_emb (oneX 18 (bothX 14 x y)) S
    have hcx := xcells x
    have hlx := xlen x
    have htx := xtake x
    have hex := xemb x
    have hcy := xcells y
    have hly := xlen y
    have hty := xtake y
    have hey := xemb y
    have hcw := xcells (bothX 14 x y)
    have hlw := xlen (bothX 14 x y)
    have htw := xtake (bothX 14 x y)
    have hew := xemb (bothX 14 x y)
    have hc := xcells (oneX 18 (bothX 14 x y))
    have hl := xlen (oneX 18 (bothX 14 x y))
    have ht := xtake (oneX 18 (bothX 14 x y))
    have he := xemb (oneX 18 (bothX 14 x y))
    generalize embL [bothX 14 x y] = es at *
    generalize oneX 18 (bothX 14 x y) = z at *
    generalize bothX 14 x y = w at *
    generalize x.cells = xc at *
    generalize y.cells = yc at *
    generalize z.cells = zc at *
    generalize w.cells = wc' at *
    generalize x.emb = xe at *
    generalize y.emb = ye at *
    generalize z.emb = ze at *
    generalize w.emb = we at *
    rw [show n + 2 = (n + 1) + 1 from rfl, ev_enter (n := n + 1) (show E.ok 56 = true from rfl) Tryz.func56 (fn := Tryz.f56) rfl (Nat.le_of_ble_eq_true rfl) (by decide +kernel)]
    simp (disch := first | (simp only [List.length_append, List.length_cons, List.length_nil]; omega) | (simp; done) | assumption) [AV.cells?, AV.isCell, -AV.cells?, cq_int, cq_str, cq_slice, -evBuild, -evBuildSlice, Tryz.f56, E_esc, bq3, hk, hj, hb, hbs, hc, hl, ht, he, hcx, hlx, htx, hex, hcy, hly, hty, hey, hcw, hlw, htw, hew, hf, c24, a24, k24, i24, z24]
  · have hJ : joinK k x y = bothX k x y := if_neg hk
    rw [hJ]
    exact ev_rjoin0 (n + 1) k hk x y S

section
variable {l : List Tk} {k : Tok} (hl : l.length ≤ 2000000)
include hl
set_option maxHeartbeats 4000000 in
/-- a word, and one behind it -/
theorem r_around (n d : Nat) (hd : d ≤ 40) (kd : Int) (one : Nat → PR X) (h : RSub l k n 54 [.int .i64 ((d + 1 : Nat) : Int)] one) (p : Nat) (S : St) (hp : p < l.length) :
    NZ ((one (p + 1)).th fun x r => .ok (oneX kd x, r)) ∧ Inb l ((one (p + 1)).th fun x r => .ok (oneX kd x, r)) ∧
    ev Tryz.prog E (n + 1) 92 [.slice (tkL l) k, .int .i64 (p : Int), .int .i64 kd, .int .i64 (d : Int)] S = some (.ret (ansA l ((one (p + 1)).th fun x r => .ok (oneX kd x, r))), S) := by
  obtain ⟨h1, h2, h3⟩ := h (p + 1) S (by omega)
  have hw1 : IntKind.i64.wrap ((p : Int) + 1) = ((p + 1 : Nat) : Int) := by rw [wrap64 _ (by omega)]; omega
  have hw2 : IntKind.i64.wrap ((d : Int) + 1) = ((d + 1 : Nat) : Int) := by rw [wrap64 _ (by omega)]; omega
  have hz25 : zeroQ Tryz.prog 25 = some z6 := by kernel_rfl
  have l6 := z6_len
  have zzd : List.drop 6 z6 = [] := rfl
  have ez : evBuild Tryz.prog 25 [] = some zX.emb := bXz
  have zc := xcells zX
  have zl := xlen zX
  have zt := xtake zX
  have ze := xemb zX
  have zd : List.drop 6 zX.cells = [] := rfl
  have ef := bFz
  cases hq : one (p + 1) with
  | error e =>
    obtain ⟨c, q⟩ := e
    rw [hq] at h1 h2 h3
    rw [th_err]
    have hc0 : c ≠ 0 := h1 c q rfl
    refine ⟨h1, Inb_err, ?_⟩
    have hf := fin_ans l (.error (c, q)) S
    rw [ansA_err] at h3 hf ⊢
    simp only [fEL] at h3 hf ⊢
    clear h1 h2
    generalize (hereT l q).p = pl at *
    generalize tkL l = es at *
    generalize zX.cells = zcs at *
    generalize zX.emb = zem at *
    generalize z6 = z at *
    generalize p + 1 = P1 at *
    generalize d + 1 = D1 at *
    rw [ev_enter (n := n) (show E.ok 92 = true from rfl) Tryz.func92 (fn := Tryz.f92) rfl (Nat.le_of_ble_eq_true rfl) (by decide +kernel)]
    simp (disch := first | (simp only [List.length_append, List.length_cons, List.length_nil]; omega) | (simp; done) | assumption) [AV.cells?, AV.isCell, -AV.cells?, cq_int, cq_agg, -evBuild, -evBuildSlice, Tryz.f92, E_esc, hz25, hw1, hw2, h3, hc0, ez, zc, zl, zt, ze, zd, l6, zzd, List.append_nil, fz0, fc, fa, fk, fi, fq0', k3, c3, a3, c24, a24, k24, i24, bq3, hf]
  | ok r =>
    obtain ⟨x, q⟩ := r
    rw [hq] at h1 h2 h3
    rw [th_ok]
    refine ⟨NZ_ok, Inb_ok (h2 x q rfl), ?_⟩
    have hf := fin_ans l (.ok (oneX kd x, q)) S
    rw [ansA_ok] at h3 hf ⊢
    simp only [fzL] at h3 hf ef ⊢
    have hb : evBuild Tryz.prog 25 [(0, .int .i64 kd), (5, .slice (embL [x]) .clip)] = some (oneX kd x).emb := bX5 kd [x]
    have hbs := bS1 x
    have hcx := xcells x
    have hlx := xlen x
    have htx := xtake x
    have hex := xemb x
    have hdx : List.drop 6 x.cells = [] := List.drop_eq_nil_of_le (by rw [hlx]; omega)
    have hcy := xcells (oneX kd x)
    have hly := xlen (oneX kd x)
    have hty := xtake (oneX kd x)
    have hey := xemb (oneX kd x)
    have hdy : List.drop 6 (oneX kd x).cells = [] := List.drop_eq_nil_of_le (by rw [hly]; omega)
    clear h1 h2
    generalize embL [x] = xs at *
    generalize (oneX kd x).cells = yc at *
    generalize (oneX kd x).emb = ye at *
    generalize x.cells = xc at *
    generalize x.emb = xe at *
    generalize tkL l = es at *
    generalize z6 = z at *
    generalize p + 1 = P1 at *
    generalize d + 1 = D1 at *
    rw [ev_enter (n := n) (show E.ok 92 = true from rfl) Tryz.func92 (fn := Tryz.f92) rfl (Nat.le_of_ble_eq_true rfl) (by decide +kernel)]
    simp (disch := first | (simp only [List.length_append, List.length_cons, List.length_nil]; omega) | (simp; done) | assumption) [AV.cells?, AV.isCell, -AV.cells?, cq_int, cq_agg, -evBuild, -evBuildSlice, Tryz.f92, E_esc, hz25, hw1, hw2, h3, hb, hbs, hcx, hlx, htx, hex, hdx, hcy, hly, hty, hey, hdy, l6, zzd, List.append_nil, ef, fz0, fc, fa, fk, fi, fq0', k3, c3, a3, c24, a24, k24, i24, bq3, hf]
end
end Go.Proofs.YtemggoaefohliaaGreatDoor.RP
/- The reference's parser: group, attribute, evaluated (printed by genrp.py). No condition. -/
namespace Go.Proofs.YtemggoaefohliaaGreatDoor.RP
set_option linter.unusedVariables false
set_option linter.unusedSimpArgs false
open Go AE EX PT NF LX PS
set_option maxRecDepth 100000
section
variable {l : List Tk} {k : Tok} (hl : l.length ≤ 2000000)
include hl
set_option maxHeartbeats 4000000 in
theorem r_group (n d : Nat) (hd : d ≤ 40) (any : Nat → PR X) (h : RSub l k (n + 3) 28 [.int .i64 0, .int .i64 ((d + 1 : Nat) : Int)] any) :
    RSub l k (n + 4) 91 [.int .i64 (d : Int)] (argP (hereT l) any) := by
  intro p S hp
  have hz25 : zeroQ Tryz.prog 25 = some z6 := by kernel_rfl
  have l6 := z6_len
  have zzd : List.drop 6 z6 = [] := rfl
  have ez : evBuild Tryz.prog 25 [] = some zX.emb := bXz
  have zc := xcells zX
  have zl := xlen zX
  have zt := xtake zX
  have ze := xemb zX
  have zd : List.drop 6 zX.cells = [] := rfl
  have ef := bFz
  have wr : ∀ a : Nat, a ≤ 3000000 → ∀ b : Nat, b ≤ 10 → IntKind.i64.wrap ((a : Int) + (b : Int)) = ((a + b : Nat) : Int) := fun a ha b hb => by rw [wrap64 _ (by omega)]; omega
  have hw1 : IntKind.i64.wrap ((p : Int) + 1) = ((p + 1 : Nat) : Int) := wr p (by omega) 1 (by omega)
  have hw2 : IntKind.i64.wrap ((d : Int) + 1) = ((d + 1 : Nat) : Int) := wr d (by omega) 1 (by omega)
  have hI := ev_rIs (n + 2) l k p 40 [] S
  have hF := ev_rfail (n + 2) l k p 16 S hl
  unfold argP needP
  cases e1 : isB (hereT l) p [40]
  · simp only [Bool.false_eq_true, if_false, th_err]
    refine ⟨NZ_err (by decide), Inb_err, ?_⟩
    rw [ansA_err] at hF
    rw [e1] at hI
    have hf := fin_ans l (.error (16, p)) S
    rw [ansA_err] at hf ⊢
    simp only [fzL, fEL] at *
    generalize (hereT l p).p = pl at *
    generalize tkL l = es at *
    generalize zX.cells = zcs at *
    generalize zX.emb = zem at *
    generalize z6 = z at *
    rw [ev_enter (n := n + 3) (show E.ok 91 = true from rfl) Tryz.func91 (fn := Tryz.f91) rfl (Nat.le_of_ble_eq_true rfl) (by decide +kernel)]
    simp (disch := first | (simp only [List.length_append, List.length_cons, List.length_nil]; omega) | (simp; done) | assumption) [AV.cells?, AV.isCell, -AV.cells?, cq_int, cq_agg, cq_slice, cq_str, -evBuild, -evBuildSlice, -evIndexAddr, hz25, ez, zc, zl, zt, ze, zd, l6, zzd, List.append_nil, ef, fz0, fc, fa, fk, fi, fq0', k3, c3, a3, i3, c24, a24, k24, i24, bq3, hf, Tryz.f91, E_esc, hI, hF]
  · have hlt := is_lt e1
    rw [e1] at hI
    simp only [if_true, th_ok]
    obtain ⟨h1, h2, h3⟩ := h (p + 1) S (by omega)
    cases hq : any (p + 1) with
    | error e =>
      obtain ⟨c, q⟩ := e
      rw [hq] at h1 h2 h3
      simp only [th_err]
      have hc0 : c ≠ 0 := h1 c q rfl
      refine ⟨h1, Inb_err, ?_⟩
      rw [ansA_err] at h3
      clear h1 h2
      have hf := fin_ans l (.error (c, q)) S
      rw [ansA_err] at hf ⊢
      simp only [fzL, fEL] at *
      generalize (hereT l q).p = pl at *
      generalize p + 1 = P1 at *
      generalize d + 1 = D1 at *
      generalize tkL l = es at *
      generalize zX.cells = zcs at *
      generalize zX.emb = zem at *
      generalize z6 = z at *
      rw [ev_enter (n := n + 3) (show E.ok 91 = true from rfl) Tryz.func91 (fn := Tryz.f91) rfl (Nat.le_of_ble_eq_true rfl) (by decide +kernel)]
      simp (disch := first | (simp only [List.length_append, List.length_cons, List.length_nil]; omega) | (simp; done) | assumption) [AV.cells?, AV.isCell, -AV.cells?, cq_int, cq_agg, cq_slice, cq_str, -evBuild, -evBuildSlice, -evIndexAddr, hz25, ez, zc, zl, zt, ze, zd, l6, zzd, List.append_nil, ef, fz0, fc, fa, fk, fi, fq0', k3, c3, a3, i3, c24, a24, k24, i24, bq3, hf, Tryz.f91, E_esc, hI, hw1, hw2, h3, hc0]
    | ok r =>
      obtain ⟨x, q⟩ := r
      rw [hq] at h1 h2 h3
      have hqb := h2 x q rfl
      simp only [th_ok]
      rw [ansA_ok] at h3
      have hI2 := ev_rIs (n + 2) l k q 41 [] S
      have hF2 := ev_rfail (n + 2) l k q 16 S hl
      cases e2 : isB (hereT l) q [41]
      · simp only [Bool.false_eq_true, if_false, th_err]
        refine ⟨NZ_err (by decide), Inb_err, ?_⟩
        rw [ansA_err] at hF2
        rw [e2] at hI2
        clear h1 h2
        have hf := fin_ans l (.error (16, q)) S
        rw [ansA_err] at hf ⊢
        have xc := xcells (x)
        have xl := xlen (x)
        have xt := xtake (x)
        have xe := xemb (x)
        have xd : List.drop 6 (x).cells = [] := List.drop_eq_nil_of_le (by rw [xl]; omega)
        simp only [fzL, fEL] at *
        generalize (x).cells = xcs at *
        generalize (x).emb = xem at *
        generalize (hereT l q).p = pl at *
        generalize p + 1 = P1 at *
        generalize d + 1 = D1 at *
        generalize tkL l = es at *
        generalize zX.cells = zcs at *
        generalize zX.emb = zem at *
        generalize z6 = z at *
        rw [ev_enter (n := n + 3) (show E.ok 91 = true from rfl) Tryz.func91 (fn := Tryz.f91) rfl (Nat.le_of_ble_eq_true rfl) (by decide +kernel)]
        simp (disch := first | (simp only [List.length_append, List.length_cons, List.length_nil]; omega) | (simp; done) | assumption) [AV.cells?, AV.isCell, -AV.cells?, cq_int, cq_agg, cq_slice, cq_str, -evBuild, -evBuildSlice, -evIndexAddr, hz25, ez, zc, zl, zt, ze, zd, l6, zzd, List.append_nil, ef, fz0, fc, fa, fk, fi, fq0', k3, c3, a3, i3, c24, a24, k24, i24, bq3, hf, Tryz.f91, E_esc, hI, hw1, hw2, h3, hI2, hF2, xc, xl, xt, xe, xd]
      · have hlt2 := is_lt e2
        rw [e2] at hI2
        simp only [if_true, th_ok]
        refine ⟨NZ_ok, Inb_ok (by omega), ?_⟩
        have hw3 : IntKind.i64.wrap ((q : Int) + 1) = ((q + 1 : Nat) : Int) := wr q (by omega) 1 (by omega)
        clear h1 h2
        have hf := fin_ans l (.ok (x, q + 1)) S
        rw [ansA_ok] at hf ⊢
        have xc := xcells (x)
        have xl := xlen (x)
        have xt := xtake (x)
        have xe := xemb (x)
        have xd : List.drop 6 (x).cells = [] := List.drop_eq_nil_of_le (by rw [xl]; omega)
        simp only [fzL, fEL] at *
        generalize (x).cells = xcs at *
        generalize (x).emb = xem at *
        generalize p + 1 = P1 at *
        generalize d + 1 = D1 at *
        generalize q + 1 = Q1 at *
        generalize tkL l = es at *
        generalize zX.cells = zcs at *
        generalize zX.emb = zem at *
        generalize z6 = z at *
        rw [ev_enter (n := n + 3) (show E.ok 91 = true from rfl) Tryz.func91 (fn := Tryz.f91) rfl (Nat.le_of_ble_eq_true rfl) (by decide +kernel)]
        simp (disch := first | (simp only [List.length_append, List.length_cons, List.length_nil]; omega) | (simp; done) | assumption) [AV.cells?, AV.isCell, -AV.cells?, cq_int, cq_agg, cq_slice, cq_str, -evBuild, -evBuildSlice, -evIndexAddr, hz25, ez, zc, zl, zt, ze, zd, l6, zzd, List.append_nil, ef, fz0, fc, fa, fk, fi, fq0', k3, c3, a3, i3, c24, a24, k24, i24, bq3, hf, Tryz.f91, E_esc, hI, hw1, hw2, hw3, h3, hI2, xc, xl, xt, xe, xd]
set_option maxHeartbeats 4000000 in
theorem r_attr (n : Nat) (kd : Int) : RSub l k (n + 4) 113 [.int .i64 kd] (attrP (hereT l) kd) := by
  intro p S hp
  have hz25 : zeroQ Tryz.prog 25 = some z6 := by kernel_rfl
  have l6 := z6_len
  have zzd : List.drop 6 z6 = [] := rfl
  have ez : evBuild Tryz.prog 25 [] = some zX.emb := bXz
  have zc := xcells zX
  have zl := xlen zX
  have zt := xtake zX
  have ze := xemb zX
  have zd : List.drop 6 zX.cells = [] := rfl
  have ef := bFz
  have wr : ∀ a : Nat, a ≤ 3000000 → ∀ b : Nat, b ≤ 10 → IntKind.i64.wrap ((a : Int) + (b : Int)) = ((a + b : Nat) : Int) := fun a ha b hb => by rw [wrap64 _ (by omega)]; omega
  have hw1 : IntKind.i64.wrap ((p : Int) + 1) = ((p + 1 : Nat) : Int) := wr p (by omega) 1 (by omega)
  have hw2 : IntKind.i64.wrap ((p : Int) + 2) = ((p + 2 : Nat) : Int) := wr p (by omega) 2 (by omega)
  have hI := ev_rIs (n + 2) l k p 46 [] S
  have hF := ev_rfail (n + 2) l k p 16 S hl
  unfold attrP needP takeP
  cases e1 : isB (hereT l) p [46]
  · simp only [Bool.false_eq_true, if_false, th_err]
    refine ⟨NZ_err (by decide), Inb_err, ?_⟩
    rw [ansA_err] at hF
    rw [e1] at hI
    have hf := fin_ans l (.error (16, p)) S
    rw [ansA_err] at hf ⊢
    simp only [fzL, fEL] at *
    generalize (hereT l p).p = pl at *
    generalize tkL l = es at *
    generalize zX.cells = zcs at *
    generalize zX.emb = zem at *
    generalize z6 = z at *
    rw [ev_enter (n := n + 3) (show E.ok 113 = true from rfl) Tryz.func113 (fn := Tryz.f113) rfl (Nat.le_of_ble_eq_true rfl) (by decide +kernel)]
    simp (disch := first | (simp only [List.length_append, List.length_cons, List.length_nil]; omega) | (simp; done) | assumption) [AV.cells?, AV.isCell, -AV.cells?, cq_int, cq_agg, cq_slice, cq_str, -evBuild, -evBuildSlice, -evIndexAddr, hz25, ez, zc, zl, zt, ze, zd, l6, zzd, List.append_nil, ef, fz0, fc, fa, fk, fi, fq0', k3, c3, a3, i3, c24, a24, k24, i24, bq3, hf, Tryz.f113, E_esc, hI, hF]
  · have hlt := is_lt e1
    rw [e1] at hI
    simp only [if_true, th_ok]
    have hO := ev_rof (n + 2) l k (p + 1) 1 (by decide) S
    have hF2 := ev_rfail (n + 2) l k (p + 1) 16 S hl
    by_cases e2 : (hereT l (p + 1)).k = 1
    · have e2b : ((hereT l (p + 1)).k == 1) = true := by simp [e2]
      rw [e2b] at hO
      simp only [e2, if_true, th_ok]
      have hlt2 : p + 1 < l.length := here_lt (by rw [e2]; decide)
      have hx : l[p + 1]? = some l[p + 1] := List.getElem?_eq_getElem hlt2
      have hh : hereT l (p + 1) = l[p + 1] := by simp [hereT, hx]
      have hia := iw l k (p + 1) _ hx
      refine ⟨NZ_ok, Inb_ok (by omega), ?_⟩
      rw [hh] at *
      generalize l[p + 1] = t at *
      obtain ⟨tk, ts, tn, tp⟩ := t
      simp only [Tk.cells] at *
      have hb : evBuild Tryz.prog 25 [(0, .int .i64 kd), (1, .str ts)] = some (leafX kd ts 0 0).emb := bX1 kd ts
      have w11 : p + 1 + 1 = p + 2 := rfl
      have hf := fin_ans l (.ok (leafX kd ts 0 0, p + 2)) S
      rw [ansA_ok] at hf ⊢
      have xc := xcells (leafX kd ts 0 0)
      have xl := xlen (leafX kd ts 0 0)
      have xt := xtake (leafX kd ts 0 0)
      have xe := xemb (leafX kd ts 0 0)
      have xd : List.drop 6 (leafX kd ts 0 0).cells = [] := List.drop_eq_nil_of_le (by rw [xl]; omega)
      simp only [fzL, fEL] at *
      generalize (leafX kd ts 0 0).cells = xcs at *
      generalize (leafX kd ts 0 0).emb = xem at *
      generalize p + 2 = P2 at *
      generalize p + 1 = P1 at *
      generalize tkL l = es at *
      generalize zX.cells = zcs at *
      generalize zX.emb = zem at *
      generalize z6 = z at *
      rw [ev_enter (n := n + 3) (show E.ok 113 = true from rfl) Tryz.func113 (fn := Tryz.f113) rfl (Nat.le_of_ble_eq_true rfl) (by decide +kernel)]
      simp (disch := first | (simp only [List.length_append, List.length_cons, List.length_nil]; omega) | (simp; done) | assumption) [AV.cells?, AV.isCell, -AV.cells?, cq_int, cq_agg, cq_slice, cq_str, -evBuild, -evBuildSlice, -evIndexAddr, hz25, ez, zc, zl, zt, ze, zd, l6, zzd, List.append_nil, ef, fz0, fc, fa, fk, fi, fq0', k3, c3, a3, i3, c24, a24, k24, i24, bq3, hf, Tryz.f113, E_esc, hI, hw1, hw2, hO, hia, hb, wq1, wk, wa, wc, k9, c9, a9, xc, xl, xt, xe, xd]
    · have e2b : ((hereT l (p + 1)).k == 1) = false := by simp [e2]
      rw [e2b] at hO
      simp only [e2, if_false, th_err]
      refine ⟨NZ_err (by decide), Inb_err, ?_⟩
      rw [ansA_err] at hF2
      have hf := fin_ans l (.error (16, p + 1)) S
      rw [ansA_err] at hf ⊢
      simp only [fzL, fEL] at *
      generalize (hereT l (p + 1)).p = pl at *
      generalize (hereT l (p + 1)).k = kk at *
      generalize p + 1 = P1 at *
      generalize tkL l = es at *
      generalize zX.cells = zcs at *
      generalize zX.emb = zem at *
      generalize z6 = z at *
      rw [ev_enter (n := n + 3) (show E.ok 113 = true from rfl) Tryz.func113 (fn := Tryz.f113) rfl (Nat.le_of_ble_eq_true rfl) (by decide +kernel)]
      simp (disch := first | (simp only [List.length_append, List.length_cons, List.length_nil]; omega) | (simp; done) | assumption) [AV.cells?, AV.isCell, -AV.cells?, cq_int, cq_agg, cq_slice, cq_str, -evBuild, -evBuildSlice, -evIndexAddr, hz25, ez, zc, zl, zt, ze, zd, l6, zzd, List.append_nil, ef, fz0, fc, fa, fk, fi, fq0', k3, c3, a3, i3, c24, a24, k24, i24, bq3, hf, Tryz.f113, E_esc, hI, hw1, hO, hF2]
end
end Go.Proofs.YtemggoaefohliaaGreatDoor.RP
/- The reference's parser: applied, both, evaluated (printed by genrp.py). No condition. -/
namespace Go.Proofs.YtemggoaefohliaaGreatDoor.RP
set_option linter.unusedVariables false
set_option linter.unusedSimpArgs false
open Go AE EX PT NF LX PS
set_option maxRecDepth 100000
section
variable {l : List Tk} {k : Tok} (hl : l.length ≤ 2000000)
include hl
omit hl in
set_option maxHeartbeats 4000000 in
theorem r_applied (n d : Nat) (hd : d ≤ 40) (kd lo hi : Int) (any : Nat → PR X) (h : RSub l k (n + 4) 91 [.int .i64 (d : Int)] (argP (hereT l) any)) :
    RSub l k (n + 5) 115 [(X.mk kd [] 0 lo hi true []).emb, .int .i64 (d : Int)] (fun p => (argP (hereT l) any p).th fun x q => .ok (.mk kd [] 0 lo hi true [x], q)) := by
  intro p S hp
  have hz25 : zeroQ Tryz.prog 25 = some z6 := by kernel_rfl
  have l6 := z6_len
  have zzd : List.drop 6 z6 = [] := rfl
  have ez : evBuild Tryz.prog 25 [] = some zX.emb := bXz
  have zc := xcells zX
  have zl := xlen zX
  have zt := xtake zX
  have ze := xemb zX
  have zd : List.drop 6 zX.cells = [] := rfl
  have ef := bFz
  have wr : ∀ a : Nat, a ≤ 3000000 → ∀ b : Nat, b ≤ 10 → IntKind.i64.wrap ((a : Int) + (b : Int)) = ((a + b : Nat) : Int) := fun a ha b hb => by rw [wrap64 _ (by omega)]; omega
  obtain ⟨h1, h2, h3⟩ := h p S hp
  have he0 : (X.mk kd [] 0 lo hi true []).emb = .agg [.int .i64 kd, .str [], .int .i64 0, .int .i64 lo, .int .i64 hi, .slice [] .clip] := rfl
  have hc0' : (AV.agg [.int .i64 kd, .str [], .int .i64 0, .int .i64 lo, .int .i64 hi, .slice [] .clip]).cells? = some [.int .i64 kd, .str [], .int .i64 0, .int .i64 lo, .int .i64 hi, .slice [] .clip] := rfl
  rw [he0]
  simp only
  cases hq : argP (hereT l) any p with
  | error e =>
    obtain ⟨c, q⟩ := e
    rw [hq] at h1 h2 h3
    simp only [th_err]
    have hc0 : c ≠ 0 := h1 c q rfl
    refine ⟨h1, Inb_err, ?_⟩
    rw [ansA_err] at h3
    clear h1 h2
    have hf := fin_ans l (.error (c, q)) S
    rw [ansA_err] at hf ⊢
    simp only [fzL, fEL] at *
    generalize (hereT l q).p = pl at *
    generalize tkL l = es at *
    generalize zX.cells = zcs at *
    generalize zX.emb = zem at *
    generalize z6 = z at *
    rw [ev_enter (n := n + 4) (show E.ok 115 = true from rfl) Tryz.func115 (fn := Tryz.f115) rfl (Nat.le_of_ble_eq_true rfl) (by decide +kernel)]
    simp (disch := first | (simp only [List.length_append, List.length_cons, List.length_nil]; omega) | (simp; done) | assumption) [AV.cells?, AV.isCell, -AV.cells?, cq_int, cq_agg, cq_slice, cq_str, -evBuild, -evBuildSlice, -evIndexAddr, hz25, ez, zc, zl, zt, ze, zd, l6, zzd, List.append_nil, ef, fz0, fc, fa, fk, fi, fq0', k3, c3, a3, i3, c24, a24, k24, i24, bq3, hf, Tryz.f115, E_esc, h3, hc0, hc0']
  | ok r =>
    obtain ⟨x, q⟩ := r
    rw [hq] at h1 h2 h3
    have hqb := h2 x q rfl
    simp only [th_ok]
    rw [ansA_ok] at h3
    refine ⟨NZ_ok, Inb_ok hqb, ?_⟩
    clear h1 h2
    have hbs := bS1 x
    have he1 : (X.mk kd [] 0 lo hi true [x]).emb = .agg [.int .i64 kd, .str [], .int .i64 0, .int .i64 lo, .int .i64 hi, .slice (embL [x]) .clip] := rfl
    have hc1' : (AV.agg [.int .i64 kd, .str [], .int .i64 0, .int .i64 lo, .int .i64 hi, .slice (embL [x]) .clip]).cells? = some [.int .i64 kd, .str [], .int .i64 0, .int .i64 lo, .int .i64 hi, .slice (embL [x]) .clip] := rfl
    have hf := fin_ans l (.ok (.mk kd [] 0 lo hi true [x], q)) S
    rw [ansA_ok] at hf ⊢
    have xc := xcells (x)
    have xl := xlen (x)
    have xt := xtake (x)
    have xe := xemb (x)
    have xd : List.drop 6 (x).cells = [] := List.drop_eq_nil_of_le (by rw [xl]; omega)
    rw [he1] at hf ⊢
    simp only [fzL, fEL] at *
    generalize embL [x] = xs at *
    generalize (x).cells = xcs at *
    generalize (x).emb = xem at *
    generalize tkL l = es at *
    generalize zX.cells = zcs at *
    generalize zX.emb = zem at *
    generalize z6 = z at *
    rw [ev_enter (n := n + 4) (show E.ok 115 = true from rfl) Tryz.func115 (fn := Tryz.f115) rfl (Nat.le_of_ble_eq_true rfl) (by decide +kernel)]
    simp (disch := first | (simp only [List.length_append, List.length_cons, List.length_nil]; omega) | (simp; done) | assumption) [AV.cells?, AV.isCell, -AV.cells?, cq_int, cq_agg, cq_slice, cq_str, -evBuild, -evBuildSlice, -evIndexAddr, hz25, ez, zc, zl, zt, ze, zd, l6, zzd, List.append_nil, ef, fz0, fc, fa, fk, fi, fq0', k3, c3, a3, i3, c24, a24, k24, i24, bq3, hf, Tryz.f115, E_esc, h3, hbs, hc0', hc1', fq5, c22, a22, i22, xc, xl, xt, xe, xd]
set_option maxHeartbeats 8000000 in
theorem r_both (n d : Nat) (hd : d ≤ 40) (kd lo hi : Int) (any : Nat → PR X) (h : RSub l k (n + 3) 28 [.int .i64 0, .int .i64 ((d + 1 : Nat) : Int)] any) :
    RSub l k (n + 4) 124 [(X.mk kd [] 0 lo hi true []).emb, .int .i64 (d : Int)] (fun p => (needP (hereT l) [40] p).th fun _ r2 => (any r2).th fun x r3 => (needP (hereT l) [44] r3).th fun _ r4 => (any r4).th fun y r5 => (needP (hereT l) [41] r5).th fun _ r6 => .ok (.mk kd [] 0 lo hi true [x, y], r6)) := by
  intro p S hp
  have hz25 : zeroQ Tryz.prog 25 = some z6 := by kernel_rfl
  have l6 := z6_len
  have zzd : List.drop 6 z6 = [] := rfl
  have ez : evBuild Tryz.prog 25 [] = some zX.emb := bXz
  have zc := xcells zX
  have zl := xlen zX
  have zt := xtake zX
  have ze := xemb zX
  have zd : List.drop 6 zX.cells = [] := rfl
  have ef := bFz
  have wr : ∀ a : Nat, a ≤ 3000000 → ∀ b : Nat, b ≤ 10 → IntKind.i64.wrap ((a : Int) + (b : Int)) = ((a + b : Nat) : Int) := fun a ha b hb => by rw [wrap64 _ (by omega)]; omega
  have hw1 : IntKind.i64.wrap ((p : Int) + 1) = ((p + 1 : Nat) : Int) := wr p (by omega) 1 (by omega)
  have hw2 : IntKind.i64.wrap ((d : Int) + 1) = ((d + 1 : Nat) : Int) := wr d (by omega) 1 (by omega)
  have hI := ev_rIs (n + 2) l k p 40 [] S
  have hF := ev_rfail (n + 2) l k p 16 S hl
  have he0 : (X.mk kd [] 0 lo hi true []).emb = .agg [.int .i64 kd, .str [], .int .i64 0, .int .i64 lo, .int .i64 hi, .slice [] .clip] := rfl
  have hc0' : (AV.agg [.int .i64 kd, .str [], .int .i64 0, .int .i64 lo, .int .i64 hi, .slice [] .clip]).cells? = some [.int .i64 kd, .str [], .int .i64 0, .int .i64 lo, .int .i64 hi, .slice [] .clip] := rfl
  rw [he0]
  simp only [needP]
  cases e1 : isB (hereT l) p [40]
  · simp only [Bool.false_eq_true, if_false, th_err]
    refine ⟨NZ_err (by decide), Inb_err, ?_⟩
    rw [ansA_err] at hF
    rw [e1] at hI
    have hf := fin_ans l (.error (16, p)) S
    rw [ansA_err] at hf ⊢
    simp only [fzL, fEL] at *
    generalize (hereT l p).p = pl at *
    generalize tkL l = es at *
    generalize zX.cells = zcs at *
    generalize zX.emb = zem at *
    generalize z6 = z at *
    rw [ev_enter (n := n + 3) (show E.ok 124 = true from rfl) Tryz.func124 (fn := Tryz.f124) rfl (Nat.le_of_ble_eq_true rfl) (by decide +kernel)]
    simp (disch := first | (simp only [List.length_append, List.length_cons, List.length_nil]; omega) | (simp; done) | assumption) [AV.cells?, AV.isCell, -AV.cells?, cq_int, cq_agg, cq_slice, cq_str, -evBuild, -evBuildSlice, -evIndexAddr, hz25, ez, zc, zl, zt, ze, zd, l6, zzd, List.append_nil, ef, fz0, fc, fa, fk, fi, fq0', k3, c3, a3, i3, c24, a24, k24, i24, bq3, hf, Tryz.f124, E_esc, hI, hF, hc0']
  · have hlt := is_lt e1
    rw [e1] at hI
    simp only [if_true, th_ok]
    obtain ⟨h1, h2, h3⟩ := h (p + 1) S (by omega)
    cases hq : any (p + 1) with
    | error e =>
      obtain ⟨c, q⟩ := e
      rw [hq] at h1 h2 h3
      simp only [th_err]
      have hc0 : c ≠ 0 := h1 c q rfl
      refine ⟨h1, Inb_err, ?_⟩
      rw [ansA_err] at h3
      clear h1 h2
      have hf := fin_ans l (.error (c, q)) S
      rw [ansA_err] at hf ⊢
      simp only [fzL, fEL] at *
      generalize (hereT l q).p = pl at *
      generalize p + 1 = P1 at *
      generalize d + 1 = D1 at *
      generalize tkL l = es at *
      generalize zX.cells = zcs at *
      generalize zX.emb = zem at *
      generalize z6 = z at *
      rw [ev_enter (n := n + 3) (show E.ok 124 = true from rfl) Tryz.func124 (fn := Tryz.f124) rfl (Nat.le_of_ble_eq_true rfl) (by decide +kernel)]
      simp (disch := first | (simp only [List.length_append, List.length_cons, List.length_nil]; omega) | (simp; done) | assumption) [AV.cells?, AV.isCell, -AV.cells?, cq_int, cq_agg, cq_slice, cq_str, -evBuild, -evBuildSlice, -evIndexAddr, hz25, ez, zc, zl, zt, ze, zd, l6, zzd, List.append_nil, ef, fz0, fc, fa, fk, fi, fq0', k3, c3, a3, i3, c24, a24, k24, i24, bq3, hf, Tryz.f124, E_esc, hI, hw1, hw2, h3, hc0, hc0']
    | ok r =>
      obtain ⟨x, q⟩ := r
      rw [hq] at h1 h2 h3
      have hqb := h2 x q rfl
      simp only [th_ok]
      rw [ansA_ok] at h3
      clear h1 h2
      have hI2 := ev_rIs (n + 2) l k q 44 [] S
      have hF2 := ev_rfail (n + 2) l k q 16 S hl
      cases e2 : isB (hereT l) q [44]
      · simp only [Bool.false_eq_true, if_false, th_err]
        refine ⟨NZ_err (by decide), Inb_err, ?_⟩
        rw [ansA_err] at hF2
        rw [e2] at hI2
        have hf := fin_ans l (.error (16, q)) S
        rw [ansA_err] at hf ⊢
        have xc := xcells (x)
        have xl := xlen (x)
        have xt := xtake (x)
        have xe := xemb (x)
        have xd : List.drop 6 (x).cells = [] := List.drop_eq_nil_of_le (by rw [xl]; omega)
        simp only [fzL, fEL] at *
        generalize (x).cells = xcs at *
        generalize (x).emb = xem at *
        generalize (hereT l q).p = pl at *
        generalize p + 1 = P1 at *
        generalize d + 1 = D1 at *
        generalize tkL l = es at *
        generalize zX.cells = zcs at *
        generalize zX.emb = zem at *
        generalize z6 = z at *
        rw [ev_enter (n := n + 3) (show E.ok 124 = true from rfl) Tryz.func124 (fn := Tryz.f124) rfl (Nat.le_of_ble_eq_true rfl) (by decide +kernel)]
        simp (disch := first | (simp only [List.length_append, List.length_cons, List.length_nil]; omega) | (simp; done) | assumption) [AV.cells?, AV.isCell, -AV.cells?, cq_int, cq_agg, cq_slice, cq_str, -evBuild, -evBuildSlice, -evIndexAddr, hz25, ez, zc, zl, zt, ze, zd, l6, zzd, List.append_nil, ef, fz0, fc, fa, fk, fi, fq0', k3, c3, a3, i3, c24, a24, k24, i24, bq3, hf, Tryz.f124, E_esc, hI, hw1, hw2, h3, hI2, hF2, hc0', xc, xl, xt, xe, xd]
      · have hlt2 := is_lt e2
        rw [e2] at hI2
        simp only [if_true, th_ok]
        have hw3 : IntKind.i64.wrap ((q : Int) + 1) = ((q + 1 : Nat) : Int) := wr q (by omega) 1 (by omega)
        obtain ⟨g1, g2, g3⟩ := h (q + 1) S (by omega)
        cases hq2 : any (q + 1) with
        | error e =>
          obtain ⟨c, q'⟩ := e
          rw [hq2] at g1 g2 g3
          simp only [th_err]
          have hc0 : c ≠ 0 := g1 c q' rfl
          refine ⟨g1, Inb_err, ?_⟩
          rw [ansA_err] at g3
          clear g1 g2
          have hf := fin_ans l (.error (c, q')) S
          rw [ansA_err] at hf ⊢
          have xc := xcells (x)
          have xl := xlen (x)
          have xt := xtake (x)
          have xe := xemb (x)
          have xd : List.drop 6 (x).cells = [] := List.drop_eq_nil_of_le (by rw [xl]; omega)
          simp only [fzL, fEL] at *
          generalize (x).cells = xcs at *
          generalize (x).emb = xem at *
          generalize (hereT l q').p = pl at *
          generalize p + 1 = P1 at *
          generalize d + 1 = D1 at *
          generalize q + 1 = Q1 at *
          generalize tkL l = es at *
          generalize zX.cells = zcs at *
          generalize zX.emb = zem at *
          generalize z6 = z at *
          rw [ev_enter (n := n + 3) (show E.ok 124 = true from rfl) Tryz.func124 (fn := Tryz.f124) rfl (Nat.le_of_ble_eq_true rfl) (by decide +kernel)]
          simp (disch := first | (simp only [List.length_append, List.length_cons, List.length_nil]; omega) | (simp; done) | assumption) [AV.cells?, AV.isCell, -AV.cells?, cq_int, cq_agg, cq_slice, cq_str, -evBuild, -evBuildSlice, -evIndexAddr, hz25, ez, zc, zl, zt, ze, zd, l6, zzd, List.append_nil, ef, fz0, fc, fa, fk, fi, fq0', k3, c3, a3, i3, c24, a24, k24, i24, bq3, hf, Tryz.f124, E_esc, hI, hw1, hw2, hw3, h3, hI2, g3, hc0, hc0', xc, xl, xt, xe, xd]
        | ok r =>
          obtain ⟨y, q'⟩ := r
          rw [hq2] at g1 g2 g3
          have hqb2 := g2 y q' rfl
          simp only [th_ok]
          rw [ansA_ok] at g3
          clear g1 g2
          have hI3 := ev_rIs (n + 2) l k q' 41 [] S
          have hF3 := ev_rfail (n + 2) l k q' 16 S hl
          cases e3 : isB (hereT l) q' [41]
          · simp only [Bool.false_eq_true, if_false, th_err]
            refine ⟨NZ_err (by decide), Inb_err, ?_⟩
            rw [ansA_err] at hF3
            rw [e3] at hI3
            have hf := fin_ans l (.error (16, q')) S
            rw [ansA_err] at hf ⊢
            have xc := xcells (x)
            have xl := xlen (x)
            have xt := xtake (x)
            have xe := xemb (x)
            have xd : List.drop 6 (x).cells = [] := List.drop_eq_nil_of_le (by rw [xl]; omega)
            have yc := xcells (y)
            have yl := xlen (y)
            have yt := xtake (y)
            have ye := xemb (y)
            have yd : List.drop 6 (y).cells = [] := List.drop_eq_nil_of_le (by rw [yl]; omega)
            simp only [fzL, fEL] at *
            generalize (x).cells = xcs at *
            generalize (x).emb = xem at *
            generalize (y).cells = ycs at *
            generalize (y).emb = yem at *
            generalize (hereT l q').p = pl at *
            generalize p + 1 = P1 at *
            generalize d + 1 = D1 at *
            generalize q + 1 = Q1 at *
            generalize tkL l = es at *
            generalize zX.cells = zcs at *
            generalize zX.emb = zem at *
            generalize z6 = z at *
            rw [ev_enter (n := n + 3) (show E.ok 124 = true from rfl) Tryz.func124 (fn := Tryz.f124) rfl (Nat.le_of_ble_eq_true rfl) (by decide +kernel)]
            simp (disch := first | (simp only [List.length_append, List.length_cons, List.length_nil]; omega) | (simp; done) | assumption) [AV.cells?, AV.isCell, -AV.cells?, cq_int, cq_agg, cq_slice, cq_str, -evBuild, -evBuildSlice, -evIndexAddr, hz25, ez, zc, zl, zt, ze, zd, l6, zzd, List.append_nil, ef, fz0, fc, fa, fk, fi, fq0', k3, c3, a3, i3, c24, a24, k24, i24, bq3, hf, Tryz.f124, E_esc, hI, hw1, hw2, hw3, h3, hI2, g3, hI3, hF3, hc0', xc, xl, xt, xe, xd, yc, yl, yt, ye, yd]
          · have hlt3 := is_lt e3
            rw [e3] at hI3
            simp only [if_true, th_ok]
            have hw4 : IntKind.i64.wrap ((q' : Int) + 1) = ((q' + 1 : Nat) : Int) := wr (q') (by omega) 1 (by omega)
            refine ⟨NZ_ok, Inb_ok (by omega), ?_⟩
            have hbs := bS2 x y
            have he1 : (X.mk kd [] 0 lo hi true [x, y]).emb = .agg [.int .i64 kd, .str [], .int .i64 0, .int .i64 lo, .int .i64 hi, .slice (embL [x, y]) .clip] := rfl
            have hc1' : (AV.agg [.int .i64 kd, .str [], .int .i64 0, .int .i64 lo, .int .i64 hi, .slice (embL [x, y]) .clip]).cells? = some [.int .i64 kd, .str [], .int .i64 0, .int .i64 lo, .int .i64 hi, .slice (embL [x, y]) .clip] := rfl
            have hf := fin_ans l (.ok (.mk kd [] 0 lo hi true [x, y], q' + 1)) S
            rw [ansA_ok] at hf ⊢
            have xc := xcells (x)
            have xl := xlen (x)
            have xt := xtake (x)
            have xe := xemb (x)
            have xd : List.drop 6 (x).cells = [] := List.drop_eq_nil_of_le (by rw [xl]; omega)
            have yc := xcells (y)
            have yl := xlen (y)
            have yt := xtake (y)
            have ye := xemb (y)
            have yd : List.drop 6 (y).cells = [] := List.drop_eq_nil_of_le (by rw [yl]; omega)
            rw [he1] at hf ⊢
            simp only [fzL, fEL] at *
            generalize embL [x, y] = xs at *
            generalize (x).cells = xcs at *
            generalize (x).emb = xem at *
            generalize (y).cells = ycs at *
            generalize (y).emb = yem at *
            generalize p + 1 = P1 at *
            generalize d + 1 = D1 at *
            generalize q + 1 = Q1 at *
            generalize q' + 1 = Q2 at *
            generalize tkL l = es at *
            generalize zX.cells = zcs at *
            generalize zX.emb = zem at *
            generalize z6 = z at *
            rw [ev_enter (n := n + 3) (show E.ok 124 = true from rfl) Tryz.func124 (fn := Tryz.f124) rfl (Nat.le_of_ble_eq_true rfl) (by decide +kernel)]
            simp (disch := first | (simp only [List.length_append, List.length_cons, List.length_nil]; omega) | (simp; done) | assumption) [AV.cells?, AV.isCell, -AV.cells?, cq_int, cq_agg, cq_slice, cq_str, -evBuild, -evBuildSlice, -evIndexAddr, hz25, ez, zc, zl, zt, ze, zd, l6, zzd, List.append_nil, ef, fz0, fc, fa, fk, fi, fq0', k3, c3, a3, i3, c24, a24, k24, i24, bq3, hf, Tryz.f124, E_esc, hI, hw1, hw2, hw3, hw4, h3, hI2, g3, hI3, hbs, hc0', hc1', fq5, c22, a22, i22, xc, xl, xt, xe, xd, yc, yl, yt, ye, yd]
end
end Go.Proofs.YtemggoaefohliaaGreatDoor.RP
/- The reference's parser: act, evaluated (printed by genrp.py). No condition. -/
namespace Go.Proofs.YtemggoaefohliaaGreatDoor.RP
set_option linter.unusedVariables false
set_option linter.unusedSimpArgs false
open Go AE EX PT NF LX PS
set_option maxRecDepth 100000
theorem leafE (k : Int) (s : List UInt8) (n hi : Int) : (leafX k s n hi).emb = .agg [.int .i64 k, .str s, .int .i64 n, .int .i64 0, .int .i64 hi, .slice [] .clip] := rfl
theorem hc6 (k : Int) (s : List UInt8) (n lo hi : Int) : (AV.agg [.int .i64 k, .str s, .int .i64 n, .int .i64 lo, .int .i64 hi, .slice [] .clip]).cells? = some [.int .i64 k, .str s, .int .i64 n, .int .i64 lo, .int .i64 hi, .slice [] .clip] := rfl
section
variable {l : List Tk} {k : Tok} (hl : l.length ≤ 2000000)
include hl
set_option maxHeartbeats 8000000 in
theorem r_act (n : Nat) : RSub l k (n + 4) 114 [.bool false] (actP (hereT l)) := by
  intro p S hp
  have hz25 : zeroQ Tryz.prog 25 = some z6 := by kernel_rfl
  have l6 := z6_len
  have zzd : List.drop 6 z6 = [] := rfl
  have ez : evBuild Tryz.prog 25 [] = some zX.emb := bXz
  have zc := xcells zX
  have zl := xlen zX
  have zt := xtake zX
  have ze := xemb zX
  have zd : List.drop 6 zX.cells = [] := rfl
  have ef := bFz
  have wr : ∀ a : Nat, a ≤ 3000000 → ∀ b : Nat, b ≤ 10 → IntKind.i64.wrap ((a : Int) + (b : Int)) = ((a + b : Nat) : Int) := fun a ha b hb => by rw [wrap64 _ (by omega)]; omega
  have hw1 : IntKind.i64.wrap ((p : Int) + 1) = ((p + 1 : Nat) : Int) := wr p (by omega) 1 (by omega)
  have hw2 : IntKind.i64.wrap ((p : Int) + 2) = ((p + 2 : Nat) : Int) := wr p (by omega) 2 (by omega)
  have hv1 : IntKind.i64.wrap (((p + 2 : Nat) : Int) + 1) = ((p + 3 : Nat) : Int) := wr (p + 2) (by omega) 1 (by omega)
  unfold actP needP takeP
  have hI1 := ev_rIs (n + 2) l k p 40 [] S
  have hF1 := ev_rfail (n + 2) l k p 16 S hl
  cases e1 : isB (hereT l) p [40]
  · simp only [e1, Bool.false_eq_true, if_false, th_err]
    rw [e1] at hI1
    refine ⟨NZ_err (by decide), Inb_err, ?_⟩
    rw [ansA_err] at hF1
    have hf := fin_ans l (.error (16, p)) S
    rw [ansA_err] at hf ⊢
    simp only [fzL, fEL] at *
    generalize (hereT l p).p = pl at *
    generalize p + 3 = P3 at *
    generalize p + 2 = P2 at *
    generalize p + 1 = P1 at *
    generalize tkL l = es at *
    generalize zX.cells = zcs at *
    generalize zX.emb = zem at *
    generalize z6 = z at *
    rw [ev_enter (n := n + 2 + 1) (show E.ok 114 = true from rfl) Tryz.func114 (fn := Tryz.f114) rfl (Nat.le_of_ble_eq_true rfl) (by decide +kernel)]
    simp (disch := first | (simp only [List.length_append, List.length_cons, List.length_nil]; omega) | (simp; done) | assumption) [AV.cells?, AV.isCell, -AV.cells?, cq_int, cq_agg, cq_slice, cq_str, -evBuild, -evBuildSlice, -evIndexAddr, hz25, ez, zc, zl, zt, ze, zd, l6, zzd, List.append_nil, ef, fz0, fc, fa, fk, fi, fq0', k3, c3, a3, i3, c24, a24, k24, i24, bq3, hf, Tryz.f114, E_esc, hw1, hw2, hv1, hI1, hF1]
  · have hlt1 := is_lt e1
    rw [e1] at hI1
    simp only [e1, if_true, th_ok, Nat.add_assoc, Nat.reduceAdd]
    have hO2 := ev_rof (n + 2) l k (p + 1) 1 (by decide) S
    have hF2 := ev_rfail (n + 2) l k (p + 1) 16 S hl
    by_cases e2 : (hereT l (p + 1)).k = 1
    · have eb2 : ((hereT l (p + 1)).k == 1) = true := by simp [e2]
      rw [eb2] at hO2
      simp only [e2, if_true, th_ok, Nat.add_assoc, Nat.reduceAdd]
      have hlt2 : p + 1 < l.length := here_lt (by rw [e2]; decide)
      have hx2 : l[p + 1]? = some l[p + 1] := List.getElem?_eq_getElem hlt2
      have hh2 : hereT l (p + 1) = l[p + 1] := by simp [hereT, hx2]
      have hia2 := iw l k (p + 1) _ hx2
      clear hF2
      rw [hh2] at e2 eb2 ⊢
      clear hh2 eb2 hx2
      generalize l[p + 1] = t2 at *
      obtain ⟨tk2, ts2, tn2, tp2⟩ := t2
      simp only [Tk.cells] at hia2 ⊢
      have hb : evBuild Tryz.prog 25 [(0, .int .i64 21), (1, .str ts2)] = some (.agg [.int .i64 21, .str ts2, .int .i64 0, .int .i64 0, .int .i64 0, .slice [] .clip]) := bX1 21 ts2
      have hcA := hc6 21 ts2 0 0 0
      have hI3 := ev_rIs (n + 2) l k (p + 2) 41 [] S
      have hF3 := ev_rfail (n + 2) l k (p + 2) 16 S hl
      cases e3 : isB (hereT l) (p + 2) [41]
      · simp only [e3, Bool.false_eq_true, if_false, th_err]
        rw [e3] at hI3
        refine ⟨NZ_err (by decide), Inb_err, ?_⟩
        rw [ansA_err] at hF3
        have hf := fin_ans l (.error (16, p + 2)) S
        rw [ansA_err] at hf ⊢
        simp only [fzL, fEL] at *
        generalize (hereT l (p + 2)).p = pl at *
        generalize p + 3 = P3 at *
        generalize p + 2 = P2 at *
        generalize p + 1 = P1 at *
        generalize tkL l = es at *
        generalize zX.cells = zcs at *
        generalize zX.emb = zem at *
        generalize z6 = z at *
        rw [ev_enter (n := n + 2 + 1) (show E.ok 114 = true from rfl) Tryz.func114 (fn := Tryz.f114) rfl (Nat.le_of_ble_eq_true rfl) (by decide +kernel)]
        simp (disch := first | (simp only [List.length_append, List.length_cons, List.length_nil]; omega) | (simp; done) | assumption) [AV.cells?, AV.isCell, -AV.cells?, cq_int, cq_agg, cq_slice, cq_str, -evBuild, -evBuildSlice, -evIndexAddr, hz25, ez, zc, zl, zt, ze, zd, l6, zzd, List.append_nil, ef, fz0, fc, fa, fk, fi, fq0', k3, c3, a3, i3, c24, a24, k24, i24, bq3, hf, Tryz.f114, E_esc, hw1, hw2, hv1, hI1, hO2, hia2, hb, hcA, fq0, fq4, fq5, wq1, wq2, wk, wa, wc, k9, c9, a9, k2, c2, a2, i2, hI3, hF3]
      · have hlt3 := is_lt e3
        rw [e3] at hI3
        simp only [e3, if_true, th_ok, Nat.add_assoc, Nat.reduceAdd]
        refine ⟨NZ_ok, Inb_ok (by omega), ?_⟩
        have hf := fin_ans l (.ok (leafX 21 ts2 0 0, p + 3)) S
        rw [ansA_ok] at hf ⊢
        rw [leafE] at hf ⊢
        simp only [fzL, fEL] at *
        generalize p + 3 = P3 at *
        generalize p + 2 = P2 at *
        generalize p + 1 = P1 at *
        generalize tkL l = es at *
        generalize zX.cells = zcs at *
        generalize zX.emb = zem at *
        generalize z6 = z at *
        rw [ev_enter (n := n + 3) (show E.ok 114 = true from rfl) Tryz.func114 (fn := Tryz.f114) rfl (Nat.le_of_ble_eq_true rfl) (by decide +kernel)]
        simp (disch := first | (simp only [List.length_append, List.length_cons, List.length_nil]; omega) | (simp; done) | assumption) [AV.cells?, AV.isCell, -AV.cells?, cq_int, cq_agg, cq_slice, cq_str, -evBuild, -evBuildSlice, -evIndexAddr, hz25, ez, zc, zl, zt, ze, zd, l6, zzd, List.append_nil, ef, fz0, fc, fa, fk, fi, fq0', k3, c3, a3, i3, c24, a24, k24, i24, bq3, hf, Tryz.f114, E_esc, hw1, hw2, hv1, hI1, hO2, hia2, hb, hcA, fq0, fq4, fq5, wq1, wq2, wk, wa, wc, k9, c9, a9, k2, c2, a2, i2, hI3]
    · have eb2 : ((hereT l (p + 1)).k == 1) = false := by simp [e2]
      rw [eb2] at hO2
      simp only [e2, if_false, th_err]
      refine ⟨NZ_err (by decide), Inb_err, ?_⟩
      rw [ansA_err] at hF2
      have hf := fin_ans l (.error (16, p + 1)) S
      rw [ansA_err] at hf ⊢
      simp only [fzL, fEL] at *
      generalize (hereT l (p + 1)).p = pl at *
      generalize (hereT l (p + 1)).k = kk at *
      generalize p + 3 = P3 at *
      generalize p + 2 = P2 at *
      generalize p + 1 = P1 at *
      generalize tkL l = es at *
      generalize zX.cells = zcs at *
      generalize zX.emb = zem at *
      generalize z6 = z at *
      rw [ev_enter (n := n + 2 + 1) (show E.ok 114 = true from rfl) Tryz.func114 (fn := Tryz.f114) rfl (Nat.le_of_ble_eq_true rfl) (by decide +kernel)]
      simp (disch := first | (simp only [List.length_append, List.length_cons, List.length_nil]; omega) | (simp; done) | assumption) [AV.cells?, AV.isCell, -AV.cells?, cq_int, cq_agg, cq_slice, cq_str, -evBuild, -evBuildSlice, -evIndexAddr, hz25, ez, zc, zl, zt, ze, zd, l6, zzd, List.append_nil, ef, fz0, fc, fa, fk, fi, fq0', k3, c3, a3, i3, c24, a24, k24, i24, bq3, hf, Tryz.f114, E_esc, hw1, hw2, hv1, hI1, hO2, hF2]
set_option maxHeartbeats 8000000 in
theorem r_times (n : Nat) : RSub l k (n + 4) 114 [.bool true] (timesP (hereT l)) := by
  intro p S hp
  have hz25 : zeroQ Tryz.prog 25 = some z6 := by kernel_rfl
  have l6 := z6_len
  have zzd : List.drop 6 z6 = [] := rfl
  have ez : evBuild Tryz.prog 25 [] = some zX.emb := bXz
  have zc := xcells zX
  have zl := xlen zX
  have zt := xtake zX
  have ze := xemb zX
  have zd : List.drop 6 zX.cells = [] := rfl
  have ef := bFz
  have wr : ∀ a : Nat, a ≤ 3000000 → ∀ b : Nat, b ≤ 10 → IntKind.i64.wrap ((a : Int) + (b : Int)) = ((a + b : Nat) : Int) := fun a ha b hb => by rw [wrap64 _ (by omega)]; omega
  have hw1 : IntKind.i64.wrap ((p : Int) + 1) = ((p + 1 : Nat) : Int) := wr p (by omega) 1 (by omega)
  have hw2 : IntKind.i64.wrap ((p : Int) + 2) = ((p + 2 : Nat) : Int) := wr p (by omega) 2 (by omega)
  have hv1 : IntKind.i64.wrap (((p + 2 : Nat) : Int) + 1) = ((p + 3 : Nat) : Int) := wr (p + 2) (by omega) 1 (by omega)
  have hv2 : IntKind.i64.wrap (((p + 2 : Nat) : Int) + 2) = ((p + 4 : Nat) : Int) := wr (p + 2) (by omega) 2 (by omega)
  have hv3 : IntKind.i64.wrap (((p + 4 : Nat) : Int) + 1) = ((p + 5 : Nat) : Int) := wr (p + 4) (by omega) 1 (by omega)
  unfold timesP needP takeP
  have hI1 := ev_rIs (n + 2) l k p 40 [] S
  have hF1 := ev_rfail (n + 2) l k p 16 S hl
  cases e1 : isB (hereT l) p [40]
  · simp only [e1, Bool.false_eq_true, if_false, th_err]
    rw [e1] at hI1
    refine ⟨NZ_err (by decide), Inb_err, ?_⟩
    rw [ansA_err] at hF1
    have hf := fin_ans l (.error (16, p)) S
    rw [ansA_err] at hf ⊢
    simp only [fzL, fEL] at *
    generalize (hereT l p).p = pl at *
    generalize p + 5 = P5 at *
    generalize p + 4 = P4 at *
    generalize p + 3 = P3 at *
    generalize p + 2 = P2 at *
    generalize p + 1 = P1 at *
    generalize tkL l = es at *
    generalize zX.cells = zcs at *
    generalize zX.emb = zem at *
    generalize z6 = z at *
    rw [ev_enter (n := n + 2 + 1) (show E.ok 114 = true from rfl) Tryz.func114 (fn := Tryz.f114) rfl (Nat.le_of_ble_eq_true rfl) (by decide +kernel)]
    simp (disch := first | (simp only [List.length_append, List.length_cons, List.length_nil]; omega) | (simp; done) | assumption) [AV.cells?, AV.isCell, -AV.cells?, cq_int, cq_agg, cq_slice, cq_str, -evBuild, -evBuildSlice, -evIndexAddr, hz25, ez, zc, zl, zt, ze, zd, l6, zzd, List.append_nil, ef, fz0, fc, fa, fk, fi, fq0', k3, c3, a3, i3, c24, a24, k24, i24, bq3, hf, Tryz.f114, E_esc, hw1, hw2, hv1, hv2, hv3, hI1, hF1]
  · have hlt1 := is_lt e1
    rw [e1] at hI1
    simp only [e1, if_true, th_ok, Nat.add_assoc, Nat.reduceAdd]
    have hO2 := ev_rof (n + 2) l k (p + 1) 1 (by decide) S
    have hF2 := ev_rfail (n + 2) l k (p + 1) 16 S hl
    by_cases e2 : (hereT l (p + 1)).k = 1
    · have eb2 : ((hereT l (p + 1)).k == 1) = true := by simp [e2]
      rw [eb2] at hO2
      simp only [e2, if_true, th_ok, Nat.add_assoc, Nat.reduceAdd]
      have hlt2 : p + 1 < l.length := here_lt (by rw [e2]; decide)
      have hx2 : l[p + 1]? = some l[p + 1] := List.getElem?_eq_getElem hlt2
      have hh2 : hereT l (p + 1) = l[p + 1] := by simp [hereT, hx2]
      have hia2 := iw l k (p + 1) _ hx2
      clear hF2
      rw [hh2] at e2 eb2 ⊢
      clear hh2 eb2 hx2
      generalize l[p + 1] = t2 at *
      obtain ⟨tk2, ts2, tn2, tp2⟩ := t2
      simp only [Tk.cells] at hia2 ⊢
      have hb : evBuild Tryz.prog 25 [(0, .int .i64 21), (1, .str ts2)] = some (.agg [.int .i64 21, .str ts2, .int .i64 0, .int .i64 0, .int .i64 0, .slice [] .clip]) := bX1 21 ts2
      have hcA := hc6 21 ts2 0 0 0
      have hI3 := ev_rIs (n + 2) l k (p + 2) 44 [] S
      have hF3 := ev_rfail (n + 2) l k (p + 2) 16 S hl
      cases e3 : isB (hereT l) (p + 2) [44]
      · simp only [e3, Bool.false_eq_true, if_false, th_err]
        rw [e3] at hI3
        refine ⟨NZ_err (by decide), Inb_err, ?_⟩
        rw [ansA_err] at hF3
        have hf := fin_ans l (.error (16, p + 2)) S
        rw [ansA_err] at hf ⊢
        simp only [fzL, fEL] at *
        generalize (hereT l (p + 2)).p = pl at *
        generalize p + 5 = P5 at *
        generalize p + 4 = P4 at *
        generalize p + 3 = P3 at *
        generalize p + 2 = P2 at *
        generalize p + 1 = P1 at *
        generalize tkL l = es at *
        generalize zX.cells = zcs at *
        generalize zX.emb = zem at *
        generalize z6 = z at *
        rw [ev_enter (n := n + 2 + 1) (show E.ok 114 = true from rfl) Tryz.func114 (fn := Tryz.f114) rfl (Nat.le_of_ble_eq_true rfl) (by decide +kernel)]
        simp (disch := first | (simp only [List.length_append, List.length_cons, List.length_nil]; omega) | (simp; done) | assumption) [AV.cells?, AV.isCell, -AV.cells?, cq_int, cq_agg, cq_slice, cq_str, -evBuild, -evBuildSlice, -evIndexAddr, hz25, ez, zc, zl, zt, ze, zd, l6, zzd, List.append_nil, ef, fz0, fc, fa, fk, fi, fq0', k3, c3, a3, i3, c24, a24, k24, i24, bq3, hf, Tryz.f114, E_esc, hw1, hw2, hv1, hv2, hv3, hI1, hO2, hia2, hb, hcA, fq0, fq4, fq5, wq1, wq2, wk, wa, wc, k9, c9, a9, k2, c2, a2, i2, hI3, hF3]
      · have hlt3 := is_lt e3
        rw [e3] at hI3
        simp only [e3, if_true, th_ok, Nat.add_assoc, Nat.reduceAdd]
        have hO4 := ev_rof (n + 2) l k (p + 3) 2 (by decide) S
        have hF4 := ev_rfail (n + 2) l k (p + 3) 16 S hl
        by_cases e4 : (hereT l (p + 3)).k = 2
        · have eb4 : ((hereT l (p + 3)).k == 2) = true := by simp [e4]
          rw [eb4] at hO4
          simp only [e4, if_true, th_ok, Nat.add_assoc, Nat.reduceAdd]
          have hlt4 : p + 3 < l.length := here_lt (by rw [e4]; decide)
          have hx4 : l[p + 3]? = some l[p + 3] := List.getElem?_eq_getElem hlt4
          have hh4 : hereT l (p + 3) = l[p + 3] := by simp [hereT, hx4]
          have hia4 := iw l k (p + 3) _ hx4
          clear hF4
          rw [hh4] at e4 eb4 ⊢
          clear hh4 eb4 hx4
          generalize l[p + 3] = t4 at *
          obtain ⟨tk4, ts4, tn4, tp4⟩ := t4
          simp only [Tk.cells] at hia4 ⊢
          have hcB := hc6 13 ts2 0 0 0
          have hcC := hc6 13 ts2 0 0 tn4
          have hI5 := ev_rIs (n + 2) l k (p + 4) 41 [] S
          have hF5 := ev_rfail (n + 2) l k (p + 4) 16 S hl
          cases e5 : isB (hereT l) (p + 4) [41]
          · simp only [e5, Bool.false_eq_true, if_false, th_err]
            rw [e5] at hI5
            refine ⟨NZ_err (by decide), Inb_err, ?_⟩
            rw [ansA_err] at hF5
            have hf := fin_ans l (.error (16, p + 4)) S
            rw [ansA_err] at hf ⊢
            simp only [fzL, fEL] at *
            generalize (hereT l (p + 4)).p = pl at *
            generalize p + 5 = P5 at *
            generalize p + 4 = P4 at *
            generalize p + 3 = P3 at *
            generalize p + 2 = P2 at *
            generalize p + 1 = P1 at *
            generalize tkL l = es at *
            generalize zX.cells = zcs at *
            generalize zX.emb = zem at *
            generalize z6 = z at *
            rw [ev_enter (n := n + 2 + 1) (show E.ok 114 = true from rfl) Tryz.func114 (fn := Tryz.f114) rfl (Nat.le_of_ble_eq_true rfl) (by decide +kernel)]
            simp (disch := first | (simp only [List.length_append, List.length_cons, List.length_nil]; omega) | (simp; done) | assumption) [AV.cells?, AV.isCell, -AV.cells?, cq_int, cq_agg, cq_slice, cq_str, -evBuild, -evBuildSlice, -evIndexAddr, hz25, ez, zc, zl, zt, ze, zd, l6, zzd, List.append_nil, ef, fz0, fc, fa, fk, fi, fq0', k3, c3, a3, i3, c24, a24, k24, i24, bq3, hf, Tryz.f114, E_esc, hw1, hw2, hv1, hv2, hv3, hI1, hO2, hia2, hb, hcA, fq0, fq4, fq5, wq1, wq2, wk, wa, wc, k9, c9, a9, k2, c2, a2, i2, hI3, hO4, hia4, hcB, hcC, hI5, hF5]
          · have hlt5 := is_lt e5
            rw [e5] at hI5
            simp only [e5, if_true, th_ok, Nat.add_assoc, Nat.reduceAdd]
            refine ⟨NZ_ok, Inb_ok (by omega), ?_⟩
            have hf := fin_ans l (.ok (leafX 13 ts2 0 tn4, p + 5)) S
            rw [ansA_ok] at hf ⊢
            rw [leafE] at hf ⊢
            simp only [fzL, fEL] at *
            generalize p + 5 = P5 at *
            generalize p + 4 = P4 at *
            generalize p + 3 = P3 at *
            generalize p + 2 = P2 at *
            generalize p + 1 = P1 at *
            generalize tkL l = es at *
            generalize zX.cells = zcs at *
            generalize zX.emb = zem at *
            generalize z6 = z at *
            rw [ev_enter (n := n + 3) (show E.ok 114 = true from rfl) Tryz.func114 (fn := Tryz.f114) rfl (Nat.le_of_ble_eq_true rfl) (by decide +kernel)]
            simp (disch := first | (simp only [List.length_append, List.length_cons, List.length_nil]; omega) | (simp; done) | assumption) [AV.cells?, AV.isCell, -AV.cells?, cq_int, cq_agg, cq_slice, cq_str, -evBuild, -evBuildSlice, -evIndexAddr, hz25, ez, zc, zl, zt, ze, zd, l6, zzd, List.append_nil, ef, fz0, fc, fa, fk, fi, fq0', k3, c3, a3, i3, c24, a24, k24, i24, bq3, hf, Tryz.f114, E_esc, hw1, hw2, hv1, hv2, hv3, hI1, hO2, hia2, hb, hcA, fq0, fq4, fq5, wq1, wq2, wk, wa, wc, k9, c9, a9, k2, c2, a2, i2, hI3, hO4, hia4, hcB, hcC, hI5]
        · have eb4 : ((hereT l (p + 3)).k == 2) = false := by simp [e4]
          rw [eb4] at hO4
          simp only [e4, if_false, th_err]
          refine ⟨NZ_err (by decide), Inb_err, ?_⟩
          rw [ansA_err] at hF4
          have hf := fin_ans l (.error (16, p + 3)) S
          rw [ansA_err] at hf ⊢
          simp only [fzL, fEL] at *
          generalize (hereT l (p + 3)).p = pl at *
          generalize (hereT l (p + 3)).k = kk at *
          generalize p + 5 = P5 at *
          generalize p + 4 = P4 at *
          generalize p + 3 = P3 at *
          generalize p + 2 = P2 at *
          generalize p + 1 = P1 at *
          generalize tkL l = es at *
          generalize zX.cells = zcs at *
          generalize zX.emb = zem at *
          generalize z6 = z at *
          rw [ev_enter (n := n + 2 + 1) (show E.ok 114 = true from rfl) Tryz.func114 (fn := Tryz.f114) rfl (Nat.le_of_ble_eq_true rfl) (by decide +kernel)]
          simp (disch := first | (simp only [List.length_append, List.length_cons, List.length_nil]; omega) | (simp; done) | assumption) [AV.cells?, AV.isCell, -AV.cells?, cq_int, cq_agg, cq_slice, cq_str, -evBuild, -evBuildSlice, -evIndexAddr, hz25, ez, zc, zl, zt, ze, zd, l6, zzd, List.append_nil, ef, fz0, fc, fa, fk, fi, fq0', k3, c3, a3, i3, c24, a24, k24, i24, bq3, hf, Tryz.f114, E_esc, hw1, hw2, hv1, hv2, hv3, hI1, hO2, hia2, hb, hcA, fq0, fq4, fq5, wq1, wq2, wk, wa, wc, k9, c9, a9, k2, c2, a2, i2, hI3, hO4, hF4]
    · have eb2 : ((hereT l (p + 1)).k == 1) = false := by simp [e2]
      rw [eb2] at hO2
      simp only [e2, if_false, th_err]
      refine ⟨NZ_err (by decide), Inb_err, ?_⟩
      rw [ansA_err] at hF2
      have hf := fin_ans l (.error (16, p + 1)) S
      rw [ansA_err] at hf ⊢
      simp only [fzL, fEL] at *
      generalize (hereT l (p + 1)).p = pl at *
      generalize (hereT l (p + 1)).k = kk at *
      generalize p + 5 = P5 at *
      generalize p + 4 = P4 at *
      generalize p + 3 = P3 at *
      generalize p + 2 = P2 at *
      generalize p + 1 = P1 at *
      generalize tkL l = es at *
      generalize zX.cells = zcs at *
      generalize zX.emb = zem at *
      generalize z6 = z at *
      rw [ev_enter (n := n + 2 + 1) (show E.ok 114 = true from rfl) Tryz.func114 (fn := Tryz.f114) rfl (Nat.le_of_ble_eq_true rfl) (by decide +kernel)]
      simp (disch := first | (simp only [List.length_append, List.length_cons, List.length_nil]; omega) | (simp; done) | assumption) [AV.cells?, AV.isCell, -AV.cells?, cq_int, cq_agg, cq_slice, cq_str, -evBuild, -evBuildSlice, -evIndexAddr, hz25, ez, zc, zl, zt, ze, zd, l6, zzd, List.append_nil, ef, fz0, fc, fa, fk, fi, fq0', k3, c3, a3, i3, c24, a24, k24, i24, bq3, hf, Tryz.f114, E_esc, hw1, hw2, hv1, hv2, hv3, hI1, hO2, hF2]
end
end Go.Proofs.YtemggoaefohliaaGreatDoor.RP
/- The reference's parser: timed, evaluated (printed by genrp.py). No condition. -/
namespace Go.Proofs.YtemggoaefohliaaGreatDoor.RP
set_option linter.unusedVariables false
set_option linter.unusedSimpArgs false
open Go AE EX PT NF LX PS
set_option maxRecDepth 100000
theorem fl4 : placeQ Tryz.prog 25 4 = some (4, 1) := by kernel_rfl
theorem bX4 (k hi : Int) : evBuild Tryz.prog 25 [(0, .int .i64 k), (4, .int .i64 hi)] = some (.agg [.int .i64 k, .str [], .int .i64 0, .int .i64 0, .int .i64 hi, .slice [] .clip]) := by
  simp [evBuild, p25, z24, fillA, fl0, fl4, AV.cells?, wrc]
theorem ansA_ex (l : List Tk) (r : PR X) : ∃ (x : X) (q c a b : Int), ansA l r = .tup [x.emb, .int .i64 q, .agg [.int .i64 c, .int .i64 a, .int .i64 b]] := by
  match r with
  | .ok (x, q) => exact ⟨x, q, 0, 0, 0, rfl⟩
  | .error (c, p) => exact ⟨zX, 0, c, (hereT l p).p, 1, rfl⟩
section
variable {l : List Tk} {k : Tok} (hl : l.length ≤ 2000000)
include hl
set_option maxHeartbeats 16000000 in
theorem r_look (n d : Nat) (kd : Int) (hk : kd = 22 ∨ kd = 23) (any : Nat → PR X) (hA : ∀ lo hi : Int, RSub l k (n + 5) 115 [(X.mk kd [] 0 lo hi true []).emb, .int .i64 (d : Int)] (fun p => (argP (hereT l) any p).th fun x q => .ok (.mk kd [] 0 lo hi true [x], q))) :
    RSub l k (n + 6) 116 [.int .i64 kd, .int .i64 (d : Int)] (lookP (hereT l) kd any) := by
  intro p S hp
  have hz25 : zeroQ Tryz.prog 25 = some z6 := by kernel_rfl
  have l6 := z6_len
  have zzd : List.drop 6 z6 = [] := rfl
  have ez : evBuild Tryz.prog 25 [] = some zX.emb := bXz
  have zc := xcells zX
  have zl := xlen zX
  have zt := xtake zX
  have ze := xemb zX
  have zd : List.drop 6 zX.cells = [] := rfl
  have ef := bFz
  have wr : ∀ a : Nat, a ≤ 3000000 → ∀ b : Nat, b ≤ 10 → IntKind.i64.wrap ((a : Int) + (b : Int)) = ((a + b : Nat) : Int) := fun a ha b hb => by rw [wrap64 _ (by omega)]; omega
  have hw0 : IntKind.i64.wrap ((p : Int) + 0) = (p : Int) := by rw [Int.add_zero]; exact wrap64 _ (by omega)
  have hw1 : IntKind.i64.wrap ((p : Int) + 1) = ((p + 1 : Nat) : Int) := wr p (by omega) 1 (by omega)
  have hw2 : IntKind.i64.wrap ((p : Int) + 2) = ((p + 2 : Nat) : Int) := wr p (by omega) 2 (by omega)
  have hw3 : IntKind.i64.wrap ((p : Int) + 3) = ((p + 3 : Nat) : Int) := wr p (by omega) 3 (by omega)
  have hw4 : IntKind.i64.wrap ((p : Int) + 4) = ((p + 4 : Nat) : Int) := wr p (by omega) 4 (by omega)
  have hw5 : IntKind.i64.wrap ((p : Int) + 5) = ((p + 5 : Nat) : Int) := wr p (by omega) 5 (by omega)
  have hk24 : kd ≠ 24 := by rcases hk with rfl | rfl <;> decide
  have hb := bX4 kd (-1)
  have hcA := hc6 kd [] 0 0 (-1)
  unfold lookP spanP needP takeP
  have hI1 := ev_rIs (n + 4) l k p 91 [] S
  have hF1 := ev_rfail (n + 4) l k p 16 S hl
  cases e1 : isB (hereT l) p [91]
  · simp only [e1, Bool.false_eq_true, if_false, th_err]
    rw [e1] at hI1
    refine ⟨NZ_err (by decide), Inb_err, ?_⟩
    rw [ansA_err] at hF1
    have hf := fin_ans l (.error (16, p)) S
    rw [ansA_err] at hf ⊢
    simp only [fzL, fEL] at *
    generalize (hereT l p).p = pl at *
    generalize p + 5 = P5 at *
    generalize p + 4 = P4 at *
    generalize p + 3 = P3 at *
    generalize p + 2 = P2 at *
    generalize p + 1 = P1 at *
    generalize tkL l = es at *
    generalize zX.cells = zcs at *
    generalize zX.emb = zem at *
    generalize z6 = z at *
    rw [ev_enter (n := n + 4 + 1) (show E.ok 116 = true from rfl) Tryz.func116 (fn := Tryz.f116) rfl (Nat.le_of_ble_eq_true rfl) (by decide +kernel)]
    simp (disch := first | (simp only [List.length_append, List.length_cons, List.length_nil]; omega) | (simp; done) | assumption) [AV.cells?, AV.isCell, -AV.cells?, cq_int, cq_agg, cq_slice, cq_str, -evBuild, -evBuildSlice, -evIndexAddr, hz25, ez, zc, zl, zt, ze, zd, l6, zzd, List.append_nil, ef, fz0, fc, fa, fk, fi, fq0', k3, c3, a3, i3, c24, a24, k24, i24, bq3, hf, Tryz.f116, E_esc, hw1, hw2, hw3, hw4, hw5, hb, hcA, fq3, fq4, bq2, wq1, wq2, wk, wa, wc, k9, c9, a9, k2, c2, a2, i2, hk24, hI1, hF1]
  · have hlt1 := is_lt e1
    rw [e1] at hI1
    simp only [e1, if_true, th_ok, Nat.add_assoc, Nat.reduceAdd]
    have hO2 := ev_rof (n + 4) l k (p + 1) 2 (by decide) S
    have hF2 := ev_rfail (n + 4) l k (p + 1) 16 S hl
    by_cases e2 : (hereT l (p + 1)).k = 2
    · have eb2 : ((hereT l (p + 1)).k == 2) = true := by simp [e2]
      rw [eb2] at hO2
      simp only [e2, if_true, th_ok, Nat.add_assoc, Nat.reduceAdd]
      have hlt2 : p + 1 < l.length := here_lt (by rw [e2]; decide)
      have hx2 : l[p + 1]? = some l[p + 1] := List.getElem?_eq_getElem hlt2
      have hh2 : hereT l (p + 1) = l[p + 1] := by simp [hereT, hx2]
      have hia2 := iw l k (p + 1) _ hx2
      clear hF2
      rw [hh2] at e2 eb2 ⊢
      clear hh2 eb2 hx2
      generalize l[p + 1] = t2 at *
      obtain ⟨tk2, ts2, tn2, tp2⟩ := t2
      simp only [Tk.cells] at hia2 ⊢
      have hcB := hc6 kd [] 0 tn2 (-1)
      have hI3 := ev_rIs (n + 4) l k (p + 2) 44 [] S
      have hF3 := ev_rfail (n + 4) l k (p + 2) 16 S hl
      cases e3 : isB (hereT l) (p + 2) [44]
      · simp only [e3, Bool.false_eq_true, if_false, th_err]
        rw [e3] at hI3
        refine ⟨NZ_err (by decide), Inb_err, ?_⟩
        rw [ansA_err] at hF3
        have hf := fin_ans l (.error (16, p + 2)) S
        rw [ansA_err] at hf ⊢
        simp only [fzL, fEL] at *
        generalize (hereT l (p + 2)).p = pl at *
        generalize p + 5 = P5 at *
        generalize p + 4 = P4 at *
        generalize p + 3 = P3 at *
        generalize p + 2 = P2 at *
        generalize p + 1 = P1 at *
        generalize tkL l = es at *
        generalize zX.cells = zcs at *
        generalize zX.emb = zem at *
        generalize z6 = z at *
        rw [ev_enter (n := n + 4 + 1) (show E.ok 116 = true from rfl) Tryz.func116 (fn := Tryz.f116) rfl (Nat.le_of_ble_eq_true rfl) (by decide +kernel)]
        simp (disch := first | (simp only [List.length_append, List.length_cons, List.length_nil]; omega) | (simp; done) | assumption) [AV.cells?, AV.isCell, -AV.cells?, cq_int, cq_agg, cq_slice, cq_str, -evBuild, -evBuildSlice, -evIndexAddr, hz25, ez, zc, zl, zt, ze, zd, l6, zzd, List.append_nil, ef, fz0, fc, fa, fk, fi, fq0', k3, c3, a3, i3, c24, a24, k24, i24, bq3, hf, Tryz.f116, E_esc, hw1, hw2, hw3, hw4, hw5, hb, hcA, fq3, fq4, bq2, wq1, wq2, wk, wa, wc, k9, c9, a9, k2, c2, a2, i2, hk24, hI1, hO2, hia2, hcB, hI3, hF3]
      · have hlt3 := is_lt e3
        rw [e3] at hI3
        simp only [e3, if_true, th_ok, Nat.add_assoc, Nat.reduceAdd]
        have hI4 := ev_rIs (n + 4) l k (p + 3) 42 [] S
        cases e4 : isB (hereT l) (p + 3) [42]
        · rw [e4] at hI4
          simp only [e4, Bool.false_eq_true, if_false]
          have hO5 := ev_rof (n + 4) l k (p + 3) 2 (by decide) S
          have hF5 := ev_rfail (n + 4) l k (p + 3) 16 S hl
          by_cases e5 : (hereT l (p + 3)).k = 2
          · have eb5 : ((hereT l (p + 3)).k == 2) = true := by simp [e5]
            rw [eb5] at hO5
            simp only [e5, if_true, th_ok, Nat.add_assoc, Nat.reduceAdd]
            have hlt5 : p + 3 < l.length := here_lt (by rw [e5]; decide)
            have hx5 : l[p + 3]? = some l[p + 3] := List.getElem?_eq_getElem hlt5
            have hh5 : hereT l (p + 3) = l[p + 3] := by simp [hereT, hx5]
            have hia5 := iw l k (p + 3) _ hx5
            clear hF5
            rw [hh5] at e5 eb5 ⊢
            clear hh5 eb5 hx5
            generalize l[p + 3] = t5 at *
            obtain ⟨tk5, ts5, tn5, tp5⟩ := t5
            simp only [Tk.cells] at hia5 ⊢
            have hcC := hc6 kd [] 0 tn2 (tn5)
            have hF9 := ev_rfail (n + 4) l k (p + 4) 16 S hl
            by_cases hlt : tn5 < tn2
            · simp only [hlt, if_true, th_err]
              refine ⟨NZ_err (by decide), Inb_err, ?_⟩
              rw [ansA_err] at hF9
              have hf := fin_ans l (.error (16, p + 4)) S
              rw [ansA_err] at hf ⊢
              simp only [fzL, fEL] at *
              generalize (hereT l (p + 4)).p = pl at *
              generalize p + 5 = P5 at *
              generalize p + 4 = P4 at *
              generalize p + 3 = P3 at *
              generalize p + 2 = P2 at *
              generalize p + 1 = P1 at *
              generalize tkL l = es at *
              generalize zX.cells = zcs at *
              generalize zX.emb = zem at *
              generalize z6 = z at *
              rw [ev_enter (n := n + 4 + 1) (show E.ok 116 = true from rfl) Tryz.func116 (fn := Tryz.f116) rfl (Nat.le_of_ble_eq_true rfl) (by decide +kernel)]
              simp (disch := first | (simp only [List.length_append, List.length_cons, List.length_nil]; omega) | (simp; done) | assumption) [AV.cells?, AV.isCell, -AV.cells?, cq_int, cq_agg, cq_slice, cq_str, -evBuild, -evBuildSlice, -evIndexAddr, hz25, ez, zc, zl, zt, ze, zd, l6, zzd, List.append_nil, ef, fz0, fc, fa, fk, fi, fq0', k3, c3, a3, i3, c24, a24, k24, i24, bq3, hf, Tryz.f116, E_esc, hw1, hw2, hw3, hw4, hw5, hb, hcA, fq3, fq4, bq2, wq1, wq2, wk, wa, wc, k9, c9, a9, k2, c2, a2, i2, hk24, hI1, hO2, hia2, hcB, hI3, hI4, hO5, hia5, hcC, hlt, hF9]
            · simp only [hlt, if_false]
              have hI6 := ev_rIs (n + 4) l k (p + 4) 93 [] S
              have hF6 := ev_rfail (n + 4) l k (p + 4) 16 S hl
              cases e6 : isB (hereT l) (p + 4) [93]
              · simp only [e6, Bool.false_eq_true, if_false, th_err]
                rw [e6] at hI6
                refine ⟨NZ_err (by decide), Inb_err, ?_⟩
                rw [ansA_err] at hF6
                have hf := fin_ans l (.error (16, p + 4)) S
                rw [ansA_err] at hf ⊢
                simp only [fzL, fEL] at *
                generalize (hereT l (p + 4)).p = pl at *
                generalize p + 5 = P5 at *
                generalize p + 4 = P4 at *
                generalize p + 3 = P3 at *
                generalize p + 2 = P2 at *
                generalize p + 1 = P1 at *
                generalize tkL l = es at *
                generalize zX.cells = zcs at *
                generalize zX.emb = zem at *
                generalize z6 = z at *
                rw [ev_enter (n := n + 4 + 1) (show E.ok 116 = true from rfl) Tryz.func116 (fn := Tryz.f116) rfl (Nat.le_of_ble_eq_true rfl) (by decide +kernel)]
                simp (disch := first | (simp only [List.length_append, List.length_cons, List.length_nil]; omega) | (simp; done) | assumption) [AV.cells?, AV.isCell, -AV.cells?, cq_int, cq_agg, cq_slice, cq_str, -evBuild, -evBuildSlice, -evIndexAddr, hz25, ez, zc, zl, zt, ze, zd, l6, zzd, List.append_nil, ef, fz0, fc, fa, fk, fi, fq0', k3, c3, a3, i3, c24, a24, k24, i24, bq3, hf, Tryz.f116, E_esc, hw1, hw2, hw3, hw4, hw5, hb, hcA, fq3, fq4, bq2, wq1, wq2, wk, wa, wc, k9, c9, a9, k2, c2, a2, i2, hk24, hI1, hO2, hia2, hcB, hI3, hI4, hO5, hia5, hcC, hlt, hI6, hF6]
              · have hlt6 := is_lt e6
                rw [e6] at hI6
                simp only [e6, if_true, th_ok, Nat.add_assoc, Nat.reduceAdd]
                have key : ∀ R : PR X, (NZ R ∧ Inb l R ∧ ev Tryz.prog E (n + 5) 115 [.slice (tkL l) k, .int .i64 ((p + 5 : Nat) : Int), .agg [.int .i64 kd, .str [], .int .i64 0, .int .i64 tn2, .int .i64 (tn5), .slice [] .clip], .int .i64 (d : Int)] S = some (.ret (ansA l R), S)) → (NZ R ∧ Inb l R ∧ ev Tryz.prog E (n + 6) 116 [.slice (tkL l) k, .int .i64 (p : Int), .int .i64 kd, .int .i64 (d : Int)] S = some (.ret (ansA l R), S)) := by
                  intro R ⟨h1, h2, h3⟩
                  refine ⟨h1, h2, ?_⟩
                  clear h1 h2
                  obtain ⟨x, q, c, a, b, hx⟩ := ansA_ex l R
                  have hf := fin_ans l (R) S
                  rw [hx] at h3 hf ⊢
                  have xc := xcells (x)
                  have xl := xlen (x)
                  have xt := xtake (x)
                  have xe := xemb (x)
                  have xd : List.drop 6 (x).cells = [] := List.drop_eq_nil_of_le (by rw [xl]; omega)
                  simp only [fzL, fEL] at *
                  generalize (x).cells = xcs at *
                  generalize (x).emb = xem at *
                  generalize p + 5 = P5 at *
                  generalize p + 4 = P4 at *
                  generalize p + 3 = P3 at *
                  generalize p + 2 = P2 at *
                  generalize p + 1 = P1 at *
                  generalize tkL l = es at *
                  generalize zX.cells = zcs at *
                  generalize zX.emb = zem at *
                  generalize z6 = z at *
                  rw [ev_enter (n := n + 5) (show E.ok 116 = true from rfl) Tryz.func116 (fn := Tryz.f116) rfl (Nat.le_of_ble_eq_true rfl) (by decide +kernel)]
                  simp (disch := first | (simp only [List.length_append, List.length_cons, List.length_nil]; omega) | (simp; done) | assumption) [AV.cells?, AV.isCell, -AV.cells?, cq_int, cq_agg, cq_slice, cq_str, -evBuild, -evBuildSlice, -evIndexAddr, hz25, ez, zc, zl, zt, ze, zd, l6, zzd, List.append_nil, ef, fz0, fc, fa, fk, fi, fq0', k3, c3, a3, i3, c24, a24, k24, i24, bq3, hf, Tryz.f116, E_esc, hw1, hw2, hw3, hw4, hw5, hb, hcA, fq3, fq4, bq2, wq1, wq2, wk, wa, wc, k9, c9, a9, k2, c2, a2, i2, hk24, hI1, hO2, hia2, hcB, hI3, hI4, hO5, hia5, hcC, hlt, hI6, h3, xc, xl, xt, xe, xd]
                exact key _ (hA tn2 (tn5) (p + 5) S (by omega))
          · have eb5 : ((hereT l (p + 3)).k == 2) = false := by simp [e5]
            rw [eb5] at hO5
            simp only [e5, if_false, th_err]
            refine ⟨NZ_err (by decide), Inb_err, ?_⟩
            rw [ansA_err] at hF5
            have hf := fin_ans l (.error (16, p + 3)) S
            rw [ansA_err] at hf ⊢
            simp only [fzL, fEL] at *
            generalize (hereT l (p + 3)).p = pl at *
            generalize (hereT l (p + 3)).k = kk at *
            generalize p + 5 = P5 at *
            generalize p + 4 = P4 at *
            generalize p + 3 = P3 at *
            generalize p + 2 = P2 at *
            generalize p + 1 = P1 at *
            generalize tkL l = es at *
            generalize zX.cells = zcs at *
            generalize zX.emb = zem at *
            generalize z6 = z at *
            rw [ev_enter (n := n + 4 + 1) (show E.ok 116 = true from rfl) Tryz.func116 (fn := Tryz.f116) rfl (Nat.le_of_ble_eq_true rfl) (by decide +kernel)]
            simp (disch := first | (simp only [List.length_append, List.length_cons, List.length_nil]; omega) | (simp; done) | assumption) [AV.cells?, AV.isCell, -AV.cells?, cq_int, cq_agg, cq_slice, cq_str, -evBuild, -evBuildSlice, -evIndexAddr, hz25, ez, zc, zl, zt, ze, zd, l6, zzd, List.append_nil, ef, fz0, fc, fa, fk, fi, fq0', k3, c3, a3, i3, c24, a24, k24, i24, bq3, hf, Tryz.f116, E_esc, hw1, hw2, hw3, hw4, hw5, hb, hcA, fq3, fq4, bq2, wq1, wq2, wk, wa, wc, k9, c9, a9, k2, c2, a2, i2, hk24, hI1, hO2, hia2, hcB, hI3, hI4, hO5, hF5]
        · have hlt4 := is_lt e4
          rw [e4] at hI4
          simp only [e4, if_true, th_ok, Nat.add_assoc, Nat.reduceAdd]
          have hcC := hc6 kd [] 0 tn2 (-1)
          have hI7 := ev_rIs (n + 4) l k (p + 4) 93 [] S
          have hF7 := ev_rfail (n + 4) l k (p + 4) 16 S hl
          cases e7 : isB (hereT l) (p + 4) [93]
          · simp only [e7, Bool.false_eq_true, if_false, th_err]
            rw [e7] at hI7
            refine ⟨NZ_err (by decide), Inb_err, ?_⟩
            rw [ansA_err] at hF7
            have hf := fin_ans l (.error (16, p + 4)) S
            rw [ansA_err] at hf ⊢
            simp only [fzL, fEL] at *
            generalize (hereT l (p + 4)).p = pl at *
            generalize p + 5 = P5 at *
            generalize p + 4 = P4 at *
            generalize p + 3 = P3 at *
            generalize p + 2 = P2 at *
            generalize p + 1 = P1 at *
            generalize tkL l = es at *
            generalize zX.cells = zcs at *
            generalize zX.emb = zem at *
            generalize z6 = z at *
            rw [ev_enter (n := n + 4 + 1) (show E.ok 116 = true from rfl) Tryz.func116 (fn := Tryz.f116) rfl (Nat.le_of_ble_eq_true rfl) (by decide +kernel)]
            simp (disch := first | (simp only [List.length_append, List.length_cons, List.length_nil]; omega) | (simp; done) | assumption) [AV.cells?, AV.isCell, -AV.cells?, cq_int, cq_agg, cq_slice, cq_str, -evBuild, -evBuildSlice, -evIndexAddr, hz25, ez, zc, zl, zt, ze, zd, l6, zzd, List.append_nil, ef, fz0, fc, fa, fk, fi, fq0', k3, c3, a3, i3, c24, a24, k24, i24, bq3, hf, Tryz.f116, E_esc, hw1, hw2, hw3, hw4, hw5, hb, hcA, fq3, fq4, bq2, wq1, wq2, wk, wa, wc, k9, c9, a9, k2, c2, a2, i2, hk24, hI1, hO2, hia2, hcB, hI3, hI4, hcC, hI7, hF7]
          · have hlt7 := is_lt e7
            rw [e7] at hI7
            simp only [e7, if_true, th_ok, Nat.add_assoc, Nat.reduceAdd]
            have key : ∀ R : PR X, (NZ R ∧ Inb l R ∧ ev Tryz.prog E (n + 5) 115 [.slice (tkL l) k, .int .i64 ((p + 5 : Nat) : Int), .agg [.int .i64 kd, .str [], .int .i64 0, .int .i64 tn2, .int .i64 (-1), .slice [] .clip], .int .i64 (d : Int)] S = some (.ret (ansA l R), S)) → (NZ R ∧ Inb l R ∧ ev Tryz.prog E (n + 6) 116 [.slice (tkL l) k, .int .i64 (p : Int), .int .i64 kd, .int .i64 (d : Int)] S = some (.ret (ansA l R), S)) := by
              intro R ⟨h1, h2, h3⟩
              refine ⟨h1, h2, ?_⟩
              clear h1 h2
              obtain ⟨x, q, c, a, b, hx⟩ := ansA_ex l R
              have hf := fin_ans l (R) S
              rw [hx] at h3 hf ⊢
              have xc := xcells (x)
              have xl := xlen (x)
              have xt := xtake (x)
              have xe := xemb (x)
              have xd : List.drop 6 (x).cells = [] := List.drop_eq_nil_of_le (by rw [xl]; omega)
              simp only [fzL, fEL] at *
              generalize (x).cells = xcs at *
              generalize (x).emb = xem at *
              generalize p + 5 = P5 at *
              generalize p + 4 = P4 at *
              generalize p + 3 = P3 at *
              generalize p + 2 = P2 at *
              generalize p + 1 = P1 at *
              generalize tkL l = es at *
              generalize zX.cells = zcs at *
              generalize zX.emb = zem at *
              generalize z6 = z at *
              rw [ev_enter (n := n + 5) (show E.ok 116 = true from rfl) Tryz.func116 (fn := Tryz.f116) rfl (Nat.le_of_ble_eq_true rfl) (by decide +kernel)]
              simp (disch := first | (simp only [List.length_append, List.length_cons, List.length_nil]; omega) | (simp; done) | assumption) [AV.cells?, AV.isCell, -AV.cells?, cq_int, cq_agg, cq_slice, cq_str, -evBuild, -evBuildSlice, -evIndexAddr, hz25, ez, zc, zl, zt, ze, zd, l6, zzd, List.append_nil, ef, fz0, fc, fa, fk, fi, fq0', k3, c3, a3, i3, c24, a24, k24, i24, bq3, hf, Tryz.f116, E_esc, hw1, hw2, hw3, hw4, hw5, hb, hcA, fq3, fq4, bq2, wq1, wq2, wk, wa, wc, k9, c9, a9, k2, c2, a2, i2, hk24, hI1, hO2, hia2, hcB, hI3, hI4, hcC, hI7, h3, xc, xl, xt, xe, xd]
            exact key _ (hA tn2 (-1) (p + 5) S (by omega))
    · have eb2 : ((hereT l (p + 1)).k == 2) = false := by simp [e2]
      rw [eb2] at hO2
      simp only [e2, if_false, th_err]
      refine ⟨NZ_err (by decide), Inb_err, ?_⟩
      rw [ansA_err] at hF2
      have hf := fin_ans l (.error (16, p + 1)) S
      rw [ansA_err] at hf ⊢
      simp only [fzL, fEL] at *
      generalize (hereT l (p + 1)).p = pl at *
      generalize (hereT l (p + 1)).k = kk at *
      generalize p + 5 = P5 at *
      generalize p + 4 = P4 at *
      generalize p + 3 = P3 at *
      generalize p + 2 = P2 at *
      generalize p + 1 = P1 at *
      generalize tkL l = es at *
      generalize zX.cells = zcs at *
      generalize zX.emb = zem at *
      generalize z6 = z at *
      rw [ev_enter (n := n + 4 + 1) (show E.ok 116 = true from rfl) Tryz.func116 (fn := Tryz.f116) rfl (Nat.le_of_ble_eq_true rfl) (by decide +kernel)]
      simp (disch := first | (simp only [List.length_append, List.length_cons, List.length_nil]; omega) | (simp; done) | assumption) [AV.cells?, AV.isCell, -AV.cells?, cq_int, cq_agg, cq_slice, cq_str, -evBuild, -evBuildSlice, -evIndexAddr, hz25, ez, zc, zl, zt, ze, zd, l6, zzd, List.append_nil, ef, fz0, fc, fa, fk, fi, fq0', k3, c3, a3, i3, c24, a24, k24, i24, bq3, hf, Tryz.f116, E_esc, hw1, hw2, hw3, hw4, hw5, hb, hcA, fq3, fq4, bq2, wq1, wq2, wk, wa, wc, k9, c9, a9, k2, c2, a2, i2, hk24, hI1, hO2, hF2]
set_option maxHeartbeats 16000000 in
theorem r_since (n d : Nat) (any : Nat → PR X) (hA : ∀ lo hi : Int, RSub l k (n + 5) 124 [(X.mk 24 [] 0 lo hi true []).emb, .int .i64 (d : Int)] (fun p => (needP (hereT l) [40] p).th fun _ r2 => (any r2).th fun x r3 => (needP (hereT l) [44] r3).th fun _ r4 => (any r4).th fun y r5 => (needP (hereT l) [41] r5).th fun _ r6 => .ok (.mk 24 [] 0 lo hi true [x, y], r6))) :
    RSub l k (n + 6) 116 [.int .i64 24, .int .i64 (d : Int)] (sinceP (hereT l) any) := by
  intro p S hp
  have hz25 : zeroQ Tryz.prog 25 = some z6 := by kernel_rfl
  have l6 := z6_len
  have zzd : List.drop 6 z6 = [] := rfl
  have ez : evBuild Tryz.prog 25 [] = some zX.emb := bXz
  have zc := xcells zX
  have zl := xlen zX
  have zt := xtake zX
  have ze := xemb zX
  have zd : List.drop 6 zX.cells = [] := rfl
  have ef := bFz
  have wr : ∀ a : Nat, a ≤ 3000000 → ∀ b : Nat, b ≤ 10 → IntKind.i64.wrap ((a : Int) + (b : Int)) = ((a + b : Nat) : Int) := fun a ha b hb => by rw [wrap64 _ (by omega)]; omega
  have hw0 : IntKind.i64.wrap ((p : Int) + 0) = (p : Int) := by rw [Int.add_zero]; exact wrap64 _ (by omega)
  have hw1 : IntKind.i64.wrap ((p : Int) + 1) = ((p + 1 : Nat) : Int) := wr p (by omega) 1 (by omega)
  have hw2 : IntKind.i64.wrap ((p : Int) + 2) = ((p + 2 : Nat) : Int) := wr p (by omega) 2 (by omega)
  have hw3 : IntKind.i64.wrap ((p : Int) + 3) = ((p + 3 : Nat) : Int) := wr p (by omega) 3 (by omega)
  have hw4 : IntKind.i64.wrap ((p : Int) + 4) = ((p + 4 : Nat) : Int) := wr p (by omega) 4 (by omega)
  have hw5 : IntKind.i64.wrap ((p : Int) + 5) = ((p + 5 : Nat) : Int) := wr p (by omega) 5 (by omega)
  have hb := bX4 24 (-1)
  have hcA := hc6 24 [] 0 0 (-1)
  unfold sinceP spanP needP takeP
  have hI1 := ev_rIs (n + 4) l k p 91 [] S
  have hF1 := ev_rfail (n + 4) l k p 16 S hl
  cases e1 : isB (hereT l) p [91]
  · simp only [e1, Bool.false_eq_true, if_false, th_err]
    rw [e1] at hI1
    refine ⟨NZ_err (by decide), Inb_err, ?_⟩
    rw [ansA_err] at hF1
    have hf := fin_ans l (.error (16, p)) S
    rw [ansA_err] at hf ⊢
    simp only [fzL, fEL] at *
    generalize (hereT l p).p = pl at *
    generalize p + 5 = P5 at *
    generalize p + 4 = P4 at *
    generalize p + 3 = P3 at *
    generalize p + 2 = P2 at *
    generalize p + 1 = P1 at *
    generalize tkL l = es at *
    generalize zX.cells = zcs at *
    generalize zX.emb = zem at *
    generalize z6 = z at *
    rw [ev_enter (n := n + 4 + 1) (show E.ok 116 = true from rfl) Tryz.func116 (fn := Tryz.f116) rfl (Nat.le_of_ble_eq_true rfl) (by decide +kernel)]
    simp (disch := first | (simp only [List.length_append, List.length_cons, List.length_nil]; omega) | (simp; done) | assumption) [AV.cells?, AV.isCell, -AV.cells?, cq_int, cq_agg, cq_slice, cq_str, -evBuild, -evBuildSlice, -evIndexAddr, hz25, ez, zc, zl, zt, ze, zd, l6, zzd, List.append_nil, ef, fz0, fc, fa, fk, fi, fq0', k3, c3, a3, i3, c24, a24, k24, i24, bq3, hf, Tryz.f116, E_esc, hw1, hw2, hw3, hw4, hw5, hb, hcA, fq3, fq4, bq2, wq1, wq2, wk, wa, wc, k9, c9, a9, k2, c2, a2, i2, hI1, hF1]
  · have hlt1 := is_lt e1
    rw [e1] at hI1
    simp only [e1, if_true, th_ok, Nat.add_assoc, Nat.reduceAdd]
    have hO2 := ev_rof (n + 4) l k (p + 1) 2 (by decide) S
    have hF2 := ev_rfail (n + 4) l k (p + 1) 16 S hl
    by_cases e2 : (hereT l (p + 1)).k = 2
    · have eb2 : ((hereT l (p + 1)).k == 2) = true := by simp [e2]
      rw [eb2] at hO2
      simp only [e2, if_true, th_ok, Nat.add_assoc, Nat.reduceAdd]
      have hlt2 : p + 1 < l.length := here_lt (by rw [e2]; decide)
      have hx2 : l[p + 1]? = some l[p + 1] := List.getElem?_eq_getElem hlt2
      have hh2 : hereT l (p + 1) = l[p + 1] := by simp [hereT, hx2]
      have hia2 := iw l k (p + 1) _ hx2
      clear hF2
      rw [hh2] at e2 eb2 ⊢
      clear hh2 eb2 hx2
      generalize l[p + 1] = t2 at *
      obtain ⟨tk2, ts2, tn2, tp2⟩ := t2
      simp only [Tk.cells] at hia2 ⊢
      have hcB := hc6 24 [] 0 tn2 (-1)
      have hI3 := ev_rIs (n + 4) l k (p + 2) 44 [] S
      have hF3 := ev_rfail (n + 4) l k (p + 2) 16 S hl
      cases e3 : isB (hereT l) (p + 2) [44]
      · simp only [e3, Bool.false_eq_true, if_false, th_err]
        rw [e3] at hI3
        refine ⟨NZ_err (by decide), Inb_err, ?_⟩
        rw [ansA_err] at hF3
        have hf := fin_ans l (.error (16, p + 2)) S
        rw [ansA_err] at hf ⊢
        simp only [fzL, fEL] at *
        generalize (hereT l (p + 2)).p = pl at *
        generalize p + 5 = P5 at *
        generalize p + 4 = P4 at *
        generalize p + 3 = P3 at *
        generalize p + 2 = P2 at *
        generalize p + 1 = P1 at *
        generalize tkL l = es at *
        generalize zX.cells = zcs at *
        generalize zX.emb = zem at *
        generalize z6 = z at *
        rw [ev_enter (n := n + 4 + 1) (show E.ok 116 = true from rfl) Tryz.func116 (fn := Tryz.f116) rfl (Nat.le_of_ble_eq_true rfl) (by decide +kernel)]
        simp (disch := first | (simp only [List.length_append, List.length_cons, List.length_nil]; omega) | (simp; done) | assumption) [AV.cells?, AV.isCell, -AV.cells?, cq_int, cq_agg, cq_slice, cq_str, -evBuild, -evBuildSlice, -evIndexAddr, hz25, ez, zc, zl, zt, ze, zd, l6, zzd, List.append_nil, ef, fz0, fc, fa, fk, fi, fq0', k3, c3, a3, i3, c24, a24, k24, i24, bq3, hf, Tryz.f116, E_esc, hw1, hw2, hw3, hw4, hw5, hb, hcA, fq3, fq4, bq2, wq1, wq2, wk, wa, wc, k9, c9, a9, k2, c2, a2, i2, hI1, hO2, hia2, hcB, hI3, hF3]
      · have hlt3 := is_lt e3
        rw [e3] at hI3
        simp only [e3, if_true, th_ok, Nat.add_assoc, Nat.reduceAdd]
        have hI4 := ev_rIs (n + 4) l k (p + 3) 42 [] S
        cases e4 : isB (hereT l) (p + 3) [42]
        · rw [e4] at hI4
          simp only [e4, Bool.false_eq_true, if_false]
          have hO5 := ev_rof (n + 4) l k (p + 3) 2 (by decide) S
          have hF5 := ev_rfail (n + 4) l k (p + 3) 16 S hl
          by_cases e5 : (hereT l (p + 3)).k = 2
          · have eb5 : ((hereT l (p + 3)).k == 2) = true := by simp [e5]
            rw [eb5] at hO5
            simp only [e5, if_true, th_ok, Nat.add_assoc, Nat.reduceAdd]
            have hlt5 : p + 3 < l.length := here_lt (by rw [e5]; decide)
            have hx5 : l[p + 3]? = some l[p + 3] := List.getElem?_eq_getElem hlt5
            have hh5 : hereT l (p + 3) = l[p + 3] := by simp [hereT, hx5]
            have hia5 := iw l k (p + 3) _ hx5
            clear hF5
            rw [hh5] at e5 eb5 ⊢
            clear hh5 eb5 hx5
            generalize l[p + 3] = t5 at *
            obtain ⟨tk5, ts5, tn5, tp5⟩ := t5
            simp only [Tk.cells] at hia5 ⊢
            have hcC := hc6 24 [] 0 tn2 (tn5)
            have hF9 := ev_rfail (n + 4) l k (p + 4) 16 S hl
            by_cases hlt : tn5 < tn2
            · simp only [hlt, if_true, th_err]
              refine ⟨NZ_err (by decide), Inb_err, ?_⟩
              rw [ansA_err] at hF9
              have hf := fin_ans l (.error (16, p + 4)) S
              rw [ansA_err] at hf ⊢
              simp only [fzL, fEL] at *
              generalize (hereT l (p + 4)).p = pl at *
              generalize p + 5 = P5 at *
              generalize p + 4 = P4 at *
              generalize p + 3 = P3 at *
              generalize p + 2 = P2 at *
              generalize p + 1 = P1 at *
              generalize tkL l = es at *
              generalize zX.cells = zcs at *
              generalize zX.emb = zem at *
              generalize z6 = z at *
              rw [ev_enter (n := n + 4 + 1) (show E.ok 116 = true from rfl) Tryz.func116 (fn := Tryz.f116) rfl (Nat.le_of_ble_eq_true rfl) (by decide +kernel)]
              simp (disch := first | (simp only [List.length_append, List.length_cons, List.length_nil]; omega) | (simp; done) | assumption) [AV.cells?, AV.isCell, -AV.cells?, cq_int, cq_agg, cq_slice, cq_str, -evBuild, -evBuildSlice, -evIndexAddr, hz25, ez, zc, zl, zt, ze, zd, l6, zzd, List.append_nil, ef, fz0, fc, fa, fk, fi, fq0', k3, c3, a3, i3, c24, a24, k24, i24, bq3, hf, Tryz.f116, E_esc, hw1, hw2, hw3, hw4, hw5, hb, hcA, fq3, fq4, bq2, wq1, wq2, wk, wa, wc, k9, c9, a9, k2, c2, a2, i2, hI1, hO2, hia2, hcB, hI3, hI4, hO5, hia5, hcC, hlt, hF9]
            · simp only [hlt, if_false]
              have hI6 := ev_rIs (n + 4) l k (p + 4) 93 [] S
              have hF6 := ev_rfail (n + 4) l k (p + 4) 16 S hl
              cases e6 : isB (hereT l) (p + 4) [93]
              · simp only [e6, Bool.false_eq_true, if_false, th_err]
                rw [e6] at hI6
                refine ⟨NZ_err (by decide), Inb_err, ?_⟩
                rw [ansA_err] at hF6
                have hf := fin_ans l (.error (16, p + 4)) S
                rw [ansA_err] at hf ⊢
                simp only [fzL, fEL] at *
                generalize (hereT l (p + 4)).p = pl at *
                generalize p + 5 = P5 at *
                generalize p + 4 = P4 at *
                generalize p + 3 = P3 at *
                generalize p + 2 = P2 at *
                generalize p + 1 = P1 at *
                generalize tkL l = es at *
                generalize zX.cells = zcs at *
                generalize zX.emb = zem at *
                generalize z6 = z at *
                rw [ev_enter (n := n + 4 + 1) (show E.ok 116 = true from rfl) Tryz.func116 (fn := Tryz.f116) rfl (Nat.le_of_ble_eq_true rfl) (by decide +kernel)]
                simp (disch := first | (simp only [List.length_append, List.length_cons, List.length_nil]; omega) | (simp; done) | assumption) [AV.cells?, AV.isCell, -AV.cells?, cq_int, cq_agg, cq_slice, cq_str, -evBuild, -evBuildSlice, -evIndexAddr, hz25, ez, zc, zl, zt, ze, zd, l6, zzd, List.append_nil, ef, fz0, fc, fa, fk, fi, fq0', k3, c3, a3, i3, c24, a24, k24, i24, bq3, hf, Tryz.f116, E_esc, hw1, hw2, hw3, hw4, hw5, hb, hcA, fq3, fq4, bq2, wq1, wq2, wk, wa, wc, k9, c9, a9, k2, c2, a2, i2, hI1, hO2, hia2, hcB, hI3, hI4, hO5, hia5, hcC, hlt, hI6, hF6]
              · have hlt6 := is_lt e6
                rw [e6] at hI6
                simp only [e6, if_true, th_ok, Nat.add_assoc, Nat.reduceAdd]
                have key : ∀ R : PR X, (NZ R ∧ Inb l R ∧ ev Tryz.prog E (n + 5) 124 [.slice (tkL l) k, .int .i64 ((p + 5 : Nat) : Int), .agg [.int .i64 24, .str [], .int .i64 0, .int .i64 tn2, .int .i64 (tn5), .slice [] .clip], .int .i64 (d : Int)] S = some (.ret (ansA l R), S)) → (NZ R ∧ Inb l R ∧ ev Tryz.prog E (n + 6) 116 [.slice (tkL l) k, .int .i64 (p : Int), .int .i64 24, .int .i64 (d : Int)] S = some (.ret (ansA l R), S)) := by
                  intro R ⟨h1, h2, h3⟩
                  refine ⟨h1, h2, ?_⟩
                  clear h1 h2
                  obtain ⟨x, q, c, a, b, hx⟩ := ansA_ex l R
                  have hf := fin_ans l (R) S
                  rw [hx] at h3 hf ⊢
                  have xc := xcells (x)
                  have xl := xlen (x)
                  have xt := xtake (x)
                  have xe := xemb (x)
                  have xd : List.drop 6 (x).cells = [] := List.drop_eq_nil_of_le (by rw [xl]; omega)
                  simp only [fzL, fEL] at *
                  generalize (x).cells = xcs at *
                  generalize (x).emb = xem at *
                  generalize p + 5 = P5 at *
                  generalize p + 4 = P4 at *
                  generalize p + 3 = P3 at *
                  generalize p + 2 = P2 at *
                  generalize p + 1 = P1 at *
                  generalize tkL l = es at *
                  generalize zX.cells = zcs at *
                  generalize zX.emb = zem at *
                  generalize z6 = z at *
                  rw [ev_enter (n := n + 5) (show E.ok 116 = true from rfl) Tryz.func116 (fn := Tryz.f116) rfl (Nat.le_of_ble_eq_true rfl) (by decide +kernel)]
                  simp (disch := first | (simp only [List.length_append, List.length_cons, List.length_nil]; omega) | (simp; done) | assumption) [AV.cells?, AV.isCell, -AV.cells?, cq_int, cq_agg, cq_slice, cq_str, -evBuild, -evBuildSlice, -evIndexAddr, hz25, ez, zc, zl, zt, ze, zd, l6, zzd, List.append_nil, ef, fz0, fc, fa, fk, fi, fq0', k3, c3, a3, i3, c24, a24, k24, i24, bq3, hf, Tryz.f116, E_esc, hw1, hw2, hw3, hw4, hw5, hb, hcA, fq3, fq4, bq2, wq1, wq2, wk, wa, wc, k9, c9, a9, k2, c2, a2, i2, hI1, hO2, hia2, hcB, hI3, hI4, hO5, hia5, hcC, hlt, hI6, h3, xc, xl, xt, xe, xd]
                exact key _ (hA tn2 (tn5) (p + 5) S (by omega))
          · have eb5 : ((hereT l (p + 3)).k == 2) = false := by simp [e5]
            rw [eb5] at hO5
            simp only [e5, if_false, th_err]
            refine ⟨NZ_err (by decide), Inb_err, ?_⟩
            rw [ansA_err] at hF5
            have hf := fin_ans l (.error (16, p + 3)) S
            rw [ansA_err] at hf ⊢
            simp only [fzL, fEL] at *
            generalize (hereT l (p + 3)).p = pl at *
            generalize (hereT l (p + 3)).k = kk at *
            generalize p + 5 = P5 at *
            generalize p + 4 = P4 at *
            generalize p + 3 = P3 at *
            generalize p + 2 = P2 at *
            generalize p + 1 = P1 at *
            generalize tkL l = es at *
            generalize zX.cells = zcs at *
            generalize zX.emb = zem at *
            generalize z6 = z at *
            rw [ev_enter (n := n + 4 + 1) (show E.ok 116 = true from rfl) Tryz.func116 (fn := Tryz.f116) rfl (Nat.le_of_ble_eq_true rfl) (by decide +kernel)]
            simp (disch := first | (simp only [List.length_append, List.length_cons, List.length_nil]; omega) | (simp; done) | assumption) [AV.cells?, AV.isCell, -AV.cells?, cq_int, cq_agg, cq_slice, cq_str, -evBuild, -evBuildSlice, -evIndexAddr, hz25, ez, zc, zl, zt, ze, zd, l6, zzd, List.append_nil, ef, fz0, fc, fa, fk, fi, fq0', k3, c3, a3, i3, c24, a24, k24, i24, bq3, hf, Tryz.f116, E_esc, hw1, hw2, hw3, hw4, hw5, hb, hcA, fq3, fq4, bq2, wq1, wq2, wk, wa, wc, k9, c9, a9, k2, c2, a2, i2, hI1, hO2, hia2, hcB, hI3, hI4, hO5, hF5]
        · have hlt4 := is_lt e4
          rw [e4] at hI4
          simp only [e4, if_true, th_ok, Nat.add_assoc, Nat.reduceAdd]
          have hcC := hc6 24 [] 0 tn2 (-1)
          have hI7 := ev_rIs (n + 4) l k (p + 4) 93 [] S
          have hF7 := ev_rfail (n + 4) l k (p + 4) 16 S hl
          cases e7 : isB (hereT l) (p + 4) [93]
          · simp only [e7, Bool.false_eq_true, if_false, th_err]
            rw [e7] at hI7
            refine ⟨NZ_err (by decide), Inb_err, ?_⟩
            rw [ansA_err] at hF7
            have hf := fin_ans l (.error (16, p + 4)) S
            rw [ansA_err] at hf ⊢
            simp only [fzL, fEL] at *
            generalize (hereT l (p + 4)).p = pl at *
            generalize p + 5 = P5 at *
            generalize p + 4 = P4 at *
            generalize p + 3 = P3 at *
            generalize p + 2 = P2 at *
            generalize p + 1 = P1 at *
            generalize tkL l = es at *
            generalize zX.cells = zcs at *
            generalize zX.emb = zem at *
            generalize z6 = z at *
            rw [ev_enter (n := n + 4 + 1) (show E.ok 116 = true from rfl) Tryz.func116 (fn := Tryz.f116) rfl (Nat.le_of_ble_eq_true rfl) (by decide +kernel)]
            simp (disch := first | (simp only [List.length_append, List.length_cons, List.length_nil]; omega) | (simp; done) | assumption) [AV.cells?, AV.isCell, -AV.cells?, cq_int, cq_agg, cq_slice, cq_str, -evBuild, -evBuildSlice, -evIndexAddr, hz25, ez, zc, zl, zt, ze, zd, l6, zzd, List.append_nil, ef, fz0, fc, fa, fk, fi, fq0', k3, c3, a3, i3, c24, a24, k24, i24, bq3, hf, Tryz.f116, E_esc, hw1, hw2, hw3, hw4, hw5, hb, hcA, fq3, fq4, bq2, wq1, wq2, wk, wa, wc, k9, c9, a9, k2, c2, a2, i2, hI1, hO2, hia2, hcB, hI3, hI4, hcC, hI7, hF7]
          · have hlt7 := is_lt e7
            rw [e7] at hI7
            simp only [e7, if_true, th_ok, Nat.add_assoc, Nat.reduceAdd]
            have key : ∀ R : PR X, (NZ R ∧ Inb l R ∧ ev Tryz.prog E (n + 5) 124 [.slice (tkL l) k, .int .i64 ((p + 5 : Nat) : Int), .agg [.int .i64 24, .str [], .int .i64 0, .int .i64 tn2, .int .i64 (-1), .slice [] .clip], .int .i64 (d : Int)] S = some (.ret (ansA l R), S)) → (NZ R ∧ Inb l R ∧ ev Tryz.prog E (n + 6) 116 [.slice (tkL l) k, .int .i64 (p : Int), .int .i64 24, .int .i64 (d : Int)] S = some (.ret (ansA l R), S)) := by
              intro R ⟨h1, h2, h3⟩
              refine ⟨h1, h2, ?_⟩
              clear h1 h2
              obtain ⟨x, q, c, a, b, hx⟩ := ansA_ex l R
              have hf := fin_ans l (R) S
              rw [hx] at h3 hf ⊢
              have xc := xcells (x)
              have xl := xlen (x)
              have xt := xtake (x)
              have xe := xemb (x)
              have xd : List.drop 6 (x).cells = [] := List.drop_eq_nil_of_le (by rw [xl]; omega)
              simp only [fzL, fEL] at *
              generalize (x).cells = xcs at *
              generalize (x).emb = xem at *
              generalize p + 5 = P5 at *
              generalize p + 4 = P4 at *
              generalize p + 3 = P3 at *
              generalize p + 2 = P2 at *
              generalize p + 1 = P1 at *
              generalize tkL l = es at *
              generalize zX.cells = zcs at *
              generalize zX.emb = zem at *
              generalize z6 = z at *
              rw [ev_enter (n := n + 5) (show E.ok 116 = true from rfl) Tryz.func116 (fn := Tryz.f116) rfl (Nat.le_of_ble_eq_true rfl) (by decide +kernel)]
              simp (disch := first | (simp only [List.length_append, List.length_cons, List.length_nil]; omega) | (simp; done) | assumption) [AV.cells?, AV.isCell, -AV.cells?, cq_int, cq_agg, cq_slice, cq_str, -evBuild, -evBuildSlice, -evIndexAddr, hz25, ez, zc, zl, zt, ze, zd, l6, zzd, List.append_nil, ef, fz0, fc, fa, fk, fi, fq0', k3, c3, a3, i3, c24, a24, k24, i24, bq3, hf, Tryz.f116, E_esc, hw1, hw2, hw3, hw4, hw5, hb, hcA, fq3, fq4, bq2, wq1, wq2, wk, wa, wc, k9, c9, a9, k2, c2, a2, i2, hI1, hO2, hia2, hcB, hI3, hI4, hcC, hI7, h3, xc, xl, xt, xe, xd]
            exact key _ (hA tn2 (-1) (p + 5) S (by omega))
    · have eb2 : ((hereT l (p + 1)).k == 2) = false := by simp [e2]
      rw [eb2] at hO2
      simp only [e2, if_false, th_err]
      refine ⟨NZ_err (by decide), Inb_err, ?_⟩
      rw [ansA_err] at hF2
      have hf := fin_ans l (.error (16, p + 1)) S
      rw [ansA_err] at hf ⊢
      simp only [fzL, fEL] at *
      generalize (hereT l (p + 1)).p = pl at *
      generalize (hereT l (p + 1)).k = kk at *
      generalize p + 5 = P5 at *
      generalize p + 4 = P4 at *
      generalize p + 3 = P3 at *
      generalize p + 2 = P2 at *
      generalize p + 1 = P1 at *
      generalize tkL l = es at *
      generalize zX.cells = zcs at *
      generalize zX.emb = zem at *
      generalize z6 = z at *
      rw [ev_enter (n := n + 4 + 1) (show E.ok 116 = true from rfl) Tryz.func116 (fn := Tryz.f116) rfl (Nat.le_of_ble_eq_true rfl) (by decide +kernel)]
      simp (disch := first | (simp only [List.length_append, List.length_cons, List.length_nil]; omega) | (simp; done) | assumption) [AV.cells?, AV.isCell, -AV.cells?, cq_int, cq_agg, cq_slice, cq_str, -evBuild, -evBuildSlice, -evIndexAddr, hz25, ez, zc, zl, zt, ze, zd, l6, zzd, List.append_nil, ef, fz0, fc, fa, fk, fi, fq0', k3, c3, a3, i3, c24, a24, k24, i24, bq3, hf, Tryz.f116, E_esc, hw1, hw2, hw3, hw4, hw5, hb, hcA, fq3, fq4, bq2, wq1, wq2, wk, wa, wc, k9, c9, a9, k2, c2, a2, i2, hI1, hO2, hF2]
end
end Go.Proofs.YtemggoaefohliaaGreatDoor.RP
/- The reference's parser: named, evaluated (printed by genrp.py). No condition. -/
namespace Go.Proofs.YtemggoaefohliaaGreatDoor.RP
set_option linter.unusedVariables false
set_option linter.unusedSimpArgs false
open Go AE EX PT NF LX PS
set_option maxRecDepth 100000
def namedQ (h : Nat → Tk) (any : Nat → PR X) (p : Nat) : PR X :=
  if isB h p [115] = true then attrP h 5 (p + 1)
  else if isB h p [111] = true then attrP h 6 (p + 1)
  else if isB h p [97, 99, 116] = true then actP h (p + 1)
  else if isB h p [116, 105, 109, 101, 115] = true then timesP h (p + 1)
  else if isB h p [108, 101, 110] = true then (argP h any (p + 1)).th fun x r => .ok (oneX 12 x, r)
  else if isB h p [112, 114, 101, 118] = true then (argP h any (p + 1)).th fun x r => .ok (oneX 25 x, r)
  else timedP h any p
section
variable {l : List Tk} {k : Tok} (hl : l.length ≤ 2000000)
include hl
set_option maxHeartbeats 16000000 in
theorem r_named (n d : Nat) (hd : d ≤ 40) (any : Nat → PR X) (hL : ∀ m, n ≤ m → RSub l k m 28 [.int .i64 0, .int .i64 ((d + 1 : Nat) : Int)] any) :
    RSub l k (n + 7) 93 [.int .i64 (d : Int)] (namedQ (hereT l) any) := by
  intro p S hp
  have hz25 : zeroQ Tryz.prog 25 = some z6 := by kernel_rfl
  have l6 := z6_len
  have zzd : List.drop 6 z6 = [] := rfl
  have ez : evBuild Tryz.prog 25 [] = some zX.emb := bXz
  have zc := xcells zX
  have zl := xlen zX
  have zt := xtake zX
  have ze := xemb zX
  have zd : List.drop 6 zX.cells = [] := rfl
  have ef := bFz
  have wr : ∀ a : Nat, a ≤ 3000000 → ∀ b : Nat, b ≤ 10 → IntKind.i64.wrap ((a : Int) + (b : Int)) = ((a + b : Nat) : Int) := fun a ha b hb => by rw [wrap64 _ (by omega)]; omega
  have hw1 : IntKind.i64.wrap ((p : Int) + 1) = ((p + 1 : Nat) : Int) := wr p (by omega) 1 (by omega)
  have hAp := fun kd lo hi => r_applied (n + 1) d hd kd lo hi any (r_group hl (n + 1) d hd any (hL _ (by omega)))
  unfold namedQ timedP
  have hI1 := ev_rIs (n + 5) l k p 115 [] S
  cases e1 : isB (hereT l) p [115]
  · rw [e1] at hI1
    simp only [e1, Bool.false_eq_true, if_false]
    have hI2 := ev_rIs (n + 5) l k p 111 [] S
    cases e2 : isB (hereT l) p [111]
    · rw [e2] at hI2
      simp only [e2, Bool.false_eq_true, if_false]
      have hI3 := ev_rIs (n + 5) l k p 97 [99, 116] S
      cases e3 : isB (hereT l) p [97, 99, 116]
      · rw [e3] at hI3
        simp only [e3, Bool.false_eq_true, if_false]
        have hI4 := ev_rIs (n + 5) l k p 116 [105, 109, 101, 115] S
        cases e4 : isB (hereT l) p [116, 105, 109, 101, 115]
        · rw [e4] at hI4
          simp only [e4, Bool.false_eq_true, if_false]
          have hI5 := ev_rIs (n + 5) l k p 108 [101, 110] S
          cases e5 : isB (hereT l) p [108, 101, 110]
          · rw [e5] at hI5
            simp only [e5, Bool.false_eq_true, if_false]
            have hI6 := ev_rIs (n + 5) l k p 112 [114, 101, 118] S
            cases e6 : isB (hereT l) p [112, 114, 101, 118]
            · rw [e6] at hI6
              simp only [e6, Bool.false_eq_true, if_false]
              have hI7 := ev_rIs (n + 5) l k p 111 [110, 99, 101] S
              cases e7 : isB (hereT l) p [111, 110, 99, 101]
              · rw [e7] at hI7
                simp only [e7, Bool.false_eq_true, if_false]
                have hI8 := ev_rIs (n + 5) l k p 104 [105, 115, 116] S
                cases e8 : isB (hereT l) p [104, 105, 115, 116]
                · rw [e8] at hI8
                  simp only [e8, Bool.false_eq_true, if_false]
                  have hI9 := ev_rIs (n + 5) l k p 115 [105, 110, 99, 101] S
                  cases e9 : isB (hereT l) p [115, 105, 110, 99, 101]
                  · rw [e9] at hI9
                    simp only [e9, Bool.false_eq_true, if_false]
                    have hF := ev_rfail (n + 5) l k p 16 S hl
                    refine ⟨NZ_err (by decide), Inb_err, ?_⟩
                    rw [ansA_err] at hF
                    have hf := fin_ans l (.error (16, p)) S
                    rw [ansA_err] at hf ⊢
                    simp only [fzL, fEL] at *
                    generalize (hereT l p).p = pl at *
                    generalize p + 1 = P1 at *
                    generalize tkL l = es at *
                    generalize zX.cells = zcs at *
                    generalize zX.emb = zem at *
                    generalize z6 = z at *
                    rw [ev_enter (n := n + 5 + 1) (show E.ok 93 = true from rfl) Tryz.func93 (fn := Tryz.f93) rfl (Nat.le_of_ble_eq_true rfl) (by decide +kernel)]
                    simp (disch := first | (simp only [List.length_append, List.length_cons, List.length_nil]; omega) | (simp; done) | assumption) [AV.cells?, AV.isCell, -AV.cells?, cq_int, cq_agg, cq_slice, cq_str, -evBuild, -evBuildSlice, -evIndexAddr, hz25, ez, zc, zl, zt, ze, zd, l6, zzd, List.append_nil, ef, fz0, fc, fa, fk, fi, fq0', k3, c3, a3, i3, c24, a24, k24, i24, bq3, hf, Tryz.f93, E_esc, hw1, hI1, hI2, hI3, hI4, hI5, hI6, hI7, hI8, hI9, hF]
                  · have hlt9 := is_lt e9
                    rw [e9] at hI9
                    simp only [e9, if_true, th_ok, Nat.add_assoc, Nat.reduceAdd]
                    have key : ∀ R : PR X, (NZ R ∧ Inb l R ∧ ev Tryz.prog E (n + 6) 116 [.slice (tkL l) k, .int .i64 ((p + 1 : Nat) : Int), .int .i64 24, .int .i64 (d : Int)] S = some (.ret (ansA l R), S)) → (NZ R ∧ Inb l R ∧ ev Tryz.prog E (n + 6 + 1) 93 [.slice (tkL l) k, .int .i64 (p : Int), .int .i64 (d : Int)] S = some (.ret (ansA l R), S)) := by
                      intro R ⟨h1, h2, h3⟩
                      refine ⟨h1, h2, ?_⟩
                      clear h1 h2
                      obtain ⟨x, q, c, a, b, hx⟩ := ansA_ex l R
                      have hf := fin_ans l (R) S
                      rw [hx] at h3 hf ⊢
                      have xc := xcells (x)
                      have xl := xlen (x)
                      have xt := xtake (x)
                      have xe := xemb (x)
                      have xd : List.drop 6 (x).cells = [] := List.drop_eq_nil_of_le (by rw [xl]; omega)
                      simp only [fzL, fEL] at *
                      generalize (x).cells = xcs at *
                      generalize (x).emb = xem at *
                      generalize p + 1 = P1 at *
                      generalize tkL l = es at *
                      generalize zX.cells = zcs at *
                      generalize zX.emb = zem at *
                      generalize z6 = z at *
                      rw [ev_enter (n := n + 6) (show E.ok 93 = true from rfl) Tryz.func93 (fn := Tryz.f93) rfl (Nat.le_of_ble_eq_true rfl) (by decide +kernel)]
                      simp (disch := first | (simp only [List.length_append, List.length_cons, List.length_nil]; omega) | (simp; done) | assumption) [AV.cells?, AV.isCell, -AV.cells?, cq_int, cq_agg, cq_slice, cq_str, -evBuild, -evBuildSlice, -evIndexAddr, hz25, ez, zc, zl, zt, ze, zd, l6, zzd, List.append_nil, ef, fz0, fc, fa, fk, fi, fq0', k3, c3, a3, i3, c24, a24, k24, i24, bq3, hf, Tryz.f93, E_esc, hw1, hI1, hI2, hI3, hI4, hI5, hI6, hI7, hI8, hI9, h3, xc, xl, xt, xe, xd]
                    exact key _ (r_since hl n d any (fun lo hi => r_both hl (n + 1) d hd 24 lo hi any (hL _ (by omega))) (p + 1) S (by omega))
                · have hlt8 := is_lt e8
                  rw [e8] at hI8
                  simp only [e8, if_true, th_ok, Nat.add_assoc, Nat.reduceAdd]
                  have key : ∀ R : PR X, (NZ R ∧ Inb l R ∧ ev Tryz.prog E (n + 6) 116 [.slice (tkL l) k, .int .i64 ((p + 1 : Nat) : Int), .int .i64 23, .int .i64 (d : Int)] S = some (.ret (ansA l R), S)) → (NZ R ∧ Inb l R ∧ ev Tryz.prog E (n + 6 + 1) 93 [.slice (tkL l) k, .int .i64 (p : Int), .int .i64 (d : Int)] S = some (.ret (ansA l R), S)) := by
                    intro R ⟨h1, h2, h3⟩
                    refine ⟨h1, h2, ?_⟩
                    clear h1 h2
                    obtain ⟨x, q, c, a, b, hx⟩ := ansA_ex l R
                    have hf := fin_ans l (R) S
                    rw [hx] at h3 hf ⊢
                    have xc := xcells (x)
                    have xl := xlen (x)
                    have xt := xtake (x)
                    have xe := xemb (x)
                    have xd : List.drop 6 (x).cells = [] := List.drop_eq_nil_of_le (by rw [xl]; omega)
                    simp only [fzL, fEL] at *
                    generalize (x).cells = xcs at *
                    generalize (x).emb = xem at *
                    generalize p + 1 = P1 at *
                    generalize tkL l = es at *
                    generalize zX.cells = zcs at *
                    generalize zX.emb = zem at *
                    generalize z6 = z at *
                    rw [ev_enter (n := n + 6) (show E.ok 93 = true from rfl) Tryz.func93 (fn := Tryz.f93) rfl (Nat.le_of_ble_eq_true rfl) (by decide +kernel)]
                    simp (disch := first | (simp only [List.length_append, List.length_cons, List.length_nil]; omega) | (simp; done) | assumption) [AV.cells?, AV.isCell, -AV.cells?, cq_int, cq_agg, cq_slice, cq_str, -evBuild, -evBuildSlice, -evIndexAddr, hz25, ez, zc, zl, zt, ze, zd, l6, zzd, List.append_nil, ef, fz0, fc, fa, fk, fi, fq0', k3, c3, a3, i3, c24, a24, k24, i24, bq3, hf, Tryz.f93, E_esc, hw1, hI1, hI2, hI3, hI4, hI5, hI6, hI7, hI8, h3, xc, xl, xt, xe, xd]
                  exact key _ (r_look hl n d 23 (.inr rfl) any (fun lo hi => r_applied n d hd 23 lo hi any (r_group hl n d hd any (hL _ (by omega)))) (p + 1) S (by omega))
              · have hlt7 := is_lt e7
                rw [e7] at hI7
                simp only [e7, if_true, th_ok, Nat.add_assoc, Nat.reduceAdd]
                have key : ∀ R : PR X, (NZ R ∧ Inb l R ∧ ev Tryz.prog E (n + 6) 116 [.slice (tkL l) k, .int .i64 ((p + 1 : Nat) : Int), .int .i64 22, .int .i64 (d : Int)] S = some (.ret (ansA l R), S)) → (NZ R ∧ Inb l R ∧ ev Tryz.prog E (n + 6 + 1) 93 [.slice (tkL l) k, .int .i64 (p : Int), .int .i64 (d : Int)] S = some (.ret (ansA l R), S)) := by
                  intro R ⟨h1, h2, h3⟩
                  refine ⟨h1, h2, ?_⟩
                  clear h1 h2
                  obtain ⟨x, q, c, a, b, hx⟩ := ansA_ex l R
                  have hf := fin_ans l (R) S
                  rw [hx] at h3 hf ⊢
                  have xc := xcells (x)
                  have xl := xlen (x)
                  have xt := xtake (x)
                  have xe := xemb (x)
                  have xd : List.drop 6 (x).cells = [] := List.drop_eq_nil_of_le (by rw [xl]; omega)
                  simp only [fzL, fEL] at *
                  generalize (x).cells = xcs at *
                  generalize (x).emb = xem at *
                  generalize p + 1 = P1 at *
                  generalize tkL l = es at *
                  generalize zX.cells = zcs at *
                  generalize zX.emb = zem at *
                  generalize z6 = z at *
                  rw [ev_enter (n := n + 6) (show E.ok 93 = true from rfl) Tryz.func93 (fn := Tryz.f93) rfl (Nat.le_of_ble_eq_true rfl) (by decide +kernel)]
                  simp (disch := first | (simp only [List.length_append, List.length_cons, List.length_nil]; omega) | (simp; done) | assumption) [AV.cells?, AV.isCell, -AV.cells?, cq_int, cq_agg, cq_slice, cq_str, -evBuild, -evBuildSlice, -evIndexAddr, hz25, ez, zc, zl, zt, ze, zd, l6, zzd, List.append_nil, ef, fz0, fc, fa, fk, fi, fq0', k3, c3, a3, i3, c24, a24, k24, i24, bq3, hf, Tryz.f93, E_esc, hw1, hI1, hI2, hI3, hI4, hI5, hI6, hI7, h3, xc, xl, xt, xe, xd]
                exact key _ (r_look hl n d 22 (.inl rfl) any (fun lo hi => r_applied n d hd 22 lo hi any (r_group hl n d hd any (hL _ (by omega)))) (p + 1) S (by omega))
            · have hlt6 := is_lt e6
              rw [e6] at hI6
              simp only [e6, if_true, th_ok, Nat.add_assoc, Nat.reduceAdd]
              have key : ∀ R : PR X, (NZ R ∧ Inb l R ∧ ev Tryz.prog E (n + 6) 115 [.slice (tkL l) k, .int .i64 ((p + 1 : Nat) : Int), (leafX 25 [] 0 0).emb, .int .i64 (d : Int)] S = some (.ret (ansA l R), S)) → (NZ R ∧ Inb l R ∧ ev Tryz.prog E (n + 6 + 1) 93 [.slice (tkL l) k, .int .i64 (p : Int), .int .i64 (d : Int)] S = some (.ret (ansA l R), S)) := by
                intro R ⟨h1, h2, h3⟩
                refine ⟨h1, h2, ?_⟩
                clear h1 h2
                obtain ⟨x, q, c, a, b, hx⟩ := ansA_ex l R
                have hf := fin_ans l (R) S
                rw [hx] at h3 hf ⊢
                have xc := xcells (x)
                have xl := xlen (x)
                have xt := xtake (x)
                have xe := xemb (x)
                have xd : List.drop 6 (x).cells = [] := List.drop_eq_nil_of_le (by rw [xl]; omega)
                have hb : evBuild Tryz.prog 25 [(0, .int .i64 25)] = some (leafX 25 [] 0 0).emb := bX0 25
                have yc := xcells (leafX 25 [] 0 0)
                have yl := xlen (leafX 25 [] 0 0)
                have yt := xtake (leafX 25 [] 0 0)
                have ye := xemb (leafX 25 [] 0 0)
                have yd : List.drop 6 (leafX 25 [] 0 0).cells = [] := List.drop_eq_nil_of_le (by rw [yl]; omega)
                simp only [fzL, fEL] at *
                generalize (x).cells = xcs at *
                generalize (x).emb = xem at *
                generalize (leafX 25 [] 0 0).cells = ycs at *
                generalize (leafX 25 [] 0 0).emb = yem at *
                generalize p + 1 = P1 at *
                generalize tkL l = es at *
                generalize zX.cells = zcs at *
                generalize zX.emb = zem at *
                generalize z6 = z at *
                rw [ev_enter (n := n + 6) (show E.ok 93 = true from rfl) Tryz.func93 (fn := Tryz.f93) rfl (Nat.le_of_ble_eq_true rfl) (by decide +kernel)]
                simp (disch := first | (simp only [List.length_append, List.length_cons, List.length_nil]; omega) | (simp; done) | assumption) [AV.cells?, AV.isCell, -AV.cells?, cq_int, cq_agg, cq_slice, cq_str, -evBuild, -evBuildSlice, -evIndexAddr, hz25, ez, zc, zl, zt, ze, zd, l6, zzd, List.append_nil, ef, fz0, fc, fa, fk, fi, fq0', k3, c3, a3, i3, c24, a24, k24, i24, bq3, hf, Tryz.f93, E_esc, hw1, hI1, hI2, hI3, hI4, hI5, hI6, hb, yc, yl, yt, ye, yd, h3, xc, xl, xt, xe, xd]
              exact key _ (hAp 25 0 0 (p + 1) S (by omega))
          · have hlt5 := is_lt e5
            rw [e5] at hI5
            simp only [e5, if_true, th_ok, Nat.add_assoc, Nat.reduceAdd]
            have key : ∀ R : PR X, (NZ R ∧ Inb l R ∧ ev Tryz.prog E (n + 6) 115 [.slice (tkL l) k, .int .i64 ((p + 1 : Nat) : Int), (leafX 12 [] 0 0).emb, .int .i64 (d : Int)] S = some (.ret (ansA l R), S)) → (NZ R ∧ Inb l R ∧ ev Tryz.prog E (n + 6 + 1) 93 [.slice (tkL l) k, .int .i64 (p : Int), .int .i64 (d : Int)] S = some (.ret (ansA l R), S)) := by
              intro R ⟨h1, h2, h3⟩
              refine ⟨h1, h2, ?_⟩
              clear h1 h2
              obtain ⟨x, q, c, a, b, hx⟩ := ansA_ex l R
              have hf := fin_ans l (R) S
              rw [hx] at h3 hf ⊢
              have xc := xcells (x)
              have xl := xlen (x)
              have xt := xtake (x)
              have xe := xemb (x)
              have xd : List.drop 6 (x).cells = [] := List.drop_eq_nil_of_le (by rw [xl]; omega)
              have hb : evBuild Tryz.prog 25 [(0, .int .i64 12)] = some (leafX 12 [] 0 0).emb := bX0 12
              have yc := xcells (leafX 12 [] 0 0)
              have yl := xlen (leafX 12 [] 0 0)
              have yt := xtake (leafX 12 [] 0 0)
              have ye := xemb (leafX 12 [] 0 0)
              have yd : List.drop 6 (leafX 12 [] 0 0).cells = [] := List.drop_eq_nil_of_le (by rw [yl]; omega)
              simp only [fzL, fEL] at *
              generalize (x).cells = xcs at *
              generalize (x).emb = xem at *
              generalize (leafX 12 [] 0 0).cells = ycs at *
              generalize (leafX 12 [] 0 0).emb = yem at *
              generalize p + 1 = P1 at *
              generalize tkL l = es at *
              generalize zX.cells = zcs at *
              generalize zX.emb = zem at *
              generalize z6 = z at *
              rw [ev_enter (n := n + 6) (show E.ok 93 = true from rfl) Tryz.func93 (fn := Tryz.f93) rfl (Nat.le_of_ble_eq_true rfl) (by decide +kernel)]
              simp (disch := first | (simp only [List.length_append, List.length_cons, List.length_nil]; omega) | (simp; done) | assumption) [AV.cells?, AV.isCell, -AV.cells?, cq_int, cq_agg, cq_slice, cq_str, -evBuild, -evBuildSlice, -evIndexAddr, hz25, ez, zc, zl, zt, ze, zd, l6, zzd, List.append_nil, ef, fz0, fc, fa, fk, fi, fq0', k3, c3, a3, i3, c24, a24, k24, i24, bq3, hf, Tryz.f93, E_esc, hw1, hI1, hI2, hI3, hI4, hI5, hb, yc, yl, yt, ye, yd, h3, xc, xl, xt, xe, xd]
            exact key _ (hAp 12 0 0 (p + 1) S (by omega))
        · have hlt4 := is_lt e4
          rw [e4] at hI4
          simp only [e4, if_true, th_ok, Nat.add_assoc, Nat.reduceAdd]
          have key : ∀ R : PR X, (NZ R ∧ Inb l R ∧ ev Tryz.prog E (n + 6) 114 [.slice (tkL l) k, .int .i64 ((p + 1 : Nat) : Int), .bool true] S = some (.ret (ansA l R), S)) → (NZ R ∧ Inb l R ∧ ev Tryz.prog E (n + 6 + 1) 93 [.slice (tkL l) k, .int .i64 (p : Int), .int .i64 (d : Int)] S = some (.ret (ansA l R), S)) := by
            intro R ⟨h1, h2, h3⟩
            refine ⟨h1, h2, ?_⟩
            clear h1 h2
            obtain ⟨x, q, c, a, b, hx⟩ := ansA_ex l R
            have hf := fin_ans l (R) S
            rw [hx] at h3 hf ⊢
            have xc := xcells (x)
            have xl := xlen (x)
            have xt := xtake (x)
            have xe := xemb (x)
            have xd : List.drop 6 (x).cells = [] := List.drop_eq_nil_of_le (by rw [xl]; omega)
            simp only [fzL, fEL] at *
            generalize (x).cells = xcs at *
            generalize (x).emb = xem at *
            generalize p + 1 = P1 at *
            generalize tkL l = es at *
            generalize zX.cells = zcs at *
            generalize zX.emb = zem at *
            generalize z6 = z at *
            rw [ev_enter (n := n + 6) (show E.ok 93 = true from rfl) Tryz.func93 (fn := Tryz.f93) rfl (Nat.le_of_ble_eq_true rfl) (by decide +kernel)]
            simp (disch := first | (simp only [List.length_append, List.length_cons, List.length_nil]; omega) | (simp; done) | assumption) [AV.cells?, AV.isCell, -AV.cells?, cq_int, cq_agg, cq_slice, cq_str, -evBuild, -evBuildSlice, -evIndexAddr, hz25, ez, zc, zl, zt, ze, zd, l6, zzd, List.append_nil, ef, fz0, fc, fa, fk, fi, fq0', k3, c3, a3, i3, c24, a24, k24, i24, bq3, hf, Tryz.f93, E_esc, hw1, hI1, hI2, hI3, hI4, h3, xc, xl, xt, xe, xd]
          exact key _ (r_times hl (n + 2) (p + 1) S (by omega))
      · have hlt3 := is_lt e3
        rw [e3] at hI3
        simp only [e3, if_true, th_ok, Nat.add_assoc, Nat.reduceAdd]
        have key : ∀ R : PR X, (NZ R ∧ Inb l R ∧ ev Tryz.prog E (n + 6) 114 [.slice (tkL l) k, .int .i64 ((p + 1 : Nat) : Int), .bool false] S = some (.ret (ansA l R), S)) → (NZ R ∧ Inb l R ∧ ev Tryz.prog E (n + 6 + 1) 93 [.slice (tkL l) k, .int .i64 (p : Int), .int .i64 (d : Int)] S = some (.ret (ansA l R), S)) := by
          intro R ⟨h1, h2, h3⟩
          refine ⟨h1, h2, ?_⟩
          clear h1 h2
          obtain ⟨x, q, c, a, b, hx⟩ := ansA_ex l R
          have hf := fin_ans l (R) S
          rw [hx] at h3 hf ⊢
          have xc := xcells (x)
          have xl := xlen (x)
          have xt := xtake (x)
          have xe := xemb (x)
          have xd : List.drop 6 (x).cells = [] := List.drop_eq_nil_of_le (by rw [xl]; omega)
          simp only [fzL, fEL] at *
          generalize (x).cells = xcs at *
          generalize (x).emb = xem at *
          generalize p + 1 = P1 at *
          generalize tkL l = es at *
          generalize zX.cells = zcs at *
          generalize zX.emb = zem at *
          generalize z6 = z at *
          rw [ev_enter (n := n + 6) (show E.ok 93 = true from rfl) Tryz.func93 (fn := Tryz.f93) rfl (Nat.le_of_ble_eq_true rfl) (by decide +kernel)]
          simp (disch := first | (simp only [List.length_append, List.length_cons, List.length_nil]; omega) | (simp; done) | assumption) [AV.cells?, AV.isCell, -AV.cells?, cq_int, cq_agg, cq_slice, cq_str, -evBuild, -evBuildSlice, -evIndexAddr, hz25, ez, zc, zl, zt, ze, zd, l6, zzd, List.append_nil, ef, fz0, fc, fa, fk, fi, fq0', k3, c3, a3, i3, c24, a24, k24, i24, bq3, hf, Tryz.f93, E_esc, hw1, hI1, hI2, hI3, h3, xc, xl, xt, xe, xd]
        exact key _ (r_act hl (n + 2) (p + 1) S (by omega))
    · have hlt2 := is_lt e2
      rw [e2] at hI2
      simp only [e2, if_true, th_ok, Nat.add_assoc, Nat.reduceAdd]
      have key : ∀ R : PR X, (NZ R ∧ Inb l R ∧ ev Tryz.prog E (n + 6) 113 [.slice (tkL l) k, .int .i64 ((p + 1 : Nat) : Int), .int .i64 6] S = some (.ret (ansA l R), S)) → (NZ R ∧ Inb l R ∧ ev Tryz.prog E (n + 6 + 1) 93 [.slice (tkL l) k, .int .i64 (p : Int), .int .i64 (d : Int)] S = some (.ret (ansA l R), S)) := by
        intro R ⟨h1, h2, h3⟩
        refine ⟨h1, h2, ?_⟩
        clear h1 h2
        obtain ⟨x, q, c, a, b, hx⟩ := ansA_ex l R
        have hf := fin_ans l (R) S
        rw [hx] at h3 hf ⊢
        have xc := xcells (x)
        have xl := xlen (x)
        have xt := xtake (x)
        have xe := xemb (x)
        have xd : List.drop 6 (x).cells = [] := List.drop_eq_nil_of_le (by rw [xl]; omega)
        simp only [fzL, fEL] at *
        generalize (x).cells = xcs at *
        generalize (x).emb = xem at *
        generalize p + 1 = P1 at *
        generalize tkL l = es at *
        generalize zX.cells = zcs at *
        generalize zX.emb = zem at *
        generalize z6 = z at *
        rw [ev_enter (n := n + 6) (show E.ok 93 = true from rfl) Tryz.func93 (fn := Tryz.f93) rfl (Nat.le_of_ble_eq_true rfl) (by decide +kernel)]
        simp (disch := first | (simp only [List.length_append, List.length_cons, List.length_nil]; omega) | (simp; done) | assumption) [AV.cells?, AV.isCell, -AV.cells?, cq_int, cq_agg, cq_slice, cq_str, -evBuild, -evBuildSlice, -evIndexAddr, hz25, ez, zc, zl, zt, ze, zd, l6, zzd, List.append_nil, ef, fz0, fc, fa, fk, fi, fq0', k3, c3, a3, i3, c24, a24, k24, i24, bq3, hf, Tryz.f93, E_esc, hw1, hI1, hI2, h3, xc, xl, xt, xe, xd]
      exact key _ (r_attr hl (n + 2) 6 (p + 1) S (by omega))
  · have hlt1 := is_lt e1
    rw [e1] at hI1
    simp only [e1, if_true, th_ok, Nat.add_assoc, Nat.reduceAdd]
    have key : ∀ R : PR X, (NZ R ∧ Inb l R ∧ ev Tryz.prog E (n + 6) 113 [.slice (tkL l) k, .int .i64 ((p + 1 : Nat) : Int), .int .i64 5] S = some (.ret (ansA l R), S)) → (NZ R ∧ Inb l R ∧ ev Tryz.prog E (n + 6 + 1) 93 [.slice (tkL l) k, .int .i64 (p : Int), .int .i64 (d : Int)] S = some (.ret (ansA l R), S)) := by
      intro R ⟨h1, h2, h3⟩
      refine ⟨h1, h2, ?_⟩
      clear h1 h2
      obtain ⟨x, q, c, a, b, hx⟩ := ansA_ex l R
      have hf := fin_ans l (R) S
      rw [hx] at h3 hf ⊢
      have xc := xcells (x)
      have xl := xlen (x)
      have xt := xtake (x)
      have xe := xemb (x)
      have xd : List.drop 6 (x).cells = [] := List.drop_eq_nil_of_le (by rw [xl]; omega)
      simp only [fzL, fEL] at *
      generalize (x).cells = xcs at *
      generalize (x).emb = xem at *
      generalize p + 1 = P1 at *
      generalize tkL l = es at *
      generalize zX.cells = zcs at *
      generalize zX.emb = zem at *
      generalize z6 = z at *
      rw [ev_enter (n := n + 6) (show E.ok 93 = true from rfl) Tryz.func93 (fn := Tryz.f93) rfl (Nat.le_of_ble_eq_true rfl) (by decide +kernel)]
      simp (disch := first | (simp only [List.length_append, List.length_cons, List.length_nil]; omega) | (simp; done) | assumption) [AV.cells?, AV.isCell, -AV.cells?, cq_int, cq_agg, cq_slice, cq_str, -evBuild, -evBuildSlice, -evIndexAddr, hz25, ez, zc, zl, zt, ze, zd, l6, zzd, List.append_nil, ef, fz0, fc, fa, fk, fi, fq0', k3, c3, a3, i3, c24, a24, k24, i24, bq3, hf, Tryz.f93, E_esc, hw1, hI1, h3, xc, xl, xt, xe, xd]
    exact key _ (r_attr hl (n + 2) 5 (p + 1) S (by omega))
end
end Go.Proofs.YtemggoaefohliaaGreatDoor.RP
/- The reference's parser: one, evaluated (printed by genrp.py). No condition. -/
namespace Go.Proofs.YtemggoaefohliaaGreatDoor.RP
set_option linter.unusedVariables false
set_option linter.unusedSimpArgs false
open Go AE EX PT NF LX PS
set_option maxRecDepth 100000
def oneQ (h : Nat → Tk) (F : Nat) (one any : Nat → PR X) (p : Nat) : PR X :=
  if (h p).k = 2 then .ok (leafX 1 [] (h p).n 0, p + 1)
  else if (h p).k = 3 then .ok (leafX 3 (h p).s 0 0, p + 1)
  else if isB h p [116, 114, 117, 101] = true then .ok (leafX 2 [] 1 0, p + 1)
  else if isB h p [102, 97, 108, 115, 101] = true then .ok (leafX 2 [] 0 0, p + 1)
  else if isB h p [110, 111, 119] = true then .ok (leafX 7 [] 0 0, p + 1)
  else if isB h p [123] = true then setP h F (p + 1)
  else if isB h p [40] = true then argP h any p
  else if isB h p [45] = true then (one (p + 1)).th fun x r => .ok (oneX 11 x, r)
  else if isB h p [110, 111, 116] = true then (one (p + 1)).th fun x r => .ok (oneX 18 x, r)
  else namedQ h any p
section
variable {l : List Tk} {k : Tok} (hl : l.length ≤ 2000000)
include hl
set_option maxHeartbeats 16000000 in
theorem r_one (n d F : Nat) (hd : d < 32) (one any : Nat → PR X) (hS : ∀ m, n ≤ m → RSub l k m 90 [] (setP (hereT l) F)) (hO : ∀ m, n ≤ m → RSub l k m 54 [.int .i64 ((d + 1 : Nat) : Int)] one)
    (hL : ∀ m, n ≤ m → RSub l k m 28 [.int .i64 0, .int .i64 ((d + 1 : Nat) : Int)] any) :
    RSub l k (n + 9) 54 [.int .i64 (d : Int)] (oneQ (hereT l) F one any) := by
  intro p S hp
  have hz25 : zeroQ Tryz.prog 25 = some z6 := by kernel_rfl
  have l6 := z6_len
  have zzd : List.drop 6 z6 = [] := rfl
  have ez : evBuild Tryz.prog 25 [] = some zX.emb := bXz
  have zc := xcells zX
  have zl := xlen zX
  have zt := xtake zX
  have ze := xemb zX
  have zd : List.drop 6 zX.cells = [] := rfl
  have ef := bFz
  have wr : ∀ a : Nat, a ≤ 3000000 → ∀ b : Nat, b ≤ 10 → IntKind.i64.wrap ((a : Int) + (b : Int)) = ((a + b : Nat) : Int) := fun a ha b hb => by rw [wrap64 _ (by omega)]; omega
  have hw1 : IntKind.i64.wrap ((p : Int) + 1) = ((p + 1 : Nat) : Int) := wr p (by omega) 1 (by omega)
  have hd32 : ¬ (32 : Int) ≤ (d : Int) := by omega
  replace hd : d ≤ 40 := by omega
  unfold oneQ
  have hO1 := ev_rof (n + 7) l k p 2 (by decide) S
  by_cases e1 : (hereT l p).k = 2
  · have eb1 : ((hereT l p).k == 2) = true := by simp [e1]
    rw [eb1] at hO1
    simp only [e1, if_true]
    have hlt1 : p < l.length := here_lt (by rw [e1]; decide)
    have hx1 : l[p]? = some l[p] := List.getElem?_eq_getElem hlt1
    have hh1 : hereT l p = l[p] := by simp [hereT, hx1]
    have hia1 := iw l k p _ hx1
    rw [hh1] at *
    clear hh1 eb1 hx1
    generalize l[p] = t1 at *
    obtain ⟨tk1, ts1, tn1, tp1⟩ := t1
    simp only [Tk.cells] at hia1 ⊢
    clear e1
    have hb : evBuild Tryz.prog 25 [(0, .int .i64 1), (2, .int .i64 tn1)] = some (leafX 1 [] tn1 0).emb := bX2 1 tn1
    refine ⟨NZ_ok, Inb_ok (by omega), ?_⟩
    have hf := fin_ans l (.ok (leafX 1 [] tn1 0, p + 1)) S
    rw [ansA_ok] at hf ⊢
    have yc := xcells (leafX 1 [] tn1 0)
    have yl := xlen (leafX 1 [] tn1 0)
    have yt := xtake (leafX 1 [] tn1 0)
    have ye := xemb (leafX 1 [] tn1 0)
    have yd : List.drop 6 (leafX 1 [] tn1 0).cells = [] := List.drop_eq_nil_of_le (by rw [yl]; omega)
    simp only [fzL, fEL] at *
    generalize (leafX 1 [] tn1 0).cells = ycs at *
    generalize (leafX 1 [] tn1 0).emb = yem at *
    generalize p + 1 = P1 at *
    generalize tkL l = es at *
    generalize zX.cells = zcs at *
    generalize zX.emb = zem at *
    generalize z6 = z at *
    rw [ev_enter (n := n + 8) (show E.ok 54 = true from rfl) Tryz.func54 (fn := Tryz.f54) rfl (Nat.le_of_ble_eq_true rfl) (by decide +kernel)]
    simp (disch := first | (simp only [List.length_append, List.length_cons, List.length_nil]; omega) | (simp; done) | assumption) [AV.cells?, AV.isCell, -AV.cells?, cq_int, cq_agg, cq_slice, cq_str, -evBuild, -evBuildSlice, -evIndexAddr, hz25, ez, zc, zl, zt, ze, zd, l6, zzd, List.append_nil, ef, fz0, fc, fa, fk, fi, fq0', k3, c3, a3, i3, c24, a24, k24, i24, bq3, hf, Tryz.f54, E_esc, hw1, hd32, bq3, wq1, wq2, wk, wa, wc, k9, c9, a9, k2, c2, a2, i2, hO1, hia1, hb, yc, yl, yt, ye, yd]
  · have eb1 : ((hereT l p).k == 2) = false := by simp [e1]
    rw [eb1] at hO1
    simp only [e1, if_false]
    have hO2 := ev_rof (n + 7) l k p 3 (by decide) S
    by_cases e2 : (hereT l p).k = 3
    · have eb2 : ((hereT l p).k == 3) = true := by simp [e2]
      rw [eb2] at hO2
      simp only [e2, if_true]
      have hlt2 : p < l.length := here_lt (by rw [e2]; decide)
      have hx2 : l[p]? = some l[p] := List.getElem?_eq_getElem hlt2
      have hh2 : hereT l p = l[p] := by simp [hereT, hx2]
      have hia2 := iw l k p _ hx2
      rw [hh2] at *
      clear hh2 eb2 hx2
      generalize l[p] = t2 at *
      obtain ⟨tk2, ts2, tn2, tp2⟩ := t2
      simp only [Tk.cells] at hia2 ⊢
      clear e1 eb1
      have hb : evBuild Tryz.prog 25 [(0, .int .i64 3), (1, .str ts2)] = some (leafX 3 ts2 0 0).emb := bX1 3 ts2
      refine ⟨NZ_ok, Inb_ok (by omega), ?_⟩
      have hf := fin_ans l (.ok (leafX 3 ts2 0 0, p + 1)) S
      rw [ansA_ok] at hf ⊢
      have yc := xcells (leafX 3 ts2 0 0)
      have yl := xlen (leafX 3 ts2 0 0)
      have yt := xtake (leafX 3 ts2 0 0)
      have ye := xemb (leafX 3 ts2 0 0)
      have yd : List.drop 6 (leafX 3 ts2 0 0).cells = [] := List.drop_eq_nil_of_le (by rw [yl]; omega)
      simp only [fzL, fEL] at *
      generalize (leafX 3 ts2 0 0).cells = ycs at *
      generalize (leafX 3 ts2 0 0).emb = yem at *
      generalize p + 1 = P1 at *
      generalize tkL l = es at *
      generalize zX.cells = zcs at *
      generalize zX.emb = zem at *
      generalize z6 = z at *
      rw [ev_enter (n := n + 8) (show E.ok 54 = true from rfl) Tryz.func54 (fn := Tryz.f54) rfl (Nat.le_of_ble_eq_true rfl) (by decide +kernel)]
      simp (disch := first | (simp only [List.length_append, List.length_cons, List.length_nil]; omega) | (simp; done) | assumption) [AV.cells?, AV.isCell, -AV.cells?, cq_int, cq_agg, cq_slice, cq_str, -evBuild, -evBuildSlice, -evIndexAddr, hz25, ez, zc, zl, zt, ze, zd, l6, zzd, List.append_nil, ef, fz0, fc, fa, fk, fi, fq0', k3, c3, a3, i3, c24, a24, k24, i24, bq3, hf, Tryz.f54, E_esc, hw1, hd32, bq3, wq1, wq2, wk, wa, wc, k9, c9, a9, k2, c2, a2, i2, hO1, hO2, hia2, hb, yc, yl, yt, ye, yd]
    · have eb2 : ((hereT l p).k == 3) = false := by simp [e2]
      rw [eb2] at hO2
      simp only [e2, if_false]
      have hI3 := ev_rIs (n + 7) l k p 116 [114, 117, 101] S
      cases e3 : isB (hereT l) p [116, 114, 117, 101]
      · rw [e3] at hI3
        simp only [e3, Bool.false_eq_true, if_false]
        have hI4 := ev_rIs (n + 7) l k p 102 [97, 108, 115, 101] S
        cases e4 : isB (hereT l) p [102, 97, 108, 115, 101]
        · rw [e4] at hI4
          simp only [e4, Bool.false_eq_true, if_false]
          have hI5 := ev_rIs (n + 7) l k p 110 [111, 119] S
          cases e5 : isB (hereT l) p [110, 111, 119]
          · rw [e5] at hI5
            simp only [e5, Bool.false_eq_true, if_false]
            have hI6 := ev_rIs (n + 7) l k p 123 [] S
            cases e6 : isB (hereT l) p [123]
            · rw [e6] at hI6
              simp only [e6, Bool.false_eq_true, if_false]
              have hI7 := ev_rIs (n + 7) l k p 40 [] S
              cases e7 : isB (hereT l) p [40]
              · rw [e7] at hI7
                simp only [e7, Bool.false_eq_true, if_false]
                have hI8 := ev_rIs (n + 7) l k p 45 [] S
                cases e8 : isB (hereT l) p [45]
                · rw [e8] at hI8
                  simp only [e8, Bool.false_eq_true, if_false]
                  have hI9 := ev_rIs (n + 7) l k p 110 [111, 116] S
                  cases e9 : isB (hereT l) p [110, 111, 116]
                  · rw [e9] at hI9
                    simp only [e9, Bool.false_eq_true, if_false]
                    have key : ∀ R : PR X, (NZ R ∧ Inb l R ∧ ev Tryz.prog E (n + 8) 93 [.slice (tkL l) k, .int .i64 (p : Int), .int .i64 (d : Int)] S = some (.ret (ansA l R), S)) → (NZ R ∧ Inb l R ∧ ev Tryz.prog E (n + 8 + 1) 54 [.slice (tkL l) k, .int .i64 (p : Int), .int .i64 (d : Int)] S = some (.ret (ansA l R), S)) := by
                      intro R ⟨h1, h2, h3⟩
                      refine ⟨h1, h2, ?_⟩
                      clear h1 h2
                      obtain ⟨x, q, c, a, b, hx⟩ := ansA_ex l R
                      have hf := fin_ans l (R) S
                      rw [hx] at h3 hf ⊢
                      have xc := xcells (x)
                      have xl := xlen (x)
                      have xt := xtake (x)
                      have xe := xemb (x)
                      have xd : List.drop 6 (x).cells = [] := List.drop_eq_nil_of_le (by rw [xl]; omega)
                      simp only [fzL, fEL] at *
                      generalize (x).cells = xcs at *
                      generalize (x).emb = xem at *
                      generalize p + 1 = P1 at *
                      generalize tkL l = es at *
                      generalize zX.cells = zcs at *
                      generalize zX.emb = zem at *
                      generalize z6 = z at *
                      rw [ev_enter (n := n + 8) (show E.ok 54 = true from rfl) Tryz.func54 (fn := Tryz.f54) rfl (Nat.le_of_ble_eq_true rfl) (by decide +kernel)]
                      simp (disch := first | (simp only [List.length_append, List.length_cons, List.length_nil]; omega) | (simp; done) | assumption) [AV.cells?, AV.isCell, -AV.cells?, cq_int, cq_agg, cq_slice, cq_str, -evBuild, -evBuildSlice, -evIndexAddr, hz25, ez, zc, zl, zt, ze, zd, l6, zzd, List.append_nil, ef, fz0, fc, fa, fk, fi, fq0', k3, c3, a3, i3, c24, a24, k24, i24, bq3, hf, Tryz.f54, E_esc, hw1, hd32, bq3, wq1, wq2, wk, wa, wc, k9, c9, a9, k2, c2, a2, i2, hO1, hO2, hI3, hI4, hI5, hI6, hI7, hI8, hI9, h3, xc, xl, xt, xe, xd]
                    exact key _ (r_named hl (n + 1) d hd any (fun m hm => hL m (by omega)) p S hp)
                  · have hlt9 := is_lt e9
                    rw [e9] at hI9
                    simp only [e9, if_true, th_ok, Nat.add_assoc, Nat.reduceAdd]
                    have key : ∀ R : PR X, (NZ R ∧ Inb l R ∧ ev Tryz.prog E (n + 8) 92 [.slice (tkL l) k, .int .i64 (p : Int), .int .i64 18, .int .i64 (d : Int)] S = some (.ret (ansA l R), S)) → (NZ R ∧ Inb l R ∧ ev Tryz.prog E (n + 8 + 1) 54 [.slice (tkL l) k, .int .i64 (p : Int), .int .i64 (d : Int)] S = some (.ret (ansA l R), S)) := by
                      intro R ⟨h1, h2, h3⟩
                      refine ⟨h1, h2, ?_⟩
                      clear h1 h2
                      obtain ⟨x, q, c, a, b, hx⟩ := ansA_ex l R
                      have hf := fin_ans l (R) S
                      rw [hx] at h3 hf ⊢
                      have xc := xcells (x)
                      have xl := xlen (x)
                      have xt := xtake (x)
                      have xe := xemb (x)
                      have xd : List.drop 6 (x).cells = [] := List.drop_eq_nil_of_le (by rw [xl]; omega)
                      simp only [fzL, fEL] at *
                      generalize (x).cells = xcs at *
                      generalize (x).emb = xem at *
                      generalize p + 1 = P1 at *
                      generalize tkL l = es at *
                      generalize zX.cells = zcs at *
                      generalize zX.emb = zem at *
                      generalize z6 = z at *
                      rw [ev_enter (n := n + 8) (show E.ok 54 = true from rfl) Tryz.func54 (fn := Tryz.f54) rfl (Nat.le_of_ble_eq_true rfl) (by decide +kernel)]
                      simp (disch := first | (simp only [List.length_append, List.length_cons, List.length_nil]; omega) | (simp; done) | assumption) [AV.cells?, AV.isCell, -AV.cells?, cq_int, cq_agg, cq_slice, cq_str, -evBuild, -evBuildSlice, -evIndexAddr, hz25, ez, zc, zl, zt, ze, zd, l6, zzd, List.append_nil, ef, fz0, fc, fa, fk, fi, fq0', k3, c3, a3, i3, c24, a24, k24, i24, bq3, hf, Tryz.f54, E_esc, hw1, hd32, bq3, wq1, wq2, wk, wa, wc, k9, c9, a9, k2, c2, a2, i2, hO1, hO2, hI3, hI4, hI5, hI6, hI7, hI8, hI9, h3, xc, xl, xt, xe, xd]
                    exact key _ (r_around hl (n + 7) d hd 18 one (hO _ (by omega)) p S (by omega))
                · have hlt8 := is_lt e8
                  rw [e8] at hI8
                  simp only [e8, if_true, th_ok, Nat.add_assoc, Nat.reduceAdd]
                  have key : ∀ R : PR X, (NZ R ∧ Inb l R ∧ ev Tryz.prog E (n + 8) 92 [.slice (tkL l) k, .int .i64 (p : Int), .int .i64 11, .int .i64 (d : Int)] S = some (.ret (ansA l R), S)) → (NZ R ∧ Inb l R ∧ ev Tryz.prog E (n + 8 + 1) 54 [.slice (tkL l) k, .int .i64 (p : Int), .int .i64 (d : Int)] S = some (.ret (ansA l R), S)) := by
                    intro R ⟨h1, h2, h3⟩
                    refine ⟨h1, h2, ?_⟩
                    clear h1 h2
                    obtain ⟨x, q, c, a, b, hx⟩ := ansA_ex l R
                    have hf := fin_ans l (R) S
                    rw [hx] at h3 hf ⊢
                    have xc := xcells (x)
                    have xl := xlen (x)
                    have xt := xtake (x)
                    have xe := xemb (x)
                    have xd : List.drop 6 (x).cells = [] := List.drop_eq_nil_of_le (by rw [xl]; omega)
                    simp only [fzL, fEL] at *
                    generalize (x).cells = xcs at *
                    generalize (x).emb = xem at *
                    generalize p + 1 = P1 at *
                    generalize tkL l = es at *
                    generalize zX.cells = zcs at *
                    generalize zX.emb = zem at *
                    generalize z6 = z at *
                    rw [ev_enter (n := n + 8) (show E.ok 54 = true from rfl) Tryz.func54 (fn := Tryz.f54) rfl (Nat.le_of_ble_eq_true rfl) (by decide +kernel)]
                    simp (disch := first | (simp only [List.length_append, List.length_cons, List.length_nil]; omega) | (simp; done) | assumption) [AV.cells?, AV.isCell, -AV.cells?, cq_int, cq_agg, cq_slice, cq_str, -evBuild, -evBuildSlice, -evIndexAddr, hz25, ez, zc, zl, zt, ze, zd, l6, zzd, List.append_nil, ef, fz0, fc, fa, fk, fi, fq0', k3, c3, a3, i3, c24, a24, k24, i24, bq3, hf, Tryz.f54, E_esc, hw1, hd32, bq3, wq1, wq2, wk, wa, wc, k9, c9, a9, k2, c2, a2, i2, hO1, hO2, hI3, hI4, hI5, hI6, hI7, hI8, h3, xc, xl, xt, xe, xd]
                  exact key _ (r_around hl (n + 7) d hd 11 one (hO _ (by omega)) p S (by omega))
              · have hlt7 := is_lt e7
                rw [e7] at hI7
                simp only [e7, if_true, th_ok, Nat.add_assoc, Nat.reduceAdd]
                have key : ∀ R : PR X, (NZ R ∧ Inb l R ∧ ev Tryz.prog E (n + 8) 91 [.slice (tkL l) k, .int .i64 (p : Int), .int .i64 (d : Int)] S = some (.ret (ansA l R), S)) → (NZ R ∧ Inb l R ∧ ev Tryz.prog E (n + 8 + 1) 54 [.slice (tkL l) k, .int .i64 (p : Int), .int .i64 (d : Int)] S = some (.ret (ansA l R), S)) := by
                  intro R ⟨h1, h2, h3⟩
                  refine ⟨h1, h2, ?_⟩
                  clear h1 h2
                  obtain ⟨x, q, c, a, b, hx⟩ := ansA_ex l R
                  have hf := fin_ans l (R) S
                  rw [hx] at h3 hf ⊢
                  have xc := xcells (x)
                  have xl := xlen (x)
                  have xt := xtake (x)
                  have xe := xemb (x)
                  have xd : List.drop 6 (x).cells = [] := List.drop_eq_nil_of_le (by rw [xl]; omega)
                  simp only [fzL, fEL] at *
                  generalize (x).cells = xcs at *
                  generalize (x).emb = xem at *
                  generalize p + 1 = P1 at *
                  generalize tkL l = es at *
                  generalize zX.cells = zcs at *
                  generalize zX.emb = zem at *
                  generalize z6 = z at *
                  rw [ev_enter (n := n + 8) (show E.ok 54 = true from rfl) Tryz.func54 (fn := Tryz.f54) rfl (Nat.le_of_ble_eq_true rfl) (by decide +kernel)]
                  simp (disch := first | (simp only [List.length_append, List.length_cons, List.length_nil]; omega) | (simp; done) | assumption) [AV.cells?, AV.isCell, -AV.cells?, cq_int, cq_agg, cq_slice, cq_str, -evBuild, -evBuildSlice, -evIndexAddr, hz25, ez, zc, zl, zt, ze, zd, l6, zzd, List.append_nil, ef, fz0, fc, fa, fk, fi, fq0', k3, c3, a3, i3, c24, a24, k24, i24, bq3, hf, Tryz.f54, E_esc, hw1, hd32, bq3, wq1, wq2, wk, wa, wc, k9, c9, a9, k2, c2, a2, i2, hO1, hO2, hI3, hI4, hI5, hI6, hI7, h3, xc, xl, xt, xe, xd]
                exact key _ (r_group hl (n + 4) d hd any (hL _ (by omega)) p S hp)
            · have hlt6 := is_lt e6
              rw [e6] at hI6
              simp only [e6, if_true, th_ok, Nat.add_assoc, Nat.reduceAdd]
              have key : ∀ R : PR X, (NZ R ∧ Inb l R ∧ ev Tryz.prog E (n + 8) 90 [.slice (tkL l) k, .int .i64 ((p + 1 : Nat) : Int)] S = some (.ret (ansA l R), S)) → (NZ R ∧ Inb l R ∧ ev Tryz.prog E (n + 8 + 1) 54 [.slice (tkL l) k, .int .i64 (p : Int), .int .i64 (d : Int)] S = some (.ret (ansA l R), S)) := by
                intro R ⟨h1, h2, h3⟩
                refine ⟨h1, h2, ?_⟩
                clear h1 h2
                obtain ⟨x, q, c, a, b, hx⟩ := ansA_ex l R
                have hf := fin_ans l (R) S
                rw [hx] at h3 hf ⊢
                have xc := xcells (x)
                have xl := xlen (x)
                have xt := xtake (x)
                have xe := xemb (x)
                have xd : List.drop 6 (x).cells = [] := List.drop_eq_nil_of_le (by rw [xl]; omega)
                simp only [fzL, fEL] at *
                generalize (x).cells = xcs at *
                generalize (x).emb = xem at *
                generalize p + 1 = P1 at *
                generalize tkL l = es at *
                generalize zX.cells = zcs at *
                generalize zX.emb = zem at *
                generalize z6 = z at *
                rw [ev_enter (n := n + 8) (show E.ok 54 = true from rfl) Tryz.func54 (fn := Tryz.f54) rfl (Nat.le_of_ble_eq_true rfl) (by decide +kernel)]
                simp (disch := first | (simp only [List.length_append, List.length_cons, List.length_nil]; omega) | (simp; done) | assumption) [AV.cells?, AV.isCell, -AV.cells?, cq_int, cq_agg, cq_slice, cq_str, -evBuild, -evBuildSlice, -evIndexAddr, hz25, ez, zc, zl, zt, ze, zd, l6, zzd, List.append_nil, ef, fz0, fc, fa, fk, fi, fq0', k3, c3, a3, i3, c24, a24, k24, i24, bq3, hf, Tryz.f54, E_esc, hw1, hd32, bq3, wq1, wq2, wk, wa, wc, k9, c9, a9, k2, c2, a2, i2, hO1, hO2, hI3, hI4, hI5, hI6, h3, xc, xl, xt, xe, xd]
              exact key _ (hS (n + 8) (by omega) (p + 1) S (by omega))
          · have hlt5 := is_lt e5
            rw [e5] at hI5
            simp only [e5, if_true, th_ok, Nat.add_assoc, Nat.reduceAdd]
            have hb : evBuild Tryz.prog 25 [(0, .int .i64 7)] = some (leafX 7 [] 0 0).emb := bX0 7
            refine ⟨NZ_ok, Inb_ok (by omega), ?_⟩
            have hf := fin_ans l (.ok (leafX 7 [] 0 0, p + 1)) S
            rw [ansA_ok] at hf ⊢
            have yc := xcells (leafX 7 [] 0 0)
            have yl := xlen (leafX 7 [] 0 0)
            have yt := xtake (leafX 7 [] 0 0)
            have ye := xemb (leafX 7 [] 0 0)
            have yd : List.drop 6 (leafX 7 [] 0 0).cells = [] := List.drop_eq_nil_of_le (by rw [yl]; omega)
            simp only [fzL, fEL] at *
            generalize (leafX 7 [] 0 0).cells = ycs at *
            generalize (leafX 7 [] 0 0).emb = yem at *
            generalize p + 1 = P1 at *
            generalize tkL l = es at *
            generalize zX.cells = zcs at *
            generalize zX.emb = zem at *
            generalize z6 = z at *
            rw [ev_enter (n := n + 8) (show E.ok 54 = true from rfl) Tryz.func54 (fn := Tryz.f54) rfl (Nat.le_of_ble_eq_true rfl) (by decide +kernel)]
            simp (disch := first | (simp only [List.length_append, List.length_cons, List.length_nil]; omega) | (simp; done) | assumption) [AV.cells?, AV.isCell, -AV.cells?, cq_int, cq_agg, cq_slice, cq_str, -evBuild, -evBuildSlice, -evIndexAddr, hz25, ez, zc, zl, zt, ze, zd, l6, zzd, List.append_nil, ef, fz0, fc, fa, fk, fi, fq0', k3, c3, a3, i3, c24, a24, k24, i24, bq3, hf, Tryz.f54, E_esc, hw1, hd32, bq3, wq1, wq2, wk, wa, wc, k9, c9, a9, k2, c2, a2, i2, hO1, hO2, hI3, hI4, hI5, hb, yc, yl, yt, ye, yd]
        · have hlt4 := is_lt e4
          rw [e4] at hI4
          simp only [e4, if_true, th_ok, Nat.add_assoc, Nat.reduceAdd]
          have hb : evBuild Tryz.prog 25 [(0, .int .i64 2)] = some (leafX 2 [] 0 0).emb := bX0 2
          refine ⟨NZ_ok, Inb_ok (by omega), ?_⟩
          have hf := fin_ans l (.ok (leafX 2 [] 0 0, p + 1)) S
          rw [ansA_ok] at hf ⊢
          have yc := xcells (leafX 2 [] 0 0)
          have yl := xlen (leafX 2 [] 0 0)
          have yt := xtake (leafX 2 [] 0 0)
          have ye := xemb (leafX 2 [] 0 0)
          have yd : List.drop 6 (leafX 2 [] 0 0).cells = [] := List.drop_eq_nil_of_le (by rw [yl]; omega)
          simp only [fzL, fEL] at *
          generalize (leafX 2 [] 0 0).cells = ycs at *
          generalize (leafX 2 [] 0 0).emb = yem at *
          generalize p + 1 = P1 at *
          generalize tkL l = es at *
          generalize zX.cells = zcs at *
          generalize zX.emb = zem at *
          generalize z6 = z at *
          rw [ev_enter (n := n + 8) (show E.ok 54 = true from rfl) Tryz.func54 (fn := Tryz.f54) rfl (Nat.le_of_ble_eq_true rfl) (by decide +kernel)]
          simp (disch := first | (simp only [List.length_append, List.length_cons, List.length_nil]; omega) | (simp; done) | assumption) [AV.cells?, AV.isCell, -AV.cells?, cq_int, cq_agg, cq_slice, cq_str, -evBuild, -evBuildSlice, -evIndexAddr, hz25, ez, zc, zl, zt, ze, zd, l6, zzd, List.append_nil, ef, fz0, fc, fa, fk, fi, fq0', k3, c3, a3, i3, c24, a24, k24, i24, bq3, hf, Tryz.f54, E_esc, hw1, hd32, bq3, wq1, wq2, wk, wa, wc, k9, c9, a9, k2, c2, a2, i2, hO1, hO2, hI3, hI4, hb, yc, yl, yt, ye, yd]
      · have hlt3 := is_lt e3
        rw [e3] at hI3
        simp only [e3, if_true, th_ok, Nat.add_assoc, Nat.reduceAdd]
        have hb : evBuild Tryz.prog 25 [(0, .int .i64 2), (2, .int .i64 1)] = some (leafX 2 [] 1 0).emb := bX2 2 1
        refine ⟨NZ_ok, Inb_ok (by omega), ?_⟩
        have hf := fin_ans l (.ok (leafX 2 [] 1 0, p + 1)) S
        rw [ansA_ok] at hf ⊢
        have yc := xcells (leafX 2 [] 1 0)
        have yl := xlen (leafX 2 [] 1 0)
        have yt := xtake (leafX 2 [] 1 0)
        have ye := xemb (leafX 2 [] 1 0)
        have yd : List.drop 6 (leafX 2 [] 1 0).cells = [] := List.drop_eq_nil_of_le (by rw [yl]; omega)
        simp only [fzL, fEL] at *
        generalize (leafX 2 [] 1 0).cells = ycs at *
        generalize (leafX 2 [] 1 0).emb = yem at *
        generalize p + 1 = P1 at *
        generalize tkL l = es at *
        generalize zX.cells = zcs at *
        generalize zX.emb = zem at *
        generalize z6 = z at *
        rw [ev_enter (n := n + 8) (show E.ok 54 = true from rfl) Tryz.func54 (fn := Tryz.f54) rfl (Nat.le_of_ble_eq_true rfl) (by decide +kernel)]
        simp (disch := first | (simp only [List.length_append, List.length_cons, List.length_nil]; omega) | (simp; done) | assumption) [AV.cells?, AV.isCell, -AV.cells?, cq_int, cq_agg, cq_slice, cq_str, -evBuild, -evBuildSlice, -evIndexAddr, hz25, ez, zc, zl, zt, ze, zd, l6, zzd, List.append_nil, ef, fz0, fc, fa, fk, fi, fq0', k3, c3, a3, i3, c24, a24, k24, i24, bq3, hf, Tryz.f54, E_esc, hw1, hd32, bq3, wq1, wq2, wk, wa, wc, k9, c9, a9, k2, c2, a2, i2, hO1, hO2, hI3, hb, yc, yl, yt, ye, yd]
set_option maxHeartbeats 4000000 in
theorem r_deep (n d : Nat) (hd : 32 ≤ d) : RSub l k (n + 2) 54 [.int .i64 (d : Int)] (fun p => .error (32, p)) := by
  intro p S hp
  have hz25 : zeroQ Tryz.prog 25 = some z6 := by kernel_rfl
  have l6 := z6_len
  have zzd : List.drop 6 z6 = [] := rfl
  have ez : evBuild Tryz.prog 25 [] = some zX.emb := bXz
  have zc := xcells zX
  have zl := xlen zX
  have zt := xtake zX
  have ze := xemb zX
  have zd : List.drop 6 zX.cells = [] := rfl
  have ef := bFz
  have wr : ∀ a : Nat, a ≤ 3000000 → ∀ b : Nat, b ≤ 10 → IntKind.i64.wrap ((a : Int) + (b : Int)) = ((a + b : Nat) : Int) := fun a ha b hb => by rw [wrap64 _ (by omega)]; omega
  have hd32 : (32 : Int) ≤ (d : Int) := by omega
  have hF := ev_rfail n l k p 32 S hl
  refine ⟨NZ_err (by decide), Inb_err, ?_⟩
  rw [ansA_err] at hF
  have hf := fin_ans l (.error (32, p)) S
  rw [ansA_err] at hf ⊢
  simp only [fzL, fEL] at *
  generalize (hereT l p).p = pl at *
  generalize tkL l = es at *
  generalize zX.cells = zcs at *
  generalize zX.emb = zem at *
  generalize z6 = z at *
  rw [ev_enter (n := n + 1) (show E.ok 54 = true from rfl) Tryz.func54 (fn := Tryz.f54) rfl (Nat.le_of_ble_eq_true rfl) (by decide +kernel)]
  simp (disch := first | (simp only [List.length_append, List.length_cons, List.length_nil]; omega) | (simp; done) | assumption) [AV.cells?, AV.isCell, -AV.cells?, cq_int, cq_agg, cq_slice, cq_str, -evBuild, -evBuildSlice, -evIndexAddr, hz25, ez, zc, zl, zt, ze, zd, l6, zzd, List.append_nil, ef, fz0, fc, fa, fk, fi, fq0', k3, c3, a3, i3, c24, a24, k24, i24, bq3, hf, Tryz.f54, E_esc, hF, hd32]
end
end Go.Proofs.YtemggoaefohliaaGreatDoor.RP
/- The reference's parser: set rounds, evaluated (printed by genrp.py). No condition. -/
namespace Go.Proofs.YtemggoaefohliaaGreatDoor.RP
set_option linter.unusedVariables false
set_option linter.unusedSimpArgs false
open Go AE EX PT NF LX PS
set_option maxRecDepth 100000
def sS (S : St) (ks : List X) : St := ⟨S.H, S.T ++ kT ks⟩
noncomputable def lpS : Code := cutC (bodyOf Tryz.f90) [1, 1, 1, 0, 0]
noncomputable def s0S : Code := cutC (bodyOf Tryz.f90) [0]
noncomputable def s1S : Code := cutC (bodyOf Tryz.f90) [1, 0]
noncomputable def s2S : Code := cutC (bodyOf Tryz.f90) [1, 1, 0]
theorem fbS : Tryz.f90.body = some (.seq s0S (.seq s1S (.seq s2S (.block 0 (.loop lpS))))) := rfl
def SI (l : List Tk) (k : Tok) (n : Nat) (S : St) (R : PR X) (m : Nat) (fs : FS) : Prop :=
  ∃ ks r f c4 c6 c7, c4 ≠ 0 ∧ c6 ≠ 0 ∧ c7 ≠ 0 ∧ m = l.length - r ∧ ks.length ≤ 8 ∧ r ≤ l.length ∧ fs.t 0 = .slice (tkL l) k ∧ fs.t 1 = .int .i64 (r : Int) ∧ fs.t 4 = .loc n 4 c4 0 ∧ fs.t 6 = .loc n 6 c6 0 ∧ fs.t 7 = .loc n 7 c7 0 ∧ fs.b 4 = (c4, z6) ∧ fs.b 6 = (c6, fzL) ∧ fs.b 7 = (c7, ksC S.T ks) ∧ fs.S = sS S ks ∧ m < f ∧ setF (hereT l) f ks r = R
def SQ (l : List Tk) (n : Nat) (S : St) (R : PR X) (r : Out × FS) : Prop :=
  r.1 = .ret ∧
  ((∃ ks q c4 c6, c4 ≠ 0 ∧ c6 ≠ 0 ∧ ks ≠ [] ∧ q ≤ l.length ∧ r.2.t 4 = .loc n 4 c4 0 ∧ r.2.t 5 = .int .i64 ((q : Nat) : Int) ∧ r.2.t 6 = .loc n 6 c6 0 ∧ r.2.b 4 = (c4, ksC S.T ks) ∧ r.2.b 6 = (c6, fzL) ∧ r.2.S = sS S ks ∧ R = .ok (setX ks, q)) ∨
  (∃ c q ks c4 c6, c4 ≠ 0 ∧ c6 ≠ 0 ∧ c ≠ 0 ∧ r.2.t 4 = .loc n 4 c4 0 ∧ r.2.t 5 = .int .i64 0 ∧ r.2.t 6 = .loc n 6 c6 0 ∧ r.2.b 4 = (c4, zX.cells) ∧ r.2.b 6 = (c6, fEL c (hereT l q).p) ∧ r.2.S = sS S ks ∧ R = .error (c, q)))
section
variable {l : List Tk} {k : Tok} (hl : l.length ≤ 2000000)
include hl
set_option maxHeartbeats 16000000 in
theorem rdS (n : Nat) (S : St) (R : PR X) (m : Nat) (fs : FS) (h : SI l k (n + 1) S R m fs) :
    ∃ o fs', evCode ⟨Tryz.prog, E.esc 90, n + 1⟩ (ev Tryz.prog E (n + 1)) (E.ps 90) (n + 1) lpS fs = some (o, fs') ∧ ((o = .norm ∧ ∃ m', m' < m ∧ SI l k (n + 1) S R m' fs') ∨ (o ≠ .norm ∧ SQ l (n + 1) S R (o, fs'))) := by
  obtain ⟨t, b, c, S'⟩ := fs
  obtain ⟨ks, r, f, c4, c6, c7, n4, n6, n7, hmr, hk8, hr, t0, t1, t4, t6, t7, b4, b6, b7, hS, hmf, hR⟩ := h
  simp only at t0 t1 t4 t6 t7 b4 b6 b7 hS
  subst hS
  obtain ⟨f, rfl⟩ : ∃ g, f = g + 1 := ⟨f - 1, by omega⟩
  have hz25 : zeroQ Tryz.prog 25 = some z6 := by kernel_rfl
  have l6 := z6_len
  have zzd : List.drop 6 z6 = [] := rfl
  have ez : evBuild Tryz.prog 25 [] = some zX.emb := bXz
  have zc := xcells zX
  have zl := xlen zX
  have zt := xtake zX
  have ze := xemb zX
  have zd : List.drop 6 zX.cells = [] := rfl
  have ef := bFz
  have wr : ∀ a : Nat, a ≤ 3000000 → ∀ b : Nat, b ≤ 10 → IntKind.i64.wrap ((a : Int) + (b : Int)) = ((a + b : Nat) : Int) := fun a ha b hb => by rw [wrap64 _ (by omega)]; omega
  have hw1 : IntKind.i64.wrap ((r : Int) + 1) = ((r + 1 : Nat) : Int) := wr r (by omega) 1 (by omega)
  simp only [ksC] at b7
  simp only [fzL] at b6 ef
  have hcl := kS_cells S.T ks
  have hic := kS_isCell S.T ks
  have hlen := kS_len S.T ks
  rw [setF] at hR
  have hO := ev_rof n l k r 3 (by decide) (sS S ks)
  have hF := ev_rfail n l k r 16 (sS S ks) hl
  unfold takeP at hR
  by_cases e1 : (hereT l r).k = 3
  case neg =>
    have eb : ((hereT l r).k == 3) = false := by simp [e1]
    rw [eb] at hO
    simp only [e1, if_false, th_err] at hR
    generalize (hereT l r).k = kk at *
    rw [ansA_err] at hF
    simp only [fEL] at hF
    generalize hpl : (hereT l (r)).p = pl at *
    generalize hzcs : zX.cells = zcs at *
    generalize hzem : zX.emb = zem at *
    generalize z6 = z at *
    generalize tkL l = es at *
    generalize hS1 : sS S ks = S1 at *
    generalize kS S.T ks = sl at *
    refine ⟨.ret, _, by
      simp (disch := first | (simp only [List.length_append, List.length_cons, List.length_nil]; omega) | (simp; done) | assumption) [AV.cells?, AV.isCell, -AV.cells?, cq_int, cq_agg, cq_slice, cq_str, -evBuild, -evBuildSlice, -evIndexAddr, -evLen, lpS, s0S, s1S, s2S, cutC, bodyOf, Tryz.f90, E_esc, hz25, ez, zc, zl, zt, ze, zd, l6, zzd, List.append_nil, ef, fz0, fc, fa, fk, fi, fq0', k3, c3, a3, i3, c24, a24, k24, i24, bq3, bq9, wq1, wk, wa, wc, k9, c9, a9, k22, c22, a22, i22, fq5, fq1, t0, t1, t4, t6, t7, b4, b6, b7, n4, n6, n7, hO, hF]
      rfl, .inr ⟨by simp, rfl, .inr ⟨16, r, ks, c4, c6, n4, n6, by decide, by simp [upd, putA, t4], by simp [upd, putA], by simp [upd, putA, t6], by simp [upd, b4, hzcs], by simp [upd, fEL, hpl], hS1.symm, hR.symm⟩⟩⟩
  case pos =>
    have eb : ((hereT l r).k == 3) = true := by simp [e1]
    rw [eb] at hO
    simp only [e1, if_true, th_ok] at hR
    have hlt : r < l.length := here_lt (by rw [e1]; decide)
    have hx : l[r]? = some l[r] := List.getElem?_eq_getElem hlt
    have hh : hereT l r = l[r] := by simp [hereT, hx]
    have hia0 := iw l k r _ hx
    clear hF
    rw [hh] at e1 hR
    clear hh eb hx
    generalize l[r] = t1' at *
    obtain ⟨uk, us, un, up⟩ := t1'
    simp only [Tk.cells] at hia0
    simp only at hR e1
    have hF2 := ev_rfail n l k (r + 1) 16 (sS S ks) hl
    cases hsb : setBad ks us
    case true =>
      rw [hsb] at hR
      simp only [if_true] at hR
      unfold setBad at hsb
      rcases hkn : ks.length with _ | i
      · rw [hkn] at hsb
        simp at hsb
      · obtain ⟨k', s, n', lo, hi, tk, kk, hg, hls⟩ := lastS_name ks i hkn
        have hia := kS_ia S.T ks i _ hg
        rw [hkn] at hlen hsb
        rw [hls] at hsb
        simp only [X.cells] at hia
        have hw : IntKind.i64.wrap (((i + 1 : Nat) : Int) - 1) = (i : Int) := by rw [wrap64 _ (by omega)]; omega
        have hpos : (0 : Int) < ((i + 1 : Nat) : Int) := by omega
        generalize embL kk = ekk at *
        by_cases h8 : i + 1 = 8
        · have hi7 : i = 7 := by omega
          subst hi7
          rw [ansA_err] at hF2
          simp only [fEL] at hF2
          generalize hpl : (hereT l (r + 1)).p = pl at *
          generalize hzcs : zX.cells = zcs at *
          generalize hzem : zX.emb = zem at *
          generalize z6 = z at *
          generalize tkL l = es at *
          generalize hS1 : sS S ks = S1 at *
          generalize kS S.T ks = sl at *
          generalize r + 1 = R1 at *
          refine ⟨.ret, _, by
            simp (disch := first | (simp only [List.length_append, List.length_cons, List.length_nil]; omega) | (simp; done) | assumption) [AV.cells?, AV.isCell, -AV.cells?, cq_int, cq_agg, cq_slice, cq_str, -evBuild, -evBuildSlice, -evIndexAddr, -evLen, lpS, s0S, s1S, s2S, cutC, bodyOf, Tryz.f90, E_esc, hz25, ez, zc, zl, zt, ze, zd, l6, zzd, List.append_nil, ef, fz0, fc, fa, fk, fi, fq0', k3, c3, a3, i3, c24, a24, k24, i24, bq3, bq9, wq1, wk, wa, wc, k9, c9, a9, k22, c22, a22, i22, fq5, fq1, t0, t1, t4, t6, t7, b4, b6, b7, n4, n6, n7, hO, hw1, hia0, hlen, hcl, hia, hw, hpos, hF2]
            rfl, .inr ⟨by simp, rfl, .inr ⟨16, R1, ks, c4, c6, n4, n6, by decide, by simp [upd, putA, t4], by simp [upd, putA], by simp [upd, putA, t6], by simp [upd, b4, hzcs], by simp [upd, fEL, hpl], hS1.symm, hR.symm⟩⟩⟩
        · have h8z : ¬ ((i + 1 : Nat) : Int) = 8 := by omega
          have h8b : (i + 1 == 8) = false := by simp; omega
          have hdp : decide (0 < i + 1) = true := by simp
          rw [h8b, hdp] at hsb
          simp only [Bool.false_or, Bool.true_and] at hsb
          clear hkn h8b hdp
          generalize ((i + 1 : Nat) : Int) = I1 at *
          rw [ansA_err] at hF2
          simp only [fEL] at hF2
          generalize hpl : (hereT l (r + 1)).p = pl at *
          generalize hzcs : zX.cells = zcs at *
          generalize hzem : zX.emb = zem at *
          generalize z6 = z at *
          generalize tkL l = es at *
          generalize hS1 : sS S ks = S1 at *
          generalize kS S.T ks = sl at *
          generalize r + 1 = R1 at *
          refine ⟨.ret, _, by
            simp (disch := first | (simp only [List.length_append, List.length_cons, List.length_nil]; omega) | (simp; done) | assumption) [AV.cells?, AV.isCell, -AV.cells?, cq_int, cq_agg, cq_slice, cq_str, -evBuild, -evBuildSlice, -evIndexAddr, -evLen, lpS, s0S, s1S, s2S, cutC, bodyOf, Tryz.f90, E_esc, hz25, ez, zc, zl, zt, ze, zd, l6, zzd, List.append_nil, ef, fz0, fc, fa, fk, fi, fq0', k3, c3, a3, i3, c24, a24, k24, i24, bq3, bq9, wq1, wk, wa, wc, k9, c9, a9, k22, c22, a22, i22, fq5, fq1, t0, t1, t4, t6, t7, b4, b6, b7, n4, n6, n7, hO, hw1, hia0, hlen, hcl, hia, hw, hpos, h8z, hsb, hF2]
            rfl, .inr ⟨by simp, rfl, .inr ⟨16, R1, ks, c4, c6, n4, n6, by decide, by simp [upd, putA, t4], by simp [upd, putA], by simp [upd, putA, t6], by simp [upd, b4, hzcs], by simp [upd, fEL, hpl], hS1.symm, hR.symm⟩⟩⟩
    case false =>
      rw [hsb] at hR
      simp only [Bool.false_eq_true, if_false] at hR
      have hk7 : ks.length < 8 := by
        unfold setBad at hsb
        simp only [Bool.or_eq_false_iff, beq_eq_false_iff_ne, ne_eq] at hsb
        omega
      clear hF2
      have hap : evAppend Tryz.prog [23, 23] (kS S.T ks) (.slice (embL [leafX 3 us 0 0]) .clip) (sS S ks) = some (kS S.T (ks ++ [leafX 3 us 0 0]), sS S (ks ++ [leafX 3 us 0 0])) := kS_app S.H S.T ks _ hk8
      have hbl := bX1 3 us
      have hbs := bS1 (leafX 3 us 0 0)
      have hcl2 := kS_cells S.T (ks ++ [leafX 3 us 0 0])
      have hic2 := kS_isCell S.T (ks ++ [leafX 3 us 0 0])
      have hag : (AV.agg (ksC S.T (ks ++ [leafX 3 us 0 0]))).cells? = some (ksC S.T (ks ++ [leafX 3 us 0 0])) := cq_agg _ (by simp only [ksC, List.all_cons, List.all_nil, hic2]; rfl)
      simp only [ksC] at hag
      have hks2 : (ks ++ [leafX 3 us 0 0]).length ≤ 8 := by simp; omega
      have hne2 : ks ++ [leafX 3 us 0 0] ≠ [] := by simp
      have hI := ev_rIs n l k (r + 1) 125 [] (sS S (ks ++ [leafX 3 us 0 0]))
      have hI2 := ev_rIs n l k (r + 1) 44 [] (sS S (ks ++ [leafX 3 us 0 0]))
      have hF2 := ev_rfail n l k (r + 1) 16 (sS S (ks ++ [leafX 3 us 0 0])) hl
      generalize ks ++ [leafX 3 us 0 0] = ks2 at *
      generalize embL [leafX 3 us 0 0] = el at *
      have yc := xcells (leafX 3 us 0 0)
      have yl := xlen (leafX 3 us 0 0)
      have yt := xtake (leafX 3 us 0 0)
      have ye := xemb (leafX 3 us 0 0)
      generalize (leafX 3 us 0 0).cells = ycs at *
      generalize (leafX 3 us 0 0).emb = le at *
      rcases hkn : ks.length with _ | i
      · have h00 : ks = [] := by simpa using hkn
        rw [hkn] at hlen
        clear h00
        cases hB : isB (hereT l) (r + 1) [125]
        · rw [hB] at hI hR
          simp only [Bool.false_eq_true, if_false] at hR
          unfold needP at hR
          cases hC : isB (hereT l) (r + 1) [44]
          · rw [hC] at hI2 hR
            simp only [Bool.false_eq_true, if_false, th_err] at hR
            rw [ansA_err] at hF2
            simp only [fEL] at hF2
            generalize hpl : (hereT l (r + 1)).p = pl at *
            generalize hzcs : zX.cells = zcs at *
            generalize hzem : zX.emb = zem at *
            generalize z6 = z at *
            generalize tkL l = es at *
            generalize hS1 : sS S ks = S1 at *
            generalize hS2 : sS S ks2 = S2 at *
            generalize kS S.T ks2 = sl2 at *
            generalize kS S.T ks = sl at *
            generalize r + 1 = R1 at *
            refine ⟨.ret, _, by
              simp (disch := first | (simp only [List.length_append, List.length_cons, List.length_nil]; omega) | (simp; done) | assumption) [AV.cells?, AV.isCell, -AV.cells?, cq_int, cq_agg, cq_slice, cq_str, -evBuild, -evBuildSlice, -evIndexAddr, -evLen, lpS, s0S, s1S, s2S, cutC, bodyOf, Tryz.f90, E_esc, hz25, ez, zc, zl, zt, ze, zd, l6, zzd, List.append_nil, ef, fz0, fc, fa, fk, fi, fq0', k3, c3, a3, i3, c24, a24, k24, i24, bq3, bq9, wq1, wk, wa, wc, k9, c9, a9, k22, c22, a22, i22, fq5, fq1, t0, t1, t4, t6, t7, b4, b6, b7, n4, n6, n7, hO, hw1, hia0, hlen, hcl, hap, hbl, hbs, hcl2, hic2, hag, yc, yl, yt, ye, hI, hI2, hF2]
              rfl, .inr ⟨by simp, rfl, .inr ⟨16, R1, ks2, c4, c6, n4, n6, by decide, by simp [upd, putA, t4], by simp [upd, putA], by simp [upd, putA, t6], by simp [upd, b4, hzcs], by simp [upd, fEL, hpl], hS2.symm, hR.symm⟩⟩⟩
          · rw [hC] at hI2 hR
            simp only [if_true, th_ok] at hR
            have hw2 : IntKind.i64.wrap (((r + 1 : Nat) : Int) + 1) = ((r + 1 + 1 : Nat) : Int) := wr (r + 1) (by omega) 1 (by omega)
            have hlt2 := is_lt hC
            generalize zX.cells = zcs at *
            generalize zX.emb = zem at *
            generalize hz : z6 = z at *
            generalize hes : tkL l = es at *
            generalize hS1 : sS S ks = S1 at *
            generalize hS2 : sS S ks2 = S2 at *
            generalize hsl2 : kS S.T ks2 = sl2 at *
            generalize kS S.T ks = sl at *
            generalize hP2 : r + 1 + 1 = R2 at *
            generalize hP1 : r + 1 = R1 at *
            refine ⟨.norm, _, by
              simp (disch := first | (simp only [List.length_append, List.length_cons, List.length_nil]; omega) | (simp; done) | assumption) [AV.cells?, AV.isCell, -AV.cells?, cq_int, cq_agg, cq_slice, cq_str, -evBuild, -evBuildSlice, -evIndexAddr, -evLen, lpS, s0S, s1S, s2S, cutC, bodyOf, Tryz.f90, E_esc, hz25, ez, zc, zl, zt, ze, zd, l6, zzd, List.append_nil, ef, fz0, fc, fa, fk, fi, fq0', k3, c3, a3, i3, c24, a24, k24, i24, bq3, bq9, wq1, wk, wa, wc, k9, c9, a9, k22, c22, a22, i22, fq5, fq1, t0, t1, t4, t6, t7, b4, b6, b7, n4, n6, n7, hO, hw1, hia0, hlen, hcl, hap, hbl, hbs, hcl2, hic2, hag, yc, yl, yt, ye, hw2, hI, hI2]
              rfl, .inl ⟨rfl, l.length - R2, by omega, ks2, R2, f, c4, c6, c7, n4, n6, n7, rfl, hks2, by omega, by simp [upd, putA, t0, hes], by simp [upd, putA], by simp [upd, putA, t4], by simp [upd, putA, t6], by simp [upd, putA, t7], by simp [upd, b4, hz], by simp [upd, b6, fzL], by simp [upd, ksC, hsl2], hS2.symm, by omega, hR⟩⟩
        · rw [hB] at hI hR
          simp only [if_true] at hR
          have hw2 : IntKind.i64.wrap (((r + 1 : Nat) : Int) + 1) = ((r + 1 + 1 : Nat) : Int) := wr (r + 1) (by omega) 1 (by omega)
          have hlt2 := is_lt hB
          generalize zX.cells = zcs at *
          generalize zX.emb = zem at *
          generalize z6 = z at *
          generalize tkL l = es at *
          generalize hS1 : sS S ks = S1 at *
          generalize hS2 : sS S ks2 = S2 at *
          generalize hsl2 : kS S.T ks2 = sl2 at *
          generalize kS S.T ks = sl at *
          generalize hP2 : r + 1 + 1 = R2 at *
          generalize hP1 : r + 1 = R1 at *
          refine ⟨.ret, _, by
            simp (disch := first | (simp only [List.length_append, List.length_cons, List.length_nil]; omega) | (simp; done) | assumption) [AV.cells?, AV.isCell, -AV.cells?, cq_int, cq_agg, cq_slice, cq_str, -evBuild, -evBuildSlice, -evIndexAddr, -evLen, lpS, s0S, s1S, s2S, cutC, bodyOf, Tryz.f90, E_esc, hz25, ez, zc, zl, zt, ze, zd, l6, zzd, List.append_nil, ef, fz0, fc, fa, fk, fi, fq0', k3, c3, a3, i3, c24, a24, k24, i24, bq3, bq9, wq1, wk, wa, wc, k9, c9, a9, k22, c22, a22, i22, fq5, fq1, t0, t1, t4, t6, t7, b4, b6, b7, n4, n6, n7, hO, hw1, hia0, hlen, hcl, hap, hbl, hbs, hcl2, hic2, hag, yc, yl, yt, ye, hw2, hI]
            rfl, .inr ⟨by simp, rfl, .inl ⟨ks2, R2, c4, c6, n4, n6, hne2, by omega, by simp [upd, putA, t4], by simp [upd, putA], by simp [upd, putA, t6], by simp [upd, b4, ksC, hsl2], by simp [upd, fzL], hS2.symm, hR.symm⟩⟩⟩
      · obtain ⟨k', s, n', lo, hi', tk, kk, hg, hls⟩ := lastS_name ks i hkn
        have hia := kS_ia S.T ks i _ hg
        unfold setBad at hsb
        rw [hkn] at hlen hsb
        rw [hls] at hsb
        simp only [X.cells] at hia
        have hw : IntKind.i64.wrap (((i + 1 : Nat) : Int) - 1) = (i : Int) := by rw [wrap64 _ (by omega)]; omega
        have hpos : (0 : Int) < ((i + 1 : Nat) : Int) := by omega
        have h8z : ¬ ((i + 1 : Nat) : Int) = 8 := by omega
        have h8b : (i + 1 == 8) = false := by simp; omega
        have hdp : decide (0 < i + 1) = true := by simp
        rw [h8b, hdp] at hsb
        simp only [Bool.false_or, Bool.true_and] at hsb
        clear h8b hdp hkn
        generalize ((i + 1 : Nat) : Int) = I1 at *
        generalize embL kk = ekk at *
        cases hB : isB (hereT l) (r + 1) [125]
        · rw [hB] at hI hR
          simp only [Bool.false_eq_true, if_false] at hR
          unfold needP at hR
          cases hC : isB (hereT l) (r + 1) [44]
          · rw [hC] at hI2 hR
            simp only [Bool.false_eq_true, if_false, th_err] at hR
            rw [ansA_err] at hF2
            simp only [fEL] at hF2
            generalize hpl : (hereT l (r + 1)).p = pl at *
            generalize hzcs : zX.cells = zcs at *
            generalize hzem : zX.emb = zem at *
            generalize z6 = z at *
            generalize tkL l = es at *
            generalize hS1 : sS S ks = S1 at *
            generalize hS2 : sS S ks2 = S2 at *
            generalize kS S.T ks2 = sl2 at *
            generalize kS S.T ks = sl at *
            generalize r + 1 = R1 at *
            refine ⟨.ret, _, by
              simp (disch := first | (simp only [List.length_append, List.length_cons, List.length_nil]; omega) | (simp; done) | assumption) [AV.cells?, AV.isCell, -AV.cells?, cq_int, cq_agg, cq_slice, cq_str, -evBuild, -evBuildSlice, -evIndexAddr, -evLen, lpS, s0S, s1S, s2S, cutC, bodyOf, Tryz.f90, E_esc, hz25, ez, zc, zl, zt, ze, zd, l6, zzd, List.append_nil, ef, fz0, fc, fa, fk, fi, fq0', k3, c3, a3, i3, c24, a24, k24, i24, bq3, bq9, wq1, wk, wa, wc, k9, c9, a9, k22, c22, a22, i22, fq5, fq1, t0, t1, t4, t6, t7, b4, b6, b7, n4, n6, n7, hO, hw1, hia0, hlen, hcl, hia, hw, hpos, h8z, hsb, hap, hbl, hbs, hcl2, hic2, hag, yc, yl, yt, ye, hI, hI2, hF2]
              rfl, .inr ⟨by simp, rfl, .inr ⟨16, R1, ks2, c4, c6, n4, n6, by decide, by simp [upd, putA, t4], by simp [upd, putA], by simp [upd, putA, t6], by simp [upd, b4, hzcs], by simp [upd, fEL, hpl], hS2.symm, hR.symm⟩⟩⟩
          · rw [hC] at hI2 hR
            simp only [if_true, th_ok] at hR
            have hw2 : IntKind.i64.wrap (((r + 1 : Nat) : Int) + 1) = ((r + 1 + 1 : Nat) : Int) := wr (r + 1) (by omega) 1 (by omega)
            have hlt2 := is_lt hC
            generalize zX.cells = zcs at *
            generalize zX.emb = zem at *
            generalize hz : z6 = z at *
            generalize hes : tkL l = es at *
            generalize hS1 : sS S ks = S1 at *
            generalize hS2 : sS S ks2 = S2 at *
            generalize hsl2 : kS S.T ks2 = sl2 at *
            generalize kS S.T ks = sl at *
            generalize hP2 : r + 1 + 1 = R2 at *
            generalize hP1 : r + 1 = R1 at *
            refine ⟨.norm, _, by
              simp (disch := first | (simp only [List.length_append, List.length_cons, List.length_nil]; omega) | (simp; done) | assumption) [AV.cells?, AV.isCell, -AV.cells?, cq_int, cq_agg, cq_slice, cq_str, -evBuild, -evBuildSlice, -evIndexAddr, -evLen, lpS, s0S, s1S, s2S, cutC, bodyOf, Tryz.f90, E_esc, hz25, ez, zc, zl, zt, ze, zd, l6, zzd, List.append_nil, ef, fz0, fc, fa, fk, fi, fq0', k3, c3, a3, i3, c24, a24, k24, i24, bq3, bq9, wq1, wk, wa, wc, k9, c9, a9, k22, c22, a22, i22, fq5, fq1, t0, t1, t4, t6, t7, b4, b6, b7, n4, n6, n7, hO, hw1, hia0, hlen, hcl, hia, hw, hpos, h8z, hsb, hap, hbl, hbs, hcl2, hic2, hag, yc, yl, yt, ye, hw2, hI, hI2]
              rfl, .inl ⟨rfl, l.length - R2, by omega, ks2, R2, f, c4, c6, c7, n4, n6, n7, rfl, hks2, by omega, by simp [upd, putA, t0, hes], by simp [upd, putA], by simp [upd, putA, t4], by simp [upd, putA, t6], by simp [upd, putA, t7], by simp [upd, b4, hz], by simp [upd, b6, fzL], by simp [upd, ksC, hsl2], hS2.symm, by omega, hR⟩⟩
        · rw [hB] at hI hR
          simp only [if_true] at hR
          have hw2 : IntKind.i64.wrap (((r + 1 : Nat) : Int) + 1) = ((r + 1 + 1 : Nat) : Int) := wr (r + 1) (by omega) 1 (by omega)
          have hlt2 := is_lt hB
          generalize zX.cells = zcs at *
          generalize zX.emb = zem at *
          generalize z6 = z at *
          generalize tkL l = es at *
          generalize hS1 : sS S ks = S1 at *
          generalize hS2 : sS S ks2 = S2 at *
          generalize hsl2 : kS S.T ks2 = sl2 at *
          generalize kS S.T ks = sl at *
          generalize hP2 : r + 1 + 1 = R2 at *
          generalize hP1 : r + 1 = R1 at *
          refine ⟨.ret, _, by
            simp (disch := first | (simp only [List.length_append, List.length_cons, List.length_nil]; omega) | (simp; done) | assumption) [AV.cells?, AV.isCell, -AV.cells?, cq_int, cq_agg, cq_slice, cq_str, -evBuild, -evBuildSlice, -evIndexAddr, -evLen, lpS, s0S, s1S, s2S, cutC, bodyOf, Tryz.f90, E_esc, hz25, ez, zc, zl, zt, ze, zd, l6, zzd, List.append_nil, ef, fz0, fc, fa, fk, fi, fq0', k3, c3, a3, i3, c24, a24, k24, i24, bq3, bq9, wq1, wk, wa, wc, k9, c9, a9, k22, c22, a22, i22, fq5, fq1, t0, t1, t4, t6, t7, b4, b6, b7, n4, n6, n7, hO, hw1, hia0, hlen, hcl, hia, hw, hpos, h8z, hsb, hap, hbl, hbs, hcl2, hic2, hag, yc, yl, yt, ye, hw2, hI]
            rfl, .inr ⟨by simp, rfl, .inl ⟨ks2, R2, c4, c6, n4, n6, hne2, by omega, by simp [upd, putA, t4], by simp [upd, putA], by simp [upd, putA, t6], by simp [upd, b4, ksC, hsl2], by simp [upd, fzL], hS2.symm, hR.symm⟩⟩⟩
end
end Go.Proofs.YtemggoaefohliaaGreatDoor.RP
/- The reference's parser: set, evaluated (printed by genrp.py). No condition. -/
namespace Go.Proofs.YtemggoaefohliaaGreatDoor.RP
set_option linter.unusedVariables false
set_option linter.unusedSimpArgs false
open Go AE EX PT NF LX PS
set_option maxRecDepth 100000
theorem fin_ex (S : St) (ex : List Nat) (v : AV) (hv : v.sealed = true) (hl : (v.strip S.T.length).low S.H.length S.T.length = true) : finish S v ⟨S.H, S.T ++ ex⟩ = some (v.strip S.T.length, S) := by
  unfold finish
  rw [if_pos hv]
  simp [boxEqL_refl, hl]
section
variable {l : List Tk} {k : Tok} (hl : l.length ≤ 2000000)
include hl
set_option maxHeartbeats 8000000 in
theorem r_set (n F : Nat) (hF : l.length < F) (hn : l.length ≤ n) : RSub l k (n + 2) 90 [] (setP (hereT l) F) := by
  intro p S hp
  have hz25 : zeroQ Tryz.prog 25 = some z6 := by kernel_rfl
  have l6 := z6_len
  have zzd : List.drop 6 z6 = [] := rfl
  have ez : evBuild Tryz.prog 25 [] = some zX.emb := bXz
  have zc := xcells zX
  have zl := xlen zX
  have zt := xtake zX
  have ze := xemb zX
  have zd : List.drop 6 zX.cells = [] := rfl
  have ef := bFz
  have wr : ∀ a : Nat, a ≤ 3000000 → ∀ b : Nat, b ≤ 10 → IntKind.i64.wrap ((a : Int) + (b : Int)) = ((a + b : Nat) : Int) := fun a ha b hb => by rw [wrap64 _ (by omega)]; omega
  have hw1 : IntKind.i64.wrap ((p : Int) + 1) = ((p + 1 : Nat) : Int) := wr p (by omega) 1 (by omega)
  have hI := ev_rIs n l k p 125 [] S
  have hb : evBuild Tryz.prog 25 [(0, .int .i64 4)] = some (.agg [.int .i64 4, .str [], .int .i64 0, .int .i64 0, .int .i64 0, .slice [] .clip]) := bX0 4
  have hcA := hc6 4 [] 0 0 0
  unfold setP
  cases hB : isB (hereT l) p [125]
  case true =>
    have hlt := is_lt hB
    rw [hB] at hI
    simp only [if_true]
    refine ⟨NZ_ok, Inb_ok (by omega), ?_⟩
    have hf := fin_ans l (.ok (leafX 4 [] 0 0, p + 1)) S
    rw [ansA_ok, leafE] at hf
    rw [ansA_ok, leafE]
    rw [ev_enter (n := n + 1) (show E.ok 90 = true from rfl) Tryz.func90 fbS (Nat.le_of_ble_eq_true rfl) (by decide +kernel)]
    simp only [fzL] at *
    generalize tkL l = es at *
    generalize p + 1 = P1 at *
    generalize z6 = z at *
    generalize zX.cells = zcs at *
    generalize zX.emb = zem at *
    generalize lpS = lp at *
    simp (disch := first | (simp only [List.length_append, List.length_cons, List.length_nil]; omega) | (simp; done) | assumption) [AV.cells?, AV.isCell, -AV.cells?, cq_int, cq_agg, cq_slice, cq_str, -evBuild, -evBuildSlice, -evIndexAddr, -evLen, s0S, s1S, s2S, cutC, bodyOf, Tryz.f90, E_esc, hz25, ez, zc, zl, zt, ze, zd, l6, zzd, List.append_nil, ef, fz0, fc, fa, fk, fi, fq0', k3, c3, a3, i3, c24, a24, k24, i24, bq3, bq9, wq1, wk, wa, wc, k9, c9, a9, k22, c22, a22, i22, fq5, fq1, hw1, hI, hb, hcA, hf]
  case false =>
    rw [hB] at hI
    simp only [Bool.false_eq_true, if_false]
    obtain ⟨fs1, e1, p1⟩ : ∃ fs', evCode ⟨Tryz.prog, E.esc 90, n + 1⟩ (ev Tryz.prog E (n + 1)) (E.ps 90) (n + 1) (.seq (.seq s0S s1S) s2S) ⟨argsA [.slice (tkL l) k, .int .i64 (p : Int)], fun _ => (0, []), 0, S⟩ = some (.norm, fs') ∧ SI l k (n + 1) S (setF (hereT l) F [] p) (l.length - p) fs' := by
      have hT : sS S [] = S := by simp [sS, kT]
      have hks : ksC S.T [] = [.int .i64 4, .str [], .int .i64 0, .int .i64 0, .int .i64 0, .slice [] .clip] := rfl
      generalize hz : z6 = z at *
      generalize zX.cells = zcs at *
      generalize zX.emb = zem at *
      generalize hes : tkL l = es at *
      simp only [fzL] at *
      refine ⟨_, by
        simp (disch := first | (simp only [List.length_append, List.length_cons, List.length_nil]; omega) | (simp; done) | assumption) [AV.cells?, AV.isCell, -AV.cells?, cq_int, cq_agg, cq_slice, cq_str, -evBuild, -evBuildSlice, -evIndexAddr, -evLen, s0S, s1S, s2S, cutC, bodyOf, Tryz.f90, E_esc, hz25, ez, zc, zl, zt, ze, zd, l6, zzd, List.append_nil, ef, fz0, fc, fa, fk, fi, fq0', k3, c3, a3, i3, c24, a24, k24, i24, bq3, bq9, wq1, wk, wa, wc, k9, c9, a9, k22, c22, a22, i22, fq5, fq1, hw1, hI, hb, hcA]
        rfl, [], p, F, 1, 3, 5, by decide, by decide, by decide, rfl, by simp, hp, by simp [upd, putA, argsA, hes], by simp [upd, putA, argsA], by simp [upd, putA], by simp [upd, putA], by simp [upd, putA], by simp [upd, hz], by simp [upd, fzL], by simp [upd, hks], hT.symm, by omega, rfl⟩
    obtain ⟨⟨o, fs2⟩, r1, r2⟩ := iter_meas (fun m' fs h => rdS hl n S _ m' fs h) (l.length - p) (n + 1) fs1 (by omega) p1
    rw [ev_enter (n := n + 1) (show E.ok 90 = true from rfl) Tryz.func90 fbS (Nat.le_of_ble_eq_true rfl) (by decide +kernel)]
    rw [evCode_assoc, evCode_assoc, evCode_seq, e1, seqK_norm, evCode_block, evCode_loop, r1]
    obtain ⟨t, b, c, S'⟩ := fs2
    obtain ⟨q1, r2⟩ := r2
    simp only at q1
    subst q1
    clear r1 e1 p1
    rcases r2 with ⟨ks, q, c4, c6, n4, n6, hne, hq, t4, t5, t6, b4, b6, hS, hR⟩ | ⟨c', q, ks, c4, c6, n4, n6, hc, t4, t5, t6, b4, b6, hS, hR⟩
    · simp only at t4 t5 t6 b4 b6 hS
      subst hS
      rw [hR, blockK_ret, ansA_ok]
      refine ⟨NZ_ok, Inb_ok hq, ?_⟩
      have hsl : AV.sealed (.tup [.agg (ksC S.T ks), .int .i64 (q : Int), .agg fzL]) = true := by
        have := kS_sealed S.T ks
        simp [ksC, fzL, AV.sealed, AV.sealedL, this]
      have hst : (AV.tup [.agg (ksC S.T ks), .int .i64 (q : Int), .agg fzL]).strip S.T.length = .tup [(setX ks).emb, .int .i64 (q : Int), .agg fzL] := by
        have := kS_strip S.T ks hne
        simp [ksC, fzL, AV.strip, AV.stripL, this, setX, X.emb, tokOf]
      have hf : finish S (.tup [.agg (ksC S.T ks), .int .i64 (q : Int), .agg fzL]) (sS S ks) = _ := fin_ex S (kT ks) _ hsl (by rw [hst]; simp [fzL, AV.low, AV.lowL, low_emb])
      rw [hst] at hf
      have hk6 : (ksC S.T ks).length = 6 := rfl
      have hkt : List.take 6 (ksC S.T ks) = ksC S.T ks := rfl
      clear hsl hst hR
      generalize sS S ks = S1 at *
      generalize (setX ks).emb = ze' at *
      generalize ksC S.T ks = kc at *
      simp only [fzL] at *
      generalize z6 = z at *
      generalize zX.cells = zcs at *
      generalize zX.emb = zem at *
      simp (disch := first | (simp only [List.length_append, List.length_cons, List.length_nil]; omega) | (simp; done) | assumption) [AV.cells?, AV.isCell, -AV.cells?, cq_int, cq_agg, cq_slice, cq_str, -evBuild, -evBuildSlice, -evIndexAddr, -evLen, s0S, s1S, s2S, cutC, bodyOf, Tryz.f90, E_esc, hz25, ez, zc, zl, zt, ze, zd, l6, zzd, List.append_nil, ef, fz0, fc, fa, fk, fi, fq0', k3, c3, a3, i3, c24, a24, k24, i24, bq3, bq9, wq1, wk, wa, wc, k9, c9, a9, k22, c22, a22, i22, fq5, fq1, t4, t5, t6, b4, b6, n4, n6, hk6, hkt, hf]
    · simp only at t4 t5 t6 b4 b6 hS
      subst hS
      rw [hR, blockK_ret, ansA_err]
      refine ⟨NZ_err hc, Inb_err, ?_⟩
      have hsl : AV.sealed (.tup [zX.emb, .int .i64 0, .agg (fEL c' (hereT l q).p)]) = true := by
        simp [fEL, AV.sealed, AV.sealedL, sealed_emb]
      have hst : (AV.tup [zX.emb, .int .i64 0, .agg (fEL c' (hereT l q).p)]).strip S.T.length = .tup [zX.emb, .int .i64 0, .agg (fEL c' (hereT l q).p)] := by
        simp [fEL, AV.strip, AV.stripL, strip_emb]
      have hf : finish S (.tup [zX.emb, .int .i64 0, .agg (fEL c' (hereT l q).p)]) (sS S ks) = _ := fin_ex S (kT ks) _ hsl (by rw [hst]; simp [fEL, AV.low, AV.lowL, low_emb])
      rw [hst] at hf
      clear hsl hst hR
      simp only [fEL] at *
      generalize (hereT l q).p = pl at *
      generalize sS S ks = S1 at *
      generalize z6 = z at *
      generalize zX.cells = zcs at *
      generalize zX.emb = zem at *
      simp (disch := first | (simp only [List.length_append, List.length_cons, List.length_nil]; omega) | (simp; done) | assumption) [AV.cells?, AV.isCell, -AV.cells?, cq_int, cq_agg, cq_slice, cq_str, -evBuild, -evBuildSlice, -evIndexAddr, -evLen, s0S, s1S, s2S, cutC, bodyOf, Tryz.f90, E_esc, hz25, ez, zc, zl, zt, ze, zd, l6, zzd, List.append_nil, ef, fz0, fc, fa, fk, fi, fq0', k3, c3, a3, i3, c24, a24, k24, i24, bq3, bq9, wq1, wk, wa, wc, k9, c9, a9, k22, c22, a22, i22, fq5, fq1, t4, t5, t6, b4, b6, n4, n6, hf]
end
end Go.Proofs.YtemggoaefohliaaGreatDoor.RP
