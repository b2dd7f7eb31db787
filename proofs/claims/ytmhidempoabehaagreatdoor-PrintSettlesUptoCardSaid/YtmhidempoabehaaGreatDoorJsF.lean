/- Joined: DpF, DpG, DpH, DpI, DpJ, DpK, DpL, DpM, DpN, SmB, DqG. No condition beyond those of its lemmas. -/
import Derived.Test.YtmhidempoabehaaGreatDoorJsE
/- The parser: rel, evaluated (printed by gendp2.py). No condition. -/
namespace Go.Proofs.YtmhidempoabehaaGreatDoor.PS
set_option linter.unusedVariables false
set_option linter.unusedSimpArgs false
open Go AE EX PT NF LX
set_option maxRecDepth 100000

section
variable {H0 : List HBox} {a : Nat} (ha : a < H0.length) (T : List Nat) (l : List Tk) (hl : l.length ≤ 2000000)
include ha hl
set_option maxHeartbeats 8000000 in
theorem ev56 (n d : Nat) (sub : Nat → PR X) (hs : Sub H0 T a l d (n + 2) 76 sub) : Sub H0 T a l d (n + 3) 61 (relP (hereT l) sub) := by
  intro p
  have hsub := hs p
  rw [show n + 3 = (n + 2) + 1 from rfl, ev_enter (n := n + 2) (show E.ok 61 = true from rfl) Tryz.func61 (fn := Tryz.f61) rfl (Nat.le_of_ble_eq_true rfl) (by decide +kernel)]
  unfold relP
  cases hq : sub p with
  | error z =>
    obtain ⟨c', q⟩ := z
    rw [hq, ansX_err] at hsub
    rw [th_err, ansX_err]
    have hf := fin_stop H0 T a l p d q c' q
    generalize PSt H0 T a l q d = L3 at *
    generalize PSt H0 T a l p d = L1 at *
    generalize stopV (hereT l) c' q = sv at *
    simp (disch := first | (simp only [List.length_append, List.length_cons, List.length_nil]; omega) | (simp; done) | assumption) [AV.cells?, AV.isCell, Tryz.f61, E_esc, hsub, z24', c24, a24, k24, i24, finPan, hf]
  | ok z =>
    obtain ⟨e, r⟩ := z
    rw [hq, ansX_ok] at hsub
    rw [th_ok]
    have hcx := xcells e
    have hlx := xlen e
    have htx := xtake e
    have hex := xemb e
    have hsub2 := hs (r + 1)
    have hi0 : ev Tryz.prog E (n + 2) 41 [.ptr a 0, .str [61]] (PSt H0 T a l r d) = _ := ev_is ha T l hl n r d _ _
    have hi1 : ev Tryz.prog E (n + 2) 41 [.ptr a 0, .str [33, 61]] (PSt H0 T a l r d) = _ := ev_is ha T l hl n r d _ _
    have hi2 : ev Tryz.prog E (n + 2) 41 [.ptr a 0, .str [60]] (PSt H0 T a l r d) = _ := ev_is ha T l hl n r d _ _
    have hi3 : ev Tryz.prog E (n + 2) 41 [.ptr a 0, .str [60, 61]] (PSt H0 T a l r d) = _ := ev_is ha T l hl n r d _ _
    have hi4 : ev Tryz.prog E (n + 2) 41 [.ptr a 0, .str [105, 110]] (PSt H0 T a l r d) = _ := ev_is ha T l hl n r d _ _
    by_cases hB0 : isB (hereT l) r [61] = true
    · rw [if_pos hB0]
      rw [hB0] at hi0
      simp only [if_true] at hi0
      have hps : E.ps 61 3 = [(0, 2), (2, 2)] := rfl
      cases hq2 : sub (r + 1) with
      | error z =>
        obtain ⟨c', q⟩ := z
        rw [hq2, ansX_err] at hsub2
        rw [th_err, ansX_err]
        have hf := fin_stop H0 T a l p d q c' q
        generalize PSt H0 T a l q d = L4 at *
        generalize PSt H0 T a l (r + 1) d = L3 at *
        generalize PSt H0 T a l r d = L2 at *
        generalize PSt H0 T a l p d = L1 at *
        generalize stopV (hereT l) c' q = sv at *
        generalize e.cells = ec at *
        generalize e.emb = ee at *
        simp (disch := first | (simp only [List.length_append, List.length_cons, List.length_nil]; omega) | (simp; done) | assumption) [AV.cells?, AV.isCell, -AV.cells?, Tryz.f61, E_esc, hsub, hsub2, hi0, hcx, hlx, htx, hex, z24', z6_len, c24, a24, k24, i24, hps, finPan, hf]
      | ok z =>
        obtain ⟨x, q⟩ := z
        rw [hq2, ansX_ok] at hsub2
        rw [th_ok, ansX_ok]
        have hbo := ev_both (n + 1) 14 e x (PSt H0 T a l q d)
        have hne := ev_one1 (n + 1) 18 (bothX 14 e x) (PSt H0 T a l q d)
        have hcz := xcells (bothX 14 e x)
        have hlz := xlen (bothX 14 e x)
        have htz := xtake (bothX 14 e x)
        have hez := xemb (bothX 14 e x)
        have hf := fin_X H0 T a l p d q (bothX 14 e x)
        generalize PSt H0 T a l q d = L4 at *
        generalize PSt H0 T a l (r + 1) d = L3 at *
        generalize PSt H0 T a l r d = L2 at *
        generalize PSt H0 T a l p d = L1 at *
        generalize (bothX 14 e x).cells = zc at *
        generalize (bothX 14 e x).emb = ze at *
        generalize (bothX 14 e x).emb = be at *
        generalize e.cells = ec at *
        generalize e.emb = ee at *
        generalize x.emb = xe at *
        simp (disch := first | (simp only [List.length_append, List.length_cons, List.length_nil]; omega) | (simp; done) | assumption) [AV.cells?, AV.isCell, -AV.cells?, Tryz.f61, E_esc, hsub, hsub2, hi0, hbo, hne, hcz, hlz, htz, hez, hcx, hlx, htx, hex, z24', z6_len, z6, c24, a24, k24, i24, hps, hf]
    rw [if_neg hB0]
    simp only [Bool.not_eq_true] at hB0
    rw [hB0] at hi0
    simp only [Bool.false_eq_true, if_false] at hi0
    by_cases hB1 : isB (hereT l) r [33, 61] = true
    · rw [if_pos hB1]
      rw [hB1] at hi1
      simp only [if_true] at hi1
      have hps : E.ps 61 5 = [(0, 2), (2, 2)] := rfl
      cases hq2 : sub (r + 1) with
      | error z =>
        obtain ⟨c', q⟩ := z
        rw [hq2, ansX_err] at hsub2
        rw [th_err, ansX_err]
        have hf := fin_stop H0 T a l p d q c' q
        generalize PSt H0 T a l q d = L4 at *
        generalize PSt H0 T a l (r + 1) d = L3 at *
        generalize PSt H0 T a l r d = L2 at *
        generalize PSt H0 T a l p d = L1 at *
        generalize stopV (hereT l) c' q = sv at *
        generalize e.cells = ec at *
        generalize e.emb = ee at *
        simp (disch := first | (simp only [List.length_append, List.length_cons, List.length_nil]; omega) | (simp; done) | assumption) [AV.cells?, AV.isCell, -AV.cells?, Tryz.f61, E_esc, hsub, hsub2, hi0, hi1, hcx, hlx, htx, hex, z24', z6_len, c24, a24, k24, i24, hps, finPan, hf]
      | ok z =>
        obtain ⟨x, q⟩ := z
        rw [hq2, ansX_ok] at hsub2
        rw [th_ok, ansX_ok]
        have hbo := ev_both (n + 1) 14 e x (PSt H0 T a l q d)
        have hne := ev_one1 (n + 1) 18 (bothX 14 e x) (PSt H0 T a l q d)
        have hcz := xcells (oneX 18 (bothX 14 e x))
        have hlz := xlen (oneX 18 (bothX 14 e x))
        have htz := xtake (oneX 18 (bothX 14 e x))
        have hez := xemb (oneX 18 (bothX 14 e x))
        have hf := fin_X H0 T a l p d q (oneX 18 (bothX 14 e x))
        generalize PSt H0 T a l q d = L4 at *
        generalize PSt H0 T a l (r + 1) d = L3 at *
        generalize PSt H0 T a l r d = L2 at *
        generalize PSt H0 T a l p d = L1 at *
        generalize (oneX 18 (bothX 14 e x)).cells = zc at *
        generalize (oneX 18 (bothX 14 e x)).emb = ze at *
        generalize (bothX 14 e x).emb = be at *
        generalize e.cells = ec at *
        generalize e.emb = ee at *
        generalize x.emb = xe at *
        simp (disch := first | (simp only [List.length_append, List.length_cons, List.length_nil]; omega) | (simp; done) | assumption) [AV.cells?, AV.isCell, -AV.cells?, Tryz.f61, E_esc, hsub, hsub2, hi0, hi1, hbo, hne, hcz, hlz, htz, hez, hcx, hlx, htx, hex, z24', z6_len, z6, c24, a24, k24, i24, hps, hf]
    rw [if_neg hB1]
    simp only [Bool.not_eq_true] at hB1
    rw [hB1] at hi1
    simp only [Bool.false_eq_true, if_false] at hi1
    by_cases hB2 : isB (hereT l) r [60] = true
    · rw [if_pos hB2]
      rw [hB2] at hi2
      simp only [if_true] at hi2
      have hps : E.ps 61 7 = [(0, 2), (2, 2)] := rfl
      cases hq2 : sub (r + 1) with
      | error z =>
        obtain ⟨c', q⟩ := z
        rw [hq2, ansX_err] at hsub2
        rw [th_err, ansX_err]
        have hf := fin_stop H0 T a l p d q c' q
        generalize PSt H0 T a l q d = L4 at *
        generalize PSt H0 T a l (r + 1) d = L3 at *
        generalize PSt H0 T a l r d = L2 at *
        generalize PSt H0 T a l p d = L1 at *
        generalize stopV (hereT l) c' q = sv at *
        generalize e.cells = ec at *
        generalize e.emb = ee at *
        simp (disch := first | (simp only [List.length_append, List.length_cons, List.length_nil]; omega) | (simp; done) | assumption) [AV.cells?, AV.isCell, -AV.cells?, Tryz.f61, E_esc, hsub, hsub2, hi0, hi1, hi2, hcx, hlx, htx, hex, z24', z6_len, c24, a24, k24, i24, hps, finPan, hf]
      | ok z =>
        obtain ⟨x, q⟩ := z
        rw [hq2, ansX_ok] at hsub2
        rw [th_ok, ansX_ok]
        have hbo := ev_both (n + 1) 15 e x (PSt H0 T a l q d)
        have hne := ev_one1 (n + 1) 18 (bothX 15 e x) (PSt H0 T a l q d)
        have hcz := xcells (bothX 15 e x)
        have hlz := xlen (bothX 15 e x)
        have htz := xtake (bothX 15 e x)
        have hez := xemb (bothX 15 e x)
        have hf := fin_X H0 T a l p d q (bothX 15 e x)
        generalize PSt H0 T a l q d = L4 at *
        generalize PSt H0 T a l (r + 1) d = L3 at *
        generalize PSt H0 T a l r d = L2 at *
        generalize PSt H0 T a l p d = L1 at *
        generalize (bothX 15 e x).cells = zc at *
        generalize (bothX 15 e x).emb = ze at *
        generalize (bothX 15 e x).emb = be at *
        generalize e.cells = ec at *
        generalize e.emb = ee at *
        generalize x.emb = xe at *
        simp (disch := first | (simp only [List.length_append, List.length_cons, List.length_nil]; omega) | (simp; done) | assumption) [AV.cells?, AV.isCell, -AV.cells?, Tryz.f61, E_esc, hsub, hsub2, hi0, hi1, hi2, hbo, hne, hcz, hlz, htz, hez, hcx, hlx, htx, hex, z24', z6_len, z6, c24, a24, k24, i24, hps, hf]
    rw [if_neg hB2]
    simp only [Bool.not_eq_true] at hB2
    rw [hB2] at hi2
    simp only [Bool.false_eq_true, if_false] at hi2
    by_cases hB3 : isB (hereT l) r [60, 61] = true
    · rw [if_pos hB3]
      rw [hB3] at hi3
      simp only [if_true] at hi3
      have hps : E.ps 61 9 = [(0, 2), (2, 2)] := rfl
      cases hq2 : sub (r + 1) with
      | error z =>
        obtain ⟨c', q⟩ := z
        rw [hq2, ansX_err] at hsub2
        rw [th_err, ansX_err]
        have hf := fin_stop H0 T a l p d q c' q
        generalize PSt H0 T a l q d = L4 at *
        generalize PSt H0 T a l (r + 1) d = L3 at *
        generalize PSt H0 T a l r d = L2 at *
        generalize PSt H0 T a l p d = L1 at *
        generalize stopV (hereT l) c' q = sv at *
        generalize e.cells = ec at *
        generalize e.emb = ee at *
        simp (disch := first | (simp only [List.length_append, List.length_cons, List.length_nil]; omega) | (simp; done) | assumption) [AV.cells?, AV.isCell, -AV.cells?, Tryz.f61, E_esc, hsub, hsub2, hi0, hi1, hi2, hi3, hcx, hlx, htx, hex, z24', z6_len, c24, a24, k24, i24, hps, finPan, hf]
      | ok z =>
        obtain ⟨x, q⟩ := z
        rw [hq2, ansX_ok] at hsub2
        rw [th_ok, ansX_ok]
        have hbo := ev_both (n + 1) 16 e x (PSt H0 T a l q d)
        have hne := ev_one1 (n + 1) 18 (bothX 16 e x) (PSt H0 T a l q d)
        have hcz := xcells (bothX 16 e x)
        have hlz := xlen (bothX 16 e x)
        have htz := xtake (bothX 16 e x)
        have hez := xemb (bothX 16 e x)
        have hf := fin_X H0 T a l p d q (bothX 16 e x)
        generalize PSt H0 T a l q d = L4 at *
        generalize PSt H0 T a l (r + 1) d = L3 at *
        generalize PSt H0 T a l r d = L2 at *
        generalize PSt H0 T a l p d = L1 at *
        generalize (bothX 16 e x).cells = zc at *
        generalize (bothX 16 e x).emb = ze at *
        generalize (bothX 16 e x).emb = be at *
        generalize e.cells = ec at *
        generalize e.emb = ee at *
        generalize x.emb = xe at *
        simp (disch := first | (simp only [List.length_append, List.length_cons, List.length_nil]; omega) | (simp; done) | assumption) [AV.cells?, AV.isCell, -AV.cells?, Tryz.f61, E_esc, hsub, hsub2, hi0, hi1, hi2, hi3, hbo, hne, hcz, hlz, htz, hez, hcx, hlx, htx, hex, z24', z6_len, z6, c24, a24, k24, i24, hps, hf]
    rw [if_neg hB3]
    simp only [Bool.not_eq_true] at hB3
    rw [hB3] at hi3
    simp only [Bool.false_eq_true, if_false] at hi3
    by_cases hB4 : isB (hereT l) r [105, 110] = true
    · rw [if_pos hB4]
      rw [hB4] at hi4
      simp only [if_true] at hi4
      have hps : E.ps 61 11 = [(0, 2), (2, 2)] := rfl
      cases hq2 : sub (r + 1) with
      | error z =>
        obtain ⟨c', q⟩ := z
        rw [hq2, ansX_err] at hsub2
        rw [th_err, ansX_err]
        have hf := fin_stop H0 T a l p d q c' q
        generalize PSt H0 T a l q d = L4 at *
        generalize PSt H0 T a l (r + 1) d = L3 at *
        generalize PSt H0 T a l r d = L2 at *
        generalize PSt H0 T a l p d = L1 at *
        generalize stopV (hereT l) c' q = sv at *
        generalize e.cells = ec at *
        generalize e.emb = ee at *
        simp (disch := first | (simp only [List.length_append, List.length_cons, List.length_nil]; omega) | (simp; done) | assumption) [AV.cells?, AV.isCell, -AV.cells?, Tryz.f61, E_esc, hsub, hsub2, hi0, hi1, hi2, hi3, hi4, hcx, hlx, htx, hex, z24', z6_len, c24, a24, k24, i24, hps, finPan, hf]
      | ok z =>
        obtain ⟨x, q⟩ := z
        rw [hq2, ansX_ok] at hsub2
        rw [th_ok, ansX_ok]
        have hbo := ev_both (n + 1) 17 e x (PSt H0 T a l q d)
        have hne := ev_one1 (n + 1) 18 (bothX 17 e x) (PSt H0 T a l q d)
        have hcz := xcells (bothX 17 e x)
        have hlz := xlen (bothX 17 e x)
        have htz := xtake (bothX 17 e x)
        have hez := xemb (bothX 17 e x)
        have hf := fin_X H0 T a l p d q (bothX 17 e x)
        generalize PSt H0 T a l q d = L4 at *
        generalize PSt H0 T a l (r + 1) d = L3 at *
        generalize PSt H0 T a l r d = L2 at *
        generalize PSt H0 T a l p d = L1 at *
        generalize (bothX 17 e x).cells = zc at *
        generalize (bothX 17 e x).emb = ze at *
        generalize (bothX 17 e x).emb = be at *
        generalize e.cells = ec at *
        generalize e.emb = ee at *
        generalize x.emb = xe at *
        simp (disch := first | (simp only [List.length_append, List.length_cons, List.length_nil]; omega) | (simp; done) | assumption) [AV.cells?, AV.isCell, -AV.cells?, Tryz.f61, E_esc, hsub, hsub2, hi0, hi1, hi2, hi3, hi4, hbo, hne, hcz, hlz, htz, hez, hcx, hlx, htx, hex, z24', z6_len, z6, c24, a24, k24, i24, hps, hf]
    rw [if_neg hB4]
    simp only [Bool.not_eq_true] at hB4
    rw [hB4] at hi4
    simp only [Bool.false_eq_true, if_false] at hi4
    rw [ansX_ok]
    have hf := fin_X H0 T a l p d r e
    generalize PSt H0 T a l r d = L2 at *
    generalize PSt H0 T a l p d = L1 at *
    generalize e.cells = ec at *
    generalize e.emb = ee at *
    simp (disch := first | (simp only [List.length_append, List.length_cons, List.length_nil]; omega) | (simp; done) | assumption) [AV.cells?, AV.isCell, -AV.cells?, Tryz.f61, E_esc, hsub, hi0, hi1, hi2, hi3, hi4, hcx, hlx, htx, hex, z24', z6_len, z6, c24, a24, k24, i24, hf]
end
end Go.Proofs.YtmhidempoabehaaGreatDoor.PS
/- The parser: argument, attribute, counted, span, evaluated. No condition. -/
namespace Go.Proofs.YtmhidempoabehaaGreatDoor.PS
set_option linter.unusedVariables false
set_option linter.unusedSimpArgs false
open Go AE EX PT NF LX
set_option maxRecDepth 100000

/-- an answer: what a value is to the evaluator -/
def ansR {α : Type} (H0 : List HBox) (T : List Nat) (a : Nat) (l : List Tk) (d : Nat) (g : α → AV) : PR α → Option (Res × St)
  | .ok (x, q) => some (.ret (g x), PSt H0 T a l q d)
  | .error (c, q) => some (.pan (stopV (hereT l) c q), PSt H0 T a l q d)
theorem ansR_ok {α : Type} (H0 : List HBox) (T : List Nat) (a : Nat) (l : List Tk) (d : Nat) (g : α → AV) (x : α) (q : Nat) : ansR H0 T a l d g (.ok (x, q)) = some (.ret (g x), PSt H0 T a l q d) := rfl
theorem ansR_err {α : Type} (H0 : List HBox) (T : List Nat) (a : Nat) (l : List Tk) (d : Nat) (g : α → AV) (c : Int) (q : Nat) : ansR H0 T a l d g (.error (c, q)) = some (.pan (stopV (hereT l) c q), PSt H0 T a l q d) := rfl

section
variable {H0 : List HBox} {a : Nat} (ha : a < H0.length) (T : List Nat) (l : List Tk) (hl : l.length ≤ 2000000)
include ha hl
theorem ev_need (n p d : Nat) (c : UInt8) (q : List UInt8) : ev Tryz.prog E (n + 4) 88 [.ptr a 0, .str (c :: q)] (PSt H0 T a l p d) = ansR H0 T a l d (fun _ => .tup []) (needP (hereT l) (c :: q) p) := by
  unfold needP
  cases hB : isB (hereT l) p (c :: q)
  · rw [if_neg (by simp)]
    exact ev_needF ha T l hl n p d c q hB
  · rw [if_pos rfl]
    exact ev_needT ha T l hl n p d c q hB
theorem ev_take (n p d : Nat) (k : Int) (hk : k ≠ 5) : ev Tryz.prog E (n + 3) 94 [.ptr a 0, .int .i64 k] (PSt H0 T a l p d) = ansR H0 T a l d Tk.emb (takeP (hereT l) k p) := by
  unfold takeP
  by_cases h : (hereT l p).k = k
  · rw [if_pos h]
    exact ev_takeT ha T l hl n p d k hk h
  · rw [if_neg h]
    exact ev_takeF ha T l hl n p d k h
end
end Go.Proofs.YtmhidempoabehaaGreatDoor.PS
/- The parser: argument, attribute, counted, span, evaluated (printed by gendp3.py). No condition. -/
namespace Go.Proofs.YtmhidempoabehaaGreatDoor.PS
set_option linter.unusedVariables false
set_option linter.unusedSimpArgs false
open Go AE EX PT NF LX
set_option maxRecDepth 100000
theorem fin_ii (H0 : List HBox) (T : List Nat) (a : Nat) (l : List Tk) (p d q : Nat) (x y : Int) : finish (PSt H0 T a l p d) (.tup [.int .i64 x, .int .i64 y]) (PSt H0 T a l q d) = some (.tup [.int .i64 x, .int .i64 y], PSt H0 T a l q d) :=
  PSt_fin T l p d q d rfl rfl rfl
theorem leaf_emb (k : Int) (s : List UInt8) (n hi : Int) : (leafX k s n hi).emb = .agg [.int .i64 k, .str s, .int .i64 n, .int .i64 0, .int .i64 hi, .slice [] .clip] := rfl
theorem bX1' (k : Int) (s : List UInt8) : evBuild Tryz.prog 25 [(0, .int .i64 k), (1, .str s)] = some (.agg [.int .i64 k, .str s, .int .i64 0, .int .i64 0, .int .i64 0, .slice [] .clip]) := bX1 k s
section
variable {H0 : List HBox} {a : Nat} (ha : a < H0.length) (T : List Nat) (l : List Tk) (hl : l.length ≤ 2000000)
include ha hl
set_option maxHeartbeats 4000000 in
theorem ev79 (n d : Nat) (any : Nat → PR X) (hs : Sub H0 T a l d (n + 4) 26 any) : Sub H0 T a l d (n + 5) 92 (argP (hereT l) any) := by
  intro p
  rw [show n + 5 = (n + 4) + 1 from rfl, ev_enter (n := n + 4) (show E.ok 92 = true from rfl) Tryz.func92 (fn := Tryz.f92) rfl (Nat.le_of_ble_eq_true rfl) (by decide +kernel)]
  unfold argP
  have h1 : ev Tryz.prog E (n + 4) 88 [.ptr a 0, .str [40]] (PSt H0 T a l (p) d) = _ := ev_need ha T l hl n (p) d _ _
  cases e1 : needP (hereT l) [40] (p) with
  | error z =>
    obtain ⟨c', w⟩ := z
    rw [e1, ansR_err] at h1
    rw [th_err, ansX_err]
    have hf := fin_stop H0 T a l p d w c' w
    generalize PSt H0 T a l (w) d = L0 at *
    generalize PSt H0 T a l (p) d = L1 at *
    generalize stopV (hereT l) c' w = sv at *
    simp (disch := first | (simp only [List.length_append, List.length_cons, List.length_nil]; omega) | (simp; done) | assumption) [AV.cells?, AV.isCell, -AV.cells?, cq_int, cq_str, cq_slice, cq_bool, -evBuild, -evBuildSlice, Tryz.f92, E_esc, h1, z24', z6_len, c24, a24, k24, i24, tq46_0, tq46_1, tq46_2, tc46, ta46, tk46, ti46, tz46, fq0, fq3, fq4, fq5, c3, a3, k3, i3, c2, a2, k2, i2, c22, a22, k22, bq3, bq2, finPan, hf]
  | ok z =>
    obtain ⟨_u1, r1⟩ := z
    rw [e1, ansR_ok] at h1
    rw [th_ok]
    have h2 := hs (r1)
    cases e2 : any (r1) with
    | error z =>
      obtain ⟨c', w⟩ := z
      rw [e2, ansX_err] at h2
      rw [th_err, ansX_err]
      have hf := fin_stop H0 T a l p d w c' w
      generalize PSt H0 T a l (w) d = L0 at *
      generalize PSt H0 T a l (r1) d = L1 at *
      generalize PSt H0 T a l (p) d = L2 at *
      generalize stopV (hereT l) c' w = sv at *
      simp (disch := first | (simp only [List.length_append, List.length_cons, List.length_nil]; omega) | (simp; done) | assumption) [AV.cells?, AV.isCell, -AV.cells?, cq_int, cq_str, cq_slice, cq_bool, -evBuild, -evBuildSlice, Tryz.f92, E_esc, h1, h2, z24', z6_len, c24, a24, k24, i24, tq46_0, tq46_1, tq46_2, tc46, ta46, tk46, ti46, tz46, fq0, fq3, fq4, fq5, c3, a3, k3, i3, c2, a2, k2, i2, c22, a22, k22, bq3, bq2, finPan, hf]
    | ok z =>
      obtain ⟨x, r2⟩ := z
      rw [e2, ansX_ok] at h2
      rw [th_ok]
      have hcx := xcells x
      have hlx := xlen x
      have htx := xtake x
      have hex := xemb x
      have h3 : ev Tryz.prog E (n + 4) 88 [.ptr a 0, .str [41]] (PSt H0 T a l (r2) d) = _ := ev_need ha T l hl n (r2) d _ _
      cases e3 : needP (hereT l) [41] (r2) with
      | error z =>
        obtain ⟨c', w⟩ := z
        rw [e3, ansR_err] at h3
        rw [th_err, ansX_err]
        have hf := fin_stop H0 T a l p d w c' w
        generalize PSt H0 T a l (w) d = L0 at *
        generalize PSt H0 T a l (r2) d = L1 at *
        generalize PSt H0 T a l (r1) d = L2 at *
        generalize PSt H0 T a l (p) d = L3 at *
        generalize stopV (hereT l) c' w = sv at *
        generalize x.cells = xc at *
        generalize x.emb = xe at *
        simp (disch := first | (simp only [List.length_append, List.length_cons, List.length_nil]; omega) | (simp; done) | assumption) [AV.cells?, AV.isCell, -AV.cells?, cq_int, cq_str, cq_slice, cq_bool, -evBuild, -evBuildSlice, Tryz.f92, E_esc, h1, h2, h3, hcx, hlx, htx, hex, z24', z6_len, c24, a24, k24, i24, tq46_0, tq46_1, tq46_2, tc46, ta46, tk46, ti46, tz46, fq0, fq3, fq4, fq5, c3, a3, k3, i3, c2, a2, k2, i2, c22, a22, k22, bq3, bq2, finPan, hf]
      | ok z =>
        obtain ⟨_u3, r3⟩ := z
        rw [e3, ansR_ok] at h3
        rw [th_ok]
        rw [ansX_ok]
        have hf := fin_X H0 T a l p d (r3) (x)
        generalize PSt H0 T a l (r3) d = L0 at *
        generalize PSt H0 T a l (r2) d = L1 at *
        generalize PSt H0 T a l (r1) d = L2 at *
        generalize PSt H0 T a l (p) d = L3 at *
        generalize x.cells = xc at *
        generalize x.emb = xe at *
        simp (disch := first | (simp only [List.length_append, List.length_cons, List.length_nil]; omega) | (simp; done) | assumption) [AV.cells?, AV.isCell, -AV.cells?, cq_int, cq_str, cq_slice, cq_bool, -evBuild, -evBuildSlice, Tryz.f92, E_esc, h1, h2, h3, hcx, hlx, htx, hex, z24', z6_len, c24, a24, k24, i24, tq46_0, tq46_1, tq46_2, tc46, ta46, tk46, ti46, tz46, fq0, fq3, fq4, fq5, c3, a3, k3, i3, c2, a2, k2, i2, c22, a22, k22, bq3, bq2, z6, hf]
set_option maxHeartbeats 4000000 in
theorem ev77 (n p d : Nat) (side : Int) : ev Tryz.prog E (n + 5) 90 [.ptr a 0, .int .i64 side] (PSt H0 T a l p d) = ansX H0 T a l d (attrP (hereT l) side p) := by
  rw [show n + 5 = (n + 4) + 1 from rfl, ev_enter (n := n + 4) (show E.ok 90 = true from rfl) Tryz.func90 (fn := Tryz.f90) rfl (Nat.le_of_ble_eq_true rfl) (by decide +kernel)]
  unfold attrP
  have h1 : ev Tryz.prog E (n + 4) 88 [.ptr a 0, .str [46]] (PSt H0 T a l (p) d) = _ := ev_need ha T l hl n (p) d _ _
  cases e1 : needP (hereT l) [46] (p) with
  | error z =>
    obtain ⟨c', w⟩ := z
    rw [e1, ansR_err] at h1
    rw [th_err, ansX_err]
    have hf := fin_stop H0 T a l p d w c' w
    generalize PSt H0 T a l (w) d = L0 at *
    generalize PSt H0 T a l (p) d = L1 at *
    generalize stopV (hereT l) c' w = sv at *
    simp (disch := first | (simp only [List.length_append, List.length_cons, List.length_nil]; omega) | (simp; done) | assumption) [AV.cells?, AV.isCell, -AV.cells?, cq_int, cq_str, cq_slice, cq_bool, -evBuild, -evBuildSlice, Tryz.f90, E_esc, h1, z24', z6_len, c24, a24, k24, i24, tq46_0, tq46_1, tq46_2, tc46, ta46, tk46, ti46, tz46, fq0, fq3, fq4, fq5, c3, a3, k3, i3, c2, a2, k2, i2, c22, a22, k22, bq3, bq2, finPan, hf]
  | ok z =>
    obtain ⟨_u1, r1⟩ := z
    rw [e1, ansR_ok] at h1
    rw [th_ok]
    have h2 : ev Tryz.prog E (n + 4) 94 [.ptr a 0, .int .i64 1] (PSt H0 T a l (r1) d) = _ := ev_take ha T l hl (n + 1) (r1) d 1 (by decide)
    cases e2 : takeP (hereT l) 1 (r1) with
    | error z =>
      obtain ⟨c', w⟩ := z
      rw [e2, ansR_err] at h2
      rw [th_err, ansX_err]
      have hf := fin_stop H0 T a l p d w c' w
      generalize PSt H0 T a l (w) d = L0 at *
      generalize PSt H0 T a l (r1) d = L1 at *
      generalize PSt H0 T a l (p) d = L2 at *
      generalize stopV (hereT l) c' w = sv at *
      simp (disch := first | (simp only [List.length_append, List.length_cons, List.length_nil]; omega) | (simp; done) | assumption) [AV.cells?, AV.isCell, -AV.cells?, cq_int, cq_str, cq_slice, cq_bool, -evBuild, -evBuildSlice, Tryz.f90, E_esc, h1, h2, z24', z6_len, c24, a24, k24, i24, tq46_0, tq46_1, tq46_2, tc46, ta46, tk46, ti46, tz46, fq0, fq3, fq4, fq5, c3, a3, k3, i3, c2, a2, k2, i2, c22, a22, k22, bq3, bq2, finPan, hf]
    | ok z =>
      obtain ⟨t, r2⟩ := z
      rw [e2, ansR_ok] at h2
      rw [th_ok]
      obtain ⟨tk, ts, tn, tp⟩ := t
      simp only [Tk.emb, Tk.cells] at h2
      rw [ansX_ok]
      have hf := fin_X H0 T a l p d (r2) (leafX side ts 0 0)
      simp only [leaf_emb] at hf ⊢
      generalize PSt H0 T a l (r2) d = L0 at *
      generalize PSt H0 T a l (r1) d = L1 at *
      generalize PSt H0 T a l (p) d = L2 at *
      simp (disch := first | (simp only [List.length_append, List.length_cons, List.length_nil]; omega) | (simp; done) | assumption) [AV.cells?, AV.isCell, -AV.cells?, cq_int, cq_str, cq_slice, cq_bool, -evBuild, -evBuildSlice, Tryz.f90, E_esc, h1, h2, z24', z6_len, c24, a24, k24, i24, tq46_0, tq46_1, tq46_2, tc46, ta46, tk46, ti46, tz46, fq0, fq3, fq4, fq5, c3, a3, k3, i3, c2, a2, k2, i2, c22, a22, k22, bq3, bq2, bX1', z6, hf]
set_option maxHeartbeats 4000000 in
theorem ev78a (n p d : Nat) : ev Tryz.prog E (n + 5) 91 [.ptr a 0, .bool false] (PSt H0 T a l p d) = ansX H0 T a l d (actP (hereT l) p) := by
  rw [show n + 5 = (n + 4) + 1 from rfl, ev_enter (n := n + 4) (show E.ok 91 = true from rfl) Tryz.func91 (fn := Tryz.f91) rfl (Nat.le_of_ble_eq_true rfl) (by decide +kernel)]
  unfold actP
  have h1 : ev Tryz.prog E (n + 4) 88 [.ptr a 0, .str [40]] (PSt H0 T a l (p) d) = _ := ev_need ha T l hl n (p) d _ _
  cases e1 : needP (hereT l) [40] (p) with
  | error z =>
    obtain ⟨c', w⟩ := z
    rw [e1, ansR_err] at h1
    rw [th_err, ansX_err]
    have hf := fin_stop H0 T a l p d w c' w
    generalize PSt H0 T a l (w) d = L0 at *
    generalize PSt H0 T a l (p) d = L1 at *
    generalize stopV (hereT l) c' w = sv at *
    simp (disch := first | (simp only [List.length_append, List.length_cons, List.length_nil]; omega) | (simp; done) | assumption) [AV.cells?, AV.isCell, -AV.cells?, cq_int, cq_str, cq_slice, cq_bool, -evBuild, -evBuildSlice, Tryz.f91, E_esc, bX1', h1, z24', z6_len, c24, a24, k24, i24, tq46_0, tq46_1, tq46_2, tc46, ta46, tk46, ti46, tz46, fq0, fq3, fq4, fq5, c3, a3, k3, i3, c2, a2, k2, i2, c22, a22, k22, bq3, bq2, finPan, hf]
  | ok z =>
    obtain ⟨_u1, r1⟩ := z
    rw [e1, ansR_ok] at h1
    rw [th_ok]
    have h2 : ev Tryz.prog E (n + 4) 94 [.ptr a 0, .int .i64 1] (PSt H0 T a l (r1) d) = _ := ev_take ha T l hl (n + 1) (r1) d 1 (by decide)
    cases e2 : takeP (hereT l) 1 (r1) with
    | error z =>
      obtain ⟨c', w⟩ := z
      rw [e2, ansR_err] at h2
      rw [th_err, ansX_err]
      have hf := fin_stop H0 T a l p d w c' w
      generalize PSt H0 T a l (w) d = L0 at *
      generalize PSt H0 T a l (r1) d = L1 at *
      generalize PSt H0 T a l (p) d = L2 at *
      generalize stopV (hereT l) c' w = sv at *
      simp (disch := first | (simp only [List.length_append, List.length_cons, List.length_nil]; omega) | (simp; done) | assumption) [AV.cells?, AV.isCell, -AV.cells?, cq_int, cq_str, cq_slice, cq_bool, -evBuild, -evBuildSlice, Tryz.f91, E_esc, bX1', h1, h2, z24', z6_len, c24, a24, k24, i24, tq46_0, tq46_1, tq46_2, tc46, ta46, tk46, ti46, tz46, fq0, fq3, fq4, fq5, c3, a3, k3, i3, c2, a2, k2, i2, c22, a22, k22, bq3, bq2, finPan, hf]
    | ok z =>
      obtain ⟨t, r2⟩ := z
      rw [e2, ansR_ok] at h2
      rw [th_ok]
      obtain ⟨tk, ts, tn, tp⟩ := t
      simp only [Tk.emb, Tk.cells] at h2
      have h3 : ev Tryz.prog E (n + 4) 88 [.ptr a 0, .str [41]] (PSt H0 T a l (r2) d) = _ := ev_need ha T l hl n (r2) d _ _
      cases e3 : needP (hereT l) [41] (r2) with
      | error z =>
        obtain ⟨c', w⟩ := z
        rw [e3, ansR_err] at h3
        rw [th_err, ansX_err]
        have hf := fin_stop H0 T a l p d w c' w
        generalize PSt H0 T a l (w) d = L0 at *
        generalize PSt H0 T a l (r2) d = L1 at *
        generalize PSt H0 T a l (r1) d = L2 at *
        generalize PSt H0 T a l (p) d = L3 at *
        generalize stopV (hereT l) c' w = sv at *
        simp (disch := first | (simp only [List.length_append, List.length_cons, List.length_nil]; omega) | (simp; done) | assumption) [AV.cells?, AV.isCell, -AV.cells?, cq_int, cq_str, cq_slice, cq_bool, -evBuild, -evBuildSlice, Tryz.f91, E_esc, bX1', h1, h2, h3, z24', z6_len, c24, a24, k24, i24, tq46_0, tq46_1, tq46_2, tc46, ta46, tk46, ti46, tz46, fq0, fq3, fq4, fq5, c3, a3, k3, i3, c2, a2, k2, i2, c22, a22, k22, bq3, bq2, finPan, hf]
      | ok z =>
        obtain ⟨_u3, r3⟩ := z
        rw [e3, ansR_ok] at h3
        rw [th_ok]
        rw [ansX_ok]
        have hf := fin_X H0 T a l p d (r3) (leafX 21 ts 0 0)
        simp only [leaf_emb] at hf ⊢
        generalize PSt H0 T a l (r3) d = L0 at *
        generalize PSt H0 T a l (r2) d = L1 at *
        generalize PSt H0 T a l (r1) d = L2 at *
        generalize PSt H0 T a l (p) d = L3 at *
        simp (disch := first | (simp only [List.length_append, List.length_cons, List.length_nil]; omega) | (simp; done) | assumption) [AV.cells?, AV.isCell, -AV.cells?, cq_int, cq_str, cq_slice, cq_bool, -evBuild, -evBuildSlice, Tryz.f91, E_esc, bX1', h1, h2, h3, z24', z6_len, c24, a24, k24, i24, tq46_0, tq46_1, tq46_2, tc46, ta46, tk46, ti46, tz46, fq0, fq3, fq4, fq5, c3, a3, k3, i3, c2, a2, k2, i2, c22, a22, k22, bq3, bq2, z6, hf]
set_option maxHeartbeats 4000000 in
theorem ev78b (n p d : Nat) : ev Tryz.prog E (n + 5) 91 [.ptr a 0, .bool true] (PSt H0 T a l p d) = ansX H0 T a l d (timesP (hereT l) p) := by
  rw [show n + 5 = (n + 4) + 1 from rfl, ev_enter (n := n + 4) (show E.ok 91 = true from rfl) Tryz.func91 (fn := Tryz.f91) rfl (Nat.le_of_ble_eq_true rfl) (by decide +kernel)]
  unfold timesP
  have h1 : ev Tryz.prog E (n + 4) 88 [.ptr a 0, .str [40]] (PSt H0 T a l (p) d) = _ := ev_need ha T l hl n (p) d _ _
  cases e1 : needP (hereT l) [40] (p) with
  | error z =>
    obtain ⟨c', w⟩ := z
    rw [e1, ansR_err] at h1
    rw [th_err, ansX_err]
    have hf := fin_stop H0 T a l p d w c' w
    generalize PSt H0 T a l (w) d = L0 at *
    generalize PSt H0 T a l (p) d = L1 at *
    generalize stopV (hereT l) c' w = sv at *
    simp (disch := first | (simp only [List.length_append, List.length_cons, List.length_nil]; omega) | (simp; done) | assumption) [AV.cells?, AV.isCell, -AV.cells?, cq_int, cq_str, cq_slice, cq_bool, -evBuild, -evBuildSlice, Tryz.f91, E_esc, bX1', h1, z24', z6_len, c24, a24, k24, i24, tq46_0, tq46_1, tq46_2, tc46, ta46, tk46, ti46, tz46, fq0, fq3, fq4, fq5, c3, a3, k3, i3, c2, a2, k2, i2, c22, a22, k22, bq3, bq2, finPan, hf]
  | ok z =>
    obtain ⟨_u1, r1⟩ := z
    rw [e1, ansR_ok] at h1
    rw [th_ok]
    have h2 : ev Tryz.prog E (n + 4) 94 [.ptr a 0, .int .i64 1] (PSt H0 T a l (r1) d) = _ := ev_take ha T l hl (n + 1) (r1) d 1 (by decide)
    cases e2 : takeP (hereT l) 1 (r1) with
    | error z =>
      obtain ⟨c', w⟩ := z
      rw [e2, ansR_err] at h2
      rw [th_err, ansX_err]
      have hf := fin_stop H0 T a l p d w c' w
      generalize PSt H0 T a l (w) d = L0 at *
      generalize PSt H0 T a l (r1) d = L1 at *
      generalize PSt H0 T a l (p) d = L2 at *
      generalize stopV (hereT l) c' w = sv at *
      simp (disch := first | (simp only [List.length_append, List.length_cons, List.length_nil]; omega) | (simp; done) | assumption) [AV.cells?, AV.isCell, -AV.cells?, cq_int, cq_str, cq_slice, cq_bool, -evBuild, -evBuildSlice, Tryz.f91, E_esc, bX1', h1, h2, z24', z6_len, c24, a24, k24, i24, tq46_0, tq46_1, tq46_2, tc46, ta46, tk46, ti46, tz46, fq0, fq3, fq4, fq5, c3, a3, k3, i3, c2, a2, k2, i2, c22, a22, k22, bq3, bq2, finPan, hf]
    | ok z =>
      obtain ⟨t, r2⟩ := z
      rw [e2, ansR_ok] at h2
      rw [th_ok]
      obtain ⟨tk, ts, tn, tp⟩ := t
      simp only [Tk.emb, Tk.cells] at h2
      have h3 : ev Tryz.prog E (n + 4) 88 [.ptr a 0, .str [44]] (PSt H0 T a l (r2) d) = _ := ev_need ha T l hl n (r2) d _ _
      cases e3 : needP (hereT l) [44] (r2) with
      | error z =>
        obtain ⟨c', w⟩ := z
        rw [e3, ansR_err] at h3
        rw [th_err, ansX_err]
        have hf := fin_stop H0 T a l p d w c' w
        generalize PSt H0 T a l (w) d = L0 at *
        generalize PSt H0 T a l (r2) d = L1 at *
        generalize PSt H0 T a l (r1) d = L2 at *
        generalize PSt H0 T a l (p) d = L3 at *
        generalize stopV (hereT l) c' w = sv at *
        simp (disch := first | (simp only [List.length_append, List.length_cons, List.length_nil]; omega) | (simp; done) | assumption) [AV.cells?, AV.isCell, -AV.cells?, cq_int, cq_str, cq_slice, cq_bool, -evBuild, -evBuildSlice, Tryz.f91, E_esc, bX1', h1, h2, h3, z24', z6_len, c24, a24, k24, i24, tq46_0, tq46_1, tq46_2, tc46, ta46, tk46, ti46, tz46, fq0, fq3, fq4, fq5, c3, a3, k3, i3, c2, a2, k2, i2, c22, a22, k22, bq3, bq2, finPan, hf]
      | ok z =>
        obtain ⟨_u3, r3⟩ := z
        rw [e3, ansR_ok] at h3
        rw [th_ok]
        have h4 : ev Tryz.prog E (n + 4) 94 [.ptr a 0, .int .i64 2] (PSt H0 T a l (r3) d) = _ := ev_take ha T l hl (n + 1) (r3) d 2 (by decide)
        cases e4 : takeP (hereT l) 2 (r3) with
        | error z =>
          obtain ⟨c', w⟩ := z
          rw [e4, ansR_err] at h4
          rw [th_err, ansX_err]
          have hf := fin_stop H0 T a l p d w c' w
          generalize PSt H0 T a l (w) d = L0 at *
          generalize PSt H0 T a l (r3) d = L1 at *
          generalize PSt H0 T a l (r2) d = L2 at *
          generalize PSt H0 T a l (r1) d = L3 at *
          generalize PSt H0 T a l (p) d = L4 at *
          generalize stopV (hereT l) c' w = sv at *
          simp (disch := first | (simp only [List.length_append, List.length_cons, List.length_nil]; omega) | (simp; done) | assumption) [AV.cells?, AV.isCell, -AV.cells?, cq_int, cq_str, cq_slice, cq_bool, -evBuild, -evBuildSlice, Tryz.f91, E_esc, bX1', h1, h2, h3, h4, z24', z6_len, c24, a24, k24, i24, tq46_0, tq46_1, tq46_2, tc46, ta46, tk46, ti46, tz46, fq0, fq3, fq4, fq5, c3, a3, k3, i3, c2, a2, k2, i2, c22, a22, k22, bq3, bq2, finPan, hf]
        | ok z =>
          obtain ⟨u, r4⟩ := z
          rw [e4, ansR_ok] at h4
          rw [th_ok]
          obtain ⟨uk, us, un, up⟩ := u
          simp only [Tk.emb, Tk.cells] at h4
          have h5 : ev Tryz.prog E (n + 4) 88 [.ptr a 0, .str [41]] (PSt H0 T a l (r4) d) = _ := ev_need ha T l hl n (r4) d _ _
          cases e5 : needP (hereT l) [41] (r4) with
          | error z =>
            obtain ⟨c', w⟩ := z
            rw [e5, ansR_err] at h5
            rw [th_err, ansX_err]
            have hf := fin_stop H0 T a l p d w c' w
            generalize PSt H0 T a l (w) d = L0 at *
            generalize PSt H0 T a l (r4) d = L1 at *
            generalize PSt H0 T a l (r3) d = L2 at *
            generalize PSt H0 T a l (r2) d = L3 at *
            generalize PSt H0 T a l (r1) d = L4 at *
            generalize PSt H0 T a l (p) d = L5 at *
            generalize stopV (hereT l) c' w = sv at *
            simp (disch := first | (simp only [List.length_append, List.length_cons, List.length_nil]; omega) | (simp; done) | assumption) [AV.cells?, AV.isCell, -AV.cells?, cq_int, cq_str, cq_slice, cq_bool, -evBuild, -evBuildSlice, Tryz.f91, E_esc, bX1', h1, h2, h3, h4, h5, z24', z6_len, c24, a24, k24, i24, tq46_0, tq46_1, tq46_2, tc46, ta46, tk46, ti46, tz46, fq0, fq3, fq4, fq5, c3, a3, k3, i3, c2, a2, k2, i2, c22, a22, k22, bq3, bq2, finPan, hf]
          | ok z =>
            obtain ⟨_u5, r5⟩ := z
            rw [e5, ansR_ok] at h5
            rw [th_ok]
            rw [ansX_ok]
            have hf := fin_X H0 T a l p d (r5) (leafX 13 ts 0 un)
            simp only [leaf_emb] at hf ⊢
            generalize PSt H0 T a l (r5) d = L0 at *
            generalize PSt H0 T a l (r4) d = L1 at *
            generalize PSt H0 T a l (r3) d = L2 at *
            generalize PSt H0 T a l (r2) d = L3 at *
            generalize PSt H0 T a l (r1) d = L4 at *
            generalize PSt H0 T a l (p) d = L5 at *
            simp (disch := first | (simp only [List.length_append, List.length_cons, List.length_nil]; omega) | (simp; done) | assumption) [AV.cells?, AV.isCell, -AV.cells?, cq_int, cq_str, cq_slice, cq_bool, -evBuild, -evBuildSlice, Tryz.f91, E_esc, bX1', h1, h2, h3, h4, h5, z24', z6_len, c24, a24, k24, i24, tq46_0, tq46_1, tq46_2, tc46, ta46, tk46, ti46, tz46, fq0, fq3, fq4, fq5, c3, a3, k3, i3, c2, a2, k2, i2, c22, a22, k22, bq3, bq2, z6, hf]
set_option maxHeartbeats 4000000 in
theorem ev82 (n p d : Nat) : ev Tryz.prog E (n + 5) 95 [.ptr a 0] (PSt H0 T a l p d) = ansR H0 T a l d (fun x : Int × Int => .tup [.int .i64 x.1, .int .i64 x.2]) (spanP (hereT l) p) := by
  rw [show n + 5 = (n + 4) + 1 from rfl, ev_enter (n := n + 4) (show E.ok 95 = true from rfl) Tryz.func95 (fn := Tryz.f95) rfl (Nat.le_of_ble_eq_true rfl) (by decide +kernel)]
  unfold spanP
  have h1 : ev Tryz.prog E (n + 4) 88 [.ptr a 0, .str [91]] (PSt H0 T a l (p) d) = _ := ev_need ha T l hl n (p) d _ _
  cases e1 : needP (hereT l) [91] (p) with
  | error z =>
    obtain ⟨c', w⟩ := z
    rw [e1, ansR_err] at h1
    rw [th_err, ansR_err]
    have hf := fin_stop H0 T a l p d w c' w
    generalize PSt H0 T a l (w) d = L0 at *
    generalize PSt H0 T a l (p) d = L1 at *
    generalize stopV (hereT l) c' w = sv at *
    simp (disch := first | (simp only [List.length_append, List.length_cons, List.length_nil]; omega) | (simp; done) | assumption) [AV.cells?, AV.isCell, -AV.cells?, cq_int, cq_str, cq_slice, cq_bool, -evBuild, -evBuildSlice, Tryz.f95, E_esc, h1, z24', z6_len, c24, a24, k24, i24, tq46_0, tq46_1, tq46_2, tc46, ta46, tk46, ti46, tz46, fq0, fq3, fq4, fq5, c3, a3, k3, i3, c2, a2, k2, i2, c22, a22, k22, bq3, bq2, finPan, hf]
  | ok z =>
    obtain ⟨_u1, r1⟩ := z
    rw [e1, ansR_ok] at h1
    rw [th_ok]
    have h2 : ev Tryz.prog E (n + 4) 94 [.ptr a 0, .int .i64 2] (PSt H0 T a l (r1) d) = _ := ev_take ha T l hl (n + 1) (r1) d 2 (by decide)
    cases e2 : takeP (hereT l) 2 (r1) with
    | error z =>
      obtain ⟨c', w⟩ := z
      rw [e2, ansR_err] at h2
      rw [th_err, ansR_err]
      have hf := fin_stop H0 T a l p d w c' w
      generalize PSt H0 T a l (w) d = L0 at *
      generalize PSt H0 T a l (r1) d = L1 at *
      generalize PSt H0 T a l (p) d = L2 at *
      generalize stopV (hereT l) c' w = sv at *
      simp (disch := first | (simp only [List.length_append, List.length_cons, List.length_nil]; omega) | (simp; done) | assumption) [AV.cells?, AV.isCell, -AV.cells?, cq_int, cq_str, cq_slice, cq_bool, -evBuild, -evBuildSlice, Tryz.f95, E_esc, h1, h2, z24', z6_len, c24, a24, k24, i24, tq46_0, tq46_1, tq46_2, tc46, ta46, tk46, ti46, tz46, fq0, fq3, fq4, fq5, c3, a3, k3, i3, c2, a2, k2, i2, c22, a22, k22, bq3, bq2, finPan, hf]
    | ok z =>
      obtain ⟨t, r2⟩ := z
      rw [e2, ansR_ok] at h2
      rw [th_ok]
      obtain ⟨tk, ts, tn, tp⟩ := t
      simp only [Tk.emb, Tk.cells] at h2
      have h3 : ev Tryz.prog E (n + 4) 88 [.ptr a 0, .str [44]] (PSt H0 T a l (r2) d) = _ := ev_need ha T l hl n (r2) d _ _
      cases e3 : needP (hereT l) [44] (r2) with
      | error z =>
        obtain ⟨c', w⟩ := z
        rw [e3, ansR_err] at h3
        rw [th_err, ansR_err]
        have hf := fin_stop H0 T a l p d w c' w
        generalize PSt H0 T a l (w) d = L0 at *
        generalize PSt H0 T a l (r2) d = L1 at *
        generalize PSt H0 T a l (r1) d = L2 at *
        generalize PSt H0 T a l (p) d = L3 at *
        generalize stopV (hereT l) c' w = sv at *
        simp (disch := first | (simp only [List.length_append, List.length_cons, List.length_nil]; omega) | (simp; done) | assumption) [AV.cells?, AV.isCell, -AV.cells?, cq_int, cq_str, cq_slice, cq_bool, -evBuild, -evBuildSlice, Tryz.f95, E_esc, h1, h2, h3, z24', z6_len, c24, a24, k24, i24, tq46_0, tq46_1, tq46_2, tc46, ta46, tk46, ti46, tz46, fq0, fq3, fq4, fq5, c3, a3, k3, i3, c2, a2, k2, i2, c22, a22, k22, bq3, bq2, finPan, hf]
      | ok z =>
        obtain ⟨_u3, r3⟩ := z
        rw [e3, ansR_ok] at h3
        rw [th_ok]
        have hi : ev Tryz.prog E (n + 4) 41 [.ptr a 0, .str [42]] (PSt H0 T a l (r3) d) = _ := ev_is ha T l hl (n + 2) (r3) d _ _
        by_cases hB : isB (hereT l) (r3) [42] = true
        · rw [if_pos hB]
          rw [hB] at hi
          simp only [if_true] at hi
          have h11 : ev Tryz.prog E (n + 4) 88 [.ptr a 0, .str [93]] (PSt H0 T a l (r3 + 1) d) = _ := ev_need ha T l hl n (r3 + 1) d _ _
          cases e11 : needP (hereT l) [93] (r3 + 1) with
          | error z =>
            obtain ⟨c', w⟩ := z
            rw [e11, ansR_err] at h11
            rw [th_err, ansR_err]
            have hf := fin_stop H0 T a l p d w c' w
            generalize PSt H0 T a l (w) d = L0 at *
            generalize PSt H0 T a l (r3 + 1) d = L1 at *
            generalize PSt H0 T a l (r3) d = L2 at *
            generalize PSt H0 T a l (r2) d = L3 at *
            generalize PSt H0 T a l (r1) d = L4 at *
            generalize PSt H0 T a l (p) d = L5 at *
            generalize stopV (hereT l) c' w = sv at *
            simp (disch := first | (simp only [List.length_append, List.length_cons, List.length_nil]; omega) | (simp; done) | assumption) [AV.cells?, AV.isCell, -AV.cells?, cq_int, cq_str, cq_slice, cq_bool, -evBuild, -evBuildSlice, Tryz.f95, E_esc, h1, h2, h3, hi, h11, z24', z6_len, c24, a24, k24, i24, tq46_0, tq46_1, tq46_2, tc46, ta46, tk46, ti46, tz46, fq0, fq3, fq4, fq5, c3, a3, k3, i3, c2, a2, k2, i2, c22, a22, k22, bq3, bq2, finPan, hf]
          | ok z =>
            obtain ⟨_u11, r11⟩ := z
            rw [e11, ansR_ok] at h11
            rw [th_ok]
            rw [ansR_ok]
            have hf := fin_ii H0 T a l p d (r11) (tn) (-1)
            generalize PSt H0 T a l (r11) d = L0 at *
            generalize PSt H0 T a l (r3 + 1) d = L1 at *
            generalize PSt H0 T a l (r3) d = L2 at *
            generalize PSt H0 T a l (r2) d = L3 at *
            generalize PSt H0 T a l (r1) d = L4 at *
            generalize PSt H0 T a l (p) d = L5 at *
            simp (disch := first | (simp only [List.length_append, List.length_cons, List.length_nil]; omega) | (simp; done) | assumption) [AV.cells?, AV.isCell, -AV.cells?, cq_int, cq_str, cq_slice, cq_bool, -evBuild, -evBuildSlice, Tryz.f95, E_esc, h1, h2, h3, hi, h11, z24', z6_len, c24, a24, k24, i24, tq46_0, tq46_1, tq46_2, tc46, ta46, tk46, ti46, tz46, fq0, fq3, fq4, fq5, c3, a3, k3, i3, c2, a2, k2, i2, c22, a22, k22, bq3, bq2, hf]
        · rw [if_neg hB]
          simp only [Bool.not_eq_true] at hB
          rw [hB] at hi
          simp only [Bool.false_eq_true, if_false] at hi
          have h21 : ev Tryz.prog E (n + 4) 94 [.ptr a 0, .int .i64 2] (PSt H0 T a l (r3) d) = _ := ev_take ha T l hl (n + 1) (r3) d 2 (by decide)
          cases e21 : takeP (hereT l) 2 (r3) with
          | error z =>
            obtain ⟨c', w⟩ := z
            rw [e21, ansR_err] at h21
            rw [th_err, ansR_err]
            have hf := fin_stop H0 T a l p d w c' w
            generalize PSt H0 T a l (w) d = L0 at *
            generalize PSt H0 T a l (r3) d = L1 at *
            generalize PSt H0 T a l (r2) d = L2 at *
            generalize PSt H0 T a l (r1) d = L3 at *
            generalize PSt H0 T a l (p) d = L4 at *
            generalize stopV (hereT l) c' w = sv at *
            simp (disch := first | (simp only [List.length_append, List.length_cons, List.length_nil]; omega) | (simp; done) | assumption) [AV.cells?, AV.isCell, -AV.cells?, cq_int, cq_str, cq_slice, cq_bool, -evBuild, -evBuildSlice, Tryz.f95, E_esc, h1, h2, h3, hi, h21, z24', z6_len, c24, a24, k24, i24, tq46_0, tq46_1, tq46_2, tc46, ta46, tk46, ti46, tz46, fq0, fq3, fq4, fq5, c3, a3, k3, i3, c2, a2, k2, i2, c22, a22, k22, bq3, bq2, finPan, hf]
          | ok z =>
            obtain ⟨u, r21⟩ := z
            rw [e21, ansR_ok] at h21
            rw [th_ok]
            obtain ⟨uk, us, un, up⟩ := u
            simp only [Tk.emb, Tk.cells] at h21
            by_cases hlt : un < tn
            · rw [if_pos (show (⟨uk, us, un, up⟩ : Tk).n < (⟨tk, ts, tn, tp⟩ : Tk).n from hlt), ansR_err]
              have hfl := ev_fail ha T l hl (n + 2) (r21) d 16
              have hf := fin_stop H0 T a l p d (r21) 16 (r21)
              generalize PSt H0 T a l (r21) d = L0 at *
              generalize PSt H0 T a l (r3) d = L1 at *
              generalize PSt H0 T a l (r2) d = L2 at *
              generalize PSt H0 T a l (r1) d = L3 at *
              generalize PSt H0 T a l (p) d = L4 at *
              generalize stopV (hereT l) 16 (r21) = sv at *
              simp (disch := first | (simp only [List.length_append, List.length_cons, List.length_nil]; omega) | (simp; done) | assumption) [AV.cells?, AV.isCell, -AV.cells?, cq_int, cq_str, cq_slice, cq_bool, -evBuild, -evBuildSlice, Tryz.f95, E_esc, h1, h2, h3, hi, h21, z24', z6_len, c24, a24, k24, i24, tq46_0, tq46_1, tq46_2, tc46, ta46, tk46, ti46, tz46, fq0, fq3, fq4, fq5, c3, a3, k3, i3, c2, a2, k2, i2, c22, a22, k22, bq3, bq2, hlt, hfl, finPan, hf]
            · rw [if_neg (show ¬ (⟨uk, us, un, up⟩ : Tk).n < (⟨tk, ts, tn, tp⟩ : Tk).n from hlt)]
              have h31 : ev Tryz.prog E (n + 4) 88 [.ptr a 0, .str [93]] (PSt H0 T a l (r21) d) = _ := ev_need ha T l hl n (r21) d _ _
              cases e31 : needP (hereT l) [93] (r21) with
              | error z =>
                obtain ⟨c', w⟩ := z
                rw [e31, ansR_err] at h31
                rw [th_err, ansR_err]
                have hf := fin_stop H0 T a l p d w c' w
                generalize PSt H0 T a l (w) d = L0 at *
                generalize PSt H0 T a l (r21) d = L1 at *
                generalize PSt H0 T a l (r3) d = L2 at *
                generalize PSt H0 T a l (r2) d = L3 at *
                generalize PSt H0 T a l (r1) d = L4 at *
                generalize PSt H0 T a l (p) d = L5 at *
                generalize stopV (hereT l) c' w = sv at *
                simp (disch := first | (simp only [List.length_append, List.length_cons, List.length_nil]; omega) | (simp; done) | assumption) [AV.cells?, AV.isCell, -AV.cells?, cq_int, cq_str, cq_slice, cq_bool, -evBuild, -evBuildSlice, Tryz.f95, E_esc, h1, h2, h3, hi, h21, hlt, h31, z24', z6_len, c24, a24, k24, i24, tq46_0, tq46_1, tq46_2, tc46, ta46, tk46, ti46, tz46, fq0, fq3, fq4, fq5, c3, a3, k3, i3, c2, a2, k2, i2, c22, a22, k22, bq3, bq2, finPan, hf]
              | ok z =>
                obtain ⟨_u31, r31⟩ := z
                rw [e31, ansR_ok] at h31
                rw [th_ok]
                rw [ansR_ok]
                have hf := fin_ii H0 T a l p d (r31) (tn) (un)
                generalize PSt H0 T a l (r31) d = L0 at *
                generalize PSt H0 T a l (r21) d = L1 at *
                generalize PSt H0 T a l (r3) d = L2 at *
                generalize PSt H0 T a l (r2) d = L3 at *
                generalize PSt H0 T a l (r1) d = L4 at *
                generalize PSt H0 T a l (p) d = L5 at *
                simp (disch := first | (simp only [List.length_append, List.length_cons, List.length_nil]; omega) | (simp; done) | assumption) [AV.cells?, AV.isCell, -AV.cells?, cq_int, cq_str, cq_slice, cq_bool, -evBuild, -evBuildSlice, Tryz.f95, E_esc, h1, h2, h3, hi, h21, hlt, h31, z24', z6_len, c24, a24, k24, i24, tq46_0, tq46_1, tq46_2, tc46, ta46, tk46, ti46, tz46, fq0, fq3, fq4, fq5, c3, a3, k3, i3, c2, a2, k2, i2, c22, a22, k22, bq3, bq2, hf]
end
end Go.Proofs.YtmhidempoabehaaGreatDoor.PS
/- The parser: timed, signed, named, evaluated (printed by gendp4.py). No condition. -/
namespace Go.Proofs.YtmhidempoabehaaGreatDoor.PS
set_option linter.unusedVariables false
set_option linter.unusedSimpArgs false
open Go AE EX PT NF LX
set_option maxRecDepth 100000
theorem i22 : (Tryz.prog.info? 23).isSome = true := by kernel_rfl
theorem embL1 (x : X) : embL [x] = [x.emb] := rfl
theorem embL2 (x y : X) : embL [x, y] = [x.emb, y.emb] := rfl
theorem bS1' (x : X) : evBuildSlice Tryz.prog 23 1 [(0, x.emb)] = some (.slice [x.emb] .clip) := bS1 x
theorem bS2' (x y : X) : evBuildSlice Tryz.prog 23 2 [(0, x.emb), (1, y.emb)] = some (.slice [x.emb, y.emb] .clip) := bS2 x y
theorem mk_emb (k : Int) (lo hi : Int) (ks : List X) : (X.mk k [] 0 lo hi true ks).emb = .agg [.int .i64 k, .str [], .int .i64 0, .int .i64 lo, .int .i64 hi, .slice (embL ks) .clip] := rfl
theorem bX0' (k : Int) : evBuild Tryz.prog 25 [(0, .int .i64 k)] = some (.agg [.int .i64 k, .str [], .int .i64 0, .int .i64 0, .int .i64 0, .slice [] .clip]) := bX0 k
section
variable {H0 : List HBox} {a : Nat} (ha : a < H0.length) (T : List Nat) (l : List Tk) (hl : l.length ≤ 2000000)
include ha hl
set_option maxHeartbeats 8000000 in
theorem ev80 (n d : Nat) (any : Nat → PR X) (hA : Sub H0 T a l d (n + 5) 92 (argP (hereT l) any)) (hs : Sub H0 T a l d (n + 5) 26 any) : Sub H0 T a l d (n + 6) 93 (timedP (hereT l) any) := by
  intro p
  rw [show n + 6 = (n + 5) + 1 from rfl, ev_enter (n := n + 5) (show E.ok 93 = true from rfl) Tryz.func93 (fn := Tryz.f93) rfl (Nat.le_of_ble_eq_true rfl) (by decide +kernel)]
  unfold timedP
  have i1 : ev Tryz.prog E (n + 5) 41 [.ptr a 0, .str [111, 110, 99, 101]] (PSt H0 T a l (p) d) = _ := ev_is ha T l hl (n + 3) (p) d _ _
  by_cases b1 : isB (hereT l) (p) [111, 110, 99, 101] = true
  · rw [if_pos b1]
    have ilt := is_lt b1
    have ib := b1
    rw [b1] at i1
    simp only [if_true] at i1
    unfold lookP
    have h2 := ev82 ha T l hl n (p + 1) d
    cases e2 : spanP (hereT l) (p + 1) with
    | error z =>
      obtain ⟨c', w⟩ := z
      rw [e2, ansR_err] at h2
      rw [th_err, ansX_err]
      have hf := fin_stop H0 T a l p d w c' w
      generalize PSt H0 T a l (w) d = L0 at *
      generalize PSt H0 T a l (p + 1) d = L1 at *
      generalize PSt H0 T a l (p) d = L2 at *
      generalize stopV (hereT l) c' w = sv at *
      simp (disch := first | (simp only [List.length_append, List.length_cons, List.length_nil]; omega) | (simp; done) | assumption) [AV.cells?, AV.isCell, -AV.cells?, cq_int, cq_str, cq_slice, cq_bool, -evBuild, -evBuildSlice, Tryz.f93, E_esc, i1, h2, finPan, hf, z24, c24, a24, k24, i24, tq46_0, tq46_1, tq46_2, tc46, ta46, tk46, ti46, tz46, fq0, fq3, fq4, fq5, c3, a3, k3, i3, c2, a2, k2, i2, c22, a22, k22, i22, bq3, bq2]
    | ok z =>
      obtain ⟨lh, r2⟩ := z
      rw [e2, ansR_ok] at h2
      rw [th_ok]
      obtain ⟨lo, hi⟩ := lh; simp only at h2
      have h3 := hA (r2)
      cases e3 : argP (hereT l) any (r2) with
      | error z =>
        obtain ⟨c', w⟩ := z
        rw [e3, ansX_err] at h3
        rw [th_err, ansX_err]
        have hf := fin_stop H0 T a l p d w c' w
        generalize PSt H0 T a l (w) d = L0 at *
        generalize PSt H0 T a l (r2) d = L1 at *
        generalize PSt H0 T a l (p + 1) d = L2 at *
        generalize PSt H0 T a l (p) d = L3 at *
        generalize stopV (hereT l) c' w = sv at *
        simp (disch := first | (simp only [List.length_append, List.length_cons, List.length_nil]; omega) | (simp; done) | assumption) [AV.cells?, AV.isCell, -AV.cells?, cq_int, cq_str, cq_slice, cq_bool, -evBuild, -evBuildSlice, Tryz.f93, E_esc, i1, h2, h3, finPan, hf, z24, c24, a24, k24, i24, tq46_0, tq46_1, tq46_2, tc46, ta46, tk46, ti46, tz46, fq0, fq3, fq4, fq5, c3, a3, k3, i3, c2, a2, k2, i2, c22, a22, k22, i22, bq3, bq2]
      | ok z =>
        obtain ⟨x, r3⟩ := z
        rw [e3, ansX_ok] at h3
        rw [th_ok]
        have hcx := xcells x
        have hlx := xlen x
        have htx := xtake x
        have hex := xemb x
        rw [ansX_ok]
        have hf := fin_X H0 T a l p d (r3) (X.mk 22 [] 0 lo hi true [x])
        have hbs := bS1' x
        simp only [mk_emb, embL1] at hf ⊢
        generalize PSt H0 T a l (r3) d = L0 at *
        generalize PSt H0 T a l (r2) d = L1 at *
        generalize PSt H0 T a l (p + 1) d = L2 at *
        generalize PSt H0 T a l (p) d = L3 at *
        generalize x.cells = xc at *
        generalize x.emb = xe at *
        simp (disch := first | (simp only [List.length_append, List.length_cons, List.length_nil]; omega) | (simp; done) | assumption) [AV.cells?, AV.isCell, -AV.cells?, cq_int, cq_str, cq_slice, cq_bool, -evBuild, -evBuildSlice, Tryz.f93, E_esc, i1, h2, h3, hcx, hlx, htx, hex, hbs, hf, z24, c24, a24, k24, i24, tq46_0, tq46_1, tq46_2, tc46, ta46, tk46, ti46, tz46, fq0, fq3, fq4, fq5, c3, a3, k3, i3, c2, a2, k2, i2, c22, a22, k22, i22, bq3, bq2]
  · rw [if_neg b1]
    simp only [Bool.not_eq_true] at b1
    rw [b1] at i1
    simp only [Bool.false_eq_true, if_false] at i1
    have i4 : ev Tryz.prog E (n + 5) 41 [.ptr a 0, .str [104, 105, 115, 116]] (PSt H0 T a l (p) d) = _ := ev_is ha T l hl (n + 3) (p) d _ _
    by_cases b4 : isB (hereT l) (p) [104, 105, 115, 116] = true
    · rw [if_pos b4]
      have ilt := is_lt b4
      have ib := b4
      rw [b4] at i4
      simp only [if_true] at i4
      unfold lookP
      have h5 := ev82 ha T l hl n (p + 1) d
      cases e5 : spanP (hereT l) (p + 1) with
      | error z =>
        obtain ⟨c', w⟩ := z
        rw [e5, ansR_err] at h5
        rw [th_err, ansX_err]
        have hf := fin_stop H0 T a l p d w c' w
        generalize PSt H0 T a l (w) d = L0 at *
        generalize PSt H0 T a l (p + 1) d = L1 at *
        generalize PSt H0 T a l (p) d = L2 at *
        generalize stopV (hereT l) c' w = sv at *
        simp (disch := first | (simp only [List.length_append, List.length_cons, List.length_nil]; omega) | (simp; done) | assumption) [AV.cells?, AV.isCell, -AV.cells?, cq_int, cq_str, cq_slice, cq_bool, -evBuild, -evBuildSlice, Tryz.f93, E_esc, i1, i4, h5, finPan, hf, z24, c24, a24, k24, i24, tq46_0, tq46_1, tq46_2, tc46, ta46, tk46, ti46, tz46, fq0, fq3, fq4, fq5, c3, a3, k3, i3, c2, a2, k2, i2, c22, a22, k22, i22, bq3, bq2]
      | ok z =>
        obtain ⟨lh, r5⟩ := z
        rw [e5, ansR_ok] at h5
        rw [th_ok]
        obtain ⟨lo, hi⟩ := lh; simp only at h5
        have h6 := hA (r5)
        cases e6 : argP (hereT l) any (r5) with
        | error z =>
          obtain ⟨c', w⟩ := z
          rw [e6, ansX_err] at h6
          rw [th_err, ansX_err]
          have hf := fin_stop H0 T a l p d w c' w
          generalize PSt H0 T a l (w) d = L0 at *
          generalize PSt H0 T a l (r5) d = L1 at *
          generalize PSt H0 T a l (p + 1) d = L2 at *
          generalize PSt H0 T a l (p) d = L3 at *
          generalize stopV (hereT l) c' w = sv at *
          simp (disch := first | (simp only [List.length_append, List.length_cons, List.length_nil]; omega) | (simp; done) | assumption) [AV.cells?, AV.isCell, -AV.cells?, cq_int, cq_str, cq_slice, cq_bool, -evBuild, -evBuildSlice, Tryz.f93, E_esc, i1, i4, h5, h6, finPan, hf, z24, c24, a24, k24, i24, tq46_0, tq46_1, tq46_2, tc46, ta46, tk46, ti46, tz46, fq0, fq3, fq4, fq5, c3, a3, k3, i3, c2, a2, k2, i2, c22, a22, k22, i22, bq3, bq2]
        | ok z =>
          obtain ⟨x, r6⟩ := z
          rw [e6, ansX_ok] at h6
          rw [th_ok]
          have hcx := xcells x
          have hlx := xlen x
          have htx := xtake x
          have hex := xemb x
          rw [ansX_ok]
          have hf := fin_X H0 T a l p d (r6) (X.mk 23 [] 0 lo hi true [x])
          have hbs := bS1' x
          simp only [mk_emb, embL1] at hf ⊢
          generalize PSt H0 T a l (r6) d = L0 at *
          generalize PSt H0 T a l (r5) d = L1 at *
          generalize PSt H0 T a l (p + 1) d = L2 at *
          generalize PSt H0 T a l (p) d = L3 at *
          generalize x.cells = xc at *
          generalize x.emb = xe at *
          simp (disch := first | (simp only [List.length_append, List.length_cons, List.length_nil]; omega) | (simp; done) | assumption) [AV.cells?, AV.isCell, -AV.cells?, cq_int, cq_str, cq_slice, cq_bool, -evBuild, -evBuildSlice, Tryz.f93, E_esc, i1, i4, h5, h6, hcx, hlx, htx, hex, hbs, hf, z24, c24, a24, k24, i24, tq46_0, tq46_1, tq46_2, tc46, ta46, tk46, ti46, tz46, fq0, fq3, fq4, fq5, c3, a3, k3, i3, c2, a2, k2, i2, c22, a22, k22, i22, bq3, bq2]
    · rw [if_neg b4]
      simp only [Bool.not_eq_true] at b4
      rw [b4] at i4
      simp only [Bool.false_eq_true, if_false] at i4
      have i7 : ev Tryz.prog E (n + 5) 41 [.ptr a 0, .str [115, 105, 110, 99, 101]] (PSt H0 T a l (p) d) = _ := ev_is ha T l hl (n + 3) (p) d _ _
      by_cases b7 : isB (hereT l) (p) [115, 105, 110, 99, 101] = true
      · rw [if_pos b7]
        have ilt := is_lt b7
        have ib := b7
        rw [b7] at i7
        simp only [if_true] at i7
        have hps : E.ps 93 16 = [(0, 2), (2, 2)] := rfl
        unfold sinceP
        have h8 := ev82 ha T l hl n (p + 1) d
        cases e8 : spanP (hereT l) (p + 1) with
        | error z =>
          obtain ⟨c', w⟩ := z
          rw [e8, ansR_err] at h8
          rw [th_err, ansX_err]
          have hf := fin_stop H0 T a l p d w c' w
          generalize PSt H0 T a l (w) d = L0 at *
          generalize PSt H0 T a l (p + 1) d = L1 at *
          generalize PSt H0 T a l (p) d = L2 at *
          generalize stopV (hereT l) c' w = sv at *
          simp (disch := first | (simp only [List.length_append, List.length_cons, List.length_nil]; omega) | (simp; done) | assumption) [AV.cells?, AV.isCell, -AV.cells?, cq_int, cq_str, cq_slice, cq_bool, -evBuild, -evBuildSlice, Tryz.f93, E_esc, i1, i4, i7, hps, h8, finPan, hf, z24, c24, a24, k24, i24, tq46_0, tq46_1, tq46_2, tc46, ta46, tk46, ti46, tz46, fq0, fq3, fq4, fq5, c3, a3, k3, i3, c2, a2, k2, i2, c22, a22, k22, i22, bq3, bq2]
        | ok z =>
          obtain ⟨lh, r8⟩ := z
          rw [e8, ansR_ok] at h8
          rw [th_ok]
          obtain ⟨lo, hi⟩ := lh; simp only at h8
          have h9 : ev Tryz.prog E (n + 5) 88 [.ptr a 0, .str [40]] (PSt H0 T a l (r8) d) = _ := ev_need ha T l hl (n + 1) (r8) d _ _
          cases e9 : needP (hereT l) [40] (r8) with
          | error z =>
            obtain ⟨c', w⟩ := z
            rw [e9, ansR_err] at h9
            rw [th_err, ansX_err]
            have hf := fin_stop H0 T a l p d w c' w
            generalize PSt H0 T a l (w) d = L0 at *
            generalize PSt H0 T a l (r8) d = L1 at *
            generalize PSt H0 T a l (p + 1) d = L2 at *
            generalize PSt H0 T a l (p) d = L3 at *
            generalize stopV (hereT l) c' w = sv at *
            simp (disch := first | (simp only [List.length_append, List.length_cons, List.length_nil]; omega) | (simp; done) | assumption) [AV.cells?, AV.isCell, -AV.cells?, cq_int, cq_str, cq_slice, cq_bool, -evBuild, -evBuildSlice, Tryz.f93, E_esc, i1, i4, i7, hps, h8, h9, finPan, hf, z24, c24, a24, k24, i24, tq46_0, tq46_1, tq46_2, tc46, ta46, tk46, ti46, tz46, fq0, fq3, fq4, fq5, c3, a3, k3, i3, c2, a2, k2, i2, c22, a22, k22, i22, bq3, bq2]
          | ok z =>
            obtain ⟨_u9, r9⟩ := z
            rw [e9, ansR_ok] at h9
            rw [th_ok]
            have h10 := hs (r9)
            cases e10 : any (r9) with
            | error z =>
              obtain ⟨c', w⟩ := z
              rw [e10, ansX_err] at h10
              rw [th_err, ansX_err]
              have hf := fin_stop H0 T a l p d w c' w
              generalize PSt H0 T a l (w) d = L0 at *
              generalize PSt H0 T a l (r9) d = L1 at *
              generalize PSt H0 T a l (r8) d = L2 at *
              generalize PSt H0 T a l (p + 1) d = L3 at *
              generalize PSt H0 T a l (p) d = L4 at *
              generalize stopV (hereT l) c' w = sv at *
              simp (disch := first | (simp only [List.length_append, List.length_cons, List.length_nil]; omega) | (simp; done) | assumption) [AV.cells?, AV.isCell, -AV.cells?, cq_int, cq_str, cq_slice, cq_bool, -evBuild, -evBuildSlice, Tryz.f93, E_esc, i1, i4, i7, hps, h8, h9, h10, finPan, hf, z24, c24, a24, k24, i24, tq46_0, tq46_1, tq46_2, tc46, ta46, tk46, ti46, tz46, fq0, fq3, fq4, fq5, c3, a3, k3, i3, c2, a2, k2, i2, c22, a22, k22, i22, bq3, bq2]
            | ok z =>
              obtain ⟨x, r10⟩ := z
              rw [e10, ansX_ok] at h10
              rw [th_ok]
              have hcx := xcells x
              have hlx := xlen x
              have htx := xtake x
              have hex := xemb x
              have h11 : ev Tryz.prog E (n + 5) 88 [.ptr a 0, .str [44]] (PSt H0 T a l (r10) d) = _ := ev_need ha T l hl (n + 1) (r10) d _ _
              cases e11 : needP (hereT l) [44] (r10) with
              | error z =>
                obtain ⟨c', w⟩ := z
                rw [e11, ansR_err] at h11
                rw [th_err, ansX_err]
                have hf := fin_stop H0 T a l p d w c' w
                generalize PSt H0 T a l (w) d = L0 at *
                generalize PSt H0 T a l (r10) d = L1 at *
                generalize PSt H0 T a l (r9) d = L2 at *
                generalize PSt H0 T a l (r8) d = L3 at *
                generalize PSt H0 T a l (p + 1) d = L4 at *
                generalize PSt H0 T a l (p) d = L5 at *
                generalize stopV (hereT l) c' w = sv at *
                generalize x.cells = xc at *
                generalize x.emb = xe at *
                simp (disch := first | (simp only [List.length_append, List.length_cons, List.length_nil]; omega) | (simp; done) | assumption) [AV.cells?, AV.isCell, -AV.cells?, cq_int, cq_str, cq_slice, cq_bool, -evBuild, -evBuildSlice, Tryz.f93, E_esc, i1, i4, i7, hps, h8, h9, h10, h11, hcx, hlx, htx, hex, finPan, hf, z24, c24, a24, k24, i24, tq46_0, tq46_1, tq46_2, tc46, ta46, tk46, ti46, tz46, fq0, fq3, fq4, fq5, c3, a3, k3, i3, c2, a2, k2, i2, c22, a22, k22, i22, bq3, bq2]
              | ok z =>
                obtain ⟨_u11, r11⟩ := z
                rw [e11, ansR_ok] at h11
                rw [th_ok]
                have h12 := hs (r11)
                cases e12 : any (r11) with
                | error z =>
                  obtain ⟨c', w⟩ := z
                  rw [e12, ansX_err] at h12
                  rw [th_err, ansX_err]
                  have hf := fin_stop H0 T a l p d w c' w
                  generalize PSt H0 T a l (w) d = L0 at *
                  generalize PSt H0 T a l (r11) d = L1 at *
                  generalize PSt H0 T a l (r10) d = L2 at *
                  generalize PSt H0 T a l (r9) d = L3 at *
                  generalize PSt H0 T a l (r8) d = L4 at *
                  generalize PSt H0 T a l (p + 1) d = L5 at *
                  generalize PSt H0 T a l (p) d = L6 at *
                  generalize stopV (hereT l) c' w = sv at *
                  generalize x.cells = xc at *
                  generalize x.emb = xe at *
                  simp (disch := first | (simp only [List.length_append, List.length_cons, List.length_nil]; omega) | (simp; done) | assumption) [AV.cells?, AV.isCell, -AV.cells?, cq_int, cq_str, cq_slice, cq_bool, -evBuild, -evBuildSlice, Tryz.f93, E_esc, i1, i4, i7, hps, h8, h9, h10, h11, h12, hcx, hlx, htx, hex, finPan, hf, z24, c24, a24, k24, i24, tq46_0, tq46_1, tq46_2, tc46, ta46, tk46, ti46, tz46, fq0, fq3, fq4, fq5, c3, a3, k3, i3, c2, a2, k2, i2, c22, a22, k22, i22, bq3, bq2]
                | ok z =>
                  obtain ⟨y, r12⟩ := z
                  rw [e12, ansX_ok] at h12
                  rw [th_ok]
                  have hbs := bS2' x y
                  have hcy := xcells y
                  have hly := xlen y
                  have hty := xtake y
                  have hey := xemb y
                  have h13 : ev Tryz.prog E (n + 5) 88 [.ptr a 0, .str [41]] (PSt H0 T a l (r12) d) = _ := ev_need ha T l hl (n + 1) (r12) d _ _
                  cases e13 : needP (hereT l) [41] (r12) with
                  | error z =>
                    obtain ⟨c', w⟩ := z
                    rw [e13, ansR_err] at h13
                    rw [th_err, ansX_err]
                    have hf := fin_stop H0 T a l p d w c' w
                    generalize PSt H0 T a l (w) d = L0 at *
                    generalize PSt H0 T a l (r12) d = L1 at *
                    generalize PSt H0 T a l (r11) d = L2 at *
                    generalize PSt H0 T a l (r10) d = L3 at *
                    generalize PSt H0 T a l (r9) d = L4 at *
                    generalize PSt H0 T a l (r8) d = L5 at *
                    generalize PSt H0 T a l (p + 1) d = L6 at *
                    generalize PSt H0 T a l (p) d = L7 at *
                    generalize stopV (hereT l) c' w = sv at *
                    generalize x.cells = xc at *
                    generalize x.emb = xe at *
                    generalize y.cells = yc at *
                    generalize y.emb = ye at *
                    simp (disch := first | (simp only [List.length_append, List.length_cons, List.length_nil]; omega) | (simp; done) | assumption) [AV.cells?, AV.isCell, -AV.cells?, cq_int, cq_str, cq_slice, cq_bool, -evBuild, -evBuildSlice, Tryz.f93, E_esc, i1, i4, i7, hps, h8, h9, h10, h11, h12, hbs, h13, hcx, hlx, htx, hex, hcy, hly, hty, hey, finPan, hf, z24, c24, a24, k24, i24, tq46_0, tq46_1, tq46_2, tc46, ta46, tk46, ti46, tz46, fq0, fq3, fq4, fq5, c3, a3, k3, i3, c2, a2, k2, i2, c22, a22, k22, i22, bq3, bq2]
                  | ok z =>
                    obtain ⟨_u13, r13⟩ := z
                    rw [e13, ansR_ok] at h13
                    rw [th_ok]
                    rw [ansX_ok]
                    have hf := fin_X H0 T a l p d (r13) (X.mk 24 [] 0 lo hi true [x, y])
                    simp only [mk_emb, embL2] at hf ⊢
                    generalize PSt H0 T a l (r13) d = L0 at *
                    generalize PSt H0 T a l (r12) d = L1 at *
                    generalize PSt H0 T a l (r11) d = L2 at *
                    generalize PSt H0 T a l (r10) d = L3 at *
                    generalize PSt H0 T a l (r9) d = L4 at *
                    generalize PSt H0 T a l (r8) d = L5 at *
                    generalize PSt H0 T a l (p + 1) d = L6 at *
                    generalize PSt H0 T a l (p) d = L7 at *
                    generalize x.cells = xc at *
                    generalize x.emb = xe at *
                    generalize y.cells = yc at *
                    generalize y.emb = ye at *
                    simp (disch := first | (simp only [List.length_append, List.length_cons, List.length_nil]; omega) | (simp; done) | assumption) [AV.cells?, AV.isCell, -AV.cells?, cq_int, cq_str, cq_slice, cq_bool, -evBuild, -evBuildSlice, Tryz.f93, E_esc, i1, i4, i7, hps, h8, h9, h10, h11, h12, hbs, h13, hcx, hlx, htx, hex, hcy, hly, hty, hey, hf, z24, c24, a24, k24, i24, tq46_0, tq46_1, tq46_2, tc46, ta46, tk46, ti46, tz46, fq0, fq3, fq4, fq5, c3, a3, k3, i3, c2, a2, k2, i2, c22, a22, k22, i22, bq3, bq2]
      · rw [if_neg b7]
        simp only [Bool.not_eq_true] at b7
        rw [b7] at i7
        simp only [Bool.false_eq_true, if_false] at i7
        rw [ansX_err]
        have hfl := ev_fail ha T l hl (n + 3) (p) d 16
        have hf := fin_stop H0 T a l p d (p) 16 (p)
        generalize PSt H0 T a l (p) d = L0 at *
        generalize stopV (hereT l) 16 (p) = sv at *
        simp (disch := first | (simp only [List.length_append, List.length_cons, List.length_nil]; omega) | (simp; done) | assumption) [AV.cells?, AV.isCell, -AV.cells?, cq_int, cq_str, cq_slice, cq_bool, -evBuild, -evBuildSlice, Tryz.f93, E_esc, i1, i4, i7, hfl, finPan, hf, z24, c24, a24, k24, i24, tq46_0, tq46_1, tq46_2, tc46, ta46, tk46, ti46, tz46, fq0, fq3, fq4, fq5, c3, a3, k3, i3, c2, a2, k2, i2, c22, a22, k22, i22, bq3, bq2]
set_option maxHeartbeats 8000000 in
theorem ev72 (n d F : Nat) (one any : Nat → PR X) (h1 : Sub H0 T a l d (n + 6) 82 one) (hs : Sub H0 T a l d (n + 6) 26 any) (hS : Sub H0 T a l d (n + 6) 87 (setP (hereT l) F)) : Sub H0 T a l d (n + 7) 85 (signedP (hereT l) F one any) := by
  intro p
  rw [show n + 7 = (n + 6) + 1 from rfl, ev_enter (n := n + 6) (show E.ok 85 = true from rfl) Tryz.func85 (fn := Tryz.f85) rfl (Nat.le_of_ble_eq_true rfl) (by decide +kernel)]
  unfold signedP
  have i1 : ev Tryz.prog E (n + 6) 41 [.ptr a 0, .str [45]] (PSt H0 T a l (p) d) = _ := ev_is ha T l hl (n + 4) (p) d _ _
  by_cases b1 : isB (hereT l) (p) [45] = true
  · rw [if_pos b1]
    have ilt := is_lt b1
    have ib := b1
    rw [b1] at i1
    simp only [if_true] at i1
    have h2 := h1 (p + 1)
    cases e2 : one (p + 1) with
    | error z =>
      obtain ⟨c', w⟩ := z
      rw [e2, ansX_err] at h2
      rw [th_err, ansX_err]
      have hf := fin_stop H0 T a l p d w c' w
      generalize PSt H0 T a l (w) d = L0 at *
      generalize PSt H0 T a l (p + 1) d = L1 at *
      generalize PSt H0 T a l (p) d = L2 at *
      generalize stopV (hereT l) c' w = sv at *
      simp (disch := first | (simp only [List.length_append, List.length_cons, List.length_nil]; omega) | (simp; done) | assumption) [AV.cells?, AV.isCell, -AV.cells?, cq_int, cq_str, cq_slice, cq_bool, -evBuild, -evBuildSlice, Tryz.f85, E_esc, i1, h2, finPan, hf, z24, c24, a24, k24, i24, tq46_0, tq46_1, tq46_2, tc46, ta46, tk46, ti46, tz46, fq0, fq3, fq4, fq5, c3, a3, k3, i3, c2, a2, k2, i2, c22, a22, k22, i22, bq3, bq2]
    | ok z =>
      obtain ⟨x, r2⟩ := z
      rw [e2, ansX_ok] at h2
      rw [th_ok]
      have hcx := xcells x
      have hlx := xlen x
      have htx := xtake x
      have hex := xemb x
      rw [ansX_ok]
      have hf := fin_X H0 T a l p d (r2) (oneX 11 x)
      have ho := fun S => ev_one1 (n + 5) 11 x S
      have hcz := xcells (oneX 11 x)
      have hlz := xlen (oneX 11 x)
      have htz := xtake (oneX 11 x)
      have hez := xemb (oneX 11 x)
      generalize (oneX 11 x).cells = zc at *
      generalize (oneX 11 x).emb = ze at *
      generalize PSt H0 T a l (r2) d = L0 at *
      generalize PSt H0 T a l (p + 1) d = L1 at *
      generalize PSt H0 T a l (p) d = L2 at *
      generalize x.cells = xc at *
      generalize x.emb = xe at *
      simp (disch := first | (simp only [List.length_append, List.length_cons, List.length_nil]; omega) | (simp; done) | assumption) [AV.cells?, AV.isCell, -AV.cells?, cq_int, cq_str, cq_slice, cq_bool, -evBuild, -evBuildSlice, Tryz.f85, E_esc, i1, h2, hcx, hlx, htx, hex, ho, hcz, hlz, htz, hez, hf, z24, c24, a24, k24, i24, tq46_0, tq46_1, tq46_2, tc46, ta46, tk46, ti46, tz46, fq0, fq3, fq4, fq5, c3, a3, k3, i3, c2, a2, k2, i2, c22, a22, k22, i22, bq3, bq2]
  · rw [if_neg b1]
    simp only [Bool.not_eq_true] at b1
    rw [b1] at i1
    simp only [Bool.false_eq_true, if_false] at i1
    have i3 : ev Tryz.prog E (n + 6) 41 [.ptr a 0, .str [123]] (PSt H0 T a l (p) d) = _ := ev_is ha T l hl (n + 4) (p) d _ _
    by_cases b3 : isB (hereT l) (p) [123] = true
    · rw [if_pos b3]
      have ilt := is_lt b3
      have ib := b3
      rw [b3] at i3
      simp only [if_true] at i3
      have h4 := hS (p + 1)
      cases e4 : setP (hereT l) F (p + 1) with
      | error z =>
        obtain ⟨c', w⟩ := z
        rw [e4, ansX_err] at h4
        rw [ansX_err]
        have hf := fin_stop H0 T a l p d w c' w
        generalize PSt H0 T a l (w) d = L0 at *
        generalize PSt H0 T a l (p + 1) d = L1 at *
        generalize PSt H0 T a l (p) d = L2 at *
        generalize stopV (hereT l) c' w = sv at *
        simp (disch := first | (simp only [List.length_append, List.length_cons, List.length_nil]; omega) | (simp; done) | assumption) [AV.cells?, AV.isCell, -AV.cells?, cq_int, cq_str, cq_slice, cq_bool, -evBuild, -evBuildSlice, Tryz.f85, E_esc, i1, i3, h4, finPan, hf, z24, c24, a24, k24, i24, tq46_0, tq46_1, tq46_2, tc46, ta46, tk46, ti46, tz46, fq0, fq3, fq4, fq5, c3, a3, k3, i3, c2, a2, k2, i2, c22, a22, k22, i22, bq3, bq2]
      | ok z =>
        obtain ⟨x, r4⟩ := z
        rw [e4, ansX_ok] at h4
        have hcx := xcells x
        have hlx := xlen x
        have htx := xtake x
        have hex := xemb x
        rw [ansX_ok]
        have hf := fin_X H0 T a l p d (r4) (x)
        generalize PSt H0 T a l (r4) d = L0 at *
        generalize PSt H0 T a l (p + 1) d = L1 at *
        generalize PSt H0 T a l (p) d = L2 at *
        generalize x.cells = xc at *
        generalize x.emb = xe at *
        simp (disch := first | (simp only [List.length_append, List.length_cons, List.length_nil]; omega) | (simp; done) | assumption) [AV.cells?, AV.isCell, -AV.cells?, cq_int, cq_str, cq_slice, cq_bool, -evBuild, -evBuildSlice, Tryz.f85, E_esc, i1, i3, h4, hcx, hlx, htx, hex, hf, z24, c24, a24, k24, i24, tq46_0, tq46_1, tq46_2, tc46, ta46, tk46, ti46, tz46, fq0, fq3, fq4, fq5, c3, a3, k3, i3, c2, a2, k2, i2, c22, a22, k22, i22, bq3, bq2]
    · rw [if_neg b3]
      simp only [Bool.not_eq_true] at b3
      rw [b3] at i3
      simp only [Bool.false_eq_true, if_false] at i3
      unfold argP
      have h5 : ev Tryz.prog E (n + 6) 88 [.ptr a 0, .str [40]] (PSt H0 T a l (p) d) = _ := ev_need ha T l hl (n + 2) (p) d _ _
      cases e5 : needP (hereT l) [40] (p) with
      | error z =>
        obtain ⟨c', w⟩ := z
        rw [e5, ansR_err] at h5
        rw [th_err, ansX_err]
        have hf := fin_stop H0 T a l p d w c' w
        generalize PSt H0 T a l (w) d = L0 at *
        generalize PSt H0 T a l (p) d = L1 at *
        generalize stopV (hereT l) c' w = sv at *
        simp (disch := first | (simp only [List.length_append, List.length_cons, List.length_nil]; omega) | (simp; done) | assumption) [AV.cells?, AV.isCell, -AV.cells?, cq_int, cq_str, cq_slice, cq_bool, -evBuild, -evBuildSlice, Tryz.f85, E_esc, i1, i3, h5, finPan, hf, z24, c24, a24, k24, i24, tq46_0, tq46_1, tq46_2, tc46, ta46, tk46, ti46, tz46, fq0, fq3, fq4, fq5, c3, a3, k3, i3, c2, a2, k2, i2, c22, a22, k22, i22, bq3, bq2]
      | ok z =>
        obtain ⟨_u5, r5⟩ := z
        rw [e5, ansR_ok] at h5
        rw [th_ok]
        have h6 := hs (r5)
        cases e6 : any (r5) with
        | error z =>
          obtain ⟨c', w⟩ := z
          rw [e6, ansX_err] at h6
          rw [th_err, ansX_err]
          have hf := fin_stop H0 T a l p d w c' w
          generalize PSt H0 T a l (w) d = L0 at *
          generalize PSt H0 T a l (r5) d = L1 at *
          generalize PSt H0 T a l (p) d = L2 at *
          generalize stopV (hereT l) c' w = sv at *
          simp (disch := first | (simp only [List.length_append, List.length_cons, List.length_nil]; omega) | (simp; done) | assumption) [AV.cells?, AV.isCell, -AV.cells?, cq_int, cq_str, cq_slice, cq_bool, -evBuild, -evBuildSlice, Tryz.f85, E_esc, i1, i3, h5, h6, finPan, hf, z24, c24, a24, k24, i24, tq46_0, tq46_1, tq46_2, tc46, ta46, tk46, ti46, tz46, fq0, fq3, fq4, fq5, c3, a3, k3, i3, c2, a2, k2, i2, c22, a22, k22, i22, bq3, bq2]
        | ok z =>
          obtain ⟨x, r6⟩ := z
          rw [e6, ansX_ok] at h6
          rw [th_ok]
          have hcx := xcells x
          have hlx := xlen x
          have htx := xtake x
          have hex := xemb x
          have h7 : ev Tryz.prog E (n + 6) 88 [.ptr a 0, .str [41]] (PSt H0 T a l (r6) d) = _ := ev_need ha T l hl (n + 2) (r6) d _ _
          cases e7 : needP (hereT l) [41] (r6) with
          | error z =>
            obtain ⟨c', w⟩ := z
            rw [e7, ansR_err] at h7
            rw [th_err, ansX_err]
            have hf := fin_stop H0 T a l p d w c' w
            generalize PSt H0 T a l (w) d = L0 at *
            generalize PSt H0 T a l (r6) d = L1 at *
            generalize PSt H0 T a l (r5) d = L2 at *
            generalize PSt H0 T a l (p) d = L3 at *
            generalize stopV (hereT l) c' w = sv at *
            generalize x.cells = xc at *
            generalize x.emb = xe at *
            simp (disch := first | (simp only [List.length_append, List.length_cons, List.length_nil]; omega) | (simp; done) | assumption) [AV.cells?, AV.isCell, -AV.cells?, cq_int, cq_str, cq_slice, cq_bool, -evBuild, -evBuildSlice, Tryz.f85, E_esc, i1, i3, h5, h6, h7, hcx, hlx, htx, hex, finPan, hf, z24, c24, a24, k24, i24, tq46_0, tq46_1, tq46_2, tc46, ta46, tk46, ti46, tz46, fq0, fq3, fq4, fq5, c3, a3, k3, i3, c2, a2, k2, i2, c22, a22, k22, i22, bq3, bq2]
          | ok z =>
            obtain ⟨_u7, r7⟩ := z
            rw [e7, ansR_ok] at h7
            rw [th_ok]
            rw [ansX_ok]
            have hf := fin_X H0 T a l p d (r7) (x)
            generalize PSt H0 T a l (r7) d = L0 at *
            generalize PSt H0 T a l (r6) d = L1 at *
            generalize PSt H0 T a l (r5) d = L2 at *
            generalize PSt H0 T a l (p) d = L3 at *
            generalize x.cells = xc at *
            generalize x.emb = xe at *
            simp (disch := first | (simp only [List.length_append, List.length_cons, List.length_nil]; omega) | (simp; done) | assumption) [AV.cells?, AV.isCell, -AV.cells?, cq_int, cq_str, cq_slice, cq_bool, -evBuild, -evBuildSlice, Tryz.f85, E_esc, i1, i3, h5, h6, h7, hcx, hlx, htx, hex, hf, z24, c24, a24, k24, i24, tq46_0, tq46_1, tq46_2, tc46, ta46, tk46, ti46, tz46, fq0, fq3, fq4, fq5, c3, a3, k3, i3, c2, a2, k2, i2, c22, a22, k22, i22, bq3, bq2]
set_option maxHeartbeats 16000000 in
theorem ev73 (n d : Nat) (one any : Nat → PR X) (h1 : Sub H0 T a l d (n + 6) 82 one) (hA : Sub H0 T a l d (n + 6) 92 (argP (hereT l) any)) (hT : Sub H0 T a l d (n + 6) 93 (timedP (hereT l) any)) : Sub H0 T a l d (n + 7) 86 (namedP (hereT l) one any) := by
  intro p
  rw [show n + 7 = (n + 6) + 1 from rfl, ev_enter (n := n + 6) (show E.ok 86 = true from rfl) Tryz.func86 (fn := Tryz.f86) rfl (Nat.le_of_ble_eq_true rfl) (by decide +kernel)]
  unfold namedP
  have i1 : ev Tryz.prog E (n + 6) 41 [.ptr a 0, .str [116, 114, 117, 101]] (PSt H0 T a l (p) d) = _ := ev_is ha T l hl (n + 4) (p) d _ _
  by_cases b1 : isB (hereT l) (p) [116, 114, 117, 101] = true
  · rw [if_pos b1]
    have ilt := is_lt b1
    have ib := b1
    rw [b1] at i1
    simp only [if_true] at i1
    rw [ansX_ok]
    have hf := fin_X H0 T a l p d (p + 1) (leafX 2 [] 1 0)
    have ht0 := ev_truth (n + 5) 1 (PSt H0 T a l (p + 1) d)
    have hcz := xcells (leafX 2 [] 1 0)
    have hlz := xlen (leafX 2 [] 1 0)
    have htz := xtake (leafX 2 [] 1 0)
    have hez := xemb (leafX 2 [] 1 0)
    generalize (leafX 2 [] 1 0).cells = zc at *
    generalize (leafX 2 [] 1 0).emb = ze at *
    generalize PSt H0 T a l (p + 1) d = L0 at *
    generalize PSt H0 T a l (p) d = L1 at *
    simp (disch := first | (simp only [List.length_append, List.length_cons, List.length_nil]; omega) | (simp; done) | assumption) [AV.cells?, AV.isCell, -AV.cells?, cq_int, cq_str, cq_slice, cq_bool, -evBuild, -evBuildSlice, Tryz.f86, E_esc, i1, ht0, hcz, hlz, htz, hez, hf, z24, c24, a24, k24, i24, tq46_0, tq46_1, tq46_2, tc46, ta46, tk46, ti46, tz46, fq0, fq3, fq4, fq5, c3, a3, k3, i3, c2, a2, k2, i2, c22, a22, k22, i22, bq3, bq2]
  · rw [if_neg b1]
    simp only [Bool.not_eq_true] at b1
    rw [b1] at i1
    simp only [Bool.false_eq_true, if_false] at i1
    have i2 : ev Tryz.prog E (n + 6) 41 [.ptr a 0, .str [102, 97, 108, 115, 101]] (PSt H0 T a l (p) d) = _ := ev_is ha T l hl (n + 4) (p) d _ _
    by_cases b2 : isB (hereT l) (p) [102, 97, 108, 115, 101] = true
    · rw [if_pos b2]
      have ilt := is_lt b2
      have ib := b2
      rw [b2] at i2
      simp only [if_true] at i2
      rw [ansX_ok]
      have hf := fin_X H0 T a l p d (p + 1) (leafX 2 [] 0 0)
      have ht0 := ev_truth (n + 5) 0 (PSt H0 T a l (p + 1) d)
      have hcz := xcells (leafX 2 [] 0 0)
      have hlz := xlen (leafX 2 [] 0 0)
      have htz := xtake (leafX 2 [] 0 0)
      have hez := xemb (leafX 2 [] 0 0)
      generalize (leafX 2 [] 0 0).cells = zc at *
      generalize (leafX 2 [] 0 0).emb = ze at *
      generalize PSt H0 T a l (p + 1) d = L0 at *
      generalize PSt H0 T a l (p) d = L1 at *
      simp (disch := first | (simp only [List.length_append, List.length_cons, List.length_nil]; omega) | (simp; done) | assumption) [AV.cells?, AV.isCell, -AV.cells?, cq_int, cq_str, cq_slice, cq_bool, -evBuild, -evBuildSlice, Tryz.f86, E_esc, i1, i2, ht0, hcz, hlz, htz, hez, hf, z24, c24, a24, k24, i24, tq46_0, tq46_1, tq46_2, tc46, ta46, tk46, ti46, tz46, fq0, fq3, fq4, fq5, c3, a3, k3, i3, c2, a2, k2, i2, c22, a22, k22, i22, bq3, bq2]
    · rw [if_neg b2]
      simp only [Bool.not_eq_true] at b2
      rw [b2] at i2
      simp only [Bool.false_eq_true, if_false] at i2
      have i3 : ev Tryz.prog E (n + 6) 41 [.ptr a 0, .str [110, 111, 119]] (PSt H0 T a l (p) d) = _ := ev_is ha T l hl (n + 4) (p) d _ _
      by_cases b3 : isB (hereT l) (p) [110, 111, 119] = true
      · rw [if_pos b3]
        have ilt := is_lt b3
        have ib := b3
        rw [b3] at i3
        simp only [if_true] at i3
        rw [ansX_ok]
        have hf := fin_X H0 T a l p d (p + 1) (leafX 7 [] 0 0)
        have hb0 := bX0 7
        have hcz := xcells (leafX 7 [] 0 0)
        have hlz := xlen (leafX 7 [] 0 0)
        have htz := xtake (leafX 7 [] 0 0)
        have hez := xemb (leafX 7 [] 0 0)
        generalize (leafX 7 [] 0 0).cells = zc at *
        generalize (leafX 7 [] 0 0).emb = ze at *
        generalize PSt H0 T a l (p + 1) d = L0 at *
        generalize PSt H0 T a l (p) d = L1 at *
        simp (disch := first | (simp only [List.length_append, List.length_cons, List.length_nil]; omega) | (simp; done) | assumption) [AV.cells?, AV.isCell, -AV.cells?, cq_int, cq_str, cq_slice, cq_bool, -evBuild, -evBuildSlice, Tryz.f86, E_esc, i1, i2, i3, hb0, hcz, hlz, htz, hez, hf, z24, c24, a24, k24, i24, tq46_0, tq46_1, tq46_2, tc46, ta46, tk46, ti46, tz46, fq0, fq3, fq4, fq5, c3, a3, k3, i3, c2, a2, k2, i2, c22, a22, k22, i22, bq3, bq2]
      · rw [if_neg b3]
        simp only [Bool.not_eq_true] at b3
        rw [b3] at i3
        simp only [Bool.false_eq_true, if_false] at i3
        have i4 : ev Tryz.prog E (n + 6) 41 [.ptr a 0, .str [110, 111, 116]] (PSt H0 T a l (p) d) = _ := ev_is ha T l hl (n + 4) (p) d _ _
        by_cases b4 : isB (hereT l) (p) [110, 111, 116] = true
        · rw [if_pos b4]
          have ilt := is_lt b4
          have ib := b4
          rw [b4] at i4
          simp only [if_true] at i4
          have h5 := h1 (p + 1)
          cases e5 : one (p + 1) with
          | error z =>
            obtain ⟨c', w⟩ := z
            rw [e5, ansX_err] at h5
            rw [th_err, ansX_err]
            have hf := fin_stop H0 T a l p d w c' w
            generalize PSt H0 T a l (w) d = L0 at *
            generalize PSt H0 T a l (p + 1) d = L1 at *
            generalize PSt H0 T a l (p) d = L2 at *
            generalize stopV (hereT l) c' w = sv at *
            simp (disch := first | (simp only [List.length_append, List.length_cons, List.length_nil]; omega) | (simp; done) | assumption) [AV.cells?, AV.isCell, -AV.cells?, cq_int, cq_str, cq_slice, cq_bool, -evBuild, -evBuildSlice, Tryz.f86, E_esc, i1, i2, i3, i4, h5, finPan, hf, z24, c24, a24, k24, i24, tq46_0, tq46_1, tq46_2, tc46, ta46, tk46, ti46, tz46, fq0, fq3, fq4, fq5, c3, a3, k3, i3, c2, a2, k2, i2, c22, a22, k22, i22, bq3, bq2]
          | ok z =>
            obtain ⟨x, r5⟩ := z
            rw [e5, ansX_ok] at h5
            rw [th_ok]
            have hcx := xcells x
            have hlx := xlen x
            have htx := xtake x
            have hex := xemb x
            rw [ansX_ok]
            have hf := fin_X H0 T a l p d (r5) (oneX 18 x)
            have ho := fun S => ev_one1 (n + 5) 18 x S
            have hcz := xcells (oneX 18 x)
            have hlz := xlen (oneX 18 x)
            have htz := xtake (oneX 18 x)
            have hez := xemb (oneX 18 x)
            generalize (oneX 18 x).cells = zc at *
            generalize (oneX 18 x).emb = ze at *
            generalize PSt H0 T a l (r5) d = L0 at *
            generalize PSt H0 T a l (p + 1) d = L1 at *
            generalize PSt H0 T a l (p) d = L2 at *
            generalize x.cells = xc at *
            generalize x.emb = xe at *
            simp (disch := first | (simp only [List.length_append, List.length_cons, List.length_nil]; omega) | (simp; done) | assumption) [AV.cells?, AV.isCell, -AV.cells?, cq_int, cq_str, cq_slice, cq_bool, -evBuild, -evBuildSlice, Tryz.f86, E_esc, i1, i2, i3, i4, h5, hcx, hlx, htx, hex, ho, hcz, hlz, htz, hez, hf, z24, c24, a24, k24, i24, tq46_0, tq46_1, tq46_2, tc46, ta46, tk46, ti46, tz46, fq0, fq3, fq4, fq5, c3, a3, k3, i3, c2, a2, k2, i2, c22, a22, k22, i22, bq3, bq2]
        · rw [if_neg b4]
          simp only [Bool.not_eq_true] at b4
          rw [b4] at i4
          simp only [Bool.false_eq_true, if_false] at i4
          have i6 : ev Tryz.prog E (n + 6) 41 [.ptr a 0, .str [115]] (PSt H0 T a l (p) d) = _ := ev_is ha T l hl (n + 4) (p) d _ _
          by_cases b6 : isB (hereT l) (p) [115] = true
          · rw [if_pos b6]
            have ilt := is_lt b6
            have ib := b6
            rw [b6] at i6
            simp only [if_true] at i6
            have h7 := ev77 ha T l hl (n + 1) (p + 1) d 5
            cases e7 : attrP (hereT l) 5 (p + 1) with
            | error z =>
              obtain ⟨c', w⟩ := z
              rw [e7, ansX_err] at h7
              rw [ansX_err]
              have hf := fin_stop H0 T a l p d w c' w
              generalize PSt H0 T a l (w) d = L0 at *
              generalize PSt H0 T a l (p + 1) d = L1 at *
              generalize PSt H0 T a l (p) d = L2 at *
              generalize stopV (hereT l) c' w = sv at *
              simp (disch := first | (simp only [List.length_append, List.length_cons, List.length_nil]; omega) | (simp; done) | assumption) [AV.cells?, AV.isCell, -AV.cells?, cq_int, cq_str, cq_slice, cq_bool, -evBuild, -evBuildSlice, Tryz.f86, E_esc, i1, i2, i3, i4, i6, h7, finPan, hf, z24, c24, a24, k24, i24, tq46_0, tq46_1, tq46_2, tc46, ta46, tk46, ti46, tz46, fq0, fq3, fq4, fq5, c3, a3, k3, i3, c2, a2, k2, i2, c22, a22, k22, i22, bq3, bq2]
            | ok z =>
              obtain ⟨x, r7⟩ := z
              rw [e7, ansX_ok] at h7
              have hcx := xcells x
              have hlx := xlen x
              have htx := xtake x
              have hex := xemb x
              rw [ansX_ok]
              have hf := fin_X H0 T a l p d (r7) (x)
              generalize PSt H0 T a l (r7) d = L0 at *
              generalize PSt H0 T a l (p + 1) d = L1 at *
              generalize PSt H0 T a l (p) d = L2 at *
              generalize x.cells = xc at *
              generalize x.emb = xe at *
              simp (disch := first | (simp only [List.length_append, List.length_cons, List.length_nil]; omega) | (simp; done) | assumption) [AV.cells?, AV.isCell, -AV.cells?, cq_int, cq_str, cq_slice, cq_bool, -evBuild, -evBuildSlice, Tryz.f86, E_esc, i1, i2, i3, i4, i6, h7, hcx, hlx, htx, hex, hf, z24, c24, a24, k24, i24, tq46_0, tq46_1, tq46_2, tc46, ta46, tk46, ti46, tz46, fq0, fq3, fq4, fq5, c3, a3, k3, i3, c2, a2, k2, i2, c22, a22, k22, i22, bq3, bq2]
          · rw [if_neg b6]
            simp only [Bool.not_eq_true] at b6
            rw [b6] at i6
            simp only [Bool.false_eq_true, if_false] at i6
            have i8 : ev Tryz.prog E (n + 6) 41 [.ptr a 0, .str [111]] (PSt H0 T a l (p) d) = _ := ev_is ha T l hl (n + 4) (p) d _ _
            by_cases b8 : isB (hereT l) (p) [111] = true
            · rw [if_pos b8]
              have ilt := is_lt b8
              have ib := b8
              rw [b8] at i8
              simp only [if_true] at i8
              have h9 := ev77 ha T l hl (n + 1) (p + 1) d 6
              cases e9 : attrP (hereT l) 6 (p + 1) with
              | error z =>
                obtain ⟨c', w⟩ := z
                rw [e9, ansX_err] at h9
                rw [ansX_err]
                have hf := fin_stop H0 T a l p d w c' w
                generalize PSt H0 T a l (w) d = L0 at *
                generalize PSt H0 T a l (p + 1) d = L1 at *
                generalize PSt H0 T a l (p) d = L2 at *
                generalize stopV (hereT l) c' w = sv at *
                simp (disch := first | (simp only [List.length_append, List.length_cons, List.length_nil]; omega) | (simp; done) | assumption) [AV.cells?, AV.isCell, -AV.cells?, cq_int, cq_str, cq_slice, cq_bool, -evBuild, -evBuildSlice, Tryz.f86, E_esc, i1, i2, i3, i4, i6, i8, h9, finPan, hf, z24, c24, a24, k24, i24, tq46_0, tq46_1, tq46_2, tc46, ta46, tk46, ti46, tz46, fq0, fq3, fq4, fq5, c3, a3, k3, i3, c2, a2, k2, i2, c22, a22, k22, i22, bq3, bq2]
              | ok z =>
                obtain ⟨x, r9⟩ := z
                rw [e9, ansX_ok] at h9
                have hcx := xcells x
                have hlx := xlen x
                have htx := xtake x
                have hex := xemb x
                rw [ansX_ok]
                have hf := fin_X H0 T a l p d (r9) (x)
                generalize PSt H0 T a l (r9) d = L0 at *
                generalize PSt H0 T a l (p + 1) d = L1 at *
                generalize PSt H0 T a l (p) d = L2 at *
                generalize x.cells = xc at *
                generalize x.emb = xe at *
                simp (disch := first | (simp only [List.length_append, List.length_cons, List.length_nil]; omega) | (simp; done) | assumption) [AV.cells?, AV.isCell, -AV.cells?, cq_int, cq_str, cq_slice, cq_bool, -evBuild, -evBuildSlice, Tryz.f86, E_esc, i1, i2, i3, i4, i6, i8, h9, hcx, hlx, htx, hex, hf, z24, c24, a24, k24, i24, tq46_0, tq46_1, tq46_2, tc46, ta46, tk46, ti46, tz46, fq0, fq3, fq4, fq5, c3, a3, k3, i3, c2, a2, k2, i2, c22, a22, k22, i22, bq3, bq2]
            · rw [if_neg b8]
              simp only [Bool.not_eq_true] at b8
              rw [b8] at i8
              simp only [Bool.false_eq_true, if_false] at i8
              have i10 : ev Tryz.prog E (n + 6) 41 [.ptr a 0, .str [97, 99, 116]] (PSt H0 T a l (p) d) = _ := ev_is ha T l hl (n + 4) (p) d _ _
              by_cases b10 : isB (hereT l) (p) [97, 99, 116] = true
              · rw [if_pos b10]
                have ilt := is_lt b10
                have ib := b10
                rw [b10] at i10
                simp only [if_true] at i10
                have hps : E.ps 86 15 = [(4, 8), (14, 14)] := rfl
                have hg := PSt_get ha T l (p + 1) d
                have hw : IntKind.i64.wrap (((p + 1 : Nat) : Int) - 1) = (p : Int) := by rw [wrap64 _ (by omega)]; omega
                have hx : l[p]? = some (hereT l p) := by
                  have e : l[p]? = some l[p] := List.getElem?_eq_getElem ilt
                  simp [hereT, e]
                have hia := ia l .non p _ hx
                have hcs : (hereT l p).cells = [.int .i64 (hereT l p).k, .str (hereT l p).s, .int .i64 (hereT l p).n, .int .i64 (hereT l p).p] := rfl
                have hss : (hereT l p).s = [97, 99, 116] := by
                  simp only [isB, Bool.and_eq_true, beq_iff_eq] at ib
                  exact ib.2
                rw [hcs, hss] at hia
                generalize tkL l = es at *
                clear ib
                generalize (hereT l p).k = zk at *
                generalize (hereT l p).n = zn at *
                generalize (hereT l p).p = zp at *
                generalize hP1 : p + 1 = P1 at *
                have h11 := ev78a ha T l hl (n + 1) (P1) d
                cases e11 : actP (hereT l) (P1) with
                | error z =>
                  obtain ⟨c', w⟩ := z
                  rw [e11, ansX_err] at h11
                  rw [ansX_err]
                  have hf := fin_stop H0 T a l p d w c' w
                  generalize PSt H0 T a l (w) d = L0 at *
                  generalize PSt H0 T a l (P1) d = L1 at *
                  generalize PSt H0 T a l (p) d = L2 at *
                  generalize stopV (hereT l) c' w = sv at *
                  simp (disch := first | (simp only [List.length_append, List.length_cons, List.length_nil]; omega) | (simp; done) | assumption) [AV.cells?, AV.isCell, -AV.cells?, cq_int, cq_str, cq_slice, cq_bool, -evBuild, -evBuildSlice, Tryz.f86, E_esc, i1, i2, i3, i4, i6, i8, i10, hps, hg, hw, hia, -evIndexAddr, tq66_0, tq66_1, tk66, tk39, tc39, ta39, k9, a9, c9, bq9, h11, finPan, hf, z24, c24, a24, k24, i24, tq46_0, tq46_1, tq46_2, tc46, ta46, tk46, ti46, tz46, fq0, fq3, fq4, fq5, c3, a3, k3, i3, c2, a2, k2, i2, c22, a22, k22, i22, bq3, bq2]
                | ok z =>
                  obtain ⟨x, r11⟩ := z
                  rw [e11, ansX_ok] at h11
                  have hcx := xcells x
                  have hlx := xlen x
                  have htx := xtake x
                  have hex := xemb x
                  rw [ansX_ok]
                  have hf := fin_X H0 T a l p d (r11) (x)
                  generalize PSt H0 T a l (r11) d = L0 at *
                  generalize PSt H0 T a l (P1) d = L1 at *
                  generalize PSt H0 T a l (p) d = L2 at *
                  generalize x.cells = xc at *
                  generalize x.emb = xe at *
                  simp (disch := first | (simp only [List.length_append, List.length_cons, List.length_nil]; omega) | (simp; done) | assumption) [AV.cells?, AV.isCell, -AV.cells?, cq_int, cq_str, cq_slice, cq_bool, -evBuild, -evBuildSlice, Tryz.f86, E_esc, i1, i2, i3, i4, i6, i8, i10, hps, hg, hw, hia, -evIndexAddr, tq66_0, tq66_1, tk66, tk39, tc39, ta39, k9, a9, c9, bq9, h11, hcx, hlx, htx, hex, hf, z24, c24, a24, k24, i24, tq46_0, tq46_1, tq46_2, tc46, ta46, tk46, ti46, tz46, fq0, fq3, fq4, fq5, c3, a3, k3, i3, c2, a2, k2, i2, c22, a22, k22, i22, bq3, bq2]
              · rw [if_neg b10]
                simp only [Bool.not_eq_true] at b10
                rw [b10] at i10
                simp only [Bool.false_eq_true, if_false] at i10
                have i12 : ev Tryz.prog E (n + 6) 41 [.ptr a 0, .str [116, 105, 109, 101, 115]] (PSt H0 T a l (p) d) = _ := ev_is ha T l hl (n + 4) (p) d _ _
                by_cases b12 : isB (hereT l) (p) [116, 105, 109, 101, 115] = true
                · rw [if_pos b12]
                  have ilt := is_lt b12
                  have ib := b12
                  rw [b12] at i12
                  simp only [if_true] at i12
                  have hps : E.ps 86 15 = [(4, 8), (14, 14)] := rfl
                  have hg := PSt_get ha T l (p + 1) d
                  have hw : IntKind.i64.wrap (((p + 1 : Nat) : Int) - 1) = (p : Int) := by rw [wrap64 _ (by omega)]; omega
                  have hx : l[p]? = some (hereT l p) := by
                    have e : l[p]? = some l[p] := List.getElem?_eq_getElem ilt
                    simp [hereT, e]
                  have hia := ia l .non p _ hx
                  have hcs : (hereT l p).cells = [.int .i64 (hereT l p).k, .str (hereT l p).s, .int .i64 (hereT l p).n, .int .i64 (hereT l p).p] := rfl
                  have hss : (hereT l p).s = [116, 105, 109, 101, 115] := by
                    simp only [isB, Bool.and_eq_true, beq_iff_eq] at ib
                    exact ib.2
                  rw [hcs, hss] at hia
                  generalize tkL l = es at *
                  clear ib
                  generalize (hereT l p).k = zk at *
                  generalize (hereT l p).n = zn at *
                  generalize (hereT l p).p = zp at *
                  generalize hP1 : p + 1 = P1 at *
                  have h13 := ev78b ha T l hl (n + 1) (P1) d
                  cases e13 : timesP (hereT l) (P1) with
                  | error z =>
                    obtain ⟨c', w⟩ := z
                    rw [e13, ansX_err] at h13
                    rw [ansX_err]
                    have hf := fin_stop H0 T a l p d w c' w
                    generalize PSt H0 T a l (w) d = L0 at *
                    generalize PSt H0 T a l (P1) d = L1 at *
                    generalize PSt H0 T a l (p) d = L2 at *
                    generalize stopV (hereT l) c' w = sv at *
                    simp (disch := first | (simp only [List.length_append, List.length_cons, List.length_nil]; omega) | (simp; done) | assumption) [AV.cells?, AV.isCell, -AV.cells?, cq_int, cq_str, cq_slice, cq_bool, -evBuild, -evBuildSlice, Tryz.f86, E_esc, i1, i2, i3, i4, i6, i8, i10, i12, hps, hg, hw, hia, -evIndexAddr, tq66_0, tq66_1, tk66, tk39, tc39, ta39, k9, a9, c9, bq9, h13, finPan, hf, z24, c24, a24, k24, i24, tq46_0, tq46_1, tq46_2, tc46, ta46, tk46, ti46, tz46, fq0, fq3, fq4, fq5, c3, a3, k3, i3, c2, a2, k2, i2, c22, a22, k22, i22, bq3, bq2]
                  | ok z =>
                    obtain ⟨x, r13⟩ := z
                    rw [e13, ansX_ok] at h13
                    have hcx := xcells x
                    have hlx := xlen x
                    have htx := xtake x
                    have hex := xemb x
                    rw [ansX_ok]
                    have hf := fin_X H0 T a l p d (r13) (x)
                    generalize PSt H0 T a l (r13) d = L0 at *
                    generalize PSt H0 T a l (P1) d = L1 at *
                    generalize PSt H0 T a l (p) d = L2 at *
                    generalize x.cells = xc at *
                    generalize x.emb = xe at *
                    simp (disch := first | (simp only [List.length_append, List.length_cons, List.length_nil]; omega) | (simp; done) | assumption) [AV.cells?, AV.isCell, -AV.cells?, cq_int, cq_str, cq_slice, cq_bool, -evBuild, -evBuildSlice, Tryz.f86, E_esc, i1, i2, i3, i4, i6, i8, i10, i12, hps, hg, hw, hia, -evIndexAddr, tq66_0, tq66_1, tk66, tk39, tc39, ta39, k9, a9, c9, bq9, h13, hcx, hlx, htx, hex, hf, z24, c24, a24, k24, i24, tq46_0, tq46_1, tq46_2, tc46, ta46, tk46, ti46, tz46, fq0, fq3, fq4, fq5, c3, a3, k3, i3, c2, a2, k2, i2, c22, a22, k22, i22, bq3, bq2]
                · rw [if_neg b12]
                  simp only [Bool.not_eq_true] at b12
                  rw [b12] at i12
                  simp only [Bool.false_eq_true, if_false] at i12
                  have i14 : ev Tryz.prog E (n + 6) 41 [.ptr a 0, .str [108, 101, 110]] (PSt H0 T a l (p) d) = _ := ev_is ha T l hl (n + 4) (p) d _ _
                  by_cases b14 : isB (hereT l) (p) [108, 101, 110] = true
                  · rw [if_pos b14]
                    have ilt := is_lt b14
                    have ib := b14
                    rw [b14] at i14
                    simp only [if_true] at i14
                    have h15 := hA (p + 1)
                    cases e15 : argP (hereT l) any (p + 1) with
                    | error z =>
                      obtain ⟨c', w⟩ := z
                      rw [e15, ansX_err] at h15
                      rw [th_err, ansX_err]
                      have hf := fin_stop H0 T a l p d w c' w
                      generalize PSt H0 T a l (w) d = L0 at *
                      generalize PSt H0 T a l (p + 1) d = L1 at *
                      generalize PSt H0 T a l (p) d = L2 at *
                      generalize stopV (hereT l) c' w = sv at *
                      simp (disch := first | (simp only [List.length_append, List.length_cons, List.length_nil]; omega) | (simp; done) | assumption) [AV.cells?, AV.isCell, -AV.cells?, cq_int, cq_str, cq_slice, cq_bool, -evBuild, -evBuildSlice, Tryz.f86, E_esc, i1, i2, i3, i4, i6, i8, i10, i12, i14, h15, finPan, hf, z24, c24, a24, k24, i24, tq46_0, tq46_1, tq46_2, tc46, ta46, tk46, ti46, tz46, fq0, fq3, fq4, fq5, c3, a3, k3, i3, c2, a2, k2, i2, c22, a22, k22, i22, bq3, bq2]
                    | ok z =>
                      obtain ⟨x, r15⟩ := z
                      rw [e15, ansX_ok] at h15
                      rw [th_ok]
                      have hcx := xcells x
                      have hlx := xlen x
                      have htx := xtake x
                      have hex := xemb x
                      rw [ansX_ok]
                      have hf := fin_X H0 T a l p d (r15) (oneX 12 x)
                      have ho := fun S => ev_one1 (n + 5) 12 x S
                      have hcz := xcells (oneX 12 x)
                      have hlz := xlen (oneX 12 x)
                      have htz := xtake (oneX 12 x)
                      have hez := xemb (oneX 12 x)
                      generalize (oneX 12 x).cells = zc at *
                      generalize (oneX 12 x).emb = ze at *
                      generalize PSt H0 T a l (r15) d = L0 at *
                      generalize PSt H0 T a l (p + 1) d = L1 at *
                      generalize PSt H0 T a l (p) d = L2 at *
                      generalize x.cells = xc at *
                      generalize x.emb = xe at *
                      simp (disch := first | (simp only [List.length_append, List.length_cons, List.length_nil]; omega) | (simp; done) | assumption) [AV.cells?, AV.isCell, -AV.cells?, cq_int, cq_str, cq_slice, cq_bool, -evBuild, -evBuildSlice, Tryz.f86, E_esc, i1, i2, i3, i4, i6, i8, i10, i12, i14, h15, hcx, hlx, htx, hex, ho, hcz, hlz, htz, hez, hf, z24, c24, a24, k24, i24, tq46_0, tq46_1, tq46_2, tc46, ta46, tk46, ti46, tz46, fq0, fq3, fq4, fq5, c3, a3, k3, i3, c2, a2, k2, i2, c22, a22, k22, i22, bq3, bq2]
                  · rw [if_neg b14]
                    simp only [Bool.not_eq_true] at b14
                    rw [b14] at i14
                    simp only [Bool.false_eq_true, if_false] at i14
                    have i16 : ev Tryz.prog E (n + 6) 41 [.ptr a 0, .str [112, 114, 101, 118]] (PSt H0 T a l (p) d) = _ := ev_is ha T l hl (n + 4) (p) d _ _
                    by_cases b16 : isB (hereT l) (p) [112, 114, 101, 118] = true
                    · rw [if_pos b16]
                      have ilt := is_lt b16
                      have ib := b16
                      rw [b16] at i16
                      simp only [if_true] at i16
                      have h17 := hA (p + 1)
                      cases e17 : argP (hereT l) any (p + 1) with
                      | error z =>
                        obtain ⟨c', w⟩ := z
                        rw [e17, ansX_err] at h17
                        rw [th_err, ansX_err]
                        have hf := fin_stop H0 T a l p d w c' w
                        generalize PSt H0 T a l (w) d = L0 at *
                        generalize PSt H0 T a l (p + 1) d = L1 at *
                        generalize PSt H0 T a l (p) d = L2 at *
                        generalize stopV (hereT l) c' w = sv at *
                        simp (disch := first | (simp only [List.length_append, List.length_cons, List.length_nil]; omega) | (simp; done) | assumption) [AV.cells?, AV.isCell, -AV.cells?, cq_int, cq_str, cq_slice, cq_bool, -evBuild, -evBuildSlice, Tryz.f86, E_esc, i1, i2, i3, i4, i6, i8, i10, i12, i14, i16, h17, finPan, hf, z24, c24, a24, k24, i24, tq46_0, tq46_1, tq46_2, tc46, ta46, tk46, ti46, tz46, fq0, fq3, fq4, fq5, c3, a3, k3, i3, c2, a2, k2, i2, c22, a22, k22, i22, bq3, bq2]
                      | ok z =>
                        obtain ⟨x, r17⟩ := z
                        rw [e17, ansX_ok] at h17
                        rw [th_ok]
                        have hcx := xcells x
                        have hlx := xlen x
                        have htx := xtake x
                        have hex := xemb x
                        rw [ansX_ok]
                        have hf := fin_X H0 T a l p d (r17) (oneX 25 x)
                        have ho := fun S => ev_one1 (n + 5) 25 x S
                        have hcz := xcells (oneX 25 x)
                        have hlz := xlen (oneX 25 x)
                        have htz := xtake (oneX 25 x)
                        have hez := xemb (oneX 25 x)
                        generalize (oneX 25 x).cells = zc at *
                        generalize (oneX 25 x).emb = ze at *
                        generalize PSt H0 T a l (r17) d = L0 at *
                        generalize PSt H0 T a l (p + 1) d = L1 at *
                        generalize PSt H0 T a l (p) d = L2 at *
                        generalize x.cells = xc at *
                        generalize x.emb = xe at *
                        simp (disch := first | (simp only [List.length_append, List.length_cons, List.length_nil]; omega) | (simp; done) | assumption) [AV.cells?, AV.isCell, -AV.cells?, cq_int, cq_str, cq_slice, cq_bool, -evBuild, -evBuildSlice, Tryz.f86, E_esc, i1, i2, i3, i4, i6, i8, i10, i12, i14, i16, h17, hcx, hlx, htx, hex, ho, hcz, hlz, htz, hez, hf, z24, c24, a24, k24, i24, tq46_0, tq46_1, tq46_2, tc46, ta46, tk46, ti46, tz46, fq0, fq3, fq4, fq5, c3, a3, k3, i3, c2, a2, k2, i2, c22, a22, k22, i22, bq3, bq2]
                    · rw [if_neg b16]
                      simp only [Bool.not_eq_true] at b16
                      rw [b16] at i16
                      simp only [Bool.false_eq_true, if_false] at i16
                      have h18 := hT (p)
                      cases e18 : timedP (hereT l) any (p) with
                      | error z =>
                        obtain ⟨c', w⟩ := z
                        rw [e18, ansX_err] at h18
                        rw [ansX_err]
                        have hf := fin_stop H0 T a l p d w c' w
                        generalize PSt H0 T a l (w) d = L0 at *
                        generalize PSt H0 T a l (p) d = L1 at *
                        generalize stopV (hereT l) c' w = sv at *
                        simp (disch := first | (simp only [List.length_append, List.length_cons, List.length_nil]; omega) | (simp; done) | assumption) [AV.cells?, AV.isCell, -AV.cells?, cq_int, cq_str, cq_slice, cq_bool, -evBuild, -evBuildSlice, Tryz.f86, E_esc, i1, i2, i3, i4, i6, i8, i10, i12, i14, i16, h18, finPan, hf, z24, c24, a24, k24, i24, tq46_0, tq46_1, tq46_2, tc46, ta46, tk46, ti46, tz46, fq0, fq3, fq4, fq5, c3, a3, k3, i3, c2, a2, k2, i2, c22, a22, k22, i22, bq3, bq2]
                      | ok z =>
                        obtain ⟨x, r18⟩ := z
                        rw [e18, ansX_ok] at h18
                        have hcx := xcells x
                        have hlx := xlen x
                        have htx := xtake x
                        have hex := xemb x
                        rw [ansX_ok]
                        have hf := fin_X H0 T a l p d (r18) (x)
                        generalize PSt H0 T a l (r18) d = L0 at *
                        generalize PSt H0 T a l (p) d = L1 at *
                        generalize x.cells = xc at *
                        generalize x.emb = xe at *
                        simp (disch := first | (simp only [List.length_append, List.length_cons, List.length_nil]; omega) | (simp; done) | assumption) [AV.cells?, AV.isCell, -AV.cells?, cq_int, cq_str, cq_slice, cq_bool, -evBuild, -evBuildSlice, Tryz.f86, E_esc, i1, i2, i3, i4, i6, i8, i10, i12, i14, i16, h18, hcx, hlx, htx, hex, hf, z24, c24, a24, k24, i24, tq46_0, tq46_1, tq46_2, tc46, ta46, tk46, ti46, tz46, fq0, fq3, fq4, fq5, c3, a3, k3, i3, c2, a2, k2, i2, c22, a22, k22, i22, bq3, bq2]
end
end Go.Proofs.YtmhidempoabehaaGreatDoor.PS
/- The parser: set, evaluated. Condition: the world outside is closed. -/
namespace Go.Proofs.YtmhidempoabehaaGreatDoor.PS
set_option linter.unusedVariables false
set_option linter.unusedSimpArgs false
open Go AE EX PT NF LX
set_option maxRecDepth 100000

theorem fin_drop {S S' : St} {v : AV} (hv : v.sealed = true) (hlen : S.H.length ≤ S'.H.length) (hT : S'.T.take S.T.length = S.T) (hlow : lowB S.H.length S.T.length (S'.H.take S.H.length) = true) (hvl : (v.strip S.T.length).low S.H.length S.T.length = true) :
    finish S v S' = some (v.strip S.T.length, ⟨S'.H.take S.H.length, S.T⟩) := by
  unfold finish
  rw [if_pos hv]
  by_cases h1 : boxEqL (S'.H.take S.H.length) S.H = true
  · have e := boxEqL_spec _ _ h1
    rw [if_pos (by simp [h1, hT, hvl]), e]
  · rw [if_neg (by simp [h1]), if_pos (by simp [hlen, hT, hvl, hlow])]
theorem lowB_set {h0 t0 : Nat} {b : HBox} (hb : AV.lowL h0 t0 b.cs = true) : ∀ {H : List HBox} {a : Nat}, lowB h0 t0 H = true → lowB h0 t0 (H.set a b) = true
  | [], a, h => h
  | x :: H, 0, h => by
    simp only [lowB, Bool.and_eq_true] at h
    simp [lowB, hb, h.2]
  | x :: H, a + 1, h => by
    simp only [lowB, Bool.and_eq_true] at h
    simp [lowB, h.1, lowB_set hb h.2]
theorem box_low (h0 t0 : Nat) (l : List Tk) (p d : Nat) : AV.lowL h0 t0 (box l p d).cs = true := by simp [box, AV.lowL, AV.low, low_tkL]
def kT (ks : List X) : List Nat := if ks = [] then [] else [6 * ks.length]
def kS (T : List Nat) (ks : List X) : AV := if ks = [] then .slice (embL ks) .clip else .slice (embL ks) (.own T.length (6 * ks.length))
theorem embL_len (ks : List X) : (embL ks).length = ks.length := by rw [embL_map]; simp
theorem embL_app (ks : List X) (x : X) : embL (ks ++ [x]) = embL ks ++ [x.emb] := by simp [embL_map]
theorem kS_cells (T : List Nat) (ks : List X) : (kS T ks).cells? = some [kS T ks] := by unfold kS; split <;> rfl
theorem kS_isCell (T : List Nat) (ks : List X) : (kS T ks).isCell = true := by unfold kS; split <;> rfl
theorem kS_sealed (T : List Nat) (ks : List X) : (kS T ks).sealed = true := by unfold kS; split <;> simp [AV.sealed, sealed_embL]
theorem kS_strip (T : List Nat) (ks : List X) (h : ks ≠ []) : (kS T ks).strip T.length = .slice (embL ks) .non := by simp [kS, h, AV.strip, strip_embL]
theorem kS_len (T : List Nat) (ks : List X) : evLen Tryz.prog 23 (kS T ks) = some (.int .i64 (ks.length : Int)) := by unfold kS; split <;> simp [evLen, embL_len, sq22]
theorem sizes_embL : ∀ ks : List X, sizesOk 6 (embL ks) = true
  | [] => rfl
  | x :: ks => by
    have := sizes_embL ks
    have hc := xcells x
    have hl := xlen x
    simp [embL, sizesOk, hc, hl, this]
theorem kS_ia (T : List Nat) (ks : List X) (i : Nat) (x : X) (h : ks[i]? = some x) : evIndexAddr Tryz.prog 23 (kS T ks) (.int .i64 (i : Int)) = some (.ref x.cells) := by
  have hc := xcells x
  have hl := xlen x
  have hi : (Tryz.prog.info? 25).isSome = true := i24
  have hg : (embL ks)[i]? = some x.emb := by rw [embL_map]; simp [h]
  unfold kS
  split <;> (simp [evIndexAddr, sq22, nth, hg, hc, c24, hl]; exact Option.isSome_iff_ne_none.1 hi)
theorem kS_app (H1 : List HBox) (T : List Nat) (ks : List X) (x : X) (h : ks.length ≤ 8) : evAppend Tryz.prog [23, 23] (kS T ks) (.slice (embL [x]) .clip) ⟨H1, T ++ kT ks⟩ = some (kS T (ks ++ [x]), ⟨H1, T ++ kT (ks ++ [x])⟩) := by
  have hs := sizes_embL ks
  have hx := sizes_embL [x]
  have hl := embL_len ks
  have he := embL_app ks x
  have hne : ks ++ [x] ≠ [] := by simp
  have hb : Tryz.prog.bytesOf 25 = 72 := by kernel_rfl
  have hs1 : embL [x] = [x.emb] := rfl
  rw [hs1] at hx ⊢
  have hcx := xcells x
  have hlx := xlen x
  simp only [evAppend, sq22, u22, elemsOf, z24, c24, hb, kS, kT, if_neg hne, he]
  by_cases h0 : ks = []
  · subst h0
    have he0 : embL ([] : List X) = [] := rfl
    simp [he0, hx, sizesOk, hcx, hlx]
  · simp only [if_neg h0]
    simp [hs, hx, hl]
    omega

/-! ### the loop -/
noncomputable def lp74 : Code := cutC (bodyOf Tryz.f87) [1, 1, 1, 0, 0]
noncomputable def s074 : Code := cutC (bodyOf Tryz.f87) [0]
noncomputable def s174 : Code := cutC (bodyOf Tryz.f87) [1, 0]
noncomputable def s274 : Code := cutC (bodyOf Tryz.f87) [1, 1, 0]
theorem fb74 : Tryz.f87.body = some (.seq s074 (.seq s174 (.seq s274 (.block 0 (.loop lp74))))) := rfl
def ksC (T : List Nat) (ks : List X) : List AV := [.int .i64 4, .str [], .int .i64 0, .int .i64 0, .int .i64 0, kS T ks]
def SEI (H0 : List HBox) (T : List Nat) (a : Nat) (l : List Tk) (d n : Nat) (R : PR X) (m : Nat) (fs : FS) : Prop :=
  ∃ ks r f, m = l.length - r ∧ ks.length ≤ 8 ∧ fs.t 0 = .ptr a 0 ∧ fs.t 2 = .loc n 2 1 0 ∧ fs.t 3 = .loc n 3 3 0 ∧ fs.b 2 = (1, z6) ∧ fs.b 3 = (3, ksC T ks) ∧ fs.S = PSt H0 (T ++ kT ks) a l r d ∧ m < f ∧ setF (hereT l) f ks r = R
def SEQ (H0 : List HBox) (T : List Nat) (a : Nat) (l : List Tk) (d n : Nat) (R : PR X) (r : Out × FS) : Prop :=
  (r.1 = .ret ∧ ∃ ks q, ks ≠ [] ∧ r.2.t 2 = .loc n 2 1 0 ∧ r.2.b 2 = (1, ksC T ks) ∧ r.2.S = PSt H0 (T ++ kT ks) a l q d ∧ R = .ok (setX ks, q)) ∨
  (∃ c q ks, r.1 = .pan (stopV (hereT l) c q) ∧ r.2.S = PSt H0 (T ++ kT ks) a l q d ∧ R = .error (c, q))
theorem lastS_name (ks : List X) (i : Nat) (hi : ks.length = i + 1) : ∃ k s n lo hi tk kk, ks[i]? = some (X.mk k s n lo hi tk kk) ∧ lastS ks = s := by
  have hlt : i < ks.length := by omega
  have hg : ks[i]? = some ks[i] := List.getElem?_eq_getElem hlt
  have hl : ks.getLast? = some ks[i] := by rw [List.getLast?_eq_getElem?, show ks.length - 1 = i by omega]; exact hg
  rcases hk : ks[i] with ⟨k, s, n, lo, hi', tk, kk⟩
  rw [hk] at hg hl
  exact ⟨k, s, n, lo, hi', tk, kk, hg, by simp [lastS, hl]⟩
end Go.Proofs.YtmhidempoabehaaGreatDoor.PS
/- The parser: set's rounds; set, evaluated (printed by gendp5.py). Condition: the world outside is closed. -/
namespace Go.Proofs.YtmhidempoabehaaGreatDoor.PS
set_option linter.unusedVariables false
set_option linter.unusedSimpArgs false
open Go AE EX PT NF LX
set_option maxRecDepth 100000
section
variable {H0 : List HBox} {a : Nat} (ha : a < H0.length) (T : List Nat) (l : List Tk) (hl : l.length ≤ 2000000)
include ha hl
set_option maxHeartbeats 8000000 in
theorem rd74 (n d : Nat) (R : PR X) (m : Nat) (fs : FS) (h : SEI H0 T a l d (n + 4) R m fs) :
    ∃ o fs', evCode ⟨Tryz.prog, E.esc 87, n + 4⟩ (ev Tryz.prog E (n + 4)) (E.ps 87) (n + 4) lp74 fs = some (o, fs') ∧ ((o = .norm ∧ ∃ m', m' < m ∧ SEI H0 T a l d (n + 4) R m' fs') ∨ (o ≠ .norm ∧ SEQ H0 T a l d (n + 4) R (o, fs'))) := by
  obtain ⟨t, b, c, S⟩ := fs
  obtain ⟨ks, r, f, hmr, hk8, h0, h2, h3, hb2, hb3, hS, hmf, hR⟩ := h
  simp only at h0 h2 h3 hb2 hb3 hS
  subst hS
  obtain ⟨f, rfl⟩ : ∃ g, f = g + 1 := ⟨f - 1, by omega⟩
  have hps : E.ps 87 6 = [(7, 9), (7, 14)] := rfl
  have htk : ev Tryz.prog E (n + 4) 94 [.ptr a 0, .int .i64 3] (PSt H0 (T ++ kT ks) a l r d) = _ := ev_take ha (T ++ kT ks) l hl (n + 1) r d 3 (by decide)
  simp only [ksC] at hb3
  have hcl := kS_cells T ks
  have hlen := kS_len T ks
  rw [setF] at hR
  cases e1 : takeP (hereT l) 3 r with
  | error z =>
    obtain ⟨c', w⟩ := z
    rw [e1, ansR_err] at htk
    rw [e1, th_err] at hR
    generalize hL2 : PSt H0 (T ++ kT ks) a l w d = L2 at *
    generalize hL1 : PSt H0 (T ++ kT ks) a l r d = L1 at *
    generalize hsv : stopV (hereT l) c' w = sv at *
    refine ⟨.pan sv, _, by
      simp (disch := first | (simp only [List.length_append, List.length_cons, List.length_nil]; omega) | (simp; done) | assumption) [AV.cells?, AV.isCell, -AV.cells?, -evLen, -evIndexAddr, cq_int, cq_str, cq_slice, cq_bool, -evBuild, -evBuildSlice, lp74, s074, s174, s274, cutC, bodyOf, Tryz.f87, E_esc, h0, h2, h3, hb2, hb3, htk, z24, c24, a24, k24, i24, tq46_0, tq46_1, tq46_2, tc46, ta46, tk46, ti46, tz46, fq0, fq3, fq4, fq5, c3, a3, k3, i3, c2, a2, k2, i2, c22, a22, k22, i22, bq3, bq2, fq1, k9, a9, c9, bq9]
      rfl, .inr ⟨by simp, .inr ⟨c', w, ks, by rw [hsv], hL2.symm, hR.symm⟩⟩⟩
  | ok z =>
    obtain ⟨u, r1⟩ := z
    have hlt : r < l.length ∧ r1 = r + 1 := by
      unfold takeP at e1
      split at e1
      · rename_i hk
        cases e1
        exact ⟨here_lt (by rw [hk]; decide), rfl⟩
      · cases e1
    obtain ⟨hlt, hr1⟩ := hlt
    rw [e1, ansR_ok] at htk
    rw [e1, th_ok] at hR
    obtain ⟨uk, us, un, up⟩ := u
    simp only [Tk.emb, Tk.cells] at htk
    simp only at hR
    have hfl := ev_fail ha (T ++ kT ks) l hl (n + 2) r1 d 16
    -- whether it may stand here
    have hbad : setBad ks us = true → ∃ fs', evCode ⟨Tryz.prog, E.esc 87, n + 4⟩ (ev Tryz.prog E (n + 4)) (E.ps 87) (n + 4) lp74 ⟨t, b, c, PSt H0 (T ++ kT ks) a l r d⟩ = some (.pan (stopV (hereT l) 16 r1), fs') ∧ fs'.S = PSt H0 (T ++ kT ks) a l r1 d := by
      intro hbad
      generalize hL2 : PSt H0 (T ++ kT ks) a l r1 d = L2 at *
      generalize hL1 : PSt H0 (T ++ kT ks) a l r d = L1 at *
      generalize hsv : stopV (hereT l) 16 r1 = sv at *
      unfold setBad at hbad
      rcases hkn : ks.length with _ | i
      · rw [hkn] at hbad
        simp at hbad
      · obtain ⟨k, s, n', lo, hi, tk, kk, hg, hls⟩ := lastS_name ks i hkn
        have hia := kS_ia T ks i _ hg
        rw [hkn] at hlen hbad
        rw [hls] at hbad
        simp only [X.cells] at hia
        have hw : IntKind.i64.wrap (((i + 1 : Nat) : Int) - 1) = (i : Int) := by rw [wrap64 _ (by omega)]; omega
        have hpos : (0 : Int) < ((i + 1 : Nat) : Int) := by omega
        generalize kS T ks = sl at *
        generalize embL kk = ekk at *
        by_cases h8 : i + 1 = 8
        · have hi7 : i = 7 := by omega
          subst hi7
          refine ⟨_, by
            simp (disch := first | (simp only [List.length_append, List.length_cons, List.length_nil]; omega) | (simp; done) | assumption) [AV.cells?, AV.isCell, -AV.cells?, -evLen, -evIndexAddr, cq_int, cq_str, cq_slice, cq_bool, -evBuild, -evBuildSlice, lp74, s074, s174, s274, cutC, bodyOf, Tryz.f87, E_esc, h0, h2, h3, hb2, hb3, htk, hlen, hps, hcl, hia, hw, hpos, hfl, z24, c24, a24, k24, i24, tq46_0, tq46_1, tq46_2, tc46, ta46, tk46, ti46, tz46, fq0, fq3, fq4, fq5, c3, a3, k3, i3, c2, a2, k2, i2, c22, a22, k22, i22, bq3, bq2, fq1, k9, a9, c9, bq9]
            rfl, rfl⟩
        · have h8z : ¬ ((i + 1 : Nat) : Int) = 8 := by omega
          have h8b : (i + 1 == 8) = false := by simp; omega
          have hdp : decide (0 < i + 1) = true := by simp
          rw [h8b, hdp] at hbad
          simp only [Bool.false_or, Bool.true_and] at hbad
          clear hkn h8b hdp
          generalize ((i + 1 : Nat) : Int) = I1 at *
          refine ⟨_, by
            simp (disch := first | (simp only [List.length_append, List.length_cons, List.length_nil]; omega) | (simp; done) | assumption) [AV.cells?, AV.isCell, -AV.cells?, -evLen, -evIndexAddr, cq_int, cq_str, cq_slice, cq_bool, -evBuild, -evBuildSlice, lp74, s074, s174, s274, cutC, bodyOf, Tryz.f87, E_esc, h0, h2, h3, hb2, hb3, htk, hlen, hps, hcl, hia, hw, hpos, h8z, hbad, hfl, z24, c24, a24, k24, i24, tq46_0, tq46_1, tq46_2, tc46, ta46, tk46, ti46, tz46, fq0, fq3, fq4, fq5, c3, a3, k3, i3, c2, a2, k2, i2, c22, a22, k22, i22, bq3, bq2, fq1, k9, a9, c9, bq9]
            rfl, rfl⟩
    cases hsb : setBad ks us
    · rw [hsb] at hR
      simp only [Bool.false_eq_true, if_false] at hR
      have hk7 : ks.length < 8 := by
        unfold setBad at hsb
        simp only [Bool.or_eq_false_iff, beq_eq_false_iff_ne, ne_eq] at hsb
        omega
      have hi : ev Tryz.prog E (n + 4) 41 [.ptr a 0, .str [125]] (PSt H0 (T ++ kT (ks ++ [leafX 3 us 0 0])) a l r1 d) = _ := ev_is ha (T ++ kT (ks ++ [leafX 3 us 0 0])) l hl (n + 2) r1 d _ _
      have hap : evAppend Tryz.prog [23, 23] (kS T ks) (.slice (embL [leafX 3 us 0 0]) .clip) (PSt H0 (T ++ kT ks) a l r1 d) = some (kS T (ks ++ [leafX 3 us 0 0]), PSt H0 (T ++ kT (ks ++ [leafX 3 us 0 0])) a l r1 d) := kS_app _ T ks _ hk8
      have hbl := bX1 3 us
      have hbs := bS1 (leafX 3 us 0 0)
      have hcl2 := kS_cells T (ks ++ [leafX 3 us 0 0])
      have hic2 := kS_isCell T (ks ++ [leafX 3 us 0 0])
      have hag : (AV.agg (ksC T (ks ++ [leafX 3 us 0 0]))).cells? = some (ksC T (ks ++ [leafX 3 us 0 0])) := cq_agg _ (by simp only [ksC, List.all_cons, List.all_nil, hic2]; rfl)
      simp only [ksC] at hag
      have hks2 : (ks ++ [leafX 3 us 0 0]).length ≤ 8 := by simp; omega
      have hne2 : ks ++ [leafX 3 us 0 0] ≠ [] := by simp
      have hnd : ev Tryz.prog E (n + 4) 88 [.ptr a 0, .str [44]] (PSt H0 (T ++ kT (ks ++ [leafX 3 us 0 0])) a l r1 d) = _ := ev_need ha (T ++ kT (ks ++ [leafX 3 us 0 0])) l hl n r1 d _ _
      generalize ks ++ [leafX 3 us 0 0] = ks2 at *
      generalize embL [leafX 3 us 0 0] = el at *
      generalize (leafX 3 us 0 0).emb = le at *
      have hC2 : ksC T ks2 = [.int .i64 4, .str [], .int .i64 0, .int .i64 0, .int .i64 0, kS T ks2] := rfl
      rcases hkn : ks.length with _ | i
      · have h00 : ks = [] := by simpa using hkn
        rw [hkn] at hlen
        cases hB : isB (hereT l) r1 [125]
        · rw [hB] at hi hR
          simp only [Bool.false_eq_true, if_false] at hi hR
          cases e2 : needP (hereT l) [44] r1 with
          | error z =>
            obtain ⟨c', w⟩ := z
            rw [e2, ansR_err] at hnd
            rw [e2, th_err] at hR
            generalize hL4 : PSt H0 (T ++ kT ks2) a l w d = L4 at *
            generalize hL3 : PSt H0 (T ++ kT ks2) a l r1 d = L3 at *
            generalize hL2 : PSt H0 (T ++ kT ks) a l r1 d = L2 at *
            generalize hL1 : PSt H0 (T ++ kT ks) a l r d = L1 at *
            generalize hsv : stopV (hereT l) c' w = sv at *
            generalize kS T ks = sl at *
            generalize kS T ks2 = sl2 at *
            refine ⟨.pan sv, _, by
              simp (disch := first | (simp only [List.length_append, List.length_cons, List.length_nil]; omega) | (simp; done) | assumption) [AV.cells?, AV.isCell, -AV.cells?, -evLen, -evIndexAddr, cq_int, cq_str, cq_slice, cq_bool, -evBuild, -evBuildSlice, lp74, s074, s174, s274, cutC, bodyOf, Tryz.f87, E_esc, h0, h2, h3, hb2, hb3, htk, hlen, hps, hcl, hbl, hbs, hap, hcl2, hag, i22, z6_len, hi, hnd, z24, c24, a24, k24, i24, tq46_0, tq46_1, tq46_2, tc46, ta46, tk46, ti46, tz46, fq0, fq3, fq4, fq5, c3, a3, k3, i3, c2, a2, k2, i2, c22, a22, k22, i22, bq3, bq2, fq1, k9, a9, c9, bq9]
              rfl, .inr ⟨by simp, .inr ⟨c', w, ks2, by rw [hsv], hL4.symm, hR.symm⟩⟩⟩
          | ok z =>
            obtain ⟨_u, w⟩ := z
            have hw2 := mono_need _ _ _ _ e2
            rw [e2, ansR_ok] at hnd
            rw [e2, th_ok] at hR
            generalize hL4 : PSt H0 (T ++ kT ks2) a l w d = L4 at *
            generalize hL3 : PSt H0 (T ++ kT ks2) a l r1 d = L3 at *
            generalize hL2 : PSt H0 (T ++ kT ks) a l r1 d = L2 at *
            generalize hL1 : PSt H0 (T ++ kT ks) a l r d = L1 at *
            generalize kS T ks = sl at *
            generalize hsl2 : kS T ks2 = sl2 at *
            refine ⟨.norm, _, by
              simp (disch := first | (simp only [List.length_append, List.length_cons, List.length_nil]; omega) | (simp; done) | assumption) [AV.cells?, AV.isCell, -AV.cells?, -evLen, -evIndexAddr, cq_int, cq_str, cq_slice, cq_bool, -evBuild, -evBuildSlice, lp74, s074, s174, s274, cutC, bodyOf, Tryz.f87, E_esc, h0, h2, h3, hb2, hb3, htk, hlen, hps, hcl, hbl, hbs, hap, hcl2, hag, i22, z6_len, hi, hnd, z24, c24, a24, k24, i24, tq46_0, tq46_1, tq46_2, tc46, ta46, tk46, ti46, tz46, fq0, fq3, fq4, fq5, c3, a3, k3, i3, c2, a2, k2, i2, c22, a22, k22, i22, bq3, bq2, fq1, k9, a9, c9, bq9]
              rfl, .inl ⟨rfl, l.length - w, by omega, ks2, w, f, rfl, hks2, by simp [upd, putA, h0], by simp [upd, putA, h2], by simp [upd, putA, h3], by simp [upd, hb2], by simp [upd, ksC, hsl2], hL4.symm, by omega, hR⟩⟩
        · rw [hB] at hi hR
          simp only [if_true] at hi hR
          generalize hL4 : PSt H0 (T ++ kT ks2) a l (r1 + 1) d = L4 at *
          generalize hL3 : PSt H0 (T ++ kT ks2) a l r1 d = L3 at *
          generalize hL2 : PSt H0 (T ++ kT ks) a l r1 d = L2 at *
          generalize hL1 : PSt H0 (T ++ kT ks) a l r d = L1 at *
          generalize kS T ks = sl at *
          generalize hsl2 : kS T ks2 = sl2 at *
          refine ⟨.ret, _, by
            simp (disch := first | (simp only [List.length_append, List.length_cons, List.length_nil]; omega) | (simp; done) | assumption) [AV.cells?, AV.isCell, -AV.cells?, -evLen, -evIndexAddr, cq_int, cq_str, cq_slice, cq_bool, -evBuild, -evBuildSlice, lp74, s074, s174, s274, cutC, bodyOf, Tryz.f87, E_esc, h0, h2, h3, hb2, hb3, htk, hlen, hps, hcl, hbl, hbs, hap, hcl2, hag, i22, z6_len, hi, z24, c24, a24, k24, i24, tq46_0, tq46_1, tq46_2, tc46, ta46, tk46, ti46, tz46, fq0, fq3, fq4, fq5, c3, a3, k3, i3, c2, a2, k2, i2, c22, a22, k22, i22, bq3, bq2, fq1, k9, a9, c9, bq9]
            rfl, .inr ⟨by simp, .inl ⟨rfl, ks2, r1 + 1, hne2, by simp [upd, putA, h2], by simp [upd, ksC, hsl2, hb2, z6], hL4.symm, hR.symm⟩⟩⟩
      · obtain ⟨k, s, n', lo, hi', tk, kk, hg, hls⟩ := lastS_name ks i hkn
        have hia := kS_ia T ks i _ hg
        unfold setBad at hsb
        rw [hkn] at hlen hsb
        rw [hls] at hsb
        simp only [X.cells] at hia
        have hw : IntKind.i64.wrap (((i + 1 : Nat) : Int) - 1) = (i : Int) := by rw [wrap64 _ (by omega)]; omega
        have hpos : (0 : Int) < ((i + 1 : Nat) : Int) := by omega
        have h8z : ¬ ((i + 1 : Nat) : Int) = 8 := by omega
        have h8b : (i + 1 == 8) = false := by simp; omega
        have hdp : decide (0 < i + 1) = true := by simp
        rw [h8b, hdp] at hsb
        simp only [Bool.false_or, Bool.true_and] at hsb
        clear h8b hdp
        generalize ((i + 1 : Nat) : Int) = I1 at *
        generalize embL kk = ekk at *
        cases hB : isB (hereT l) r1 [125]
        · rw [hB] at hi hR
          simp only [Bool.false_eq_true, if_false] at hi hR
          cases e2 : needP (hereT l) [44] r1 with
          | error z =>
            obtain ⟨c', w⟩ := z
            rw [e2, ansR_err] at hnd
            rw [e2, th_err] at hR
            generalize hL4 : PSt H0 (T ++ kT ks2) a l w d = L4 at *
            generalize hL3 : PSt H0 (T ++ kT ks2) a l r1 d = L3 at *
            generalize hL2 : PSt H0 (T ++ kT ks) a l r1 d = L2 at *
            generalize hL1 : PSt H0 (T ++ kT ks) a l r d = L1 at *
            generalize hsv : stopV (hereT l) c' w = sv at *
            generalize kS T ks = sl at *
            generalize kS T ks2 = sl2 at *
            refine ⟨.pan sv, _, by
              simp (disch := first | (simp only [List.length_append, List.length_cons, List.length_nil]; omega) | (simp; done) | assumption) [AV.cells?, AV.isCell, -AV.cells?, -evLen, -evIndexAddr, cq_int, cq_str, cq_slice, cq_bool, -evBuild, -evBuildSlice, lp74, s074, s174, s274, cutC, bodyOf, Tryz.f87, E_esc, h0, h2, h3, hb2, hb3, htk, hlen, hps, hcl, hbl, hbs, hap, hcl2, hag, i22, z6_len, hi, hnd, hia, hw, hpos, h8z, hsb, z24, c24, a24, k24, i24, tq46_0, tq46_1, tq46_2, tc46, ta46, tk46, ti46, tz46, fq0, fq3, fq4, fq5, c3, a3, k3, i3, c2, a2, k2, i2, c22, a22, k22, i22, bq3, bq2, fq1, k9, a9, c9, bq9]
              rfl, .inr ⟨by simp, .inr ⟨c', w, ks2, by rw [hsv], hL4.symm, hR.symm⟩⟩⟩
          | ok z =>
            obtain ⟨_u, w⟩ := z
            have hw2 := mono_need _ _ _ _ e2
            rw [e2, ansR_ok] at hnd
            rw [e2, th_ok] at hR
            generalize hL4 : PSt H0 (T ++ kT ks2) a l w d = L4 at *
            generalize hL3 : PSt H0 (T ++ kT ks2) a l r1 d = L3 at *
            generalize hL2 : PSt H0 (T ++ kT ks) a l r1 d = L2 at *
            generalize hL1 : PSt H0 (T ++ kT ks) a l r d = L1 at *
            generalize kS T ks = sl at *
            generalize hsl2 : kS T ks2 = sl2 at *
            refine ⟨.norm, _, by
              simp (disch := first | (simp only [List.length_append, List.length_cons, List.length_nil]; omega) | (simp; done) | assumption) [AV.cells?, AV.isCell, -AV.cells?, -evLen, -evIndexAddr, cq_int, cq_str, cq_slice, cq_bool, -evBuild, -evBuildSlice, lp74, s074, s174, s274, cutC, bodyOf, Tryz.f87, E_esc, h0, h2, h3, hb2, hb3, htk, hlen, hps, hcl, hbl, hbs, hap, hcl2, hag, i22, z6_len, hi, hnd, hia, hw, hpos, h8z, hsb, z24, c24, a24, k24, i24, tq46_0, tq46_1, tq46_2, tc46, ta46, tk46, ti46, tz46, fq0, fq3, fq4, fq5, c3, a3, k3, i3, c2, a2, k2, i2, c22, a22, k22, i22, bq3, bq2, fq1, k9, a9, c9, bq9]
              rfl, .inl ⟨rfl, l.length - w, by omega, ks2, w, f, rfl, hks2, by simp [upd, putA, h0], by simp [upd, putA, h2], by simp [upd, putA, h3], by simp [upd, hb2], by simp [upd, ksC, hsl2], hL4.symm, by omega, hR⟩⟩
        · rw [hB] at hi hR
          simp only [if_true] at hi hR
          generalize hL4 : PSt H0 (T ++ kT ks2) a l (r1 + 1) d = L4 at *
          generalize hL3 : PSt H0 (T ++ kT ks2) a l r1 d = L3 at *
          generalize hL2 : PSt H0 (T ++ kT ks) a l r1 d = L2 at *
          generalize hL1 : PSt H0 (T ++ kT ks) a l r d = L1 at *
          generalize kS T ks = sl at *
          generalize hsl2 : kS T ks2 = sl2 at *
          refine ⟨.ret, _, by
            simp (disch := first | (simp only [List.length_append, List.length_cons, List.length_nil]; omega) | (simp; done) | assumption) [AV.cells?, AV.isCell, -AV.cells?, -evLen, -evIndexAddr, cq_int, cq_str, cq_slice, cq_bool, -evBuild, -evBuildSlice, lp74, s074, s174, s274, cutC, bodyOf, Tryz.f87, E_esc, h0, h2, h3, hb2, hb3, htk, hlen, hps, hcl, hbl, hbs, hap, hcl2, hag, i22, z6_len, hi, hia, hw, hpos, h8z, hsb, z24, c24, a24, k24, i24, tq46_0, tq46_1, tq46_2, tc46, ta46, tk46, ti46, tz46, fq0, fq3, fq4, fq5, c3, a3, k3, i3, c2, a2, k2, i2, c22, a22, k22, i22, bq3, bq2, fq1, k9, a9, c9, bq9]
            rfl, .inr ⟨by simp, .inl ⟨rfl, ks2, r1 + 1, hne2, by simp [upd, putA, h2], by simp [upd, ksC, hsl2, hb2, z6], hL4.symm, hR.symm⟩⟩⟩
    · rw [hsb] at hR
      simp only [if_true] at hR
      obtain ⟨fs', g1, g2⟩ := hbad hsb
      exact ⟨_, fs', g1, .inr ⟨by simp, .inr ⟨16, r1, ks, rfl, g2, hR.symm⟩⟩⟩
end
end Go.Proofs.YtmhidempoabehaaGreatDoor.PS
/- The parser: set, evaluated (printed by gendp6.py). Condition: the world outside is closed. -/
namespace Go.Proofs.YtmhidempoabehaaGreatDoor.PS
set_option linter.unusedVariables false
set_option linter.unusedSimpArgs false
open Go AE EX PT NF LX
set_option maxRecDepth 100000
theorem PSt_take {H0 : List HBox} (T T' : List Nat) (a : Nat) (l : List Tk) (q d : Nat) : (PSt H0 T' a l q d).H.take H0.length = (PSt H0 T a l q d).H := by
  simp [PSt, List.take_of_length_le]
theorem fin_dropP {H0 : List HBox} (T : List Nat) (a : Nat) (l : List Tk) (p q d : Nat) (ex : List Nat) (v : AV) (hw : lowB H0.length T.length H0 = true) (hv : v.sealed = true) (hvl : (v.strip T.length).low H0.length T.length = true) :
    finish (PSt H0 T a l p d) v (PSt H0 (T ++ ex) a l q d) = some (v.strip T.length, PSt H0 T a l q d) := by
  have := fin_drop (S := PSt H0 T a l p d) (S' := PSt H0 (T ++ ex) a l q d) (v := v) hv (by simp [PSt]) (by simp [PSt]) (by
    have e : (PSt H0 T a l p d).H.length = H0.length := by simp [PSt]
    have et : (PSt H0 T a l p d).T.length = T.length := rfl
    rw [e, et, PSt_take T]
    exact lowB_set (box_low _ _ l q d) hw) (by simpa [PSt] using hvl)
  rw [this]
  have e : (PSt H0 T a l p d).H.length = H0.length := by simp [PSt]
  rw [e, PSt_take T]
  rfl
section
variable {H0 : List HBox} {a : Nat} (ha : a < H0.length) (T : List Nat) (l : List Tk) (hl : l.length ≤ 2000000)
include ha hl
set_option maxHeartbeats 4000000 in
theorem ev74 (n d : Nat) (hw : lowB H0.length T.length H0 = true) (F : Nat) (hF : l.length < F) (hn : l.length < n) : Sub H0 T a l d (n + 5) 87 (setP (hereT l) F) := by
  intro p
  rw [show n + 5 = (n + 4) + 1 from rfl, ev_enter (n := n + 4) (show E.ok 87 = true from rfl) Tryz.func87 fb74 (Nat.le_of_ble_eq_true rfl) (by decide +kernel)]
  unfold setP
  have hi : ev Tryz.prog E (n + 4) 41 [.ptr a 0, .str [125]] (PSt H0 T a l p d) = _ := ev_is ha T l hl (n + 2) p d _ _
  have hb : evBuild Tryz.prog 25 [(0, .int .i64 4)] = some (.agg [.int .i64 4, .str [], .int .i64 0, .int .i64 0, .int .i64 0, .slice [] .clip]) := bX0 4
  by_cases hB : isB (hereT l) p [125] = true
  · rw [if_pos hB]
    rw [hB] at hi
    simp only [if_true] at hi
    rw [ansX_ok]
    have hf := fin_X H0 T a l p d (p + 1) (leafX 4 [] 0 0)
    simp only [leaf_emb] at hf ⊢
    generalize PSt H0 T a l (p + 1) d = L2 at *
    generalize PSt H0 T a l p d = L1 at *
    simp (disch := first | (simp only [List.length_append, List.length_cons, List.length_nil]; omega) | (simp; done) | assumption) [AV.cells?, AV.isCell, -AV.cells?, -evLen, -evIndexAddr, cq_int, cq_str, cq_slice, cq_bool, -evBuild, -evBuildSlice, s074, s174, s274, cutC, bodyOf, Tryz.f87, E_esc, hi, hb, hf, z24, c24, a24, k24, i24, tq46_0, tq46_1, tq46_2, tc46, ta46, tk46, ti46, tz46, fq0, fq3, fq4, fq5, c3, a3, k3, i3, c2, a2, k2, i2, c22, a22, k22, i22, bq3, bq2, fq1, k9, a9, c9, bq9]
  · rw [if_neg hB]
    simp only [Bool.not_eq_true] at hB
    rw [hB] at hi
    simp only [Bool.false_eq_true, if_false] at hi
    obtain ⟨fs1, e1, p1⟩ : ∃ fs', evCode ⟨Tryz.prog, E.esc 87, n + 4⟩ (ev Tryz.prog E (n + 4)) (E.ps 87) (n + 4) (.seq (.seq s074 s174) s274) ⟨argsA [.ptr a 0], fun _ => (0, []), 0, PSt H0 T a l p d⟩ = some (.norm, fs') ∧ SEI H0 T a l d (n + 4) (setF (hereT l) F [] p) (l.length - p) fs' := by
      have hT : PSt H0 (T ++ kT []) a l p d = PSt H0 T a l p d := by simp [kT]
      generalize hL1 : PSt H0 T a l p d = L1 at *
      have hks : ksC T [] = [.int .i64 4, .str [], .int .i64 0, .int .i64 0, .int .i64 0, .slice [] .clip] := rfl
      refine ⟨_, by
        simp (disch := first | (simp only [List.length_append, List.length_cons, List.length_nil]; omega) | (simp; done) | assumption) [AV.cells?, AV.isCell, -AV.cells?, -evLen, -evIndexAddr, cq_int, cq_str, cq_slice, cq_bool, -evBuild, -evBuildSlice, s074, s174, s274, cutC, bodyOf, Tryz.f87, E_esc, hi, hb, z24, c24, a24, k24, i24, tq46_0, tq46_1, tq46_2, tc46, ta46, tk46, ti46, tz46, fq0, fq3, fq4, fq5, c3, a3, k3, i3, c2, a2, k2, i2, c22, a22, k22, i22, bq3, bq2, fq1, k9, a9, c9, bq9]
        rfl, [], p, F, rfl, by simp, by simp [upd, putA, argsA], by simp [upd, putA], by simp [upd, putA], by simp [upd, z6], by simp [upd, hks], hT.symm, by omega, rfl⟩
    obtain ⟨⟨o, fs2⟩, r1, r2⟩ := iter_meas (fun m' fs h => rd74 ha T l hl n d _ m' fs h) (l.length - p) (n + 4) fs1 (by omega) p1
    rw [evCode_assoc, evCode_assoc, evCode_seq, e1, seqK_norm, evCode_block, evCode_loop, r1]
    obtain ⟨t, b, c, S⟩ := fs2
    rcases r2 with ⟨q1, ks, q, q2, q3, q4, q5, q6⟩ | ⟨c', q, ks, q1, q2, q3⟩
    · simp only at q1 q3 q4 q5
      subst q1 q5
      rw [q6, blockK_ret, ansX_ok]
      clear r1 e1 p1
      have hsl : AV.sealed (.agg (ksC T ks)) = true := by
        have := kS_sealed T ks
        simp [ksC, AV.sealed, AV.sealedL, this]
      have hst : (AV.agg (ksC T ks)).strip T.length = (setX ks).emb := by
        have := kS_strip T ks q2
        simp [ksC, AV.strip, AV.stripL, this, setX, X.emb, tokOf]
      have hf := fin_dropP T a l p q d (kT ks) (.agg (ksC T ks)) hw hsl (by rw [hst]; exact low_emb _ _ _)
      rw [hst] at hf
      have hk6 : (ksC T ks).length = 6 := rfl
      have hkt : List.take 6 (ksC T ks) = ksC T ks := rfl
      generalize PSt H0 (T ++ kT ks) a l q d = L3 at *
      generalize PSt H0 T a l q d = L2 at *
      generalize PSt H0 T a l p d = L1 at *
      generalize (setX ks).emb = ze at *
      generalize ksC T ks = kc at *
      clear hsl hst
      simp (disch := first | (simp only [List.length_append, List.length_cons, List.length_nil]; omega) | (simp; done) | assumption) [AV.cells?, AV.isCell, -AV.cells?, -evLen, -evIndexAddr, cq_int, cq_str, cq_slice, cq_bool, -evBuild, -evBuildSlice, s074, s174, s274, cutC, bodyOf, Tryz.f87, E_esc, q3, q4, hk6, hkt, hf, z24, c24, a24, k24, i24, tq46_0, tq46_1, tq46_2, tc46, ta46, tk46, ti46, tz46, fq0, fq3, fq4, fq5, c3, a3, k3, i3, c2, a2, k2, i2, c22, a22, k22, i22, bq3, bq2, fq1, k9, a9, c9, bq9]
    · simp only at q1 q2
      subst q1 q2
      rw [q3, blockK_pan, ansX_err]
      clear r1 e1 p1
      have hf := fin_dropP T a l p q d (kT ks) (stopV (hereT l) c' q) hw rfl rfl
      simp only [fromBody, finPan, hf]
      rfl
end
end Go.Proofs.YtmhidempoabehaaGreatDoor.PS
/- The parser: one, evaluated (printed by gendp7.py). Condition: the world outside is closed. -/
namespace Go.Proofs.YtmhidempoabehaaGreatDoor.PS
set_option linter.unusedVariables false
set_option linter.unusedSimpArgs false
open Go AE EX PT NF LX
set_option maxRecDepth 100000
theorem esc69 (d : Nat) : E.esc 82 d = (d == 1) := by simp [E]
noncomputable def r069 : Code := cutC (bodyOf Tryz.f82) [0]
noncomputable def rc69 : Code := cutC (bodyOf Tryz.f82) [1, 0]
noncomputable def r369 : Code := cutC (bodyOf Tryz.f82) [1, 1, 0]
noncomputable def B69 : Code := cutC (bodyOf Tryz.f82) [1, 1, 1, 1]
def opsOf : Code → Array Oper
  | .region _ ops _ => ops
  | _ => #[]
noncomputable def O69 : Array Oper := opsOf (cutC (bodyOf Tryz.f82) [1, 1, 1, 0])
theorem cut69 : cutD (bodyOf Tryz.f82) = some (.seq r069 (.seq rc69 (.seq r369 .skip)), O69, ⟨.value (.tmp 18), #[], #[]⟩, B69) := rfl

def b64 (a : Nat) : HBox := ⟨57, [.ptr a 0]⟩
theorem PSt_app {H0 : List HBox} {a : Nat} (ha : a < H0.length) (T : List Nat) (l : List Tk) (p d : Nat) : (⟨(PSt H0 T a l p d).H ++ [b64 a], (PSt H0 T a l p d).T⟩ : St) = PSt (H0 ++ [b64 a]) T a l p d := by
  simp [PSt, List.set_append_left, ha]
theorem PSt_own {H0 : List HBox} {a : Nat} (ha : a < H0.length) (T : List Nat) (l : List Tk) (p d : Nat) : (PSt (H0 ++ [b64 a]) T a l p d).H[H0.length]? = some ⟨57, [.ptr a 0]⟩ := by
  simp [PSt, List.set_append_left, ha, b64]
theorem PSt_Hlen (H0 : List HBox) (T : List Nat) (a : Nat) (l : List Tk) (p d : Nat) : (PSt H0 T a l p d).H.length = H0.length := by simp [PSt]
theorem fin_one {H0 : List HBox} {a : Nat} (ha : a < H0.length) (T : List Nat) (l : List Tk) (p d q : Nat) (v : AV) (hw : lowB H0.length T.length H0 = true) (hv : v.sealed = true) (hst : v.strip T.length = v) (hvl : v.low H0.length T.length = true) :
    finish (PSt H0 T a l p d) v (PSt (H0 ++ [b64 a]) T a l q d) = some (v, PSt H0 T a l q d) := by
  have ht : (PSt (H0 ++ [b64 a]) T a l q d).H.take (PSt H0 T a l p d).H.length = (PSt H0 T a l q d).H := by
    rw [PSt_Hlen, ← PSt_app ha]
    simp [PSt]
  have := fin_drop (S := PSt H0 T a l p d) (S' := PSt (H0 ++ [b64 a]) T a l q d) (v := v) hv (by simp [PSt]) (by simp [PSt]) (by
    rw [ht, PSt_Hlen]
    exact lowB_set (box_low _ _ l q d) hw) (by rw [PSt_Hlen]; show ((v.strip T.length).low H0.length T.length) = true; rw [hst]; exact hvl)
  rw [this, ht]
  show some (v.strip T.length, _) = _
  rw [hst]
  rfl
mutual
theorem low_mono {h0 t0 : Nat} : ∀ {v : AV}, v.low h0 t0 = true → v.low (h0 + 1) t0 = true
  | .ptr id _, h => by simp [AV.low] at h ⊢; omega
  | .slice es (.own t _), h => by
    simp only [AV.low, Bool.and_eq_true] at h ⊢
    exact ⟨h.1, lowL_mono h.2⟩
  | .slice es .non, h => by simp only [AV.low] at h ⊢; exact lowL_mono h
  | .slice es .clip, h => by simp only [AV.low] at h ⊢; exact lowL_mono h
  | .agg cs, h => by simp only [AV.low] at h ⊢; exact lowL_mono h
  | .tup cs, h => by simp only [AV.low] at h ⊢; exact lowL_mono h
  | .ref cs, h => by simp only [AV.low] at h ⊢; exact lowL_mono h
  | .fn _ a b, h => by
    simp only [AV.low, Bool.and_eq_true] at h ⊢
    exact ⟨lowL_mono h.1, lowL_mono h.2⟩
  | .iface _ v, h => by simp only [AV.low] at h ⊢; exact low_mono h
  | .junk, _ => rfl | .undef, _ => rfl | .bool _, _ => rfl | .int _ _, _ => rfl | .str _, _ => rfl | .nilp, _ => rfl | .loc .., _ => rfl | .nilif, _ => rfl
theorem lowL_mono {h0 t0 : Nat} : ∀ {l : List AV}, AV.lowL h0 t0 l = true → AV.lowL (h0 + 1) t0 l = true
  | [], _ => rfl
  | v :: l, h => by
    simp only [AV.lowL, Bool.and_eq_true] at h ⊢
    exact ⟨low_mono h.1, lowL_mono h.2⟩
end
theorem lowB_mono {h0 t0 : Nat} : ∀ {H : List HBox}, lowB h0 t0 H = true → lowB (h0 + 1) t0 H = true
  | [], _ => rfl
  | b :: H, h => by
    simp only [lowB, Bool.and_eq_true] at h ⊢
    exact ⟨lowL_mono h.1, lowB_mono h.2⟩
theorem wf_app {H0 : List HBox} {T : List Nat} {a : Nat} (ha : a < H0.length) (hw : lowB H0.length T.length H0 = true) : lowB (H0 ++ [b64 a]).length T.length (H0 ++ [b64 a]) = true := by
  rw [lowB_append]
  simp only [List.length_append, List.length_singleton, Bool.and_eq_true]
  refine ⟨lowB_mono hw, ?_⟩
  simp [lowB, b64, AV.lowL, AV.low]
  omega

theorem ev71 (n : Nat) {H0 : List HBox} {a : Nat} (ha : a < H0.length) (T : List Nat) (l : List Tk) (p d : Nat) (hd : d ≤ 100) (pv : Option AV) :
    evd Tryz.prog E (n + 1) 84 [.ptr H0.length 0] (PSt (H0 ++ [b64 a]) T a l p (d + 1)) pv = some (false, PSt (H0 ++ [b64 a]) T a l p d) := by
  have ha1 : a < (H0 ++ [b64 a]).length := by simp; omega
  have hg := PSt_get ha1 T l p (d + 1)
  have ho := PSt_own ha T l p (d + 1)
  have hset := PSt_set (H0 := H0 ++ [b64 a]) (a := a) T l p (d + 1) p d
  have hf := PSt_fin (H0 := H0 ++ [b64 a]) (a := a) T l p (d + 1) p d (v := .tup []) rfl rfl rfl
  have hw : IntKind.i64.wrap (((d + 1 : Nat) : Int) - 1) = (d : Int) := by rw [wrap64 _ (by omega)]; omega
  rw [evd_enter (show E.ok 84 = true from rfl), evDefer, Tryz.func84]
  have hcr : cutR (bodyOf Tryz.f84) = none := rfl
  have hb : Tryz.f84.body = some (bodyOf Tryz.f84) := rfl
  simp only [hb]
  rw [if_pos ⟨Nat.le_of_ble_eq_true rfl, by decide +kernel⟩, hcr]
  generalize PSt (H0 ++ [b64 a]) T a l p d = L2 at *
  generalize PSt (H0 ++ [b64 a]) T a l p (d + 1) = L1 at *
  generalize tkL l = es at *
  generalize d + 1 = D1 at *
  simp (disch := first | (simp only [List.length_append, List.length_cons, List.length_nil]; omega) | (simp; done) | assumption) [AV.cells?, AV.isCell, AV.sealed, AV.sealedL, bodyOf, Tryz.f84, E_esc, hg, ho, hset, hw, hf, endD, tq66_0, tq66_1, tq66_2, tk66, k3, c3, a3, i3, tk64, tc64, ta64, ti64]

section
variable {H0 : List HBox} {a : Nat} (ha : a < H0.length) (T : List Nat) (l : List Tk) (hl : l.length ≤ 2000000)
include ha hl
/-- what the body behind the defer gives -/
def BQ (H1 : List HBox) (T : List Nat) (a : Nat) (l : List Tk) (d n : Nat) (R : PR X) (r : Out × FS) : Prop :=
  (r.1 = .ret ∧ ∃ e q, r.2.t 2 = .loc n 2 2 0 ∧ r.2.b 2 = (2, X.cells e) ∧ r.2.S = PSt H1 T a l q d ∧ R = .ok (e, q)) ∨
  (∃ c q, r.1 = .pan (stopV (hereT l) c q) ∧ r.2.S = PSt H1 T a l q d ∧ R = .error (c, q))
set_option maxHeartbeats 8000000 in
theorem one_body (n d F k : Nat) (one any : Nat → PR X) (h72 : Sub (H0 ++ [b64 a]) T a l (d + 1) (n + 4) 85 (signedP (hereT l) F one any)) (h73 : Sub (H0 ++ [b64 a]) T a l (d + 1) (n + 4) 86 (namedP (hereT l) one any)) (p : Nat)
    (t : Nat → AV) (b : Nat → Nat × List AV) (c : Nat) (h1 : t 1 = .ptr H0.length 0) (h2 : t 2 = .loc (n + 4) 2 2 0) (hb2 : b 2 = (2, z6)) :
    ∃ r, evCode ⟨Tryz.prog, E.esc 82, n + 4⟩ (ev Tryz.prog E (n + 4)) (E.ps 82) (n + 4) B69 ⟨t, b, c, PSt (H0 ++ [b64 a]) T a l p (d + 1)⟩ = some r ∧
      BQ (H0 ++ [b64 a]) T a l (d + 1) (n + 4) (if (hereT l p).k = 2 then .ok (leafX 1 [] (hereT l p).n 0, p + 1)
    else if (hereT l p).k = 3 then .ok (leafX 3 (hereT l p).s 0 0, p + 1)
    else if (hereT l p).k = 4 then signedP (hereT l) F one any p
    else if (hereT l p).k = 1 then namedP (hereT l) one any p
    else .error (16, p)) r := by
  have ha1 : a < (H0 ++ [b64 a]).length := by simp; omega
  have hh := ev_hereP ha1 T l hl (n + 3) p (d + 1)
  have hg := PSt_get ha1 T l p (d + 1)
  have ho := fun q => PSt_own ha T l q (d + 1)
  have ho1 := ho p
  have ho2 := ho (p + 1)
  have hset := PSt_set (H0 := H0 ++ [b64 a]) (a := a) T l p (d + 1) (p + 1) (d + 1)
  have hw : (hereT l p).k ≠ 5 → IntKind.i64.wrap ((p : Int) + 1) = ((p + 1 : Nat) : Int) := fun h => by have := here_lt h; rw [wrap64 _ (by omega)]; omega
  have h72p := h72 p
  have h73p := h73 p
  have hfl := ev_fail ha1 T l hl (n + 2) p (d + 1) 16
  have hS2 : PSt (H0 ++ [b64 a]) T a l (p + 1) (d + 1) = PSt (H0 ++ [b64 a]) T a l (p + 1) (d + 1) := rfl
  clear ho
  generalize hereT l p = w at *
  obtain ⟨k, ts, tn, tp⟩ := w
  simp only [Tk.emb, Tk.cells] at hh hw ⊢
  by_cases k2 : k = 2
  · subst k2
    have hw := hw (by decide)
    rw [if_pos rfl]
    have hb : evBuild Tryz.prog 25 [(0, .int .i64 1), (2, .int .i64 tn)] = some (leafX 1 [] tn 0).emb := bX2 1 tn
    have hcz := xcells (leafX 1 [] tn 0)
    have hlz := xlen (leafX 1 [] tn 0)
    generalize hL2 : PSt (H0 ++ [b64 a]) T a l (p + 1) (d + 1) = L2 at *
    generalize PSt (H0 ++ [b64 a]) T a l p (d + 1) = L1 at *
    generalize hzc : (leafX 1 [] tn 0).cells = zc at *
    generalize (leafX 1 [] tn 0).emb = ze at *
    generalize hP1 : p + 1 = P1 at *
    generalize hD1 : d + 1 = D1 at *
    generalize tkL l = es at *
    refine ⟨_, by
      simp (disch := first | (simp only [List.length_append, List.length_cons, List.length_nil]; omega) | (simp; done) | assumption) [AV.cells?, AV.isCell, -AV.cells?, cq_int, cq_str, cq_slice, cq_bool, cq_ptr, -evBuild, -evBuildSlice, AV.sealed, AV.sealedL, r069, rc69, r369, B69, cutC, bodyOf, Tryz.f82, esc69, h1, h2, hb2, hh, ho1, hg, hset, hw, hb, hcz, hlz, z6_len, z24, c24, a24, k24, i24, tq46_0, tq46_1, tq46_2, tc46, ta46, tk46, ti46, tz46, fq0, fq3, fq4, fq5, c3, a3, k3, i3, c2, a2, k2, i2, c22, a22, k22, i22, bq3, bq2, tq66_0, tq66_1, tq66_2, tk66, k9, a9, c9, bq9, tk64, tc64, ta64, ti64]
      rfl, .inl ⟨rfl, leafX 1 [] tn 0, P1, by simp [upd, putA, h2], by simp [upd, hzc, hb2, z6, hlz], hL2.symm, rfl⟩⟩
  · rw [if_neg k2]
    by_cases k3' : k = 3
    · subst k3'
      have hw := hw (by decide)
      rw [if_pos rfl]
      have hb : evBuild Tryz.prog 25 [(0, .int .i64 3), (1, .str ts)] = some (leafX 3 ts 0 0).emb := bX1 3 ts
      have hcz := xcells (leafX 3 ts 0 0)
      have hlz := xlen (leafX 3 ts 0 0)
      generalize hL2 : PSt (H0 ++ [b64 a]) T a l (p + 1) (d + 1) = L2 at *
      generalize PSt (H0 ++ [b64 a]) T a l p (d + 1) = L1 at *
      generalize hzc : (leafX 3 ts 0 0).cells = zc at *
      generalize (leafX 3 ts 0 0).emb = ze at *
      generalize hP1 : p + 1 = P1 at *
      generalize hD1 : d + 1 = D1 at *
      generalize tkL l = es at *
      refine ⟨_, by
        simp (disch := first | (simp only [List.length_append, List.length_cons, List.length_nil]; omega) | (simp; done) | assumption) [AV.cells?, AV.isCell, -AV.cells?, cq_int, cq_str, cq_slice, cq_bool, cq_ptr, -evBuild, -evBuildSlice, AV.sealed, AV.sealedL, r069, rc69, r369, B69, cutC, bodyOf, Tryz.f82, esc69, h1, h2, hb2, hh, ho1, hg, hset, hw, hb, hcz, hlz, z6_len, z24, c24, a24, k24, i24, tq46_0, tq46_1, tq46_2, tc46, ta46, tk46, ti46, tz46, fq0, fq3, fq4, fq5, c3, a3, k3, i3, c2, a2, k2, i2, c22, a22, k22, i22, bq3, bq2, tq66_0, tq66_1, tq66_2, tk66, k9, a9, c9, bq9, tk64, tc64, ta64, ti64]
        rfl, .inl ⟨rfl, leafX 3 ts 0 0, P1, by simp [upd, putA, h2], by simp [upd, hzc, hb2, z6, hlz], hL2.symm, rfl⟩⟩
    · rw [if_neg k3']
      by_cases k4 : k = 4
      · subst k4
        rw [if_pos rfl]
        cases e1 : signedP (hereT l) F one any p with
        | error z =>
          obtain ⟨c', q⟩ := z
          rw [e1, ansX_err] at h72p
          generalize hL2 : PSt (H0 ++ [b64 a]) T a l q (d + 1) = L2 at *
          generalize PSt (H0 ++ [b64 a]) T a l p (d + 1) = L1 at *
          generalize hsv : stopV (hereT l) c' q = sv at *
          refine ⟨_, by
            simp (disch := first | (simp only [List.length_append, List.length_cons, List.length_nil]; omega) | (simp; done) | assumption) [AV.cells?, AV.isCell, -AV.cells?, cq_int, cq_str, cq_slice, cq_bool, cq_ptr, -evBuild, -evBuildSlice, AV.sealed, AV.sealedL, r069, rc69, r369, B69, cutC, bodyOf, Tryz.f82, esc69, h1, h2, hb2, hh, ho1, h72p, h73p, z24, c24, a24, k24, i24, tq46_0, tq46_1, tq46_2, tc46, ta46, tk46, ti46, tz46, fq0, fq3, fq4, fq5, c3, a3, k3, i3, c2, a2, k2, i2, c22, a22, k22, i22, bq3, bq2, tq66_0, tq66_1, tq66_2, tk66, k9, a9, c9, bq9, tk64, tc64, ta64, ti64]
            rfl, .inr ⟨c', q, by rw [hsv], hL2.symm, rfl⟩⟩
        | ok z =>
          obtain ⟨x, q⟩ := z
          rw [e1, ansX_ok] at h72p
          have hcz := xcells x
          have hlz := xlen x
          generalize hL2 : PSt (H0 ++ [b64 a]) T a l q (d + 1) = L2 at *
          generalize PSt (H0 ++ [b64 a]) T a l p (d + 1) = L1 at *
          generalize hzc : x.cells = zc at *
          generalize x.emb = ze at *
          refine ⟨_, by
            simp (disch := first | (simp only [List.length_append, List.length_cons, List.length_nil]; omega) | (simp; done) | assumption) [AV.cells?, AV.isCell, -AV.cells?, cq_int, cq_str, cq_slice, cq_bool, cq_ptr, -evBuild, -evBuildSlice, AV.sealed, AV.sealedL, r069, rc69, r369, B69, cutC, bodyOf, Tryz.f82, esc69, h1, h2, hb2, hh, ho1, h72p, h73p, hcz, hlz, z6_len, z24, c24, a24, k24, i24, tq46_0, tq46_1, tq46_2, tc46, ta46, tk46, ti46, tz46, fq0, fq3, fq4, fq5, c3, a3, k3, i3, c2, a2, k2, i2, c22, a22, k22, i22, bq3, bq2, tq66_0, tq66_1, tq66_2, tk66, k9, a9, c9, bq9, tk64, tc64, ta64, ti64]
            rfl, .inl ⟨rfl, x, q, by simp [upd, putA, h2], by simp [upd, hzc, hb2, z6, hlz], hL2.symm, rfl⟩⟩
      · rw [if_neg k4]
        by_cases k1 : k = 1
        · subst k1
          rw [if_pos rfl]
          cases e1 : namedP (hereT l) one any p with
          | error z =>
            obtain ⟨c', q⟩ := z
            rw [e1, ansX_err] at h73p
            generalize hL2 : PSt (H0 ++ [b64 a]) T a l q (d + 1) = L2 at *
            generalize PSt (H0 ++ [b64 a]) T a l p (d + 1) = L1 at *
            generalize hsv : stopV (hereT l) c' q = sv at *
            refine ⟨_, by
              simp (disch := first | (simp only [List.length_append, List.length_cons, List.length_nil]; omega) | (simp; done) | assumption) [AV.cells?, AV.isCell, -AV.cells?, cq_int, cq_str, cq_slice, cq_bool, cq_ptr, -evBuild, -evBuildSlice, AV.sealed, AV.sealedL, r069, rc69, r369, B69, cutC, bodyOf, Tryz.f82, esc69, h1, h2, hb2, hh, ho1, h72p, h73p, z24, c24, a24, k24, i24, tq46_0, tq46_1, tq46_2, tc46, ta46, tk46, ti46, tz46, fq0, fq3, fq4, fq5, c3, a3, k3, i3, c2, a2, k2, i2, c22, a22, k22, i22, bq3, bq2, tq66_0, tq66_1, tq66_2, tk66, k9, a9, c9, bq9, tk64, tc64, ta64, ti64]
              rfl, .inr ⟨c', q, by rw [hsv], hL2.symm, rfl⟩⟩
          | ok z =>
            obtain ⟨x, q⟩ := z
            rw [e1, ansX_ok] at h73p
            have hcz := xcells x
            have hlz := xlen x
            generalize hL2 : PSt (H0 ++ [b64 a]) T a l q (d + 1) = L2 at *
            generalize PSt (H0 ++ [b64 a]) T a l p (d + 1) = L1 at *
            generalize hzc : x.cells = zc at *
            generalize x.emb = ze at *
            refine ⟨_, by
              simp (disch := first | (simp only [List.length_append, List.length_cons, List.length_nil]; omega) | (simp; done) | assumption) [AV.cells?, AV.isCell, -AV.cells?, cq_int, cq_str, cq_slice, cq_bool, cq_ptr, -evBuild, -evBuildSlice, AV.sealed, AV.sealedL, r069, rc69, r369, B69, cutC, bodyOf, Tryz.f82, esc69, h1, h2, hb2, hh, ho1, h72p, h73p, hcz, hlz, z6_len, z24, c24, a24, k24, i24, tq46_0, tq46_1, tq46_2, tc46, ta46, tk46, ti46, tz46, fq0, fq3, fq4, fq5, c3, a3, k3, i3, c2, a2, k2, i2, c22, a22, k22, i22, bq3, bq2, tq66_0, tq66_1, tq66_2, tk66, k9, a9, c9, bq9, tk64, tc64, ta64, ti64]
              rfl, .inl ⟨rfl, x, q, by simp [upd, putA, h2], by simp [upd, hzc, hb2, z6, hlz], hL2.symm, rfl⟩⟩
        · rw [if_neg k1]
          generalize hL1 : PSt (H0 ++ [b64 a]) T a l p (d + 1) = L1 at *
          generalize hsv : stopV (hereT l) 16 p = sv at *
          refine ⟨_, by
            simp (disch := first | (simp only [List.length_append, List.length_cons, List.length_nil]; omega) | (simp; done) | assumption) [AV.cells?, AV.isCell, -AV.cells?, cq_int, cq_str, cq_slice, cq_bool, cq_ptr, -evBuild, -evBuildSlice, AV.sealed, AV.sealedL, r069, rc69, r369, B69, cutC, bodyOf, Tryz.f82, esc69, h1, h2, hb2, hh, ho1, k2, k3', k4, k1, hfl, z24, c24, a24, k24, i24, tq46_0, tq46_1, tq46_2, tc46, ta46, tk46, ti46, tz46, fq0, fq3, fq4, fq5, c3, a3, k3, i3, c2, a2, k2, i2, c22, a22, k22, i22, bq3, bq2, tq66_0, tq66_1, tq66_2, tk66, k9, a9, c9, bq9, tk64, tc64, ta64, ti64]
            rfl, .inr ⟨16, p, by rw [hsv], hL1.symm, rfl⟩⟩

set_option maxHeartbeats 8000000 in
theorem ev69 (n d F k : Nat) (hdk : d + k + 1 = 32) (hw : lowB H0.length T.length H0 = true) (one any : Nat → PR X) (h72 : Sub (H0 ++ [b64 a]) T a l (d + 1) (n + 4) 85 (signedP (hereT l) F one any)) (h73 : Sub (H0 ++ [b64 a]) T a l (d + 1) (n + 4) 86 (namedP (hereT l) one any)) :
    Sub H0 T a l d (n + 5) 82 (fun p => if (hereT l p).k = 2 then .ok (leafX 1 [] (hereT l p).n 0, p + 1)
    else if (hereT l p).k = 3 then .ok (leafX 3 (hereT l p).s 0 0, p + 1)
    else if (hereT l p).k = 4 then signedP (hereT l) F one any p
    else if (hereT l p).k = 1 then namedP (hereT l) one any p
    else .error (16, p)) := by
  intro p
  have ha1 : a < (H0 ++ [b64 a]).length := by simp; omega
  rw [show n + 5 = (n + 4) + 1 from rfl, ev_enterD (n := n + 4) (show E.ok 82 = true from rfl) (show E.dfr 82 = true from rfl) Tryz.func82 (fn := Tryz.f82) (c := bodyOf Tryz.f82) rfl cut69 (Nat.le_of_ble_eq_true rfl) (by decide +kernel)]
  have happ := PSt_app ha T l p d
  have hlen := PSt_Hlen H0 T a l p d
  have hg := PSt_get ha1 T l p d
  have ho := PSt_own ha T l p d
  have hset := PSt_set (H0 := H0 ++ [b64 a]) (a := a) T l p d p (d + 1)
  have hd1 : IntKind.i64.wrap ((d : Int) + 1) = ((d + 1 : Nat) : Int) := by rw [wrap64 _ (by omega)]; omega
  have hlt : ¬ (32 : Int) ≤ (d : Int) := by omega
  obtain ⟨fs1, e1, q1, q2, q3, q4⟩ : ∃ fs1, evCode ⟨Tryz.prog, E.esc 82, n + 4⟩ (ev Tryz.prog E (n + 4)) (E.ps 82) (n + 4) (.seq r069 (.seq rc69 (.seq r369 .skip))) ⟨argsA [.ptr a 0], fun _ => (0, []), 0, PSt H0 T a l p d⟩ = some (.norm, fs1) ∧ fs1.t 1 = .ptr H0.length 0 ∧ fs1.t 2 = .loc (n + 4) 2 2 0 ∧ fs1.b 2 = (2, z6) ∧ fs1.S = PSt (H0 ++ [b64 a]) T a l p (d + 1) := by
    simp only [b64] at happ hset hg ho ⊢
    generalize hL3 : PSt (H0 ++ [⟨57, [.ptr a 0]⟩]) T a l p (d + 1) = L3 at *
    generalize PSt (H0 ++ [⟨57, [.ptr a 0]⟩]) T a l p d = L2 at *
    generalize PSt H0 T a l p d = L1 at *
    generalize d + 1 = D1 at *
    generalize tkL l = es at *
    refine ⟨_, by
      simp (disch := first | (simp only [List.length_append, List.length_cons, List.length_nil]; omega) | (simp; done) | assumption) [AV.cells?, AV.isCell, -AV.cells?, cq_int, cq_str, cq_slice, cq_bool, cq_ptr, -evBuild, -evBuildSlice, AV.sealed, AV.sealedL, r069, rc69, r369, B69, cutC, bodyOf, Tryz.f82, esc69, happ, hlen, hg, ho, hset, hd1, hlt, z24', z24, c24, a24, k24, i24, tq46_0, tq46_1, tq46_2, tc46, ta46, tk46, ti46, tz46, fq0, fq3, fq4, fq5, c3, a3, k3, i3, c2, a2, k2, i2, c22, a22, k22, i22, bq3, bq2, tq66_0, tq66_1, tq66_2, tk66, k9, a9, c9, bq9, tk64, tc64, ta64, ti64]
      rfl, by simp [upd, putA], by simp [upd, putA], by simp [upd, z6], rfl⟩
  rw [e1]
  clear e1 happ hlen hg ho hset
  obtain ⟨t, b, c, S⟩ := fs1
  simp only at q1 q2 q3 q4
  subst q4
  obtain ⟨⟨o, fs2⟩, r1, r2⟩ := one_body ha T l hl n d F k one any h72 h73 p (upd 18 (.fn 84 [] [.ptr H0.length 0]) t) b (c + 2) (by simp [upd, q1]) (by simp [upd, q2]) q3
  have hsq : seqA ⟨Tryz.prog, E.esc 82, n + 4⟩ (ev Tryz.prog E (n + 4)) O69 (List.range (O69.size - 1)) ⟨t, b, c, PSt (H0 ++ [b64 a]) T a l p (d + 1)⟩ = some (.ok ⟨upd 18 (.fn 84 [] [.ptr H0.length 0]) t, b, c, PSt (H0 ++ [b64 a]) T a l p (d + 1)⟩ .non) := by
    have hr : List.range (O69.size - 1) = [0] := rfl
    have ho0 : ∃ o, O69[0]? = some o ∧ o.guard = none ∧ o.dst = some 18 ∧ o.op = .makeFunc (.func 84) #[] #[.tmp 1] := ⟨_, rfl, rfl, rfl, rfl⟩
    obtain ⟨o, o1, o2, o3, o4⟩ := ho0
    rw [hr]
    simp only [seqA, o1, stepA, o2, wantedA, evOp, o4, o3, putA, rhoL, rho, q1, List.map_nil, List.map_cons]
  have hsz : O69.size = 2 := rfl
  simp only [hsq]
  simp only [rho, upd, if_true, hsz]
  rw [r1]
  obtain ⟨t2, b2, c2, S2⟩ := fs2
  rcases r2 with ⟨z1, e, q, z2, z3, z4, z5⟩ | ⟨c', q, z1, z2, z3⟩
  · simp only at z1 z2 z3 z4
    subst z1 z4
    rw [z5, ansX_ok]
    have hdf := ev71 (n + 3) ha T l q d (by omega) none
    have hf := fin_one ha T l p d q e.emb hw (sealed_emb e) (strip_emb _ e) (low_emb _ _ e)
    have hlz := xlen e
    have htz := xtake e
    have hez := xemb e
    simp only [fromD, List.nil_append, rhoL, List.map_nil, hdf]
    generalize PSt H0 T a l q d = L3 at *
    generalize PSt (H0 ++ [b64 a]) T a l q d = L2 at *
    generalize e.cells = ec at *
    generalize e.emb = ee at *
    have hrs : Tryz.f82.results.toList = [.cell 2 25] := rfl
    simp (disch := first | (simp only [List.length_append, List.length_cons, List.length_nil]; omega) | (simp; done) | assumption) [AV.cells?, AV.isCell, -AV.cells?, hrs, z2, z3, hlz, htz, hez, hf, c24, a24, k24]
  · simp only at z1 z2
    subst z1 z2
    rw [z3, ansX_err]
    have hdf := ev71 (n + 3) ha T l q d (by omega) (some (stopV (hereT l) c' q))
    have hf := fin_one ha T l p d q (stopV (hereT l) c' q) hw rfl rfl rfl
    simp only [fromD, List.nil_append, rhoL, List.map_nil, hdf, finPan, hf]
theorem ev69z (n d : Nat) (hd : d = 32) (hw : lowB H0.length T.length H0 = true) (p : Nat) : ev Tryz.prog E (n + 5) 82 [.ptr a 0] (PSt H0 T a l p d) = ansX H0 T a l d (.error (32, p)) := by
  have ha1 : a < (H0 ++ [b64 a]).length := by simp; omega
  rw [show n + 5 = (n + 4) + 1 from rfl, ev_enterD (n := n + 4) (show E.ok 82 = true from rfl) (show E.dfr 82 = true from rfl) Tryz.func82 (fn := Tryz.f82) (c := bodyOf Tryz.f82) rfl cut69 (Nat.le_of_ble_eq_true rfl) (by decide +kernel)]
  have happ := PSt_app ha T l p d
  have hlen := PSt_Hlen H0 T a l p d
  have hg := PSt_get ha1 T l p d
  have ho := PSt_own ha T l p d
  have hlt : (32 : Int) ≤ (d : Int) := by omega
  have hfl := ev_fail ha1 T l hl (n + 2) p d 32
  have hf := fin_one ha T l p d p (stopV (hereT l) 32 p) hw rfl rfl rfl
  rw [ansX_err]
  simp only [b64] at happ hg ho hfl hf ⊢
  generalize PSt (H0 ++ [⟨57, [.ptr a 0]⟩]) T a l p d = L2 at *
  generalize PSt H0 T a l p d = L1 at *
  generalize stopV (hereT l) 32 p = sv at *
  generalize tkL l = es at *
  simp (disch := first | (simp only [List.length_append, List.length_cons, List.length_nil]; omega) | (simp; done) | assumption) [AV.cells?, AV.isCell, -AV.cells?, cq_int, cq_str, cq_slice, cq_bool, cq_ptr, -evBuild, -evBuildSlice, AV.sealed, AV.sealedL, r069, rc69, r369, B69, cutC, bodyOf, Tryz.f82, esc69, happ, hlen, hg, ho, hlt, hfl, hf, finPan, z24', z24, c24, a24, k24, i24, tq46_0, tq46_1, tq46_2, tc46, ta46, tk46, ti46, tz46, fq0, fq3, fq4, fq5, c3, a3, k3, i3, c2, a2, k2, i2, c22, a22, k22, i22, bq3, bq2, tq66_0, tq66_1, tq66_2, tk66, k9, a9, c9, bq9, tk64, tc64, ta64, ti64]
end
end Go.Proofs.YtmhidempoabehaaGreatDoor.PS
/- The parser, whole: by how many levels there still are. Condition: the world outside is closed. -/
namespace Go.Proofs.YtmhidempoabehaaGreatDoor.PS
set_option linter.unusedVariables false
set_option linter.unusedSimpArgs false
open Go AE EX PT NF LX
set_option maxRecDepth 100000

/-- whatever depth of calls from b on -/
def From (H0 : List HBox) (T : List Nat) (a : Nat) (l : List Tk) (d b f : Nat) (sub : Nat → PR X) : Prop := ∀ m, b ≤ m → Sub H0 T a l d m f sub
section
variable {H0 : List HBox} {a : Nat} (ha : a < H0.length) (T : List Nat) (l : List Tk) (hl : l.length ≤ 2000000)
include ha hl
theorem from68 {d b F : Nat} {one : Nat → PR X} (hb : l.length + 4 ≤ b) (hF : l.length < F) (hm : Mono one) (h : From H0 T a l d b 82 one) : From H0 T a l d (b + 1) 81 (prodP (hereT l) F one) := by
  intro m hbm
  obtain ⟨n, rfl⟩ : ∃ n, m = n + 3 := ⟨m - 3, by omega⟩
  exact ev68 ha T l hl n d one (h _ (by omega)) hm F hF (by omega)
theorem from64 {d b F : Nat} {one : Nat → PR X} (hb : l.length + 4 ≤ b) (hF : l.length < F) (hm : Mono one) (h : From H0 T a l d b 82 one) : From H0 T a l d (b + 2) 76 (sumP (hereT l) F one) := by
  intro m hbm
  obtain ⟨n, rfl⟩ : ∃ n, m = n + 3 := ⟨m - 3, by omega⟩
  exact ev64 ha T l hl n d _ (from68 ha T l hl hb hF hm h _ (by omega)) (mono_any hm).1 F hF (by omega)
theorem from56 {d b F : Nat} {one : Nat → PR X} (hb : l.length + 4 ≤ b) (hF : l.length < F) (hm : Mono one) (h : From H0 T a l d b 82 one) : From H0 T a l d (b + 3) 61 (relP (hereT l) (sumP (hereT l) F one)) := by
  intro m hbm
  obtain ⟨n, rfl⟩ : ∃ n, m = n + 3 := ⟨m - 3, by omega⟩
  exact ev56 ha T l hl n d _ (from64 ha T l hl hb hF hm h _ (by omega))
theorem from43 {d b F : Nat} {one : Nat → PR X} (hb : l.length + 4 ≤ b) (hF : l.length < F) (hm : Mono one) (h : From H0 T a l d b 82 one) : From H0 T a l d (b + 4) 40 (allP (hereT l) F one) := by
  intro m hbm
  obtain ⟨n, rfl⟩ : ∃ n, m = n + 3 := ⟨m - 3, by omega⟩
  exact ev43 ha T l hl n d _ (from56 ha T l hl hb hF hm h _ (by omega)) (mono_rel (mono_any hm).2.1) F hF (by omega)
theorem from27 {d b F : Nat} {one : Nat → PR X} (hb : l.length + 4 ≤ b) (hF : l.length < F) (hm : Mono one) (h : From H0 T a l d b 82 one) : From H0 T a l d (b + 5) 26 (anyP (hereT l) F one) := by
  intro m hbm
  obtain ⟨n, rfl⟩ : ∃ n, m = n + 3 := ⟨m - 3, by omega⟩
  exact ev27 ha T l hl n d _ (from43 ha T l hl hb hF hm h _ (by omega)) (mono_any hm).2.2.1 F hF (by omega)
theorem from79 {d b F : Nat} {one : Nat → PR X} (hb : l.length + 4 ≤ b) (hF : l.length < F) (hm : Mono one) (h : From H0 T a l d b 82 one) : From H0 T a l d (b + 6) 92 (argP (hereT l) (anyP (hereT l) F one)) := by
  intro m hbm
  obtain ⟨n, rfl⟩ : ∃ n, m = n + 5 := ⟨m - 5, by omega⟩
  exact ev79 ha T l hl n d _ (from27 ha T l hl hb hF hm h _ (by omega))
theorem from80 {d b F : Nat} {one : Nat → PR X} (hb : l.length + 4 ≤ b) (hF : l.length < F) (hm : Mono one) (h : From H0 T a l d b 82 one) : From H0 T a l d (b + 7) 93 (timedP (hereT l) (anyP (hereT l) F one)) := by
  intro m hbm
  obtain ⟨n, rfl⟩ : ∃ n, m = n + 6 := ⟨m - 6, by omega⟩
  exact ev80 ha T l hl n d _ (from79 ha T l hl hb hF hm h _ (by omega)) (from27 ha T l hl hb hF hm h _ (by omega))
theorem from72 {d b F : Nat} {one : Nat → PR X} (hw : lowB H0.length T.length H0 = true) (hb : l.length + 4 ≤ b) (hF : l.length < F) (hm : Mono one) (h : From H0 T a l d b 82 one) : From H0 T a l d (b + 6) 85 (signedP (hereT l) F one (anyP (hereT l) F one)) := by
  intro m hbm
  obtain ⟨n, rfl⟩ : ∃ n, m = n + 7 := ⟨m - 7, by omega⟩
  exact ev72 ha T l hl n d F _ _ (h _ (by omega)) (from27 ha T l hl hb hF hm h _ (by omega)) (ev74 ha T l hl (n + 1) d hw F hF (by omega))
theorem from73 {d b F : Nat} {one : Nat → PR X} (hb : l.length + 4 ≤ b) (hF : l.length < F) (hm : Mono one) (h : From H0 T a l d b 82 one) : From H0 T a l d (b + 8) 86 (namedP (hereT l) one (anyP (hereT l) F one)) := by
  intro m hbm
  obtain ⟨n, rfl⟩ : ∃ n, m = n + 7 := ⟨m - 7, by omega⟩
  exact ev73 ha T l hl n d _ _ (h _ (by omega)) (from79 ha T l hl hb hF hm h _ (by omega)) (from80 ha T l hl hb hF hm h _ (by omega))
end
theorem one_all (T : List Nat) (l : List Tk) (hl : l.length ≤ 2000000) (F : Nat) (hF : l.length < F) : ∀ (k : Nat) (H0 : List HBox) (a d : Nat), a < H0.length → lowB H0.length T.length H0 = true → d + k = 32 →
    From H0 T a l d (l.length + 20 * k + 20) 82 (oneF (hereT l) F k)
  | 0, H0, a, d, ha, hw, hd => by
    intro m hm p
    obtain ⟨n, rfl⟩ : ∃ n, m = n + 5 := ⟨m - 5, by omega⟩
    rw [oneF]
    exact ev69z ha T l hl n d (by omega) hw p
  | k + 1, H0, a, d, ha, hw, hd => by
    have ha1 : a < (H0 ++ [b64 a]).length := by simp; omega
    have hw1 := wf_app ha hw
    have ih := one_all T l hl F hF k (H0 ++ [b64 a]) a (d + 1) ha1 hw1 (by omega)
    have hm1 := mono_one (h := hereT l) F k
    intro m hm
    obtain ⟨n, rfl⟩ : ∃ n, m = n + 5 := ⟨m - 5, by omega⟩
    have e : oneF (hereT l) F (k + 1) = (fun p => if (hereT l p).k = 2 then .ok (leafX 1 [] (hereT l p).n 0, p + 1)
    else if (hereT l p).k = 3 then .ok (leafX 3 (hereT l p).s 0 0, p + 1)
    else if (hereT l p).k = 4 then signedP (hereT l) F (oneF (hereT l) F k) (anyP (hereT l) F (oneF (hereT l) F k)) p
    else if (hereT l p).k = 1 then namedP (hereT l) (oneF (hereT l) F k) (anyP (hereT l) F (oneF (hereT l) F k)) p
    else .error (16, p)) := by funext p; rw [oneF]
    rw [e]
    exact ev69 ha T l hl n d F k (by omega) hw _ _ (from72 ha1 T l hl hw1 (by omega) hF hm1 ih _ (by omega)) (from73 ha1 T l hl (by omega) hF hm1 ih _ (by omega))
/-- from the first word on -/
def takeR (l : List Tk) : PR X := anyP (hereT l) (l.length + 1) (oneF (hereT l) (l.length + 1) 32) 0
theorem any_all (T : List Nat) (l : List Tk) (hl : l.length ≤ 2000000) (H0 : List HBox) (a : Nat) (ha : a < H0.length) (hw : lowB H0.length T.length H0 = true) (m : Nat) (hm : l.length + 700 ≤ m) :
    ev Tryz.prog E m 26 [.ptr a 0] (PSt H0 T a l 0 0) = ansX H0 T a l 0 (takeR l) :=
  from27 ha T l hl (by omega) (by omega) (mono_one _ 32) (one_all T l hl (l.length + 1) (by omega) 32 H0 a 0 ha hw rfl) m (by omega) 0
end Go.Proofs.YtmhidempoabehaaGreatDoor.PS
/- The numbers of what is parsed are numbers of 64 bits. No condition. -/
namespace Go.Proofs.YtmhidempoabehaaGreatDoor.PS
set_option linter.unusedVariables false
set_option linter.unusedSimpArgs false
open Go AE EX PT NF LX
set_option maxRecDepth 100000

def Ns (sub : Nat → PR X) : Prop := ∀ p x r, sub p = .ok (x, r) → x.num
theorem n_leaf {k n hi : Int} (s : List UInt8) (h1 : in64 k) (h2 : in64 n) (h3 : in64 hi) : (leafX k s n hi).num := ⟨h1, h2, by unfold in64; omega, h3, trivial, trivial⟩
theorem n_both {k : Int} {x y : X} (h1 : in64 k) (h2 : x.num) (h3 : y.num) : (bothX k x y).num := ⟨h1, by unfold in64; omega, by unfold in64; omega, by unfold in64; omega, trivial, h2, h3, trivial⟩
theorem n_one {k : Int} {x : X} (h1 : in64 k) (h2 : x.num) : (oneX k x).num := ⟨h1, by unfold in64; omega, by unfold in64; omega, by unfold in64; omega, trivial, h2, trivial⟩
theorem numL_app : ∀ a b : List X, numL (a ++ b) ↔ numL a ∧ numL b
  | [], b => by simp [numL]
  | x :: a, b => by simp [numL, numL_app a b, and_assoc]
theorem i64s (k : Int) (h : 0 ≤ k ∧ k ≤ 100 := by omega) : in64 k := by unfold in64; omega
section
variable {h0 : Nat → Tk} (hN : ∀ p, in64 (h0 p).n)
include hN
omit hN in
theorem opAt_mem {h : Nat → Tk} {p : Nat} {k : Int} : ∀ {ops : List (List UInt8 × Int)}, opAt h p ops = some k → ∃ q, (q, k) ∈ ops
  | [], hh => by cases hh
  | (q, k') :: r, hh => by
    rw [opAt] at hh
    split at hh
    · cases hh; exact ⟨q, by simp⟩
    · obtain ⟨q', hq⟩ := opAt_mem hh; exact ⟨q', by simp [hq]⟩
omit hN in
theorem n_loop {ops : List (List UInt8 × Int)} (ho : ∀ o ∈ ops, in64 o.2) {sub : Nat → PR X} (hs : Ns sub) : ∀ f e p x r, e.num → loopF h0 ops sub f e p = .ok (x, r) → x.num
  | 0, e, p, x, r, _, h => by cases h
  | f + 1, e, p, x, r, he, h => by
    rw [loopF] at h
    split at h
    · cases h; exact he
    · rename_i k hk
      obtain ⟨v, q, h1, h2⟩ := th_split h
      obtain ⟨w, hw⟩ := opAt_mem hk
      exact n_loop ho hs f _ _ _ _ (n_both (ho _ hw) he (hs _ _ _ h1)) h2
omit hN in
theorem n_chain {ops : List (List UInt8 × Int)} (ho : ∀ o ∈ ops, in64 o.2) {sub : Nat → PR X} (hs : Ns sub) (F : Nat) : Ns (chainP h0 F ops sub) := by
  intro p x r h
  obtain ⟨v, q, h1, h2⟩ := th_split h
  exact n_loop ho hs F _ _ _ _ (hs _ _ _ h1) h2
omit hN in
theorem n_rel {sub : Nat → PR X} (hs : Ns sub) : Ns (relP h0 sub) := by
  intro p x r h
  obtain ⟨v, q, h1, h2⟩ := th_split h
  have h3 := hs _ _ _ h1
  have key : ∀ {k : Int}, in64 k → (sub (q + 1)).th (fun y t => .ok (bothX k v y, t)) = .ok (x, r) → x.num := fun hk hh => by
    obtain ⟨y, t, g1, g2⟩ := th_split hh
    cases g2
    exact n_both hk h3 (hs _ _ _ g1)
  split at h2
  · exact key (i64s 14) h2
  · split at h2
    · obtain ⟨y, t, g1, g2⟩ := th_split h2
      cases g2
      exact n_one (i64s 18) (n_both (i64s 14) h3 (hs _ _ _ g1))
    · split at h2
      · exact key (i64s 15) h2
      · split at h2
        · exact key (i64s 16) h2
        · split at h2
          · exact key (i64s 17) h2
          · cases h2; exact h3
omit hN in
theorem n_any {one : Nat → PR X} (hs : Ns one) (F : Nat) : Ns (anyP h0 F one) := by
  have s1 : ∀ k : Int, 0 ≤ k → k ≤ 100 → ∀ q : List UInt8, ∀ o ∈ [(q, k)], in64 o.2 := fun k h1 h2 q o ho => by
    simp at ho; subst ho; exact i64s k
  exact n_chain (s1 20 (by omega) (by omega) _) (n_chain (s1 19 (by omega) (by omega) _) (n_rel (n_chain (fun o ho => by
    simp at ho
    rcases ho with rfl | rfl
    · exact i64s 8
    · exact i64s 9) (n_chain (s1 10 (by omega) (by omega) _) hs F) F)) F) F
omit hN in
theorem n_setF : ∀ f ks p x r, numL ks → setF h0 f ks p = .ok (x, r) → x.num
  | 0, ks, p, x, r, _, h => by cases h
  | f + 1, ks, p, x, r, hk, h => by
    rw [setF] at h
    obtain ⟨t, q, h1, h2⟩ := th_split h
    have hks : numL (ks ++ [leafX 3 t.s 0 0]) := (numL_app _ _).2 ⟨hk, n_leaf _ (i64s 3) (i64s 0) (i64s 0), trivial⟩
    split at h2
    · cases h2
    · split at h2
      · cases h2
        exact ⟨i64s 4, i64s 0, i64s 0, i64s 0, trivial, hks⟩
      · obtain ⟨u, q2, h3, h4⟩ := th_split h2
        exact n_setF f _ _ _ _ hks h4
omit hN in
theorem n_set (F : Nat) : Ns (setP h0 F) := by
  intro p x r h
  unfold setP at h
  split at h
  · cases h; exact n_leaf _ (i64s 4) (i64s 0) (i64s 0)
  · exact n_setF F [] _ _ _ (by simp [numL]) h
omit hN in
theorem n_arg {any : Nat → PR X} (ha : Ns any) : Ns (argP h0 any) := by
  intro p x r h
  obtain ⟨_, q, h1, h2⟩ := th_split h
  obtain ⟨v, q2, h3, h4⟩ := th_split h2
  obtain ⟨_, q3, h5, h6⟩ := th_split h4
  cases h6
  exact ha _ _ _ h3
omit hN in
theorem n_signed {one any : Nat → PR X} (ho : Ns one) (ha : Ns any) (F : Nat) : Ns (signedP h0 F one any) := by
  intro p x r h
  unfold signedP at h
  split at h
  · obtain ⟨v, q, h1, h2⟩ := th_split h
    cases h2
    exact n_one (i64s 11) (ho _ _ _ h1)
  · split at h
    · exact n_set F _ _ _ h
    · exact n_arg ha _ _ _ h
omit hN in
theorem take_h {p k r} {t : Tk} (h : takeP h0 k p = .ok (t, r)) : t = h0 p := by
  unfold takeP at h
  split at h
  · cases h; rfl
  · cases h
theorem n_span : ∀ p x r, spanP h0 p = .ok (x, r) → in64 x.1 ∧ in64 x.2 := by
  intro p x r h
  obtain ⟨_, q, h1, h2⟩ := th_split h
  obtain ⟨t, q2, h3, h4⟩ := th_split h2
  obtain ⟨_, q3, h5, h6⟩ := th_split h4
  have ht := take_h h3
  split at h6
  · obtain ⟨_, q4, h7, h8⟩ := th_split h6
    cases h8
    exact ⟨by rw [ht]; exact hN _, by unfold in64; omega⟩
  · obtain ⟨u, q4, h7, h8⟩ := th_split h6
    have hu := take_h h7
    split at h8
    · cases h8
    · obtain ⟨_, q5, h9, h10⟩ := th_split h8
      cases h10
      exact ⟨by rw [ht]; exact hN _, by rw [hu]; exact hN _⟩
theorem n_look {any : Nat → PR X} (ha : Ns any) {k : Int} (hk : in64 k) : Ns (lookP h0 k any) := by
  intro p x r h
  obtain ⟨lh, q, h1, h2⟩ := th_split h
  obtain ⟨v, q2, h3, h4⟩ := th_split h2
  cases h4
  have := n_span hN _ _ _ h1
  exact ⟨hk, i64s 0, this.1, this.2, trivial, n_arg ha _ _ _ h3, trivial⟩
theorem n_since {any : Nat → PR X} (ha : Ns any) : Ns (sinceP h0 any) := by
  intro p x r h
  obtain ⟨lh, q, h1, h2⟩ := th_split h
  obtain ⟨_, q2, h3, h4⟩ := th_split h2
  obtain ⟨x1, q3, h5, h6⟩ := th_split h4
  obtain ⟨_, q4, h7, h8⟩ := th_split h6
  obtain ⟨x2, q5, h9, h10⟩ := th_split h8
  obtain ⟨_, q6, h11, h12⟩ := th_split h10
  cases h12
  have := n_span hN _ _ _ h1
  exact ⟨i64s 24, i64s 0, this.1, this.2, trivial, ha _ _ _ h5, ha _ _ _ h9, trivial⟩
theorem n_timed {any : Nat → PR X} (ha : Ns any) : Ns (timedP h0 any) := by
  intro p x r h
  unfold timedP at h
  split at h
  · exact n_look hN ha (i64s 22) _ _ _ h
  · split at h
    · exact n_look hN ha (i64s 23) _ _ _ h
    · split at h
      · exact n_since hN ha _ _ _ h
      · cases h
omit hN in
theorem n_attr {side : Int} (hk : in64 side) : Ns (attrP h0 side) := by
  intro p x r h
  obtain ⟨_, q, h1, h2⟩ := th_split h
  obtain ⟨t, q2, h3, h4⟩ := th_split h2
  cases h4
  exact n_leaf _ hk (i64s 0) (i64s 0)
omit hN in
theorem n_act : Ns (actP h0) := by
  intro p x r h
  obtain ⟨_, q, h1, h2⟩ := th_split h
  obtain ⟨t, q2, h3, h4⟩ := th_split h2
  obtain ⟨_, q3, h5, h6⟩ := th_split h4
  cases h6
  exact n_leaf _ (i64s 21) (i64s 0) (i64s 0)
theorem n_times : Ns (timesP h0) := by
  intro p x r h
  obtain ⟨_, q, h1, h2⟩ := th_split h
  obtain ⟨t, q2, h3, h4⟩ := th_split h2
  obtain ⟨_, q3, h5, h6⟩ := th_split h4
  obtain ⟨u, q4, h7, h8⟩ := th_split h6
  obtain ⟨_, q5, h9, h10⟩ := th_split h8
  cases h10
  exact n_leaf _ (i64s 13) (i64s 0) (by rw [take_h h7]; exact hN _)
theorem n_named {one any : Nat → PR X} (ho : Ns one) (ha : Ns any) : Ns (namedP h0 one any) := by
  intro p x r h
  unfold namedP at h
  split at h
  · cases h; exact n_leaf _ (i64s 2) (i64s 1) (i64s 0)
  · split at h
    · cases h; exact n_leaf _ (i64s 2) (i64s 0) (i64s 0)
    · split at h
      · cases h; exact n_leaf _ (i64s 7) (i64s 0) (i64s 0)
      · split at h
        · obtain ⟨v, q, h1, h2⟩ := th_split h
          cases h2
          exact n_one (i64s 18) (ho _ _ _ h1)
        · split at h
          · exact n_attr (i64s 5) _ _ _ h
          · split at h
            · exact n_attr (i64s 6) _ _ _ h
            · split at h
              · exact n_act _ _ _ h
              · split at h
                · exact n_times hN _ _ _ h
                · split at h
                  · obtain ⟨v, q, h1, h2⟩ := th_split h
                    cases h2
                    exact n_one (i64s 12) (n_arg ha _ _ _ h1)
                  · split at h
                    · obtain ⟨v, q, h1, h2⟩ := th_split h
                      cases h2
                      exact n_one (i64s 25) (n_arg ha _ _ _ h1)
                    · exact n_timed hN ha _ _ _ h
theorem n_oneF (F : Nat) : ∀ k, Ns (oneF h0 F k)
  | 0 => by intro p x r h; rw [oneF] at h; cases h
  | k + 1 => by
    intro p x r h
    have ih := n_oneF F k
    rw [oneF] at h
    split at h
    · cases h; exact n_leaf _ (i64s 1) (hN _) (i64s 0)
    · split at h
      · cases h; exact n_leaf _ (i64s 3) (i64s 0) (i64s 0)
      · split at h
        · exact n_signed ih (n_any ih F) F _ _ _ h
        · split at h
          · exact n_named hN ih (n_any ih F) _ _ _ h
          · cases h
end
/-! ### the numbers of words -/
theorem next_num {s : List UInt8} {p : Nat} {c : UInt8} {t : Tk} {to : Nat} (h : nextR s p c = some (.word t to)) : in64 t.n := by
  unfold nextR at h
  split at h
  · cases h
  · simp only [Option.some.injEq] at h
    split at h
    · unfold namedR at h
      split at h <;> cases h
      exact i64s 0
    · split at h
      · unfold numberedR at h
        split at h
        · rename_i v hv
          cases h
          unfold parseN at hv
          split at hv
          · rename_i h3
            cases hv
            obtain ⟨_, h4, _⟩ := h3
            simp only [in64]; omega
          · cases hv
        · cases h
      · split at h
        · unfold quotedR at h
          repeat' split at h
          all_goals first
            | (cases h; done)
            | (cases h; exact i64s 0)
        · unfold signedR at h
          repeat' split at h
          all_goals first
            | (cases h; done)
            | (cases h; exact i64s 0)
theorem lexF_num {s : List UInt8} : ∀ (f p : Nat) (out l : List Tk), (∀ t ∈ out, in64 t.n) → lexF s f p out = .ok l → ∀ t ∈ l, in64 t.n
  | 0, p, out, l, ho, h => by cases h; exact ho
  | f + 1, p, out, l, ho, h => by
    rw [LX.lexF] at h
    split at h
    · cases h
      intro t ht
      rcases List.mem_append.1 ht with ht | ht
      · exact ho t ht
      · simp at ht; subst ht; exact i64s 0
    · split at h
      · exact lexF_num f _ _ _ ho h
      · cases h
      · rename_i t to hw
        refine lexF_num f _ _ _ (fun u hu => ?_) h
        rcases List.mem_append.1 hu with hu | hu
        · exact ho u hu
        · simp at hu; subst hu; exact next_num hw
theorem here_num {l : List Tk} (h : ∀ t ∈ l, in64 t.n) (p : Nat) : in64 (hereT l p).n := by
  unfold hereT
  split
  · rename_i t ht; exact h t (List.mem_of_getElem? ht)
  · split
    · exact i64s 0
    · exact i64s 0
theorem lexAll_num {s : List UInt8} {l : List Tk} (h : lexAll s = .ok l) : ∀ t ∈ l, in64 t.n := by
  unfold lexAll at h
  split at h
  · cases h
  · exact lexF_num _ _ _ _ (by simp) h
/-- what is taken of a text's words -/
theorem take_num {s : List UInt8} {l : List Tk} {x : X} {q : Nat} (h : lexAll s = .ok l) (hx : takeR l = .ok (x, q)) : x.num :=
  n_any (n_oneF (here_num (lexAll_num h)) _ 32) _ _ _ _ hx
end Go.Proofs.YtmhidempoabehaaGreatDoor.PS
/- The words of a text, by what is left of it. No condition. -/
namespace Go.Proofs.YtmhidempoabehaaGreatDoor.LX
set_option linter.unusedVariables false
set_option linter.unusedSimpArgs false
open Go AE EX PT NF PS
set_option maxRecDepth 100000

def Tk.at (t : Tk) (p : Nat) : Tk := { t with p := p }
def LR.sh (p : Nat) : LR → LR
  | .err c => .err c
  | .word t to => .word (t.at p) (p + to)
theorem far_sh (s : List UInt8) (p : Nat) : far s p = p + far (s.drop p) 0 := by simp [far]
theorem sub_sh (s : List UInt8) (p a k : Nat) : sub s (p + a) (p + k) = sub (s.drop p) a k := by
  simp only [sub, List.drop_take, List.drop_drop]
  congr 1
  omega
theorem next_shift {s : List UInt8} {p : Nat} {c : UInt8} (hc : s[p]? = some c) : nextR s p c = (nextR (s.drop p) 0 c).map (LR.sh p) := by
  unfold nextR
  split
  · rfl
  · have e1 : sub s p (far s p) = sub (s.drop p) 0 (far (s.drop p) 0) := by rw [far_sh s p]; exact sub_sh s p 0 _
    have e2 : ∀ k, sub s (p + 1) (p + 1 + k) = sub (s.drop p) 1 (1 + k) := fun k => by rw [Nat.add_assoc]; exact sub_sh s p 1 (1 + k)
    have e3 : (s.drop p).drop 1 = s.drop (p + 1) := by rw [List.drop_drop]
    simp only [Option.map_some]
    congr 1
    split
    · unfold namedR
      rw [e1, far_sh s p]
      rw [show p + far (s.drop p) 0 - p = far (s.drop p) 0 - 0 by omega]
      split <;> rfl
    · split
      · unfold numberedR
        rw [e1]
        split
        · rw [far_sh s p]; rfl
        · rfl
      · split
        · unfold quotedR
          simp only [Nat.zero_add, e3, e2]
          split
          · rfl
          · split
            · rfl
            · split
              · simp only [LR.sh, Tk.at]
                congr 1
              · rfl
        · unfold signedR
          have e4 : sgAt s p = sgAt (s.drop p) 0 := by simp [sgAt]
          have e5 : (s.drop p)[0]? = some c := by simp [hc]
          rw [e4, e5, hc]
          split
          · rfl
          · split
            · have := sub_sh s p 0 1
              simp only [Nat.add_zero] at this
              rw [this]
              split <;> rfl
            · rfl

/-- all words of what is left, from place p on, by fuel -/
def lexU : Nat → List UInt8 → Nat → Except (Int × Nat) (List Tk)
  | 0, _, _ => .ok []
  | _ + 1, [], p => .ok [⟨5, [], 0, p⟩]
  | f + 1, c :: u, p => match nextR (c :: u) 0 c with
    | none => lexU f u (p + 1)
    | some (.err e) => .error (e, p)
    | some (.word t to) => match lexU f ((c :: u).drop to) (p + to) with
      | .ok l => .ok (t.at p :: l)
      | .error e => .error e
theorem lexF_U {s : List UInt8} : ∀ (f p : Nat) (out : List Tk), p ≤ s.length → lexF s f p out = (match lexU f (s.drop p) p with | .ok l => .ok (out ++ l) | .error e => .error e)
  | 0, p, out, hp => by simp [lexF, lexU]
  | f + 1, p, out, hp => by
    rw [lexF]
    cases hc : s[p]? with
    | none =>
      have := List.getElem?_eq_none_iff.1 hc
      have hd : s.drop p = [] := List.drop_eq_nil_of_le this
      rw [hd]
      simp [lexU]
    | some c =>
      have hlt := (List.getElem?_eq_some_iff.1 hc).1
      have hd : s.drop p = c :: s.drop (p + 1) := by
        rw [List.drop_eq_getElem_cons hlt, (List.getElem?_eq_some_iff.1 hc).2]
      have hsh := next_shift hc
      rw [hd] at hsh ⊢
      simp only [lexU]
      cases hn : nextR (c :: s.drop (p + 1)) 0 c with
      | none =>
        rw [hn] at hsh
        simp only [Option.map_none] at hsh
        rw [hsh]
        exact lexF_U f (p + 1) out (by omega)
      | some r =>
        rw [hn] at hsh
        cases r with
        | err e =>
          simp only [Option.map_some, LR.sh] at hsh
          rw [hsh]
        | word t to =>
          simp only [Option.map_some, LR.sh] at hsh
          rw [hsh]
          simp only
          obtain ⟨_, h2, _⟩ := next_far hc hsh
          rw [lexF_U f (p + to) _ h2, ← hd, List.drop_drop]
          generalize lexU f (List.drop (p + to) s) (p + to) = R
          cases R <;> simp
theorem lexAll_U (s : List UInt8) : lexAll s = if 4096 < s.length then .error (5, 0) else lexU (s.length + 1) s 0 := by
  unfold lexAll
  split
  · rfl
  · rw [lexF_U _ 0 [] (by omega)]
    simp only [List.drop_zero, List.nil_append]
    split <;> rename_i h <;> rw [h]
theorem next_to {c : UInt8} {u : List UInt8} {t : Tk} {to : Nat} (h : nextR (c :: u) 0 c = some (.word t to)) : 0 < to ∧ to ≤ u.length + 1 := by
  obtain ⟨h1, h2, _⟩ := next_far (s := c :: u) (p := 0) rfl h
  exact ⟨h1, by simpa using h2⟩
/-- more fuel, the same -/
theorem lexU_fuel : ∀ (f g : Nat) (u : List UInt8) (p : Nat), u.length < f → f ≤ g → lexU g u p = lexU f u p
  | 0, _, _, _, h, _ => by omega
  | f + 1, 0, _, _, _, h => by omega
  | f + 1, g + 1, [], p, _, _ => rfl
  | f + 1, g + 1, c :: u, p, h1, h2 => by
    simp only [List.length_cons] at h1
    simp only [lexU]
    cases hn : nextR (c :: u) 0 c with
    | none => exact lexU_fuel f g u _ (by omega) (by omega)
    | some r =>
      cases r with
      | err e => rfl
      | word t to =>
        simp only
        obtain ⟨h3, h4⟩ := next_to hn
        rw [lexU_fuel f g _ _ (by simp; omega) (by omega)]

/-! ### a sign behind all -/
theorem takeWhile_stop {f : UInt8 → Bool} {d : UInt8} (hd : f d = false) : ∀ (u v : List UInt8), (u ++ d :: v).takeWhile f = u.takeWhile f
  | [], v => by simp [List.takeWhile, hd]
  | c :: u, v => by
    simp only [List.cons_append, List.takeWhile]
    rw [takeWhile_stop hd u v]
theorem takeWhile_le' (f : UInt8 → Bool) (u : List UInt8) : (u.takeWhile f).length ≤ u.length := takeWhile_le f u
theorem index_app {d : UInt8} (hd : d ≠ 34) : ∀ (u : List UInt8), Lib.indexByte (u ++ [d]) 34 = Lib.indexByte u 34
  | [] => by
    have : (d == 34) = false := by simp [hd]
    simp [Lib.indexByte, this]
  | c :: u => by
    have ih := index_app hd u
    simp only [List.cons_append, Lib.indexByte, ih]
theorem pre_app (c : UInt8) (u q : List UInt8) (hq : q ∈ sgL) : pre (c :: u ++ [41]) q = pre (c :: u) q := by
  have h2 := sgL_len q hq
  have h3 : q.getLast? = some 61 := by
    simp only [sgL, List.mem_cons, List.not_mem_nil, or_false] at hq
    rcases hq with rfl | rfl | rfl <;> rfl
  cases u with
  | nil =>
    have : pre [c] q = false := by simp [pre, h2]
    rw [this]
    obtain ⟨a, b, rfl⟩ : ∃ a b, q = [a, b] := by
      match q, h2 with
      | [a, b], _ => exact ⟨a, b, rfl⟩
    simp at h3
    subst h3
    simp [pre]
  | cons d u =>
    simp only [pre, h2]
    simp
theorem next_app (c : UInt8) (u : List UInt8) : nextR (c :: u ++ [41]) 0 c = nextR (c :: u) 0 c := by
  have ht : tl 41 = false := by decide
  have hf : far (c :: u ++ [41]) 0 = far (c :: u) 0 := by
    simp only [far, List.drop_zero]
    rw [takeWhile_stop ht]
  have hs : ∀ a k, k ≤ (c :: u).length → sub (c :: u ++ [41]) a k = sub (c :: u) a k := fun a k hk => by
    simp only [sub]
    rw [List.take_append_of_le_length hk]
  have hfl : far (c :: u) 0 ≤ (c :: u).length := far_le (by simp)
  unfold nextR
  split
  · rfl
  · congr 1
    split
    · unfold namedR; rw [hf, hs _ _ hfl]
    · split
      · unfold numberedR; rw [hf, hs _ _ hfl]
      · split
        · unfold quotedR
          have e1 : (c :: u ++ [41]).drop (0 + 1) = u ++ [41] := rfl
          have e2 : (c :: u).drop (0 + 1) = u := rfl
          rw [e1, e2, index_app (by decide)]
          split
          · rfl
          · rename_i h34
            obtain ⟨k, hk⟩ : ∃ k : Nat, Lib.indexByte u 34 = (k : Int) := ⟨(Lib.indexByte u 34).toNat, by omega⟩
            have hkl := indexByte_lt _ _ _ hk
            rw [hk]
            simp only [Int.toNat_natCast]
            rw [hs _ _ (by simp; omega)]
        · unfold signedR
          have e1 : sgAt (c :: u ++ [41]) 0 = sgAt (c :: u) 0 := by
            unfold sgAt
            simp only [List.drop_zero]
            have p1 := pre_app c u [58, 61] (by simp [sgL])
            have p2 := pre_app c u [33, 61] (by simp [sgL])
            have p3 := pre_app c u [60, 61] (by simp [sgL])
            simp only [sgL, List.find?_cons, p1, p2, p3, List.find?_nil]
          have e2 : (c :: u ++ [41])[0]? = (c :: u)[0]? := rfl
          rw [e1, e2, hs _ _ (by simp)]
theorem next_paren (u : List UInt8) : nextR (40 :: u) 0 40 = some (.word ⟨4, [40], 0, 0⟩ 1) := by
  have e : sgAt (40 :: u) 0 = none := by
    simp [sgAt, sgL, pre]
  have h1 : spaces.contains 40 = false := by decide
  have h2 : headB ((40 : UInt8).toNat : Int) = false := by decide
  have h3 : digB ((40 : UInt8).toNat : Int) = false := by decide
  have h4 : (((40 : UInt8).toNat : Int) == 34) = false := by decide
  have h5 : signsT.contains 40 = true := by decide
  unfold nextR signedR
  simp only [h1, h2, h3, h4, e, List.getElem?_cons_zero, h5, if_true, Bool.false_eq_true, if_false]
  rfl
theorem lexU_app : ∀ (f : Nat) (u : List UInt8) (p : Nat) (l : List Tk), u.length < f → lexU f u p = .ok l →
    ∃ more, l = more ++ [⟨5, [], 0, ((p + u.length : Nat) : Int)⟩] ∧ lexU (f + 1) (u ++ [41]) (p + 1) = .ok (more.map (fun t => { t with p := t.p + 1 }) ++ [⟨4, [41], 0, ((p + 1 + u.length : Nat) : Int)⟩, ⟨5, [], 0, ((p + 2 + u.length : Nat) : Int)⟩])
  | 0, u, p, l, h, _ => by omega
  | f + 1, [], p, l, _, h => by
    simp only [lexU] at h
    cases h
    refine ⟨[], by simp, ?_⟩
    have h0 : nextR [41] 0 41 = some (.word ⟨4, [41], 0, 0⟩ 1) := by rfl
    simp only [List.nil_append, lexU, h0]
    simp [lexU, Tk.at]
    omega
  | f + 1, c :: u, p, l, hf, h => by
    simp only [List.length_cons] at hf
    simp only [lexU] at h
    have hap := next_app c u
    simp only [List.cons_append] at hap
    cases hn : nextR (c :: u) 0 c with
    | none =>
      rw [hn] at h hap
      obtain ⟨more, e1, e2⟩ := lexU_app f u (p + 1) l (by omega) h
      refine ⟨more, by rw [e1]; simp; omega, ?_⟩
      simp only [List.cons_append]
      rw [lexU]
      simp only [hap]
      rw [e2]
      simp
      omega
    | some r =>
      rw [hn] at h hap
      cases r with
      | err e => cases h
      | word t to =>
        simp only at h
        obtain ⟨h3, h4⟩ := next_to hn
        split at h
        · rename_i l' hl'
          cases h
          have hlen : ((c :: u).drop to).length = u.length + 1 - to := by simp
          obtain ⟨more, e1, e2⟩ := lexU_app f _ (p + to) l' (by rw [hlen]; omega) hl'
          refine ⟨t.at p :: more, by rw [e1]; simp [hlen]; omega, ?_⟩
          simp only [List.cons_append]
          rw [lexU]
          simp only [hap]
          have ed : (c :: (u ++ [41])).drop to = (c :: u).drop to ++ [41] := by
            rw [show c :: (u ++ [41]) = (c :: u) ++ [41] from rfl, List.drop_append_of_le_length (by simpa using h4)]
          rw [ed, show p + 1 + to = p + to + 1 by omega, e2]
          simp [Tk.at, hlen]
          omega
        · cases h
/-- a text in parentheses -/
theorem lexAll_paren {s : List UInt8} {l : List Tk} (h : lexAll s = .ok l) (hl : s.length + 2 ≤ 4096) : ∃ more, l = more ++ [⟨5, [], 0, (s.length : Int)⟩] ∧
    lexAll (40 :: s ++ [41]) = .ok (⟨4, [40], 0, 0⟩ :: more.map (fun t => { t with p := t.p + 1 }) ++ [⟨4, [41], 0, ((1 + s.length : Nat) : Int)⟩, ⟨5, [], 0, ((2 + s.length : Nat) : Int)⟩]) := by
  rw [lexAll_U] at h
  rw [if_neg (by omega)] at h
  obtain ⟨more, e1, e2⟩ := lexU_app _ s 0 l (by omega) h
  refine ⟨more, by simpa using e1, ?_⟩
  rw [lexAll_U, if_neg (by simp; omega)]
  have hlen : (40 :: s ++ [41]).length + 1 = (s.length + 1 + 1) + 1 := by simp
  rw [hlen, List.cons_append, lexU, next_paren]
  simp only [List.drop_one, List.tail_cons, Nat.zero_add] at e2 ⊢
  rw [e2]
  simp [Tk.at]
end Go.Proofs.YtmhidempoabehaaGreatDoor.LX
