/- Joined: DpA, DpB, DpC, DpD, DpE, DpF, DpG, DpH, DpI. No condition beyond those of its lemmas. -/
import Derived.Test.YtemggoaefohliaaDoorLxA
/- The parser: its state; what stands here; is, need, take, fail, evaluated. No condition. -/
namespace Go.Proofs.YtemggoaefohliaaDoor.PS
set_option linter.unusedVariables false
set_option linter.unusedSimpArgs false
open Go AE EX PT NF LX
set_option maxRecDepth 100000

/-- the word that stands here -/
def hereT (l : List Tk) (p : Nat) : Tk :=
  match l[p]? with
  | some t => t
  | none => match l.getLast? with
    | some t => ⟨5, [], 0, t.p⟩
    | none => ⟨5, [], 0, 0⟩
def box (l : List Tk) (p d : Nat) : HBox := ⟨66, [.slice (tkL l) .non, .int .i64 p, .int .i64 d]⟩
/-- the parser's box stands at a -/
def PSt (H0 : List HBox) (T : List Nat) (a : Nat) (l : List Tk) (p d : Nat) : St := ⟨H0.set a (box l p d), T⟩
theorem PSt_get {H0 : List HBox} {a : Nat} (ha : a < H0.length) (T : List Nat) (l : List Tk) (p d : Nat) : (PSt H0 T a l p d).H[a]? = some ⟨66, [.slice (tkL l) .non, .int .i64 p, .int .i64 d]⟩ := by
  simp [PSt, ha, box]
theorem PSt_set {H0 : List HBox} {a : Nat} (T : List Nat) (l : List Tk) (p d q e : Nat) : (⟨(PSt H0 T a l p d).H.set a ⟨66, [.slice (tkL l) .non, .int .i64 q, .int .i64 e]⟩, (PSt H0 T a l p d).T⟩ : St) = PSt H0 T a l q e := by
  simp [PSt, box]
theorem PSt_fin {H0 : List HBox} {a : Nat} (T : List Nat) (l : List Tk) (p d q e : Nat) {v : AV} (h1 : v.sealed = true) (h2 : v.strip T.length = v) (h3 : v.low H0.length T.length = true) : finish (PSt H0 T a l p d) v (PSt H0 T a l q e) = some (v, PSt H0 T a l q e) :=
  finish_same h1 (by simpa [PSt] using h2) (by simpa [PSt] using h3) (by simp [PSt]) rfl

theorem sl_get (l : List Tk) (p : Nat) : (tkL l)[p]? = (l[p]?).map Tk.emb := by simp [tkL]
theorem tkcells (t : Tk) : t.emb.cells? = some t.cells := by simp [Tk.emb, Tk.cells, AV.cells?, AV.isCell]
theorem ia (l : List Tk) (k : Tok) (i : Nat) (t : Tk) (h : l[i]? = some t) : evIndexAddr Tryd.prog 39 (.slice (tkL l) k) (.int .i64 (i : Int)) = some (.ref t.cells) := by
  have hc := tkcells t
  have hi : (Tryd.prog.info? 46).isSome = true := ti46
  simp [evIndexAddr, ts39, nth, sl_get, h, hc, tc46, tk_len]
  exact Option.isSome_iff_ne_none.1 hi

theorem fin_tk (t : Tk) (S : St) : finish S t.emb S = some (t.emb, S) := finish_same rfl rfl rfl rfl rfl
theorem ev_here (n : Nat) (a : Nat) (S : St) (l : List Tk) (p d : Nat) (hS : S.H[a]? = some ⟨66, [.slice (tkL l) .non, .int .i64 p, .int .i64 d]⟩) (hl : l.length ≤ 2000000) :
    ev Tryd.prog E (n + 1) 57 [.ptr a 0] S = some (.ret (hereT l p).emb, S) := by
  have hlen := tkL_length l
  have hp1 : E.ps 57 1 = [(3, 7)] := rfl
  have hp2 : E.ps 57 2 = [(3, 7)] := rfl
  have hp4 : E.ps 57 4 = [(3, 7)] := rfl
  by_cases hp : p < l.length
  · have hpz : (p : Int) < l.length := by omega
    have hx : l[p]? = some l[p] := List.getElem?_eq_getElem hp
    have hia := ia l .non p _ hx
    have hh : hereT l p = l[p] := by simp [hereT, hx]
    rw [hh]
    have hf := fin_tk l[p] S
    generalize l[p] = t at *
    obtain ⟨k, ts, tn, tp⟩ := t
    simp only [Tk.emb, Tk.cells] at hf hia ⊢
    generalize hes : tkL l = es at *
    rw [ev_enter (n := n) (show E.ok 57 = true from rfl) Tryd.func57 (fn := Tryd.f57) rfl (Nat.le_of_ble_eq_true rfl) (by decide +kernel)]
    simp (disch := first | (simp only [List.length_append, List.length_cons, List.length_nil]; omega) | (simp; done) | assumption) [AV.cells?, AV.isCell, -evIndexAddr, Tryd.f57, E_esc, hS, hlen, tq66_0, tq66_1, tk66, k3, c3, a3, tk39, tc39, ta39, ts39, bq3, hp, hpz, hia, tc46, ta46, tk46, ti46, tz46, hp1, hp2, hf]
  · have hpz : ¬ (p : Int) < l.length := by omega
    have hn : l[p]? = none := List.getElem?_eq_none (by omega)
    cases hl0 : l.getLast? with
    | none =>
      have h0 : l = [] := by simpa using hl0
      subst h0
      have hh : hereT [] p = ⟨5, [], 0, 0⟩ := rfl
      rw [hh]
      have hf := fin_tk ⟨5, [], 0, 0⟩ S
      simp only [Tk.emb, Tk.cells] at hf ⊢
      simp only [tkL, List.map_nil] at hS
      rw [ev_enter (n := n) (show E.ok 57 = true from rfl) Tryd.func57 (fn := Tryd.f57) rfl (Nat.le_of_ble_eq_true rfl) (by decide +kernel)]
      have hbd : evBuild Tryd.prog 46 [(0, .int .i64 5)] = some (.agg [.int .i64 5, .str [], .int .i64 0, .int .i64 0]) := by
        simp [evBuild, tp46, tz46, fillA, tl46_0, AV.cells?, wrc]
      have hnp : ¬ (p : Int) < 0 := by omega
      simp (disch := first | (simp only [List.length_append, List.length_cons, List.length_nil]; omega) | (simp; done) | assumption) [AV.cells?, AV.isCell, -evIndexAddr, -evBuild, Tryd.f57, E_esc, hS, tq66_0, tq66_1, tk66, k3, c3, a3, tk39, tc39, ta39, ts39, bq3, hnp, tc46, ta46, tk46, ti46, tz46, hbd, hp1, hf]
    | some t =>
      have hpos : 0 < l.length := by
        cases l with
        | nil => simp at hl0
        | cons => simp
      have hposz : (0 : Int) < l.length := by omega
      have hx : l[l.length - 1]? = some t := by rw [← List.getLast?_eq_getElem?]; exact hl0
      have hia := ia l .non (l.length - 1) t hx
      have hw : IntKind.i64.wrap ((l.length : Int) - 1) = ((l.length - 1 : Nat) : Int) := by rw [wrap64 _ (by omega)]; omega
      have hh : hereT l p = ⟨5, [], 0, t.p⟩ := by simp [hereT, hn, hl0]
      rw [hh]
      have hf := fin_tk ⟨5, [], 0, t.p⟩ S
      obtain ⟨k, ts, tn, tp⟩ := t
      simp only [Tk.emb, Tk.cells] at hf hia ⊢
      have hbd : evBuild Tryd.prog 46 [(0, .int .i64 5), (3, .int .i64 tp)] = some (.agg [.int .i64 5, .str [], .int .i64 0, .int .i64 tp]) := by
        simp [evBuild, tp46, tz46, fillA, tl46_0, tl46_3, AV.cells?, wrc]
      generalize tkL l = es at *
      generalize l.length - 1 = lm at *
      generalize l.length = ll at *
      rw [ev_enter (n := n) (show E.ok 57 = true from rfl) Tryd.func57 (fn := Tryd.f57) rfl (Nat.le_of_ble_eq_true rfl) (by decide +kernel)]
      simp (disch := first | (simp only [List.length_append, List.length_cons, List.length_nil]; omega) | (simp; done) | assumption) [AV.cells?, AV.isCell, -evIndexAddr, -evBuild, Tryd.f57, E_esc, hS, hlen, tq66_0, tq66_1, tk66, k3, c3, a3, tk39, tc39, ta39, ts39, bq3, hp, hpz, hpos, hposz, hw, hia, tq46_3, tc46, ta46, tk46, ti46, tz46, hbd, hp1, hp4, hf]

/-! ### words of the grammar -/
def kindOf (q : List UInt8) : Int := match q with
  | c :: _ => if (97 ≤ c.toNat ∧ c.toNat ≤ 122) then 1 else 4
  | [] => 4
theorem ev_kind (n : Nat) (c : UInt8) (q : List UInt8) (S : St) : ev Tryd.prog E (n + 1) 58 [.str (c :: q)] S = some (.ret (.int .i64 (kindOf (c :: q))), S) := by
  have hidx : evIndex Tryd.prog 9 (.str (c :: q)) (.int .i64 0) = some (.int .u8 (c.toNat : Int)) := by simp [evIndex, sq9]
  have hk : kindOf (c :: q) = if (97 ≤ c.toNat ∧ c.toNat ≤ 122) then 1 else 4 := rfl
  rw [hk]
  generalize c :: q = w at *
  rw [ev_enter (n := n) (show E.ok 58 = true from rfl) Tryd.func58 (fn := Tryd.f58) rfl (Nat.le_of_ble_eq_true rfl) (by decide +kernel)]
  have hb5 : boolQ Tryd.prog 5 = false := by kernel_rfl
  by_cases h1 : 97 ≤ c.toNat
  · have h1z : (97 : Int) ≤ c.toNat := by omega
    by_cases h2 : c.toNat ≤ 122
    · have h2z : (c.toNat : Int) ≤ 122 := by omega
      rw [if_pos ⟨h1, h2⟩]
      simp (disch := first | (simp only [List.length_append, List.length_cons, List.length_nil]; omega) | (simp; done) | assumption) [AV.cells?, AV.isCell, -evIndex, Tryd.f58, E_esc, hidx, hb5, h1z, h2z, h1, h2]
    · have h2z : ¬ (c.toNat : Int) ≤ 122 := by omega
      rw [if_neg (fun h => h2 h.2)]
      simp (disch := first | (simp only [List.length_append, List.length_cons, List.length_nil]; omega) | (simp; done) | assumption) [AV.cells?, AV.isCell, -evIndex, Tryd.f58, E_esc, hidx, hb5, h1z, h2z, h1, h2]
  · have h1z : ¬ (97 : Int) ≤ c.toNat := by omega
    rw [if_neg (fun h => h1 h.1)]
    simp (disch := first | (simp only [List.length_append, List.length_cons, List.length_nil]; omega) | (simp; done) | assumption) [AV.cells?, AV.isCell, -evIndex, Tryd.f58, E_esc, hidx, hb5, h1z, h1]

/-- does this word of the grammar stand here? -/
def isB (h : Nat → Tk) (p : Nat) (q : List UInt8) : Bool := ((h p).k == kindOf q) && ((h p).s == q)

theorem here_lt {l : List Tk} {p : Nat} (h : (hereT l p).k ≠ 5) : p < l.length := by
  by_cases hp : p < l.length
  · exact hp
  · exfalso
    apply h
    have hn : l[p]? = none := List.getElem?_eq_none (by omega)
    simp only [hereT, hn]
    split <;> rfl
theorem kindOf_ne (q : List UInt8) : kindOf q ≠ 5 := by
  unfold kindOf; split
  · split <;> decide
  · decide
theorem is_lt {l : List Tk} {p : Nat} {q : List UInt8} (h : isB (hereT l) p q = true) : p < l.length := by
  simp only [isB, Bool.and_eq_true, beq_iff_eq] at h
  exact here_lt (by rw [h.1]; exact kindOf_ne q)

section
variable {H0 : List HBox} {a : Nat} (ha : a < H0.length) (T : List Nat) (l : List Tk) (hl : l.length ≤ 2000000)
include ha hl
theorem ev_hereP (n p d : Nat) : ev Tryd.prog E (n + 1) 57 [.ptr a 0] (PSt H0 T a l p d) = some (.ret (hereT l p).emb, PSt H0 T a l p d) := ev_here n a _ l p d (PSt_get ha T l p d) hl

theorem ev_is (n p d : Nat) (c : UInt8) (q : List UInt8) : ev Tryd.prog E (n + 2) 44 [.ptr a 0, .str (c :: q)] (PSt H0 T a l p d) = some (.ret (.bool (isB (hereT l) p (c :: q))), PSt H0 T a l (if isB (hereT l) p (c :: q) then p + 1 else p) d) := by
  have hh := ev_hereP ha T l hl n p d
  have hk := ev_kind n c q (PSt H0 T a l p d)
  have hps : E.ps 44 2 = [(1, 3)] := rfl
  have hg := PSt_get ha T l p d
  have hset := PSt_set (H0 := H0) (a := a) T l p d (p + 1) d
  have hf1 := PSt_fin (H0 := H0) (a := a) T l p d p d (v := .bool false) rfl rfl rfl
  have hf2 := PSt_fin (H0 := H0) (a := a) T l p d (p + 1) d (v := .bool true) rfl rfl rfl
  have hw : isB (hereT l) p (c :: q) = true → IntKind.i64.wrap ((p : Int) + 1) = ((p + 1 : Nat) : Int) := fun h => by have := is_lt h; rw [wrap64 _ (by omega)]; omega
  unfold isB at hw ⊢
  generalize hereT l p = t at *
  generalize c :: q = w at *
  generalize kindOf w = kw at *
  obtain ⟨k, ts, tn, tp⟩ := t
  simp only [Tk.emb, Tk.cells] at hh ⊢
  rw [show n + 2 = (n + 1) + 1 from rfl, ev_enter (n := n + 1) (show E.ok 44 = true from rfl) Tryd.func44 (fn := Tryd.f44) rfl (Nat.le_of_ble_eq_true rfl) (by decide +kernel)]
  by_cases h1 : k = kw
  · have h1b : (k == kw) = true := by simp [h1]
    by_cases h2 : ts = w
    · have h2b : (ts == w) = true := by simp [h2]
      simp only [h1b, h2b, Bool.and_self, if_true] at hw ⊢
      have hw := hw trivial
      generalize hL1 : PSt H0 T a l p d = L1 at *
      generalize hL2 : PSt H0 T a l (p + 1) d = L2 at *
      generalize p + 1 = P1 at *
      subst h1 h2
      simp (disch := first | (simp only [List.length_append, List.length_cons, List.length_nil]; omega) | (simp; done) | assumption) [AV.cells?, AV.isCell, Tryd.f44, E_esc, AV.sealed, AV.sealedL, hh, hk, hg, tz46, tq46_0, tq46_1, tc46, ta46, tk46, ti46, tq66_1, tk66, k3, c3, a3, i3, k9, a9, c9, bq3, bq9, hps, hw, hset, hf2]
    · have h2b : (ts == w) = false := by simp [h2]
      simp only [h1b, h2b, Bool.true_and, if_false, Bool.false_eq_true]
      generalize hL1 : PSt H0 T a l p d = L1 at *
      subst h1
      simp (disch := first | (simp only [List.length_append, List.length_cons, List.length_nil]; omega) | (simp; done) | assumption) [AV.cells?, AV.isCell, Tryd.f44, E_esc, hh, hk, hg, tz46, tq46_0, tq46_1, tc46, ta46, tk46, ti46, tq66_1, tk66, k3, c3, a3, i3, k9, a9, c9, bq3, bq9, hps, h2, h2b, hf1]
  · have h1b : (k == kw) = false := by simp [h1]
    simp only [h1b, Bool.false_and, if_false, Bool.false_eq_true]
    generalize hL1 : PSt H0 T a l p d = L1 at *
    simp (disch := first | (simp only [List.length_append, List.length_cons, List.length_nil]; omega) | (simp; done) | assumption) [AV.cells?, AV.isCell, Tryd.f44, E_esc, hh, hk, hg, tz46, tq46_0, tq46_1, tc46, ta46, tk46, ti46, tq66_1, tk66, k3, c3, a3, i3, k9, a9, c9, bq3, bq9, hps, h1, h1b, hf1]
end
end Go.Proofs.YtemggoaefohliaaDoor.PS

/- The parser: fail, need, take; expressions of it, evaluated. No condition. -/
namespace Go.Proofs.YtemggoaefohliaaDoor.PS
set_option linter.unusedVariables false
set_option linter.unusedSimpArgs false
open Go AE EX PT NF LX
set_option maxRecDepth 100000

def bothX (k : Int) (x y : X) : X := .mk k [] 0 0 0 true [x, y]
def oneX (k : Int) (x : X) : X := .mk k [] 0 0 0 true [x]
def leafX (k : Int) (s : List UInt8) (n hi : Int) : X := .mk k s n 0 hi true []

theorem fl0 : placeQ Tryd.prog 25 0 = some (0, 1) := by kernel_rfl
theorem fl1 : placeQ Tryd.prog 25 1 = some (1, 1) := by kernel_rfl
theorem fl2 : placeQ Tryd.prog 25 2 = some (2, 1) := by kernel_rfl
theorem fl5 : placeQ Tryd.prog 25 5 = some (5, 1) := by kernel_rfl
theorem p25 : partsQ Tryd.prog 25 = true := by kernel_rfl
theorem bX5 (k : Int) (es : List X) : evBuild Tryd.prog 25 [(0, .int .i64 k), (5, .slice (embL es) .clip)] = some (X.mk k [] 0 0 0 true es).emb := by
  simp [evBuild, p25, z24, fillA, fl0, fl5, AV.cells?, wrc, X.emb, tokOf]
theorem bX2 (k : Int) (n : Int) : evBuild Tryd.prog 25 [(0, .int .i64 k), (2, .int .i64 n)] = some (leafX k [] n 0).emb := by
  simp [evBuild, p25, z24, fillA, fl0, fl2, AV.cells?, wrc, X.emb, tokOf, leafX, embL]
theorem bX1 (k : Int) (s : List UInt8) : evBuild Tryd.prog 25 [(0, .int .i64 k), (1, .str s)] = some (leafX k s 0 0).emb := by
  simp [evBuild, p25, z24, fillA, fl0, fl1, AV.cells?, wrc, X.emb, tokOf, leafX, embL]
theorem bX0 (k : Int) : evBuild Tryd.prog 25 [(0, .int .i64 k)] = some (leafX k [] 0 0).emb := by
  simp [evBuild, p25, z24, fillA, fl0, AV.cells?, wrc, X.emb, tokOf, leafX, embL]
theorem bXz : evBuild Tryd.prog 25 [] = some (leafX 0 [] 0 0).emb := by
  simp [evBuild, p25, z24, fillA, AV.cells?, wrc, X.emb, tokOf, leafX, embL]
theorem xcells (x : X) : x.emb.cells? = some x.cells := (cells_ok x).1
theorem xlen (x : X) : x.cells.length = 6 := (cells_ok x).2
theorem xtake (x : X) : List.take 6 x.cells = x.cells := by rw [List.take_of_length_le (by rw [xlen]; omega)]
theorem xemb (x : X) : AV.agg x.cells = x.emb := (emb_cells x).symm
theorem xisC (x : X) : x.emb.isCell = false := by cases x; rfl
theorem bS2 (x y : X) : evBuildSlice Tryd.prog 23 2 [(0, x.emb), (1, y.emb)] = some (.slice (embL [x, y]) .clip) := by
  have hx := xcells x
  have hy := xcells y
  have lx := xlen x
  have ly := xlen y
  have ex := xemb x
  have ey := xemb y
  simp [evBuildSlice, sq22, z24, c24, a24, evElems, hx, hy, lx, ly, ex, ey, embL]
theorem bS1 (x : X) : evBuildSlice Tryd.prog 23 1 [(0, x.emb)] = some (.slice (embL [x]) .clip) := by
  have hx := xcells x
  have lx := xlen x
  have ex := xemb x
  simp [evBuildSlice, sq22, z24, c24, a24, evElems, hx, lx, ex, embL]
theorem fin_emb (x : X) (S : St) : finish S x.emb S = some (x.emb, S) := finish_same (sealed_emb x) (strip_emb _ x) (low_emb _ _ x) rfl rfl

theorem ev_truth (n : Nat) (v : Int) (S : St) : ev Tryd.prog E (n + 1) 76 [.int .i64 v] S = some (.ret (leafX 2 [] v 0).emb, S) := by
  have hb := bX2 2 v
  have hf := fin_emb (leafX 2 [] v 0) S
  have hc := xcells (leafX 2 [] v 0)
  have hl := xlen (leafX 2 [] v 0)
  have ht := xtake (leafX 2 [] v 0)
  have he := xemb (leafX 2 [] v 0)
  generalize leafX 2 [] v 0 = x at *
  generalize x.cells = xc at *
  rw [ev_enter (n := n) (show E.ok 76 = true from rfl) Tryd.func76 (fn := Tryd.f76) rfl (Nat.le_of_ble_eq_true rfl) (by decide +kernel)]
  simp (disch := first | (simp only [List.length_append, List.length_cons, List.length_nil]; omega) | (simp; done) | assumption) [AV.cells?, AV.isCell, -AV.cells?, cq_int, cq_str, cq_slice, -evBuild, Tryd.f76, E_esc, hb, hc, hl, ht, he, hf, c24, a24, k24, i24, z24]
theorem ev_both (n : Nat) (k : Int) (x y : X) (S : St) : ev Tryd.prog E (n + 1) 45 [.int .i64 k, x.emb, y.emb] S = some (.ret (bothX k x y).emb, S) := by
  have hb : evBuild Tryd.prog 25 [(0, .int .i64 k), (5, .slice (embL [x, y]) .clip)] = some (bothX k x y).emb := bX5 k [x, y]
  have hbs := bS2 x y
  have hf := fin_emb (bothX k x y) S
  have hcx := xcells x
  have hlx := xlen x
  have htx := xtake x
  have hex := xemb x
  have hcy := xcells y
  have hly := xlen y
  have hty := xtake y
  have hey := xemb y
  have hc := xcells (bothX k x y)
  have hl := xlen (bothX k x y)
  have ht := xtake (bothX k x y)
  have he := xemb (bothX k x y)
  generalize embL [x, y] = es at *
  generalize bothX k x y = z at *
  generalize x.cells = xc at *
  generalize y.cells = yc at *
  generalize z.cells = zc at *
  generalize x.emb = xe at *
  generalize y.emb = ye at *
  generalize z.emb = ze at *
  rw [ev_enter (n := n) (show E.ok 45 = true from rfl) Tryd.func45 (fn := Tryd.f45) rfl (Nat.le_of_ble_eq_true rfl) (by decide +kernel)]
  simp (disch := first | (simp only [List.length_append, List.length_cons, List.length_nil]; omega) | (simp; done) | assumption) [AV.cells?, AV.isCell, -AV.cells?, cq_int, cq_str, cq_slice, -evBuild, -evBuildSlice, Tryd.f45, E_esc, hb, hbs, hc, hl, ht, he, hcx, hlx, htx, hex, hcy, hly, hty, hey, hf, c24, a24, k24, i24, z24]
theorem ev_one1 (n : Nat) (k : Int) (x : X) (S : St) : ev Tryd.prog E (n + 1) 65 [.int .i64 k, x.emb] S = some (.ret (oneX k x).emb, S) := by
  have hb : evBuild Tryd.prog 25 [(0, .int .i64 k), (5, .slice (embL [x]) .clip)] = some (oneX k x).emb := bX5 k [x]
  have hbs := bS1 x
  have hf := fin_emb (oneX k x) S
  have hcx := xcells x
  have hlx := xlen x
  have htx := xtake x
  have hex := xemb x
  have hc := xcells (oneX k x)
  have hl := xlen (oneX k x)
  have ht := xtake (oneX k x)
  have he := xemb (oneX k x)
  generalize embL [x] = es at *
  generalize oneX k x = z at *
  generalize x.cells = xc at *
  generalize z.cells = zc at *
  generalize x.emb = xe at *
  generalize z.emb = ze at *
  rw [ev_enter (n := n) (show E.ok 65 = true from rfl) Tryd.func65 (fn := Tryd.f65) rfl (Nat.le_of_ble_eq_true rfl) (by decide +kernel)]
  simp (disch := first | (simp only [List.length_append, List.length_cons, List.length_nil]; omega) | (simp; done) | assumption) [AV.cells?, AV.isCell, -AV.cells?, cq_int, cq_str, cq_slice, -evBuild, -evBuildSlice, Tryd.f65, E_esc, hb, hbs, hc, hl, ht, he, hcx, hlx, htx, hex, hf, c24, a24, k24, i24, z24]

/-- what fail panics with -/
def stopV (h : Nat → Tk) (c : Int) (p : Nat) : AV := .iface 68 (.agg [.int .i64 c, .int .i64 (h p).p])
section
variable {H0 : List HBox} {a : Nat} (ha : a < H0.length) (T : List Nat) (l : List Tk) (hl : l.length ≤ 2000000)
include ha hl
theorem ev_fail (n p d : Nat) (c : Int) : ev Tryd.prog E (n + 2) 70 [.ptr a 0, .int .i64 c] (PSt H0 T a l p d) = some (.pan (stopV (hereT l) c p), PSt H0 T a l p d) := by
  have hh := ev_hereP ha T l hl n p d
  have hf := PSt_fin (H0 := H0) (a := a) T l p d p d (v := stopV (hereT l) c p) rfl rfl rfl
  simp only [stopV] at hf ⊢
  generalize hereT l p = t at *
  generalize PSt H0 T a l p d = L1 at *
  obtain ⟨k, ts, tn, tp⟩ := t
  simp only [Tk.emb, Tk.cells] at hh
  simp only at hf ⊢
  have hbd : evBuild Tryd.prog 68 [(0, .int .i64 c), (1, .int .i64 tp)] = some (.agg [.int .i64 c, .int .i64 tp]) := by
    simp [evBuild, tp68, tz68, fillA, tl68_0, tl68_1, AV.cells?, wrc]
  rw [show n + 2 = (n + 1) + 1 from rfl, ev_enter (n := n + 1) (show E.ok 70 = true from rfl) Tryd.func70 (fn := Tryd.f70) rfl (Nat.le_of_ble_eq_true rfl) (by decide +kernel)]
  simp (disch := first | (simp only [List.length_append, List.length_cons, List.length_nil]; omega) | (simp; done) | assumption) [AV.cells?, AV.isCell, -evBuild, Tryd.f70, E_esc, hh, hbd, tq46_3, tc46, ta46, tk46, finPan, tn68, hf]
theorem ev_needT (n p d : Nat) (c : UInt8) (q : List UInt8) (hb : isB (hereT l) p (c :: q) = true) : ev Tryd.prog E (n + 4) 75 [.ptr a 0, .str (c :: q)] (PSt H0 T a l p d) = some (.ret (.tup []), PSt H0 T a l (p + 1) d) := by
  have hi := ev_is ha T l hl (n + 1) p d c q
  have hf := PSt_fin (H0 := H0) (a := a) T l p d (p + 1) d (v := .tup []) rfl rfl rfl
  rw [hb] at hi
  simp only [if_true] at hi
  generalize c :: q = w at *
  generalize PSt H0 T a l (p + 1) d = L2 at *
  generalize PSt H0 T a l p d = L1 at *
  rw [show n + 4 = (n + 3) + 1 from rfl, ev_enter (n := n + 3) (show E.ok 75 = true from rfl) Tryd.func75 (fn := Tryd.f75) rfl (Nat.le_of_ble_eq_true rfl) (by decide +kernel)]
  simp (disch := first | (simp only [List.length_append, List.length_cons, List.length_nil]; omega) | (simp; done) | assumption) [AV.cells?, AV.isCell, Tryd.f75, E_esc, hi, hf]
theorem ev_needF (n p d : Nat) (c : UInt8) (q : List UInt8) (hb : isB (hereT l) p (c :: q) = false) : ev Tryd.prog E (n + 4) 75 [.ptr a 0, .str (c :: q)] (PSt H0 T a l p d) = some (.pan (stopV (hereT l) 16 p), PSt H0 T a l p d) := by
  have hi := ev_is ha T l hl (n + 1) p d c q
  have hfl := ev_fail ha T l hl (n + 1) p d 16
  have hf := PSt_fin (H0 := H0) (a := a) T l p d p d (v := stopV (hereT l) 16 p) rfl rfl rfl
  rw [hb] at hi
  simp only [if_false, Bool.false_eq_true] at hi
  generalize c :: q = w at *
  generalize stopV (hereT l) 16 p = sv at *
  generalize PSt H0 T a l p d = L1 at *
  rw [show n + 4 = (n + 3) + 1 from rfl, ev_enter (n := n + 3) (show E.ok 75 = true from rfl) Tryd.func75 (fn := Tryd.f75) rfl (Nat.le_of_ble_eq_true rfl) (by decide +kernel)]
  simp (disch := first | (simp only [List.length_append, List.length_cons, List.length_nil]; omega) | (simp; done) | assumption) [AV.cells?, AV.isCell, Tryd.f75, E_esc, hi, hfl, finPan, hf]
theorem ev_takeT (n p d : Nat) (k : Int) (hk : k ≠ 5) (hb : (hereT l p).k = k) : ev Tryd.prog E (n + 3) 81 [.ptr a 0, .int .i64 k] (PSt H0 T a l p d) = some (.ret (hereT l p).emb, PSt H0 T a l (p + 1) d) := by
  have hh := ev_hereP ha T l hl (n + 1) p d
  have hg := PSt_get ha T l p d
  have hset := PSt_set (H0 := H0) (a := a) T l p d (p + 1) d
  have hf := PSt_fin (H0 := H0) (a := a) T l p d (p + 1) d (v := (hereT l p).emb) rfl rfl rfl
  have hplt : p < l.length := here_lt (by rw [hb]; exact hk)
  have hw : IntKind.i64.wrap ((p : Int) + 1) = ((p + 1 : Nat) : Int) := by rw [wrap64 _ (by omega)]; omega
  generalize hereT l p = t at *
  obtain ⟨kk, ts, tn, tp⟩ := t
  simp only at hb
  subst hb
  simp only [Tk.emb, Tk.cells] at hh hf ⊢
  generalize PSt H0 T a l (p + 1) d = L2 at *
  generalize PSt H0 T a l p d = L1 at *
  generalize p + 1 = P1 at *
  generalize tkL l = es at *
  rw [show n + 3 = (n + 2) + 1 from rfl, ev_enter (n := n + 2) (show E.ok 81 = true from rfl) Tryd.func81 (fn := Tryd.f81) rfl (Nat.le_of_ble_eq_true rfl) (by decide +kernel)]
  simp (disch := first | (simp only [List.length_append, List.length_cons, List.length_nil]; omega) | (simp; done) | assumption) [AV.cells?, AV.isCell, Tryd.f81, E_esc, AV.sealed, AV.sealedL, hh, hg, tz46, tq46_0, tq46_1, tc46, ta46, tk46, ti46, tq66_1, tk66, k3, c3, a3, i3, bq3, hw, hset, hf]
theorem ev_takeF (n p d : Nat) (k : Int) (hb : (hereT l p).k ≠ k) : ev Tryd.prog E (n + 3) 81 [.ptr a 0, .int .i64 k] (PSt H0 T a l p d) = some (.pan (stopV (hereT l) 16 p), PSt H0 T a l p d) := by
  have hh := ev_hereP ha T l hl (n + 1) p d
  have hfl := ev_fail ha T l hl n p d 16
  have hf := PSt_fin (H0 := H0) (a := a) T l p d p d (v := stopV (hereT l) 16 p) rfl rfl rfl
  generalize stopV (hereT l) 16 p = sv at *
  generalize hereT l p = t at *
  obtain ⟨kk, ts, tn, tp⟩ := t
  simp only at hb
  simp only [Tk.emb, Tk.cells] at hh ⊢
  generalize PSt H0 T a l p d = L1 at *
  rw [show n + 3 = (n + 2) + 1 from rfl, ev_enter (n := n + 2) (show E.ok 81 = true from rfl) Tryd.func81 (fn := Tryd.f81) rfl (Nat.le_of_ble_eq_true rfl) (by decide +kernel)]
  simp (disch := first | (simp only [List.length_append, List.length_cons, List.length_nil]; omega) | (simp; done) | assumption) [AV.cells?, AV.isCell, Tryd.f81, E_esc, hh, hb, hfl, tz46, tq46_0, tc46, ta46, tk46, ti46, k3, c3, a3, bq3, finPan, hf]
end
end Go.Proofs.YtemggoaefohliaaDoor.PS

/- The parser as plain functions over the words. No condition. -/
namespace Go.Proofs.YtemggoaefohliaaDoor.PS
set_option linter.unusedVariables false
set_option linter.unusedSimpArgs false
open Go AE EX PT NF LX
set_option maxRecDepth 100000

/-- an error's code and where it stood; or a value and the place behind it -/
abbrev PR (α : Type) := Except (Int × Nat) (α × Nat)
def PR.th {α β : Type} (x : PR α) (f : α → Nat → PR β) : PR β :=
  match x with
  | .ok (v, q) => f v q
  | .error e => .error e
theorem th_ok {α β : Type} (v : α) (q : Nat) (f : α → Nat → PR β) : PR.th (.ok (v, q)) f = f v q := rfl
theorem th_err {α β : Type} (e : Int × Nat) (f : α → Nat → PR β) : PR.th (.error e) f = .error e := rfl

section
variable (h : Nat → Tk)
def needP (q : List UInt8) (p : Nat) : PR Unit := if isB h p q = true then .ok ((), p + 1) else .error (16, p)
def takeP (k : Int) (p : Nat) : PR Tk := if (h p).k = k then .ok (h p, p + 1) else .error (16, p)
/-- which of the signs stands here? -/
def opAt (p : Nat) : List (List UInt8 × Int) → Option Int
  | [] => none
  | (q, k) :: r => if isB h p q = true then some k else opAt p r
def loopF (ops : List (List UInt8 × Int)) (sub : Nat → PR X) : Nat → X → Nat → PR X
  | 0, e, p => .error (0, p)
  | f + 1, e, p => match opAt h p ops with
    | none => .ok (e, p)
    | some k => (sub (p + 1)).th fun x r => loopF ops sub f (bothX k e x) r
def chainP (F : Nat) (ops : List (List UInt8 × Int)) (sub : Nat → PR X) (p : Nat) : PR X := (sub p).th fun e r => loopF h ops sub F e r
def relP (sub : Nat → PR X) (p : Nat) : PR X := (sub p).th fun e r =>
  if isB h r [61] = true then (sub (r + 1)).th fun x q => .ok (bothX 14 e x, q)
  else if isB h r [33, 61] = true then (sub (r + 1)).th fun x q => .ok (oneX 18 (bothX 14 e x), q)
  else if isB h r [60] = true then (sub (r + 1)).th fun x q => .ok (bothX 15 e x, q)
  else if isB h r [60, 61] = true then (sub (r + 1)).th fun x q => .ok (bothX 16 e x, q)
  else if isB h r [105, 110] = true then (sub (r + 1)).th fun x q => .ok (bothX 17 e x, q)
  else .ok (e, r)
def prodP (F : Nat) (one : Nat → PR X) : Nat → PR X := chainP h F [([42], 10)] one
def sumP (F : Nat) (one : Nat → PR X) : Nat → PR X := chainP h F [([43], 8), ([45], 9)] (prodP h F one)
def allP (F : Nat) (one : Nat → PR X) : Nat → PR X := chainP h F [([97, 110, 100], 19)] (relP h (sumP h F one))
def anyP (F : Nat) (one : Nat → PR X) : Nat → PR X := chainP h F [([111, 114], 20)] (allP h F one)
/-- the last text of a set so far -/
def lastS (ks : List X) : List UInt8 := match ks.getLast? with
  | some (.mk _ s _ _ _ _ _) => s
  | none => []
def setBad (ks : List X) (s : List UInt8) : Bool := (ks.length == 8) || (decide (0 < ks.length) && (Op.bytesLess s (lastS ks) || s == lastS ks))
def setX (ks : List X) : X := .mk 4 [] 0 0 0 false ks
def setF : Nat → List X → Nat → PR X
  | 0, ks, p => .error (0, p)
  | f + 1, ks, p => (takeP h 3 p).th fun t r =>
    if setBad ks t.s = true then .error (16, r)
    else if isB h r [125] = true then .ok (setX (ks ++ [leafX 3 t.s 0 0]), r + 1)
    else (needP h [44] r).th fun _ q => setF f (ks ++ [leafX 3 t.s 0 0]) q
def setP (F : Nat) (p : Nat) : PR X := if isB h p [125] = true then .ok (leafX 4 [] 0 0, p + 1) else setF h F [] p
def argP (any : Nat → PR X) (p : Nat) : PR X := (needP h [40] p).th fun _ q => (any q).th fun e r => (needP h [41] r).th fun _ t => .ok (e, t)
def signedP (F : Nat) (one any : Nat → PR X) (p : Nat) : PR X :=
  if isB h p [45] = true then (one (p + 1)).th fun x r => .ok (oneX 11 x, r)
  else if isB h p [123] = true then setP h F (p + 1)
  else argP h any p
def attrP (side : Int) (p : Nat) : PR X := (needP h [46] p).th fun _ q => (takeP h 1 q).th fun t r => .ok (leafX side t.s 0 0, r)
def timesP (p : Nat) : PR X := (needP h [40] p).th fun _ q => (takeP h 1 q).th fun t r => (needP h [44] r).th fun _ r2 => (takeP h 2 r2).th fun u r3 => (needP h [41] r3).th fun _ r4 => .ok (leafX 13 t.s 0 u.n, r4)
def actP (p : Nat) : PR X := (needP h [40] p).th fun _ q => (takeP h 1 q).th fun t r => (needP h [41] r).th fun _ r4 => .ok (leafX 21 t.s 0 0, r4)
def spanP (p : Nat) : PR (Int × Int) := (needP h [91] p).th fun _ q => (takeP h 2 q).th fun t r => (needP h [44] r).th fun _ r2 =>
  if isB h r2 [42] = true then (needP h [93] (r2 + 1)).th fun _ r4 => .ok ((t.n, -1), r4)
  else (takeP h 2 r2).th fun u r3 => if u.n < t.n then .error (16, r3) else (needP h [93] r3).th fun _ r4 => .ok ((t.n, u.n), r4)
def lookP (k : Int) (any : Nat → PR X) (p : Nat) : PR X := (spanP h p).th fun lh r => (argP h any r).th fun e q => .ok (.mk k [] 0 lh.1 lh.2 true [e], q)
def sinceP (any : Nat → PR X) (p : Nat) : PR X := (spanP h p).th fun lh r => (needP h [40] r).th fun _ r2 => (any r2).th fun x r3 => (needP h [44] r3).th fun _ r4 => (any r4).th fun y r5 => (needP h [41] r5).th fun _ r6 => .ok (.mk 24 [] 0 lh.1 lh.2 true [x, y], r6)
def timedP (any : Nat → PR X) (p : Nat) : PR X :=
  if isB h p [111, 110, 99, 101] = true then lookP h 22 any (p + 1)
  else if isB h p [104, 105, 115, 116] = true then lookP h 23 any (p + 1)
  else if isB h p [115, 105, 110, 99, 101] = true then sinceP h any (p + 1)
  else .error (16, p)
def namedP (one any : Nat → PR X) (p : Nat) : PR X :=
  if isB h p [116, 114, 117, 101] = true then .ok (leafX 2 [] 1 0, p + 1)
  else if isB h p [102, 97, 108, 115, 101] = true then .ok (leafX 2 [] 0 0, p + 1)
  else if isB h p [110, 111, 119] = true then .ok (leafX 7 [] 0 0, p + 1)
  else if isB h p [110, 111, 116] = true then (one (p + 1)).th fun x r => .ok (oneX 18 x, r)
  else if isB h p [115] = true then attrP h 5 (p + 1)
  else if isB h p [111] = true then attrP h 6 (p + 1)
  else if isB h p [97, 99, 116] = true then actP h (p + 1)
  else if isB h p [116, 105, 109, 101, 115] = true then timesP h (p + 1)
  else if isB h p [108, 101, 110] = true then (argP h any (p + 1)).th fun x r => .ok (oneX 12 x, r)
  else if isB h p [112, 114, 101, 118] = true then (argP h any (p + 1)).th fun x r => .ok (oneX 25 x, r)
  else timedP h any p
/-- one expression that stands by itself, by how many levels there still are -/
def oneF (F : Nat) : Nat → Nat → PR X
  | 0, p => .error (32, p)
  | k + 1, p =>
    if (h p).k = 2 then .ok (leafX 1 [] (h p).n 0, p + 1)
    else if (h p).k = 3 then .ok (leafX 3 (h p).s 0 0, p + 1)
    else if (h p).k = 4 then signedP h F (oneF F k) (anyP h F (oneF F k)) p
    else if (h p).k = 1 then namedP h (oneF F k) (anyP h F (oneF F k)) p
    else .error (16, p)
end

/-! ### the place does not go back -/
def Mono {α : Type} (sub : Nat → PR α) : Prop := ∀ p x r, sub p = .ok (x, r) → p ≤ r
theorem th_split {α β : Type} {x : PR α} {f : α → Nat → PR β} {b : β × Nat} (h : PR.th x f = .ok b) : ∃ v q, x = .ok (v, q) ∧ f v q = .ok b := by
  match x, h with
  | .ok (v, q), h => exact ⟨v, q, rfl, h⟩
  | .error e, h => cases h
section
variable {h : Nat → Tk}
theorem mono_need (q : List UInt8) : Mono (needP h q) := by
  intro p x r hh
  unfold needP at hh
  split at hh <;> cases hh
  omega
theorem mono_take (k : Int) : Mono (takeP h k) := by
  intro p x r hh
  unfold takeP at hh
  split at hh <;> cases hh
  omega
theorem mono_loop {ops : List (List UInt8 × Int)} {sub : Nat → PR X} (hs : Mono sub) : ∀ f e, Mono (loopF h ops sub f e)
  | 0, e => by intro p x r hh; cases hh
  | f + 1, e => by
    intro p x r hh
    rw [loopF] at hh
    split at hh
    · cases hh; omega
    · obtain ⟨v, q, h1, h2⟩ := th_split hh
      have := hs _ _ _ h1
      have := mono_loop hs f _ _ _ _ h2
      omega
theorem mono_chain {ops : List (List UInt8 × Int)} {sub : Nat → PR X} (hs : Mono sub) (F : Nat) : Mono (chainP h F ops sub) := by
  intro p x r hh
  obtain ⟨v, q, h1, h2⟩ := th_split hh
  have := hs _ _ _ h1
  have := mono_loop hs F _ _ _ _ h2
  omega
theorem mono_th2 {α β : Type} {sub : Nat → PR α} (hs : Mono sub) {g : α → Nat → β} {p : Nat} {x : β} {r : Nat} (hh : (sub p).th (fun x q => .ok (g x q, q)) = .ok (x, r)) : p ≤ r := by
  obtain ⟨v, q, h1, h2⟩ := th_split hh
  cases h2
  exact hs _ _ _ h1
theorem mono_rel {sub : Nat → PR X} (hs : Mono sub) : Mono (relP h sub) := by
  intro p x r hh
  obtain ⟨v, q, h1, h2⟩ := th_split hh
  have h3 := hs _ _ _ h1
  have key : ∀ {g : X → Nat → X}, (sub (q + 1)).th (fun x q => .ok (g x q, q)) = .ok (x, r) → p ≤ r := fun hh => by
    have := mono_th2 hs hh
    omega
  split at h2
  · exact key h2
  · split at h2
    · exact key h2
    · split at h2
      · exact key h2
      · split at h2
        · exact key h2
        · split at h2
          · exact key h2
          · cases h2; omega
theorem mono_arg {any : Nat → PR X} (hs : Mono any) : Mono (argP h any) := by
  intro p x r hh
  obtain ⟨v, q, h1, h2⟩ := th_split hh
  obtain ⟨v2, q2, h3, h4⟩ := th_split h2
  obtain ⟨v3, q3, h5, h6⟩ := th_split h4
  have := mono_need _ _ _ _ h1
  have := hs _ _ _ h3
  have := mono_need _ _ _ _ h5
  cases h6
  omega
theorem mono_setF : ∀ f ks, Mono (setF h f ks)
  | 0, ks => by intro p x r hh; cases hh
  | f + 1, ks => by
    intro p x r hh
    rw [setF] at hh
    obtain ⟨v, q, h1, h2⟩ := th_split hh
    have := mono_take _ _ _ _ h1
    split at h2
    · cases h2
    · split at h2
      · cases h2; omega
      · obtain ⟨v2, q2, h3, h4⟩ := th_split h2
        have := mono_need _ _ _ _ h3
        have := mono_setF f _ _ _ _ h4
        omega
theorem mono_signed {F : Nat} {one any : Nat → PR X} (h1 : Mono one) (h2 : Mono any) : Mono (signedP h F one any) := by
  intro p x r hh
  unfold signedP at hh
  split at hh
  · have := mono_th2 h1 hh; omega
  · split at hh
    · unfold setP at hh
      split at hh
      · cases hh; omega
      · have := mono_setF _ _ _ _ _ hh; omega
    · exact mono_arg h2 _ _ _ hh
theorem mono_attr (side : Int) : Mono (attrP h side) := by
  intro p x r hh
  obtain ⟨v, q, h1, h2⟩ := th_split hh
  have := mono_need _ _ _ _ h1
  have := mono_th2 (mono_take _) h2
  omega
theorem mono_act : Mono (actP h) := by
  intro p x r hh
  obtain ⟨v, q, h1, h2⟩ := th_split hh
  obtain ⟨v2, q2, h3, h4⟩ := th_split h2
  have := mono_need _ _ _ _ h1
  have := mono_take _ _ _ _ h3
  have := mono_th2 (mono_need _) h4
  omega
theorem mono_times : Mono (timesP h) := by
  intro p x r hh
  obtain ⟨v, q, h1, h2⟩ := th_split hh
  obtain ⟨v2, q2, h3, h4⟩ := th_split h2
  obtain ⟨v3, q3, h5, h6⟩ := th_split h4
  obtain ⟨v4, q4, h7, h8⟩ := th_split h6
  have := mono_need _ _ _ _ h1
  have := mono_take _ _ _ _ h3
  have := mono_need _ _ _ _ h5
  have := mono_take _ _ _ _ h7
  have := mono_th2 (mono_need _) h8
  omega
theorem mono_span : Mono (spanP h) := by
  intro p x r hh
  obtain ⟨v, q, h1, h2⟩ := th_split hh
  obtain ⟨v2, q2, h3, h4⟩ := th_split h2
  obtain ⟨v3, q3, h5, h6⟩ := th_split h4
  have := mono_need _ _ _ _ h1
  have := mono_take _ _ _ _ h3
  have := mono_need _ _ _ _ h5
  split at h6
  · have := mono_th2 (mono_need _) h6
    omega
  · obtain ⟨v4, q4, h7, h8⟩ := th_split h6
    have := mono_take _ _ _ _ h7
    split at h8
    · cases h8
    · have := mono_th2 (mono_need _) h8
      omega
theorem mono_look {any : Nat → PR X} (hs : Mono any) (k : Int) : Mono (lookP h k any) := by
  intro p x r hh
  obtain ⟨v, q, h1, h2⟩ := th_split hh
  have := mono_span _ _ _ h1
  have := mono_th2 (mono_arg hs) h2
  omega
theorem mono_since {any : Nat → PR X} (hs : Mono any) : Mono (sinceP h any) := by
  intro p x r hh
  obtain ⟨v, q, h1, h2⟩ := th_split hh
  obtain ⟨v2, q2, h3, h4⟩ := th_split h2
  obtain ⟨v3, q3, h5, h6⟩ := th_split h4
  obtain ⟨v4, q4, h7, h8⟩ := th_split h6
  obtain ⟨v5, q5, h9, h10⟩ := th_split h8
  have := mono_span _ _ _ h1
  have := mono_need _ _ _ _ h3
  have := hs _ _ _ h5
  have := mono_need _ _ _ _ h7
  have := hs _ _ _ h9
  have := mono_th2 (mono_need _) h10
  omega
theorem mono_timed {any : Nat → PR X} (hs : Mono any) : Mono (timedP h any) := by
  intro p x r hh
  unfold timedP at hh
  split at hh
  · have := mono_look hs _ _ _ _ hh; omega
  · split at hh
    · have := mono_look hs _ _ _ _ hh; omega
    · split at hh
      · have := mono_since hs _ _ _ hh; omega
      · cases hh
theorem mono_named {one any : Nat → PR X} (h1 : Mono one) (h2 : Mono any) : Mono (namedP h one any) := by
  intro p x r hh
  unfold namedP at hh
  split at hh
  · cases hh; omega
  · split at hh
    · cases hh; omega
    · split at hh
      · cases hh; omega
      · split at hh
        · have := mono_th2 h1 hh; omega
        · split at hh
          · have := mono_attr _ _ _ _ hh; omega
          · split at hh
            · have := mono_attr _ _ _ _ hh; omega
            · split at hh
              · have := mono_act _ _ _ hh; omega
              · split at hh
                · have := mono_times _ _ _ hh; omega
                · split at hh
                  · have := mono_th2 (mono_arg h2) hh; omega
                  · split at hh
                    · have := mono_th2 (mono_arg h2) hh; omega
                    · exact mono_timed h2 _ _ _ hh
theorem mono_any {F : Nat} {one : Nat → PR X} (h1 : Mono one) : Mono (prodP h F one) ∧ Mono (sumP h F one) ∧ Mono (allP h F one) ∧ Mono (anyP h F one) := by
  have a1 : Mono (prodP h F one) := mono_chain h1 F
  have a2 : Mono (sumP h F one) := mono_chain a1 F
  have a3 : Mono (allP h F one) := mono_chain (mono_rel a2) F
  exact ⟨a1, a2, a3, mono_chain a3 F⟩
theorem mono_one (F : Nat) : ∀ k, Mono (oneF h F k)
  | 0 => by intro p x r hh; cases hh
  | k + 1 => by
    intro p x r hh
    have ih := mono_one F k
    rw [oneF] at hh
    split at hh
    · cases hh; omega
    · split at hh
      · cases hh; omega
      · split at hh
        · exact mono_signed ih (mono_any ih).2.2.2 _ _ _ hh
        · split at hh
          · exact mono_named ih (mono_any ih).2.2.2 _ _ _ hh
          · cases hh
end
end Go.Proofs.YtemggoaefohliaaDoor.PS

/- The parser: any, all, prod, evaluated (printed by gendp.py). No condition. -/
namespace Go.Proofs.YtemggoaefohliaaDoor.PS
set_option linter.unusedVariables false
set_option linter.unusedSimpArgs false
open Go AE EX PT NF LX
set_option maxRecDepth 100000

def ansX (H0 : List HBox) (T : List Nat) (a : Nat) (l : List Tk) (d : Nat) : PR X → Option (Res × St)
  | .ok (x, q) => some (.ret x.emb, PSt H0 T a l q d)
  | .error (c, q) => some (.pan (stopV (hereT l) c q), PSt H0 T a l q d)
/-- the function f answers as sub says -/
def Sub (H0 : List HBox) (T : List Nat) (a : Nat) (l : List Tk) (d n f : Nat) (sub : Nat → PR X) : Prop := ∀ p, ev Tryd.prog E n f [.ptr a 0] (PSt H0 T a l p d) = ansX H0 T a l d (sub p)
theorem ansX_ok (H0 : List HBox) (T : List Nat) (a : Nat) (l : List Tk) (d : Nat) (x : X) (q : Nat) : ansX H0 T a l d (.ok (x, q)) = some (.ret x.emb, PSt H0 T a l q d) := rfl
theorem ansX_err (H0 : List HBox) (T : List Nat) (a : Nat) (l : List Tk) (d : Nat) (c : Int) (q : Nat) : ansX H0 T a l d (.error (c, q)) = some (.pan (stopV (hereT l) c q), PSt H0 T a l q d) := rfl
def z6 : List AV := [.int .i64 0, .str [], .int .i64 0, .int .i64 0, .int .i64 0, .slice [] .clip]
theorem z6_len : z6.length = 6 := rfl
theorem z6_take : List.take 6 z6 = z6 := rfl
theorem z24' : zeroQ Tryd.prog 25 = some z6 := z24
theorem fin_X (H0 : List HBox) (T : List Nat) (a : Nat) (l : List Tk) (p d q : Nat) (x : X) : finish (PSt H0 T a l p d) x.emb (PSt H0 T a l q d) = some (x.emb, PSt H0 T a l q d) :=
  PSt_fin T l p d q d (sealed_emb x) (strip_emb _ x) (low_emb _ _ x)
theorem fin_stop (H0 : List HBox) (T : List Nat) (a : Nat) (l : List Tk) (p d q : Nat) (c : Int) (z : Nat) : finish (PSt H0 T a l p d) (stopV (hereT l) c z) (PSt H0 T a l q d) = some (stopV (hereT l) c z, PSt H0 T a l q d) :=
  PSt_fin T l p d q d rfl rfl rfl

def CHI (H0 : List HBox) (T : List Nat) (a : Nat) (l : List Tk) (d n : Nat) (ops : List (List UInt8 × Int)) (sub : Nat → PR X) (R : PR X) (m : Nat) (fs : FS) : Prop :=
  ∃ e r f, m = l.length - r ∧ fs.t 0 = .ptr a 0 ∧ fs.t 2 = .loc n 2 1 0 ∧ fs.t 3 = .loc n 3 4 0 ∧ fs.b 2 = (1, z6) ∧ fs.b 3 = (4, e.cells) ∧ fs.S = PSt H0 T a l r d ∧ m < f ∧ loopF (hereT l) ops sub f e r = R
def CHQ (H0 : List HBox) (T : List Nat) (a : Nat) (l : List Tk) (d n : Nat) (R : PR X) (r : Out × FS) : Prop :=
  (r.1 = .exit 0 ∧ ∃ e q, r.2.t 2 = .loc n 2 1 0 ∧ r.2.t 3 = .loc n 3 4 0 ∧ r.2.b 2 = (1, z6) ∧ r.2.b 3 = (4, X.cells e) ∧ r.2.S = PSt H0 T a l q d ∧ R = .ok (e, q)) ∨
  (∃ c q, r.1 = .pan (stopV (hereT l) c q) ∧ r.2.S = PSt H0 T a l q d ∧ R = .error (c, q))

noncomputable def lp68 : Code := cutC (bodyOf Tryd.f68) [1, 1, 0, 0, 0]
noncomputable def l068 : Code := cutC (bodyOf Tryd.f68) [0]
noncomputable def l168 : Code := cutC (bodyOf Tryd.f68) [1, 0]
noncomputable def l268 : Code := cutC (bodyOf Tryd.f68) [1, 1, 1]
theorem fb68 : Tryd.f68.body = some (.seq l068 (.seq l168 (.seq (.block 0 (.loop lp68)) l268))) := rfl
section
variable {H0 : List HBox} {a : Nat} (ha : a < H0.length) (T : List Nat) (l : List Tk) (hl : l.length ≤ 2000000)
include ha hl
set_option maxHeartbeats 2000000 in
theorem rd68 (n d : Nat) (sub : Nat → PR X) (hs : Sub H0 T a l d (n + 2) 69 sub) (hm : Mono sub) (R : PR X) (m : Nat) (fs : FS) (h : CHI H0 T a l d (n + 2) [([42], 10)] sub R m fs) :
    ∃ o fs', evCode ⟨Tryd.prog, E.esc 68, n + 2⟩ (ev Tryd.prog E (n + 2)) (E.ps 68) (n + 2) lp68 fs = some (o, fs') ∧ ((o = .norm ∧ ∃ m', m' < m ∧ CHI H0 T a l d (n + 2) [([42], 10)] sub R m' fs') ∨ (o ≠ .norm ∧ CHQ H0 T a l d (n + 2) R (o, fs'))) := by
  obtain ⟨t, b, c, S⟩ := fs
  obtain ⟨e, r, f, hmr, h0, h2, h3, hb2, hb3, hS, hmf, hR⟩ := h
  simp only at h0 h2 h3 hb2 hb3 hS
  subst hS
  obtain ⟨f, rfl⟩ : ∃ g, f = g + 1 := ⟨f - 1, by omega⟩
  have hi : ev Tryd.prog E (n + 2) 44 [.ptr a 0, .str [42]] (PSt H0 T a l r d) = _ := ev_is ha T l hl n r d _ _
  rw [loopF, opAt, opAt] at hR
  cases hB : isB (hereT l) r [42]
  · rw [hB] at hi hR
    simp only [Bool.false_eq_true, if_false] at hi hR
    refine ⟨.exit 0, ?_⟩
    generalize hL1 : PSt H0 T a l r d = L1 at *
    refine ⟨_, by
      simp (disch := first | (simp only [List.length_append, List.length_cons, List.length_nil]; omega) | (simp; done) | assumption) [AV.cells?, AV.isCell, lp68, cutC, bodyOf, Tryd.f68, E_esc, h0, hi]
      rfl, .inr ⟨by simp, .inl ⟨rfl, e, r, by simp [upd, putA, h2], by simp [upd, putA, h3], hb2, hb3, hL1.symm, hR.symm⟩⟩⟩
  · have hlt := is_lt hB
    rw [hB] at hi hR
    simp only [if_true] at hi hR
    have hsub := hs (r + 1)
    have hcx := xcells e
    have hlx := xlen e
    have htx := xtake e
    have hex := xemb e
    have hps : E.ps 68 3 = [(0, 2), (2, 2)] := rfl
    cases hq : sub (r + 1) with
    | error z =>
      obtain ⟨c', q⟩ := z
      rw [hq] at hsub hR
      rw [ansX_err] at hsub
      rw [th_err] at hR
      generalize hL3 : PSt H0 T a l q d = L3 at *
      generalize hL2 : PSt H0 T a l (r + 1) d = L2 at *
      generalize hL1 : PSt H0 T a l r d = L1 at *
      generalize e.cells = ec at *
      generalize hsv : stopV (hereT l) c' q = sv at *
      refine ⟨.pan sv, _, by
        simp (disch := first | (simp only [List.length_append, List.length_cons, List.length_nil]; omega) | (simp; done) | assumption) [AV.cells?, AV.isCell, -AV.cells?, lp68, cutC, bodyOf, Tryd.f68, E_esc, h0, h3, hb3, hi, hsub, hlx, htx, hex, c24, a24, k24, i24, hps]
        rfl, .inr ⟨by simp, .inr ⟨c', q, by rw [hsv], hL3.symm, hR.symm⟩⟩⟩
    | ok z =>
      obtain ⟨x, q⟩ := z
      have hmono := hm _ _ _ hq
      rw [hq] at hsub hR
      rw [ansX_ok] at hsub
      rw [th_ok] at hR
      have hbo := ev_both (n + 1) 10 e x (PSt H0 T a l q d)
      have hcz := xcells (bothX 10 e x)
      have hlz := xlen (bothX 10 e x)
      refine ⟨.norm, ?_⟩
      generalize hL3 : PSt H0 T a l q d = L3 at *
      generalize hL2 : PSt H0 T a l (r + 1) d = L2 at *
      generalize hL1 : PSt H0 T a l r d = L1 at *
      generalize e.cells = ec at *
      generalize e.emb = ee at *
      generalize x.emb = xe at *
      generalize hzc : (bothX 10 e x).cells = zc at *
      generalize (bothX 10 e x).emb = ze at *
      refine ⟨_, by
        simp (disch := first | (simp only [List.length_append, List.length_cons, List.length_nil]; omega) | (simp; done) | assumption) [AV.cells?, AV.isCell, -AV.cells?, lp68, cutC, bodyOf, Tryd.f68, E_esc, h0, h3, hb3, hi, hsub, hbo, hcz, hlz, hlx, htx, hex, c24, a24, k24, i24, hps]
        rfl, .inl ⟨rfl, l.length - q, by omega, bothX 10 e x, q, f, rfl, by simp [upd, putA, h0], by simp [upd, putA, h2], by simp [upd, putA, h3], by simp [upd, hb2], by simp [upd, hzc, hlx], hL3.symm, by omega, hR⟩⟩
set_option maxHeartbeats 2000000 in
theorem ev68 (n d : Nat) (sub : Nat → PR X) (hs : Sub H0 T a l d (n + 2) 69 sub) (hm : Mono sub) (F : Nat) (hF : l.length < F) (hn : l.length < n) : Sub H0 T a l d (n + 3) 68 (chainP (hereT l) F [([42], 10)] sub) := by
  intro p
  have hsub := hs p
  rw [show n + 3 = (n + 2) + 1 from rfl, ev_enter (n := n + 2) (show E.ok 68 = true from rfl) Tryd.func68 fb68 (Nat.le_of_ble_eq_true rfl) (by decide +kernel)]
  rw [evCode_assoc]
  unfold chainP
  cases hq : sub p with
  | error z =>
    obtain ⟨c', q⟩ := z
    rw [hq, ansX_err] at hsub
    rw [th_err, ansX_err]
    have hf := fin_stop H0 T a l p d q c' q
    generalize PSt H0 T a l q d = L3 at *
    generalize PSt H0 T a l p d = L1 at *
    generalize stopV (hereT l) c' q = sv at *
    simp (disch := first | (simp only [List.length_append, List.length_cons, List.length_nil]; omega) | (simp; done) | assumption) [AV.cells?, AV.isCell, l068, l168, cutC, bodyOf, Tryd.f68, E_esc, hsub, z24', c24, a24, k24, i24, finPan, hf]
  | ok z =>
    obtain ⟨x, q⟩ := z
    rw [hq, ansX_ok] at hsub
    rw [th_ok]
    have hcx := xcells x
    have hlx := xlen x
    obtain ⟨fs1, e1, p1⟩ : ∃ fs', evCode ⟨Tryd.prog, E.esc 68, n + 2⟩ (ev Tryd.prog E (n + 2)) (E.ps 68) (n + 2) (.seq l068 l168) ⟨argsA [.ptr a 0], fun _ => (0, []), 0, PSt H0 T a l p d⟩ = some (.norm, fs') ∧ CHI H0 T a l d (n + 2) [([42], 10)] sub (loopF (hereT l) [([42], 10)] sub F x q) (l.length - q) fs' := by
      generalize hL3 : PSt H0 T a l q d = L3 at *
      generalize PSt H0 T a l p d = L1 at *
      generalize hxc : x.cells = xc at *
      generalize x.emb = xe at *
      refine ⟨_, by
        simp (disch := first | (simp only [List.length_append, List.length_cons, List.length_nil]; omega) | (simp; done) | assumption) [AV.cells?, AV.isCell, -AV.cells?, l068, l168, cutC, bodyOf, Tryd.f68, E_esc, hsub, hcx, hlx, z24', z6_len, c24, a24, k24, i24]
        rfl, x, q, F, rfl, by simp [upd, putA, argsA], by simp [upd, putA], by simp [upd, putA], by simp [upd], by simp [upd, hxc, z6], hL3.symm, by omega, rfl⟩
    obtain ⟨⟨o, fs2⟩, r1, r2⟩ := iter_meas (fun m' fs h => rd68 ha T l hl n d sub hs hm _ m' fs h) (l.length - q) (n + 2) fs1 (by omega) p1
    rw [evCode_seq, e1, seqK_norm, evCode_seq, evCode_block, evCode_loop, r1]
    obtain ⟨t, b, c, S⟩ := fs2
    rcases r2 with ⟨q1, e, r, q2, q3, q4, q5, q6, q7⟩ | ⟨c', r, q1, q2, q3⟩
    · simp only at q1 q2 q3 q4 q5 q6
      subst q1 q6
      rw [q7, blockK_exit, if_pos rfl, seqK_norm, ansX_ok]
      clear r1 e1 p1
      have hf := fin_X H0 T a l p d r e
      have hcx := xcells e
      have hlx := xlen e
      have htx := xtake e
      have hex := xemb e
      generalize PSt H0 T a l r d = L3 at *
      generalize PSt H0 T a l p d = L1 at *
      generalize e.cells = ec at *
      generalize e.emb = ee at *
      simp (disch := first | (simp only [List.length_append, List.length_cons, List.length_nil]; omega) | (simp; done) | assumption) [AV.cells?, AV.isCell, -AV.cells?, l268, cutC, bodyOf, Tryd.f68, E_esc, q2, q3, q4, q5, hcx, hlx, htx, hex, z6_len, z6, c24, a24, k24, i24, hf]
    · simp only at q1 q2
      subst q1 q2
      rw [q3, blockK_pan, seqK_pan, ansX_err]
      clear r1 e1 p1
      have hf := fin_stop H0 T a l p d r c' r
      simp only [fromBody, finPan, hf]
end

noncomputable def lp43 : Code := cutC (bodyOf Tryd.f43) [1, 1, 0, 0, 0]
noncomputable def l043 : Code := cutC (bodyOf Tryd.f43) [0]
noncomputable def l143 : Code := cutC (bodyOf Tryd.f43) [1, 0]
noncomputable def l243 : Code := cutC (bodyOf Tryd.f43) [1, 1, 1]
theorem fb43 : Tryd.f43.body = some (.seq l043 (.seq l143 (.seq (.block 0 (.loop lp43)) l243))) := rfl
section
variable {H0 : List HBox} {a : Nat} (ha : a < H0.length) (T : List Nat) (l : List Tk) (hl : l.length ≤ 2000000)
include ha hl
set_option maxHeartbeats 2000000 in
theorem rd43 (n d : Nat) (sub : Nat → PR X) (hs : Sub H0 T a l d (n + 2) 56 sub) (hm : Mono sub) (R : PR X) (m : Nat) (fs : FS) (h : CHI H0 T a l d (n + 2) [([97, 110, 100], 19)] sub R m fs) :
    ∃ o fs', evCode ⟨Tryd.prog, E.esc 43, n + 2⟩ (ev Tryd.prog E (n + 2)) (E.ps 43) (n + 2) lp43 fs = some (o, fs') ∧ ((o = .norm ∧ ∃ m', m' < m ∧ CHI H0 T a l d (n + 2) [([97, 110, 100], 19)] sub R m' fs') ∨ (o ≠ .norm ∧ CHQ H0 T a l d (n + 2) R (o, fs'))) := by
  obtain ⟨t, b, c, S⟩ := fs
  obtain ⟨e, r, f, hmr, h0, h2, h3, hb2, hb3, hS, hmf, hR⟩ := h
  simp only at h0 h2 h3 hb2 hb3 hS
  subst hS
  obtain ⟨f, rfl⟩ : ∃ g, f = g + 1 := ⟨f - 1, by omega⟩
  have hi : ev Tryd.prog E (n + 2) 44 [.ptr a 0, .str [97, 110, 100]] (PSt H0 T a l r d) = _ := ev_is ha T l hl n r d _ _
  rw [loopF, opAt, opAt] at hR
  cases hB : isB (hereT l) r [97, 110, 100]
  · rw [hB] at hi hR
    simp only [Bool.false_eq_true, if_false] at hi hR
    refine ⟨.exit 0, ?_⟩
    generalize hL1 : PSt H0 T a l r d = L1 at *
    refine ⟨_, by
      simp (disch := first | (simp only [List.length_append, List.length_cons, List.length_nil]; omega) | (simp; done) | assumption) [AV.cells?, AV.isCell, lp43, cutC, bodyOf, Tryd.f43, E_esc, h0, hi]
      rfl, .inr ⟨by simp, .inl ⟨rfl, e, r, by simp [upd, putA, h2], by simp [upd, putA, h3], hb2, hb3, hL1.symm, hR.symm⟩⟩⟩
  · have hlt := is_lt hB
    rw [hB] at hi hR
    simp only [if_true] at hi hR
    have hsub := hs (r + 1)
    have hcx := xcells e
    have hlx := xlen e
    have htx := xtake e
    have hex := xemb e
    have hps : E.ps 43 3 = [(0, 2), (2, 2)] := rfl
    cases hq : sub (r + 1) with
    | error z =>
      obtain ⟨c', q⟩ := z
      rw [hq] at hsub hR
      rw [ansX_err] at hsub
      rw [th_err] at hR
      generalize hL3 : PSt H0 T a l q d = L3 at *
      generalize hL2 : PSt H0 T a l (r + 1) d = L2 at *
      generalize hL1 : PSt H0 T a l r d = L1 at *
      generalize e.cells = ec at *
      generalize hsv : stopV (hereT l) c' q = sv at *
      refine ⟨.pan sv, _, by
        simp (disch := first | (simp only [List.length_append, List.length_cons, List.length_nil]; omega) | (simp; done) | assumption) [AV.cells?, AV.isCell, -AV.cells?, lp43, cutC, bodyOf, Tryd.f43, E_esc, h0, h3, hb3, hi, hsub, hlx, htx, hex, c24, a24, k24, i24, hps]
        rfl, .inr ⟨by simp, .inr ⟨c', q, by rw [hsv], hL3.symm, hR.symm⟩⟩⟩
    | ok z =>
      obtain ⟨x, q⟩ := z
      have hmono := hm _ _ _ hq
      rw [hq] at hsub hR
      rw [ansX_ok] at hsub
      rw [th_ok] at hR
      have hbo := ev_both (n + 1) 19 e x (PSt H0 T a l q d)
      have hcz := xcells (bothX 19 e x)
      have hlz := xlen (bothX 19 e x)
      refine ⟨.norm, ?_⟩
      generalize hL3 : PSt H0 T a l q d = L3 at *
      generalize hL2 : PSt H0 T a l (r + 1) d = L2 at *
      generalize hL1 : PSt H0 T a l r d = L1 at *
      generalize e.cells = ec at *
      generalize e.emb = ee at *
      generalize x.emb = xe at *
      generalize hzc : (bothX 19 e x).cells = zc at *
      generalize (bothX 19 e x).emb = ze at *
      refine ⟨_, by
        simp (disch := first | (simp only [List.length_append, List.length_cons, List.length_nil]; omega) | (simp; done) | assumption) [AV.cells?, AV.isCell, -AV.cells?, lp43, cutC, bodyOf, Tryd.f43, E_esc, h0, h3, hb3, hi, hsub, hbo, hcz, hlz, hlx, htx, hex, c24, a24, k24, i24, hps]
        rfl, .inl ⟨rfl, l.length - q, by omega, bothX 19 e x, q, f, rfl, by simp [upd, putA, h0], by simp [upd, putA, h2], by simp [upd, putA, h3], by simp [upd, hb2], by simp [upd, hzc, hlx], hL3.symm, by omega, hR⟩⟩
set_option maxHeartbeats 2000000 in
theorem ev43 (n d : Nat) (sub : Nat → PR X) (hs : Sub H0 T a l d (n + 2) 56 sub) (hm : Mono sub) (F : Nat) (hF : l.length < F) (hn : l.length < n) : Sub H0 T a l d (n + 3) 43 (chainP (hereT l) F [([97, 110, 100], 19)] sub) := by
  intro p
  have hsub := hs p
  rw [show n + 3 = (n + 2) + 1 from rfl, ev_enter (n := n + 2) (show E.ok 43 = true from rfl) Tryd.func43 fb43 (Nat.le_of_ble_eq_true rfl) (by decide +kernel)]
  rw [evCode_assoc]
  unfold chainP
  cases hq : sub p with
  | error z =>
    obtain ⟨c', q⟩ := z
    rw [hq, ansX_err] at hsub
    rw [th_err, ansX_err]
    have hf := fin_stop H0 T a l p d q c' q
    generalize PSt H0 T a l q d = L3 at *
    generalize PSt H0 T a l p d = L1 at *
    generalize stopV (hereT l) c' q = sv at *
    simp (disch := first | (simp only [List.length_append, List.length_cons, List.length_nil]; omega) | (simp; done) | assumption) [AV.cells?, AV.isCell, l043, l143, cutC, bodyOf, Tryd.f43, E_esc, hsub, z24', c24, a24, k24, i24, finPan, hf]
  | ok z =>
    obtain ⟨x, q⟩ := z
    rw [hq, ansX_ok] at hsub
    rw [th_ok]
    have hcx := xcells x
    have hlx := xlen x
    obtain ⟨fs1, e1, p1⟩ : ∃ fs', evCode ⟨Tryd.prog, E.esc 43, n + 2⟩ (ev Tryd.prog E (n + 2)) (E.ps 43) (n + 2) (.seq l043 l143) ⟨argsA [.ptr a 0], fun _ => (0, []), 0, PSt H0 T a l p d⟩ = some (.norm, fs') ∧ CHI H0 T a l d (n + 2) [([97, 110, 100], 19)] sub (loopF (hereT l) [([97, 110, 100], 19)] sub F x q) (l.length - q) fs' := by
      generalize hL3 : PSt H0 T a l q d = L3 at *
      generalize PSt H0 T a l p d = L1 at *
      generalize hxc : x.cells = xc at *
      generalize x.emb = xe at *
      refine ⟨_, by
        simp (disch := first | (simp only [List.length_append, List.length_cons, List.length_nil]; omega) | (simp; done) | assumption) [AV.cells?, AV.isCell, -AV.cells?, l043, l143, cutC, bodyOf, Tryd.f43, E_esc, hsub, hcx, hlx, z24', z6_len, c24, a24, k24, i24]
        rfl, x, q, F, rfl, by simp [upd, putA, argsA], by simp [upd, putA], by simp [upd, putA], by simp [upd], by simp [upd, hxc, z6], hL3.symm, by omega, rfl⟩
    obtain ⟨⟨o, fs2⟩, r1, r2⟩ := iter_meas (fun m' fs h => rd43 ha T l hl n d sub hs hm _ m' fs h) (l.length - q) (n + 2) fs1 (by omega) p1
    rw [evCode_seq, e1, seqK_norm, evCode_seq, evCode_block, evCode_loop, r1]
    obtain ⟨t, b, c, S⟩ := fs2
    rcases r2 with ⟨q1, e, r, q2, q3, q4, q5, q6, q7⟩ | ⟨c', r, q1, q2, q3⟩
    · simp only at q1 q2 q3 q4 q5 q6
      subst q1 q6
      rw [q7, blockK_exit, if_pos rfl, seqK_norm, ansX_ok]
      clear r1 e1 p1
      have hf := fin_X H0 T a l p d r e
      have hcx := xcells e
      have hlx := xlen e
      have htx := xtake e
      have hex := xemb e
      generalize PSt H0 T a l r d = L3 at *
      generalize PSt H0 T a l p d = L1 at *
      generalize e.cells = ec at *
      generalize e.emb = ee at *
      simp (disch := first | (simp only [List.length_append, List.length_cons, List.length_nil]; omega) | (simp; done) | assumption) [AV.cells?, AV.isCell, -AV.cells?, l243, cutC, bodyOf, Tryd.f43, E_esc, q2, q3, q4, q5, hcx, hlx, htx, hex, z6_len, z6, c24, a24, k24, i24, hf]
    · simp only at q1 q2
      subst q1 q2
      rw [q3, blockK_pan, seqK_pan, ansX_err]
      clear r1 e1 p1
      have hf := fin_stop H0 T a l p d r c' r
      simp only [fromBody, finPan, hf]
end

noncomputable def lp27 : Code := cutC (bodyOf Tryd.f27) [1, 1, 0, 0, 0]
noncomputable def l027 : Code := cutC (bodyOf Tryd.f27) [0]
noncomputable def l127 : Code := cutC (bodyOf Tryd.f27) [1, 0]
noncomputable def l227 : Code := cutC (bodyOf Tryd.f27) [1, 1, 1]
theorem fb27 : Tryd.f27.body = some (.seq l027 (.seq l127 (.seq (.block 0 (.loop lp27)) l227))) := rfl
section
variable {H0 : List HBox} {a : Nat} (ha : a < H0.length) (T : List Nat) (l : List Tk) (hl : l.length ≤ 2000000)
include ha hl
set_option maxHeartbeats 2000000 in
theorem rd27 (n d : Nat) (sub : Nat → PR X) (hs : Sub H0 T a l d (n + 2) 43 sub) (hm : Mono sub) (R : PR X) (m : Nat) (fs : FS) (h : CHI H0 T a l d (n + 2) [([111, 114], 20)] sub R m fs) :
    ∃ o fs', evCode ⟨Tryd.prog, E.esc 27, n + 2⟩ (ev Tryd.prog E (n + 2)) (E.ps 27) (n + 2) lp27 fs = some (o, fs') ∧ ((o = .norm ∧ ∃ m', m' < m ∧ CHI H0 T a l d (n + 2) [([111, 114], 20)] sub R m' fs') ∨ (o ≠ .norm ∧ CHQ H0 T a l d (n + 2) R (o, fs'))) := by
  obtain ⟨t, b, c, S⟩ := fs
  obtain ⟨e, r, f, hmr, h0, h2, h3, hb2, hb3, hS, hmf, hR⟩ := h
  simp only at h0 h2 h3 hb2 hb3 hS
  subst hS
  obtain ⟨f, rfl⟩ : ∃ g, f = g + 1 := ⟨f - 1, by omega⟩
  have hi : ev Tryd.prog E (n + 2) 44 [.ptr a 0, .str [111, 114]] (PSt H0 T a l r d) = _ := ev_is ha T l hl n r d _ _
  rw [loopF, opAt, opAt] at hR
  cases hB : isB (hereT l) r [111, 114]
  · rw [hB] at hi hR
    simp only [Bool.false_eq_true, if_false] at hi hR
    refine ⟨.exit 0, ?_⟩
    generalize hL1 : PSt H0 T a l r d = L1 at *
    refine ⟨_, by
      simp (disch := first | (simp only [List.length_append, List.length_cons, List.length_nil]; omega) | (simp; done) | assumption) [AV.cells?, AV.isCell, lp27, cutC, bodyOf, Tryd.f27, E_esc, h0, hi]
      rfl, .inr ⟨by simp, .inl ⟨rfl, e, r, by simp [upd, putA, h2], by simp [upd, putA, h3], hb2, hb3, hL1.symm, hR.symm⟩⟩⟩
  · have hlt := is_lt hB
    rw [hB] at hi hR
    simp only [if_true] at hi hR
    have hsub := hs (r + 1)
    have hcx := xcells e
    have hlx := xlen e
    have htx := xtake e
    have hex := xemb e
    have hps : E.ps 27 3 = [(0, 2), (2, 2)] := rfl
    cases hq : sub (r + 1) with
    | error z =>
      obtain ⟨c', q⟩ := z
      rw [hq] at hsub hR
      rw [ansX_err] at hsub
      rw [th_err] at hR
      generalize hL3 : PSt H0 T a l q d = L3 at *
      generalize hL2 : PSt H0 T a l (r + 1) d = L2 at *
      generalize hL1 : PSt H0 T a l r d = L1 at *
      generalize e.cells = ec at *
      generalize hsv : stopV (hereT l) c' q = sv at *
      refine ⟨.pan sv, _, by
        simp (disch := first | (simp only [List.length_append, List.length_cons, List.length_nil]; omega) | (simp; done) | assumption) [AV.cells?, AV.isCell, -AV.cells?, lp27, cutC, bodyOf, Tryd.f27, E_esc, h0, h3, hb3, hi, hsub, hlx, htx, hex, c24, a24, k24, i24, hps]
        rfl, .inr ⟨by simp, .inr ⟨c', q, by rw [hsv], hL3.symm, hR.symm⟩⟩⟩
    | ok z =>
      obtain ⟨x, q⟩ := z
      have hmono := hm _ _ _ hq
      rw [hq] at hsub hR
      rw [ansX_ok] at hsub
      rw [th_ok] at hR
      have hbo := ev_both (n + 1) 20 e x (PSt H0 T a l q d)
      have hcz := xcells (bothX 20 e x)
      have hlz := xlen (bothX 20 e x)
      refine ⟨.norm, ?_⟩
      generalize hL3 : PSt H0 T a l q d = L3 at *
      generalize hL2 : PSt H0 T a l (r + 1) d = L2 at *
      generalize hL1 : PSt H0 T a l r d = L1 at *
      generalize e.cells = ec at *
      generalize e.emb = ee at *
      generalize x.emb = xe at *
      generalize hzc : (bothX 20 e x).cells = zc at *
      generalize (bothX 20 e x).emb = ze at *
      refine ⟨_, by
        simp (disch := first | (simp only [List.length_append, List.length_cons, List.length_nil]; omega) | (simp; done) | assumption) [AV.cells?, AV.isCell, -AV.cells?, lp27, cutC, bodyOf, Tryd.f27, E_esc, h0, h3, hb3, hi, hsub, hbo, hcz, hlz, hlx, htx, hex, c24, a24, k24, i24, hps]
        rfl, .inl ⟨rfl, l.length - q, by omega, bothX 20 e x, q, f, rfl, by simp [upd, putA, h0], by simp [upd, putA, h2], by simp [upd, putA, h3], by simp [upd, hb2], by simp [upd, hzc, hlx], hL3.symm, by omega, hR⟩⟩
set_option maxHeartbeats 2000000 in
theorem ev27 (n d : Nat) (sub : Nat → PR X) (hs : Sub H0 T a l d (n + 2) 43 sub) (hm : Mono sub) (F : Nat) (hF : l.length < F) (hn : l.length < n) : Sub H0 T a l d (n + 3) 27 (chainP (hereT l) F [([111, 114], 20)] sub) := by
  intro p
  have hsub := hs p
  rw [show n + 3 = (n + 2) + 1 from rfl, ev_enter (n := n + 2) (show E.ok 27 = true from rfl) Tryd.func27 fb27 (Nat.le_of_ble_eq_true rfl) (by decide +kernel)]
  rw [evCode_assoc]
  unfold chainP
  cases hq : sub p with
  | error z =>
    obtain ⟨c', q⟩ := z
    rw [hq, ansX_err] at hsub
    rw [th_err, ansX_err]
    have hf := fin_stop H0 T a l p d q c' q
    generalize PSt H0 T a l q d = L3 at *
    generalize PSt H0 T a l p d = L1 at *
    generalize stopV (hereT l) c' q = sv at *
    simp (disch := first | (simp only [List.length_append, List.length_cons, List.length_nil]; omega) | (simp; done) | assumption) [AV.cells?, AV.isCell, l027, l127, cutC, bodyOf, Tryd.f27, E_esc, hsub, z24', c24, a24, k24, i24, finPan, hf]
  | ok z =>
    obtain ⟨x, q⟩ := z
    rw [hq, ansX_ok] at hsub
    rw [th_ok]
    have hcx := xcells x
    have hlx := xlen x
    obtain ⟨fs1, e1, p1⟩ : ∃ fs', evCode ⟨Tryd.prog, E.esc 27, n + 2⟩ (ev Tryd.prog E (n + 2)) (E.ps 27) (n + 2) (.seq l027 l127) ⟨argsA [.ptr a 0], fun _ => (0, []), 0, PSt H0 T a l p d⟩ = some (.norm, fs') ∧ CHI H0 T a l d (n + 2) [([111, 114], 20)] sub (loopF (hereT l) [([111, 114], 20)] sub F x q) (l.length - q) fs' := by
      generalize hL3 : PSt H0 T a l q d = L3 at *
      generalize PSt H0 T a l p d = L1 at *
      generalize hxc : x.cells = xc at *
      generalize x.emb = xe at *
      refine ⟨_, by
        simp (disch := first | (simp only [List.length_append, List.length_cons, List.length_nil]; omega) | (simp; done) | assumption) [AV.cells?, AV.isCell, -AV.cells?, l027, l127, cutC, bodyOf, Tryd.f27, E_esc, hsub, hcx, hlx, z24', z6_len, c24, a24, k24, i24]
        rfl, x, q, F, rfl, by simp [upd, putA, argsA], by simp [upd, putA], by simp [upd, putA], by simp [upd], by simp [upd, hxc, z6], hL3.symm, by omega, rfl⟩
    obtain ⟨⟨o, fs2⟩, r1, r2⟩ := iter_meas (fun m' fs h => rd27 ha T l hl n d sub hs hm _ m' fs h) (l.length - q) (n + 2) fs1 (by omega) p1
    rw [evCode_seq, e1, seqK_norm, evCode_seq, evCode_block, evCode_loop, r1]
    obtain ⟨t, b, c, S⟩ := fs2
    rcases r2 with ⟨q1, e, r, q2, q3, q4, q5, q6, q7⟩ | ⟨c', r, q1, q2, q3⟩
    · simp only at q1 q2 q3 q4 q5 q6
      subst q1 q6
      rw [q7, blockK_exit, if_pos rfl, seqK_norm, ansX_ok]
      clear r1 e1 p1
      have hf := fin_X H0 T a l p d r e
      have hcx := xcells e
      have hlx := xlen e
      have htx := xtake e
      have hex := xemb e
      generalize PSt H0 T a l r d = L3 at *
      generalize PSt H0 T a l p d = L1 at *
      generalize e.cells = ec at *
      generalize e.emb = ee at *
      simp (disch := first | (simp only [List.length_append, List.length_cons, List.length_nil]; omega) | (simp; done) | assumption) [AV.cells?, AV.isCell, -AV.cells?, l227, cutC, bodyOf, Tryd.f27, E_esc, q2, q3, q4, q5, hcx, hlx, htx, hex, z6_len, z6, c24, a24, k24, i24, hf]
    · simp only at q1 q2
      subst q1 q2
      rw [q3, blockK_pan, seqK_pan, ansX_err]
      clear r1 e1 p1
      have hf := fin_stop H0 T a l p d r c' r
      simp only [fromBody, finPan, hf]
end
end Go.Proofs.YtemggoaefohliaaDoor.PS

/- The parser: sum, rel, evaluated. No condition. -/
namespace Go.Proofs.YtemggoaefohliaaDoor.PS
set_option linter.unusedVariables false
set_option linter.unusedSimpArgs false
open Go AE EX PT NF LX
set_option maxRecDepth 100000

noncomputable def lp64 : Code := cutC (bodyOf Tryd.f64) [1, 1, 0, 0]
noncomputable def l064 : Code := cutC (bodyOf Tryd.f64) [0]
noncomputable def l164 : Code := cutC (bodyOf Tryd.f64) [1, 0]
theorem fb64 : Tryd.f64.body = some (.seq l064 (.seq l164 (.block 0 (.loop lp64)))) := rfl

def CHR (H0 : List HBox) (T : List Nat) (a : Nat) (l : List Tk) (d n : Nat) (R : PR X) (r : Out × FS) : Prop :=
  (r.1 = .ret ∧ ∃ e q, r.2.t 2 = .loc n 2 1 0 ∧ r.2.b 2 = (1, X.cells e) ∧ r.2.S = PSt H0 T a l q d ∧ R = .ok (e, q)) ∨
  (∃ c q, r.1 = .pan (stopV (hereT l) c q) ∧ r.2.S = PSt H0 T a l q d ∧ R = .error (c, q))

section
variable {H0 : List HBox} {a : Nat} (ha : a < H0.length) (T : List Nat) (l : List Tk) (hl : l.length ≤ 2000000)
include ha hl
set_option maxHeartbeats 4000000 in
theorem rd64 (n d : Nat) (sub : Nat → PR X) (hs : Sub H0 T a l d (n + 2) 68 sub) (hm : Mono sub) (R : PR X) (m : Nat) (fs : FS) (h : CHI H0 T a l d (n + 2) [([43], 8), ([45], 9)] sub R m fs) :
    ∃ o fs', evCode ⟨Tryd.prog, E.esc 64, n + 2⟩ (ev Tryd.prog E (n + 2)) (E.ps 64) (n + 2) lp64 fs = some (o, fs') ∧ ((o = .norm ∧ ∃ m', m' < m ∧ CHI H0 T a l d (n + 2) [([43], 8), ([45], 9)] sub R m' fs') ∨ (o ≠ .norm ∧ CHR H0 T a l d (n + 2) R (o, fs'))) := by
  obtain ⟨t, b, c, S⟩ := fs
  obtain ⟨e, r, f, hmr, h0, h2, h3, hb2, hb3, hS, hmf, hR⟩ := h
  simp only at h0 h2 h3 hb2 hb3 hS
  subst hS
  obtain ⟨f, rfl⟩ : ∃ g, f = g + 1 := ⟨f - 1, by omega⟩
  have hi : ev Tryd.prog E (n + 2) 44 [.ptr a 0, .str [43]] (PSt H0 T a l r d) = _ := ev_is ha T l hl n r d _ _
  have hj : ev Tryd.prog E (n + 2) 44 [.ptr a 0, .str [45]] (PSt H0 T a l r d) = _ := ev_is ha T l hl n r d _ _
  have hcx := xcells e
  have hlx := xlen e
  have htx := xtake e
  have hex := xemb e
  have hsub := hs (r + 1)
  rw [loopF, opAt, opAt, opAt] at hR
  cases hB : isB (hereT l) r [43]
  · rw [hB] at hi hR
    simp only [Bool.false_eq_true, if_false] at hi hR
    cases hB2 : isB (hereT l) r [45]
    · rw [hB2] at hj hR
      simp only [Bool.false_eq_true, if_false] at hj hR
      refine ⟨.ret, ?_⟩
      generalize hL1 : PSt H0 T a l r d = L1 at *
      generalize hec : e.cells = ec at *
      generalize e.emb = ee at *
      refine ⟨_, by
        simp (disch := first | (simp only [List.length_append, List.length_cons, List.length_nil]; omega) | (simp; done) | assumption) [AV.cells?, AV.isCell, -AV.cells?, lp64, cutC, bodyOf, Tryd.f64, E_esc, h0, h2, h3, hb2, hb3, hi, hj, hcx, hlx, htx, hex, z6_len, c24, a24, k24, i24]
        rfl, .inr ⟨by simp, .inl ⟨rfl, e, r, by simp [upd, putA, h2], by simp [upd, hec, hb2, hlx, z6], hL1.symm, hR.symm⟩⟩⟩
    · have hlt := is_lt hB2
      rw [hB2] at hj hR
      simp only [if_true] at hj hR
      have hps : E.ps 64 6 = [(0, 2), (2, 2)] := rfl
      cases hq : sub (r + 1) with
      | error z =>
        obtain ⟨c', q⟩ := z
        rw [hq] at hsub hR
        rw [ansX_err] at hsub
        rw [th_err] at hR
        generalize hL3 : PSt H0 T a l q d = L3 at *
        generalize hL2 : PSt H0 T a l (r + 1) d = L2 at *
        generalize hL1 : PSt H0 T a l r d = L1 at *
        generalize e.cells = ec at *
        generalize hsv : stopV (hereT l) c' q = sv at *
        refine ⟨.pan sv, _, by
          simp (disch := first | (simp only [List.length_append, List.length_cons, List.length_nil]; omega) | (simp; done) | assumption) [AV.cells?, AV.isCell, -AV.cells?, lp64, cutC, bodyOf, Tryd.f64, E_esc, h0, h3, hb3, hi, hj, hsub, hlx, htx, hex, c24, a24, k24, i24, hps]
          rfl, .inr ⟨by simp, .inr ⟨c', q, by rw [hsv], hL3.symm, hR.symm⟩⟩⟩
      | ok z =>
        obtain ⟨x, q⟩ := z
        have hmono := hm _ _ _ hq
        rw [hq] at hsub hR
        rw [ansX_ok] at hsub
        rw [th_ok] at hR
        have hbo := ev_both (n + 1) 9 e x (PSt H0 T a l q d)
        have hcz := xcells (bothX 9 e x)
        have hlz := xlen (bothX 9 e x)
        generalize hL3 : PSt H0 T a l q d = L3 at *
        generalize hL2 : PSt H0 T a l (r + 1) d = L2 at *
        generalize hL1 : PSt H0 T a l r d = L1 at *
        generalize e.cells = ec at *
        generalize e.emb = ee at *
        generalize x.emb = xe at *
        generalize hzc : (bothX 9 e x).cells = zc at *
        generalize (bothX 9 e x).emb = ze at *
        refine ⟨.norm, _, by
          simp (disch := first | (simp only [List.length_append, List.length_cons, List.length_nil]; omega) | (simp; done) | assumption) [AV.cells?, AV.isCell, -AV.cells?, lp64, cutC, bodyOf, Tryd.f64, E_esc, h0, h3, hb3, hi, hj, hsub, hbo, hcz, hlz, hlx, htx, hex, c24, a24, k24, i24, hps]
          rfl, .inl ⟨rfl, l.length - q, by omega, bothX 9 e x, q, f, rfl, by simp [upd, putA, h0], by simp [upd, putA, h2], by simp [upd, putA, h3], by simp [upd, hb2], by simp [upd, hzc, hlx], hL3.symm, by omega, hR⟩⟩
  · have hlt := is_lt hB
    rw [hB] at hi hR
    simp only [if_true] at hi hR
    have hps : E.ps 64 4 = [(0, 2), (2, 2)] := rfl
    cases hq : sub (r + 1) with
    | error z =>
      obtain ⟨c', q⟩ := z
      rw [hq] at hsub hR
      rw [ansX_err] at hsub
      rw [th_err] at hR
      generalize hL3 : PSt H0 T a l q d = L3 at *
      generalize hL2 : PSt H0 T a l (r + 1) d = L2 at *
      generalize hL1 : PSt H0 T a l r d = L1 at *
      generalize e.cells = ec at *
      generalize hsv : stopV (hereT l) c' q = sv at *
      refine ⟨.pan sv, _, by
        simp (disch := first | (simp only [List.length_append, List.length_cons, List.length_nil]; omega) | (simp; done) | assumption) [AV.cells?, AV.isCell, -AV.cells?, lp64, cutC, bodyOf, Tryd.f64, E_esc, h0, h3, hb3, hi, hsub, hlx, htx, hex, c24, a24, k24, i24, hps]
        rfl, .inr ⟨by simp, .inr ⟨c', q, by rw [hsv], hL3.symm, hR.symm⟩⟩⟩
    | ok z =>
      obtain ⟨x, q⟩ := z
      have hmono := hm _ _ _ hq
      rw [hq] at hsub hR
      rw [ansX_ok] at hsub
      rw [th_ok] at hR
      have hbo := ev_both (n + 1) 8 e x (PSt H0 T a l q d)
      have hcz := xcells (bothX 8 e x)
      have hlz := xlen (bothX 8 e x)
      generalize hL3 : PSt H0 T a l q d = L3 at *
      generalize hL2 : PSt H0 T a l (r + 1) d = L2 at *
      generalize hL1 : PSt H0 T a l r d = L1 at *
      generalize e.cells = ec at *
      generalize e.emb = ee at *
      generalize x.emb = xe at *
      generalize hzc : (bothX 8 e x).cells = zc at *
      generalize (bothX 8 e x).emb = ze at *
      refine ⟨.norm, _, by
        simp (disch := first | (simp only [List.length_append, List.length_cons, List.length_nil]; omega) | (simp; done) | assumption) [AV.cells?, AV.isCell, -AV.cells?, lp64, cutC, bodyOf, Tryd.f64, E_esc, h0, h3, hb3, hi, hsub, hbo, hcz, hlz, hlx, htx, hex, c24, a24, k24, i24, hps]
        rfl, .inl ⟨rfl, l.length - q, by omega, bothX 8 e x, q, f, rfl, by simp [upd, putA, h0], by simp [upd, putA, h2], by simp [upd, putA, h3], by simp [upd, hb2], by simp [upd, hzc, hlx], hL3.symm, by omega, hR⟩⟩
set_option maxHeartbeats 2000000 in
theorem ev64 (n d : Nat) (sub : Nat → PR X) (hs : Sub H0 T a l d (n + 2) 68 sub) (hm : Mono sub) (F : Nat) (hF : l.length < F) (hn : l.length < n) : Sub H0 T a l d (n + 3) 64 (chainP (hereT l) F [([43], 8), ([45], 9)] sub) := by
  intro p
  have hsub := hs p
  rw [show n + 3 = (n + 2) + 1 from rfl, ev_enter (n := n + 2) (show E.ok 64 = true from rfl) Tryd.func64 fb64 (Nat.le_of_ble_eq_true rfl) (by decide +kernel)]
  rw [evCode_assoc]
  unfold chainP
  cases hq : sub p with
  | error z =>
    obtain ⟨c', q⟩ := z
    rw [hq, ansX_err] at hsub
    rw [th_err, ansX_err]
    have hf := fin_stop H0 T a l p d q c' q
    generalize PSt H0 T a l q d = L3 at *
    generalize PSt H0 T a l p d = L1 at *
    generalize stopV (hereT l) c' q = sv at *
    simp (disch := first | (simp only [List.length_append, List.length_cons, List.length_nil]; omega) | (simp; done) | assumption) [AV.cells?, AV.isCell, l064, l164, cutC, bodyOf, Tryd.f64, E_esc, hsub, z24', c24, a24, k24, i24, finPan, hf]
  | ok z =>
    obtain ⟨x, q⟩ := z
    rw [hq, ansX_ok] at hsub
    rw [th_ok]
    have hcx := xcells x
    have hlx := xlen x
    obtain ⟨fs1, e1, p1⟩ : ∃ fs', evCode ⟨Tryd.prog, E.esc 64, n + 2⟩ (ev Tryd.prog E (n + 2)) (E.ps 64) (n + 2) (.seq l064 l164) ⟨argsA [.ptr a 0], fun _ => (0, []), 0, PSt H0 T a l p d⟩ = some (.norm, fs') ∧ CHI H0 T a l d (n + 2) [([43], 8), ([45], 9)] sub (loopF (hereT l) [([43], 8), ([45], 9)] sub F x q) (l.length - q) fs' := by
      generalize hL3 : PSt H0 T a l q d = L3 at *
      generalize PSt H0 T a l p d = L1 at *
      generalize hxc : x.cells = xc at *
      generalize x.emb = xe at *
      refine ⟨_, by
        simp (disch := first | (simp only [List.length_append, List.length_cons, List.length_nil]; omega) | (simp; done) | assumption) [AV.cells?, AV.isCell, -AV.cells?, l064, l164, cutC, bodyOf, Tryd.f64, E_esc, hsub, hcx, hlx, z24', z6_len, c24, a24, k24, i24]
        rfl, x, q, F, rfl, by simp [upd, putA, argsA], by simp [upd, putA], by simp [upd, putA], by simp [upd], by simp [upd, hxc, z6], hL3.symm, by omega, rfl⟩
    obtain ⟨⟨o, fs2⟩, r1, r2⟩ := iter_meas (fun m' fs h => rd64 ha T l hl n d sub hs hm _ m' fs h) (l.length - q) (n + 2) fs1 (by omega) p1
    rw [evCode_seq, e1, seqK_norm, evCode_block, evCode_loop, r1]
    obtain ⟨t, b, c, S⟩ := fs2
    rcases r2 with ⟨q1, e, r, q2, q4, q6, q7⟩ | ⟨c', r, q1, q2, q3⟩
    · simp only at q1 q2 q4 q6
      subst q1 q6
      rw [q7, blockK_ret, ansX_ok]
      clear r1 e1 p1
      have hf := fin_X H0 T a l p d r e
      have hlx := xlen e
      have htx := xtake e
      have hex := xemb e
      generalize PSt H0 T a l r d = L3 at *
      generalize PSt H0 T a l p d = L1 at *
      generalize e.cells = ec at *
      generalize e.emb = ee at *
      simp (disch := first | (simp only [List.length_append, List.length_cons, List.length_nil]; omega) | (simp; done) | assumption) [AV.cells?, AV.isCell, -AV.cells?, Tryd.f64, E_esc, q2, q4, hlx, htx, hex, z6_len, c24, a24, k24, i24, hf]
    · simp only at q1 q2
      subst q1 q2
      rw [q3, blockK_pan, ansX_err]
      clear r1 e1 p1
      have hf := fin_stop H0 T a l p d r c' r
      simp only [fromBody, finPan, hf]
end
end Go.Proofs.YtemggoaefohliaaDoor.PS

/- The parser: rel, evaluated (printed by gendp2.py). No condition. -/
namespace Go.Proofs.YtemggoaefohliaaDoor.PS
set_option linter.unusedVariables false
set_option linter.unusedSimpArgs false
open Go AE EX PT NF LX
set_option maxRecDepth 100000

section
variable {H0 : List HBox} {a : Nat} (ha : a < H0.length) (T : List Nat) (l : List Tk) (hl : l.length ≤ 2000000)
include ha hl
set_option maxHeartbeats 8000000 in
theorem ev56 (n d : Nat) (sub : Nat → PR X) (hs : Sub H0 T a l d (n + 2) 64 sub) : Sub H0 T a l d (n + 3) 56 (relP (hereT l) sub) := by
  intro p
  have hsub := hs p
  rw [show n + 3 = (n + 2) + 1 from rfl, ev_enter (n := n + 2) (show E.ok 56 = true from rfl) Tryd.func56 (fn := Tryd.f56) rfl (Nat.le_of_ble_eq_true rfl) (by decide +kernel)]
  unfold relP
  cases hq : sub p with
  | error z =>
    obtain ⟨c', q⟩ := z
    rw [hq, ansX_err] at hsub
    rw [th_err, ansX_err]
    have hf := fin_stop H0 T a l p d q c' q
    generalize PSt H0 T a l q d = L3 at *
    generalize PSt H0 T a l p d = L1 at *
    generalize stopV (hereT l) c' q = sv at *
    simp (disch := first | (simp only [List.length_append, List.length_cons, List.length_nil]; omega) | (simp; done) | assumption) [AV.cells?, AV.isCell, Tryd.f56, E_esc, hsub, z24', c24, a24, k24, i24, finPan, hf]
  | ok z =>
    obtain ⟨e, r⟩ := z
    rw [hq, ansX_ok] at hsub
    rw [th_ok]
    have hcx := xcells e
    have hlx := xlen e
    have htx := xtake e
    have hex := xemb e
    have hsub2 := hs (r + 1)
    have hi0 : ev Tryd.prog E (n + 2) 44 [.ptr a 0, .str [61]] (PSt H0 T a l r d) = _ := ev_is ha T l hl n r d _ _
    have hi1 : ev Tryd.prog E (n + 2) 44 [.ptr a 0, .str [33, 61]] (PSt H0 T a l r d) = _ := ev_is ha T l hl n r d _ _
    have hi2 : ev Tryd.prog E (n + 2) 44 [.ptr a 0, .str [60]] (PSt H0 T a l r d) = _ := ev_is ha T l hl n r d _ _
    have hi3 : ev Tryd.prog E (n + 2) 44 [.ptr a 0, .str [60, 61]] (PSt H0 T a l r d) = _ := ev_is ha T l hl n r d _ _
    have hi4 : ev Tryd.prog E (n + 2) 44 [.ptr a 0, .str [105, 110]] (PSt H0 T a l r d) = _ := ev_is ha T l hl n r d _ _
    by_cases hB0 : isB (hereT l) r [61] = true
    · rw [if_pos hB0]
      rw [hB0] at hi0
      simp only [if_true] at hi0
      have hps : E.ps 56 3 = [(0, 2), (2, 2)] := rfl
      cases hq2 : sub (r + 1) with
      | error z =>
        obtain ⟨c', q⟩ := z
        rw [hq2, ansX_err] at hsub2
        rw [th_err, ansX_err]
        have hf := fin_stop H0 T a l p d q c' q
        generalize PSt H0 T a l q d = L4 at *
        generalize PSt H0 T a l (r + 1) d = L3 at *
        generalize PSt H0 T a l r d = L2 at *
        generalize PSt H0 T a l p d = L1 at *
        generalize stopV (hereT l) c' q = sv at *
        generalize e.cells = ec at *
        generalize e.emb = ee at *
        simp (disch := first | (simp only [List.length_append, List.length_cons, List.length_nil]; omega) | (simp; done) | assumption) [AV.cells?, AV.isCell, -AV.cells?, Tryd.f56, E_esc, hsub, hsub2, hi0, hcx, hlx, htx, hex, z24', z6_len, c24, a24, k24, i24, hps, finPan, hf]
      | ok z =>
        obtain ⟨x, q⟩ := z
        rw [hq2, ansX_ok] at hsub2
        rw [th_ok, ansX_ok]
        have hbo := ev_both (n + 1) 14 e x (PSt H0 T a l q d)
        have hne := ev_one1 (n + 1) 18 (bothX 14 e x) (PSt H0 T a l q d)
        have hcz := xcells (bothX 14 e x)
        have hlz := xlen (bothX 14 e x)
        have htz := xtake (bothX 14 e x)
        have hez := xemb (bothX 14 e x)
        have hf := fin_X H0 T a l p d q (bothX 14 e x)
        generalize PSt H0 T a l q d = L4 at *
        generalize PSt H0 T a l (r + 1) d = L3 at *
        generalize PSt H0 T a l r d = L2 at *
        generalize PSt H0 T a l p d = L1 at *
        generalize (bothX 14 e x).cells = zc at *
        generalize (bothX 14 e x).emb = ze at *
        generalize (bothX 14 e x).emb = be at *
        generalize e.cells = ec at *
        generalize e.emb = ee at *
        generalize x.emb = xe at *
        simp (disch := first | (simp only [List.length_append, List.length_cons, List.length_nil]; omega) | (simp; done) | assumption) [AV.cells?, AV.isCell, -AV.cells?, Tryd.f56, E_esc, hsub, hsub2, hi0, hbo, hne, hcz, hlz, htz, hez, hcx, hlx, htx, hex, z24', z6_len, z6, c24, a24, k24, i24, hps, hf]
    rw [if_neg hB0]
    simp only [Bool.not_eq_true] at hB0
    rw [hB0] at hi0
    simp only [Bool.false_eq_true, if_false] at hi0
    by_cases hB1 : isB (hereT l) r [33, 61] = true
    · rw [if_pos hB1]
      rw [hB1] at hi1
      simp only [if_true] at hi1
      have hps : E.ps 56 5 = [(0, 2), (2, 2)] := rfl
      cases hq2 : sub (r + 1) with
      | error z =>
        obtain ⟨c', q⟩ := z
        rw [hq2, ansX_err] at hsub2
        rw [th_err, ansX_err]
        have hf := fin_stop H0 T a l p d q c' q
        generalize PSt H0 T a l q d = L4 at *
        generalize PSt H0 T a l (r + 1) d = L3 at *
        generalize PSt H0 T a l r d = L2 at *
        generalize PSt H0 T a l p d = L1 at *
        generalize stopV (hereT l) c' q = sv at *
        generalize e.cells = ec at *
        generalize e.emb = ee at *
        simp (disch := first | (simp only [List.length_append, List.length_cons, List.length_nil]; omega) | (simp; done) | assumption) [AV.cells?, AV.isCell, -AV.cells?, Tryd.f56, E_esc, hsub, hsub2, hi0, hi1, hcx, hlx, htx, hex, z24', z6_len, c24, a24, k24, i24, hps, finPan, hf]
      | ok z =>
        obtain ⟨x, q⟩ := z
        rw [hq2, ansX_ok] at hsub2
        rw [th_ok, ansX_ok]
        have hbo := ev_both (n + 1) 14 e x (PSt H0 T a l q d)
        have hne := ev_one1 (n + 1) 18 (bothX 14 e x) (PSt H0 T a l q d)
        have hcz := xcells (oneX 18 (bothX 14 e x))
        have hlz := xlen (oneX 18 (bothX 14 e x))
        have htz := xtake (oneX 18 (bothX 14 e x))
        have hez := xemb (oneX 18 (bothX 14 e x))
        have hf := fin_X H0 T a l p d q (oneX 18 (bothX 14 e x))
        generalize PSt H0 T a l q d = L4 at *
        generalize PSt H0 T a l (r + 1) d = L3 at *
        generalize PSt H0 T a l r d = L2 at *
        generalize PSt H0 T a l p d = L1 at *
        generalize (oneX 18 (bothX 14 e x)).cells = zc at *
        generalize (oneX 18 (bothX 14 e x)).emb = ze at *
        generalize (bothX 14 e x).emb = be at *
        generalize e.cells = ec at *
        generalize e.emb = ee at *
        generalize x.emb = xe at *
        simp (disch := first | (simp only [List.length_append, List.length_cons, List.length_nil]; omega) | (simp; done) | assumption) [AV.cells?, AV.isCell, -AV.cells?, Tryd.f56, E_esc, hsub, hsub2, hi0, hi1, hbo, hne, hcz, hlz, htz, hez, hcx, hlx, htx, hex, z24', z6_len, z6, c24, a24, k24, i24, hps, hf]
    rw [if_neg hB1]
    simp only [Bool.not_eq_true] at hB1
    rw [hB1] at hi1
    simp only [Bool.false_eq_true, if_false] at hi1
    by_cases hB2 : isB (hereT l) r [60] = true
    · rw [if_pos hB2]
      rw [hB2] at hi2
      simp only [if_true] at hi2
      have hps : E.ps 56 7 = [(0, 2), (2, 2)] := rfl
      cases hq2 : sub (r + 1) with
      | error z =>
        obtain ⟨c', q⟩ := z
        rw [hq2, ansX_err] at hsub2
        rw [th_err, ansX_err]
        have hf := fin_stop H0 T a l p d q c' q
        generalize PSt H0 T a l q d = L4 at *
        generalize PSt H0 T a l (r + 1) d = L3 at *
        generalize PSt H0 T a l r d = L2 at *
        generalize PSt H0 T a l p d = L1 at *
        generalize stopV (hereT l) c' q = sv at *
        generalize e.cells = ec at *
        generalize e.emb = ee at *
        simp (disch := first | (simp only [List.length_append, List.length_cons, List.length_nil]; omega) | (simp; done) | assumption) [AV.cells?, AV.isCell, -AV.cells?, Tryd.f56, E_esc, hsub, hsub2, hi0, hi1, hi2, hcx, hlx, htx, hex, z24', z6_len, c24, a24, k24, i24, hps, finPan, hf]
      | ok z =>
        obtain ⟨x, q⟩ := z
        rw [hq2, ansX_ok] at hsub2
        rw [th_ok, ansX_ok]
        have hbo := ev_both (n + 1) 15 e x (PSt H0 T a l q d)
        have hne := ev_one1 (n + 1) 18 (bothX 15 e x) (PSt H0 T a l q d)
        have hcz := xcells (bothX 15 e x)
        have hlz := xlen (bothX 15 e x)
        have htz := xtake (bothX 15 e x)
        have hez := xemb (bothX 15 e x)
        have hf := fin_X H0 T a l p d q (bothX 15 e x)
        generalize PSt H0 T a l q d = L4 at *
        generalize PSt H0 T a l (r + 1) d = L3 at *
        generalize PSt H0 T a l r d = L2 at *
        generalize PSt H0 T a l p d = L1 at *
        generalize (bothX 15 e x).cells = zc at *
        generalize (bothX 15 e x).emb = ze at *
        generalize (bothX 15 e x).emb = be at *
        generalize e.cells = ec at *
        generalize e.emb = ee at *
        generalize x.emb = xe at *
        simp (disch := first | (simp only [List.length_append, List.length_cons, List.length_nil]; omega) | (simp; done) | assumption) [AV.cells?, AV.isCell, -AV.cells?, Tryd.f56, E_esc, hsub, hsub2, hi0, hi1, hi2, hbo, hne, hcz, hlz, htz, hez, hcx, hlx, htx, hex, z24', z6_len, z6, c24, a24, k24, i24, hps, hf]
    rw [if_neg hB2]
    simp only [Bool.not_eq_true] at hB2
    rw [hB2] at hi2
    simp only [Bool.false_eq_true, if_false] at hi2
    by_cases hB3 : isB (hereT l) r [60, 61] = true
    · rw [if_pos hB3]
      rw [hB3] at hi3
      simp only [if_true] at hi3
      have hps : E.ps 56 9 = [(0, 2), (2, 2)] := rfl
      cases hq2 : sub (r + 1) with
      | error z =>
        obtain ⟨c', q⟩ := z
        rw [hq2, ansX_err] at hsub2
        rw [th_err, ansX_err]
        have hf := fin_stop H0 T a l p d q c' q
        generalize PSt H0 T a l q d = L4 at *
        generalize PSt H0 T a l (r + 1) d = L3 at *
        generalize PSt H0 T a l r d = L2 at *
        generalize PSt H0 T a l p d = L1 at *
        generalize stopV (hereT l) c' q = sv at *
        generalize e.cells = ec at *
        generalize e.emb = ee at *
        simp (disch := first | (simp only [List.length_append, List.length_cons, List.length_nil]; omega) | (simp; done) | assumption) [AV.cells?, AV.isCell, -AV.cells?, Tryd.f56, E_esc, hsub, hsub2, hi0, hi1, hi2, hi3, hcx, hlx, htx, hex, z24', z6_len, c24, a24, k24, i24, hps, finPan, hf]
      | ok z =>
        obtain ⟨x, q⟩ := z
        rw [hq2, ansX_ok] at hsub2
        rw [th_ok, ansX_ok]
        have hbo := ev_both (n + 1) 16 e x (PSt H0 T a l q d)
        have hne := ev_one1 (n + 1) 18 (bothX 16 e x) (PSt H0 T a l q d)
        have hcz := xcells (bothX 16 e x)
        have hlz := xlen (bothX 16 e x)
        have htz := xtake (bothX 16 e x)
        have hez := xemb (bothX 16 e x)
        have hf := fin_X H0 T a l p d q (bothX 16 e x)
        generalize PSt H0 T a l q d = L4 at *
        generalize PSt H0 T a l (r + 1) d = L3 at *
        generalize PSt H0 T a l r d = L2 at *
        generalize PSt H0 T a l p d = L1 at *
        generalize (bothX 16 e x).cells = zc at *
        generalize (bothX 16 e x).emb = ze at *
        generalize (bothX 16 e x).emb = be at *
        generalize e.cells = ec at *
        generalize e.emb = ee at *
        generalize x.emb = xe at *
        simp (disch := first | (simp only [List.length_append, List.length_cons, List.length_nil]; omega) | (simp; done) | assumption) [AV.cells?, AV.isCell, -AV.cells?, Tryd.f56, E_esc, hsub, hsub2, hi0, hi1, hi2, hi3, hbo, hne, hcz, hlz, htz, hez, hcx, hlx, htx, hex, z24', z6_len, z6, c24, a24, k24, i24, hps, hf]
    rw [if_neg hB3]
    simp only [Bool.not_eq_true] at hB3
    rw [hB3] at hi3
    simp only [Bool.false_eq_true, if_false] at hi3
    by_cases hB4 : isB (hereT l) r [105, 110] = true
    · rw [if_pos hB4]
      rw [hB4] at hi4
      simp only [if_true] at hi4
      have hps : E.ps 56 11 = [(0, 2), (2, 2)] := rfl
      cases hq2 : sub (r + 1) with
      | error z =>
        obtain ⟨c', q⟩ := z
        rw [hq2, ansX_err] at hsub2
        rw [th_err, ansX_err]
        have hf := fin_stop H0 T a l p d q c' q
        generalize PSt H0 T a l q d = L4 at *
        generalize PSt H0 T a l (r + 1) d = L3 at *
        generalize PSt H0 T a l r d = L2 at *
        generalize PSt H0 T a l p d = L1 at *
        generalize stopV (hereT l) c' q = sv at *
        generalize e.cells = ec at *
        generalize e.emb = ee at *
        simp (disch := first | (simp only [List.length_append, List.length_cons, List.length_nil]; omega) | (simp; done) | assumption) [AV.cells?, AV.isCell, -AV.cells?, Tryd.f56, E_esc, hsub, hsub2, hi0, hi1, hi2, hi3, hi4, hcx, hlx, htx, hex, z24', z6_len, c24, a24, k24, i24, hps, finPan, hf]
      | ok z =>
        obtain ⟨x, q⟩ := z
        rw [hq2, ansX_ok] at hsub2
        rw [th_ok, ansX_ok]
        have hbo := ev_both (n + 1) 17 e x (PSt H0 T a l q d)
        have hne := ev_one1 (n + 1) 18 (bothX 17 e x) (PSt H0 T a l q d)
        have hcz := xcells (bothX 17 e x)
        have hlz := xlen (bothX 17 e x)
        have htz := xtake (bothX 17 e x)
        have hez := xemb (bothX 17 e x)
        have hf := fin_X H0 T a l p d q (bothX 17 e x)
        generalize PSt H0 T a l q d = L4 at *
        generalize PSt H0 T a l (r + 1) d = L3 at *
        generalize PSt H0 T a l r d = L2 at *
        generalize PSt H0 T a l p d = L1 at *
        generalize (bothX 17 e x).cells = zc at *
        generalize (bothX 17 e x).emb = ze at *
        generalize (bothX 17 e x).emb = be at *
        generalize e.cells = ec at *
        generalize e.emb = ee at *
        generalize x.emb = xe at *
        simp (disch := first | (simp only [List.length_append, List.length_cons, List.length_nil]; omega) | (simp; done) | assumption) [AV.cells?, AV.isCell, -AV.cells?, Tryd.f56, E_esc, hsub, hsub2, hi0, hi1, hi2, hi3, hi4, hbo, hne, hcz, hlz, htz, hez, hcx, hlx, htx, hex, z24', z6_len, z6, c24, a24, k24, i24, hps, hf]
    rw [if_neg hB4]
    simp only [Bool.not_eq_true] at hB4
    rw [hB4] at hi4
    simp only [Bool.false_eq_true, if_false] at hi4
    rw [ansX_ok]
    have hf := fin_X H0 T a l p d r e
    generalize PSt H0 T a l r d = L2 at *
    generalize PSt H0 T a l p d = L1 at *
    generalize e.cells = ec at *
    generalize e.emb = ee at *
    simp (disch := first | (simp only [List.length_append, List.length_cons, List.length_nil]; omega) | (simp; done) | assumption) [AV.cells?, AV.isCell, -AV.cells?, Tryd.f56, E_esc, hsub, hi0, hi1, hi2, hi3, hi4, hcx, hlx, htx, hex, z24', z6_len, z6, c24, a24, k24, i24, hf]
end
end Go.Proofs.YtemggoaefohliaaDoor.PS

/- The parser: argument, attribute, counted, span, evaluated. No condition. -/
namespace Go.Proofs.YtemggoaefohliaaDoor.PS
set_option linter.unusedVariables false
set_option linter.unusedSimpArgs false
open Go AE EX PT NF LX
set_option maxRecDepth 100000

/-- an answer: what a value is to the evaluator -/
def ansR {α : Type} (H0 : List HBox) (T : List Nat) (a : Nat) (l : List Tk) (d : Nat) (g : α → AV) : PR α → Option (Res × St)
  | .ok (x, q) => some (.ret (g x), PSt H0 T a l q d)
  | .error (c, q) => some (.pan (stopV (hereT l) c q), PSt H0 T a l q d)
theorem ansR_ok {α : Type} (H0 : List HBox) (T : List Nat) (a : Nat) (l : List Tk) (d : Nat) (g : α → AV) (x : α) (q : Nat) : ansR H0 T a l d g (.ok (x, q)) = some (.ret (g x), PSt H0 T a l q d) := rfl
theorem ansR_err {α : Type} (H0 : List HBox) (T : List Nat) (a : Nat) (l : List Tk) (d : Nat) (g : α → AV) (c : Int) (q : Nat) : ansR H0 T a l d g (.error (c, q)) = some (.pan (stopV (hereT l) c q), PSt H0 T a l q d) := rfl

section
variable {H0 : List HBox} {a : Nat} (ha : a < H0.length) (T : List Nat) (l : List Tk) (hl : l.length ≤ 2000000)
include ha hl
theorem ev_need (n p d : Nat) (c : UInt8) (q : List UInt8) : ev Tryd.prog E (n + 4) 75 [.ptr a 0, .str (c :: q)] (PSt H0 T a l p d) = ansR H0 T a l d (fun _ => .tup []) (needP (hereT l) (c :: q) p) := by
  unfold needP
  cases hB : isB (hereT l) p (c :: q)
  · rw [if_neg (by simp)]
    exact ev_needF ha T l hl n p d c q hB
  · rw [if_pos rfl]
    exact ev_needT ha T l hl n p d c q hB
theorem ev_take (n p d : Nat) (k : Int) (hk : k ≠ 5) : ev Tryd.prog E (n + 3) 81 [.ptr a 0, .int .i64 k] (PSt H0 T a l p d) = ansR H0 T a l d Tk.emb (takeP (hereT l) k p) := by
  unfold takeP
  by_cases h : (hereT l p).k = k
  · rw [if_pos h]
    exact ev_takeT ha T l hl n p d k hk h
  · rw [if_neg h]
    exact ev_takeF ha T l hl n p d k h
end
end Go.Proofs.YtemggoaefohliaaDoor.PS

/- The parser: argument, attribute, counted, span, evaluated (printed by gendp3.py). No condition. -/
namespace Go.Proofs.YtemggoaefohliaaDoor.PS
set_option linter.unusedVariables false
set_option linter.unusedSimpArgs false
open Go AE EX PT NF LX
set_option maxRecDepth 100000
theorem fin_ii (H0 : List HBox) (T : List Nat) (a : Nat) (l : List Tk) (p d q : Nat) (x y : Int) : finish (PSt H0 T a l p d) (.tup [.int .i64 x, .int .i64 y]) (PSt H0 T a l q d) = some (.tup [.int .i64 x, .int .i64 y], PSt H0 T a l q d) :=
  PSt_fin T l p d q d rfl rfl rfl
theorem leaf_emb (k : Int) (s : List UInt8) (n hi : Int) : (leafX k s n hi).emb = .agg [.int .i64 k, .str s, .int .i64 n, .int .i64 0, .int .i64 hi, .slice [] .clip] := rfl
theorem bX1' (k : Int) (s : List UInt8) : evBuild Tryd.prog 25 [(0, .int .i64 k), (1, .str s)] = some (.agg [.int .i64 k, .str s, .int .i64 0, .int .i64 0, .int .i64 0, .slice [] .clip]) := bX1 k s
section
variable {H0 : List HBox} {a : Nat} (ha : a < H0.length) (T : List Nat) (l : List Tk) (hl : l.length ≤ 2000000)
include ha hl
set_option maxHeartbeats 4000000 in
theorem ev79 (n d : Nat) (any : Nat → PR X) (hs : Sub H0 T a l d (n + 4) 27 any) : Sub H0 T a l d (n + 5) 79 (argP (hereT l) any) := by
  intro p
  rw [show n + 5 = (n + 4) + 1 from rfl, ev_enter (n := n + 4) (show E.ok 79 = true from rfl) Tryd.func79 (fn := Tryd.f79) rfl (Nat.le_of_ble_eq_true rfl) (by decide +kernel)]
  unfold argP
  have h1 : ev Tryd.prog E (n + 4) 75 [.ptr a 0, .str [40]] (PSt H0 T a l (p) d) = _ := ev_need ha T l hl n (p) d _ _
  cases e1 : needP (hereT l) [40] (p) with
  | error z =>
    obtain ⟨c', w⟩ := z
    rw [e1, ansR_err] at h1
    rw [th_err, ansX_err]
    have hf := fin_stop H0 T a l p d w c' w
    generalize PSt H0 T a l (w) d = L0 at *
    generalize PSt H0 T a l (p) d = L1 at *
    generalize stopV (hereT l) c' w = sv at *
    simp (disch := first | (simp only [List.length_append, List.length_cons, List.length_nil]; omega) | (simp; done) | assumption) [AV.cells?, AV.isCell, -AV.cells?, cq_int, cq_str, cq_slice, cq_bool, -evBuild, -evBuildSlice, Tryd.f79, E_esc, h1, z24', z6_len, c24, a24, k24, i24, tq46_0, tq46_1, tq46_2, tc46, ta46, tk46, ti46, tz46, fq0, fq3, fq4, fq5, c3, a3, k3, i3, c2, a2, k2, i2, c22, a22, k22, bq3, bq2, finPan, hf]
  | ok z =>
    obtain ⟨_u1, r1⟩ := z
    rw [e1, ansR_ok] at h1
    rw [th_ok]
    have h2 := hs (r1)
    cases e2 : any (r1) with
    | error z =>
      obtain ⟨c', w⟩ := z
      rw [e2, ansX_err] at h2
      rw [th_err, ansX_err]
      have hf := fin_stop H0 T a l p d w c' w
      generalize PSt H0 T a l (w) d = L0 at *
      generalize PSt H0 T a l (r1) d = L1 at *
      generalize PSt H0 T a l (p) d = L2 at *
      generalize stopV (hereT l) c' w = sv at *
      simp (disch := first | (simp only [List.length_append, List.length_cons, List.length_nil]; omega) | (simp; done) | assumption) [AV.cells?, AV.isCell, -AV.cells?, cq_int, cq_str, cq_slice, cq_bool, -evBuild, -evBuildSlice, Tryd.f79, E_esc, h1, h2, z24', z6_len, c24, a24, k24, i24, tq46_0, tq46_1, tq46_2, tc46, ta46, tk46, ti46, tz46, fq0, fq3, fq4, fq5, c3, a3, k3, i3, c2, a2, k2, i2, c22, a22, k22, bq3, bq2, finPan, hf]
    | ok z =>
      obtain ⟨x, r2⟩ := z
      rw [e2, ansX_ok] at h2
      rw [th_ok]
      have hcx := xcells x
      have hlx := xlen x
      have htx := xtake x
      have hex := xemb x
      have h3 : ev Tryd.prog E (n + 4) 75 [.ptr a 0, .str [41]] (PSt H0 T a l (r2) d) = _ := ev_need ha T l hl n (r2) d _ _
      cases e3 : needP (hereT l) [41] (r2) with
      | error z =>
        obtain ⟨c', w⟩ := z
        rw [e3, ansR_err] at h3
        rw [th_err, ansX_err]
        have hf := fin_stop H0 T a l p d w c' w
        generalize PSt H0 T a l (w) d = L0 at *
        generalize PSt H0 T a l (r2) d = L1 at *
        generalize PSt H0 T a l (r1) d = L2 at *
        generalize PSt H0 T a l (p) d = L3 at *
        generalize stopV (hereT l) c' w = sv at *
        generalize x.cells = xc at *
        generalize x.emb = xe at *
        simp (disch := first | (simp only [List.length_append, List.length_cons, List.length_nil]; omega) | (simp; done) | assumption) [AV.cells?, AV.isCell, -AV.cells?, cq_int, cq_str, cq_slice, cq_bool, -evBuild, -evBuildSlice, Tryd.f79, E_esc, h1, h2, h3, hcx, hlx, htx, hex, z24', z6_len, c24, a24, k24, i24, tq46_0, tq46_1, tq46_2, tc46, ta46, tk46, ti46, tz46, fq0, fq3, fq4, fq5, c3, a3, k3, i3, c2, a2, k2, i2, c22, a22, k22, bq3, bq2, finPan, hf]
      | ok z =>
        obtain ⟨_u3, r3⟩ := z
        rw [e3, ansR_ok] at h3
        rw [th_ok]
        rw [ansX_ok]
        have hf := fin_X H0 T a l p d (r3) (x)
        generalize PSt H0 T a l (r3) d = L0 at *
        generalize PSt H0 T a l (r2) d = L1 at *
        generalize PSt H0 T a l (r1) d = L2 at *
        generalize PSt H0 T a l (p) d = L3 at *
        generalize x.cells = xc at *
        generalize x.emb = xe at *
        simp (disch := first | (simp only [List.length_append, List.length_cons, List.length_nil]; omega) | (simp; done) | assumption) [AV.cells?, AV.isCell, -AV.cells?, cq_int, cq_str, cq_slice, cq_bool, -evBuild, -evBuildSlice, Tryd.f79, E_esc, h1, h2, h3, hcx, hlx, htx, hex, z24', z6_len, c24, a24, k24, i24, tq46_0, tq46_1, tq46_2, tc46, ta46, tk46, ti46, tz46, fq0, fq3, fq4, fq5, c3, a3, k3, i3, c2, a2, k2, i2, c22, a22, k22, bq3, bq2, z6, hf]
set_option maxHeartbeats 4000000 in
theorem ev77 (n p d : Nat) (side : Int) : ev Tryd.prog E (n + 5) 77 [.ptr a 0, .int .i64 side] (PSt H0 T a l p d) = ansX H0 T a l d (attrP (hereT l) side p) := by
  rw [show n + 5 = (n + 4) + 1 from rfl, ev_enter (n := n + 4) (show E.ok 77 = true from rfl) Tryd.func77 (fn := Tryd.f77) rfl (Nat.le_of_ble_eq_true rfl) (by decide +kernel)]
  unfold attrP
  have h1 : ev Tryd.prog E (n + 4) 75 [.ptr a 0, .str [46]] (PSt H0 T a l (p) d) = _ := ev_need ha T l hl n (p) d _ _
  cases e1 : needP (hereT l) [46] (p) with
  | error z =>
    obtain ⟨c', w⟩ := z
    rw [e1, ansR_err] at h1
    rw [th_err, ansX_err]
    have hf := fin_stop H0 T a l p d w c' w
    generalize PSt H0 T a l (w) d = L0 at *
    generalize PSt H0 T a l (p) d = L1 at *
    generalize stopV (hereT l) c' w = sv at *
    simp (disch := first | (simp only [List.length_append, List.length_cons, List.length_nil]; omega) | (simp; done) | assumption) [AV.cells?, AV.isCell, -AV.cells?, cq_int, cq_str, cq_slice, cq_bool, -evBuild, -evBuildSlice, Tryd.f77, E_esc, h1, z24', z6_len, c24, a24, k24, i24, tq46_0, tq46_1, tq46_2, tc46, ta46, tk46, ti46, tz46, fq0, fq3, fq4, fq5, c3, a3, k3, i3, c2, a2, k2, i2, c22, a22, k22, bq3, bq2, finPan, hf]
  | ok z =>
    obtain ⟨_u1, r1⟩ := z
    rw [e1, ansR_ok] at h1
    rw [th_ok]
    have h2 : ev Tryd.prog E (n + 4) 81 [.ptr a 0, .int .i64 1] (PSt H0 T a l (r1) d) = _ := ev_take ha T l hl (n + 1) (r1) d 1 (by decide)
    cases e2 : takeP (hereT l) 1 (r1) with
    | error z =>
      obtain ⟨c', w⟩ := z
      rw [e2, ansR_err] at h2
      rw [th_err, ansX_err]
      have hf := fin_stop H0 T a l p d w c' w
      generalize PSt H0 T a l (w) d = L0 at *
      generalize PSt H0 T a l (r1) d = L1 at *
      generalize PSt H0 T a l (p) d = L2 at *
      generalize stopV (hereT l) c' w = sv at *
      simp (disch := first | (simp only [List.length_append, List.length_cons, List.length_nil]; omega) | (simp; done) | assumption) [AV.cells?, AV.isCell, -AV.cells?, cq_int, cq_str, cq_slice, cq_bool, -evBuild, -evBuildSlice, Tryd.f77, E_esc, h1, h2, z24', z6_len, c24, a24, k24, i24, tq46_0, tq46_1, tq46_2, tc46, ta46, tk46, ti46, tz46, fq0, fq3, fq4, fq5, c3, a3, k3, i3, c2, a2, k2, i2, c22, a22, k22, bq3, bq2, finPan, hf]
    | ok z =>
      obtain ⟨t, r2⟩ := z
      rw [e2, ansR_ok] at h2
      rw [th_ok]
      obtain ⟨tk, ts, tn, tp⟩ := t
      simp only [Tk.emb, Tk.cells] at h2
      rw [ansX_ok]
      have hf := fin_X H0 T a l p d (r2) (leafX side ts 0 0)
      simp only [leaf_emb] at hf ⊢
      generalize PSt H0 T a l (r2) d = L0 at *
      generalize PSt H0 T a l (r1) d = L1 at *
      generalize PSt H0 T a l (p) d = L2 at *
      simp (disch := first | (simp only [List.length_append, List.length_cons, List.length_nil]; omega) | (simp; done) | assumption) [AV.cells?, AV.isCell, -AV.cells?, cq_int, cq_str, cq_slice, cq_bool, -evBuild, -evBuildSlice, Tryd.f77, E_esc, h1, h2, z24', z6_len, c24, a24, k24, i24, tq46_0, tq46_1, tq46_2, tc46, ta46, tk46, ti46, tz46, fq0, fq3, fq4, fq5, c3, a3, k3, i3, c2, a2, k2, i2, c22, a22, k22, bq3, bq2, bX1', z6, hf]
set_option maxHeartbeats 4000000 in
theorem ev78a (n p d : Nat) : ev Tryd.prog E (n + 5) 78 [.ptr a 0, .bool false] (PSt H0 T a l p d) = ansX H0 T a l d (actP (hereT l) p) := by
  rw [show n + 5 = (n + 4) + 1 from rfl, ev_enter (n := n + 4) (show E.ok 78 = true from rfl) Tryd.func78 (fn := Tryd.f78) rfl (Nat.le_of_ble_eq_true rfl) (by decide +kernel)]
  unfold actP
  have h1 : ev Tryd.prog E (n + 4) 75 [.ptr a 0, .str [40]] (PSt H0 T a l (p) d) = _ := ev_need ha T l hl n (p) d _ _
  cases e1 : needP (hereT l) [40] (p) with
  | error z =>
    obtain ⟨c', w⟩ := z
    rw [e1, ansR_err] at h1
    rw [th_err, ansX_err]
    have hf := fin_stop H0 T a l p d w c' w
    generalize PSt H0 T a l (w) d = L0 at *
    generalize PSt H0 T a l (p) d = L1 at *
    generalize stopV (hereT l) c' w = sv at *
    simp (disch := first | (simp only [List.length_append, List.length_cons, List.length_nil]; omega) | (simp; done) | assumption) [AV.cells?, AV.isCell, -AV.cells?, cq_int, cq_str, cq_slice, cq_bool, -evBuild, -evBuildSlice, Tryd.f78, E_esc, bX1', h1, z24', z6_len, c24, a24, k24, i24, tq46_0, tq46_1, tq46_2, tc46, ta46, tk46, ti46, tz46, fq0, fq3, fq4, fq5, c3, a3, k3, i3, c2, a2, k2, i2, c22, a22, k22, bq3, bq2, finPan, hf]
  | ok z =>
    obtain ⟨_u1, r1⟩ := z
    rw [e1, ansR_ok] at h1
    rw [th_ok]
    have h2 : ev Tryd.prog E (n + 4) 81 [.ptr a 0, .int .i64 1] (PSt H0 T a l (r1) d) = _ := ev_take ha T l hl (n + 1) (r1) d 1 (by decide)
    cases e2 : takeP (hereT l) 1 (r1) with
    | error z =>
      obtain ⟨c', w⟩ := z
      rw [e2, ansR_err] at h2
      rw [th_err, ansX_err]
      have hf := fin_stop H0 T a l p d w c' w
      generalize PSt H0 T a l (w) d = L0 at *
      generalize PSt H0 T a l (r1) d = L1 at *
      generalize PSt H0 T a l (p) d = L2 at *
      generalize stopV (hereT l) c' w = sv at *
      simp (disch := first | (simp only [List.length_append, List.length_cons, List.length_nil]; omega) | (simp; done) | assumption) [AV.cells?, AV.isCell, -AV.cells?, cq_int, cq_str, cq_slice, cq_bool, -evBuild, -evBuildSlice, Tryd.f78, E_esc, bX1', h1, h2, z24', z6_len, c24, a24, k24, i24, tq46_0, tq46_1, tq46_2, tc46, ta46, tk46, ti46, tz46, fq0, fq3, fq4, fq5, c3, a3, k3, i3, c2, a2, k2, i2, c22, a22, k22, bq3, bq2, finPan, hf]
    | ok z =>
      obtain ⟨t, r2⟩ := z
      rw [e2, ansR_ok] at h2
      rw [th_ok]
      obtain ⟨tk, ts, tn, tp⟩ := t
      simp only [Tk.emb, Tk.cells] at h2
      have h3 : ev Tryd.prog E (n + 4) 75 [.ptr a 0, .str [41]] (PSt H0 T a l (r2) d) = _ := ev_need ha T l hl n (r2) d _ _
      cases e3 : needP (hereT l) [41] (r2) with
      | error z =>
        obtain ⟨c', w⟩ := z
        rw [e3, ansR_err] at h3
        rw [th_err, ansX_err]
        have hf := fin_stop H0 T a l p d w c' w
        generalize PSt H0 T a l (w) d = L0 at *
        generalize PSt H0 T a l (r2) d = L1 at *
        generalize PSt H0 T a l (r1) d = L2 at *
        generalize PSt H0 T a l (p) d = L3 at *
        generalize stopV (hereT l) c' w = sv at *
        simp (disch := first | (simp only [List.length_append, List.length_cons, List.length_nil]; omega) | (simp; done) | assumption) [AV.cells?, AV.isCell, -AV.cells?, cq_int, cq_str, cq_slice, cq_bool, -evBuild, -evBuildSlice, Tryd.f78, E_esc, bX1', h1, h2, h3, z24', z6_len, c24, a24, k24, i24, tq46_0, tq46_1, tq46_2, tc46, ta46, tk46, ti46, tz46, fq0, fq3, fq4, fq5, c3, a3, k3, i3, c2, a2, k2, i2, c22, a22, k22, bq3, bq2, finPan, hf]
      | ok z =>
        obtain ⟨_u3, r3⟩ := z
        rw [e3, ansR_ok] at h3
        rw [th_ok]
        rw [ansX_ok]
        have hf := fin_X H0 T a l p d (r3) (leafX 21 ts 0 0)
        simp only [leaf_emb] at hf ⊢
        generalize PSt H0 T a l (r3) d = L0 at *
        generalize PSt H0 T a l (r2) d = L1 at *
        generalize PSt H0 T a l (r1) d = L2 at *
        generalize PSt H0 T a l (p) d = L3 at *
        simp (disch := first | (simp only [List.length_append, List.length_cons, List.length_nil]; omega) | (simp; done) | assumption) [AV.cells?, AV.isCell, -AV.cells?, cq_int, cq_str, cq_slice, cq_bool, -evBuild, -evBuildSlice, Tryd.f78, E_esc, bX1', h1, h2, h3, z24', z6_len, c24, a24, k24, i24, tq46_0, tq46_1, tq46_2, tc46, ta46, tk46, ti46, tz46, fq0, fq3, fq4, fq5, c3, a3, k3, i3, c2, a2, k2, i2, c22, a22, k22, bq3, bq2, z6, hf]
set_option maxHeartbeats 4000000 in
theorem ev78b (n p d : Nat) : ev Tryd.prog E (n + 5) 78 [.ptr a 0, .bool true] (PSt H0 T a l p d) = ansX H0 T a l d (timesP (hereT l) p) := by
  rw [show n + 5 = (n + 4) + 1 from rfl, ev_enter (n := n + 4) (show E.ok 78 = true from rfl) Tryd.func78 (fn := Tryd.f78) rfl (Nat.le_of_ble_eq_true rfl) (by decide +kernel)]
  unfold timesP
  have h1 : ev Tryd.prog E (n + 4) 75 [.ptr a 0, .str [40]] (PSt H0 T a l (p) d) = _ := ev_need ha T l hl n (p) d _ _
  cases e1 : needP (hereT l) [40] (p) with
  | error z =>
    obtain ⟨c', w⟩ := z
    rw [e1, ansR_err] at h1
    rw [th_err, ansX_err]
    have hf := fin_stop H0 T a l p d w c' w
    generalize PSt H0 T a l (w) d = L0 at *
    generalize PSt H0 T a l (p) d = L1 at *
    generalize stopV (hereT l) c' w = sv at *
    simp (disch := first | (simp only [List.length_append, List.length_cons, List.length_nil]; omega) | (simp; done) | assumption) [AV.cells?, AV.isCell, -AV.cells?, cq_int, cq_str, cq_slice, cq_bool, -evBuild, -evBuildSlice, Tryd.f78, E_esc, bX1', h1, z24', z6_len, c24, a24, k24, i24, tq46_0, tq46_1, tq46_2, tc46, ta46, tk46, ti46, tz46, fq0, fq3, fq4, fq5, c3, a3, k3, i3, c2, a2, k2, i2, c22, a22, k22, bq3, bq2, finPan, hf]
  | ok z =>
    obtain ⟨_u1, r1⟩ := z
    rw [e1, ansR_ok] at h1
    rw [th_ok]
    have h2 : ev Tryd.prog E (n + 4) 81 [.ptr a 0, .int .i64 1] (PSt H0 T a l (r1) d) = _ := ev_take ha T l hl (n + 1) (r1) d 1 (by decide)
    cases e2 : takeP (hereT l) 1 (r1) with
    | error z =>
      obtain ⟨c', w⟩ := z
      rw [e2, ansR_err] at h2
      rw [th_err, ansX_err]
      have hf := fin_stop H0 T a l p d w c' w
      generalize PSt H0 T a l (w) d = L0 at *
      generalize PSt H0 T a l (r1) d = L1 at *
      generalize PSt H0 T a l (p) d = L2 at *
      generalize stopV (hereT l) c' w = sv at *
      simp (disch := first | (simp only [List.length_append, List.length_cons, List.length_nil]; omega) | (simp; done) | assumption) [AV.cells?, AV.isCell, -AV.cells?, cq_int, cq_str, cq_slice, cq_bool, -evBuild, -evBuildSlice, Tryd.f78, E_esc, bX1', h1, h2, z24', z6_len, c24, a24, k24, i24, tq46_0, tq46_1, tq46_2, tc46, ta46, tk46, ti46, tz46, fq0, fq3, fq4, fq5, c3, a3, k3, i3, c2, a2, k2, i2, c22, a22, k22, bq3, bq2, finPan, hf]
    | ok z =>
      obtain ⟨t, r2⟩ := z
      rw [e2, ansR_ok] at h2
      rw [th_ok]
      obtain ⟨tk, ts, tn, tp⟩ := t
      simp only [Tk.emb, Tk.cells] at h2
      have h3 : ev Tryd.prog E (n + 4) 75 [.ptr a 0, .str [44]] (PSt H0 T a l (r2) d) = _ := ev_need ha T l hl n (r2) d _ _
      cases e3 : needP (hereT l) [44] (r2) with
      | error z =>
        obtain ⟨c', w⟩ := z
        rw [e3, ansR_err] at h3
        rw [th_err, ansX_err]
        have hf := fin_stop H0 T a l p d w c' w
        generalize PSt H0 T a l (w) d = L0 at *
        generalize PSt H0 T a l (r2) d = L1 at *
        generalize PSt H0 T a l (r1) d = L2 at *
        generalize PSt H0 T a l (p) d = L3 at *
        generalize stopV (hereT l) c' w = sv at *
        simp (disch := first | (simp only [List.length_append, List.length_cons, List.length_nil]; omega) | (simp; done) | assumption) [AV.cells?, AV.isCell, -AV.cells?, cq_int, cq_str, cq_slice, cq_bool, -evBuild, -evBuildSlice, Tryd.f78, E_esc, bX1', h1, h2, h3, z24', z6_len, c24, a24, k24, i24, tq46_0, tq46_1, tq46_2, tc46, ta46, tk46, ti46, tz46, fq0, fq3, fq4, fq5, c3, a3, k3, i3, c2, a2, k2, i2, c22, a22, k22, bq3, bq2, finPan, hf]
      | ok z =>
        obtain ⟨_u3, r3⟩ := z
        rw [e3, ansR_ok] at h3
        rw [th_ok]
        have h4 : ev Tryd.prog E (n + 4) 81 [.ptr a 0, .int .i64 2] (PSt H0 T a l (r3) d) = _ := ev_take ha T l hl (n + 1) (r3) d 2 (by decide)
        cases e4 : takeP (hereT l) 2 (r3) with
        | error z =>
          obtain ⟨c', w⟩ := z
          rw [e4, ansR_err] at h4
          rw [th_err, ansX_err]
          have hf := fin_stop H0 T a l p d w c' w
          generalize PSt H0 T a l (w) d = L0 at *
          generalize PSt H0 T a l (r3) d = L1 at *
          generalize PSt H0 T a l (r2) d = L2 at *
          generalize PSt H0 T a l (r1) d = L3 at *
          generalize PSt H0 T a l (p) d = L4 at *
          generalize stopV (hereT l) c' w = sv at *
          simp (disch := first | (simp only [List.length_append, List.length_cons, List.length_nil]; omega) | (simp; done) | assumption) [AV.cells?, AV.isCell, -AV.cells?, cq_int, cq_str, cq_slice, cq_bool, -evBuild, -evBuildSlice, Tryd.f78, E_esc, bX1', h1, h2, h3, h4, z24', z6_len, c24, a24, k24, i24, tq46_0, tq46_1, tq46_2, tc46, ta46, tk46, ti46, tz46, fq0, fq3, fq4, fq5, c3, a3, k3, i3, c2, a2, k2, i2, c22, a22, k22, bq3, bq2, finPan, hf]
        | ok z =>
          obtain ⟨u, r4⟩ := z
          rw [e4, ansR_ok] at h4
          rw [th_ok]
          obtain ⟨uk, us, un, up⟩ := u
          simp only [Tk.emb, Tk.cells] at h4
          have h5 : ev Tryd.prog E (n + 4) 75 [.ptr a 0, .str [41]] (PSt H0 T a l (r4) d) = _ := ev_need ha T l hl n (r4) d _ _
          cases e5 : needP (hereT l) [41] (r4) with
          | error z =>
            obtain ⟨c', w⟩ := z
            rw [e5, ansR_err] at h5
            rw [th_err, ansX_err]
            have hf := fin_stop H0 T a l p d w c' w
            generalize PSt H0 T a l (w) d = L0 at *
            generalize PSt H0 T a l (r4) d = L1 at *
            generalize PSt H0 T a l (r3) d = L2 at *
            generalize PSt H0 T a l (r2) d = L3 at *
            generalize PSt H0 T a l (r1) d = L4 at *
            generalize PSt H0 T a l (p) d = L5 at *
            generalize stopV (hereT l) c' w = sv at *
            simp (disch := first | (simp only [List.length_append, List.length_cons, List.length_nil]; omega) | (simp; done) | assumption) [AV.cells?, AV.isCell, -AV.cells?, cq_int, cq_str, cq_slice, cq_bool, -evBuild, -evBuildSlice, Tryd.f78, E_esc, bX1', h1, h2, h3, h4, h5, z24', z6_len, c24, a24, k24, i24, tq46_0, tq46_1, tq46_2, tc46, ta46, tk46, ti46, tz46, fq0, fq3, fq4, fq5, c3, a3, k3, i3, c2, a2, k2, i2, c22, a22, k22, bq3, bq2, finPan, hf]
          | ok z =>
            obtain ⟨_u5, r5⟩ := z
            rw [e5, ansR_ok] at h5
            rw [th_ok]
            rw [ansX_ok]
            have hf := fin_X H0 T a l p d (r5) (leafX 13 ts 0 un)
            simp only [leaf_emb] at hf ⊢
            generalize PSt H0 T a l (r5) d = L0 at *
            generalize PSt H0 T a l (r4) d = L1 at *
            generalize PSt H0 T a l (r3) d = L2 at *
            generalize PSt H0 T a l (r2) d = L3 at *
            generalize PSt H0 T a l (r1) d = L4 at *
            generalize PSt H0 T a l (p) d = L5 at *
            simp (disch := first | (simp only [List.length_append, List.length_cons, List.length_nil]; omega) | (simp; done) | assumption) [AV.cells?, AV.isCell, -AV.cells?, cq_int, cq_str, cq_slice, cq_bool, -evBuild, -evBuildSlice, Tryd.f78, E_esc, bX1', h1, h2, h3, h4, h5, z24', z6_len, c24, a24, k24, i24, tq46_0, tq46_1, tq46_2, tc46, ta46, tk46, ti46, tz46, fq0, fq3, fq4, fq5, c3, a3, k3, i3, c2, a2, k2, i2, c22, a22, k22, bq3, bq2, z6, hf]
set_option maxHeartbeats 4000000 in
theorem ev82 (n p d : Nat) : ev Tryd.prog E (n + 5) 82 [.ptr a 0] (PSt H0 T a l p d) = ansR H0 T a l d (fun x : Int × Int => .tup [.int .i64 x.1, .int .i64 x.2]) (spanP (hereT l) p) := by
  rw [show n + 5 = (n + 4) + 1 from rfl, ev_enter (n := n + 4) (show E.ok 82 = true from rfl) Tryd.func82 (fn := Tryd.f82) rfl (Nat.le_of_ble_eq_true rfl) (by decide +kernel)]
  unfold spanP
  have h1 : ev Tryd.prog E (n + 4) 75 [.ptr a 0, .str [91]] (PSt H0 T a l (p) d) = _ := ev_need ha T l hl n (p) d _ _
  cases e1 : needP (hereT l) [91] (p) with
  | error z =>
    obtain ⟨c', w⟩ := z
    rw [e1, ansR_err] at h1
    rw [th_err, ansR_err]
    have hf := fin_stop H0 T a l p d w c' w
    generalize PSt H0 T a l (w) d = L0 at *
    generalize PSt H0 T a l (p) d = L1 at *
    generalize stopV (hereT l) c' w = sv at *
    simp (disch := first | (simp only [List.length_append, List.length_cons, List.length_nil]; omega) | (simp; done) | assumption) [AV.cells?, AV.isCell, -AV.cells?, cq_int, cq_str, cq_slice, cq_bool, -evBuild, -evBuildSlice, Tryd.f82, E_esc, h1, z24', z6_len, c24, a24, k24, i24, tq46_0, tq46_1, tq46_2, tc46, ta46, tk46, ti46, tz46, fq0, fq3, fq4, fq5, c3, a3, k3, i3, c2, a2, k2, i2, c22, a22, k22, bq3, bq2, finPan, hf]
  | ok z =>
    obtain ⟨_u1, r1⟩ := z
    rw [e1, ansR_ok] at h1
    rw [th_ok]
    have h2 : ev Tryd.prog E (n + 4) 81 [.ptr a 0, .int .i64 2] (PSt H0 T a l (r1) d) = _ := ev_take ha T l hl (n + 1) (r1) d 2 (by decide)
    cases e2 : takeP (hereT l) 2 (r1) with
    | error z =>
      obtain ⟨c', w⟩ := z
      rw [e2, ansR_err] at h2
      rw [th_err, ansR_err]
      have hf := fin_stop H0 T a l p d w c' w
      generalize PSt H0 T a l (w) d = L0 at *
      generalize PSt H0 T a l (r1) d = L1 at *
      generalize PSt H0 T a l (p) d = L2 at *
      generalize stopV (hereT l) c' w = sv at *
      simp (disch := first | (simp only [List.length_append, List.length_cons, List.length_nil]; omega) | (simp; done) | assumption) [AV.cells?, AV.isCell, -AV.cells?, cq_int, cq_str, cq_slice, cq_bool, -evBuild, -evBuildSlice, Tryd.f82, E_esc, h1, h2, z24', z6_len, c24, a24, k24, i24, tq46_0, tq46_1, tq46_2, tc46, ta46, tk46, ti46, tz46, fq0, fq3, fq4, fq5, c3, a3, k3, i3, c2, a2, k2, i2, c22, a22, k22, bq3, bq2, finPan, hf]
    | ok z =>
      obtain ⟨t, r2⟩ := z
      rw [e2, ansR_ok] at h2
      rw [th_ok]
      obtain ⟨tk, ts, tn, tp⟩ := t
      simp only [Tk.emb, Tk.cells] at h2
      have h3 : ev Tryd.prog E (n + 4) 75 [.ptr a 0, .str [44]] (PSt H0 T a l (r2) d) = _ := ev_need ha T l hl n (r2) d _ _
      cases e3 : needP (hereT l) [44] (r2) with
      | error z =>
        obtain ⟨c', w⟩ := z
        rw [e3, ansR_err] at h3
        rw [th_err, ansR_err]
        have hf := fin_stop H0 T a l p d w c' w
        generalize PSt H0 T a l (w) d = L0 at *
        generalize PSt H0 T a l (r2) d = L1 at *
        generalize PSt H0 T a l (r1) d = L2 at *
        generalize PSt H0 T a l (p) d = L3 at *
        generalize stopV (hereT l) c' w = sv at *
        simp (disch := first | (simp only [List.length_append, List.length_cons, List.length_nil]; omega) | (simp; done) | assumption) [AV.cells?, AV.isCell, -AV.cells?, cq_int, cq_str, cq_slice, cq_bool, -evBuild, -evBuildSlice, Tryd.f82, E_esc, h1, h2, h3, z24', z6_len, c24, a24, k24, i24, tq46_0, tq46_1, tq46_2, tc46, ta46, tk46, ti46, tz46, fq0, fq3, fq4, fq5, c3, a3, k3, i3, c2, a2, k2, i2, c22, a22, k22, bq3, bq2, finPan, hf]
      | ok z =>
        obtain ⟨_u3, r3⟩ := z
        rw [e3, ansR_ok] at h3
        rw [th_ok]
        have hi : ev Tryd.prog E (n + 4) 44 [.ptr a 0, .str [42]] (PSt H0 T a l (r3) d) = _ := ev_is ha T l hl (n + 2) (r3) d _ _
        by_cases hB : isB (hereT l) (r3) [42] = true
        · rw [if_pos hB]
          rw [hB] at hi
          simp only [if_true] at hi
          have h11 : ev Tryd.prog E (n + 4) 75 [.ptr a 0, .str [93]] (PSt H0 T a l (r3 + 1) d) = _ := ev_need ha T l hl n (r3 + 1) d _ _
          cases e11 : needP (hereT l) [93] (r3 + 1) with
          | error z =>
            obtain ⟨c', w⟩ := z
            rw [e11, ansR_err] at h11
            rw [th_err, ansR_err]
            have hf := fin_stop H0 T a l p d w c' w
            generalize PSt H0 T a l (w) d = L0 at *
            generalize PSt H0 T a l (r3 + 1) d = L1 at *
            generalize PSt H0 T a l (r3) d = L2 at *
            generalize PSt H0 T a l (r2) d = L3 at *
            generalize PSt H0 T a l (r1) d = L4 at *
            generalize PSt H0 T a l (p) d = L5 at *
            generalize stopV (hereT l) c' w = sv at *
            simp (disch := first | (simp only [List.length_append, List.length_cons, List.length_nil]; omega) | (simp; done) | assumption) [AV.cells?, AV.isCell, -AV.cells?, cq_int, cq_str, cq_slice, cq_bool, -evBuild, -evBuildSlice, Tryd.f82, E_esc, h1, h2, h3, hi, h11, z24', z6_len, c24, a24, k24, i24, tq46_0, tq46_1, tq46_2, tc46, ta46, tk46, ti46, tz46, fq0, fq3, fq4, fq5, c3, a3, k3, i3, c2, a2, k2, i2, c22, a22, k22, bq3, bq2, finPan, hf]
          | ok z =>
            obtain ⟨_u11, r11⟩ := z
            rw [e11, ansR_ok] at h11
            rw [th_ok]
            rw [ansR_ok]
            have hf := fin_ii H0 T a l p d (r11) (tn) (-1)
            generalize PSt H0 T a l (r11) d = L0 at *
            generalize PSt H0 T a l (r3 + 1) d = L1 at *
            generalize PSt H0 T a l (r3) d = L2 at *
            generalize PSt H0 T a l (r2) d = L3 at *
            generalize PSt H0 T a l (r1) d = L4 at *
            generalize PSt H0 T a l (p) d = L5 at *
            simp (disch := first | (simp only [List.length_append, List.length_cons, List.length_nil]; omega) | (simp; done) | assumption) [AV.cells?, AV.isCell, -AV.cells?, cq_int, cq_str, cq_slice, cq_bool, -evBuild, -evBuildSlice, Tryd.f82, E_esc, h1, h2, h3, hi, h11, z24', z6_len, c24, a24, k24, i24, tq46_0, tq46_1, tq46_2, tc46, ta46, tk46, ti46, tz46, fq0, fq3, fq4, fq5, c3, a3, k3, i3, c2, a2, k2, i2, c22, a22, k22, bq3, bq2, hf]
        · rw [if_neg hB]
          simp only [Bool.not_eq_true] at hB
          rw [hB] at hi
          simp only [Bool.false_eq_true, if_false] at hi
          have h21 : ev Tryd.prog E (n + 4) 81 [.ptr a 0, .int .i64 2] (PSt H0 T a l (r3) d) = _ := ev_take ha T l hl (n + 1) (r3) d 2 (by decide)
          cases e21 : takeP (hereT l) 2 (r3) with
          | error z =>
            obtain ⟨c', w⟩ := z
            rw [e21, ansR_err] at h21
            rw [th_err, ansR_err]
            have hf := fin_stop H0 T a l p d w c' w
            generalize PSt H0 T a l (w) d = L0 at *
            generalize PSt H0 T a l (r3) d = L1 at *
            generalize PSt H0 T a l (r2) d = L2 at *
            generalize PSt H0 T a l (r1) d = L3 at *
            generalize PSt H0 T a l (p) d = L4 at *
            generalize stopV (hereT l) c' w = sv at *
            simp (disch := first | (simp only [List.length_append, List.length_cons, List.length_nil]; omega) | (simp; done) | assumption) [AV.cells?, AV.isCell, -AV.cells?, cq_int, cq_str, cq_slice, cq_bool, -evBuild, -evBuildSlice, Tryd.f82, E_esc, h1, h2, h3, hi, h21, z24', z6_len, c24, a24, k24, i24, tq46_0, tq46_1, tq46_2, tc46, ta46, tk46, ti46, tz46, fq0, fq3, fq4, fq5, c3, a3, k3, i3, c2, a2, k2, i2, c22, a22, k22, bq3, bq2, finPan, hf]
          | ok z =>
            obtain ⟨u, r21⟩ := z
            rw [e21, ansR_ok] at h21
            rw [th_ok]
            obtain ⟨uk, us, un, up⟩ := u
            simp only [Tk.emb, Tk.cells] at h21
            by_cases hlt : un < tn
            · rw [if_pos (show (⟨uk, us, un, up⟩ : Tk).n < (⟨tk, ts, tn, tp⟩ : Tk).n from hlt), ansR_err]
              have hfl := ev_fail ha T l hl (n + 2) (r21) d 16
              have hf := fin_stop H0 T a l p d (r21) 16 (r21)
              generalize PSt H0 T a l (r21) d = L0 at *
              generalize PSt H0 T a l (r3) d = L1 at *
              generalize PSt H0 T a l (r2) d = L2 at *
              generalize PSt H0 T a l (r1) d = L3 at *
              generalize PSt H0 T a l (p) d = L4 at *
              generalize stopV (hereT l) 16 (r21) = sv at *
              simp (disch := first | (simp only [List.length_append, List.length_cons, List.length_nil]; omega) | (simp; done) | assumption) [AV.cells?, AV.isCell, -AV.cells?, cq_int, cq_str, cq_slice, cq_bool, -evBuild, -evBuildSlice, Tryd.f82, E_esc, h1, h2, h3, hi, h21, z24', z6_len, c24, a24, k24, i24, tq46_0, tq46_1, tq46_2, tc46, ta46, tk46, ti46, tz46, fq0, fq3, fq4, fq5, c3, a3, k3, i3, c2, a2, k2, i2, c22, a22, k22, bq3, bq2, hlt, hfl, finPan, hf]
            · rw [if_neg (show ¬ (⟨uk, us, un, up⟩ : Tk).n < (⟨tk, ts, tn, tp⟩ : Tk).n from hlt)]
              have h31 : ev Tryd.prog E (n + 4) 75 [.ptr a 0, .str [93]] (PSt H0 T a l (r21) d) = _ := ev_need ha T l hl n (r21) d _ _
              cases e31 : needP (hereT l) [93] (r21) with
              | error z =>
                obtain ⟨c', w⟩ := z
                rw [e31, ansR_err] at h31
                rw [th_err, ansR_err]
                have hf := fin_stop H0 T a l p d w c' w
                generalize PSt H0 T a l (w) d = L0 at *
                generalize PSt H0 T a l (r21) d = L1 at *
                generalize PSt H0 T a l (r3) d = L2 at *
                generalize PSt H0 T a l (r2) d = L3 at *
                generalize PSt H0 T a l (r1) d = L4 at *
                generalize PSt H0 T a l (p) d = L5 at *
                generalize stopV (hereT l) c' w = sv at *
                simp (disch := first | (simp only [List.length_append, List.length_cons, List.length_nil]; omega) | (simp; done) | assumption) [AV.cells?, AV.isCell, -AV.cells?, cq_int, cq_str, cq_slice, cq_bool, -evBuild, -evBuildSlice, Tryd.f82, E_esc, h1, h2, h3, hi, h21, hlt, h31, z24', z6_len, c24, a24, k24, i24, tq46_0, tq46_1, tq46_2, tc46, ta46, tk46, ti46, tz46, fq0, fq3, fq4, fq5, c3, a3, k3, i3, c2, a2, k2, i2, c22, a22, k22, bq3, bq2, finPan, hf]
              | ok z =>
                obtain ⟨_u31, r31⟩ := z
                rw [e31, ansR_ok] at h31
                rw [th_ok]
                rw [ansR_ok]
                have hf := fin_ii H0 T a l p d (r31) (tn) (un)
                generalize PSt H0 T a l (r31) d = L0 at *
                generalize PSt H0 T a l (r21) d = L1 at *
                generalize PSt H0 T a l (r3) d = L2 at *
                generalize PSt H0 T a l (r2) d = L3 at *
                generalize PSt H0 T a l (r1) d = L4 at *
                generalize PSt H0 T a l (p) d = L5 at *
                simp (disch := first | (simp only [List.length_append, List.length_cons, List.length_nil]; omega) | (simp; done) | assumption) [AV.cells?, AV.isCell, -AV.cells?, cq_int, cq_str, cq_slice, cq_bool, -evBuild, -evBuildSlice, Tryd.f82, E_esc, h1, h2, h3, hi, h21, hlt, h31, z24', z6_len, c24, a24, k24, i24, tq46_0, tq46_1, tq46_2, tc46, ta46, tk46, ti46, tz46, fq0, fq3, fq4, fq5, c3, a3, k3, i3, c2, a2, k2, i2, c22, a22, k22, bq3, bq2, hf]
end
end Go.Proofs.YtemggoaefohliaaDoor.PS

/- The parser: timed, signed, named, evaluated (printed by gendp4.py). No condition. -/
namespace Go.Proofs.YtemggoaefohliaaDoor.PS
set_option linter.unusedVariables false
set_option linter.unusedSimpArgs false
open Go AE EX PT NF LX
set_option maxRecDepth 100000
theorem i22 : (Tryd.prog.info? 23).isSome = true := by kernel_rfl
theorem embL1 (x : X) : embL [x] = [x.emb] := rfl
theorem embL2 (x y : X) : embL [x, y] = [x.emb, y.emb] := rfl
theorem bS1' (x : X) : evBuildSlice Tryd.prog 23 1 [(0, x.emb)] = some (.slice [x.emb] .clip) := bS1 x
theorem bS2' (x y : X) : evBuildSlice Tryd.prog 23 2 [(0, x.emb), (1, y.emb)] = some (.slice [x.emb, y.emb] .clip) := bS2 x y
theorem mk_emb (k : Int) (lo hi : Int) (ks : List X) : (X.mk k [] 0 lo hi true ks).emb = .agg [.int .i64 k, .str [], .int .i64 0, .int .i64 lo, .int .i64 hi, .slice (embL ks) .clip] := rfl
theorem bX0' (k : Int) : evBuild Tryd.prog 25 [(0, .int .i64 k)] = some (.agg [.int .i64 k, .str [], .int .i64 0, .int .i64 0, .int .i64 0, .slice [] .clip]) := bX0 k
section
variable {H0 : List HBox} {a : Nat} (ha : a < H0.length) (T : List Nat) (l : List Tk) (hl : l.length ≤ 2000000)
include ha hl
set_option maxHeartbeats 8000000 in
theorem ev80 (n d : Nat) (any : Nat → PR X) (hA : Sub H0 T a l d (n + 5) 79 (argP (hereT l) any)) (hs : Sub H0 T a l d (n + 5) 27 any) : Sub H0 T a l d (n + 6) 80 (timedP (hereT l) any) := by
  intro p
  rw [show n + 6 = (n + 5) + 1 from rfl, ev_enter (n := n + 5) (show E.ok 80 = true from rfl) Tryd.func80 (fn := Tryd.f80) rfl (Nat.le_of_ble_eq_true rfl) (by decide +kernel)]
  unfold timedP
  have i1 : ev Tryd.prog E (n + 5) 44 [.ptr a 0, .str [111, 110, 99, 101]] (PSt H0 T a l (p) d) = _ := ev_is ha T l hl (n + 3) (p) d _ _
  by_cases b1 : isB (hereT l) (p) [111, 110, 99, 101] = true
  · rw [if_pos b1]
    have ilt := is_lt b1
    have ib := b1
    rw [b1] at i1
    simp only [if_true] at i1
    unfold lookP
    have h2 := ev82 ha T l hl n (p + 1) d
    cases e2 : spanP (hereT l) (p + 1) with
    | error z =>
      obtain ⟨c', w⟩ := z
      rw [e2, ansR_err] at h2
      rw [th_err, ansX_err]
      have hf := fin_stop H0 T a l p d w c' w
      generalize PSt H0 T a l (w) d = L0 at *
      generalize PSt H0 T a l (p + 1) d = L1 at *
      generalize PSt H0 T a l (p) d = L2 at *
      generalize stopV (hereT l) c' w = sv at *
      simp (disch := first | (simp only [List.length_append, List.length_cons, List.length_nil]; omega) | (simp; done) | assumption) [AV.cells?, AV.isCell, -AV.cells?, cq_int, cq_str, cq_slice, cq_bool, -evBuild, -evBuildSlice, Tryd.f80, E_esc, i1, h2, finPan, hf, z24, c24, a24, k24, i24, tq46_0, tq46_1, tq46_2, tc46, ta46, tk46, ti46, tz46, fq0, fq3, fq4, fq5, c3, a3, k3, i3, c2, a2, k2, i2, c22, a22, k22, i22, bq3, bq2]
    | ok z =>
      obtain ⟨lh, r2⟩ := z
      rw [e2, ansR_ok] at h2
      rw [th_ok]
      obtain ⟨lo, hi⟩ := lh; simp only at h2
      have h3 := hA (r2)
      cases e3 : argP (hereT l) any (r2) with
      | error z =>
        obtain ⟨c', w⟩ := z
        rw [e3, ansX_err] at h3
        rw [th_err, ansX_err]
        have hf := fin_stop H0 T a l p d w c' w
        generalize PSt H0 T a l (w) d = L0 at *
        generalize PSt H0 T a l (r2) d = L1 at *
        generalize PSt H0 T a l (p + 1) d = L2 at *
        generalize PSt H0 T a l (p) d = L3 at *
        generalize stopV (hereT l) c' w = sv at *
        simp (disch := first | (simp only [List.length_append, List.length_cons, List.length_nil]; omega) | (simp; done) | assumption) [AV.cells?, AV.isCell, -AV.cells?, cq_int, cq_str, cq_slice, cq_bool, -evBuild, -evBuildSlice, Tryd.f80, E_esc, i1, h2, h3, finPan, hf, z24, c24, a24, k24, i24, tq46_0, tq46_1, tq46_2, tc46, ta46, tk46, ti46, tz46, fq0, fq3, fq4, fq5, c3, a3, k3, i3, c2, a2, k2, i2, c22, a22, k22, i22, bq3, bq2]
      | ok z =>
        obtain ⟨x, r3⟩ := z
        rw [e3, ansX_ok] at h3
        rw [th_ok]
        have hcx := xcells x
        have hlx := xlen x
        have htx := xtake x
        have hex := xemb x
        rw [ansX_ok]
        have hf := fin_X H0 T a l p d (r3) (X.mk 22 [] 0 lo hi true [x])
        have hbs := bS1' x
        simp only [mk_emb, embL1] at hf ⊢
        generalize PSt H0 T a l (r3) d = L0 at *
        generalize PSt H0 T a l (r2) d = L1 at *
        generalize PSt H0 T a l (p + 1) d = L2 at *
        generalize PSt H0 T a l (p) d = L3 at *
        generalize x.cells = xc at *
        generalize x.emb = xe at *
        simp (disch := first | (simp only [List.length_append, List.length_cons, List.length_nil]; omega) | (simp; done) | assumption) [AV.cells?, AV.isCell, -AV.cells?, cq_int, cq_str, cq_slice, cq_bool, -evBuild, -evBuildSlice, Tryd.f80, E_esc, i1, h2, h3, hcx, hlx, htx, hex, hbs, hf, z24, c24, a24, k24, i24, tq46_0, tq46_1, tq46_2, tc46, ta46, tk46, ti46, tz46, fq0, fq3, fq4, fq5, c3, a3, k3, i3, c2, a2, k2, i2, c22, a22, k22, i22, bq3, bq2]
  · rw [if_neg b1]
    simp only [Bool.not_eq_true] at b1
    rw [b1] at i1
    simp only [Bool.false_eq_true, if_false] at i1
    have i4 : ev Tryd.prog E (n + 5) 44 [.ptr a 0, .str [104, 105, 115, 116]] (PSt H0 T a l (p) d) = _ := ev_is ha T l hl (n + 3) (p) d _ _
    by_cases b4 : isB (hereT l) (p) [104, 105, 115, 116] = true
    · rw [if_pos b4]
      have ilt := is_lt b4
      have ib := b4
      rw [b4] at i4
      simp only [if_true] at i4
      unfold lookP
      have h5 := ev82 ha T l hl n (p + 1) d
      cases e5 : spanP (hereT l) (p + 1) with
      | error z =>
        obtain ⟨c', w⟩ := z
        rw [e5, ansR_err] at h5
        rw [th_err, ansX_err]
        have hf := fin_stop H0 T a l p d w c' w
        generalize PSt H0 T a l (w) d = L0 at *
        generalize PSt H0 T a l (p + 1) d = L1 at *
        generalize PSt H0 T a l (p) d = L2 at *
        generalize stopV (hereT l) c' w = sv at *
        simp (disch := first | (simp only [List.length_append, List.length_cons, List.length_nil]; omega) | (simp; done) | assumption) [AV.cells?, AV.isCell, -AV.cells?, cq_int, cq_str, cq_slice, cq_bool, -evBuild, -evBuildSlice, Tryd.f80, E_esc, i1, i4, h5, finPan, hf, z24, c24, a24, k24, i24, tq46_0, tq46_1, tq46_2, tc46, ta46, tk46, ti46, tz46, fq0, fq3, fq4, fq5, c3, a3, k3, i3, c2, a2, k2, i2, c22, a22, k22, i22, bq3, bq2]
      | ok z =>
        obtain ⟨lh, r5⟩ := z
        rw [e5, ansR_ok] at h5
        rw [th_ok]
        obtain ⟨lo, hi⟩ := lh; simp only at h5
        have h6 := hA (r5)
        cases e6 : argP (hereT l) any (r5) with
        | error z =>
          obtain ⟨c', w⟩ := z
          rw [e6, ansX_err] at h6
          rw [th_err, ansX_err]
          have hf := fin_stop H0 T a l p d w c' w
          generalize PSt H0 T a l (w) d = L0 at *
          generalize PSt H0 T a l (r5) d = L1 at *
          generalize PSt H0 T a l (p + 1) d = L2 at *
          generalize PSt H0 T a l (p) d = L3 at *
          generalize stopV (hereT l) c' w = sv at *
          simp (disch := first | (simp only [List.length_append, List.length_cons, List.length_nil]; omega) | (simp; done) | assumption) [AV.cells?, AV.isCell, -AV.cells?, cq_int, cq_str, cq_slice, cq_bool, -evBuild, -evBuildSlice, Tryd.f80, E_esc, i1, i4, h5, h6, finPan, hf, z24, c24, a24, k24, i24, tq46_0, tq46_1, tq46_2, tc46, ta46, tk46, ti46, tz46, fq0, fq3, fq4, fq5, c3, a3, k3, i3, c2, a2, k2, i2, c22, a22, k22, i22, bq3, bq2]
        | ok z =>
          obtain ⟨x, r6⟩ := z
          rw [e6, ansX_ok] at h6
          rw [th_ok]
          have hcx := xcells x
          have hlx := xlen x
          have htx := xtake x
          have hex := xemb x
          rw [ansX_ok]
          have hf := fin_X H0 T a l p d (r6) (X.mk 23 [] 0 lo hi true [x])
          have hbs := bS1' x
          simp only [mk_emb, embL1] at hf ⊢
          generalize PSt H0 T a l (r6) d = L0 at *
          generalize PSt H0 T a l (r5) d = L1 at *
          generalize PSt H0 T a l (p + 1) d = L2 at *
          generalize PSt H0 T a l (p) d = L3 at *
          generalize x.cells = xc at *
          generalize x.emb = xe at *
          simp (disch := first | (simp only [List.length_append, List.length_cons, List.length_nil]; omega) | (simp; done) | assumption) [AV.cells?, AV.isCell, -AV.cells?, cq_int, cq_str, cq_slice, cq_bool, -evBuild, -evBuildSlice, Tryd.f80, E_esc, i1, i4, h5, h6, hcx, hlx, htx, hex, hbs, hf, z24, c24, a24, k24, i24, tq46_0, tq46_1, tq46_2, tc46, ta46, tk46, ti46, tz46, fq0, fq3, fq4, fq5, c3, a3, k3, i3, c2, a2, k2, i2, c22, a22, k22, i22, bq3, bq2]
    · rw [if_neg b4]
      simp only [Bool.not_eq_true] at b4
      rw [b4] at i4
      simp only [Bool.false_eq_true, if_false] at i4
      have i7 : ev Tryd.prog E (n + 5) 44 [.ptr a 0, .str [115, 105, 110, 99, 101]] (PSt H0 T a l (p) d) = _ := ev_is ha T l hl (n + 3) (p) d _ _
      by_cases b7 : isB (hereT l) (p) [115, 105, 110, 99, 101] = true
      · rw [if_pos b7]
        have ilt := is_lt b7
        have ib := b7
        rw [b7] at i7
        simp only [if_true] at i7
        have hps : E.ps 80 16 = [(0, 2), (2, 2)] := rfl
        unfold sinceP
        have h8 := ev82 ha T l hl n (p + 1) d
        cases e8 : spanP (hereT l) (p + 1) with
        | error z =>
          obtain ⟨c', w⟩ := z
          rw [e8, ansR_err] at h8
          rw [th_err, ansX_err]
          have hf := fin_stop H0 T a l p d w c' w
          generalize PSt H0 T a l (w) d = L0 at *
          generalize PSt H0 T a l (p + 1) d = L1 at *
          generalize PSt H0 T a l (p) d = L2 at *
          generalize stopV (hereT l) c' w = sv at *
          simp (disch := first | (simp only [List.length_append, List.length_cons, List.length_nil]; omega) | (simp; done) | assumption) [AV.cells?, AV.isCell, -AV.cells?, cq_int, cq_str, cq_slice, cq_bool, -evBuild, -evBuildSlice, Tryd.f80, E_esc, i1, i4, i7, hps, h8, finPan, hf, z24, c24, a24, k24, i24, tq46_0, tq46_1, tq46_2, tc46, ta46, tk46, ti46, tz46, fq0, fq3, fq4, fq5, c3, a3, k3, i3, c2, a2, k2, i2, c22, a22, k22, i22, bq3, bq2]
        | ok z =>
          obtain ⟨lh, r8⟩ := z
          rw [e8, ansR_ok] at h8
          rw [th_ok]
          obtain ⟨lo, hi⟩ := lh; simp only at h8
          have h9 : ev Tryd.prog E (n + 5) 75 [.ptr a 0, .str [40]] (PSt H0 T a l (r8) d) = _ := ev_need ha T l hl (n + 1) (r8) d _ _
          cases e9 : needP (hereT l) [40] (r8) with
          | error z =>
            obtain ⟨c', w⟩ := z
            rw [e9, ansR_err] at h9
            rw [th_err, ansX_err]
            have hf := fin_stop H0 T a l p d w c' w
            generalize PSt H0 T a l (w) d = L0 at *
            generalize PSt H0 T a l (r8) d = L1 at *
            generalize PSt H0 T a l (p + 1) d = L2 at *
            generalize PSt H0 T a l (p) d = L3 at *
            generalize stopV (hereT l) c' w = sv at *
            simp (disch := first | (simp only [List.length_append, List.length_cons, List.length_nil]; omega) | (simp; done) | assumption) [AV.cells?, AV.isCell, -AV.cells?, cq_int, cq_str, cq_slice, cq_bool, -evBuild, -evBuildSlice, Tryd.f80, E_esc, i1, i4, i7, hps, h8, h9, finPan, hf, z24, c24, a24, k24, i24, tq46_0, tq46_1, tq46_2, tc46, ta46, tk46, ti46, tz46, fq0, fq3, fq4, fq5, c3, a3, k3, i3, c2, a2, k2, i2, c22, a22, k22, i22, bq3, bq2]
          | ok z =>
            obtain ⟨_u9, r9⟩ := z
            rw [e9, ansR_ok] at h9
            rw [th_ok]
            have h10 := hs (r9)
            cases e10 : any (r9) with
            | error z =>
              obtain ⟨c', w⟩ := z
              rw [e10, ansX_err] at h10
              rw [th_err, ansX_err]
              have hf := fin_stop H0 T a l p d w c' w
              generalize PSt H0 T a l (w) d = L0 at *
              generalize PSt H0 T a l (r9) d = L1 at *
              generalize PSt H0 T a l (r8) d = L2 at *
              generalize PSt H0 T a l (p + 1) d = L3 at *
              generalize PSt H0 T a l (p) d = L4 at *
              generalize stopV (hereT l) c' w = sv at *
              simp (disch := first | (simp only [List.length_append, List.length_cons, List.length_nil]; omega) | (simp; done) | assumption) [AV.cells?, AV.isCell, -AV.cells?, cq_int, cq_str, cq_slice, cq_bool, -evBuild, -evBuildSlice, Tryd.f80, E_esc, i1, i4, i7, hps, h8, h9, h10, finPan, hf, z24, c24, a24, k24, i24, tq46_0, tq46_1, tq46_2, tc46, ta46, tk46, ti46, tz46, fq0, fq3, fq4, fq5, c3, a3, k3, i3, c2, a2, k2, i2, c22, a22, k22, i22, bq3, bq2]
            | ok z =>
              obtain ⟨x, r10⟩ := z
              rw [e10, ansX_ok] at h10
              rw [th_ok]
              have hcx := xcells x
              have hlx := xlen x
              have htx := xtake x
              have hex := xemb x
              have h11 : ev Tryd.prog E (n + 5) 75 [.ptr a 0, .str [44]] (PSt H0 T a l (r10) d) = _ := ev_need ha T l hl (n + 1) (r10) d _ _
              cases e11 : needP (hereT l) [44] (r10) with
              | error z =>
                obtain ⟨c', w⟩ := z
                rw [e11, ansR_err] at h11
                rw [th_err, ansX_err]
                have hf := fin_stop H0 T a l p d w c' w
                generalize PSt H0 T a l (w) d = L0 at *
                generalize PSt H0 T a l (r10) d = L1 at *
                generalize PSt H0 T a l (r9) d = L2 at *
                generalize PSt H0 T a l (r8) d = L3 at *
                generalize PSt H0 T a l (p + 1) d = L4 at *
                generalize PSt H0 T a l (p) d = L5 at *
                generalize stopV (hereT l) c' w = sv at *
                generalize x.cells = xc at *
                generalize x.emb = xe at *
                simp (disch := first | (simp only [List.length_append, List.length_cons, List.length_nil]; omega) | (simp; done) | assumption) [AV.cells?, AV.isCell, -AV.cells?, cq_int, cq_str, cq_slice, cq_bool, -evBuild, -evBuildSlice, Tryd.f80, E_esc, i1, i4, i7, hps, h8, h9, h10, h11, hcx, hlx, htx, hex, finPan, hf, z24, c24, a24, k24, i24, tq46_0, tq46_1, tq46_2, tc46, ta46, tk46, ti46, tz46, fq0, fq3, fq4, fq5, c3, a3, k3, i3, c2, a2, k2, i2, c22, a22, k22, i22, bq3, bq2]
              | ok z =>
                obtain ⟨_u11, r11⟩ := z
                rw [e11, ansR_ok] at h11
                rw [th_ok]
                have h12 := hs (r11)
                cases e12 : any (r11) with
                | error z =>
                  obtain ⟨c', w⟩ := z
                  rw [e12, ansX_err] at h12
                  rw [th_err, ansX_err]
                  have hf := fin_stop H0 T a l p d w c' w
                  generalize PSt H0 T a l (w) d = L0 at *
                  generalize PSt H0 T a l (r11) d = L1 at *
                  generalize PSt H0 T a l (r10) d = L2 at *
                  generalize PSt H0 T a l (r9) d = L3 at *
                  generalize PSt H0 T a l (r8) d = L4 at *
                  generalize PSt H0 T a l (p + 1) d = L5 at *
                  generalize PSt H0 T a l (p) d = L6 at *
                  generalize stopV (hereT l) c' w = sv at *
                  generalize x.cells = xc at *
                  generalize x.emb = xe at *
                  simp (disch := first | (simp only [List.length_append, List.length_cons, List.length_nil]; omega) | (simp; done) | assumption) [AV.cells?, AV.isCell, -AV.cells?, cq_int, cq_str, cq_slice, cq_bool, -evBuild, -evBuildSlice, Tryd.f80, E_esc, i1, i4, i7, hps, h8, h9, h10, h11, h12, hcx, hlx, htx, hex, finPan, hf, z24, c24, a24, k24, i24, tq46_0, tq46_1, tq46_2, tc46, ta46, tk46, ti46, tz46, fq0, fq3, fq4, fq5, c3, a3, k3, i3, c2, a2, k2, i2, c22, a22, k22, i22, bq3, bq2]
                | ok z =>
                  obtain ⟨y, r12⟩ := z
                  rw [e12, ansX_ok] at h12
                  rw [th_ok]
                  have hbs := bS2' x y
                  have hcy := xcells y
                  have hly := xlen y
                  have hty := xtake y
                  have hey := xemb y
                  have h13 : ev Tryd.prog E (n + 5) 75 [.ptr a 0, .str [41]] (PSt H0 T a l (r12) d) = _ := ev_need ha T l hl (n + 1) (r12) d _ _
                  cases e13 : needP (hereT l) [41] (r12) with
                  | error z =>
                    obtain ⟨c', w⟩ := z
                    rw [e13, ansR_err] at h13
                    rw [th_err, ansX_err]
                    have hf := fin_stop H0 T a l p d w c' w
                    generalize PSt H0 T a l (w) d = L0 at *
                    generalize PSt H0 T a l (r12) d = L1 at *
                    generalize PSt H0 T a l (r11) d = L2 at *
                    generalize PSt H0 T a l (r10) d = L3 at *
                    generalize PSt H0 T a l (r9) d = L4 at *
                    generalize PSt H0 T a l (r8) d = L5 at *
                    generalize PSt H0 T a l (p + 1) d = L6 at *
                    generalize PSt H0 T a l (p) d = L7 at *
                    generalize stopV (hereT l) c' w = sv at *
                    generalize x.cells = xc at *
                    generalize x.emb = xe at *
                    generalize y.cells = yc at *
                    generalize y.emb = ye at *
                    simp (disch := first | (simp only [List.length_append, List.length_cons, List.length_nil]; omega) | (simp; done) | assumption) [AV.cells?, AV.isCell, -AV.cells?, cq_int, cq_str, cq_slice, cq_bool, -evBuild, -evBuildSlice, Tryd.f80, E_esc, i1, i4, i7, hps, h8, h9, h10, h11, h12, hbs, h13, hcx, hlx, htx, hex, hcy, hly, hty, hey, finPan, hf, z24, c24, a24, k24, i24, tq46_0, tq46_1, tq46_2, tc46, ta46, tk46, ti46, tz46, fq0, fq3, fq4, fq5, c3, a3, k3, i3, c2, a2, k2, i2, c22, a22, k22, i22, bq3, bq2]
                  | ok z =>
                    obtain ⟨_u13, r13⟩ := z
                    rw [e13, ansR_ok] at h13
                    rw [th_ok]
                    rw [ansX_ok]
                    have hf := fin_X H0 T a l p d (r13) (X.mk 24 [] 0 lo hi true [x, y])
                    simp only [mk_emb, embL2] at hf ⊢
                    generalize PSt H0 T a l (r13) d = L0 at *
                    generalize PSt H0 T a l (r12) d = L1 at *
                    generalize PSt H0 T a l (r11) d = L2 at *
                    generalize PSt H0 T a l (r10) d = L3 at *
                    generalize PSt H0 T a l (r9) d = L4 at *
                    generalize PSt H0 T a l (r8) d = L5 at *
                    generalize PSt H0 T a l (p + 1) d = L6 at *
                    generalize PSt H0 T a l (p) d = L7 at *
                    generalize x.cells = xc at *
                    generalize x.emb = xe at *
                    generalize y.cells = yc at *
                    generalize y.emb = ye at *
                    simp (disch := first | (simp only [List.length_append, List.length_cons, List.length_nil]; omega) | (simp; done) | assumption) [AV.cells?, AV.isCell, -AV.cells?, cq_int, cq_str, cq_slice, cq_bool, -evBuild, -evBuildSlice, Tryd.f80, E_esc, i1, i4, i7, hps, h8, h9, h10, h11, h12, hbs, h13, hcx, hlx, htx, hex, hcy, hly, hty, hey, hf, z24, c24, a24, k24, i24, tq46_0, tq46_1, tq46_2, tc46, ta46, tk46, ti46, tz46, fq0, fq3, fq4, fq5, c3, a3, k3, i3, c2, a2, k2, i2, c22, a22, k22, i22, bq3, bq2]
      · rw [if_neg b7]
        simp only [Bool.not_eq_true] at b7
        rw [b7] at i7
        simp only [Bool.false_eq_true, if_false] at i7
        rw [ansX_err]
        have hfl := ev_fail ha T l hl (n + 3) (p) d 16
        have hf := fin_stop H0 T a l p d (p) 16 (p)
        generalize PSt H0 T a l (p) d = L0 at *
        generalize stopV (hereT l) 16 (p) = sv at *
        simp (disch := first | (simp only [List.length_append, List.length_cons, List.length_nil]; omega) | (simp; done) | assumption) [AV.cells?, AV.isCell, -AV.cells?, cq_int, cq_str, cq_slice, cq_bool, -evBuild, -evBuildSlice, Tryd.f80, E_esc, i1, i4, i7, hfl, finPan, hf, z24, c24, a24, k24, i24, tq46_0, tq46_1, tq46_2, tc46, ta46, tk46, ti46, tz46, fq0, fq3, fq4, fq5, c3, a3, k3, i3, c2, a2, k2, i2, c22, a22, k22, i22, bq3, bq2]
set_option maxHeartbeats 8000000 in
theorem ev72 (n d F : Nat) (one any : Nat → PR X) (h1 : Sub H0 T a l d (n + 6) 69 one) (hs : Sub H0 T a l d (n + 6) 27 any) (hS : Sub H0 T a l d (n + 6) 74 (setP (hereT l) F)) : Sub H0 T a l d (n + 7) 72 (signedP (hereT l) F one any) := by
  intro p
  rw [show n + 7 = (n + 6) + 1 from rfl, ev_enter (n := n + 6) (show E.ok 72 = true from rfl) Tryd.func72 (fn := Tryd.f72) rfl (Nat.le_of_ble_eq_true rfl) (by decide +kernel)]
  unfold signedP
  have i1 : ev Tryd.prog E (n + 6) 44 [.ptr a 0, .str [45]] (PSt H0 T a l (p) d) = _ := ev_is ha T l hl (n + 4) (p) d _ _
  by_cases b1 : isB (hereT l) (p) [45] = true
  · rw [if_pos b1]
    have ilt := is_lt b1
    have ib := b1
    rw [b1] at i1
    simp only [if_true] at i1
    have h2 := h1 (p + 1)
    cases e2 : one (p + 1) with
    | error z =>
      obtain ⟨c', w⟩ := z
      rw [e2, ansX_err] at h2
      rw [th_err, ansX_err]
      have hf := fin_stop H0 T a l p d w c' w
      generalize PSt H0 T a l (w) d = L0 at *
      generalize PSt H0 T a l (p + 1) d = L1 at *
      generalize PSt H0 T a l (p) d = L2 at *
      generalize stopV (hereT l) c' w = sv at *
      simp (disch := first | (simp only [List.length_append, List.length_cons, List.length_nil]; omega) | (simp; done) | assumption) [AV.cells?, AV.isCell, -AV.cells?, cq_int, cq_str, cq_slice, cq_bool, -evBuild, -evBuildSlice, Tryd.f72, E_esc, i1, h2, finPan, hf, z24, c24, a24, k24, i24, tq46_0, tq46_1, tq46_2, tc46, ta46, tk46, ti46, tz46, fq0, fq3, fq4, fq5, c3, a3, k3, i3, c2, a2, k2, i2, c22, a22, k22, i22, bq3, bq2]
    | ok z =>
      obtain ⟨x, r2⟩ := z
      rw [e2, ansX_ok] at h2
      rw [th_ok]
      have hcx := xcells x
      have hlx := xlen x
      have htx := xtake x
      have hex := xemb x
      rw [ansX_ok]
      have hf := fin_X H0 T a l p d (r2) (oneX 11 x)
      have ho := fun S => ev_one1 (n + 5) 11 x S
      have hcz := xcells (oneX 11 x)
      have hlz := xlen (oneX 11 x)
      have htz := xtake (oneX 11 x)
      have hez := xemb (oneX 11 x)
      generalize (oneX 11 x).cells = zc at *
      generalize (oneX 11 x).emb = ze at *
      generalize PSt H0 T a l (r2) d = L0 at *
      generalize PSt H0 T a l (p + 1) d = L1 at *
      generalize PSt H0 T a l (p) d = L2 at *
      generalize x.cells = xc at *
      generalize x.emb = xe at *
      simp (disch := first | (simp only [List.length_append, List.length_cons, List.length_nil]; omega) | (simp; done) | assumption) [AV.cells?, AV.isCell, -AV.cells?, cq_int, cq_str, cq_slice, cq_bool, -evBuild, -evBuildSlice, Tryd.f72, E_esc, i1, h2, hcx, hlx, htx, hex, ho, hcz, hlz, htz, hez, hf, z24, c24, a24, k24, i24, tq46_0, tq46_1, tq46_2, tc46, ta46, tk46, ti46, tz46, fq0, fq3, fq4, fq5, c3, a3, k3, i3, c2, a2, k2, i2, c22, a22, k22, i22, bq3, bq2]
  · rw [if_neg b1]
    simp only [Bool.not_eq_true] at b1
    rw [b1] at i1
    simp only [Bool.false_eq_true, if_false] at i1
    have i3 : ev Tryd.prog E (n + 6) 44 [.ptr a 0, .str [123]] (PSt H0 T a l (p) d) = _ := ev_is ha T l hl (n + 4) (p) d _ _
    by_cases b3 : isB (hereT l) (p) [123] = true
    · rw [if_pos b3]
      have ilt := is_lt b3
      have ib := b3
      rw [b3] at i3
      simp only [if_true] at i3
      have h4 := hS (p + 1)
      cases e4 : setP (hereT l) F (p + 1) with
      | error z =>
        obtain ⟨c', w⟩ := z
        rw [e4, ansX_err] at h4
        rw [ansX_err]
        have hf := fin_stop H0 T a l p d w c' w
        generalize PSt H0 T a l (w) d = L0 at *
        generalize PSt H0 T a l (p + 1) d = L1 at *
        generalize PSt H0 T a l (p) d = L2 at *
        generalize stopV (hereT l) c' w = sv at *
        simp (disch := first | (simp only [List.length_append, List.length_cons, List.length_nil]; omega) | (simp; done) | assumption) [AV.cells?, AV.isCell, -AV.cells?, cq_int, cq_str, cq_slice, cq_bool, -evBuild, -evBuildSlice, Tryd.f72, E_esc, i1, i3, h4, finPan, hf, z24, c24, a24, k24, i24, tq46_0, tq46_1, tq46_2, tc46, ta46, tk46, ti46, tz46, fq0, fq3, fq4, fq5, c3, a3, k3, i3, c2, a2, k2, i2, c22, a22, k22, i22, bq3, bq2]
      | ok z =>
        obtain ⟨x, r4⟩ := z
        rw [e4, ansX_ok] at h4
        have hcx := xcells x
        have hlx := xlen x
        have htx := xtake x
        have hex := xemb x
        rw [ansX_ok]
        have hf := fin_X H0 T a l p d (r4) (x)
        generalize PSt H0 T a l (r4) d = L0 at *
        generalize PSt H0 T a l (p + 1) d = L1 at *
        generalize PSt H0 T a l (p) d = L2 at *
        generalize x.cells = xc at *
        generalize x.emb = xe at *
        simp (disch := first | (simp only [List.length_append, List.length_cons, List.length_nil]; omega) | (simp; done) | assumption) [AV.cells?, AV.isCell, -AV.cells?, cq_int, cq_str, cq_slice, cq_bool, -evBuild, -evBuildSlice, Tryd.f72, E_esc, i1, i3, h4, hcx, hlx, htx, hex, hf, z24, c24, a24, k24, i24, tq46_0, tq46_1, tq46_2, tc46, ta46, tk46, ti46, tz46, fq0, fq3, fq4, fq5, c3, a3, k3, i3, c2, a2, k2, i2, c22, a22, k22, i22, bq3, bq2]
    · rw [if_neg b3]
      simp only [Bool.not_eq_true] at b3
      rw [b3] at i3
      simp only [Bool.false_eq_true, if_false] at i3
      unfold argP
      have h5 : ev Tryd.prog E (n + 6) 75 [.ptr a 0, .str [40]] (PSt H0 T a l (p) d) = _ := ev_need ha T l hl (n + 2) (p) d _ _
      cases e5 : needP (hereT l) [40] (p) with
      | error z =>
        obtain ⟨c', w⟩ := z
        rw [e5, ansR_err] at h5
        rw [th_err, ansX_err]
        have hf := fin_stop H0 T a l p d w c' w
        generalize PSt H0 T a l (w) d = L0 at *
        generalize PSt H0 T a l (p) d = L1 at *
        generalize stopV (hereT l) c' w = sv at *
        simp (disch := first | (simp only [List.length_append, List.length_cons, List.length_nil]; omega) | (simp; done) | assumption) [AV.cells?, AV.isCell, -AV.cells?, cq_int, cq_str, cq_slice, cq_bool, -evBuild, -evBuildSlice, Tryd.f72, E_esc, i1, i3, h5, finPan, hf, z24, c24, a24, k24, i24, tq46_0, tq46_1, tq46_2, tc46, ta46, tk46, ti46, tz46, fq0, fq3, fq4, fq5, c3, a3, k3, i3, c2, a2, k2, i2, c22, a22, k22, i22, bq3, bq2]
      | ok z =>
        obtain ⟨_u5, r5⟩ := z
        rw [e5, ansR_ok] at h5
        rw [th_ok]
        have h6 := hs (r5)
        cases e6 : any (r5) with
        | error z =>
          obtain ⟨c', w⟩ := z
          rw [e6, ansX_err] at h6
          rw [th_err, ansX_err]
          have hf := fin_stop H0 T a l p d w c' w
          generalize PSt H0 T a l (w) d = L0 at *
          generalize PSt H0 T a l (r5) d = L1 at *
          generalize PSt H0 T a l (p) d = L2 at *
          generalize stopV (hereT l) c' w = sv at *
          simp (disch := first | (simp only [List.length_append, List.length_cons, List.length_nil]; omega) | (simp; done) | assumption) [AV.cells?, AV.isCell, -AV.cells?, cq_int, cq_str, cq_slice, cq_bool, -evBuild, -evBuildSlice, Tryd.f72, E_esc, i1, i3, h5, h6, finPan, hf, z24, c24, a24, k24, i24, tq46_0, tq46_1, tq46_2, tc46, ta46, tk46, ti46, tz46, fq0, fq3, fq4, fq5, c3, a3, k3, i3, c2, a2, k2, i2, c22, a22, k22, i22, bq3, bq2]
        | ok z =>
          obtain ⟨x, r6⟩ := z
          rw [e6, ansX_ok] at h6
          rw [th_ok]
          have hcx := xcells x
          have hlx := xlen x
          have htx := xtake x
          have hex := xemb x
          have h7 : ev Tryd.prog E (n + 6) 75 [.ptr a 0, .str [41]] (PSt H0 T a l (r6) d) = _ := ev_need ha T l hl (n + 2) (r6) d _ _
          cases e7 : needP (hereT l) [41] (r6) with
          | error z =>
            obtain ⟨c', w⟩ := z
            rw [e7, ansR_err] at h7
            rw [th_err, ansX_err]
            have hf := fin_stop H0 T a l p d w c' w
            generalize PSt H0 T a l (w) d = L0 at *
            generalize PSt H0 T a l (r6) d = L1 at *
            generalize PSt H0 T a l (r5) d = L2 at *
            generalize PSt H0 T a l (p) d = L3 at *
            generalize stopV (hereT l) c' w = sv at *
            generalize x.cells = xc at *
            generalize x.emb = xe at *
            simp (disch := first | (simp only [List.length_append, List.length_cons, List.length_nil]; omega) | (simp; done) | assumption) [AV.cells?, AV.isCell, -AV.cells?, cq_int, cq_str, cq_slice, cq_bool, -evBuild, -evBuildSlice, Tryd.f72, E_esc, i1, i3, h5, h6, h7, hcx, hlx, htx, hex, finPan, hf, z24, c24, a24, k24, i24, tq46_0, tq46_1, tq46_2, tc46, ta46, tk46, ti46, tz46, fq0, fq3, fq4, fq5, c3, a3, k3, i3, c2, a2, k2, i2, c22, a22, k22, i22, bq3, bq2]
          | ok z =>
            obtain ⟨_u7, r7⟩ := z
            rw [e7, ansR_ok] at h7
            rw [th_ok]
            rw [ansX_ok]
            have hf := fin_X H0 T a l p d (r7) (x)
            generalize PSt H0 T a l (r7) d = L0 at *
            generalize PSt H0 T a l (r6) d = L1 at *
            generalize PSt H0 T a l (r5) d = L2 at *
            generalize PSt H0 T a l (p) d = L3 at *
            generalize x.cells = xc at *
            generalize x.emb = xe at *
            simp (disch := first | (simp only [List.length_append, List.length_cons, List.length_nil]; omega) | (simp; done) | assumption) [AV.cells?, AV.isCell, -AV.cells?, cq_int, cq_str, cq_slice, cq_bool, -evBuild, -evBuildSlice, Tryd.f72, E_esc, i1, i3, h5, h6, h7, hcx, hlx, htx, hex, hf, z24, c24, a24, k24, i24, tq46_0, tq46_1, tq46_2, tc46, ta46, tk46, ti46, tz46, fq0, fq3, fq4, fq5, c3, a3, k3, i3, c2, a2, k2, i2, c22, a22, k22, i22, bq3, bq2]
set_option maxHeartbeats 16000000 in
theorem ev73 (n d : Nat) (one any : Nat → PR X) (h1 : Sub H0 T a l d (n + 6) 69 one) (hA : Sub H0 T a l d (n + 6) 79 (argP (hereT l) any)) (hT : Sub H0 T a l d (n + 6) 80 (timedP (hereT l) any)) : Sub H0 T a l d (n + 7) 73 (namedP (hereT l) one any) := by
  intro p
  rw [show n + 7 = (n + 6) + 1 from rfl, ev_enter (n := n + 6) (show E.ok 73 = true from rfl) Tryd.func73 (fn := Tryd.f73) rfl (Nat.le_of_ble_eq_true rfl) (by decide +kernel)]
  unfold namedP
  have i1 : ev Tryd.prog E (n + 6) 44 [.ptr a 0, .str [116, 114, 117, 101]] (PSt H0 T a l (p) d) = _ := ev_is ha T l hl (n + 4) (p) d _ _
  by_cases b1 : isB (hereT l) (p) [116, 114, 117, 101] = true
  · rw [if_pos b1]
    have ilt := is_lt b1
    have ib := b1
    rw [b1] at i1
    simp only [if_true] at i1
    rw [ansX_ok]
    have hf := fin_X H0 T a l p d (p + 1) (leafX 2 [] 1 0)
    have ht0 := ev_truth (n + 5) 1 (PSt H0 T a l (p + 1) d)
    have hcz := xcells (leafX 2 [] 1 0)
    have hlz := xlen (leafX 2 [] 1 0)
    have htz := xtake (leafX 2 [] 1 0)
    have hez := xemb (leafX 2 [] 1 0)
    generalize (leafX 2 [] 1 0).cells = zc at *
    generalize (leafX 2 [] 1 0).emb = ze at *
    generalize PSt H0 T a l (p + 1) d = L0 at *
    generalize PSt H0 T a l (p) d = L1 at *
    simp (disch := first | (simp only [List.length_append, List.length_cons, List.length_nil]; omega) | (simp; done) | assumption) [AV.cells?, AV.isCell, -AV.cells?, cq_int, cq_str, cq_slice, cq_bool, -evBuild, -evBuildSlice, Tryd.f73, E_esc, i1, ht0, hcz, hlz, htz, hez, hf, z24, c24, a24, k24, i24, tq46_0, tq46_1, tq46_2, tc46, ta46, tk46, ti46, tz46, fq0, fq3, fq4, fq5, c3, a3, k3, i3, c2, a2, k2, i2, c22, a22, k22, i22, bq3, bq2]
  · rw [if_neg b1]
    simp only [Bool.not_eq_true] at b1
    rw [b1] at i1
    simp only [Bool.false_eq_true, if_false] at i1
    have i2 : ev Tryd.prog E (n + 6) 44 [.ptr a 0, .str [102, 97, 108, 115, 101]] (PSt H0 T a l (p) d) = _ := ev_is ha T l hl (n + 4) (p) d _ _
    by_cases b2 : isB (hereT l) (p) [102, 97, 108, 115, 101] = true
    · rw [if_pos b2]
      have ilt := is_lt b2
      have ib := b2
      rw [b2] at i2
      simp only [if_true] at i2
      rw [ansX_ok]
      have hf := fin_X H0 T a l p d (p + 1) (leafX 2 [] 0 0)
      have ht0 := ev_truth (n + 5) 0 (PSt H0 T a l (p + 1) d)
      have hcz := xcells (leafX 2 [] 0 0)
      have hlz := xlen (leafX 2 [] 0 0)
      have htz := xtake (leafX 2 [] 0 0)
      have hez := xemb (leafX 2 [] 0 0)
      generalize (leafX 2 [] 0 0).cells = zc at *
      generalize (leafX 2 [] 0 0).emb = ze at *
      generalize PSt H0 T a l (p + 1) d = L0 at *
      generalize PSt H0 T a l (p) d = L1 at *
      simp (disch := first | (simp only [List.length_append, List.length_cons, List.length_nil]; omega) | (simp; done) | assumption) [AV.cells?, AV.isCell, -AV.cells?, cq_int, cq_str, cq_slice, cq_bool, -evBuild, -evBuildSlice, Tryd.f73, E_esc, i1, i2, ht0, hcz, hlz, htz, hez, hf, z24, c24, a24, k24, i24, tq46_0, tq46_1, tq46_2, tc46, ta46, tk46, ti46, tz46, fq0, fq3, fq4, fq5, c3, a3, k3, i3, c2, a2, k2, i2, c22, a22, k22, i22, bq3, bq2]
    · rw [if_neg b2]
      simp only [Bool.not_eq_true] at b2
      rw [b2] at i2
      simp only [Bool.false_eq_true, if_false] at i2
      have i3 : ev Tryd.prog E (n + 6) 44 [.ptr a 0, .str [110, 111, 119]] (PSt H0 T a l (p) d) = _ := ev_is ha T l hl (n + 4) (p) d _ _
      by_cases b3 : isB (hereT l) (p) [110, 111, 119] = true
      · rw [if_pos b3]
        have ilt := is_lt b3
        have ib := b3
        rw [b3] at i3
        simp only [if_true] at i3
        rw [ansX_ok]
        have hf := fin_X H0 T a l p d (p + 1) (leafX 7 [] 0 0)
        have hb0 := bX0 7
        have hcz := xcells (leafX 7 [] 0 0)
        have hlz := xlen (leafX 7 [] 0 0)
        have htz := xtake (leafX 7 [] 0 0)
        have hez := xemb (leafX 7 [] 0 0)
        generalize (leafX 7 [] 0 0).cells = zc at *
        generalize (leafX 7 [] 0 0).emb = ze at *
        generalize PSt H0 T a l (p + 1) d = L0 at *
        generalize PSt H0 T a l (p) d = L1 at *
        simp (disch := first | (simp only [List.length_append, List.length_cons, List.length_nil]; omega) | (simp; done) | assumption) [AV.cells?, AV.isCell, -AV.cells?, cq_int, cq_str, cq_slice, cq_bool, -evBuild, -evBuildSlice, Tryd.f73, E_esc, i1, i2, i3, hb0, hcz, hlz, htz, hez, hf, z24, c24, a24, k24, i24, tq46_0, tq46_1, tq46_2, tc46, ta46, tk46, ti46, tz46, fq0, fq3, fq4, fq5, c3, a3, k3, i3, c2, a2, k2, i2, c22, a22, k22, i22, bq3, bq2]
      · rw [if_neg b3]
        simp only [Bool.not_eq_true] at b3
        rw [b3] at i3
        simp only [Bool.false_eq_true, if_false] at i3
        have i4 : ev Tryd.prog E (n + 6) 44 [.ptr a 0, .str [110, 111, 116]] (PSt H0 T a l (p) d) = _ := ev_is ha T l hl (n + 4) (p) d _ _
        by_cases b4 : isB (hereT l) (p) [110, 111, 116] = true
        · rw [if_pos b4]
          have ilt := is_lt b4
          have ib := b4
          rw [b4] at i4
          simp only [if_true] at i4
          have h5 := h1 (p + 1)
          cases e5 : one (p + 1) with
          | error z =>
            obtain ⟨c', w⟩ := z
            rw [e5, ansX_err] at h5
            rw [th_err, ansX_err]
            have hf := fin_stop H0 T a l p d w c' w
            generalize PSt H0 T a l (w) d = L0 at *
            generalize PSt H0 T a l (p + 1) d = L1 at *
            generalize PSt H0 T a l (p) d = L2 at *
            generalize stopV (hereT l) c' w = sv at *
            simp (disch := first | (simp only [List.length_append, List.length_cons, List.length_nil]; omega) | (simp; done) | assumption) [AV.cells?, AV.isCell, -AV.cells?, cq_int, cq_str, cq_slice, cq_bool, -evBuild, -evBuildSlice, Tryd.f73, E_esc, i1, i2, i3, i4, h5, finPan, hf, z24, c24, a24, k24, i24, tq46_0, tq46_1, tq46_2, tc46, ta46, tk46, ti46, tz46, fq0, fq3, fq4, fq5, c3, a3, k3, i3, c2, a2, k2, i2, c22, a22, k22, i22, bq3, bq2]
          | ok z =>
            obtain ⟨x, r5⟩ := z
            rw [e5, ansX_ok] at h5
            rw [th_ok]
            have hcx := xcells x
            have hlx := xlen x
            have htx := xtake x
            have hex := xemb x
            rw [ansX_ok]
            have hf := fin_X H0 T a l p d (r5) (oneX 18 x)
            have ho := fun S => ev_one1 (n + 5) 18 x S
            have hcz := xcells (oneX 18 x)
            have hlz := xlen (oneX 18 x)
            have htz := xtake (oneX 18 x)
            have hez := xemb (oneX 18 x)
            generalize (oneX 18 x).cells = zc at *
            generalize (oneX 18 x).emb = ze at *
            generalize PSt H0 T a l (r5) d = L0 at *
            generalize PSt H0 T a l (p + 1) d = L1 at *
            generalize PSt H0 T a l (p) d = L2 at *
            generalize x.cells = xc at *
            generalize x.emb = xe at *
            simp (disch := first | (simp only [List.length_append, List.length_cons, List.length_nil]; omega) | (simp; done) | assumption) [AV.cells?, AV.isCell, -AV.cells?, cq_int, cq_str, cq_slice, cq_bool, -evBuild, -evBuildSlice, Tryd.f73, E_esc, i1, i2, i3, i4, h5, hcx, hlx, htx, hex, ho, hcz, hlz, htz, hez, hf, z24, c24, a24, k24, i24, tq46_0, tq46_1, tq46_2, tc46, ta46, tk46, ti46, tz46, fq0, fq3, fq4, fq5, c3, a3, k3, i3, c2, a2, k2, i2, c22, a22, k22, i22, bq3, bq2]
        · rw [if_neg b4]
          simp only [Bool.not_eq_true] at b4
          rw [b4] at i4
          simp only [Bool.false_eq_true, if_false] at i4
          have i6 : ev Tryd.prog E (n + 6) 44 [.ptr a 0, .str [115]] (PSt H0 T a l (p) d) = _ := ev_is ha T l hl (n + 4) (p) d _ _
          by_cases b6 : isB (hereT l) (p) [115] = true
          · rw [if_pos b6]
            have ilt := is_lt b6
            have ib := b6
            rw [b6] at i6
            simp only [if_true] at i6
            have h7 := ev77 ha T l hl (n + 1) (p + 1) d 5
            cases e7 : attrP (hereT l) 5 (p + 1) with
            | error z =>
              obtain ⟨c', w⟩ := z
              rw [e7, ansX_err] at h7
              rw [ansX_err]
              have hf := fin_stop H0 T a l p d w c' w
              generalize PSt H0 T a l (w) d = L0 at *
              generalize PSt H0 T a l (p + 1) d = L1 at *
              generalize PSt H0 T a l (p) d = L2 at *
              generalize stopV (hereT l) c' w = sv at *
              simp (disch := first | (simp only [List.length_append, List.length_cons, List.length_nil]; omega) | (simp; done) | assumption) [AV.cells?, AV.isCell, -AV.cells?, cq_int, cq_str, cq_slice, cq_bool, -evBuild, -evBuildSlice, Tryd.f73, E_esc, i1, i2, i3, i4, i6, h7, finPan, hf, z24, c24, a24, k24, i24, tq46_0, tq46_1, tq46_2, tc46, ta46, tk46, ti46, tz46, fq0, fq3, fq4, fq5, c3, a3, k3, i3, c2, a2, k2, i2, c22, a22, k22, i22, bq3, bq2]
            | ok z =>
              obtain ⟨x, r7⟩ := z
              rw [e7, ansX_ok] at h7
              have hcx := xcells x
              have hlx := xlen x
              have htx := xtake x
              have hex := xemb x
              rw [ansX_ok]
              have hf := fin_X H0 T a l p d (r7) (x)
              generalize PSt H0 T a l (r7) d = L0 at *
              generalize PSt H0 T a l (p + 1) d = L1 at *
              generalize PSt H0 T a l (p) d = L2 at *
              generalize x.cells = xc at *
              generalize x.emb = xe at *
              simp (disch := first | (simp only [List.length_append, List.length_cons, List.length_nil]; omega) | (simp; done) | assumption) [AV.cells?, AV.isCell, -AV.cells?, cq_int, cq_str, cq_slice, cq_bool, -evBuild, -evBuildSlice, Tryd.f73, E_esc, i1, i2, i3, i4, i6, h7, hcx, hlx, htx, hex, hf, z24, c24, a24, k24, i24, tq46_0, tq46_1, tq46_2, tc46, ta46, tk46, ti46, tz46, fq0, fq3, fq4, fq5, c3, a3, k3, i3, c2, a2, k2, i2, c22, a22, k22, i22, bq3, bq2]
          · rw [if_neg b6]
            simp only [Bool.not_eq_true] at b6
            rw [b6] at i6
            simp only [Bool.false_eq_true, if_false] at i6
            have i8 : ev Tryd.prog E (n + 6) 44 [.ptr a 0, .str [111]] (PSt H0 T a l (p) d) = _ := ev_is ha T l hl (n + 4) (p) d _ _
            by_cases b8 : isB (hereT l) (p) [111] = true
            · rw [if_pos b8]
              have ilt := is_lt b8
              have ib := b8
              rw [b8] at i8
              simp only [if_true] at i8
              have h9 := ev77 ha T l hl (n + 1) (p + 1) d 6
              cases e9 : attrP (hereT l) 6 (p + 1) with
              | error z =>
                obtain ⟨c', w⟩ := z
                rw [e9, ansX_err] at h9
                rw [ansX_err]
                have hf := fin_stop H0 T a l p d w c' w
                generalize PSt H0 T a l (w) d = L0 at *
                generalize PSt H0 T a l (p + 1) d = L1 at *
                generalize PSt H0 T a l (p) d = L2 at *
                generalize stopV (hereT l) c' w = sv at *
                simp (disch := first | (simp only [List.length_append, List.length_cons, List.length_nil]; omega) | (simp; done) | assumption) [AV.cells?, AV.isCell, -AV.cells?, cq_int, cq_str, cq_slice, cq_bool, -evBuild, -evBuildSlice, Tryd.f73, E_esc, i1, i2, i3, i4, i6, i8, h9, finPan, hf, z24, c24, a24, k24, i24, tq46_0, tq46_1, tq46_2, tc46, ta46, tk46, ti46, tz46, fq0, fq3, fq4, fq5, c3, a3, k3, i3, c2, a2, k2, i2, c22, a22, k22, i22, bq3, bq2]
              | ok z =>
                obtain ⟨x, r9⟩ := z
                rw [e9, ansX_ok] at h9
                have hcx := xcells x
                have hlx := xlen x
                have htx := xtake x
                have hex := xemb x
                rw [ansX_ok]
                have hf := fin_X H0 T a l p d (r9) (x)
                generalize PSt H0 T a l (r9) d = L0 at *
                generalize PSt H0 T a l (p + 1) d = L1 at *
                generalize PSt H0 T a l (p) d = L2 at *
                generalize x.cells = xc at *
                generalize x.emb = xe at *
                simp (disch := first | (simp only [List.length_append, List.length_cons, List.length_nil]; omega) | (simp; done) | assumption) [AV.cells?, AV.isCell, -AV.cells?, cq_int, cq_str, cq_slice, cq_bool, -evBuild, -evBuildSlice, Tryd.f73, E_esc, i1, i2, i3, i4, i6, i8, h9, hcx, hlx, htx, hex, hf, z24, c24, a24, k24, i24, tq46_0, tq46_1, tq46_2, tc46, ta46, tk46, ti46, tz46, fq0, fq3, fq4, fq5, c3, a3, k3, i3, c2, a2, k2, i2, c22, a22, k22, i22, bq3, bq2]
            · rw [if_neg b8]
              simp only [Bool.not_eq_true] at b8
              rw [b8] at i8
              simp only [Bool.false_eq_true, if_false] at i8
              have i10 : ev Tryd.prog E (n + 6) 44 [.ptr a 0, .str [97, 99, 116]] (PSt H0 T a l (p) d) = _ := ev_is ha T l hl (n + 4) (p) d _ _
              by_cases b10 : isB (hereT l) (p) [97, 99, 116] = true
              · rw [if_pos b10]
                have ilt := is_lt b10
                have ib := b10
                rw [b10] at i10
                simp only [if_true] at i10
                have hps : E.ps 73 15 = [(4, 8), (14, 14)] := rfl
                have hg := PSt_get ha T l (p + 1) d
                have hw : IntKind.i64.wrap (((p + 1 : Nat) : Int) - 1) = (p : Int) := by rw [wrap64 _ (by omega)]; omega
                have hx : l[p]? = some (hereT l p) := by
                  have e : l[p]? = some l[p] := List.getElem?_eq_getElem ilt
                  simp [hereT, e]
                have hia := ia l .non p _ hx
                have hcs : (hereT l p).cells = [.int .i64 (hereT l p).k, .str (hereT l p).s, .int .i64 (hereT l p).n, .int .i64 (hereT l p).p] := rfl
                have hss : (hereT l p).s = [97, 99, 116] := by
                  simp only [isB, Bool.and_eq_true, beq_iff_eq] at ib
                  exact ib.2
                rw [hcs, hss] at hia
                generalize tkL l = es at *
                clear ib
                generalize (hereT l p).k = zk at *
                generalize (hereT l p).n = zn at *
                generalize (hereT l p).p = zp at *
                generalize hP1 : p + 1 = P1 at *
                have h11 := ev78a ha T l hl (n + 1) (P1) d
                cases e11 : actP (hereT l) (P1) with
                | error z =>
                  obtain ⟨c', w⟩ := z
                  rw [e11, ansX_err] at h11
                  rw [ansX_err]
                  have hf := fin_stop H0 T a l p d w c' w
                  generalize PSt H0 T a l (w) d = L0 at *
                  generalize PSt H0 T a l (P1) d = L1 at *
                  generalize PSt H0 T a l (p) d = L2 at *
                  generalize stopV (hereT l) c' w = sv at *
                  simp (disch := first | (simp only [List.length_append, List.length_cons, List.length_nil]; omega) | (simp; done) | assumption) [AV.cells?, AV.isCell, -AV.cells?, cq_int, cq_str, cq_slice, cq_bool, -evBuild, -evBuildSlice, Tryd.f73, E_esc, i1, i2, i3, i4, i6, i8, i10, hps, hg, hw, hia, -evIndexAddr, tq66_0, tq66_1, tk66, tk39, tc39, ta39, k9, a9, c9, bq9, h11, finPan, hf, z24, c24, a24, k24, i24, tq46_0, tq46_1, tq46_2, tc46, ta46, tk46, ti46, tz46, fq0, fq3, fq4, fq5, c3, a3, k3, i3, c2, a2, k2, i2, c22, a22, k22, i22, bq3, bq2]
                | ok z =>
                  obtain ⟨x, r11⟩ := z
                  rw [e11, ansX_ok] at h11
                  have hcx := xcells x
                  have hlx := xlen x
                  have htx := xtake x
                  have hex := xemb x
                  rw [ansX_ok]
                  have hf := fin_X H0 T a l p d (r11) (x)
                  generalize PSt H0 T a l (r11) d = L0 at *
                  generalize PSt H0 T a l (P1) d = L1 at *
                  generalize PSt H0 T a l (p) d = L2 at *
                  generalize x.cells = xc at *
                  generalize x.emb = xe at *
                  simp (disch := first | (simp only [List.length_append, List.length_cons, List.length_nil]; omega) | (simp; done) | assumption) [AV.cells?, AV.isCell, -AV.cells?, cq_int, cq_str, cq_slice, cq_bool, -evBuild, -evBuildSlice, Tryd.f73, E_esc, i1, i2, i3, i4, i6, i8, i10, hps, hg, hw, hia, -evIndexAddr, tq66_0, tq66_1, tk66, tk39, tc39, ta39, k9, a9, c9, bq9, h11, hcx, hlx, htx, hex, hf, z24, c24, a24, k24, i24, tq46_0, tq46_1, tq46_2, tc46, ta46, tk46, ti46, tz46, fq0, fq3, fq4, fq5, c3, a3, k3, i3, c2, a2, k2, i2, c22, a22, k22, i22, bq3, bq2]
              · rw [if_neg b10]
                simp only [Bool.not_eq_true] at b10
                rw [b10] at i10
                simp only [Bool.false_eq_true, if_false] at i10
                have i12 : ev Tryd.prog E (n + 6) 44 [.ptr a 0, .str [116, 105, 109, 101, 115]] (PSt H0 T a l (p) d) = _ := ev_is ha T l hl (n + 4) (p) d _ _
                by_cases b12 : isB (hereT l) (p) [116, 105, 109, 101, 115] = true
                · rw [if_pos b12]
                  have ilt := is_lt b12
                  have ib := b12
                  rw [b12] at i12
                  simp only [if_true] at i12
                  have hps : E.ps 73 15 = [(4, 8), (14, 14)] := rfl
                  have hg := PSt_get ha T l (p + 1) d
                  have hw : IntKind.i64.wrap (((p + 1 : Nat) : Int) - 1) = (p : Int) := by rw [wrap64 _ (by omega)]; omega
                  have hx : l[p]? = some (hereT l p) := by
                    have e : l[p]? = some l[p] := List.getElem?_eq_getElem ilt
                    simp [hereT, e]
                  have hia := ia l .non p _ hx
                  have hcs : (hereT l p).cells = [.int .i64 (hereT l p).k, .str (hereT l p).s, .int .i64 (hereT l p).n, .int .i64 (hereT l p).p] := rfl
                  have hss : (hereT l p).s = [116, 105, 109, 101, 115] := by
                    simp only [isB, Bool.and_eq_true, beq_iff_eq] at ib
                    exact ib.2
                  rw [hcs, hss] at hia
                  generalize tkL l = es at *
                  clear ib
                  generalize (hereT l p).k = zk at *
                  generalize (hereT l p).n = zn at *
                  generalize (hereT l p).p = zp at *
                  generalize hP1 : p + 1 = P1 at *
                  have h13 := ev78b ha T l hl (n + 1) (P1) d
                  cases e13 : timesP (hereT l) (P1) with
                  | error z =>
                    obtain ⟨c', w⟩ := z
                    rw [e13, ansX_err] at h13
                    rw [ansX_err]
                    have hf := fin_stop H0 T a l p d w c' w
                    generalize PSt H0 T a l (w) d = L0 at *
                    generalize PSt H0 T a l (P1) d = L1 at *
                    generalize PSt H0 T a l (p) d = L2 at *
                    generalize stopV (hereT l) c' w = sv at *
                    simp (disch := first | (simp only [List.length_append, List.length_cons, List.length_nil]; omega) | (simp; done) | assumption) [AV.cells?, AV.isCell, -AV.cells?, cq_int, cq_str, cq_slice, cq_bool, -evBuild, -evBuildSlice, Tryd.f73, E_esc, i1, i2, i3, i4, i6, i8, i10, i12, hps, hg, hw, hia, -evIndexAddr, tq66_0, tq66_1, tk66, tk39, tc39, ta39, k9, a9, c9, bq9, h13, finPan, hf, z24, c24, a24, k24, i24, tq46_0, tq46_1, tq46_2, tc46, ta46, tk46, ti46, tz46, fq0, fq3, fq4, fq5, c3, a3, k3, i3, c2, a2, k2, i2, c22, a22, k22, i22, bq3, bq2]
                  | ok z =>
                    obtain ⟨x, r13⟩ := z
                    rw [e13, ansX_ok] at h13
                    have hcx := xcells x
                    have hlx := xlen x
                    have htx := xtake x
                    have hex := xemb x
                    rw [ansX_ok]
                    have hf := fin_X H0 T a l p d (r13) (x)
                    generalize PSt H0 T a l (r13) d = L0 at *
                    generalize PSt H0 T a l (P1) d = L1 at *
                    generalize PSt H0 T a l (p) d = L2 at *
                    generalize x.cells = xc at *
                    generalize x.emb = xe at *
                    simp (disch := first | (simp only [List.length_append, List.length_cons, List.length_nil]; omega) | (simp; done) | assumption) [AV.cells?, AV.isCell, -AV.cells?, cq_int, cq_str, cq_slice, cq_bool, -evBuild, -evBuildSlice, Tryd.f73, E_esc, i1, i2, i3, i4, i6, i8, i10, i12, hps, hg, hw, hia, -evIndexAddr, tq66_0, tq66_1, tk66, tk39, tc39, ta39, k9, a9, c9, bq9, h13, hcx, hlx, htx, hex, hf, z24, c24, a24, k24, i24, tq46_0, tq46_1, tq46_2, tc46, ta46, tk46, ti46, tz46, fq0, fq3, fq4, fq5, c3, a3, k3, i3, c2, a2, k2, i2, c22, a22, k22, i22, bq3, bq2]
                · rw [if_neg b12]
                  simp only [Bool.not_eq_true] at b12
                  rw [b12] at i12
                  simp only [Bool.false_eq_true, if_false] at i12
                  have i14 : ev Tryd.prog E (n + 6) 44 [.ptr a 0, .str [108, 101, 110]] (PSt H0 T a l (p) d) = _ := ev_is ha T l hl (n + 4) (p) d _ _
                  by_cases b14 : isB (hereT l) (p) [108, 101, 110] = true
                  · rw [if_pos b14]
                    have ilt := is_lt b14
                    have ib := b14
                    rw [b14] at i14
                    simp only [if_true] at i14
                    have h15 := hA (p + 1)
                    cases e15 : argP (hereT l) any (p + 1) with
                    | error z =>
                      obtain ⟨c', w⟩ := z
                      rw [e15, ansX_err] at h15
                      rw [th_err, ansX_err]
                      have hf := fin_stop H0 T a l p d w c' w
                      generalize PSt H0 T a l (w) d = L0 at *
                      generalize PSt H0 T a l (p + 1) d = L1 at *
                      generalize PSt H0 T a l (p) d = L2 at *
                      generalize stopV (hereT l) c' w = sv at *
                      simp (disch := first | (simp only [List.length_append, List.length_cons, List.length_nil]; omega) | (simp; done) | assumption) [AV.cells?, AV.isCell, -AV.cells?, cq_int, cq_str, cq_slice, cq_bool, -evBuild, -evBuildSlice, Tryd.f73, E_esc, i1, i2, i3, i4, i6, i8, i10, i12, i14, h15, finPan, hf, z24, c24, a24, k24, i24, tq46_0, tq46_1, tq46_2, tc46, ta46, tk46, ti46, tz46, fq0, fq3, fq4, fq5, c3, a3, k3, i3, c2, a2, k2, i2, c22, a22, k22, i22, bq3, bq2]
                    | ok z =>
                      obtain ⟨x, r15⟩ := z
                      rw [e15, ansX_ok] at h15
                      rw [th_ok]
                      have hcx := xcells x
                      have hlx := xlen x
                      have htx := xtake x
                      have hex := xemb x
                      rw [ansX_ok]
                      have hf := fin_X H0 T a l p d (r15) (oneX 12 x)
                      have ho := fun S => ev_one1 (n + 5) 12 x S
                      have hcz := xcells (oneX 12 x)
                      have hlz := xlen (oneX 12 x)
                      have htz := xtake (oneX 12 x)
                      have hez := xemb (oneX 12 x)
                      generalize (oneX 12 x).cells = zc at *
                      generalize (oneX 12 x).emb = ze at *
                      generalize PSt H0 T a l (r15) d = L0 at *
                      generalize PSt H0 T a l (p + 1) d = L1 at *
                      generalize PSt H0 T a l (p) d = L2 at *
                      generalize x.cells = xc at *
                      generalize x.emb = xe at *
                      simp (disch := first | (simp only [List.length_append, List.length_cons, List.length_nil]; omega) | (simp; done) | assumption) [AV.cells?, AV.isCell, -AV.cells?, cq_int, cq_str, cq_slice, cq_bool, -evBuild, -evBuildSlice, Tryd.f73, E_esc, i1, i2, i3, i4, i6, i8, i10, i12, i14, h15, hcx, hlx, htx, hex, ho, hcz, hlz, htz, hez, hf, z24, c24, a24, k24, i24, tq46_0, tq46_1, tq46_2, tc46, ta46, tk46, ti46, tz46, fq0, fq3, fq4, fq5, c3, a3, k3, i3, c2, a2, k2, i2, c22, a22, k22, i22, bq3, bq2]
                  · rw [if_neg b14]
                    simp only [Bool.not_eq_true] at b14
                    rw [b14] at i14
                    simp only [Bool.false_eq_true, if_false] at i14
                    have i16 : ev Tryd.prog E (n + 6) 44 [.ptr a 0, .str [112, 114, 101, 118]] (PSt H0 T a l (p) d) = _ := ev_is ha T l hl (n + 4) (p) d _ _
                    by_cases b16 : isB (hereT l) (p) [112, 114, 101, 118] = true
                    · rw [if_pos b16]
                      have ilt := is_lt b16
                      have ib := b16
                      rw [b16] at i16
                      simp only [if_true] at i16
                      have h17 := hA (p + 1)
                      cases e17 : argP (hereT l) any (p + 1) with
                      | error z =>
                        obtain ⟨c', w⟩ := z
                        rw [e17, ansX_err] at h17
                        rw [th_err, ansX_err]
                        have hf := fin_stop H0 T a l p d w c' w
                        generalize PSt H0 T a l (w) d = L0 at *
                        generalize PSt H0 T a l (p + 1) d = L1 at *
                        generalize PSt H0 T a l (p) d = L2 at *
                        generalize stopV (hereT l) c' w = sv at *
                        simp (disch := first | (simp only [List.length_append, List.length_cons, List.length_nil]; omega) | (simp; done) | assumption) [AV.cells?, AV.isCell, -AV.cells?, cq_int, cq_str, cq_slice, cq_bool, -evBuild, -evBuildSlice, Tryd.f73, E_esc, i1, i2, i3, i4, i6, i8, i10, i12, i14, i16, h17, finPan, hf, z24, c24, a24, k24, i24, tq46_0, tq46_1, tq46_2, tc46, ta46, tk46, ti46, tz46, fq0, fq3, fq4, fq5, c3, a3, k3, i3, c2, a2, k2, i2, c22, a22, k22, i22, bq3, bq2]
                      | ok z =>
                        obtain ⟨x, r17⟩ := z
                        rw [e17, ansX_ok] at h17
                        rw [th_ok]
                        have hcx := xcells x
                        have hlx := xlen x
                        have htx := xtake x
                        have hex := xemb x
                        rw [ansX_ok]
                        have hf := fin_X H0 T a l p d (r17) (oneX 25 x)
                        have ho := fun S => ev_one1 (n + 5) 25 x S
                        have hcz := xcells (oneX 25 x)
                        have hlz := xlen (oneX 25 x)
                        have htz := xtake (oneX 25 x)
                        have hez := xemb (oneX 25 x)
                        generalize (oneX 25 x).cells = zc at *
                        generalize (oneX 25 x).emb = ze at *
                        generalize PSt H0 T a l (r17) d = L0 at *
                        generalize PSt H0 T a l (p + 1) d = L1 at *
                        generalize PSt H0 T a l (p) d = L2 at *
                        generalize x.cells = xc at *
                        generalize x.emb = xe at *
                        simp (disch := first | (simp only [List.length_append, List.length_cons, List.length_nil]; omega) | (simp; done) | assumption) [AV.cells?, AV.isCell, -AV.cells?, cq_int, cq_str, cq_slice, cq_bool, -evBuild, -evBuildSlice, Tryd.f73, E_esc, i1, i2, i3, i4, i6, i8, i10, i12, i14, i16, h17, hcx, hlx, htx, hex, ho, hcz, hlz, htz, hez, hf, z24, c24, a24, k24, i24, tq46_0, tq46_1, tq46_2, tc46, ta46, tk46, ti46, tz46, fq0, fq3, fq4, fq5, c3, a3, k3, i3, c2, a2, k2, i2, c22, a22, k22, i22, bq3, bq2]
                    · rw [if_neg b16]
                      simp only [Bool.not_eq_true] at b16
                      rw [b16] at i16
                      simp only [Bool.false_eq_true, if_false] at i16
                      have h18 := hT (p)
                      cases e18 : timedP (hereT l) any (p) with
                      | error z =>
                        obtain ⟨c', w⟩ := z
                        rw [e18, ansX_err] at h18
                        rw [ansX_err]
                        have hf := fin_stop H0 T a l p d w c' w
                        generalize PSt H0 T a l (w) d = L0 at *
                        generalize PSt H0 T a l (p) d = L1 at *
                        generalize stopV (hereT l) c' w = sv at *
                        simp (disch := first | (simp only [List.length_append, List.length_cons, List.length_nil]; omega) | (simp; done) | assumption) [AV.cells?, AV.isCell, -AV.cells?, cq_int, cq_str, cq_slice, cq_bool, -evBuild, -evBuildSlice, Tryd.f73, E_esc, i1, i2, i3, i4, i6, i8, i10, i12, i14, i16, h18, finPan, hf, z24, c24, a24, k24, i24, tq46_0, tq46_1, tq46_2, tc46, ta46, tk46, ti46, tz46, fq0, fq3, fq4, fq5, c3, a3, k3, i3, c2, a2, k2, i2, c22, a22, k22, i22, bq3, bq2]
                      | ok z =>
                        obtain ⟨x, r18⟩ := z
                        rw [e18, ansX_ok] at h18
                        have hcx := xcells x
                        have hlx := xlen x
                        have htx := xtake x
                        have hex := xemb x
                        rw [ansX_ok]
                        have hf := fin_X H0 T a l p d (r18) (x)
                        generalize PSt H0 T a l (r18) d = L0 at *
                        generalize PSt H0 T a l (p) d = L1 at *
                        generalize x.cells = xc at *
                        generalize x.emb = xe at *
                        simp (disch := first | (simp only [List.length_append, List.length_cons, List.length_nil]; omega) | (simp; done) | assumption) [AV.cells?, AV.isCell, -AV.cells?, cq_int, cq_str, cq_slice, cq_bool, -evBuild, -evBuildSlice, Tryd.f73, E_esc, i1, i2, i3, i4, i6, i8, i10, i12, i14, i16, h18, hcx, hlx, htx, hex, hf, z24, c24, a24, k24, i24, tq46_0, tq46_1, tq46_2, tc46, ta46, tk46, ti46, tz46, fq0, fq3, fq4, fq5, c3, a3, k3, i3, c2, a2, k2, i2, c22, a22, k22, i22, bq3, bq2]
end
end Go.Proofs.YtemggoaefohliaaDoor.PS

