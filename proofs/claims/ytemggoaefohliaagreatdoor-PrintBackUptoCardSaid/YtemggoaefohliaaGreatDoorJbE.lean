/- Joined: DnE, DlC, DlD, DlE, DlF, DlG, DpA, DpB, DpC, DqA, DqB, DqG, DqJ, PcB, PcC, PcD, PcE, PcF, PbA, PbB. No condition beyond those of its lemmas. -/
import Derived.Test.YtemggoaefohliaaGreatDoorJbD
/- Numbers read (num.Parse), evaluated (2). No condition. -/
namespace Go.Proofs.YtemggoaefohliaaGreatDoor.LX
set_option linter.unusedVariables false
set_option linter.unusedSimpArgs false
open Go AE EX PT NF
set_option maxRecDepth 100000

/-- a number of its digits -/
def parseN (s : List UInt8) : Option Nat := if s.all isDig = true ∧ val s ≤ 9223372036854775807 ∧ dec (val s) = s then some (val s) else none
theorem val_ge : ∀ (r l : List UInt8), val l ≤ val (l ++ r)
  | [], l => by simp
  | c :: r, l => by
    have := val_ge r (l ++ [c])
    rw [val_snoc] at this
    have e : l ++ [c] ++ r = l ++ c :: r := by simp
    rw [e] at this
    omega
theorem val_take (s : List UInt8) (i : Nat) : val (s.take i) ≤ val s := by
  have := val_ge (s.drop i) (s.take i)
  rwa [List.take_append_drop] at this

noncomputable def npLoop : Code := cutC (bodyOf Tryz.f105) [1, 1, 0, 1, 0, 0]
noncomputable def np0 : Code := cutC (bodyOf Tryz.f105) [0]
noncomputable def np1 : Code := cutC (bodyOf Tryz.f105) [1, 0]
noncomputable def np2 : Code := cutC (bodyOf Tryz.f105) [1, 1, 0, 0]
noncomputable def np3 : Code := cutC (bodyOf Tryz.f105) [1, 1, 1]
theorem f54b : Tryz.f105.body = some (.seq np0 (.seq np1 (.seq (.seq np2 (.block 0 (.loop npLoop))) np3))) := rfl

def NPI (s : List UInt8) (S0 : St) (m : Nat) (fs : FS) : Prop :=
  ∃ i, i + m = s.length ∧ fs.t 0 = .str s ∧ fs.t 4 = .int .i64 (val (s.take i) : Int) ∧ fs.t 11 = .int .i64 s.length ∧ fs.t 12 = .int .i64 i ∧ fs.S = S0 ∧ (s.take i).all isDig = true ∧ val (s.take i) ≤ 9223372036854775807
def NPQ (s : List UInt8) (S0 : St) (r : Out × FS) : Prop :=
  r.2.S = S0 ∧ ((r.1 = .exit 0 ∧ r.2.t 0 = .str s ∧ r.2.t 4 = .int .i64 (val s : Int) ∧ s.all isDig = true ∧ val s ≤ 9223372036854775807) ∨ (r.1 = .ret ∧ r.2.t 2 = .int .i64 0 ∧ r.2.t 3 = .bool false ∧ ¬ (s.all isDig = true ∧ val s ≤ 9223372036854775807)))

set_option maxHeartbeats 4000000 in
theorem np_round (n : Nat) (s : List UInt8) (S0 : St) (hs : s.length ≤ 1048576) (m : Nat) (fs : FS) (h : NPI s S0 m fs) :
    ∃ o fs', evCode ⟨Tryz.prog, E.esc 105, n + 2⟩ (ev Tryz.prog E (n + 2)) (E.ps 105) (n + 2) npLoop fs = some (o, fs') ∧ ((o = .norm ∧ ∃ m', m' < m ∧ NPI s S0 m' fs') ∨ (o ≠ .norm ∧ NPQ s S0 (o, fs'))) := by
  obtain ⟨t, b, v, S⟩ := fs
  obtain ⟨i, hi, h0, h4, h11, h12, hS, hall, hval⟩ := h
  simp only at h0 h4 h11 h12 hS
  subst hS
  cases m with
  | zero =>
    have hi' : i = s.length := by omega
    subst hi'
    rw [List.take_length] at hall hval h4
    refine ⟨.exit 0, _, by
      simp (disch := first | (simp only [List.length_append, List.length_cons, List.length_nil]; omega) | (simp; done) | assumption) [AV.cells?, AV.isCell, npLoop, cutC, bodyOf, Tryz.f105, h0, h4, h11, h12, bq3]
      rfl, .inr ⟨by simp, rfl, .inl ⟨rfl, by simp [upd, h0], by simp [upd, h4], hall, hval⟩⟩⟩
  | succ m =>
    have hlt : i < s.length := by omega
    have hltz : (i : Int) < s.length := by omega
    have hxe : s[i]? = some s[i] := List.getElem?_eq_getElem hlt
    have hmem : s[i] ∈ s := List.getElem_mem hlt
    have hidx : evIndex Tryz.prog 9 (.str s) (.int .i64 (i : Int)) = some (.int .u8 (s[i].toNat : Int)) := by simp [evIndex, sq9, hlt]
    have htake : s.take (i + 1) = s.take i ++ [s[i]] := by rw [List.take_add_one, hxe]; rfl
    have hvs : val (s.take (i + 1)) = val (s.take i) * 10 + (s[i].toNat - 48) := by rw [htake, val_snoc]
    have hvle := val_take s (i + 1)
    have hw : IntKind.i64.wrap ((i : Int) + 1) = (i : Int) + 1 := wrap64 _ (by omega)
    generalize s[i] = x at *
    have hx256 := x.toNat_lt
    by_cases g1 : (x.toNat : Int) < 48
    · refine ⟨.ret, _, by
        simp (disch := first | (simp only [List.length_append, List.length_cons, List.length_nil]; omega) | (simp; done) | assumption) [AV.cells?, AV.isCell, -evIndex, npLoop, cutC, bodyOf, Tryz.f105, h0, h4, h11, h12, bq3, bq5, hlt, hltz, hidx, g1]
        rfl, .inr ⟨by simp, rfl, .inr ⟨rfl, by simp [upd], by simp [upd], fun ⟨ha, _⟩ => ?_⟩⟩⟩
      have := List.all_eq_true.1 ha x hmem
      simp [isDig] at this
      omega
    by_cases g2 : 57 < (x.toNat : Int)
    · refine ⟨.ret, _, by
        simp (disch := first | (simp only [List.length_append, List.length_cons, List.length_nil]; omega) | (simp; done) | assumption) [AV.cells?, AV.isCell, -evIndex, npLoop, cutC, bodyOf, Tryz.f105, h0, h4, h11, h12, bq3, bq5, hlt, hltz, hidx, g1, g2]
        rfl, .inr ⟨by simp, rfl, .inr ⟨rfl, by simp [upd], by simp [upd], fun ⟨ha, _⟩ => ?_⟩⟩⟩
      have := List.all_eq_true.1 ha x hmem
      simp [isDig] at this
      omega
    have hM := ev_Mul n (val (s.take i)) (by omega) S
    have hsub : IntKind.u8.wrap ((x.toNat : Int) - 48) = ((x.toNat - 48 : Nat) : Int) := by rw [wrapu8 _ (by omega)]; omega
    have hcv : IntKind.i64.wrap ((x.toNat - 48 : Nat) : Int) = ((x.toNat - 48 : Nat) : Int) := wrap64 _ (by omega)
    generalize hd : x.toNat - 48 = d at *
    have hdig : isDig x = true := by simp [isDig]; omega
    by_cases k1 : ((val (s.take i) * 10 : Nat) : Int) ≤ 9223372036854775807
    · rw [if_pos k1, decide_eq_true k1] at hM
      have hA := ev_Add (n + 1) ((val (s.take i) * 10 : Nat) : Int) (d : Int) (by omega) (by omega) S
      have hsum : ((val (s.take i) * 10 : Nat) : Int) + (d : Int) = (val (s.take (i + 1)) : Int) := by rw [hvs]; omega
      rw [hsum] at hA
      generalize hv2 : val (s.take (i + 1)) = v2 at *
      generalize val (s.take i) = v1 at *
      generalize v1 * 10 = v10 at *
      by_cases k2 : (v2 : Int) ≤ 9223372036854775807
      · rw [if_pos k2, decide_eq_true k2] at hA
        refine ⟨.norm, _, by
          simp (disch := first | (simp only [List.length_append, List.length_cons, List.length_nil]; omega) | (simp; done) | assumption) [AV.cells?, AV.isCell, -evIndex, npLoop, cutC, bodyOf, Tryz.f105, h0, h4, h11, h12, bq3, bq5, iq5, iq2, hlt, hltz, hidx, g1, g2, hM, hsub, hcv, hA]
          rfl, .inl ⟨rfl, m, by omega, i + 1, by omega, by simp [upd, h0], by rw [hv2]; simp [upd], by simp [upd, h11], by simp [upd, hw], rfl, by rw [htake, List.all_append, hall]; simp [hdig], by rw [hv2]; omega⟩⟩
      · rw [if_neg k2, decide_eq_false k2] at hA
        refine ⟨.ret, _, by
          simp (disch := first | (simp only [List.length_append, List.length_cons, List.length_nil]; omega) | (simp; done) | assumption) [AV.cells?, AV.isCell, -evIndex, npLoop, cutC, bodyOf, Tryz.f105, h0, h4, h11, h12, bq3, bq5, iq5, iq2, hlt, hltz, hidx, g1, g2, hM, hsub, hcv, hA]
          rfl, .inr ⟨by simp, rfl, .inr ⟨rfl, by simp [upd], by simp [upd], fun ⟨_, hv⟩ => by omega⟩⟩⟩
    · rw [if_neg k1, decide_eq_false k1] at hM
      have hA := ev_Add (n + 1) 0 (d : Int) (by omega) (by omega) S
      rw [Int.zero_add, if_pos (by omega), decide_eq_true (by omega)] at hA
      generalize val (s.take (i + 1)) = v2 at *
      generalize val (s.take i) = v1 at *
      refine ⟨.ret, _, by
        simp (disch := first | (simp only [List.length_append, List.length_cons, List.length_nil]; omega) | (simp; done) | assumption) [AV.cells?, AV.isCell, -evIndex, npLoop, cutC, bodyOf, Tryz.f105, h0, h4, h11, h12, bq3, bq5, iq5, iq2, hlt, hltz, hidx, g1, g2, hM, hsub, hcv, hA]
        rfl, .inr ⟨by simp, rfl, .inr ⟨rfl, by simp [upd], by simp [upd], fun ⟨_, hv⟩ => by omega⟩⟩⟩

theorem ev_Parse (n : Nat) (s : List UInt8) (hs : s.length ≤ 1048576) (hn : s.length < n) (hn2 : 40 ≤ n) (S : St) :
    ev Tryz.prog E (n + 3) 105 [.str s] S = some (.ret (match parseN s with | some v => .tup [.int .i64 (v : Int), .bool true] | none => .tup [.int .i64 0, .bool false]), S) := by
  rw [show n + 3 = (n + 2) + 1 from rfl, ev_enter (n := n + 2) (show E.ok 105 = true from rfl) Tryz.func105 f54b (Nat.le_of_ble_eq_true rfl) (by decide +kernel)]
  obtain ⟨⟨o, t, b, v, S'⟩, hr, hS, hq⟩ := iter_meas (fun m fs h => np_round n s S hs m fs h) s.length (n + 2)
    ⟨upd 12 (.int .i64 0) (upd 11 (.int .i64 s.length) (upd 10 (.str s) (upd 4 (.int .i64 0) (upd 3 (.bool false) (upd 2 (.int .i64 0) (argsA [.str s])))))), fun _ => (0, []), 6, S⟩ (by omega)
    ⟨0, by omega, by simp [upd, argsA], by simp [upd, val], by simp [upd], by simp [upd], rfl, by simp, by simp [val]⟩
  simp only at hS hq
  subst hS
  rcases hq with ⟨rfl, h0, h4, ha, hv⟩ | ⟨rfl, h2, h3, hno⟩
  · have hD : ev Tryz.prog E (n + 2) 57 [.int .i64 (val s : Int)] S' = some (.ret (.str (dec (val s))), S') := ev_dec (n + 1) (by omega) (val s) (by unfold in64; omega) S'
    cases e : (dec (val s) == s)
    · have hp : parseN s = none := by
        unfold parseN
        rw [if_neg]
        rintro ⟨_, _, h⟩
        rw [h] at e; simp at e
      rw [hp]
      generalize dec (val s) = ds at *
      simp (disch := first | (simp only [List.length_append, List.length_cons, List.length_nil]; omega) | (simp; done) | assumption) [AV.cells?, AV.isCell, np0, np1, np2, np3, cutC, bodyOf, Tryz.f105, sq9, bq9, hr, h0, h4, hD, bne, e, fin_ib]
    · have hp : parseN s = some (val s) := by
        unfold parseN
        rw [if_pos ⟨ha, hv, by simpa using e⟩]
      rw [hp]
      generalize dec (val s) = ds at *
      simp (disch := first | (simp only [List.length_append, List.length_cons, List.length_nil]; omega) | (simp; done) | assumption) [AV.cells?, AV.isCell, np0, np1, np2, np3, cutC, bodyOf, Tryz.f105, sq9, bq9, hr, h0, h4, hD, bne, e, fin_ib]
  · have hp : parseN s = none := by
      unfold parseN
      rw [if_neg fun h => hno ⟨h.1, h.2.1⟩]
    rw [hp]
    simp (disch := first | (simp only [List.length_append, List.length_cons, List.length_nil]; omega) | (simp; done) | assumption) [AV.cells?, AV.isCell, np0, np1, np2, np3, cutC, bodyOf, Tryz.f105, sq9, hr, h2, h3, fin_ib]
end Go.Proofs.YtemggoaefohliaaGreatDoor.LX
/- The lexer: names, numbers, texts, evaluated. No condition. -/
namespace Go.Proofs.YtemggoaefohliaaGreatDoor.LX
set_option linter.unusedVariables false
set_option linter.unusedSimpArgs false
open Go AE EX PT NF
set_option maxRecDepth 100000

theorem LSt_get (S0 : St) (s : List UInt8) (p : Nat) (out : List Tk) : (LSt S0 s p out).H[S0.H.length]? = some ⟨84, [.str s, .int .i64 p, lv S0 out]⟩ := HS_get _ _
/-- behind an error in a word -/
def ErrSt (S0 : St) (s : List UInt8) (p : Nat) (out : List Tk) (c : Int) : St := ⟨HS S0 ⟨84, [.str s, .int .i64 p, lv S0 out]⟩ ++ [⟨81, [.int .i64 c, .int .i64 p, .nilif]⟩], S0.T ++ lT out⟩
def errV (S0 : St) : AV := .iface 78 (.ptr (S0.H.length + 1) 0)
theorem ev_NewL (n : Nat) (c : Int) (S0 : St) (s : List UInt8) (p : Nat) (out : List Tk) : ev Tryz.prog E (n + 1) 22 [.int .i64 c, .int .i64 (p : Int)] (LSt S0 s p out) = some (.ret (errV S0), ErrSt S0 s p out c) := by
  rw [ev_New]
  simp [LSt, HS_len, errV, ErrSt]
theorem fin_err (S0 : St) (s : List UInt8) (p : Nat) (out : List Tk) (c : Int) : finish (LSt S0 s p out) (errV S0) (ErrSt S0 s p out c) = some (errV S0, ErrSt S0 s p out c) := by
  unfold finish
  simp [errV, AV.sealed, AV.strip, AV.low, LSt, HS_len]
theorem bT1 (k : Int) (s : List UInt8) : evBuild Tryz.prog 55 [(0, .int .i64 k), (1, .str s)] = some (Tk.emb ⟨k, s, 0, 0⟩) := by
  have : Tk.emb ⟨k, s, 0, 0⟩ = .agg [.int .i64 k, .str s, .int .i64 0, .int .i64 0] := rfl
  rw [this]
  simp [evBuild, tp46, tz46, fillA, tl46_0, tl46_1, AV.cells?, wrc]
theorem bT2 (k : Int) (s : List UInt8) (v : Int) : evBuild Tryz.prog 55 [(0, .int .i64 k), (1, .str s), (2, .int .i64 v)] = some (Tk.emb ⟨k, s, v, 0⟩) := by
  have : Tk.emb ⟨k, s, v, 0⟩ = .agg [.int .i64 k, .str s, .int .i64 v, .int .i64 0] := rfl
  rw [this]
  simp [evBuild, tp46, tz46, fillA, tl46_0, tl46_1, tl46_2, AV.cells?, wrc]
def sub (s : List UInt8) (p q : Nat) : List UInt8 := (s.take q).drop p
theorem sl2 (s : List UInt8) (p q : Nat) (h1 : p ≤ q) (h2 : q ≤ s.length) : evSlice Tryz.prog 9 (.str s) (some (.int .i64 (p : Int))) (some (.int .i64 (q : Int))) = some (.str (sub s p q)) := by
  simp [evSlice, sq9, sub]
  omega
theorem sl1 (s : List UInt8) (p : Nat) (h1 : p ≤ s.length) : evSlice Tryz.prog 9 (.str s) (some (.int .i64 (p : Int))) none = some (.str (s.drop p)) := by
  simp [evSlice, sq9]
  omega

/-- what a step of the lexer gives: an error's code, or a word and where it ends -/
inductive LR where
  | err (c : Int)
  | word (t : Tk) (to : Nat)
def LR.put (p : Nat) : LR → LR
  | .err c => .err c
  | .word t to => .word { t with p := p } to
/-- the answer's shape -/
def ans (S0 : St) (s : List UInt8) (p : Nat) (out : List Tk) : LR → Option (Res × St)
  | .err c => some (.ret (errV S0), ErrSt S0 s p out c)
  | .word t to => some (.ret .nilif, LSt S0 s to (out ++ [t]))

theorem ans_err (S0 : St) (s : List UInt8) (p : Nat) (out : List Tk) (c : Int) : ans S0 s p out (.err c) = some (.ret (errV S0), ErrSt S0 s p out c) := rfl
theorem ans_word (S0 : St) (s : List UInt8) (p : Nat) (out : List Tk) (t : Tk) (to : Nat) : ans S0 s p out (.word t to) = some (.ret .nilif, LSt S0 s to (out ++ [t])) := rfl

def namedR (s : List UInt8) (p : Nat) : LR := if 16 < far s p - p then .err 5 else .word ⟨1, sub s p (far s p), 0, p⟩ (far s p)
theorem ev_named (n : Nat) (S0 : St) (s : List UInt8) (p : Nat) (out : List Tk) (hs : s.length ≤ 1048576) (hp : p ≤ s.length) (hn : s.length < n) (hl : out.length ≤ 1048576) :
    ev Tryz.prog E (n + 3) 69 [.ptr S0.H.length 0] (LSt S0 s p out) = ans S0 s p out (namedR s p) := by
  have hL := LSt_get S0 s p out
  have hW := ev_word n S0.H.length s p _ _ hL hs hp hn
  have hg := far_ge s p
  have hle := far_le hp
  have hE := ev_NewL (n + 1) 5 S0 s p out
  have hP := ev_put (n + 1) S0 s p out ⟨1, sub s p (far s p), 0, 0⟩ (far s p) hl
  have hf1 := fin_err S0 s p out 5
  have hf2 := fin_putv S0 s p (far s p) out ⟨1, sub s p (far s p), 0, p⟩ .nilif rfl
  have hsl := sl2 s p (far s p) hg hle
  have hbd := bT1 1 (sub s p (far s p))
  have hps : E.ps 69 4 = [(4, 8)] := rfl
  have hw : IntKind.i64.wrap ((far s p : Int) - p) = ((far s p - p : Nat) : Int) := by rw [wrap64 _ (by omega)]; omega
  simp only at hP hf2
  by_cases h16 : 16 < far s p - p
  · have h16z : (16 : Int) < ((far s p - p : Nat) : Int) := by omega
    rw [show namedR s p = .err 5 from if_pos h16]
    rw [ans_err]
    generalize LSt S0 s p out = L at *
    generalize ErrSt S0 s p out 5 = LE at *
    generalize errV S0 = eV at *
    generalize far s p - p = d at *
    generalize far s p = q at *
    rw [show n + 3 = (n + 2) + 1 from rfl, ev_enter (n := n + 2) (show E.ok 69 = true from rfl) Tryz.func69 (fn := Tryz.f69) rfl (Nat.le_of_ble_eq_true rfl) (by decide +kernel)]
    simp (disch := first | (simp only [List.length_append, List.length_cons, List.length_nil]; omega) | (simp; done) | assumption) [AV.cells?, AV.isCell, -evBuild, -evSlice, Tryz.f69, E_esc, hL, tq61_0, tq61_1, tk61, k9, c9, a9, k3, c3, a3, sq9, bq3, hW, hw, h16, h16z, hE, hf1]
  · have h16z : ¬ (16 : Int) < ((far s p - p : Nat) : Int) := by omega
    rw [show namedR s p = .word ⟨1, sub s p (far s p), 0, p⟩ (far s p) from if_neg h16]
    rw [ans_word]
    generalize LSt S0 s (far s p) _ = L2 at *
    generalize LSt S0 s p out = L at *
    generalize sub s p (far s p) = sb at *
    generalize Tk.emb ⟨1, sb, 0, 0⟩ = te at *
    generalize far s p - p = d at *
    generalize far s p = q at *
    rw [show n + 3 = (n + 2) + 1 from rfl, ev_enter (n := n + 2) (show E.ok 69 = true from rfl) Tryz.func69 (fn := Tryz.f69) rfl (Nat.le_of_ble_eq_true rfl) (by decide +kernel)]
    simp (disch := first | (simp only [List.length_append, List.length_cons, List.length_nil]; omega) | (simp; done) | assumption) [AV.cells?, AV.isCell, -evBuild, -evSlice, Tryz.f69, E_esc, hL, tq61_0, tq61_1, tk61, k9, c9, a9, k3, c3, a3, sq9, bq3, hW, hw, h16, h16z, hsl, hbd, hP, hf2, hps]

/-! ### numbers -/
def numberedR (s : List UInt8) (p : Nat) : LR := match parseN (sub s p (far s p)) with
  | some v => .word ⟨2, sub s p (far s p), v, p⟩ (far s p)
  | none => .err 16
theorem sub_len (s : List UInt8) (p q : Nat) : (sub s p q).length ≤ s.length := by
  simp [sub]; omega
theorem ev_numbered (n : Nat) (S0 : St) (s : List UInt8) (p : Nat) (out : List Tk) (hs : s.length ≤ 1048576) (hp : p ≤ s.length) (hn : s.length + 40 < n) (hl : out.length ≤ 1048576) :
    ev Tryz.prog E (n + 4) 71 [.ptr S0.H.length 0] (LSt S0 s p out) = ans S0 s p out (numberedR s p) := by
  have hL := LSt_get S0 s p out
  have hW := ev_word (n + 1) S0.H.length s p _ _ hL hs hp (by omega)
  have hg := far_ge s p
  have hle := far_le hp
  have hE := ev_NewL (n + 2) 16 S0 s p out
  have hf1 := fin_err S0 s p out 16
  have hsl := sl2 s p (far s p) hg hle
  have hps2 : E.ps 71 2 = [(3, 7)] := rfl
  have hps5 : E.ps 71 5 = [(4, 8)] := rfl
  have hN := ev_Parse n (sub s p (far s p)) (by have := sub_len s p (far s p); omega) (by have := sub_len s p (far s p); omega) (by omega) (LSt S0 s p out)
  cases hv : parseN (sub s p (far s p)) with
  | none =>
    rw [hv] at hN
    rw [show numberedR s p = .err 16 by unfold numberedR; rw [hv]]
    rw [ans_err]
    simp only at hN
    generalize LSt S0 s p out = L at *
    generalize ErrSt S0 s p out 16 = LE at *
    generalize errV S0 = eV at *
    generalize sub s p (far s p) = sb at *
    generalize far s p = q at *
    rw [show n + 4 = (n + 3) + 1 from rfl, ev_enter (n := n + 3) (show E.ok 71 = true from rfl) Tryz.func71 (fn := Tryz.f71) rfl (Nat.le_of_ble_eq_true rfl) (by decide +kernel)]
    simp (disch := first | (simp only [List.length_append, List.length_cons, List.length_nil]; omega) | (simp; done) | assumption) [AV.cells?, AV.isCell, -evBuild, -evSlice, Tryz.f71, E_esc, hL, tq61_0, tq61_1, tk61, k9, c9, a9, k3, c3, a3, sq9, bq3, hW, hsl, hN, hE, hf1, hps2]
  | some v =>
    rw [hv] at hN
    have hP := ev_put (n + 2) S0 s p out ⟨2, sub s p (far s p), v, 0⟩ (far s p) hl
    have hf2 := fin_putv S0 s p (far s p) out ⟨2, sub s p (far s p), v, p⟩ .nilif rfl
    have hbd := bT2 2 (sub s p (far s p)) v
    simp only at hP hf2 hN
    rw [show numberedR s p = .word ⟨2, sub s p (far s p), v, p⟩ (far s p) by unfold numberedR; rw [hv]]
    rw [ans_word]
    generalize LSt S0 s (far s p) _ = L2 at *
    generalize LSt S0 s p out = L at *
    generalize sub s p (far s p) = sb at *
    generalize Tk.emb ⟨2, sb, v, 0⟩ = te at *
    generalize far s p = q at *
    rw [show n + 4 = (n + 3) + 1 from rfl, ev_enter (n := n + 3) (show E.ok 71 = true from rfl) Tryz.func71 (fn := Tryz.f71) rfl (Nat.le_of_ble_eq_true rfl) (by decide +kernel)]
    simp (disch := first | (simp only [List.length_append, List.length_cons, List.length_nil]; omega) | (simp; done) | assumption) [AV.cells?, AV.isCell, -evBuild, -evSlice, Tryz.f71, E_esc, hL, tq61_0, tq61_1, tk61, k9, c9, a9, k3, c3, a3, sq9, bq3, hW, hsl, hN, hbd, hP, hf2, hps2, hps5]
end Go.Proofs.YtemggoaefohliaaGreatDoor.LX
/- The lexer: texts and signs, evaluated. No condition. -/
namespace Go.Proofs.YtemggoaefohliaaGreatDoor.LX
set_option linter.unusedVariables false
set_option linter.unusedSimpArgs false
open Go AE EX PT NF
set_option maxRecDepth 100000

theorem indexByte_lt : ∀ (l : List UInt8) (c : UInt8) (k : Nat), Lib.indexByte l c = (k : Int) → k < l.length
  | [], c, k, h => by simp [Lib.indexByte] at h
  | b :: l, c, k, h => by
    have hg := Lib.indexByte_ge l c
    cases e : (b == c)
    · have h1 : Lib.indexByte (b :: l) c = if Lib.indexByte l c = -1 then -1 else Lib.indexByte l c + 1 := by simp [Lib.indexByte, e]
      rw [h1] at h
      split at h
      · omega
      · have := indexByte_lt l c (k - 1) (by omega)
        simp; omega
    · simp [Lib.indexByte, e] at h
      simp; omega

def quotedR (s : List UInt8) (p : Nat) : LR :=
  if Lib.indexByte (s.drop (p + 1)) 34 < 0 then .err 16
  else if 0 ≤ Lib.indexByte (sub s (p + 1) (p + 1 + (Lib.indexByte (s.drop (p + 1)) 34).toNat)) 10 then .err 16
  else if plainB (sub s (p + 1) (p + 1 + (Lib.indexByte (s.drop (p + 1)) 34).toNat)) = true then .word ⟨3, sub s (p + 1) (p + 1 + (Lib.indexByte (s.drop (p + 1)) 34).toNat), 0, p⟩ (p + (Lib.indexByte (s.drop (p + 1)) 34).toNat + 2)
  else .err 5

set_option maxHeartbeats 4000000 in
theorem ev_quoted (n : Nat) (S0 : St) (s : List UInt8) (p : Nat) (out : List Tk) (hs : s.length ≤ 1048576) (hp : p < s.length) (hl : out.length ≤ 1048576) :
    ev Tryz.prog E (n + 3) 72 [.ptr S0.H.length 0] (LSt S0 s p out) = ans S0 s p out (quotedR s p) := by
  have hL := LSt_get S0 s p out
  have hE16 := ev_NewL (n + 1) 16 S0 s p out
  have hE5 := ev_NewL (n + 1) 5 S0 s p out
  have hf16 := fin_err S0 s p out 16
  have hf5 := fin_err S0 s p out 5
  have hps1 : E.ps 72 1 = [(3, 7)] := rfl
  have hps2 : E.ps 72 2 = [(6, 10), (6, 15), (10, 15)] := rfl
  have hps4 : E.ps 72 4 = [(3, 7), (3, 12), (7, 12)] := rfl
  have hs1 := sl1 s (p + 1) (by omega)
  have hi34 : ev Tryz.prog E (n + 2) 67 [.str (s.drop (p + 1)), .int .u8 34] (LSt S0 s p out) = some (.ret (.int .i64 (Lib.indexByte (s.drop (p + 1)) 34)), LSt S0 s p out) := ev_indexByte (n + 1) _ 34 _
  have hw1 : IntKind.i64.wrap ((p : Int) + 1) = ((p + 1 : Nat) : Int) := by rw [wrap64 _ (by omega)]; omega
  by_cases h34 : Lib.indexByte (s.drop (p + 1)) 34 < 0
  · rw [show quotedR s p = .err 16 from if_pos h34, ans_err]
    generalize Lib.indexByte (s.drop (p + 1)) 34 = i34 at *
    generalize s.drop (p + 1) = sd at *
    generalize LSt S0 s p out = L at *
    generalize ErrSt S0 s p out 16 = LE at *
    generalize errV S0 = eV at *
    generalize p + 1 = P1 at *
    rw [show n + 3 = (n + 2) + 1 from rfl, ev_enter (n := n + 2) (show E.ok 72 = true from rfl) Tryz.func72 (fn := Tryz.f72) rfl (Nat.le_of_ble_eq_true rfl) (by decide +kernel)]
    simp (disch := first | (simp only [List.length_append, List.length_cons, List.length_nil]; omega) | (simp; done) | assumption) [AV.cells?, AV.isCell, -evBuild, -evSlice, Tryz.f72, E_esc, hL, tq61_0, tq61_1, tk61, k9, c9, a9, k3, c3, a3, sq9, bq3, hw1, hs1, hi34, h34, hE16, hf16, hps1, hps2]
  obtain ⟨k, hk⟩ : ∃ k : Nat, Lib.indexByte (s.drop (p + 1)) 34 = (k : Int) := ⟨(Lib.indexByte (s.drop (p + 1)) 34).toNat, by omega⟩
  have hkl := indexByte_lt _ _ _ hk
  simp only [List.length_drop] at hkl
  have hkt : (Lib.indexByte (s.drop (p + 1)) 34).toNat = k := by omega
  have hs2 := sl2 s (p + 1) (p + 1 + k) (by omega) (by omega)
  have hi10 : ev Tryz.prog E (n + 2) 67 [.str (sub s (p + 1) (p + 1 + k)), .int .u8 10] (LSt S0 s p out) = some (.ret (.int .i64 (Lib.indexByte (sub s (p + 1) (p + 1 + k)) 10)), LSt S0 s p out) := ev_indexByte (n + 1) _ 10 _
  have hPl := ev_lPlain n (sub s (p + 1) (p + 1 + k)) (LSt S0 s p out)
  have hw2 : IntKind.i64.wrap (((p + 1 : Nat) : Int) + (k : Int)) = ((p + 1 + k : Nat) : Int) := by rw [wrap64 _ (by omega)]; omega
  have hw3 : IntKind.i64.wrap ((p : Int) + (k : Int)) = ((p + k : Nat) : Int) := by rw [wrap64 _ (by omega)]; omega
  have hw4 : IntKind.i64.wrap (((p + k : Nat) : Int) + 2) = ((p + k + 2 : Nat) : Int) := by rw [wrap64 _ (by omega)]; omega
  have hP := ev_put (n + 1) S0 s p out ⟨3, sub s (p + 1) (p + 1 + k), 0, 0⟩ (p + k + 2) hl
  have hf2 := fin_putv S0 s p (p + k + 2) out ⟨3, sub s (p + 1) (p + 1 + k), 0, p⟩ .nilif rfl
  have hbd := bT1 3 (sub s (p + 1) (p + 1 + k))
  have hk0 : ¬ (k : Int) < 0 := by omega
  simp only at hP hf2
  have hQ : quotedR s p = if 0 ≤ Lib.indexByte (sub s (p + 1) (p + 1 + k)) 10 then .err 16 else if plainB (sub s (p + 1) (p + 1 + k)) = true then .word ⟨3, sub s (p + 1) (p + 1 + k), 0, p⟩ (p + k + 2) else .err 5 := by
    unfold quotedR
    rw [if_neg h34, hkt]
  rw [hQ]
  rw [hk] at hi34
  clear hQ h34 hkl hkt
  by_cases h10 : 0 ≤ Lib.indexByte (sub s (p + 1) (p + 1 + k)) 10
  · rw [if_pos h10, ans_err]
    generalize Lib.indexByte (sub s (p + 1) (p + 1 + k)) 10 = i10 at *
    generalize sub s (p + 1) (p + 1 + k) = sb at *
    clear hk
    generalize s.drop (p + 1) = sd at *
    generalize LSt S0 s p out = L at *
    generalize ErrSt S0 s p out 16 = LE at *
    generalize errV S0 = eV at *
    generalize p + 1 + k = Q1 at *
    generalize p + 1 = P1 at *
    rw [show n + 3 = (n + 2) + 1 from rfl, ev_enter (n := n + 2) (show E.ok 72 = true from rfl) Tryz.func72 (fn := Tryz.f72) rfl (Nat.le_of_ble_eq_true rfl) (by decide +kernel)]
    simp (disch := first | (simp only [List.length_append, List.length_cons, List.length_nil]; omega) | (simp; done) | assumption) [AV.cells?, AV.isCell, -evBuild, -evSlice, Tryz.f72, E_esc, hL, tq61_0, tq61_1, tk61, k9, c9, a9, k3, c3, a3, sq9, bq3, hw1, hw2, hs1, hs2, hi34, hi10, hk0, h10, hE16, hf16, hps1, hps2]
  rw [if_neg h10]
  cases hpl : plainB (sub s (p + 1) (p + 1 + k))
  · rw [hpl] at hPl
    rw [if_neg (by simp), ans_err]
    generalize Lib.indexByte (sub s (p + 1) (p + 1 + k)) 10 = i10 at *
    clear hpl
    generalize sub s (p + 1) (p + 1 + k) = sb at *
    clear hk
    generalize s.drop (p + 1) = sd at *
    generalize LSt S0 s p out = L at *
    generalize ErrSt S0 s p out 5 = LE at *
    generalize errV S0 = eV at *
    generalize p + 1 + k = Q1 at *
    generalize p + 1 = P1 at *
    rw [show n + 3 = (n + 2) + 1 from rfl, ev_enter (n := n + 2) (show E.ok 72 = true from rfl) Tryz.func72 (fn := Tryz.f72) rfl (Nat.le_of_ble_eq_true rfl) (by decide +kernel)]
    simp (disch := first | (simp only [List.length_append, List.length_cons, List.length_nil]; omega) | (simp; done) | assumption) [AV.cells?, AV.isCell, -evBuild, -evSlice, Tryz.f72, E_esc, hL, tq61_0, tq61_1, tk61, k9, c9, a9, k3, c3, a3, sq9, bq3, hw1, hw2, hs1, hs2, hi34, hi10, hk0, h10, hPl, hE5, hf5, hps1, hps2, hps4]
  · rw [hpl] at hPl
    rw [if_pos rfl, ans_word]
    generalize Lib.indexByte (sub s (p + 1) (p + 1 + k)) 10 = i10 at *
    clear hpl
    generalize LSt S0 s (p + k + 2) _ = L2 at *
    generalize sub s (p + 1) (p + 1 + k) = sb at *
    generalize Tk.emb ⟨3, sb, 0, 0⟩ = te at *
    clear hk
    generalize s.drop (p + 1) = sd at *
    generalize LSt S0 s p out = L at *
    generalize p + 1 + k = Q1 at *
    generalize p + 1 = P1 at *
    generalize p + k + 2 = R2 at *
    generalize p + k = R1 at *
    rw [show n + 3 = (n + 2) + 1 from rfl, ev_enter (n := n + 2) (show E.ok 72 = true from rfl) Tryz.func72 (fn := Tryz.f72) rfl (Nat.le_of_ble_eq_true rfl) (by decide +kernel)]
    simp (disch := first | (simp only [List.length_append, List.length_cons, List.length_nil]; omega) | (simp; done) | assumption) [AV.cells?, AV.isCell, -evBuild, -evSlice, Tryz.f72, E_esc, hL, tq61_0, tq61_1, tk61, k9, c9, a9, k3, c3, a3, sq9, bq3, hw1, hw2, hw3, hw4, hs1, hs2, hi34, hi10, hk0, h10, hPl, hbd, hP, hf2, hps1, hps2, hps4]
end Go.Proofs.YtemggoaefohliaaGreatDoor.LX
/- The lexer: signs, evaluated. No condition. -/
namespace Go.Proofs.YtemggoaefohliaaGreatDoor.LX
set_option linter.unusedVariables false
set_option linter.unusedSimpArgs false
open Go AE EX PT NF
set_option maxRecDepth 100000

def pre (s q : List UInt8) : Bool := decide (q.length ≤ s.length) && (s.take q.length == q)
theorem ev_pre0 (n : Nat) (s q : List UInt8) (S : St) : ev Tryz.prog E (n + 1) 122 [.str s, .str q] S = some (.ret (.bool (pre s q)), S) := by
  rw [ev_enter (n := n) (show E.ok 122 = true from rfl) Tryz.func122 (fn := Tryz.f122) rfl (Nat.le_of_ble_eq_true rfl) (by decide +kernel)]
  by_cases h : q.length ≤ s.length
  · have hz : (q.length : Int) ≤ (s.length : Int) := by omega
    have hsl : evSlice Tryz.prog 9 (.str s) none (some (.int .i64 (q.length : Int))) = some (.str (s.take q.length)) := by
      simp [evSlice, sq9]; omega
    have hp : pre s q = (s.take q.length == q) := by simp [pre, h]
    rw [hp]
    generalize s.take q.length = st at *
    simp (disch := first | (simp only [List.length_append, List.length_cons, List.length_nil]; omega) | (simp; done) | assumption) [AV.cells?, AV.isCell, -evSlice, Tryz.f122, bq3, bq9, sq9, h, hz, hsl]
  · have hz : ¬ (q.length : Int) ≤ (s.length : Int) := by omega
    have hp : pre s q = false := by simp [pre, h]
    rw [hp]
    simp (disch := first | (simp only [List.length_append, List.length_cons, List.length_nil]; omega) | (simp; done) | assumption) [AV.cells?, AV.isCell, -evSlice, Tryz.f122, bq3, bq9, sq9, h, hz]
theorem ev_pre (n : Nat) (s q : List UInt8) (S : St) : ev Tryz.prog E (n + 2) 107 [.str s, .str q] S = some (.ret (.bool (pre s q)), S) := by
  have := ev_pre0 n s q S
  rw [show n + 2 = (n + 1) + 1 from rfl, ev_enter (n := n + 1) (show E.ok 107 = true from rfl) Tryz.func107 (fn := Tryz.f107) rfl (Nat.le_of_ble_eq_true rfl) (by decide +kernel)]
  simp (disch := first | (simp only [List.length_append, List.length_cons, List.length_nil]; omega) | (simp; done) | assumption) [AV.cells?, AV.isCell, Tryz.f107, this]

def sgL : List (List UInt8) := [[58, 61], [33, 61], [60, 61]]
def signsT : List UInt8 := [40, 41, 91, 93, 123, 125, 44, 59, 46, 43, 45, 42, 61, 60]
theorem z106 : zeroQ Tryz.prog 145 = some [.str [], .str [], .str []] := by kernel_rfl
theorem p106 : partsQ Tryz.prog 145 = true := by kernel_rfl
theorem q106 : arrQ Tryz.prog 145 = some (3, 9) := by kernel_rfl
theorem u106 : Tryz.prog.underlying 145 = some (.array 3 9) := by kernel_rfl
theorem kn9 : (Tryz.prog.underlying 9).isSome = true := by kernel_rfl
theorem sgB : evBuild Tryz.prog 145 [(0, .str [58, 61]), (1, .str [33, 61]), (2, .str [60, 61])] = some (.agg [.str [58, 61], .str [33, 61], .str [60, 61]]) := by
  simp [evBuild, p106, z106, fillA, placeQ, u106, c9, AV.cells?, wrc]
theorem sgI (i : Nat) (q : List UInt8) (h : sgL[i]? = some q) : evIndex Tryz.prog 145 (.agg [.str [58, 61], .str [33, 61], .str [60, 61]]) (.int .i64 (i : Int)) = some (.str q) := by
  match i, h with
  | 0, h => simp [sgL] at h; subst h; simp [evIndex, q106, kn9, c9, a9, rdc]
  | 1, h => simp [sgL] at h; subst h; simp [evIndex, q106, kn9, c9, a9, rdc]
  | 2, h => simp [sgL] at h; subst h; simp [evIndex, q106, kn9, c9, a9, rdc]
  | i + 3, h => simp [sgL] at h

noncomputable def sgLoop : Code := cutC (bodyOf Tryz.f73) [1, 0, 1, 0, 0]
noncomputable def sg0 : Code := cutC (bodyOf Tryz.f73) [0]
noncomputable def sg1 : Code := cutC (bodyOf Tryz.f73) [1, 0, 0]
noncomputable def sg2 : Code := cutC (bodyOf Tryz.f73) [1, 1]
theorem f42b : Tryz.f73.body = some (.seq sg0 (.seq (.seq sg1 (.block 0 (.loop sgLoop))) sg2)) := rfl

/-- the first of the signs of two letters that stands here -/
def sgAt (s : List UInt8) (p : Nat) : Option (List UInt8) := sgL.find? fun q => pre (s.drop p) q
def SGI (S0 : St) (s : List UInt8) (p : Nat) (out : List Tk) (m : Nat) (fs : FS) : Prop :=
  ∃ i, i + m = 3 ∧ fs.t 0 = .ptr S0.H.length 0 ∧ fs.t 5 = .agg [.str [58, 61], .str [33, 61], .str [60, 61]] ∧ fs.t 6 = .int .i64 i ∧ fs.S = LSt S0 s p out ∧ ∀ j q, j < i → sgL[j]? = some q → pre (s.drop p) q = false
def SGQ (S0 : St) (s : List UInt8) (p : Nat) (out : List Tk) (r : Out × FS) : Prop :=
  (r.1 = .exit 0 ∧ r.2.t 0 = .ptr S0.H.length 0 ∧ r.2.S = LSt S0 s p out ∧ sgAt s p = none) ∨ (r.1 = .ret ∧ r.2.t 2 = .nilif ∧ ∃ q, sgAt s p = some q ∧ r.2.S = LSt S0 s (p + 2) (out ++ [⟨4, q, 0, p⟩]))

set_option maxHeartbeats 2000000 in
theorem sg_round (n : Nat) (S0 : St) (s : List UInt8) (p : Nat) (out : List Tk) (hs : s.length ≤ 1048576) (hp : p < s.length) (hl : out.length ≤ 1048576) (m : Nat) (fs : FS) (h : SGI S0 s p out m fs) :
    ∃ o fs', evCode ⟨Tryz.prog, E.esc 73, n + 2⟩ (ev Tryz.prog E (n + 2)) (E.ps 73) (n + 2) sgLoop fs = some (o, fs') ∧ ((o = .norm ∧ ∃ m', m' < m ∧ SGI S0 s p out m' fs') ∨ (o ≠ .norm ∧ SGQ S0 s p out (o, fs'))) := by
  obtain ⟨t, b, v, S⟩ := fs
  obtain ⟨i, hi, h0, h5, h6, hS, hno⟩ := h
  simp only at h0 h5 h6 hS
  subst hS
  cases m with
  | zero =>
    have hi' : i = 3 := by omega
    subst hi'
    have hn : sgAt s p = none := by
      unfold sgAt
      rw [List.find?_eq_none]
      intro q hq
      obtain ⟨j, hj, rfl⟩ := List.getElem_of_mem hq
      have : j < 3 := hj
      simp [hno j _ this (List.getElem?_eq_getElem hj)]
    refine ⟨.exit 0, _, by
      simp (disch := first | (simp only [List.length_append, List.length_cons, List.length_nil]; omega) | (simp; done) | assumption) [AV.cells?, AV.isCell, sgLoop, cutC, bodyOf, Tryz.f73, h6, bq3]
      rfl, .inr ⟨by simp, .inl ⟨rfl, by simp [upd, h0], rfl, hn⟩⟩⟩
  | succ m =>
    have hlt : i < 3 := by omega
    obtain ⟨q, hq⟩ : ∃ q, sgL[i]? = some q := ⟨sgL[i]'(show i < sgL.length from hlt), List.getElem?_eq_getElem _⟩
    have hq2 : q.length = 2 := by
      match i, hq with
      | 0, h => simp [sgL] at h; subst h; rfl
      | 1, h => simp [sgL] at h; subst h; rfl
      | 2, h => simp [sgL] at h; subst h; rfl
      | i + 3, h => simp [sgL] at h
    have hIx := sgI i q hq
    have hL := LSt_get S0 s p out
    have hs1 := sl1 s p (by omega)
    have hPr := ev_pre n (s.drop p) q (LSt S0 s p out)
    have hw : IntKind.i64.wrap ((i : Int) + 1) = (i : Int) + 1 := wrap64 _ (by omega)
    have hltz : (i : Int) < 3 := by omega
    have hps4 : E.ps 73 4 = [(3, 7)] := rfl
    have hw2 : IntKind.i64.wrap ((p : Int) + 2) = ((p + 2 : Nat) : Int) := by rw [wrap64 _ (by omega)]; omega
    have hP := ev_put (n + 1) S0 s p out ⟨4, q, 0, 0⟩ (p + 2) hl
    have hbd := bT1 4 q
    simp only at hP
    generalize hA : AV.agg [.str [58, 61], .str [33, 61], .str [60, 61]] = arr at *
    cases hpr : pre (s.drop p) q
    · rw [hpr] at hPr
      generalize hLL : LSt S0 s p out = L at *
      refine ⟨.norm, _, by
        simp (disch := first | (simp only [List.length_append, List.length_cons, List.length_nil]; omega) | (simp; done) | assumption) [AV.cells?, AV.isCell, -evBuild, -evSlice, -evIndex, sgLoop, cutC, bodyOf, Tryz.f73, E_esc, h0, h5, h6, hL, hIx, tq61_0, tq61_1, tk61, k9, c9, a9, k3, c3, a3, sq9, bq3, hlt, hltz, hs1, hPr, hps4]
        rfl, .inl ⟨rfl, m, by omega, i + 1, by omega, by simp [upd, h0], by simp [upd, h5, hA], by simp [upd, hw], by rw [hLL], fun j q' hj hq' => by
          by_cases hji : j = i
          · subst hji; rw [hq] at hq'; cases hq'; exact hpr
          · exact hno j q' (by omega) hq'⟩⟩
    · rw [hpr] at hPr
      have hfind : sgAt s p = some q := by
        unfold sgAt
        match i, hq, hno with
        | 0, hq, hno => simp [sgL] at hq; subst hq; simp [sgL, hpr]
        | 1, hq, hno =>
          have k0 := hno 0 [58, 61] (by omega) rfl
          simp [sgL] at hq; subst hq; simp [sgL, List.find?, k0, hpr]
        | 2, hq, hno =>
          have k0 := hno 0 [58, 61] (by omega) rfl
          have k1 := hno 1 [33, 61] (by omega) rfl
          simp [sgL] at hq; subst hq; simp [sgL, List.find?, k0, k1, hpr]
        | i + 3, hq, _ => simp [sgL] at hq
      generalize hL2 : LSt S0 s (p + 2) _ = L2 at *
      generalize LSt S0 s p out = L at *
      generalize hP2 : p + 2 = P2 at *
      generalize Tk.emb ⟨4, q, 0, 0⟩ = te at *
      refine ⟨.ret, _, by
        simp (disch := first | (simp only [List.length_append, List.length_cons, List.length_nil]; omega) | (simp; done) | assumption) [AV.cells?, AV.isCell, -evBuild, -evSlice, -evIndex, sgLoop, cutC, bodyOf, Tryz.f73, E_esc, h0, h5, h6, hL, hIx, tq61_0, tq61_1, tk61, k9, c9, a9, k3, c3, a3, sq9, bq3, hlt, hltz, hs1, hPr, hps4, hq2, hw2, hbd, hP]
        rfl, .inr ⟨by simp, .inr ⟨rfl, by simp [upd], q, hfind, by rw [hP2, hL2]⟩⟩⟩

def signedR (s : List UInt8) (p : Nat) : LR :=
  match sgAt s p with
  | some q => .word ⟨4, q, 0, p⟩ (p + 2)
  | none => match s[p]? with
    | some c => if signsT.contains c then .word ⟨4, sub s p (p + 1), 0, p⟩ (p + 1) else .err 16
    | none => .err 16
theorem contains_index : ∀ (l : List UInt8) (c : UInt8), l.contains c = decide (0 ≤ Lib.indexByte l c)
  | [], c => by simp [Lib.indexByte]
  | b :: l, c => by
    have ih := contains_index l c
    have hg := Lib.indexByte_ge l c
    cases e : (b == c)
    · have h1 : Lib.indexByte (b :: l) c = if Lib.indexByte l c = -1 then -1 else Lib.indexByte l c + 1 := by simp [Lib.indexByte, e]
      have e' : (c == b) = false := by rw [← e]; exact Bool.beq_comm
      rw [List.contains_cons, e', Bool.false_or, ih, h1]
      split <;> simp <;> omega
    · have e' : (c == b) = true := by rw [← e]; exact Bool.beq_comm
      rw [List.contains_cons, e']
      simp [Lib.indexByte, e]

set_option maxHeartbeats 2000000 in
theorem ev_signed (n : Nat) (hn : 5 ≤ n) (S0 : St) (s : List UInt8) (p : Nat) (out : List Tk) (hs : s.length ≤ 1048576) (hp : p < s.length) (hl : out.length ≤ 1048576) :
    ev Tryz.prog E (n + 3) 73 [.ptr S0.H.length 0] (LSt S0 s p out) = ans S0 s p out (signedR s p) := by
  have hgb := sgB
  rw [show n + 3 = (n + 2) + 1 from rfl, ev_enter (n := n + 2) (show E.ok 73 = true from rfl) Tryz.func73 f42b (Nat.le_of_ble_eq_true rfl) (by decide +kernel)]
  obtain ⟨fs1, e1, p1⟩ : ∃ fs', evCode ⟨Tryz.prog, E.esc 73, n + 2⟩ (ev Tryz.prog E (n + 2)) (E.ps 73) (n + 2) (.seq sg0 sg1) ⟨argsA [.ptr S0.H.length 0], fun _ => (0, []), 0, LSt S0 s p out⟩ = some (.norm, fs') ∧ SGI S0 s p out 3 fs' := by
    generalize hA : AV.agg [.str [58, 61], .str [33, 61], .str [60, 61]] = arr at *
    refine ⟨_, by
      simp (disch := first | (simp only [List.length_append, List.length_cons, List.length_nil]; omega) | (simp; done) | assumption) [AV.cells?, AV.isCell, -evBuild, sg0, sg1, cutC, bodyOf, Tryz.f73, E_esc, hgb]
      rfl, 0, by omega, by simp [upd, argsA], by rw [hA]; simp [upd], by simp [upd], rfl, fun j q hj => by omega⟩
  obtain ⟨⟨o, fs2⟩, r1, r2⟩ := iter_meas (fun m' fs h => sg_round n S0 s p out hs hp hl m' fs h) 3 (n + 2) fs1 (by omega) p1
  rw [evCode_assoc, evCode_seq, evCode_assoc, evCode_seq, e1, seqK_norm, evCode_block, evCode_loop, r1]
  obtain ⟨t, b, c, S⟩ := fs2
  rcases r2 with ⟨rfl, h0, rfl, hn⟩ | ⟨rfl, h2, q, hq, rfl⟩
  · have hL := LSt_get S0 s p out
    have hxe : s[p]? = some s[p] := List.getElem?_eq_getElem hp
    have hidx : evIndex Tryz.prog 9 (.str s) (.int .i64 (p : Int)) = some (.int .u8 (s[p].toNat : Int)) := by simp [evIndex, sq9, hp]
    have hR : signedR s p = if signsT.contains s[p] then .word ⟨4, sub s p (p + 1), 0, p⟩ (p + 1) else .err 16 := by
      unfold signedR; rw [hn, hxe]
    rw [hR, contains_index]
    have hI : ev Tryz.prog E (n + 2) 67 [.str [40, 41, 91, 93, 123, 125, 44, 59, 46, 43, 45, 42, 61, 60], .int .u8 (s[p].toNat : Int)] (LSt S0 s p out) = some (.ret (.int .i64 (Lib.indexByte signsT s[p])), LSt S0 s p out) := by
      have := ev_indexByte (n + 1) signsT (s[p].toNat : Int) (LSt S0 s p out)
      have e : (s[p].toNat : Int).toNat.toUInt8 = s[p] := by simp
      rw [e] at this
      exact this
    have hps8 : E.ps 73 8 = [(3, 7)] := rfl
    have hps10 : E.ps 73 10 = [(4, 8), (4, 12), (8, 12), (4, 19), (8, 19), (12, 19)] := rfl
    have hE := ev_NewL (n + 1) 16 S0 s p out
    have hf1 := fin_err S0 s p out 16
    have hsl := sl2 s p (p + 1) (by omega) (by omega)
    have hbd := bT1 4 (sub s p (p + 1))
    have hP := ev_put (n + 1) S0 s p out ⟨4, sub s p (p + 1), 0, 0⟩ (p + 1) hl
    have hf2 := fin_putv S0 s p (p + 1) out ⟨4, sub s p (p + 1), 0, p⟩ .nilif rfl
    have hw1 : IntKind.i64.wrap ((p : Int) + 1) = ((p + 1 : Nat) : Int) := by rw [wrap64 _ (by omega)]; omega
    simp only at hP hf2 h0
    generalize Lib.indexByte signsT s[p] = ix at *
    generalize s[p] = x at *
    by_cases hx : 0 ≤ ix
    · have hx' : ¬ ix < 0 := by omega
      rw [decide_eq_true hx, if_pos rfl, ans_word]
      generalize LSt S0 s (p + 1) _ = L2 at *
      generalize LSt S0 s p out = L at *
      generalize sub s p (p + 1) = sb at *
      generalize Tk.emb ⟨4, sb, 0, 0⟩ = te at *
      generalize p + 1 = P1 at *
      simp (disch := first | (simp only [List.length_append, List.length_cons, List.length_nil]; omega) | (simp; done) | assumption) [AV.cells?, AV.isCell, -evBuild, -evSlice, -evIndex, sg2, cutC, bodyOf, Tryz.f73, E_esc, h0, hL, hidx, tq61_0, tq61_1, tk61, k9, c9, a9, k3, c3, a3, sq9, bq3, hI, hx', hsl, hbd, hP, hf2, hw1, hps8, hps10]
    · have hx' : ix < 0 := by omega
      rw [decide_eq_false hx, if_neg (by simp), ans_err]
      generalize LSt S0 s p out = L at *
      generalize ErrSt S0 s p out 16 = LE at *
      generalize errV S0 = eV at *
      simp (disch := first | (simp only [List.length_append, List.length_cons, List.length_nil]; omega) | (simp; done) | assumption) [AV.cells?, AV.isCell, -evBuild, -evSlice, -evIndex, sg2, cutC, bodyOf, Tryz.f73, E_esc, h0, hL, hidx, tq61_0, tq61_1, tk61, k9, c9, a9, k3, c3, a3, sq9, bq3, hI, hx', hE, hf1, hps8]
  · have hR : signedR s p = .word ⟨4, q, 0, p⟩ (p + 2) := by unfold signedR; rw [hq]
    have hf2 := fin_putv S0 s p (p + 2) out ⟨4, q, 0, p⟩ .nilif rfl
    simp only at hf2 h2
    rw [hR, ans_word]
    generalize LSt S0 s (p + 2) _ = L2 at *
    generalize LSt S0 s p out = L at *
    simp (disch := first | (simp only [List.length_append, List.length_cons, List.length_nil]; omega) | (simp; done) | assumption) [AV.cells?, AV.isCell, Tryz.f73, h2, hf2]
end Go.Proofs.YtemggoaefohliaaGreatDoor.LX
/- The lexer: a step; all words, evaluated. No condition. -/
namespace Go.Proofs.YtemggoaefohliaaGreatDoor.LX
set_option linter.unusedVariables false
set_option linter.unusedSimpArgs false
open Go AE EX PT NF
set_option maxRecDepth 100000

def spaces : List UInt8 := [32, 9, 10, 13]
/-- a step: nothing but a blank, or a word, or an error -/
def nextR (s : List UInt8) (p : Nat) (c : UInt8) : Option LR :=
  if spaces.contains c then none
  else some (if headB c.toNat then namedR s p else if digB c.toNat then numberedR s p else if (c.toNat : Int) == 34 then quotedR s p else signedR s p)

theorem ans_fin (S0 : St) (s : List UInt8) (p : Nat) (out : List Tk) (r : LR) : ∃ v L2, ans S0 s p out r = some (.ret v, L2) ∧ finish (LSt S0 s p out) v L2 = some (v, L2) := by
  cases r with
  | err c => exact ⟨_, _, rfl, fin_err S0 s p out c⟩
  | word t to => exact ⟨_, _, rfl, fin_putv S0 s p to out t .nilif rfl⟩
theorem fin_skip (S0 : St) (s : List UInt8) (p q : Nat) (out : List Tk) : finish (LSt S0 s p out) .nilif (LSt S0 s q out) = some (.nilif, LSt S0 s q out) :=
  finish_same rfl rfl rfl (by simp [LSt, HS_len]) rfl

set_option maxHeartbeats 2000000 in
theorem ev_next (n : Nat) (S0 : St) (s : List UInt8) (p : Nat) (out : List Tk) (c : UInt8) (hc : s[p]? = some c) (hs : s.length ≤ 1048576) (hn : s.length + 40 < n) (hl : out.length ≤ 1048576) :
    ev Tryz.prog E (n + 5) 45 [.ptr S0.H.length 0] (LSt S0 s p out) = (match nextR s p c with | none => some (.ret .nilif, LSt S0 s (p + 1) out) | some r => ans S0 s p out r) := by
  have hp : p < s.length := (List.getElem?_eq_some_iff.1 hc).1
  have hL := LSt_get S0 s p out
  have hidx : evIndex Tryz.prog 9 (.str s) (.int .i64 (p : Int)) = some (.int .u8 (c.toNat : Int)) := by simp [evIndex, sq9, hc]
  have hps1 : E.ps 45 1 = [(3, 7)] := rfl
  have hI : ev Tryz.prog E (n + 4) 67 [.str [32, 9, 10, 13], .int .u8 (c.toNat : Int)] (LSt S0 s p out) = some (.ret (.int .i64 (Lib.indexByte spaces c)), LSt S0 s p out) := by
    have := ev_indexByte (n + 3) spaces (c.toNat : Int) (LSt S0 s p out)
    have e : (c.toNat : Int).toNat.toUInt8 = c := by simp
    rw [e] at this
    exact this
  have hw1 : IntKind.i64.wrap ((p : Int) + 1) = ((p + 1 : Nat) : Int) := by rw [wrap64 _ (by omega)]; omega
  have hLe := ev_letter (n + 3) c (LSt S0 s p out)
  have hDi := ev_digit (n + 3) (c.toNat : Int) (LSt S0 s p out)
  unfold nextR
  rw [contains_index]
  generalize Lib.indexByte spaces c = ix at *
  rw [show n + 5 = (n + 4) + 1 from rfl, ev_enter (n := n + 4) (show E.ok 45 = true from rfl) Tryz.func45 (fn := Tryz.f45) rfl (Nat.le_of_ble_eq_true rfl) (by decide +kernel)]
  by_cases hx : 0 ≤ ix
  · rw [decide_eq_true hx, if_pos rfl]
    have hset : (LSt S0 s p out).H.set S0.H.length ⟨84, [.str s, .int .i64 ((p + 1 : Nat) : Int), lv S0 out]⟩ = (LSt S0 s (p + 1) out).H := HS_set _ _ _
    have hT : (LSt S0 s p out).T = (LSt S0 s (p + 1) out).T := rfl
    have hf := fin_skip S0 s p (p + 1) out
    have heta : (⟨(LSt S0 s (p + 1) out).H, (LSt S0 s (p + 1) out).T⟩ : St) = LSt S0 s (p + 1) out := rfl
    generalize hL2 : LSt S0 s (p + 1) out = L2 at *
    generalize LSt S0 s p out = L at *
    generalize p + 1 = P1 at *
    have hcl : (lv S0 out).cells? = some [lv S0 out] := by unfold lv; split <;> rfl
    generalize lv S0 out = vv at *
    simp (disch := first | (simp only [List.length_append, List.length_cons, List.length_nil]; omega) | (simp; done) | assumption) [AV.cells?, AV.isCell, -evIndex, AV.sealed, AV.sealedL, wrc, Tryz.f45, E_esc, hL, hidx, tq61_0, tq61_1, tk61, k9, c9, a9, k3, c3, a3, i3, sq9, bq3, hI, hx, hw1, hps1, hset, hT, heta, hf]
  · rw [decide_eq_false hx, if_neg (by simp)]
    cases h1 : headB (c.toNat : Int)
    · rw [h1] at hLe
      rw [if_neg (by simp)]
      cases h2 : digB (c.toNat : Int)
      · rw [h2] at hDi
        rw [if_neg (by simp)]
        cases h3 : ((c.toNat : Int) == 34)
        · rw [if_neg (by simp)]
          have hS := ev_signed (n + 1) (by omega) S0 s p out hs hp hl
          obtain ⟨v, L2, e1, e2⟩ := ans_fin S0 s p out (signedR s p)
          simp only [e1] at hS ⊢
          generalize LSt S0 s p out = L at *
          simp (disch := first | (simp only [List.length_append, List.length_cons, List.length_nil]; omega) | (simp; done) | assumption) [AV.cells?, AV.isCell, -evIndex, Tryz.f45, E_esc, hL, hidx, tq61_0, tq61_1, tk61, k9, c9, a9, k3, c3, a3, sq9, bq3, bq5, hI, hx, hps1, hLe, hDi, h3, hS, e2]
        · rw [if_pos rfl]
          have hS := ev_quoted (n + 1) S0 s p out hs hp hl
          obtain ⟨v, L2, e1, e2⟩ := ans_fin S0 s p out (quotedR s p)
          simp only [e1] at hS ⊢
          generalize LSt S0 s p out = L at *
          simp (disch := first | (simp only [List.length_append, List.length_cons, List.length_nil]; omega) | (simp; done) | assumption) [AV.cells?, AV.isCell, -evIndex, Tryz.f45, E_esc, hL, hidx, tq61_0, tq61_1, tk61, k9, c9, a9, k3, c3, a3, sq9, bq3, bq5, hI, hx, hps1, hLe, hDi, h3, hS, e2]
      · rw [h2] at hDi
        rw [if_pos rfl]
        have hS := ev_numbered n S0 s p out hs (by omega) (by omega) hl
        obtain ⟨v, L2, e1, e2⟩ := ans_fin S0 s p out (numberedR s p)
        simp only [e1] at hS ⊢
        generalize LSt S0 s p out = L at *
        simp (disch := first | (simp only [List.length_append, List.length_cons, List.length_nil]; omega) | (simp; done) | assumption) [AV.cells?, AV.isCell, -evIndex, Tryz.f45, E_esc, hL, hidx, tq61_0, tq61_1, tk61, k9, c9, a9, k3, c3, a3, sq9, bq3, bq5, hI, hx, hps1, hLe, hDi, hS, e2]
    · rw [h1] at hLe
      rw [if_pos rfl]
      have hS := ev_named (n + 1) S0 s p out hs (by omega) (by omega) hl
      obtain ⟨v, L2, e1, e2⟩ := ans_fin S0 s p out (namedR s p)
      simp only [e1] at hS ⊢
      generalize LSt S0 s p out = L at *
      simp (disch := first | (simp only [List.length_append, List.length_cons, List.length_nil]; omega) | (simp; done) | assumption) [AV.cells?, AV.isCell, -evIndex, Tryz.f45, E_esc, hL, hidx, tq61_0, tq61_1, tk61, k9, c9, a9, k3, c3, a3, sq9, bq3, bq5, hI, hx, hps1, hLe, hS, e2]
end Go.Proofs.YtemggoaefohliaaGreatDoor.LX
/- The lexer: all words, evaluated. No condition. -/
namespace Go.Proofs.YtemggoaefohliaaGreatDoor.LX
set_option linter.unusedVariables false
set_option linter.unusedSimpArgs false
open Go AE EX PT NF
set_option maxRecDepth 100000

theorem far_gt {s : List UInt8} {p : Nat} {c : UInt8} (hc : s[p]? = some c) (ht : tl c = true) : p < far s p := by
  unfold far
  have hp := (List.getElem?_eq_some_iff.1 hc).1
  have : s.drop p = c :: s.drop (p + 1) := by
    rw [List.drop_eq_getElem_cons hp]
    simp [(List.getElem?_eq_some_iff.1 hc).2]
  rw [this]
  simp [List.takeWhile, ht]
theorem sgL_len : ∀ q ∈ sgL, q.length = 2 := by simp [sgL]
theorem next_far {s : List UInt8} {p : Nat} {c : UInt8} {t : Tk} {to : Nat} (hc : s[p]? = some c) (h : nextR s p c = some (.word t to)) : p < to ∧ to ≤ s.length ∧ t.p = p := by
  have hp := (List.getElem?_eq_some_iff.1 hc).1
  unfold nextR at h
  split at h
  · cases h
  · rename_i hsp
    simp only [Option.some.injEq] at h
    split at h
    · rename_i hh
      unfold namedR at h
      split at h
      · cases h
      · cases h
        exact ⟨far_gt hc (by simp [tl, tailB, hh]), far_le (by omega), rfl⟩
    · split at h
      · rename_i hh
        unfold numberedR at h
        split at h
        · cases h
          exact ⟨far_gt hc (by simp only [digB] at hh; simp [tl, tailB, hh]), far_le (by omega), rfl⟩
        · cases h
      · split at h
        · unfold quotedR at h
          split at h
          · cases h
          · rename_i h34
            split at h
            · cases h
            · split at h
              · cases h
                obtain ⟨k, hk⟩ : ∃ k : Nat, Lib.indexByte (s.drop (p + 1)) 34 = (k : Int) := ⟨(Lib.indexByte (s.drop (p + 1)) 34).toNat, by omega⟩
                have hkl := indexByte_lt _ _ _ hk
                simp only [List.length_drop] at hkl
                rw [hk]
                simp only [Int.toNat_natCast]
                refine ⟨by omega, by omega, trivial⟩
              · cases h
        · unfold signedR at h
          split at h
          · rename_i q hq
            cases h
            have hm := List.mem_of_find?_eq_some hq
            have hpre := List.find?_some hq
            have h2 := sgL_len q hm
            simp only [pre, Bool.and_eq_true, decide_eq_true_eq, List.length_drop] at hpre
            exact ⟨by omega, by omega, rfl⟩
          · split at h
            · split at h
              · cases h
                exact ⟨by omega, by omega, rfl⟩
              · cases h
            · cases h

/-- all words from here on, by fuel; or an error's code and place -/
def lexF (s : List UInt8) : Nat → Nat → List Tk → Except (Int × Nat) (List Tk)
  | 0, p, out => .ok out
  | f + 1, p, out => match s[p]? with
    | none => .ok (out ++ [⟨5, [], 0, p⟩])
    | some c => match nextR s p c with
      | none => lexF s f (p + 1) out
      | some (.err e) => .error (e, p)
      | some (.word t to) => lexF s f to (out ++ [t])
def lexAll (s : List UInt8) : Except (Int × Nat) (List Tk) := if 4096 < s.length then .error (5, 0) else lexF s (s.length + 1) 0 []

noncomputable def alLoop : Code := cutC (bodyOf Tryz.f20) [1, 1, 1, 0, 0, 0]
noncomputable def al0 : Code := cutC (bodyOf Tryz.f20) [0]
noncomputable def al1 : Code := cutC (bodyOf Tryz.f20) [1, 0]
noncomputable def al2 : Code := cutC (bodyOf Tryz.f20) [1, 1, 0]
noncomputable def al3 : Code := cutC (bodyOf Tryz.f20) [1, 1, 1, 1]
theorem f14b : Tryz.f20.body = some (.seq al0 (.seq al1 (.seq al2 (.seq (.block 0 (.loop alLoop)) al3)))) := rfl
theorem esc14 (d : Nat) : E.esc 20 d = (d == 12) := by simp [E]

def ALI (S0 : St) (s : List UInt8) (R : Except (Int × Nat) (List Tk)) (m : Nat) (fs : FS) : Prop :=
  ∃ p out f, p + m = s.length ∧ out.length ≤ p ∧ m < f ∧ fs.t 0 = .str s ∧ fs.t 4 = .ptr S0.H.length 0 ∧ fs.S = LSt S0 s p out ∧ lexF s f p out = R
def ALQ (S0 : St) (s : List UInt8) (R : Except (Int × Nat) (List Tk)) (r : Out × FS) : Prop :=
  (r.1 = .exit 0 ∧ ∃ p out, out.length ≤ p ∧ p ≤ s.length ∧ r.2.t 4 = .ptr S0.H.length 0 ∧ r.2.S = LSt S0 s p out ∧ R = .ok (out ++ [⟨5, [], 0, p⟩])) ∨
  (r.1 = .ret ∧ ∃ p out c, r.2.t 2 = .slice [] .clip ∧ r.2.t 3 = errV S0 ∧ r.2.S = ErrSt S0 s p out c ∧ R = .error (c, p))

set_option maxHeartbeats 2000000 in
theorem al_round (n : Nat) (S0 : St) (s : List UInt8) (R : Except (Int × Nat) (List Tk)) (hs : s.length ≤ 1048576) (hn : s.length + 40 < n) (m : Nat) (fs : FS) (h : ALI S0 s R m fs) :
    ∃ o fs', evCode ⟨Tryz.prog, E.esc 20, n + 5⟩ (ev Tryz.prog E (n + 5)) (E.ps 20) (n + 5) alLoop fs = some (o, fs') ∧ ((o = .norm ∧ ∃ m', m' < m ∧ ALI S0 s R m' fs') ∨ (o ≠ .norm ∧ ALQ S0 s R (o, fs'))) := by
  obtain ⟨t, b, c, S⟩ := fs
  obtain ⟨p, out, f, hpm, hol, hmf, h0, h4, hS, hR⟩ := h
  simp only at h0 h4 hS
  subst hS
  obtain ⟨f, rfl⟩ : ∃ g, f = g + 1 := ⟨f - 1, by omega⟩
  have hL := LSt_get S0 s p out
  cases hc : s[p]? with
  | none =>
    have hge : s.length ≤ p := by simpa using hc
    have hlt : ¬ p < s.length := by omega
    have hltz : ¬ (p : Int) < s.length := by omega
    have hR' : R = .ok (out ++ [⟨5, [], 0, p⟩]) := by rw [← hR, lexF, hc]
    refine ⟨.exit 0, _, by
      simp (disch := first | (simp only [List.length_append, List.length_cons, List.length_nil]; omega) | (simp; done) | assumption) [AV.cells?, AV.isCell, alLoop, cutC, bodyOf, Tryz.f20, esc14, h0, h4, hL, tq61_1, tk61, k3, c3, a3, k9, sq9, bq3, hlt, hltz]
      rfl, .inr ⟨by simp, .inl ⟨rfl, p, out, hol, by omega, by simp [upd, putA, h4], rfl, hR'⟩⟩⟩
  | some c0 =>
    have hlt : p < s.length := (List.getElem?_eq_some_iff.1 hc).1
    have hltz : (p : Int) < s.length := by omega
    have hN := ev_next n S0 s p out c0 hc hs hn (by omega)
    rw [lexF, hc] at hR
    simp only at hR
    cases hx : nextR s p c0 with
    | none =>
      rw [hx] at hR hN
      simp only at hR hN
      refine ⟨.norm, ?_⟩
      have hS2 : (LSt S0 s (p + 1) out) = LSt S0 s (p + 1) out := rfl
      generalize hL2 : LSt S0 s (p + 1) out = L2 at hN
      generalize hL1 : LSt S0 s p out = L1 at *
      refine ⟨_, by
        simp (disch := first | (simp only [List.length_append, List.length_cons, List.length_nil]; omega) | (simp; done) | assumption) [AV.cells?, AV.isCell, alLoop, cutC, bodyOf, Tryz.f20, esc14, h0, h4, hL, tq61_1, tk61, k3, c3, a3, k9, sq9, bq3, tf27, hlt, hltz, hN]
        rfl, .inl ⟨rfl, m - 1, by omega, p + 1, out, f, by omega, by omega, by omega, by simp [upd, putA, h0], by simp [upd, putA, h4], hL2.symm, hR⟩⟩
    | some r =>
      rw [hx] at hR hN
      cases r with
      | err e =>
        simp only [ans_err] at hR hN
        refine ⟨.ret, ?_⟩
        generalize hL2 : ErrSt S0 s p out e = L2 at hN
        generalize hL1 : LSt S0 s p out = L1 at *
        obtain ⟨ea, eb, hev⟩ : ∃ ea eb, errV S0 = .iface ea (.ptr eb 0) := ⟨_, _, rfl⟩
        rw [hev] at hN
        refine ⟨_, by
          simp (disch := first | (simp only [List.length_append, List.length_cons, List.length_nil]; omega) | (simp; done) | assumption) [AV.cells?, AV.isCell, alLoop, cutC, bodyOf, Tryz.f20, esc14, h0, h4, hL, tq61_1, tk61, k3, c3, a3, k9, sq9, bq3, tf27, hlt, hltz, hN]
          rfl, .inr ⟨by simp, .inr ⟨rfl, p, out, e, by simp [upd, putA, rho, ofC, ofC0], by simp [upd, putA, rho, hev], hL2.symm, hR.symm⟩⟩⟩
      | word w to =>
        simp only [ans_word] at hR hN
        obtain ⟨g1, g2, g3⟩ := next_far hc hx
        refine ⟨.norm, ?_⟩
        generalize hL2 : LSt S0 s to (out ++ [w]) = L2 at hN
        generalize hL1 : LSt S0 s p out = L1 at *
        refine ⟨_, by
          simp (disch := first | (simp only [List.length_append, List.length_cons, List.length_nil]; omega) | (simp; done) | assumption) [AV.cells?, AV.isCell, alLoop, cutC, bodyOf, Tryz.f20, esc14, h0, h4, hL, tq61_1, tk61, k3, c3, a3, k9, sq9, bq3, tf27, hlt, hltz, hN]
          rfl, .inl ⟨rfl, s.length - to, by omega, to, out ++ [w], f, by omega, by simp; omega, by omega, by simp [upd, putA, h0], by simp [upd, putA, h4], hL2.symm, hR⟩⟩

theorem strip_tkL (t0 : Nat) : ∀ l : List Tk, AV.stripL t0 (tkL l) = tkL l
  | [] => rfl
  | t :: l => by
    have := strip_tkL t0 l
    simp only [tkL] at this
    simp [tkL, AV.stripL, Tk.emb, Tk.cells, AV.strip, this]
theorem low_tkL (h0 t0 : Nat) : ∀ l : List Tk, AV.lowL h0 t0 (tkL l) = true
  | [] => rfl
  | t :: l => by
    have := low_tkL h0 t0 l
    simp only [tkL] at this
    simp [tkL, AV.lowL, Tk.emb, Tk.cells, AV.low, this]
theorem sealed_tkL : ∀ l : List Tk, AV.sealedL (tkL l) = true
  | [] => rfl
  | t :: l => by
    have := sealed_tkL l
    simp only [tkL] at this
    simp [tkL, AV.sealedL, Tk.emb, Tk.cells, AV.sealed, this]
theorem fin_all (S0 : St) (s : List UInt8) (p : Nat) (out : List Tk) (t : Tk) : finish S0 (.tup [lv S0 (out ++ [t]), .nilif]) (LSt S0 s p (out ++ [t])) = some (.tup [.slice (tkL (out ++ [t])) .non, .nilif], S0) := by
  have hne : out ++ [t] ≠ [] := by simp
  unfold finish
  simp [lv, hne, AV.sealed, AV.sealedL, AV.strip, AV.stripL, AV.low, AV.lowL, sealed_tkL, strip_tkL, low_tkL, LSt, HS, boxEqL_refl]
theorem fin_hi {S S' : St} {id : Nat} (h : S.H.length ≤ id) (w : AV) (h1 : w.sealed = true) : finish S (.tup [w, .iface 78 (.ptr id 0)]) S' = some (.tup [w, .iface 78 (.ptr id 0)], S') := by
  unfold finish
  have : ¬ id < S.H.length := by omega
  simp [AV.sealed, AV.sealedL, AV.strip, AV.stripL, AV.low, AV.lowL, this, h1]

set_option maxHeartbeats 2000000 in
theorem ev_All (n : Nat) (S0 : St) (s : List UInt8) (hs : s.length ≤ 1100000) (hn : s.length + 40 < n) :
    (∀ l, lexAll s = .ok l → ev Tryz.prog E (n + 6) 20 [.str s] S0 = some (.ret (.tup [.slice (tkL l) .non, .nilif]), S0)) ∧
    (∀ c p, lexAll s = .error (c, p) → ∃ id S', S0.H.length ≤ id ∧ ev Tryz.prog E (n + 6) 20 [.str s] S0 = some (.ret (.tup [.slice [] .clip, .iface 78 (.ptr id 0)]), S') ∧ S'.H[id]? = some ⟨81, [.int .i64 c, .int .i64 (p : Int), .nilif]⟩ ∧ Grows S0 S') := by
  by_cases hlong : 4096 < s.length
  · have hlz : (4096 : Int) < s.length := by omega
    refine ⟨fun l h => by simp [lexAll, hlong] at h, fun c p h => ?_⟩
    simp [lexAll, hlong] at h
    obtain ⟨rfl, rfl⟩ := h
    have hE : ev Tryz.prog E (n + 5) 22 [.int .i64 5, .int .i64 0] S0 = _ := ev_New (n + 4) 5 0 S0
    have hid : S0.H.length ≤ S0.H.length := Nat.le_refl _
    have hg : (S0.H ++ [⟨81, [.int .i64 5, .int .i64 ((0 : Nat) : Int), .nilif]⟩])[S0.H.length]? = some (⟨81, [.int .i64 5, .int .i64 ((0 : Nat) : Int), .nilif]⟩ : HBox) := by simp
    refine ⟨S0.H.length, ⟨S0.H ++ [⟨81, [.int .i64 5, .int .i64 ((0 : Nat) : Int), .nilif]⟩], S0.T⟩, hid, ?_, hg, ⟨by simp, by simp⟩⟩
    have hf := fin_hi (S := S0) (S' := ⟨S0.H ++ [⟨81, [.int .i64 5, .int .i64 ((0 : Nat) : Int), .nilif]⟩], S0.T⟩) hid (.slice [] .clip) rfl
    simp only [Int.ofNat_zero, Int.natCast_zero] at hf hE ⊢
    generalize (⟨S0.H ++ [⟨81, [.int .i64 5, .int .i64 0, .nilif]⟩], S0.T⟩ : St) = L2 at *
    rw [show n + 6 = (n + 5) + 1 from rfl, ev_enter (n := n + 5) (show E.ok 20 = true from rfl) Tryz.func20 (fn := Tryz.f20) rfl (Nat.le_of_ble_eq_true rfl) (by decide +kernel)]
    simp (disch := first | (simp only [List.length_append, List.length_cons, List.length_nil]; omega) | (simp; done) | assumption) [AV.cells?, AV.isCell, Tryz.f20, esc14, k9, sq9, bq3, hlong, hlz, hE, hf, ofC]
  · have hlz : ¬ (4096 : Int) < s.length := by omega
    have hs : s.length ≤ 1048576 := by omega
    have hR : lexAll s = lexF s (s.length + 1) 0 [] := if_neg hlong
    rw [hR]
    generalize hRR : lexF s (s.length + 1) 0 [] = R
    have hL0 : (⟨S0.H ++ [⟨84, [.str s, .int .i64 0, .slice [] .clip]⟩], S0.T⟩ : St) = LSt S0 s 0 [] := by simp [LSt, HS, lv, lT, tkL]
    have hbd : evBuild Tryz.prog 84 [(0, .str s)] = some (.agg [.str s, .int .i64 0, .slice [] .clip]) := by simp [evBuild, tp61, tz61, fillA, tl61_0, AV.cells?, wrc]
    obtain ⟨fs1, e1, p1⟩ : ∃ fs', evCode ⟨Tryz.prog, E.esc 20, n + 5⟩ (ev Tryz.prog E (n + 5)) (E.ps 20) (n + 5) (.seq al0 (.seq al1 al2)) ⟨argsA [.str s], fun _ => (0, []), 0, S0⟩ = some (.norm, fs') ∧ ALI S0 s R s.length fs' := by
      refine ⟨_, by
        simp (disch := first | (simp only [List.length_append, List.length_cons, List.length_nil]; omega) | (simp; done) | assumption) [AV.cells?, AV.isCell, -evBuild, al0, al1, al2, cutC, bodyOf, Tryz.f20, esc14, k9, sq9, bq3, hlong, hlz, hbd, tn55, tc61, tk61, ta61, AV.sealed, AV.sealedL]
        rfl, 0, [], s.length + 1, by omega, by simp, by omega, by simp [upd, putA, argsA], by simp [upd, putA], hL0, hRR⟩
    obtain ⟨⟨o, fs2⟩, r1, r2⟩ := iter_meas (fun m' fs h => al_round n S0 s R hs hn m' fs h) s.length (n + 5) fs1 (by omega) p1
    have main : ∀ res, (match o with | .ret => fromBody Tryz.prog ⟨Tryz.prog, E.esc 20, n + 5⟩ S0 Tryz.f20.results.toList (some (.ret, fs2)) | _ => fromBody Tryz.prog ⟨Tryz.prog, E.esc 20, n + 5⟩ S0 Tryz.f20.results.toList (evCode ⟨Tryz.prog, E.esc 20, n + 5⟩ (ev Tryz.prog E (n + 5)) (E.ps 20) (n + 5) al3 fs2)) = res → (o = .ret ∨ o = .exit 0) → ev Tryz.prog E (n + 6) 20 [.str s] S0 = res := by
      intro res h ho
      rw [show n + 6 = (n + 5) + 1 from rfl, ev_enter (n := n + 5) (show E.ok 20 = true from rfl) Tryz.func20 f14b (Nat.le_of_ble_eq_true rfl) (by decide +kernel)]
      rw [evCode_assoc] at e1
      rw [evCode_assoc, evCode_assoc, evCode_seq, e1, seqK_norm, evCode_seq, evCode_block, evCode_loop, r1]
      rcases ho with rfl | rfl
      · rw [← h]; rfl
      · rw [blockK_exit, if_pos rfl, seqK_norm, ← h]
    obtain ⟨t, b, c, S⟩ := fs2
    rcases r2 with ⟨q1, p, out, q2, q3, q4, q5, q6⟩ | ⟨q1, p, out, c', q2, q3, q4, q5⟩
    · simp only at q1 q4 q5
      subst q1 q5 q6
      refine ⟨fun l hl => ?_, fun c p h => by cases h⟩
      cases hl
      refine main _ ?_ (.inr rfl)
      simp only
      clear main r1 e1 p1
      have hL := LSt_get S0 s p out
      have hP := ev_put (n + 4) S0 s p out ⟨5, [], 0, 0⟩ p (by omega)
      have hf := fin_all S0 s p out ⟨5, [], 0, p⟩
      have hL' := LSt_get S0 s p (out ++ [⟨5, [], 0, p⟩])
      have hbT : evBuild Tryz.prog 55 [(0, .int .i64 5)] = some (Tk.emb ⟨5, [], 0, 0⟩) := by
        have : Tk.emb ⟨5, [], 0, 0⟩ = .agg [.int .i64 5, .str [], .int .i64 0, .int .i64 0] := rfl
        rw [this]
        simp [evBuild, tp46, tz46, fillA, tl46_0, AV.cells?, wrc]
      have hcl : ∀ o, (lv S0 o).cells? = some [lv S0 o] := fun o => by unfold lv; split <;> rfl
      have hcl' : ∀ o, (lv S0 o).isCell = true := fun o => by unfold lv; split <;> rfl
      simp only at hP
      generalize LSt S0 s p (out ++ [⟨5, [], 0, p⟩]) = L2 at *
      generalize LSt S0 s p out = L1 at *
      have hcl1 := hcl (out ++ [⟨5, [], 0, p⟩])
      have hcl2 := hcl' (out ++ [⟨5, [], 0, p⟩])
      generalize lv S0 (out ++ [⟨5, [], 0, p⟩]) = l2 at *
      generalize tkL (out ++ [⟨5, [], 0, p⟩]) = tl2 at *
      generalize Tk.emb ⟨5, [], 0, 0⟩ = te at *
      simp (disch := first | (simp only [List.length_append, List.length_cons, List.length_nil]; omega) | (simp; done) | assumption) [AV.cells?, AV.isCell, -evBuild, al3, cutC, bodyOf, Tryz.f20, esc14, q4, hL, hL', tq61_1, tq61_2, tk61, k3, c3, a3, tk39, tc39, ta39, hbT, hP, hf, hcl1, hcl2]
    · simp only at q1 q2 q3 q4
      subst q1 q4 q5
      refine ⟨fun l hl => (by cases hl), fun c p h => ?_⟩
      cases h
      have hid : S0.H.length ≤ S0.H.length + 1 := by omega
      refine ⟨S0.H.length + 1, ErrSt S0 s p out c', hid, ?_, by simp [ErrSt, HS], ⟨by simp [ErrSt, HS], by simp [ErrSt]⟩⟩
      refine main _ ?_ (.inl rfl)
      simp only
      clear main r1 e1 p1
      have hf := fin_hi (S := S0) (S' := ErrSt S0 s p out c') hid (.slice [] .clip) rfl
      simp only [errV] at q3
      generalize ErrSt S0 s p out c' = L2 at *
      simp (disch := first | (simp only [List.length_append, List.length_cons, List.length_nil]; omega) | (simp; done) | assumption) [AV.cells?, AV.isCell, Tryz.f20, q2, q3, hf]
end Go.Proofs.YtemggoaefohliaaGreatDoor.LX
/- The parser: its state; what stands here; is, need, take, fail, evaluated. No condition. -/
namespace Go.Proofs.YtemggoaefohliaaGreatDoor.PS
set_option linter.unusedVariables false
set_option linter.unusedSimpArgs false
open Go AE EX PT NF LX
set_option maxRecDepth 100000

/-- the word that stands here -/
def hereT (l : List Tk) (p : Nat) : Tk :=
  match l[p]? with
  | some t => t
  | none => match l.getLast? with
    | some t => ⟨5, [], 0, t.p⟩
    | none => ⟨5, [], 0, 0⟩
def box (l : List Tk) (p d : Nat) : HBox := ⟨63, [.slice (tkL l) .non, .int .i64 p, .int .i64 d]⟩
/-- the parser's box stands at a -/
def PSt (H0 : List HBox) (T : List Nat) (a : Nat) (l : List Tk) (p d : Nat) : St := ⟨H0.set a (box l p d), T⟩
theorem PSt_get {H0 : List HBox} {a : Nat} (ha : a < H0.length) (T : List Nat) (l : List Tk) (p d : Nat) : (PSt H0 T a l p d).H[a]? = some ⟨63, [.slice (tkL l) .non, .int .i64 p, .int .i64 d]⟩ := by
  simp [PSt, ha, box]
theorem PSt_set {H0 : List HBox} {a : Nat} (T : List Nat) (l : List Tk) (p d q e : Nat) : (⟨(PSt H0 T a l p d).H.set a ⟨63, [.slice (tkL l) .non, .int .i64 q, .int .i64 e]⟩, (PSt H0 T a l p d).T⟩ : St) = PSt H0 T a l q e := by
  simp [PSt, box]
theorem PSt_fin {H0 : List HBox} {a : Nat} (T : List Nat) (l : List Tk) (p d q e : Nat) {v : AV} (h1 : v.sealed = true) (h2 : v.strip T.length = v) (h3 : v.low H0.length T.length = true) : finish (PSt H0 T a l p d) v (PSt H0 T a l q e) = some (v, PSt H0 T a l q e) :=
  finish_same h1 (by simpa [PSt] using h2) (by simpa [PSt] using h3) (by simp [PSt]) rfl

theorem sl_get (l : List Tk) (p : Nat) : (tkL l)[p]? = (l[p]?).map Tk.emb := by simp [tkL]
theorem tkcells (t : Tk) : t.emb.cells? = some t.cells := by simp [Tk.emb, Tk.cells, AV.cells?, AV.isCell]
theorem ia (l : List Tk) (k : Tok) (i : Nat) (t : Tk) (h : l[i]? = some t) : evIndexAddr Tryz.prog 36 (.slice (tkL l) k) (.int .i64 (i : Int)) = some (.ref t.cells) := by
  have hc := tkcells t
  have hi : (Tryz.prog.info? 55).isSome = true := ti46
  simp [evIndexAddr, ts39, nth, sl_get, h, hc, tc46, tk_len]
  exact Option.isSome_iff_ne_none.1 hi

theorem fin_tk (t : Tk) (S : St) : finish S t.emb S = some (t.emb, S) := finish_same rfl rfl rfl rfl rfl
theorem ev_here (n : Nat) (a : Nat) (S : St) (l : List Tk) (p d : Nat) (hS : S.H[a]? = some ⟨63, [.slice (tkL l) .non, .int .i64 p, .int .i64 d]⟩) (hl : l.length ≤ 2000000) :
    ev Tryz.prog E (n + 1) 85 [.ptr a 0] S = some (.ret (hereT l p).emb, S) := by
  have hlen := tkL_length l
  have hp1 : E.ps 85 1 = [(3, 7)] := rfl
  have hp2 : E.ps 85 2 = [(3, 7)] := rfl
  have hp4 : E.ps 85 4 = [(3, 7)] := rfl
  by_cases hp : p < l.length
  · have hpz : (p : Int) < l.length := by omega
    have hx : l[p]? = some l[p] := List.getElem?_eq_getElem hp
    have hia := ia l .non p _ hx
    have hh : hereT l p = l[p] := by simp [hereT, hx]
    rw [hh]
    have hf := fin_tk l[p] S
    generalize l[p] = t at *
    obtain ⟨k, ts, tn, tp⟩ := t
    simp only [Tk.emb, Tk.cells] at hf hia ⊢
    generalize hes : tkL l = es at *
    rw [ev_enter (n := n) (show E.ok 85 = true from rfl) Tryz.func85 (fn := Tryz.f85) rfl (Nat.le_of_ble_eq_true rfl) (by decide +kernel)]
    simp (disch := first | (simp only [List.length_append, List.length_cons, List.length_nil]; omega) | (simp; done) | assumption) [AV.cells?, AV.isCell, -evIndexAddr, Tryz.f85, E_esc, hS, hlen, tq66_0, tq66_1, tk66, k3, c3, a3, tk39, tc39, ta39, ts39, bq3, hp, hpz, hia, tc46, ta46, tk46, ti46, tz46, hp1, hp2, hf]
  · have hpz : ¬ (p : Int) < l.length := by omega
    have hn : l[p]? = none := List.getElem?_eq_none (by omega)
    cases hl0 : l.getLast? with
    | none =>
      have h0 : l = [] := by simpa using hl0
      subst h0
      have hh : hereT [] p = ⟨5, [], 0, 0⟩ := rfl
      rw [hh]
      have hf := fin_tk ⟨5, [], 0, 0⟩ S
      simp only [Tk.emb, Tk.cells] at hf ⊢
      simp only [tkL, List.map_nil] at hS
      rw [ev_enter (n := n) (show E.ok 85 = true from rfl) Tryz.func85 (fn := Tryz.f85) rfl (Nat.le_of_ble_eq_true rfl) (by decide +kernel)]
      have hbd : evBuild Tryz.prog 55 [(0, .int .i64 5)] = some (.agg [.int .i64 5, .str [], .int .i64 0, .int .i64 0]) := by
        simp [evBuild, tp46, tz46, fillA, tl46_0, AV.cells?, wrc]
      have hnp : ¬ (p : Int) < 0 := by omega
      simp (disch := first | (simp only [List.length_append, List.length_cons, List.length_nil]; omega) | (simp; done) | assumption) [AV.cells?, AV.isCell, -evIndexAddr, -evBuild, Tryz.f85, E_esc, hS, tq66_0, tq66_1, tk66, k3, c3, a3, tk39, tc39, ta39, ts39, bq3, hnp, tc46, ta46, tk46, ti46, tz46, hbd, hp1, hf]
    | some t =>
      have hpos : 0 < l.length := by
        cases l with
        | nil => simp at hl0
        | cons => simp
      have hposz : (0 : Int) < l.length := by omega
      have hx : l[l.length - 1]? = some t := by rw [← List.getLast?_eq_getElem?]; exact hl0
      have hia := ia l .non (l.length - 1) t hx
      have hw : IntKind.i64.wrap ((l.length : Int) - 1) = ((l.length - 1 : Nat) : Int) := by rw [wrap64 _ (by omega)]; omega
      have hh : hereT l p = ⟨5, [], 0, t.p⟩ := by simp [hereT, hn, hl0]
      rw [hh]
      have hf := fin_tk ⟨5, [], 0, t.p⟩ S
      obtain ⟨k, ts, tn, tp⟩ := t
      simp only [Tk.emb, Tk.cells] at hf hia ⊢
      have hbd : evBuild Tryz.prog 55 [(0, .int .i64 5), (3, .int .i64 tp)] = some (.agg [.int .i64 5, .str [], .int .i64 0, .int .i64 tp]) := by
        simp [evBuild, tp46, tz46, fillA, tl46_0, tl46_3, AV.cells?, wrc]
      generalize tkL l = es at *
      generalize l.length - 1 = lm at *
      generalize l.length = ll at *
      rw [ev_enter (n := n) (show E.ok 85 = true from rfl) Tryz.func85 (fn := Tryz.f85) rfl (Nat.le_of_ble_eq_true rfl) (by decide +kernel)]
      simp (disch := first | (simp only [List.length_append, List.length_cons, List.length_nil]; omega) | (simp; done) | assumption) [AV.cells?, AV.isCell, -evIndexAddr, -evBuild, Tryz.f85, E_esc, hS, hlen, tq66_0, tq66_1, tk66, k3, c3, a3, tk39, tc39, ta39, ts39, bq3, hp, hpz, hpos, hposz, hw, hia, tq46_3, tc46, ta46, tk46, ti46, tz46, hbd, hp1, hp4, hf]

/-! ### words of the grammar -/
def kindOf (q : List UInt8) : Int := match q with
  | c :: _ => if (97 ≤ c.toNat ∧ c.toNat ≤ 122) then 1 else 4
  | [] => 4
theorem ev_kind (n : Nat) (c : UInt8) (q : List UInt8) (S : St) : ev Tryz.prog E (n + 1) 86 [.str (c :: q)] S = some (.ret (.int .i64 (kindOf (c :: q))), S) := by
  have hidx : evIndex Tryz.prog 9 (.str (c :: q)) (.int .i64 0) = some (.int .u8 (c.toNat : Int)) := by simp [evIndex, sq9]
  have hk : kindOf (c :: q) = if (97 ≤ c.toNat ∧ c.toNat ≤ 122) then 1 else 4 := rfl
  rw [hk]
  generalize c :: q = w at *
  rw [ev_enter (n := n) (show E.ok 86 = true from rfl) Tryz.func86 (fn := Tryz.f86) rfl (Nat.le_of_ble_eq_true rfl) (by decide +kernel)]
  have hb5 : boolQ Tryz.prog 5 = false := by kernel_rfl
  by_cases h1 : 97 ≤ c.toNat
  · have h1z : (97 : Int) ≤ c.toNat := by omega
    by_cases h2 : c.toNat ≤ 122
    · have h2z : (c.toNat : Int) ≤ 122 := by omega
      rw [if_pos ⟨h1, h2⟩]
      simp (disch := first | (simp only [List.length_append, List.length_cons, List.length_nil]; omega) | (simp; done) | assumption) [AV.cells?, AV.isCell, -evIndex, Tryz.f86, E_esc, hidx, hb5, h1z, h2z, h1, h2]
    · have h2z : ¬ (c.toNat : Int) ≤ 122 := by omega
      rw [if_neg (fun h => h2 h.2)]
      simp (disch := first | (simp only [List.length_append, List.length_cons, List.length_nil]; omega) | (simp; done) | assumption) [AV.cells?, AV.isCell, -evIndex, Tryz.f86, E_esc, hidx, hb5, h1z, h2z, h1, h2]
  · have h1z : ¬ (97 : Int) ≤ c.toNat := by omega
    rw [if_neg (fun h => h1 h.1)]
    simp (disch := first | (simp only [List.length_append, List.length_cons, List.length_nil]; omega) | (simp; done) | assumption) [AV.cells?, AV.isCell, -evIndex, Tryz.f86, E_esc, hidx, hb5, h1z, h1]

/-- does this word of the grammar stand here? -/
def isB (h : Nat → Tk) (p : Nat) (q : List UInt8) : Bool := ((h p).k == kindOf q) && ((h p).s == q)

theorem here_lt {l : List Tk} {p : Nat} (h : (hereT l p).k ≠ 5) : p < l.length := by
  by_cases hp : p < l.length
  · exact hp
  · exfalso
    apply h
    have hn : l[p]? = none := List.getElem?_eq_none (by omega)
    simp only [hereT, hn]
    split <;> rfl
theorem kindOf_ne (q : List UInt8) : kindOf q ≠ 5 := by
  unfold kindOf; split
  · split <;> decide
  · decide
theorem is_lt {l : List Tk} {p : Nat} {q : List UInt8} (h : isB (hereT l) p q = true) : p < l.length := by
  simp only [isB, Bool.and_eq_true, beq_iff_eq] at h
  exact here_lt (by rw [h.1]; exact kindOf_ne q)

section
variable {H0 : List HBox} {a : Nat} (ha : a < H0.length) (T : List Nat) (l : List Tk) (hl : l.length ≤ 2000000)
include ha hl
theorem ev_hereP (n p d : Nat) : ev Tryz.prog E (n + 1) 85 [.ptr a 0] (PSt H0 T a l p d) = some (.ret (hereT l p).emb, PSt H0 T a l p d) := ev_here n a _ l p d (PSt_get ha T l p d) hl

theorem ev_is (n p d : Nat) (c : UInt8) (q : List UInt8) : ev Tryz.prog E (n + 2) 52 [.ptr a 0, .str (c :: q)] (PSt H0 T a l p d) = some (.ret (.bool (isB (hereT l) p (c :: q))), PSt H0 T a l (if isB (hereT l) p (c :: q) then p + 1 else p) d) := by
  have hh := ev_hereP ha T l hl n p d
  have hk := ev_kind n c q (PSt H0 T a l p d)
  have hps : E.ps 52 2 = [(1, 3)] := rfl
  have hg := PSt_get ha T l p d
  have hset := PSt_set (H0 := H0) (a := a) T l p d (p + 1) d
  have hf1 := PSt_fin (H0 := H0) (a := a) T l p d p d (v := .bool false) rfl rfl rfl
  have hf2 := PSt_fin (H0 := H0) (a := a) T l p d (p + 1) d (v := .bool true) rfl rfl rfl
  have hw : isB (hereT l) p (c :: q) = true → IntKind.i64.wrap ((p : Int) + 1) = ((p + 1 : Nat) : Int) := fun h => by have := is_lt h; rw [wrap64 _ (by omega)]; omega
  unfold isB at hw ⊢
  generalize hereT l p = t at *
  generalize c :: q = w at *
  generalize kindOf w = kw at *
  obtain ⟨k, ts, tn, tp⟩ := t
  simp only [Tk.emb, Tk.cells] at hh ⊢
  rw [show n + 2 = (n + 1) + 1 from rfl, ev_enter (n := n + 1) (show E.ok 52 = true from rfl) Tryz.func52 (fn := Tryz.f52) rfl (Nat.le_of_ble_eq_true rfl) (by decide +kernel)]
  by_cases h1 : k = kw
  · have h1b : (k == kw) = true := by simp [h1]
    by_cases h2 : ts = w
    · have h2b : (ts == w) = true := by simp [h2]
      simp only [h1b, h2b, Bool.and_self, if_true] at hw ⊢
      have hw := hw trivial
      generalize hL1 : PSt H0 T a l p d = L1 at *
      generalize hL2 : PSt H0 T a l (p + 1) d = L2 at *
      generalize p + 1 = P1 at *
      subst h1 h2
      simp (disch := first | (simp only [List.length_append, List.length_cons, List.length_nil]; omega) | (simp; done) | assumption) [AV.cells?, AV.isCell, Tryz.f52, E_esc, AV.sealed, AV.sealedL, hh, hk, hg, tz46, tq46_0, tq46_1, tc46, ta46, tk46, ti46, tq66_1, tk66, k3, c3, a3, i3, k9, a9, c9, bq3, bq9, hps, hw, hset, hf2]
    · have h2b : (ts == w) = false := by simp [h2]
      simp only [h1b, h2b, Bool.true_and, if_false, Bool.false_eq_true]
      generalize hL1 : PSt H0 T a l p d = L1 at *
      subst h1
      simp (disch := first | (simp only [List.length_append, List.length_cons, List.length_nil]; omega) | (simp; done) | assumption) [AV.cells?, AV.isCell, Tryz.f52, E_esc, hh, hk, hg, tz46, tq46_0, tq46_1, tc46, ta46, tk46, ti46, tq66_1, tk66, k3, c3, a3, i3, k9, a9, c9, bq3, bq9, hps, h2, h2b, hf1]
  · have h1b : (k == kw) = false := by simp [h1]
    simp only [h1b, Bool.false_and, if_false, Bool.false_eq_true]
    generalize hL1 : PSt H0 T a l p d = L1 at *
    simp (disch := first | (simp only [List.length_append, List.length_cons, List.length_nil]; omega) | (simp; done) | assumption) [AV.cells?, AV.isCell, Tryz.f52, E_esc, hh, hk, hg, tz46, tq46_0, tq46_1, tc46, ta46, tk46, ti46, tq66_1, tk66, k3, c3, a3, i3, k9, a9, c9, bq3, bq9, hps, h1, h1b, hf1]
end
end Go.Proofs.YtemggoaefohliaaGreatDoor.PS
/- The parser: fail, need, take; expressions of it, evaluated. No condition. -/
namespace Go.Proofs.YtemggoaefohliaaGreatDoor.PS
set_option linter.unusedVariables false
set_option linter.unusedSimpArgs false
open Go AE EX PT NF LX
set_option maxRecDepth 100000

def bothX (k : Int) (x y : X) : X := .mk k [] 0 0 0 true [x, y]
def oneX (k : Int) (x : X) : X := .mk k [] 0 0 0 true [x]
def leafX (k : Int) (s : List UInt8) (n hi : Int) : X := .mk k s n 0 hi true []

theorem fl0 : placeQ Tryz.prog 25 0 = some (0, 1) := by kernel_rfl
theorem fl1 : placeQ Tryz.prog 25 1 = some (1, 1) := by kernel_rfl
theorem fl2 : placeQ Tryz.prog 25 2 = some (2, 1) := by kernel_rfl
theorem fl5 : placeQ Tryz.prog 25 5 = some (5, 1) := by kernel_rfl
theorem p25 : partsQ Tryz.prog 25 = true := by kernel_rfl
theorem bX5 (k : Int) (es : List X) : evBuild Tryz.prog 25 [(0, .int .i64 k), (5, .slice (embL es) .clip)] = some (X.mk k [] 0 0 0 true es).emb := by
  simp [evBuild, p25, z24, fillA, fl0, fl5, AV.cells?, wrc, X.emb, tokOf]
theorem bX2 (k : Int) (n : Int) : evBuild Tryz.prog 25 [(0, .int .i64 k), (2, .int .i64 n)] = some (leafX k [] n 0).emb := by
  simp [evBuild, p25, z24, fillA, fl0, fl2, AV.cells?, wrc, X.emb, tokOf, leafX, embL]
theorem bX1 (k : Int) (s : List UInt8) : evBuild Tryz.prog 25 [(0, .int .i64 k), (1, .str s)] = some (leafX k s 0 0).emb := by
  simp [evBuild, p25, z24, fillA, fl0, fl1, AV.cells?, wrc, X.emb, tokOf, leafX, embL]
theorem bX0 (k : Int) : evBuild Tryz.prog 25 [(0, .int .i64 k)] = some (leafX k [] 0 0).emb := by
  simp [evBuild, p25, z24, fillA, fl0, AV.cells?, wrc, X.emb, tokOf, leafX, embL]
theorem bXz : evBuild Tryz.prog 25 [] = some (leafX 0 [] 0 0).emb := by
  simp [evBuild, p25, z24, fillA, AV.cells?, wrc, X.emb, tokOf, leafX, embL]
theorem xcells (x : X) : x.emb.cells? = some x.cells := (cells_ok x).1
theorem xlen (x : X) : x.cells.length = 6 := (cells_ok x).2
theorem xtake (x : X) : List.take 6 x.cells = x.cells := by rw [List.take_of_length_le (by rw [xlen]; omega)]
theorem xemb (x : X) : AV.agg x.cells = x.emb := (emb_cells x).symm
theorem xisC (x : X) : x.emb.isCell = false := by cases x; rfl
theorem bS2 (x y : X) : evBuildSlice Tryz.prog 23 2 [(0, x.emb), (1, y.emb)] = some (.slice (embL [x, y]) .clip) := by
  have hx := xcells x
  have hy := xcells y
  have lx := xlen x
  have ly := xlen y
  have ex := xemb x
  have ey := xemb y
  simp [evBuildSlice, sq22, z24, c24, a24, evElems, hx, hy, lx, ly, ex, ey, embL]
theorem bS1 (x : X) : evBuildSlice Tryz.prog 23 1 [(0, x.emb)] = some (.slice (embL [x]) .clip) := by
  have hx := xcells x
  have lx := xlen x
  have ex := xemb x
  simp [evBuildSlice, sq22, z24, c24, a24, evElems, hx, lx, ex, embL]
theorem fin_emb (x : X) (S : St) : finish S x.emb S = some (x.emb, S) := finish_same (sealed_emb x) (strip_emb _ x) (low_emb _ _ x) rfl rfl

theorem ev_truth (n : Nat) (v : Int) (S : St) : ev Tryz.prog E (n + 1) 135 [.int .i64 v] S = some (.ret (leafX 2 [] v 0).emb, S) := by
  have hb := bX2 2 v
  have hf := fin_emb (leafX 2 [] v 0) S
  have hc := xcells (leafX 2 [] v 0)
  have hl := xlen (leafX 2 [] v 0)
  have ht := xtake (leafX 2 [] v 0)
  have he := xemb (leafX 2 [] v 0)
  generalize leafX 2 [] v 0 = x at *
  generalize x.cells = xc at *
  rw [ev_enter (n := n) (show E.ok 135 = true from rfl) Tryz.func135 (fn := Tryz.f135) rfl (Nat.le_of_ble_eq_true rfl) (by decide +kernel)]
  simp (disch := first | (simp only [List.length_append, List.length_cons, List.length_nil]; omega) | (simp; done) | assumption) [AV.cells?, AV.isCell, -AV.cells?, cq_int, cq_str, cq_slice, -evBuild, Tryz.f135, E_esc, hb, hc, hl, ht, he, hf, c24, a24, k24, i24, z24]
theorem ev_both (n : Nat) (k : Int) (x y : X) (S : St) : ev Tryz.prog E (n + 1) 53 [.int .i64 k, x.emb, y.emb] S = some (.ret (bothX k x y).emb, S) := by
  have hb : evBuild Tryz.prog 25 [(0, .int .i64 k), (5, .slice (embL [x, y]) .clip)] = some (bothX k x y).emb := bX5 k [x, y]
  have hbs := bS2 x y
  have hf := fin_emb (bothX k x y) S
  have hcx := xcells x
  have hlx := xlen x
  have htx := xtake x
  have hex := xemb x
  have hcy := xcells y
  have hly := xlen y
  have hty := xtake y
  have hey := xemb y
  have hc := xcells (bothX k x y)
  have hl := xlen (bothX k x y)
  have ht := xtake (bothX k x y)
  have he := xemb (bothX k x y)
  generalize embL [x, y] = es at *
  generalize bothX k x y = z at *
  generalize x.cells = xc at *
  generalize y.cells = yc at *
  generalize z.cells = zc at *
  generalize x.emb = xe at *
  generalize y.emb = ye at *
  generalize z.emb = ze at *
  rw [ev_enter (n := n) (show E.ok 53 = true from rfl) Tryz.func53 (fn := Tryz.f53) rfl (Nat.le_of_ble_eq_true rfl) (by decide +kernel)]
  simp (disch := first | (simp only [List.length_append, List.length_cons, List.length_nil]; omega) | (simp; done) | assumption) [AV.cells?, AV.isCell, -AV.cells?, cq_int, cq_str, cq_slice, -evBuild, -evBuildSlice, Tryz.f53, E_esc, hb, hbs, hc, hl, ht, he, hcx, hlx, htx, hex, hcy, hly, hty, hey, hf, c24, a24, k24, i24, z24]
theorem ev_one1 (n : Nat) (k : Int) (x : X) (S : St) : ev Tryz.prog E (n + 1) 112 [.int .i64 k, x.emb] S = some (.ret (oneX k x).emb, S) := by
  have hb : evBuild Tryz.prog 25 [(0, .int .i64 k), (5, .slice (embL [x]) .clip)] = some (oneX k x).emb := bX5 k [x]
  have hbs := bS1 x
  have hf := fin_emb (oneX k x) S
  have hcx := xcells x
  have hlx := xlen x
  have htx := xtake x
  have hex := xemb x
  have hc := xcells (oneX k x)
  have hl := xlen (oneX k x)
  have ht := xtake (oneX k x)
  have he := xemb (oneX k x)
  generalize embL [x] = es at *
  generalize oneX k x = z at *
  generalize x.cells = xc at *
  generalize z.cells = zc at *
  generalize x.emb = xe at *
  generalize z.emb = ze at *
  rw [ev_enter (n := n) (show E.ok 112 = true from rfl) Tryz.func112 (fn := Tryz.f112) rfl (Nat.le_of_ble_eq_true rfl) (by decide +kernel)]
  simp (disch := first | (simp only [List.length_append, List.length_cons, List.length_nil]; omega) | (simp; done) | assumption) [AV.cells?, AV.isCell, -AV.cells?, cq_int, cq_str, cq_slice, -evBuild, -evBuildSlice, Tryz.f112, E_esc, hb, hbs, hc, hl, ht, he, hcx, hlx, htx, hex, hf, c24, a24, k24, i24, z24]

/-- what fail panics with -/
def stopV (h : Nat → Tk) (c : Int) (p : Nat) : AV := .iface 65 (.agg [.int .i64 c, .int .i64 (h p).p])
section
variable {H0 : List HBox} {a : Nat} (ha : a < H0.length) (T : List Nat) (l : List Tk) (hl : l.length ≤ 2000000)
include ha hl
theorem ev_fail (n p d : Nat) (c : Int) : ev Tryz.prog E (n + 2) 129 [.ptr a 0, .int .i64 c] (PSt H0 T a l p d) = some (.pan (stopV (hereT l) c p), PSt H0 T a l p d) := by
  have hh := ev_hereP ha T l hl n p d
  have hf := PSt_fin (H0 := H0) (a := a) T l p d p d (v := stopV (hereT l) c p) rfl rfl rfl
  simp only [stopV] at hf ⊢
  generalize hereT l p = t at *
  generalize PSt H0 T a l p d = L1 at *
  obtain ⟨k, ts, tn, tp⟩ := t
  simp only [Tk.emb, Tk.cells] at hh
  simp only at hf ⊢
  have hbd : evBuild Tryz.prog 65 [(0, .int .i64 c), (1, .int .i64 tp)] = some (.agg [.int .i64 c, .int .i64 tp]) := by
    simp [evBuild, tp68, tz68, fillA, tl68_0, tl68_1, AV.cells?, wrc]
  rw [show n + 2 = (n + 1) + 1 from rfl, ev_enter (n := n + 1) (show E.ok 129 = true from rfl) Tryz.func129 (fn := Tryz.f129) rfl (Nat.le_of_ble_eq_true rfl) (by decide +kernel)]
  simp (disch := first | (simp only [List.length_append, List.length_cons, List.length_nil]; omega) | (simp; done) | assumption) [AV.cells?, AV.isCell, -evBuild, Tryz.f129, E_esc, hh, hbd, tq46_3, tc46, ta46, tk46, finPan, tn68, hf]
theorem ev_needT (n p d : Nat) (c : UInt8) (q : List UInt8) (hb : isB (hereT l) p (c :: q) = true) : ev Tryz.prog E (n + 4) 134 [.ptr a 0, .str (c :: q)] (PSt H0 T a l p d) = some (.ret (.tup []), PSt H0 T a l (p + 1) d) := by
  have hi := ev_is ha T l hl (n + 1) p d c q
  have hf := PSt_fin (H0 := H0) (a := a) T l p d (p + 1) d (v := .tup []) rfl rfl rfl
  rw [hb] at hi
  simp only [if_true] at hi
  generalize c :: q = w at *
  generalize PSt H0 T a l (p + 1) d = L2 at *
  generalize PSt H0 T a l p d = L1 at *
  rw [show n + 4 = (n + 3) + 1 from rfl, ev_enter (n := n + 3) (show E.ok 134 = true from rfl) Tryz.func134 (fn := Tryz.f134) rfl (Nat.le_of_ble_eq_true rfl) (by decide +kernel)]
  simp (disch := first | (simp only [List.length_append, List.length_cons, List.length_nil]; omega) | (simp; done) | assumption) [AV.cells?, AV.isCell, Tryz.f134, E_esc, hi, hf]
theorem ev_needF (n p d : Nat) (c : UInt8) (q : List UInt8) (hb : isB (hereT l) p (c :: q) = false) : ev Tryz.prog E (n + 4) 134 [.ptr a 0, .str (c :: q)] (PSt H0 T a l p d) = some (.pan (stopV (hereT l) 16 p), PSt H0 T a l p d) := by
  have hi := ev_is ha T l hl (n + 1) p d c q
  have hfl := ev_fail ha T l hl (n + 1) p d 16
  have hf := PSt_fin (H0 := H0) (a := a) T l p d p d (v := stopV (hereT l) 16 p) rfl rfl rfl
  rw [hb] at hi
  simp only [if_false, Bool.false_eq_true] at hi
  generalize c :: q = w at *
  generalize stopV (hereT l) 16 p = sv at *
  generalize PSt H0 T a l p d = L1 at *
  rw [show n + 4 = (n + 3) + 1 from rfl, ev_enter (n := n + 3) (show E.ok 134 = true from rfl) Tryz.func134 (fn := Tryz.f134) rfl (Nat.le_of_ble_eq_true rfl) (by decide +kernel)]
  simp (disch := first | (simp only [List.length_append, List.length_cons, List.length_nil]; omega) | (simp; done) | assumption) [AV.cells?, AV.isCell, Tryz.f134, E_esc, hi, hfl, finPan, hf]
theorem ev_takeT (n p d : Nat) (k : Int) (hk : k ≠ 5) (hb : (hereT l p).k = k) : ev Tryz.prog E (n + 3) 140 [.ptr a 0, .int .i64 k] (PSt H0 T a l p d) = some (.ret (hereT l p).emb, PSt H0 T a l (p + 1) d) := by
  have hh := ev_hereP ha T l hl (n + 1) p d
  have hg := PSt_get ha T l p d
  have hset := PSt_set (H0 := H0) (a := a) T l p d (p + 1) d
  have hf := PSt_fin (H0 := H0) (a := a) T l p d (p + 1) d (v := (hereT l p).emb) rfl rfl rfl
  have hplt : p < l.length := here_lt (by rw [hb]; exact hk)
  have hw : IntKind.i64.wrap ((p : Int) + 1) = ((p + 1 : Nat) : Int) := by rw [wrap64 _ (by omega)]; omega
  generalize hereT l p = t at *
  obtain ⟨kk, ts, tn, tp⟩ := t
  simp only at hb
  subst hb
  simp only [Tk.emb, Tk.cells] at hh hf ⊢
  generalize PSt H0 T a l (p + 1) d = L2 at *
  generalize PSt H0 T a l p d = L1 at *
  generalize p + 1 = P1 at *
  generalize tkL l = es at *
  rw [show n + 3 = (n + 2) + 1 from rfl, ev_enter (n := n + 2) (show E.ok 140 = true from rfl) Tryz.func140 (fn := Tryz.f140) rfl (Nat.le_of_ble_eq_true rfl) (by decide +kernel)]
  simp (disch := first | (simp only [List.length_append, List.length_cons, List.length_nil]; omega) | (simp; done) | assumption) [AV.cells?, AV.isCell, Tryz.f140, E_esc, AV.sealed, AV.sealedL, hh, hg, tz46, tq46_0, tq46_1, tc46, ta46, tk46, ti46, tq66_1, tk66, k3, c3, a3, i3, bq3, hw, hset, hf]
theorem ev_takeF (n p d : Nat) (k : Int) (hb : (hereT l p).k ≠ k) : ev Tryz.prog E (n + 3) 140 [.ptr a 0, .int .i64 k] (PSt H0 T a l p d) = some (.pan (stopV (hereT l) 16 p), PSt H0 T a l p d) := by
  have hh := ev_hereP ha T l hl (n + 1) p d
  have hfl := ev_fail ha T l hl n p d 16
  have hf := PSt_fin (H0 := H0) (a := a) T l p d p d (v := stopV (hereT l) 16 p) rfl rfl rfl
  generalize stopV (hereT l) 16 p = sv at *
  generalize hereT l p = t at *
  obtain ⟨kk, ts, tn, tp⟩ := t
  simp only at hb
  simp only [Tk.emb, Tk.cells] at hh ⊢
  generalize PSt H0 T a l p d = L1 at *
  rw [show n + 3 = (n + 2) + 1 from rfl, ev_enter (n := n + 2) (show E.ok 140 = true from rfl) Tryz.func140 (fn := Tryz.f140) rfl (Nat.le_of_ble_eq_true rfl) (by decide +kernel)]
  simp (disch := first | (simp only [List.length_append, List.length_cons, List.length_nil]; omega) | (simp; done) | assumption) [AV.cells?, AV.isCell, Tryz.f140, E_esc, hh, hb, hfl, tz46, tq46_0, tc46, ta46, tk46, ti46, k3, c3, a3, bq3, finPan, hf]
end
end Go.Proofs.YtemggoaefohliaaGreatDoor.PS
/- The parser as plain functions over the words. No condition. -/
namespace Go.Proofs.YtemggoaefohliaaGreatDoor.PS
set_option linter.unusedVariables false
set_option linter.unusedSimpArgs false
open Go AE EX PT NF LX
set_option maxRecDepth 100000

/-- an error's code and where it stood; or a value and the place behind it -/
abbrev PR (α : Type) := Except (Int × Nat) (α × Nat)
def PR.th {α β : Type} (x : PR α) (f : α → Nat → PR β) : PR β :=
  match x with
  | .ok (v, q) => f v q
  | .error e => .error e
theorem th_ok {α β : Type} (v : α) (q : Nat) (f : α → Nat → PR β) : PR.th (.ok (v, q)) f = f v q := rfl
theorem th_err {α β : Type} (e : Int × Nat) (f : α → Nat → PR β) : PR.th (.error e) f = .error e := rfl

section
variable (h : Nat → Tk)
def needP (q : List UInt8) (p : Nat) : PR Unit := if isB h p q = true then .ok ((), p + 1) else .error (16, p)
def takeP (k : Int) (p : Nat) : PR Tk := if (h p).k = k then .ok (h p, p + 1) else .error (16, p)
/-- which of the signs stands here? -/
def opAt (p : Nat) : List (List UInt8 × Int) → Option Int
  | [] => none
  | (q, k) :: r => if isB h p q = true then some k else opAt p r
def loopF (ops : List (List UInt8 × Int)) (sub : Nat → PR X) : Nat → X → Nat → PR X
  | 0, e, p => .error (0, p)
  | f + 1, e, p => match opAt h p ops with
    | none => .ok (e, p)
    | some k => (sub (p + 1)).th fun x r => loopF ops sub f (bothX k e x) r
def chainP (F : Nat) (ops : List (List UInt8 × Int)) (sub : Nat → PR X) (p : Nat) : PR X := (sub p).th fun e r => loopF h ops sub F e r
def relP (sub : Nat → PR X) (p : Nat) : PR X := (sub p).th fun e r =>
  if isB h r [61] = true then (sub (r + 1)).th fun x q => .ok (bothX 14 e x, q)
  else if isB h r [33, 61] = true then (sub (r + 1)).th fun x q => .ok (oneX 18 (bothX 14 e x), q)
  else if isB h r [60] = true then (sub (r + 1)).th fun x q => .ok (bothX 15 e x, q)
  else if isB h r [60, 61] = true then (sub (r + 1)).th fun x q => .ok (bothX 16 e x, q)
  else if isB h r [105, 110] = true then (sub (r + 1)).th fun x q => .ok (bothX 17 e x, q)
  else .ok (e, r)
def prodP (F : Nat) (one : Nat → PR X) : Nat → PR X := chainP h F [([42], 10)] one
def sumP (F : Nat) (one : Nat → PR X) : Nat → PR X := chainP h F [([43], 8), ([45], 9)] (prodP h F one)
def allP (F : Nat) (one : Nat → PR X) : Nat → PR X := chainP h F [([97, 110, 100], 19)] (relP h (sumP h F one))
def anyP (F : Nat) (one : Nat → PR X) : Nat → PR X := chainP h F [([111, 114], 20)] (allP h F one)
/-- the last text of a set so far -/
def lastS (ks : List X) : List UInt8 := match ks.getLast? with
  | some (.mk _ s _ _ _ _ _) => s
  | none => []
def setBad (ks : List X) (s : List UInt8) : Bool := (ks.length == 8) || (decide (0 < ks.length) && (Op.bytesLess s (lastS ks) || s == lastS ks))
def setX (ks : List X) : X := .mk 4 [] 0 0 0 false ks
def setF : Nat → List X → Nat → PR X
  | 0, ks, p => .error (0, p)
  | f + 1, ks, p => (takeP h 3 p).th fun t r =>
    if setBad ks t.s = true then .error (16, r)
    else if isB h r [125] = true then .ok (setX (ks ++ [leafX 3 t.s 0 0]), r + 1)
    else (needP h [44] r).th fun _ q => setF f (ks ++ [leafX 3 t.s 0 0]) q
def setP (F : Nat) (p : Nat) : PR X := if isB h p [125] = true then .ok (leafX 4 [] 0 0, p + 1) else setF h F [] p
def argP (any : Nat → PR X) (p : Nat) : PR X := (needP h [40] p).th fun _ q => (any q).th fun e r => (needP h [41] r).th fun _ t => .ok (e, t)
def signedP (F : Nat) (one any : Nat → PR X) (p : Nat) : PR X :=
  if isB h p [45] = true then (one (p + 1)).th fun x r => .ok (oneX 11 x, r)
  else if isB h p [123] = true then setP h F (p + 1)
  else argP h any p
def attrP (side : Int) (p : Nat) : PR X := (needP h [46] p).th fun _ q => (takeP h 1 q).th fun t r => .ok (leafX side t.s 0 0, r)
def timesP (p : Nat) : PR X := (needP h [40] p).th fun _ q => (takeP h 1 q).th fun t r => (needP h [44] r).th fun _ r2 => (takeP h 2 r2).th fun u r3 => (needP h [41] r3).th fun _ r4 => .ok (leafX 13 t.s 0 u.n, r4)
def actP (p : Nat) : PR X := (needP h [40] p).th fun _ q => (takeP h 1 q).th fun t r => (needP h [41] r).th fun _ r4 => .ok (leafX 21 t.s 0 0, r4)
def spanP (p : Nat) : PR (Int × Int) := (needP h [91] p).th fun _ q => (takeP h 2 q).th fun t r => (needP h [44] r).th fun _ r2 =>
  if isB h r2 [42] = true then (needP h [93] (r2 + 1)).th fun _ r4 => .ok ((t.n, -1), r4)
  else (takeP h 2 r2).th fun u r3 => if u.n < t.n then .error (16, r3) else (needP h [93] r3).th fun _ r4 => .ok ((t.n, u.n), r4)
def lookP (k : Int) (any : Nat → PR X) (p : Nat) : PR X := (spanP h p).th fun lh r => (argP h any r).th fun e q => .ok (.mk k [] 0 lh.1 lh.2 true [e], q)
def sinceP (any : Nat → PR X) (p : Nat) : PR X := (spanP h p).th fun lh r => (needP h [40] r).th fun _ r2 => (any r2).th fun x r3 => (needP h [44] r3).th fun _ r4 => (any r4).th fun y r5 => (needP h [41] r5).th fun _ r6 => .ok (.mk 24 [] 0 lh.1 lh.2 true [x, y], r6)
def timedP (any : Nat → PR X) (p : Nat) : PR X :=
  if isB h p [111, 110, 99, 101] = true then lookP h 22 any (p + 1)
  else if isB h p [104, 105, 115, 116] = true then lookP h 23 any (p + 1)
  else if isB h p [115, 105, 110, 99, 101] = true then sinceP h any (p + 1)
  else .error (16, p)
def namedP (one any : Nat → PR X) (p : Nat) : PR X :=
  if isB h p [116, 114, 117, 101] = true then .ok (leafX 2 [] 1 0, p + 1)
  else if isB h p [102, 97, 108, 115, 101] = true then .ok (leafX 2 [] 0 0, p + 1)
  else if isB h p [110, 111, 119] = true then .ok (leafX 7 [] 0 0, p + 1)
  else if isB h p [110, 111, 116] = true then (one (p + 1)).th fun x r => .ok (oneX 18 x, r)
  else if isB h p [115] = true then attrP h 5 (p + 1)
  else if isB h p [111] = true then attrP h 6 (p + 1)
  else if isB h p [97, 99, 116] = true then actP h (p + 1)
  else if isB h p [116, 105, 109, 101, 115] = true then timesP h (p + 1)
  else if isB h p [108, 101, 110] = true then (argP h any (p + 1)).th fun x r => .ok (oneX 12 x, r)
  else if isB h p [112, 114, 101, 118] = true then (argP h any (p + 1)).th fun x r => .ok (oneX 25 x, r)
  else timedP h any p
/-- one expression that stands by itself, by how many levels there still are -/
def oneF (F : Nat) : Nat → Nat → PR X
  | 0, p => .error (32, p)
  | k + 1, p =>
    if (h p).k = 2 then .ok (leafX 1 [] (h p).n 0, p + 1)
    else if (h p).k = 3 then .ok (leafX 3 (h p).s 0 0, p + 1)
    else if (h p).k = 4 then signedP h F (oneF F k) (anyP h F (oneF F k)) p
    else if (h p).k = 1 then namedP h (oneF F k) (anyP h F (oneF F k)) p
    else .error (16, p)
end

/-! ### the place does not go back -/
def Mono {α : Type} (sub : Nat → PR α) : Prop := ∀ p x r, sub p = .ok (x, r) → p ≤ r
theorem th_split {α β : Type} {x : PR α} {f : α → Nat → PR β} {b : β × Nat} (h : PR.th x f = .ok b) : ∃ v q, x = .ok (v, q) ∧ f v q = .ok b := by
  match x, h with
  | .ok (v, q), h => exact ⟨v, q, rfl, h⟩
  | .error e, h => cases h
section
variable {h : Nat → Tk}
theorem mono_need (q : List UInt8) : Mono (needP h q) := by
  intro p x r hh
  unfold needP at hh
  split at hh <;> cases hh
  omega
theorem mono_take (k : Int) : Mono (takeP h k) := by
  intro p x r hh
  unfold takeP at hh
  split at hh <;> cases hh
  omega
theorem mono_loop {ops : List (List UInt8 × Int)} {sub : Nat → PR X} (hs : Mono sub) : ∀ f e, Mono (loopF h ops sub f e)
  | 0, e => by intro p x r hh; cases hh
  | f + 1, e => by
    intro p x r hh
    rw [loopF] at hh
    split at hh
    · cases hh; omega
    · obtain ⟨v, q, h1, h2⟩ := th_split hh
      have := hs _ _ _ h1
      have := mono_loop hs f _ _ _ _ h2
      omega
theorem mono_chain {ops : List (List UInt8 × Int)} {sub : Nat → PR X} (hs : Mono sub) (F : Nat) : Mono (chainP h F ops sub) := by
  intro p x r hh
  obtain ⟨v, q, h1, h2⟩ := th_split hh
  have := hs _ _ _ h1
  have := mono_loop hs F _ _ _ _ h2
  omega
theorem mono_th2 {α β : Type} {sub : Nat → PR α} (hs : Mono sub) {g : α → Nat → β} {p : Nat} {x : β} {r : Nat} (hh : (sub p).th (fun x q => .ok (g x q, q)) = .ok (x, r)) : p ≤ r := by
  obtain ⟨v, q, h1, h2⟩ := th_split hh
  cases h2
  exact hs _ _ _ h1
theorem mono_rel {sub : Nat → PR X} (hs : Mono sub) : Mono (relP h sub) := by
  intro p x r hh
  obtain ⟨v, q, h1, h2⟩ := th_split hh
  have h3 := hs _ _ _ h1
  have key : ∀ {g : X → Nat → X}, (sub (q + 1)).th (fun x q => .ok (g x q, q)) = .ok (x, r) → p ≤ r := fun hh => by
    have := mono_th2 hs hh
    omega
  split at h2
  · exact key h2
  · split at h2
    · exact key h2
    · split at h2
      · exact key h2
      · split at h2
        · exact key h2
        · split at h2
          · exact key h2
          · cases h2; omega
theorem mono_arg {any : Nat → PR X} (hs : Mono any) : Mono (argP h any) := by
  intro p x r hh
  obtain ⟨v, q, h1, h2⟩ := th_split hh
  obtain ⟨v2, q2, h3, h4⟩ := th_split h2
  obtain ⟨v3, q3, h5, h6⟩ := th_split h4
  have := mono_need _ _ _ _ h1
  have := hs _ _ _ h3
  have := mono_need _ _ _ _ h5
  cases h6
  omega
theorem mono_setF : ∀ f ks, Mono (setF h f ks)
  | 0, ks => by intro p x r hh; cases hh
  | f + 1, ks => by
    intro p x r hh
    rw [setF] at hh
    obtain ⟨v, q, h1, h2⟩ := th_split hh
    have := mono_take _ _ _ _ h1
    split at h2
    · cases h2
    · split at h2
      · cases h2; omega
      · obtain ⟨v2, q2, h3, h4⟩ := th_split h2
        have := mono_need _ _ _ _ h3
        have := mono_setF f _ _ _ _ h4
        omega
theorem mono_signed {F : Nat} {one any : Nat → PR X} (h1 : Mono one) (h2 : Mono any) : Mono (signedP h F one any) := by
  intro p x r hh
  unfold signedP at hh
  split at hh
  · have := mono_th2 h1 hh; omega
  · split at hh
    · unfold setP at hh
      split at hh
      · cases hh; omega
      · have := mono_setF _ _ _ _ _ hh; omega
    · exact mono_arg h2 _ _ _ hh
theorem mono_attr (side : Int) : Mono (attrP h side) := by
  intro p x r hh
  obtain ⟨v, q, h1, h2⟩ := th_split hh
  have := mono_need _ _ _ _ h1
  have := mono_th2 (mono_take _) h2
  omega
theorem mono_act : Mono (actP h) := by
  intro p x r hh
  obtain ⟨v, q, h1, h2⟩ := th_split hh
  obtain ⟨v2, q2, h3, h4⟩ := th_split h2
  have := mono_need _ _ _ _ h1
  have := mono_take _ _ _ _ h3
  have := mono_th2 (mono_need _) h4
  omega
theorem mono_times : Mono (timesP h) := by
  intro p x r hh
  obtain ⟨v, q, h1, h2⟩ := th_split hh
  obtain ⟨v2, q2, h3, h4⟩ := th_split h2
  obtain ⟨v3, q3, h5, h6⟩ := th_split h4
  obtain ⟨v4, q4, h7, h8⟩ := th_split h6
  have := mono_need _ _ _ _ h1
  have := mono_take _ _ _ _ h3
  have := mono_need _ _ _ _ h5
  have := mono_take _ _ _ _ h7
  have := mono_th2 (mono_need _) h8
  omega
theorem mono_span : Mono (spanP h) := by
  intro p x r hh
  obtain ⟨v, q, h1, h2⟩ := th_split hh
  obtain ⟨v2, q2, h3, h4⟩ := th_split h2
  obtain ⟨v3, q3, h5, h6⟩ := th_split h4
  have := mono_need _ _ _ _ h1
  have := mono_take _ _ _ _ h3
  have := mono_need _ _ _ _ h5
  split at h6
  · have := mono_th2 (mono_need _) h6
    omega
  · obtain ⟨v4, q4, h7, h8⟩ := th_split h6
    have := mono_take _ _ _ _ h7
    split at h8
    · cases h8
    · have := mono_th2 (mono_need _) h8
      omega
theorem mono_look {any : Nat → PR X} (hs : Mono any) (k : Int) : Mono (lookP h k any) := by
  intro p x r hh
  obtain ⟨v, q, h1, h2⟩ := th_split hh
  have := mono_span _ _ _ h1
  have := mono_th2 (mono_arg hs) h2
  omega
theorem mono_since {any : Nat → PR X} (hs : Mono any) : Mono (sinceP h any) := by
  intro p x r hh
  obtain ⟨v, q, h1, h2⟩ := th_split hh
  obtain ⟨v2, q2, h3, h4⟩ := th_split h2
  obtain ⟨v3, q3, h5, h6⟩ := th_split h4
  obtain ⟨v4, q4, h7, h8⟩ := th_split h6
  obtain ⟨v5, q5, h9, h10⟩ := th_split h8
  have := mono_span _ _ _ h1
  have := mono_need _ _ _ _ h3
  have := hs _ _ _ h5
  have := mono_need _ _ _ _ h7
  have := hs _ _ _ h9
  have := mono_th2 (mono_need _) h10
  omega
theorem mono_timed {any : Nat → PR X} (hs : Mono any) : Mono (timedP h any) := by
  intro p x r hh
  unfold timedP at hh
  split at hh
  · have := mono_look hs _ _ _ _ hh; omega
  · split at hh
    · have := mono_look hs _ _ _ _ hh; omega
    · split at hh
      · have := mono_since hs _ _ _ hh; omega
      · cases hh
theorem mono_named {one any : Nat → PR X} (h1 : Mono one) (h2 : Mono any) : Mono (namedP h one any) := by
  intro p x r hh
  unfold namedP at hh
  split at hh
  · cases hh; omega
  · split at hh
    · cases hh; omega
    · split at hh
      · cases hh; omega
      · split at hh
        · have := mono_th2 h1 hh; omega
        · split at hh
          · have := mono_attr _ _ _ _ hh; omega
          · split at hh
            · have := mono_attr _ _ _ _ hh; omega
            · split at hh
              · have := mono_act _ _ _ hh; omega
              · split at hh
                · have := mono_times _ _ _ hh; omega
                · split at hh
                  · have := mono_th2 (mono_arg h2) hh; omega
                  · split at hh
                    · have := mono_th2 (mono_arg h2) hh; omega
                    · exact mono_timed h2 _ _ _ hh
theorem mono_any {F : Nat} {one : Nat → PR X} (h1 : Mono one) : Mono (prodP h F one) ∧ Mono (sumP h F one) ∧ Mono (allP h F one) ∧ Mono (anyP h F one) := by
  have a1 : Mono (prodP h F one) := mono_chain h1 F
  have a2 : Mono (sumP h F one) := mono_chain a1 F
  have a3 : Mono (allP h F one) := mono_chain (mono_rel a2) F
  exact ⟨a1, a2, a3, mono_chain a3 F⟩
theorem mono_one (F : Nat) : ∀ k, Mono (oneF h F k)
  | 0 => by intro p x r hh; cases hh
  | k + 1 => by
    intro p x r hh
    have ih := mono_one F k
    rw [oneF] at hh
    split at hh
    · cases hh; omega
    · split at hh
      · cases hh; omega
      · split at hh
        · exact mono_signed ih (mono_any ih).2.2.2 _ _ _ hh
        · split at hh
          · exact mono_named ih (mono_any ih).2.2.2 _ _ _ hh
          · cases hh
end
end Go.Proofs.YtemggoaefohliaaGreatDoor.PS
/- How great what the parser builds can be: by the words it has passed. No condition. -/
namespace Go.Proofs.YtemggoaefohliaaGreatDoor.PS
set_option linter.unusedVariables false
set_option linter.unusedSimpArgs false
open Go AE EX PT NF LX
set_option maxRecDepth 100000

def wT (t : Tk) : Nat := 14 + t.s.length
def Wt (l : List Tk) (i : Nat) : Nat := ((l.take i).map wT).sum
theorem Wt_succ {l : List Tk} {p : Nat} (h : p < l.length) : Wt l (p + 1) = Wt l p + wT (hereT l p) := by
  have hg : l[p]? = some l[p] := List.getElem?_eq_getElem h
  have hh : hereT l p = l[p] := by simp [hereT, hg]
  rw [hh]
  unfold Wt
  rw [List.take_add_one, hg]
  simp only [Option.toList_some, List.map_append, List.map_cons, List.map_nil, List.sum_append_nat, List.sum_cons, List.sum_nil]
  omega
theorem Wt_all (l : List Tk) (i : Nat) : Wt l i ≤ (l.map wT).sum := by
  have : (l.map wT).sum = ((l.take i).map wT).sum + ((l.drop i).map wT).sum := by
    rw [← List.sum_append, ← List.map_append, List.take_append_drop]
  unfold Wt; omega
/-- a word's weight, at the least -/
def Wok (h : Nat → Tk) (Wf : Nat → Nat) : Prop := ∀ p, (h p).k ≠ 5 → Wf p + 14 + (h p).s.length ≤ Wf (p + 1)
theorem Wok_l (l : List Tk) : Wok (hereT l) (Wt l) := fun p hp => by
  rw [Wt_succ (here_lt hp)]; unfold wT; omega
/-- nothing is passed behind a word that ends all -/
theorem Wok_end {l : List Tk} {m : Nat} (hm : (hereT l m).k = 5) (hl : l.length ≤ m + 1) : Wok (hereT l) (fun i => if i ≤ m then Wt l i else 0) := fun p hp => by
  have := Wok_l l p hp
  have h1 := here_lt hp
  have h2 : p ≠ m := fun e => hp (by rw [e]; exact hm)
  have e1 : p ≤ m := by omega
  have e2 : p + 1 ≤ m := by omega
  simp only [e1, e2, if_true]
  exact this
/-- so much at the most -/
def Bd (Wf : Nat → Nat) (sub : Nat → PR X) : Prop := ∀ p x r, sub p = .ok (x, r) → x.bulk + Wf p ≤ Wf r

section
variable {h0 : Nat → Tk} {Wf : Nat → Nat} (hW : Wok h0 Wf)
include hW
theorem is_c {p : Nat} {q : List UInt8} (h : isB h0 p q = true) : Wf p + 14 ≤ Wf (p + 1) := by
  simp only [isB, Bool.and_eq_true, beq_iff_eq] at h
  have := hW p (by rw [h.1]; exact kindOf_ne q)
  omega
theorem need_c {p : Nat} {q : List UInt8} {u : Unit} {r : Nat} (h : needP h0 q p = .ok (u, r)) : Wf p + 14 ≤ Wf r := by
  unfold needP at h
  split at h
  · rename_i hb; cases h; exact is_c hW hb
  · cases h
theorem take_c {p : Nat} {k : Int} {t : Tk} {r : Nat} (hk : k ≠ 5) (h : takeP h0 k p = .ok (t, r)) : Wf p + 14 + t.s.length ≤ Wf r := by
  unfold takeP at h
  split at h
  · rename_i hb
    cases h
    exact hW p (by rw [hb]; exact hk)
  · cases h
theorem here_c {p : Nat} {k : Int} (hk : k ≠ 5) (h : (h0 p).k = k) : Wf p + 14 + (h0 p).s.length ≤ Wf (p + 1) := hW p (by rw [h]; exact hk)
omit hW in
theorem leaf_b (k : Int) (s : List UInt8) (n hi : Int) : (leafX k s n hi).bulk = 7 + s.length := by simp [leafX, X.bulk, bulkL]
omit hW in
theorem both_b (k : Int) (x y : X) : (bothX k x y).bulk = 7 + (x.bulk + y.bulk) := by simp [bothX, X.bulk, bulkL]
omit hW in
theorem one_b (k : Int) (x : X) : (oneX k x).bulk = 7 + x.bulk := by simp [oneX, X.bulk, bulkL]
omit hW in
theorem mk1_b (k lo hi : Int) (b : Bool) (x : X) : (X.mk k [] 0 lo hi b [x]).bulk = 7 + x.bulk := by simp [X.bulk, bulkL]
omit hW in
theorem mk2_b (k lo hi : Int) (b : Bool) (x y : X) : (X.mk k [] 0 lo hi b [x, y]).bulk = 7 + (x.bulk + y.bulk) := by simp [X.bulk, bulkL]

omit hW in
theorem opAt_is {h : Nat → Tk} {p : Nat} {k : Int} : ∀ {ops : List (List UInt8 × Int)}, opAt h p ops = some k → ∃ q, isB h p q = true
  | [], hh => by cases hh
  | (q, k') :: r, hh => by
    rw [opAt] at hh
    split at hh
    · rename_i hb; exact ⟨q, hb⟩
    · exact opAt_is hh
theorem bd_loop {ops : List (List UInt8 × Int)} {sub : Nat → PR X} (hs : Bd Wf sub) : ∀ f e p x r, loopF h0 ops sub f e p = .ok (x, r) → x.bulk + Wf p ≤ e.bulk + Wf r
  | 0, e, p, x, r, h => by cases h
  | f + 1, e, p, x, r, h => by
    rw [loopF] at h
    split at h
    · cases h; omega
    · rename_i k hk
      obtain ⟨v, q, h1, h2⟩ := th_split h
      obtain ⟨w, hw⟩ := opAt_is hk
      have := is_c hW hw
      have := hs _ _ _ h1
      have := bd_loop hs f _ _ _ _ h2
      rw [both_b] at this
      omega
theorem bd_chain {ops : List (List UInt8 × Int)} {sub : Nat → PR X} (hs : Bd Wf sub) (F : Nat) : Bd Wf (chainP h0 F ops sub) := by
  intro p x r h
  obtain ⟨v, q, h1, h2⟩ := th_split h
  have := hs _ _ _ h1
  have := bd_loop hW hs F _ _ _ _ h2
  omega
theorem bd_rel {sub : Nat → PR X} (hs : Bd Wf sub) : Bd Wf (relP h0 sub) := by
  intro p x r h
  obtain ⟨v, q, h1, h2⟩ := th_split h
  have h3 := hs _ _ _ h1
  have key : ∀ {k : Int}, isB h0 q [61] = true ∨ isB h0 q [60] = true ∨ isB h0 q [60, 61] = true ∨ isB h0 q [105, 110] = true → (sub (q + 1)).th (fun y t => .ok (bothX k v y, t)) = .ok (x, r) → x.bulk + Wf p ≤ Wf r := fun hb hh => by
    obtain ⟨y, t, g1, g2⟩ := th_split hh
    cases g2
    have := hs _ _ _ g1
    rw [both_b]
    rcases hb with hb | hb | hb | hb <;> (have := is_c hW hb; omega)
  split at h2
  · rename_i hb; exact key (.inl hb) h2
  · split at h2
    · rename_i hb
      obtain ⟨y, t, g1, g2⟩ := th_split h2
      cases g2
      have := hs _ _ _ g1
      have := is_c hW hb
      rw [one_b, both_b]
      omega
    · split at h2
      · rename_i hb; exact key (.inr (.inl hb)) h2
      · split at h2
        · rename_i hb; exact key (.inr (.inr (.inl hb))) h2
        · split at h2
          · rename_i hb; exact key (.inr (.inr (.inr hb))) h2
          · cases h2; omega
theorem bd_any {one : Nat → PR X} (hs : Bd Wf one) (F : Nat) : Bd Wf (anyP h0 F one) := bd_chain hW (bd_chain hW (bd_rel hW (bd_chain hW (bd_chain hW hs F) F)) F) F
theorem bd_setF : ∀ f ks p x r, setF h0 f ks p = .ok (x, r) → x.bulk + Wf p ≤ 7 + bulkL ks + Wf r
  | 0, ks, p, x, r, h => by cases h
  | f + 1, ks, p, x, r, h => by
    rw [setF] at h
    obtain ⟨t, q, h1, h2⟩ := th_split h
    have := take_c hW (by decide) h1
    have hb : bulkL (ks ++ [leafX 3 t.s 0 0]) = bulkL ks + (7 + t.s.length) := by
      have : ∀ a b : List X, bulkL (a ++ b) = bulkL a + bulkL b := fun a b => by
        induction a with
        | nil => simp [bulkL]
        | cons x a ih => simp [bulkL, ih]; omega
      rw [this]; simp [bulkL, leaf_b]
    split at h2
    · cases h2
    · split at h2
      · rename_i hc
        cases h2
        have := is_c hW hc
        simp only [setX, X.bulk, hb, List.length_nil]
        omega
      · obtain ⟨u, q2, h3, h4⟩ := th_split h2
        have := need_c hW h3
        have := bd_setF f _ _ _ _ h4
        rw [hb] at this
        omega
theorem bd_set (F : Nat) : ∀ p x r, setP h0 F p = .ok (x, r) → x.bulk + Wf p ≤ 7 + Wf r := by
  intro p x r h
  unfold setP at h
  split at h
  · rename_i hb
    cases h
    have := is_c hW hb
    simp [leaf_b]; omega
  · have := bd_setF hW F _ _ _ _ h
    simpa [bulkL] using this
theorem bd_arg {any : Nat → PR X} (ha : Bd Wf any) : ∀ p x r, argP h0 any p = .ok (x, r) → x.bulk + Wf p + 28 ≤ Wf r := by
  intro p x r h
  obtain ⟨_, q, h1, h2⟩ := th_split h
  obtain ⟨v, q2, h3, h4⟩ := th_split h2
  obtain ⟨_, q3, h5, h6⟩ := th_split h4
  cases h6
  have := need_c hW h1
  have := ha _ _ _ h3
  have := need_c hW h5
  omega
theorem bd_signed {one any : Nat → PR X} (ho : Bd Wf one) (ha : Bd Wf any) (F : Nat) : Bd Wf (signedP h0 F one any) := by
  intro p x r h
  unfold signedP at h
  split at h
  · rename_i hb
    obtain ⟨v, q, h1, h2⟩ := th_split h
    cases h2
    have := ho _ _ _ h1
    have := is_c hW hb
    rw [one_b]; omega
  · split at h
    · rename_i hb
      have := bd_set hW F _ _ _ h
      have := is_c hW hb
      omega
    · have := bd_arg hW ha _ _ _ h
      omega
theorem bd_span : ∀ p x r, spanP h0 p = .ok (x, r) → Wf p + 14 ≤ Wf r := by
  intro p x r h
  obtain ⟨_, q, h1, h2⟩ := th_split h
  obtain ⟨t, q2, h3, h4⟩ := th_split h2
  obtain ⟨_, q3, h5, h6⟩ := th_split h4
  have := need_c hW h1
  have := take_c hW (by decide) h3
  have := need_c hW h5
  split at h6
  · rename_i hb
    obtain ⟨_, q4, h7, h8⟩ := th_split h6
    cases h8
    have := is_c hW hb
    have := need_c hW h7
    omega
  · obtain ⟨u, q4, h7, h8⟩ := th_split h6
    have := take_c hW (by decide) h7
    split at h8
    · cases h8
    · obtain ⟨_, q5, h9, h10⟩ := th_split h8
      cases h10
      have := need_c hW h9
      omega
theorem bd_look {any : Nat → PR X} (ha : Bd Wf any) (k : Int) : Bd Wf (lookP h0 k any) := by
  intro p x r h
  obtain ⟨lh, q, h1, h2⟩ := th_split h
  obtain ⟨v, q2, h3, h4⟩ := th_split h2
  cases h4
  have := bd_span hW _ _ _ h1
  have := bd_arg hW ha _ _ _ h3
  rw [mk1_b]; omega
theorem bd_since {any : Nat → PR X} (ha : Bd Wf any) : Bd Wf (sinceP h0 any) := by
  intro p x r h
  obtain ⟨lh, q, h1, h2⟩ := th_split h
  obtain ⟨_, q2, h3, h4⟩ := th_split h2
  obtain ⟨x1, q3, h5, h6⟩ := th_split h4
  obtain ⟨_, q4, h7, h8⟩ := th_split h6
  obtain ⟨x2, q5, h9, h10⟩ := th_split h8
  obtain ⟨_, q6, h11, h12⟩ := th_split h10
  cases h12
  have := bd_span hW _ _ _ h1
  have := need_c hW h3
  have := ha _ _ _ h5
  have := need_c hW h7
  have := ha _ _ _ h9
  have := need_c hW h11
  rw [mk2_b]; omega
theorem bd_timed {any : Nat → PR X} (ha : Bd Wf any) : Bd Wf (timedP h0 any) := by
  intro p x r h
  unfold timedP at h
  split at h
  · rename_i hb; have := bd_look hW ha _ _ _ _ h; have := is_c hW hb; omega
  · split at h
    · rename_i hb; have := bd_look hW ha _ _ _ _ h; have := is_c hW hb; omega
    · split at h
      · rename_i hb; have := bd_since hW ha _ _ _ h; have := is_c hW hb; omega
      · cases h
theorem bd_attr (side : Int) : Bd Wf (attrP h0 side) := by
  intro p x r h
  obtain ⟨_, q, h1, h2⟩ := th_split h
  obtain ⟨t, q2, h3, h4⟩ := th_split h2
  cases h4
  have := need_c hW h1
  have := take_c hW (by decide) h3
  rw [leaf_b]; omega
theorem bd_act : Bd Wf (actP h0) := by
  intro p x r h
  obtain ⟨_, q, h1, h2⟩ := th_split h
  obtain ⟨t, q2, h3, h4⟩ := th_split h2
  obtain ⟨_, q3, h5, h6⟩ := th_split h4
  cases h6
  have := need_c hW h1
  have := take_c hW (by decide) h3
  have := need_c hW h5
  rw [leaf_b]; omega
theorem bd_times : Bd Wf (timesP h0) := by
  intro p x r h
  obtain ⟨_, q, h1, h2⟩ := th_split h
  obtain ⟨t, q2, h3, h4⟩ := th_split h2
  obtain ⟨_, q3, h5, h6⟩ := th_split h4
  obtain ⟨u, q4, h7, h8⟩ := th_split h6
  obtain ⟨_, q5, h9, h10⟩ := th_split h8
  cases h10
  have := need_c hW h1
  have := take_c hW (by decide) h3
  have := need_c hW h5
  have := take_c hW (by decide) h7
  have := need_c hW h9
  rw [leaf_b]; omega
theorem bd_named {one any : Nat → PR X} (ho : Bd Wf one) (ha : Bd Wf any) : Bd Wf (namedP h0 one any) := by
  intro p x r h
  unfold namedP at h
  split at h
  · rename_i hb; cases h; have := is_c hW hb; rw [leaf_b]; simp; omega
  · split at h
    · rename_i hb; cases h; have := is_c hW hb; rw [leaf_b]; simp; omega
    · split at h
      · rename_i hb; cases h; have := is_c hW hb; rw [leaf_b]; simp; omega
      · split at h
        · rename_i hb
          obtain ⟨v, q, h1, h2⟩ := th_split h
          cases h2
          have := ho _ _ _ h1
          have := is_c hW hb
          rw [one_b]; omega
        · split at h
          · rename_i hb; have := bd_attr hW _ _ _ _ h; have := is_c hW hb; omega
          · split at h
            · rename_i hb; have := bd_attr hW _ _ _ _ h; have := is_c hW hb; omega
            · split at h
              · rename_i hb; have := bd_act hW _ _ _ h; have := is_c hW hb; omega
              · split at h
                · rename_i hb; have := bd_times hW _ _ _ h; have := is_c hW hb; omega
                · split at h
                  · rename_i hb
                    obtain ⟨v, q, h1, h2⟩ := th_split h
                    cases h2
                    have := bd_arg hW ha _ _ _ h1
                    have := is_c hW hb
                    rw [one_b]; omega
                  · split at h
                    · rename_i hb
                      obtain ⟨v, q, h1, h2⟩ := th_split h
                      cases h2
                      have := bd_arg hW ha _ _ _ h1
                      have := is_c hW hb
                      rw [one_b]; omega
                    · exact bd_timed hW ha _ _ _ h
theorem bd_one (F : Nat) : ∀ k, Bd Wf (oneF h0 F k)
  | 0 => by intro p x r h; rw [oneF] at h; cases h
  | k + 1 => by
    intro p x r h
    have ih := bd_one F k
    rw [oneF] at h
    split at h
    · rename_i hb; cases h; have := here_c hW (by decide) hb; rw [leaf_b]; simp; omega
    · split at h
      · rename_i hb; cases h; have := here_c hW (by decide) hb; rw [leaf_b]; omega
      · split at h
        · exact bd_signed hW ih (bd_any hW ih F) F _ _ _ h
        · split at h
          · exact bd_named hW ih (bd_any hW ih F) _ _ _ h
          · cases h
end
theorem bulk_pos : ∀ x : X, 7 ≤ x.bulk
  | .mk _ _ _ _ _ _ _ => by simp only [X.bulk]; omega
end Go.Proofs.YtemggoaefohliaaGreatDoor.PS
/- The words of a text: the last one ends all, no other does; their weight. No condition. -/
namespace Go.Proofs.YtemggoaefohliaaGreatDoor.LX
set_option linter.unusedVariables false
set_option linter.unusedSimpArgs false
open Go AE EX PT NF PS
set_option maxRecDepth 100000

theorem sub_le (s : List UInt8) (p q : Nat) : (sub s p q).length ≤ q - p := by
  simp [sub]; omega
theorem next_word {s : List UInt8} {p : Nat} {c : UInt8} {t : Tk} {to : Nat} (hc : s[p]? = some c) (h : nextR s p c = some (.word t to)) : t.s.length ≤ to - p ∧ t.k ≠ 5 := by
  unfold nextR at h
  split at h
  · cases h
  · simp only [Option.some.injEq] at h
    split at h
    · unfold namedR at h
      split at h
      · cases h
      · cases h
        exact ⟨sub_le _ _ _, by simp⟩
    · split at h
      · unfold numberedR at h
        split at h
        · cases h
          exact ⟨sub_le _ _ _, by simp⟩
        · cases h
      · split at h
        · unfold quotedR at h
          split at h
          · cases h
          · split at h
            · cases h
            · split at h
              · cases h
                have := sub_le s (p + 1) (p + 1 + (Lib.indexByte (s.drop (p + 1)) 34).toNat)
                exact ⟨by simp only; omega, by simp⟩
              · cases h
        · unfold signedR at h
          split at h
          · rename_i q hq
            cases h
            have hm := List.mem_of_find?_eq_some hq
            have h2 := sgL_len q hm
            exact ⟨by simp only; omega, by simp⟩
          · split at h
            · split at h
              · cases h
                exact ⟨by have := sub_le s p (p + 1); simp only; omega, by simp⟩
              · cases h
            · cases h

theorem lexF_shape {s : List UInt8} : ∀ (f p : Nat) (out l : List Tk), p ≤ s.length → s.length < f + p → lexF s f p out = .ok l →
    ∃ more, l = out ++ more ++ [⟨5, [], 0, s.length⟩] ∧ (∀ t ∈ more, t.k ≠ 5) ∧ (more.map wT).sum ≤ 15 * (s.length - p) ∧ more.length ≤ s.length - p
  | 0, p, out, l, hp, hf, h => by omega
  | f + 1, p, out, l, hp, hf, h => by
    rw [lexF] at h
    split at h
    · rename_i hn
      have := List.getElem?_eq_none_iff.1 hn
      have hpe : p = s.length := by omega
      cases h
      exact ⟨[], by simp [hpe], by simp, by simp, by simp⟩
    · rename_i c hc
      have hlt := (List.getElem?_eq_some_iff.1 hc).1
      split at h
      · obtain ⟨more, e1, e2, e3, e4⟩ := lexF_shape f (p + 1) out l (by omega) (by omega) h
        exact ⟨more, e1, e2, by omega, by omega⟩
      · cases h
      · rename_i t to hw
        obtain ⟨w1, w2, w3⟩ := next_far hc hw
        obtain ⟨w4, w5⟩ := next_word hc hw
        obtain ⟨more, e1, e2, e3, e4⟩ := lexF_shape f to (out ++ [t]) l w2 (by omega) h
        refine ⟨t :: more, by rw [e1]; simp, ?_, ?_, ?_⟩
        · intro u hu
          rcases List.mem_cons.1 hu with rfl | hu
          · exact w5
          · exact e2 u hu
        · simp only [List.map_cons, List.sum_cons, wT] at e3 ⊢
          omega
        · simp only [List.length_cons]; omega
theorem lexAll_shape {s : List UInt8} {l : List Tk} (h : lexAll s = .ok l) : s.length ≤ 4096 ∧
    ∃ more, l = more ++ [⟨5, [], 0, s.length⟩] ∧ (∀ t ∈ more, t.k ≠ 5) ∧ (more.map wT).sum ≤ 15 * s.length ∧ more.length ≤ s.length := by
  unfold lexAll at h
  split at h
  · cases h
  · obtain ⟨more, e1, e2, e3, e4⟩ := lexF_shape _ 0 [] l (by omega) (by omega) h
    exact ⟨by omega, more, by simpa using e1, e2, by simpa using e3, by simpa using e4⟩

/-- what the parser takes of a text's words -/
theorem take_bound {s : List UInt8} {l : List Tk} (h : lexAll s = .ok l) {x : X} {q : Nat} (hx : anyP (hereT l) (l.length + 1) (oneF (hereT l) (l.length + 1) 32) 0 = .ok (x, q)) : q < l.length ∧ x.bulk ≤ 62000 ∧ l.length ≤ 4097 := by
  obtain ⟨h1, more, e1, e2, e3, e4⟩ := lexAll_shape h
  have hlen : l.length = more.length + 1 := by rw [e1]; simp
  have hm : (hereT l more.length).k = 5 := by
    have : l[more.length]? = some ⟨5, [], 0, s.length⟩ := by rw [e1]; simp
    simp [hereT, this]
  have b1 := bd_any (Wok_l l) (bd_one (Wok_l l) (l.length + 1) 32) (l.length + 1) _ _ _ hx
  have b2 := bd_any (Wok_end hm (by omega)) (bd_one (Wok_end hm (by omega)) (l.length + 1) 32) (l.length + 1) _ _ _ hx
  have hb := bulk_pos x
  have hall := Wt_all l q
  have hs : (l.map wT).sum ≤ 15 * s.length + 14 := by rw [e1]; simp [wT]; exact e3
  refine ⟨?_, by omega, by omega⟩
  simp only [Nat.zero_le, if_true] at b2
  split at b2
  · omega
  · omega
end Go.Proofs.YtemggoaefohliaaGreatDoor.LX
/- The words of a text, by what is left of it. No condition. -/
namespace Go.Proofs.YtemggoaefohliaaGreatDoor.LX
set_option linter.unusedVariables false
set_option linter.unusedSimpArgs false
open Go AE EX PT NF PS
set_option maxRecDepth 100000

def Tk.at (t : Tk) (p : Nat) : Tk := { t with p := p }
def LR.sh (p : Nat) : LR → LR
  | .err c => .err c
  | .word t to => .word (t.at p) (p + to)
theorem far_sh (s : List UInt8) (p : Nat) : far s p = p + far (s.drop p) 0 := by simp [far]
theorem sub_sh (s : List UInt8) (p a k : Nat) : sub s (p + a) (p + k) = sub (s.drop p) a k := by
  simp only [sub, List.drop_take, List.drop_drop]
  congr 1
  omega
theorem next_shift {s : List UInt8} {p : Nat} {c : UInt8} (hc : s[p]? = some c) : nextR s p c = (nextR (s.drop p) 0 c).map (LR.sh p) := by
  unfold nextR
  split
  · rfl
  · have e1 : sub s p (far s p) = sub (s.drop p) 0 (far (s.drop p) 0) := by rw [far_sh s p]; exact sub_sh s p 0 _
    have e2 : ∀ k, sub s (p + 1) (p + 1 + k) = sub (s.drop p) 1 (1 + k) := fun k => by rw [Nat.add_assoc]; exact sub_sh s p 1 (1 + k)
    have e3 : (s.drop p).drop 1 = s.drop (p + 1) := by rw [List.drop_drop]
    simp only [Option.map_some]
    congr 1
    split
    · unfold namedR
      rw [e1, far_sh s p]
      rw [show p + far (s.drop p) 0 - p = far (s.drop p) 0 - 0 by omega]
      split <;> rfl
    · split
      · unfold numberedR
        rw [e1]
        split
        · rw [far_sh s p]; rfl
        · rfl
      · split
        · unfold quotedR
          simp only [Nat.zero_add, e3, e2]
          split
          · rfl
          · split
            · rfl
            · split
              · simp only [LR.sh, Tk.at]
                congr 1
              · rfl
        · unfold signedR
          have e4 : sgAt s p = sgAt (s.drop p) 0 := by simp [sgAt]
          have e5 : (s.drop p)[0]? = some c := by simp [hc]
          rw [e4, e5, hc]
          split
          · rfl
          · split
            · have := sub_sh s p 0 1
              simp only [Nat.add_zero] at this
              rw [this]
              split <;> rfl
            · rfl

/-- all words of what is left, from place p on, by fuel -/
def lexU : Nat → List UInt8 → Nat → Except (Int × Nat) (List Tk)
  | 0, _, _ => .ok []
  | _ + 1, [], p => .ok [⟨5, [], 0, p⟩]
  | f + 1, c :: u, p => match nextR (c :: u) 0 c with
    | none => lexU f u (p + 1)
    | some (.err e) => .error (e, p)
    | some (.word t to) => match lexU f ((c :: u).drop to) (p + to) with
      | .ok l => .ok (t.at p :: l)
      | .error e => .error e
theorem lexF_U {s : List UInt8} : ∀ (f p : Nat) (out : List Tk), p ≤ s.length → lexF s f p out = (match lexU f (s.drop p) p with | .ok l => .ok (out ++ l) | .error e => .error e)
  | 0, p, out, hp => by simp [lexF, lexU]
  | f + 1, p, out, hp => by
    rw [lexF]
    cases hc : s[p]? with
    | none =>
      have := List.getElem?_eq_none_iff.1 hc
      have hd : s.drop p = [] := List.drop_eq_nil_of_le this
      rw [hd]
      simp [lexU]
    | some c =>
      have hlt := (List.getElem?_eq_some_iff.1 hc).1
      have hd : s.drop p = c :: s.drop (p + 1) := by
        rw [List.drop_eq_getElem_cons hlt, (List.getElem?_eq_some_iff.1 hc).2]
      have hsh := next_shift hc
      rw [hd] at hsh ⊢
      simp only [lexU]
      cases hn : nextR (c :: s.drop (p + 1)) 0 c with
      | none =>
        rw [hn] at hsh
        simp only [Option.map_none] at hsh
        rw [hsh]
        exact lexF_U f (p + 1) out (by omega)
      | some r =>
        rw [hn] at hsh
        cases r with
        | err e =>
          simp only [Option.map_some, LR.sh] at hsh
          rw [hsh]
        | word t to =>
          simp only [Option.map_some, LR.sh] at hsh
          rw [hsh]
          simp only
          obtain ⟨_, h2, _⟩ := next_far hc hsh
          rw [lexF_U f (p + to) _ h2, ← hd, List.drop_drop]
          generalize lexU f (List.drop (p + to) s) (p + to) = R
          cases R <;> simp
theorem lexAll_U (s : List UInt8) : lexAll s = if 4096 < s.length then .error (5, 0) else lexU (s.length + 1) s 0 := by
  unfold lexAll
  split
  · rfl
  · rw [lexF_U _ 0 [] (by omega)]
    simp only [List.drop_zero, List.nil_append]
    split <;> rename_i h <;> rw [h]
theorem next_to {c : UInt8} {u : List UInt8} {t : Tk} {to : Nat} (h : nextR (c :: u) 0 c = some (.word t to)) : 0 < to ∧ to ≤ u.length + 1 := by
  obtain ⟨h1, h2, _⟩ := next_far (s := c :: u) (p := 0) rfl h
  exact ⟨h1, by simpa using h2⟩
/-- more fuel, the same -/
theorem lexU_fuel : ∀ (f g : Nat) (u : List UInt8) (p : Nat), u.length < f → f ≤ g → lexU g u p = lexU f u p
  | 0, _, _, _, h, _ => by omega
  | f + 1, 0, _, _, _, h => by omega
  | f + 1, g + 1, [], p, _, _ => rfl
  | f + 1, g + 1, c :: u, p, h1, h2 => by
    simp only [List.length_cons] at h1
    simp only [lexU]
    cases hn : nextR (c :: u) 0 c with
    | none => exact lexU_fuel f g u _ (by omega) (by omega)
    | some r =>
      cases r with
      | err e => rfl
      | word t to =>
        simp only
        obtain ⟨h3, h4⟩ := next_to hn
        rw [lexU_fuel f g _ _ (by simp; omega) (by omega)]

/-! ### a sign behind all -/
theorem takeWhile_stop {f : UInt8 → Bool} {d : UInt8} (hd : f d = false) : ∀ (u v : List UInt8), (u ++ d :: v).takeWhile f = u.takeWhile f
  | [], v => by simp [List.takeWhile, hd]
  | c :: u, v => by
    simp only [List.cons_append, List.takeWhile]
    rw [takeWhile_stop hd u v]
theorem takeWhile_le' (f : UInt8 → Bool) (u : List UInt8) : (u.takeWhile f).length ≤ u.length := takeWhile_le f u
theorem index_app {d : UInt8} (hd : d ≠ 34) : ∀ (u : List UInt8), Lib.indexByte (u ++ [d]) 34 = Lib.indexByte u 34
  | [] => by
    have : (d == 34) = false := by simp [hd]
    simp [Lib.indexByte, this]
  | c :: u => by
    have ih := index_app hd u
    simp only [List.cons_append, Lib.indexByte, ih]
theorem pre_app (c : UInt8) (u q : List UInt8) (hq : q ∈ sgL) : pre (c :: u ++ [41]) q = pre (c :: u) q := by
  have h2 := sgL_len q hq
  have h3 : q.getLast? = some 61 := by
    simp only [sgL, List.mem_cons, List.not_mem_nil, or_false] at hq
    rcases hq with rfl | rfl | rfl <;> rfl
  cases u with
  | nil =>
    have : pre [c] q = false := by simp [pre, h2]
    rw [this]
    obtain ⟨a, b, rfl⟩ : ∃ a b, q = [a, b] := by
      match q, h2 with
      | [a, b], _ => exact ⟨a, b, rfl⟩
    simp at h3
    subst h3
    simp [pre]
  | cons d u =>
    simp only [pre, h2]
    simp
theorem next_app (c : UInt8) (u : List UInt8) : nextR (c :: u ++ [41]) 0 c = nextR (c :: u) 0 c := by
  have ht : tl 41 = false := by decide
  have hf : far (c :: u ++ [41]) 0 = far (c :: u) 0 := by
    simp only [far, List.drop_zero]
    rw [takeWhile_stop ht]
  have hs : ∀ a k, k ≤ (c :: u).length → sub (c :: u ++ [41]) a k = sub (c :: u) a k := fun a k hk => by
    simp only [sub]
    rw [List.take_append_of_le_length hk]
  have hfl : far (c :: u) 0 ≤ (c :: u).length := far_le (by simp)
  unfold nextR
  split
  · rfl
  · congr 1
    split
    · unfold namedR; rw [hf, hs _ _ hfl]
    · split
      · unfold numberedR; rw [hf, hs _ _ hfl]
      · split
        · unfold quotedR
          have e1 : (c :: u ++ [41]).drop (0 + 1) = u ++ [41] := rfl
          have e2 : (c :: u).drop (0 + 1) = u := rfl
          rw [e1, e2, index_app (by decide)]
          split
          · rfl
          · rename_i h34
            obtain ⟨k, hk⟩ : ∃ k : Nat, Lib.indexByte u 34 = (k : Int) := ⟨(Lib.indexByte u 34).toNat, by omega⟩
            have hkl := indexByte_lt _ _ _ hk
            rw [hk]
            simp only [Int.toNat_natCast]
            rw [hs _ _ (by simp; omega)]
        · unfold signedR
          have e1 : sgAt (c :: u ++ [41]) 0 = sgAt (c :: u) 0 := by
            unfold sgAt
            simp only [List.drop_zero]
            have p1 := pre_app c u [58, 61] (by simp [sgL])
            have p2 := pre_app c u [33, 61] (by simp [sgL])
            have p3 := pre_app c u [60, 61] (by simp [sgL])
            simp only [sgL, List.find?_cons, p1, p2, p3, List.find?_nil]
          have e2 : (c :: u ++ [41])[0]? = (c :: u)[0]? := rfl
          rw [e1, e2, hs _ _ (by simp)]
theorem next_paren (u : List UInt8) : nextR (40 :: u) 0 40 = some (.word ⟨4, [40], 0, 0⟩ 1) := by
  have e : sgAt (40 :: u) 0 = none := by
    simp [sgAt, sgL, pre]
  have h1 : spaces.contains 40 = false := by decide
  have h2 : headB ((40 : UInt8).toNat : Int) = false := by decide
  have h3 : digB ((40 : UInt8).toNat : Int) = false := by decide
  have h4 : (((40 : UInt8).toNat : Int) == 34) = false := by decide
  have h5 : signsT.contains 40 = true := by decide
  unfold nextR signedR
  simp only [h1, h2, h3, h4, e, List.getElem?_cons_zero, h5, if_true, Bool.false_eq_true, if_false]
  rfl
theorem lexU_app : ∀ (f : Nat) (u : List UInt8) (p : Nat) (l : List Tk), u.length < f → lexU f u p = .ok l →
    ∃ more, l = more ++ [⟨5, [], 0, ((p + u.length : Nat) : Int)⟩] ∧ lexU (f + 1) (u ++ [41]) (p + 1) = .ok (more.map (fun t => { t with p := t.p + 1 }) ++ [⟨4, [41], 0, ((p + 1 + u.length : Nat) : Int)⟩, ⟨5, [], 0, ((p + 2 + u.length : Nat) : Int)⟩])
  | 0, u, p, l, h, _ => by omega
  | f + 1, [], p, l, _, h => by
    simp only [lexU] at h
    cases h
    refine ⟨[], by simp, ?_⟩
    have h0 : nextR [41] 0 41 = some (.word ⟨4, [41], 0, 0⟩ 1) := by rfl
    simp only [List.nil_append, lexU, h0]
    simp [lexU, Tk.at]
    omega
  | f + 1, c :: u, p, l, hf, h => by
    simp only [List.length_cons] at hf
    simp only [lexU] at h
    have hap := next_app c u
    simp only [List.cons_append] at hap
    cases hn : nextR (c :: u) 0 c with
    | none =>
      rw [hn] at h hap
      obtain ⟨more, e1, e2⟩ := lexU_app f u (p + 1) l (by omega) h
      refine ⟨more, by rw [e1]; simp; omega, ?_⟩
      simp only [List.cons_append]
      rw [lexU]
      simp only [hap]
      rw [e2]
      simp
      omega
    | some r =>
      rw [hn] at h hap
      cases r with
      | err e => cases h
      | word t to =>
        simp only at h
        obtain ⟨h3, h4⟩ := next_to hn
        split at h
        · rename_i l' hl'
          cases h
          have hlen : ((c :: u).drop to).length = u.length + 1 - to := by simp
          obtain ⟨more, e1, e2⟩ := lexU_app f _ (p + to) l' (by rw [hlen]; omega) hl'
          refine ⟨t.at p :: more, by rw [e1]; simp [hlen]; omega, ?_⟩
          simp only [List.cons_append]
          rw [lexU]
          simp only [hap]
          have ed : (c :: (u ++ [41])).drop to = (c :: u).drop to ++ [41] := by
            rw [show c :: (u ++ [41]) = (c :: u) ++ [41] from rfl, List.drop_append_of_le_length (by simpa using h4)]
          rw [ed, show p + 1 + to = p + to + 1 by omega, e2]
          simp [Tk.at, hlen]
          omega
        · cases h
/-- a text in parentheses -/
theorem lexAll_paren {s : List UInt8} {l : List Tk} (h : lexAll s = .ok l) (hl : s.length + 2 ≤ 4096) : ∃ more, l = more ++ [⟨5, [], 0, (s.length : Int)⟩] ∧
    lexAll (40 :: s ++ [41]) = .ok (⟨4, [40], 0, 0⟩ :: more.map (fun t => { t with p := t.p + 1 }) ++ [⟨4, [41], 0, ((1 + s.length : Nat) : Int)⟩, ⟨5, [], 0, ((2 + s.length : Nat) : Int)⟩]) := by
  rw [lexAll_U] at h
  rw [if_neg (by omega)] at h
  obtain ⟨more, e1, e2⟩ := lexU_app _ s 0 l (by omega) h
  refine ⟨more, by simpa using e1, ?_⟩
  rw [lexAll_U, if_neg (by simp; omega)]
  have hlen : (40 :: s ++ [41]).length + 1 = (s.length + 1 + 1) + 1 := by simp
  rw [hlen, List.cons_append, lexU, next_paren]
  simp only [List.drop_one, List.tail_cons, Nat.zero_add] at e2 ⊢
  rw [e2]
  simp [Tk.at]
end Go.Proofs.YtemggoaefohliaaGreatDoor.LX
/- Words, one behind the other, lexed. No condition. -/
namespace Go.Proofs.YtemggoaefohliaaGreatDoor.LX
set_option linter.unusedVariables false
set_option linter.unusedSimpArgs false
open Go AE EX PT NF PS
set_option maxRecDepth 100000

/-- a word ahead of what is lexed -/
def consL (t : Tk) : Except (Int × Nat) (List Tk) → Except (Int × Nat) (List Tk)
  | .ok l => .ok (t :: l)
  | .error e => .error e
theorem lexU_word {f : Nat} {c : UInt8} {u : List UInt8} {p to : Nat} {t : Tk} (h : nextR (c :: u) 0 c = some (.word t to)) : lexU (f + 1) (c :: u) p = consL (t.at p) (lexU f ((c :: u).drop to) (p + to)) := by
  rw [lexU, h]
  simp only
  split <;> rename_i h1 <;> simp [consL, h1]
theorem lexU_sp (f : Nat) (u : List UInt8) (p : Nat) : lexU (f + 1) (32 :: u) p = lexU f u (p + 1) := by
  rw [lexU]
  have : nextR (32 :: u) 0 32 = none := by
    unfold nextR
    rw [if_pos (by decide)]
  rw [this]
theorem lexU_nil (f : Nat) (p : Nat) : lexU (f + 1) [] p = .ok [⟨5, [], 0, p⟩] := rfl

theorem head_facts (c : UInt8) (h : headB (c.toNat : Int) = true) : spaces.contains c = false ∧ tl c = true := by
  refine ⟨?_, by simp [tl, tailB, h]⟩
  cases hc : spaces.contains c with
  | false => rfl
  | true =>
    have hm := List.contains_iff_mem.1 hc
    simp only [spaces, List.mem_cons, List.not_mem_nil, or_false] at hm
    rcases hm with rfl | rfl | rfl | rfl <;> (exfalso; revert h; decide)
/-- a name, ahead of what is none -/
theorem lexU_name {f : Nat} {w rest : List UInt8} {p : Nat} (hw : nameB w = true) (hr : ∀ c v, rest = c :: v → tl c = false) : lexU (f + 1) (w ++ rest) p = consL ⟨1, w, 0, p⟩ (lexU f rest (p + w.length)) := by
  cases w with
  | nil => cases hw
  | cons c r =>
    simp only [nameB, Bool.and_eq_true, decide_eq_true_eq] at hw
    obtain ⟨⟨h1, h2⟩, h3⟩ := hw
    obtain ⟨h4, h5⟩ := head_facts c h2
    have htw : ((c :: r) ++ rest).takeWhile tl = c :: r := by
      have : ∀ l : List UInt8, l.all tl = true → (l ++ rest).takeWhile tl = l := by
        intro l
        induction l with
        | nil =>
          intro _
          cases rest with
          | nil => rfl
          | cons d v => simp [List.takeWhile, hr d v rfl]
        | cons d l ih =>
          intro hl
          simp only [List.all_cons, Bool.and_eq_true] at hl
          simp only [List.cons_append, List.takeWhile, hl.1, ih hl.2]
      exact this (c :: r) (by simp [h5, h3])
    have hf : far (c :: (r ++ rest)) 0 = r.length + 1 := by
      simp only [far, List.drop_zero]
      have := congrArg List.length htw
      simp only [List.cons_append, List.length_cons] at this
      omega
    have hn : nextR (c :: (r ++ rest)) 0 c = some (.word ⟨1, c :: r, 0, 0⟩ (r.length + 1)) := by
      unfold nextR
      rw [if_neg (by rw [h4]; simp)]
      simp only [h2, if_true]
      unfold namedR
      rw [hf, if_neg (by omega)]
      simp only [sub, List.drop_zero, List.take_succ_cons]
      have : (r ++ rest).take r.length = r := by simp
      rw [this]
      rfl
    rw [List.cons_append, lexU_word hn]
    simp [Tk.at]
/-- a sign of one letter -/
theorem lexU_sign {f : Nat} {c : UInt8} {rest : List UInt8} {p : Nat} (hc : c ∈ signsT) (hr : c = 60 → ∀ v, rest ≠ 61 :: v) : lexU (f + 1) (c :: rest) p = consL ⟨4, [c], 0, p⟩ (lexU f rest (p + 1)) := by
  have hs : sgAt (c :: rest) 0 = none := by
    have h1 : c ≠ 58 ∧ c ≠ 33 := by
      simp only [signsT, List.mem_cons, List.not_mem_nil, or_false] at hc
      rcases hc with rfl | rfl | rfl | rfl | rfl | rfl | rfl | rfl | rfl | rfl | rfl | rfl | rfl | rfl <;> decide
    have p1 : pre (c :: rest) [58, 61] = false := by
      cases rest <;> simp [pre, h1.1]
    have p2 : pre (c :: rest) [33, 61] = false := by
      cases rest <;> simp [pre, h1.2]
    have p3 : pre (c :: rest) [60, 61] = false := by
      cases rest with
      | nil => simp [pre]
      | cons d v =>
        simp only [pre, List.take_succ_cons, List.take_zero, List.length_cons, List.length_nil]
        by_cases h6 : c = 60
        · have : d ≠ 61 := fun e => hr h6 v (by rw [e])
          simp [this]
        · simp [h6]
    simp only [sgAt, List.drop_zero, sgL, List.find?_cons, p1, p2, p3, List.find?_nil]
  have hn : nextR (c :: rest) 0 c = some (.word ⟨4, [c], 0, 0⟩ 1) := by
    have h3 : ∀ c ∈ signsT, spaces.contains c = false ∧ headB (c.toNat : Int) = false ∧ digB (c.toNat : Int) = false ∧ ((c.toNat : Int) == 34) = false ∧ signsT.contains c = true := by decide
    obtain ⟨k1, k2, k3, k4, k5⟩ := h3 c hc
    unfold nextR signedR
    simp only [k1, k2, k3, k4, hs, List.getElem?_cons_zero, k5, if_true, Bool.false_eq_true, if_false]
    rfl
  rw [lexU_word hn]
  simp [Tk.at]
/-- a sign of two letters -/
theorem lexU_sign2 {f : Nat} {q : List UInt8} {rest : List UInt8} {p : Nat} (hq : q ∈ sgL) : lexU (f + 1) (q ++ rest) p = consL ⟨4, q, 0, p⟩ (lexU f rest (p + 2)) := by
  simp only [sgL, List.mem_cons, List.not_mem_nil, or_false] at hq
  have key : ∀ c, c = 58 ∨ c = 33 ∨ c = 60 → nextR (c :: 61 :: rest) 0 c = some (.word ⟨4, [c, 61], 0, 0⟩ 2) := by
    intro c hc
    have hs : sgAt (c :: 61 :: rest) 0 = some [c, 61] := by
      rcases hc with rfl | rfl | rfl <;> simp [sgAt, sgL, pre]
    have h3 : spaces.contains c = false ∧ headB (c.toNat : Int) = false ∧ digB (c.toNat : Int) = false ∧ ((c.toNat : Int) == 34) = false := by
      rcases hc with rfl | rfl | rfl <;> decide
    obtain ⟨k1, k2, k3, k4⟩ := h3
    unfold nextR signedR
    simp only [k1, k2, k3, k4, hs, Bool.false_eq_true, if_false]
    rfl
  rcases hq with rfl | rfl | rfl <;> (simp only [List.cons_append, List.nil_append]; rw [lexU_word (key _ (by simp))]; simp [Tk.at])
end Go.Proofs.YtemggoaefohliaaGreatDoor.LX
/- Expressions as texts, evaluated (made by genpc.py). No condition. -/
namespace Go.Proofs.YtemggoaefohliaaGreatDoor.PT
set_option linter.unusedVariables false
set_option linter.unusedSimpArgs false
open Go AE EX
set_option maxRecDepth 100000


/-! ### the page's -/
noncomputable def rLoop : Code := cutC (bodyOf Tryz.f60) [1, 1, 1, 0, 1, 0, 0]
noncomputable def r0 : Code := cutC (bodyOf Tryz.f60) [0]
noncomputable def r1 : Code := cutC (bodyOf Tryz.f60) [1, 0]
noncomputable def r2 : Code := cutC (bodyOf Tryz.f60) [1, 1, 0]
noncomputable def r3 : Code := cutC (bodyOf Tryz.f60) [1, 1, 1, 0, 0]
noncomputable def r4 : Code := cutC (bodyOf Tryz.f60) [1, 1, 1, 1]
theorem f31b : Tryz.f60.body = some (.seq r0 (.seq r1 (.seq r2 (.seq (.seq r3 (.block 0 (.loop rLoop))) r4)))) := rfl

theorem rdec_round (n : Nat) (a : Int) (ha : in64 a) (S0 : St) (m : Nat) (fs : FS) (h : RI a S0 m fs) :
    ∃ o fs', evCode ⟨Tryz.prog, E.esc 60, n⟩ (ev Tryz.prog E n) (E.ps 60) n rLoop fs = some (o, fs') ∧ ((o = .norm ∧ ∃ m', m' < m ∧ RI a S0 m' fs') ∨ (o ≠ .norm ∧ RQ a S0 (o, fs'))) := by
  obtain ⟨t, b, v, S⟩ := fs
  obtain ⟨u, l, h0, h1, h2, h3, h4, h5, h6⟩ := h
  simp at h0 h1 h3 h6
  subst h6
  unfold in64 at ha h2
  by_cases hu : u = 0
  · subst hu
    refine ⟨.exit 0, _, by
      simp [AV.cells?, AV.isCell, rLoop, cutC, bodyOf, Tryz.f60, h0, h1, bq2]
      rfl, .inr ⟨by simp, rfl, by simp [upd, h0], ?_, rfl⟩⟩
    simp [upd, h3]; simpa using h4
  · have hun : (u != 0) = true := by simp [hu]
    rw [if_neg hu] at h4 h5
    have hl : l.length ≤ 1000 := by
      have := congrArg List.length h4
      have h7 := dg_len20 (u := a.natAbs) (by omega)
      simp at this
      omega
    have e2 : in64 (u.tdiv 10) ∧ (u.tdiv 10).natAbs = u.natAbs / 10 := by
      refine ⟨?_, by rw [Int.natAbs_tdiv]; rfl⟩
      have : (u.tdiv 10).natAbs = u.natAbs / 10 := by rw [Int.natAbs_tdiv]; rfl
      unfold in64; omega
    have e1 : (u.tmod 10).natAbs = u.natAbs % 10 := by rw [Int.natAbs_tmod]; rfl
    have w3 : IntKind.i64.wrap (u.tdiv 10) = u.tdiv 10 := wrap64 _ (by have := e2.1; unfold in64 at this; omega)
    have fin : ∃ fs', evCode ⟨Tryz.prog, E.esc 60, n⟩ (ev Tryz.prog E n) (E.ps 60) n rLoop ⟨t, b, v, S⟩ = some (.norm, fs') ∧ fs'.t 0 = .int .i64 a ∧ fs'.t 4 = .int .i64 (u.tdiv 10) ∧ fs'.t 3 = .str (dig (u.natAbs % 10) :: l) ∧ fs'.S = S := by
      by_cases hm : u.tmod 10 < 0
      · have w0 : IntKind.i64.wrap (-(u.tmod 10)) = (u.natAbs % 10 : Nat) := by rw [wrap64 _ (by omega)]; omega
        have w1 : IntKind.i64.wrap (48 + ((u.natAbs % 10 : Nat) : Int)) = 48 + ((u.natAbs % 10 : Nat) : Int) := wrap64 _ (by omega)
        have w2 : IntKind.u8.wrap (48 + ((u.natAbs % 10 : Nat) : Int)) = ((dig (u.natAbs % 10)).toNat : Int) := by
          rw [wrapu8 _ (by omega), dig_nat (by omega)]; omega
        refine ⟨_, by
          simp [AV.cells?, AV.isCell, rLoop, cutC, bodyOf, Tryz.f60, h0, h1, h3, hun, bq2, hm, -Int.natCast_emod, -Int.natCast_ediv, w0, w1, w2, w3, iq2, iq5, sq54, z5, c5, a5, sq9, bytesOf, show l.length + 1 ≤ 4611686018427387904 by omega, show 1 + l.length ≤ 4611686018427387904 by omega]
          rfl, by simp [upd, h0], by simp [upd], by simp [upd], rfl⟩
      · have w0 : u.tmod 10 = (u.natAbs % 10 : Nat) := by omega
        have w1 : IntKind.i64.wrap (48 + ((u.natAbs % 10 : Nat) : Int)) = 48 + ((u.natAbs % 10 : Nat) : Int) := wrap64 _ (by omega)
        have w2 : IntKind.u8.wrap (48 + ((u.natAbs % 10 : Nat) : Int)) = ((dig (u.natAbs % 10)).toNat : Int) := by
          rw [wrapu8 _ (by omega), dig_nat (by omega)]; omega
        have hm0 : ¬ ((u.natAbs % 10 : Nat) : Int) < 0 := by omega
        refine ⟨_, by
          simp [AV.cells?, AV.isCell, rLoop, cutC, bodyOf, Tryz.f60, h0, h1, h3, hun, bq2, w0, hm0, -Int.natCast_emod, -Int.natCast_ediv, w1, w2, w3, iq2, iq5, sq54, z5, c5, a5, sq9, bytesOf, show l.length + 1 ≤ 4611686018427387904 by omega, show 1 + l.length ≤ 4611686018427387904 by omega]
          rfl, by simp [upd, h0], by simp [upd], by simp [upd], rfl⟩
    obtain ⟨fs', g1, g2, g3, g4, g5⟩ := fin
    refine ⟨.norm, fs', g1, .inl ⟨rfl, _, ?_, u.tdiv 10, dig (u.natAbs % 10) :: l, g2, g3, e2.1, g4, ?_, rfl, g5⟩⟩
    · rw [h5]
      split
      · have := dg_pos u.natAbs; omega
      · rename_i hne
        rw [e2.2, dg_ge (u := u.natAbs) (by omega)]; simp
    · rw [← h4]
      split
      · rename_i hz
        rw [dg_lt (by omega), show u.natAbs % 10 = u.natAbs by omega]; rfl
      · rw [e2.2, dg_ge (u := u.natAbs) (by omega)]; simp

theorem ev_rdec (n : Nat) (hn : 30 ≤ n) (a : Int) (ha : in64 a) (S : St) : ev Tryz.prog E (n + 1) 60 [.int .i64 a] S = some (.ret (.str (dec a)), S) := by
  have ha' := ha
  unfold in64 at ha'
  rw [ev_enter (n := n) (show E.ok 60 = true from rfl) Tryz.func60 f31b (Nat.le_of_ble_eq_true rfl) (by decide +kernel)]
  by_cases h0 : a = 0
  · subst h0
    have hd : dec 0 = [48] := by simp [dec, dg_lt, dig]
    rw [hd]
    simp [AV.cells?, AV.isCell, r0, r1, r2, r3, r4, cutC, bodyOf, Tryz.f60, bq2, fin_str]
  have hlen : (dg a.natAbs).length ≤ 20 := dg_len20 (by omega)
  have key : ∀ fs, RI a S (dg a.natAbs).length fs → ∃ r, iter n (evCode ⟨Tryz.prog, E.esc 60, n⟩ (ev Tryz.prog E n) (E.ps 60) n rLoop) fs = some r ∧ RQ a S r := fun fs h =>
    iter_meas (fun m fs h => rdec_round n a ha S m fs h) (dg a.natAbs).length n fs (by omega) h
  obtain ⟨F, hF⟩ := skolemR key
  have h0' : (a == 0) = false := by simp [h0]
  have hfs := hF ⟨upd 4 (.int .i64 a) (upd 8 (.int .i64 a) (upd 3 (.str []) (upd 7 (.bool false) (upd 6 (.int .i64 a) (upd 2 (.str []) (argsA [.int .i64 a])))))), fun _ => (0, []), 6, S⟩
    ⟨a, [], by simp [upd, argsA], by simp [upd], ha, by simp [upd], by simp [h0], by simp [h0], rfl⟩
  obtain ⟨hr, hq1, q0, q1, q2⟩ := hfs
  generalize F _ = r at *
  obtain ⟨o, t, b, v, S'⟩ := r
  simp at hq1 q0 q1 q2
  subst hq1 q2
  by_cases h : a < 0
  · have hd : dec a = 45 :: dg a.natAbs := by simp [dec, h]
    simp [AV.cells?, AV.isCell, r0, r1, r2, r3, r4, cutC, bodyOf, Tryz.f60, hr, q0, q1, bq2, h, h0', hd, fin_str, show (dg a.natAbs).length + 1 ≤ 4611686018427387904 by omega, show 1 + (dg a.natAbs).length ≤ 4611686018427387904 by omega]
  · have hd : dec a = dg a.natAbs := by simp [dec, h]
    simp [AV.cells?, AV.isCell, r0, r1, r2, r3, r4, cutC, bodyOf, Tryz.f60, hr, q0, q1, bq2, h, h0', hd, fin_str]
end Go.Proofs.YtemggoaefohliaaGreatDoor.PT
/- Expressions as texts, evaluated (made by genpc.py). No condition. -/
namespace Go.Proofs.YtemggoaefohliaaGreatDoor.PT
set_option linter.unusedVariables false
set_option linter.unusedSimpArgs false
open Go AE EX
set_option maxRecDepth 100000


theorem dec_len {a : Int} (h : in64 a) : (dec a).length ≤ 21 := by
  unfold in64 at h
  have := dg_len20 (u := a.natAbs) (by omega)
  unfold dec
  split <;> simp <;> omega

/-- a span's text -/
def spanT (lo hi : Int) : List UInt8 := 91 :: dec lo ++ 44 :: (if hi = -1 then [42] else dec hi) ++ [93]

theorem ev_Span (n : Nat) (hn : 31 ≤ n) (lo hi : Int) (h1 : in64 lo) (h2 : in64 hi) (S : St) : ev Tryz.prog E (n + 1) 30 [.int .i64 lo, .int .i64 hi] S = some (.ret (.str (spanT lo hi)), S) := by
  obtain ⟨n, rfl⟩ : ∃ k, n = k + 1 := ⟨n - 1, by omega⟩
  have d1 := ev_dec n (by omega) lo h1 S
  have d2 := ev_dec n (by omega) hi h2 S
  have l1 := dec_len h1
  have l2 := dec_len h2
  rw [ev_enter (n := n + 1) (show E.ok 30 = true from rfl) Tryz.func30 (fn := Tryz.f30) rfl (Nat.le_of_ble_eq_true rfl) (by decide +kernel)]
  by_cases h : hi = -1
  · have h' : (hi != -1) = false := by simp [h]
    subst h
    simp (disch := first | (simp only [List.length_append, List.length_cons, List.length_nil]; omega) | (simp; done) | assumption) [AV.cells?, AV.isCell, Tryz.f30, bq9, bq2, d1, h', spanT]
  · have h' : (hi != -1) = true := by simp [h]
    simp (disch := first | (simp only [List.length_append, List.length_cons, List.length_nil]; omega) | (simp; done) | assumption) [AV.cells?, AV.isCell, Tryz.f30, bq9, bq2, d1, d2, h', h, spanT]
theorem ev_rSpan (n : Nat) (hn : 31 ≤ n) (lo hi : Int) (h1 : in64 lo) (h2 : in64 hi) (S : St) : ev Tryz.prog E (n + 1) 61 [.int .i64 lo, .int .i64 hi] S = some (.ret (.str (spanT lo hi)), S) := by
  obtain ⟨n, rfl⟩ : ∃ k, n = k + 1 := ⟨n - 1, by omega⟩
  have d1 := ev_rdec n (by omega) lo h1 S
  have d2 := ev_rdec n (by omega) hi h2 S
  have l1 := dec_len h1
  have l2 := dec_len h2
  rw [ev_enter (n := n + 1) (show E.ok 61 = true from rfl) Tryz.func61 (fn := Tryz.f61) rfl (Nat.le_of_ble_eq_true rfl) (by decide +kernel)]
  by_cases h : hi = -1
  · have h' : (hi == -1) = true := by simp [h]
    subst h
    simp (disch := first | (simp only [List.length_append, List.length_cons, List.length_nil]; omega) | (simp; done) | assumption) [AV.cells?, AV.isCell, Tryz.f61, bq9, bq2, d1, h', spanT]
  · have h' : (hi == -1) = false := by simp [h]
    simp (disch := first | (simp only [List.length_append, List.length_cons, List.length_nil]; omega) | (simp; done) | assumption) [AV.cells?, AV.isCell, Tryz.f61, bq9, bq2, d1, d2, h', h, spanT]

def quoteT (s : List UInt8) : List UInt8 := 34 :: s ++ [34]
theorem ev_Quote (n : Nat) (s : List UInt8) (hs : s.length ≤ 1099511627776) (S : St) : ev Tryz.prog E (n + 1) 29 [.str s] S = some (.ret (.str (quoteT s)), S) := by
  rw [ev_enter (n := n) (show E.ok 29 = true from rfl) Tryz.func29 (fn := Tryz.f29) rfl (Nat.le_of_ble_eq_true rfl) (by decide +kernel)]
  simp (disch := first | (simp only [List.length_append, List.length_cons, List.length_nil]; omega) | (simp; done) | assumption) [AV.cells?, AV.isCell, Tryz.f29, bq9, quoteT]
end Go.Proofs.YtemggoaefohliaaGreatDoor.PT
/- Expressions as texts, evaluated (made by genpc.py). No condition. -/
namespace Go.Proofs.YtemggoaefohliaaGreatDoor.PT
set_option linter.unusedVariables false
set_option linter.unusedSimpArgs false
open Go AE EX
set_option maxRecDepth 100000


def wordT (k : Int) : List UInt8 := if k = 12 then [108, 101, 110] else if k = 25 then [112, 114, 101, 118] else if k = 22 then [111, 110, 99, 101] else if k = 23 then [104, 105, 115, 116] else [115, 105, 110, 99, 101]
def signT (k : Int) : List UInt8 := if k = 8 then [43] else if k = 9 then [45] else if k = 10 then [42] else if k = 14 then [61] else if k = 15 then [60] else if k = 16 then [60, 61] else if k = 17 then [105, 110] else if k = 19 then [97, 110, 100] else [111, 114]
def leafT (k : Int) (nm : List UInt8) (n hi : Int) : List UInt8 :=
  if k = 1 then dec n else if k = 2 then (if n = 0 then [102, 97, 108, 115, 101] else [116, 114, 117, 101]) else if k = 3 then quoteT nm else if k = 5 then 115 :: 46 :: nm else if k = 6 then 111 :: 46 :: nm else
  if k = 13 then [116, 105, 109, 101, 115, 40] ++ nm ++ [44, 32] ++ dec hi ++ [41] else if k = 21 then [97, 99, 116, 40] ++ nm ++ [41] else [110, 111, 119]

theorem ev_word (n : Nat) (k : Int) (hk : k = 12 ∨ k = 25 ∨ k = 22 ∨ k = 23 ∨ k = 24) (S : St) : ev Tryz.prog E (n + 1) 41 [.int .i64 k] S = some (.ret (.str (wordT k)), S) := by
  rw [ev_enter (n := n) (show E.ok 41 = true from rfl) Tryz.func41 (fn := Tryz.f41) rfl (Nat.le_of_ble_eq_true rfl) (by decide +kernel)]
  rcases hk with rfl | rfl | rfl | rfl | rfl <;> simp (disch := first | (simp only [List.length_append, List.length_cons, List.length_nil]; omega) | (simp; done) | assumption) [AV.cells?, AV.isCell, Tryz.f41, bq3, wordT]

theorem ev_sign (n : Nat) (k : Int) (hk : k = 8 ∨ k = 9 ∨ k = 10 ∨ k = 14 ∨ k = 15 ∨ k = 16 ∨ k = 17 ∨ k = 19 ∨ k = 20) (S : St) : ev Tryz.prog E (n + 1) 42 [.int .i64 k] S = some (.ret (.str (signT k)), S) := by
  rw [ev_enter (n := n) (show E.ok 42 = true from rfl) Tryz.func42 (fn := Tryz.f42) rfl (Nat.le_of_ble_eq_true rfl) (by decide +kernel)]
  rcases hk with rfl | rfl | rfl | rfl | rfl | rfl | rfl | rfl | rfl <;> simp (disch := first | (simp only [List.length_append, List.length_cons, List.length_nil]; omega) | (simp; done) | assumption) [AV.cells?, AV.isCell, Tryz.f42, bq3, signT]

def isLeaf (k : Int) : Prop := k = 1 ∨ k = 2 ∨ k = 3 ∨ k = 5 ∨ k = 6 ∨ k = 7 ∨ k = 13 ∨ k = 21

theorem ev_leaf (m : Nat) (hm : 31 ≤ m) (k : Int) (nm : List UInt8) (n lo hi : Int) (ks : AV) (hks : ks.isCell = true) (hk : isLeaf k) (h1 : in64 n) (h2 : in64 hi) (hl : nm.length ≤ 1099511627776) (S : St) :
    ev Tryz.prog E (m + 1) 43 [.agg [.int .i64 k, .str nm, .int .i64 n, .int .i64 lo, .int .i64 hi, ks]] S = some (.ret (.str (leafT k nm n hi)), S) := by
  obtain ⟨m, rfl⟩ : ∃ k, m = k + 1 := ⟨m - 1, by omega⟩
  have d1 := ev_dec m (by omega) n h1 S
  have d2 := ev_dec m (by omega) hi h2 S
  have q1 := ev_Quote m nm hl S
  have l2 := dec_len h2
  rw [ev_enter (n := m + 1) (show E.ok 43 = true from rfl) Tryz.func43 (fn := Tryz.f43) rfl (Nat.le_of_ble_eq_true rfl) (by decide +kernel)]
  have hp : E.ps 43 15 = [(1, 5), (1, 6)] := rfl
  rcases hk with rfl | rfl | rfl | rfl | rfl | rfl | rfl | rfl
  · simp (disch := first | (simp only [List.length_append, List.length_cons, List.length_nil]; omega) | (simp; done) | assumption) [AV.cells?, AV.isCell, Tryz.f43, E_esc, c24, a24, k24, fq0, fq1, fq2, fq4, k3, c3, a3, k2, c2, a2, k9, a9, c9, hks, -AV.isCell, leafT, d1]
  · by_cases h : n = 0
    · subst h
      simp (disch := first | (simp only [List.length_append, List.length_cons, List.length_nil]; omega) | (simp; done) | assumption) [AV.cells?, AV.isCell, Tryz.f43, E_esc, c24, a24, k24, fq0, fq1, fq2, fq4, k3, c3, a3, k2, c2, a2, k9, a9, c9, hks, -AV.isCell, leafT]
    · have h' : (n == 0) = false := by simp [h]
      simp (disch := first | (simp only [List.length_append, List.length_cons, List.length_nil]; omega) | (simp; done) | assumption) [AV.cells?, AV.isCell, Tryz.f43, E_esc, c24, a24, k24, fq0, fq1, fq2, fq4, k3, c3, a3, k2, c2, a2, k9, a9, c9, hks, -AV.isCell, leafT, h, h']
  · simp (disch := first | (simp only [List.length_append, List.length_cons, List.length_nil]; omega) | (simp; done) | assumption) [AV.cells?, AV.isCell, Tryz.f43, E_esc, c24, a24, k24, fq0, fq1, fq2, fq4, k3, c3, a3, k2, c2, a2, k9, a9, c9, hks, -AV.isCell, leafT, q1]
  · simp (disch := first | (simp only [List.length_append, List.length_cons, List.length_nil]; omega) | (simp; done) | assumption) [AV.cells?, AV.isCell, Tryz.f43, E_esc, c24, a24, k24, fq0, fq1, fq2, fq4, k3, c3, a3, k2, c2, a2, k9, a9, c9, hks, -AV.isCell, leafT]
  · simp (disch := first | (simp only [List.length_append, List.length_cons, List.length_nil]; omega) | (simp; done) | assumption) [AV.cells?, AV.isCell, Tryz.f43, E_esc, c24, a24, k24, fq0, fq1, fq2, fq4, k3, c3, a3, k2, c2, a2, k9, a9, c9, hks, -AV.isCell, leafT]
  · simp (disch := first | (simp only [List.length_append, List.length_cons, List.length_nil]; omega) | (simp; done) | assumption) [AV.cells?, AV.isCell, Tryz.f43, E_esc, c24, a24, k24, fq0, fq1, fq2, fq4, k3, c3, a3, k2, c2, a2, k9, a9, c9, hks, -AV.isCell, leafT]
  · simp (disch := first | (simp only [List.length_append, List.length_cons, List.length_nil]; omega) | (simp; done) | assumption) [AV.cells?, AV.isCell, Tryz.f43, E_esc, c24, a24, k24, fq0, fq1, fq2, fq4, k3, c3, a3, k2, c2, a2, k9, a9, c9, hks, -AV.isCell, leafT, d2, hp]
  · simp (disch := first | (simp only [List.length_append, List.length_cons, List.length_nil]; omega) | (simp; done) | assumption) [AV.cells?, AV.isCell, Tryz.f43, E_esc, c24, a24, k24, fq0, fq1, fq2, fq4, k3, c3, a3, k2, c2, a2, k9, a9, c9, hks, -AV.isCell, leafT]
end Go.Proofs.YtemggoaefohliaaGreatDoor.PT
/- Expressions as texts, evaluated (made by genpc.py). No condition. -/
namespace Go.Proofs.YtemggoaefohliaaGreatDoor.PT
set_option linter.unusedVariables false
set_option linter.unusedSimpArgs false
open Go AE EX
set_option maxRecDepth 100000


theorem ev_rleaf (m : Nat) (hm : 31 ≤ m) (k : Int) (nm : List UInt8) (n lo hi : Int) (ks : AV) (hks : ks.isCell = true) (hk : isLeaf k) (hb : k = 2 → n = 0 ∨ n = 1) (h1 : in64 n) (h2 : in64 hi) (hl : nm.length ≤ 1099511627776) (S : St) :
    ev Tryz.prog E (m + 1) 37 [.agg [.int .i64 k, .str nm, .int .i64 n, .int .i64 lo, .int .i64 hi, ks]] S = some (.ret (.str (leafT k nm n hi)), S) := by
  obtain ⟨m, rfl⟩ : ∃ k, m = k + 1 := ⟨m - 1, by omega⟩
  have d1 := ev_rdec m (by omega) n h1 S
  have d2 := ev_rdec m (by omega) hi h2 S
  have l2 := dec_len h2
  rw [ev_enter (n := m + 1) (show E.ok 37 = true from rfl) Tryz.func37 (fn := Tryz.f37) rfl (Nat.le_of_ble_eq_true rfl) (by decide +kernel)]
  have hp : E.ps 37 14 = [(1, 5), (1, 6)] := rfl
  rcases hk with rfl | rfl | rfl | rfl | rfl | rfl | rfl | rfl
  · simp (disch := first | (simp only [List.length_append, List.length_cons, List.length_nil]; omega) | (simp; done) | assumption) [AV.cells?, AV.isCell, Tryz.f37, E_esc, c24, a24, k24, fq0, fq1, fq2, fq4, k3, c3, a3, k2, c2, a2, k9, a9, c9, hks, -AV.isCell, leafT, d1]
  · rcases hb rfl with rfl | rfl <;> simp (disch := first | (simp only [List.length_append, List.length_cons, List.length_nil]; omega) | (simp; done) | assumption) [AV.cells?, AV.isCell, Tryz.f37, E_esc, c24, a24, k24, fq0, fq1, fq2, fq4, k3, c3, a3, k2, c2, a2, k9, a9, c9, hks, -AV.isCell, leafT]
  · simp (disch := first | (simp only [List.length_append, List.length_cons, List.length_nil]; omega) | (simp; done) | assumption) [AV.cells?, AV.isCell, Tryz.f37, E_esc, c24, a24, k24, fq0, fq1, fq2, fq4, k3, c3, a3, k2, c2, a2, k9, a9, c9, hks, -AV.isCell, leafT, quoteT]
  · simp (disch := first | (simp only [List.length_append, List.length_cons, List.length_nil]; omega) | (simp; done) | assumption) [AV.cells?, AV.isCell, Tryz.f37, E_esc, c24, a24, k24, fq0, fq1, fq2, fq4, k3, c3, a3, k2, c2, a2, k9, a9, c9, hks, -AV.isCell, leafT]
  · simp (disch := first | (simp only [List.length_append, List.length_cons, List.length_nil]; omega) | (simp; done) | assumption) [AV.cells?, AV.isCell, Tryz.f37, E_esc, c24, a24, k24, fq0, fq1, fq2, fq4, k3, c3, a3, k2, c2, a2, k9, a9, c9, hks, -AV.isCell, leafT]
  · simp (disch := first | (simp only [List.length_append, List.length_cons, List.length_nil]; omega) | (simp; done) | assumption) [AV.cells?, AV.isCell, Tryz.f37, E_esc, c24, a24, k24, fq0, fq1, fq2, fq4, k3, c3, a3, k2, c2, a2, k9, a9, c9, hks, -AV.isCell, leafT]
  · simp (disch := first | (simp only [List.length_append, List.length_cons, List.length_nil]; omega) | (simp; done) | assumption) [AV.cells?, AV.isCell, Tryz.f37, E_esc, c24, a24, k24, fq0, fq1, fq2, fq4, k3, c3, a3, k2, c2, a2, k9, a9, c9, hks, -AV.isCell, leafT, d2, hp]
  · simp (disch := first | (simp only [List.length_append, List.length_cons, List.length_nil]; omega) | (simp; done) | assumption) [AV.cells?, AV.isCell, Tryz.f37, E_esc, c24, a24, k24, fq0, fq1, fq2, fq4, k3, c3, a3, k2, c2, a2, k9, a9, c9, hks, -AV.isCell, leafT]

/-- what stands ahead of kids in parentheses -/
def frontT (k lo hi : Int) : List UInt8 := if k = 12 ∨ k = 25 then wordT k else wordT k ++ spanT lo hi
theorem spanT_len {lo hi : Int} (h1 : in64 lo) (h2 : in64 hi) : (spanT lo hi).length ≤ 45 := by
  have l1 := dec_len h1
  have l2 := dec_len h2
  unfold spanT
  split <;> simp <;> omega

theorem ev_front (m : Nat) (hm : 32 ≤ m) (k : Int) (nm : List UInt8) (n lo hi : Int) (ks : AV) (hks : ks.isCell = true) (hk : k = 12 ∨ k = 25 ∨ k = 22 ∨ k = 23 ∨ k = 24) (h1 : in64 lo) (h2 : in64 hi) (S : St) :
    ev Tryz.prog E (m + 1) 38 [.agg [.int .i64 k, .str nm, .int .i64 n, .int .i64 lo, .int .i64 hi, ks]] S = some (.ret (.str (frontT k lo hi)), S) := by
  obtain ⟨m, rfl⟩ : ∃ k, m = k + 1 := ⟨m - 1, by omega⟩
  have d1 := ev_rSpan m (by omega) lo hi h1 h2 S
  have l1 := spanT_len h1 h2
  rw [ev_enter (n := m + 1) (show E.ok 38 = true from rfl) Tryz.func38 (fn := Tryz.f38) rfl (Nat.le_of_ble_eq_true rfl) (by decide +kernel)]
  rcases hk with rfl | rfl | rfl | rfl | rfl <;> simp (disch := first | (simp only [List.length_append, List.length_cons, List.length_nil]; omega) | (simp; done) | assumption) [AV.cells?, AV.isCell, Tryz.f38, E_esc, c24, a24, k24, fq0, fq3, fq4, k3, c3, a3, k2, c2, a2, hks, -AV.isCell, frontT, wordT, d1]

theorem k58 : knownQ Tryz.prog 93 = true := by kernel_rfl
theorem a58 : aggQ Tryz.prog 93 = true := by kernel_rfl
theorem c58 : Tryz.prog.cellsOf 93 = 7 := by kernel_rfl
theorem aq58 : arrQ Tryz.prog 93 = some (7, 9) := by kernel_rfl
theorem sq58 : sliceQ Tryz.prog 93 = none := by kernel_rfl
theorem z58 : zeroQ Tryz.prog 93 = some [.str [], .str [], .str [], .str [], .str [], .str [], .str []] := by kernel_rfl
theorem i58 : (Tryz.prog.info? 93).isSome = true := by kernel_rfl
theorem i9 : (Tryz.prog.info? 9).isSome = true := by kernel_rfl
theorem ev_between (n : Nat) (k : Int) (hk : k = 8 ∨ k = 9 ∨ k = 10 ∨ k = 14 ∨ k = 15 ∨ k = 16 ∨ k = 17 ∨ k = 19 ∨ k = 20) (S : St) : ev Tryz.prog E (n + 1) 39 [.int .i64 k] S = some (.ret (.str (signT k)), S) := by
  have hb : evBuild Tryz.prog 93 [(0, .str [43]), (1, .str [45]), (2, .str [42]), (3, .str []), (4, .str []), (5, .str []), (6, .str [61])] = some (.agg [.str [43], .str [45], .str [42], .str [], .str [], .str [], .str [61]]) := by kernel_rfl
  have w : ∀ a : Int, (0 ≤ a ∧ a < 30) → IntKind.i64.wrap a = a := fun a h => wrap64 a (by omega)
  rw [ev_enter (n := n) (show E.ok 39 = true from rfl) Tryz.func39 (fn := Tryz.f39) rfl (Nat.le_of_ble_eq_true rfl) (by decide +kernel)]
  rcases hk with rfl | rfl | rfl | rfl | rfl | rfl | rfl | rfl | rfl <;> simp (disch := first | (simp only [List.length_append, List.length_cons, List.length_nil]; omega) | (simp; done) | assumption) [AV.cells?, AV.isCell, -evBuild, Tryz.f39, bq3, signT, hb, E_esc, z58, k58, c58, a58, aq58, sq58, i58, i9, k9, c9, a9, w]
end Go.Proofs.YtemggoaefohliaaGreatDoor.PT
/- Expressions as texts, evaluated (made by genpc.py). No condition. -/
namespace Go.Proofs.YtemggoaefohliaaGreatDoor.PT
set_option linter.unusedVariables false
set_option linter.unusedSimpArgs false
open Go AE EX
set_option maxRecDepth 100000


def joinT (l : List (List UInt8)) : List UInt8 := Lib.join l [44, 32]
def binT (k : Int) : List (List UInt8) → List UInt8
  | [a, b] => 40 :: a ++ 32 :: signT k ++ 32 :: b ++ [41]
  | _ => []
mutual
/-- as the page says -/
def _root_.Go.Proofs.YtemggoaefohliaaGreatDoor.EX.X.txt : X → List UInt8
  | .mk k nm n lo hi _ kids =>
    if k = 4 then 123 :: joinT (txtL kids) ++ [125] else if k = 11 then 45 :: joinT (txtL kids) else if k = 18 then [110, 111, 116, 32] ++ joinT (txtL kids) else
    if k = 12 ∨ k = 25 ∨ k = 22 ∨ k = 23 ∨ k = 24 then frontT k lo hi ++ 40 :: joinT (txtL kids) ++ [41] else
    if kids.length = 2 then binT k (txtL kids) else leafT k nm n hi
def txtL : List X → List (List UInt8)
  | [] => []
  | x :: l => x.txt :: txtL l
end
theorem txtL_map : ∀ l : List X, txtL l = l.map X.txt
  | [] => rfl
  | x :: l => by simp [txtL, txtL_map l]

theorem join_len (l : List (List UInt8)) : (joinT l).length ≤ Lib.lens l + 2 * l.length := by
  cases l with
  | nil => simp [joinT, Lib.join_nil]
  | cons x r => unfold joinT; rw [Lib.join_length]; simp; omega
theorem sign_len (k : Int) : (signT k).length ≤ 3 := by unfold signT; (repeat' split) <;> simp
theorem word_len (k : Int) : (wordT k).length ≤ 5 := by unfold wordT; (repeat' split) <;> simp
theorem front_len {k lo hi : Int} (h1 : in64 lo) (h2 : in64 hi) : (frontT k lo hi).length ≤ 50 := by
  have := word_len k
  have := spanT_len h1 h2
  unfold frontT
  split <;> simp <;> omega
theorem leaf_len {k n hi : Int} (nm : List UInt8) (h1 : in64 n) (h2 : in64 hi) : (leafT k nm n hi).length ≤ nm.length + 40 := by
  have := dec_len h1
  have := dec_len h2
  unfold leafT
  (repeat' split) <;> simp [quoteT] <;> omega
theorem bin_len (k : Int) : ∀ l : List (List UInt8), (binT k l).length ≤ Lib.lens l + 10
  | [a, b] => by have := sign_len k; simp [binT, Lib.lens]; omega
  | [] => by simp [binT]
  | [_] => by simp [binT]
  | _ :: _ :: _ :: _ => by simp [binT]
mutual
theorem txt_len : ∀ x : X, x.fit → x.txt.length + 2 ≤ 64 * x.bulk
  | .mk k nm n lo hi tk kids, hf => by
    obtain ⟨f1, f2, f3, f4, f5, f6⟩ := hf
    have h1 := txtL_len kids f6
    have h2 := join_len (txtL kids)
    have h3 := front_len (k := k) f3 f4
    have h4 := leaf_len (k := k) nm f2 f4
    have h5 := bin_len k (txtL kids)
    simp only [X.txt, X.bulk]
    (repeat' split) <;> simp <;> omega
theorem txtL_len : ∀ l : List X, fitL l → Lib.lens (txtL l) + 2 * (txtL l).length ≤ 64 * bulkL l
  | [], _ => by simp [txtL, Lib.lens]
  | x :: l, hf => by
    have h1 := txt_len x hf.1
    have h2 := txtL_len l hf.2
    have : 7 ≤ x.bulk := by cases x; simp [X.bulk]; omega
    simp only [txtL, bulkL, Lib.lens, List.map_cons, List.sum_cons, List.length_cons] at h2 ⊢
    omega
end

/-- it may be: as far as its text goes by it -/
inductive May : X → Prop where
  | set (nm n lo hi tk kids) : (∀ x ∈ kids, ∃ nm' n' lo' hi' tk', x = .mk 3 nm' n' lo' hi' tk' []) → May (.mk 4 nm n lo hi tk kids)
  | leaf (k nm n lo hi tk) : isLeaf k → (k = 2 → n = 0 ∨ n = 1) → May (.mk k nm n lo hi tk [])
  | one (k nm n lo hi tk a) : (k = 11 ∨ k = 12 ∨ k = 18 ∨ k = 22 ∨ k = 23 ∨ k = 25) → May a → May (.mk k nm n lo hi tk [a])
  | two (k nm n lo hi tk a b) : (k = 8 ∨ k = 9 ∨ k = 10 ∨ k = 14 ∨ k = 15 ∨ k = 16 ∨ k = 17 ∨ k = 19 ∨ k = 20 ∨ k = 24) → May a → May b → May (.mk k nm n lo hi tk [a, b])

theorem by9 : Tryz.prog.bytesOf 9 = 16 := by kernel_rfl
theorem sq56 : sliceQ Tryz.prog 94 = some 9 := by kernel_rfl
theorem u56 : Tryz.prog.underlying 94 = some (.slice 9) := by kernel_rfl
theorem z9 : zeroQ Tryz.prog 9 = some [.str []] := by kernel_rfl

theorem sizes_strs : ∀ l : List (List UInt8), sizesOk 1 (l.map AV.str) = true
  | [] => rfl
  | s :: l => by simp [sizesOk, AV.cells?, sizes_strs l]
theorem app0 (x : List UInt8) (S : St) : evAppend Tryz.prog [94, 94] (.slice [] .clip) (.slice [.str x] .clip) S = some (.slice [.str x] (.own S.T.length 1), ⟨S.H, S.T ++ [1]⟩) := by
  simp [evAppend, sq56, u56, elemsOf, z9, c9, by9, sizesOk, AV.cells?]
theorem app1 (l : List (List UInt8)) (x : List UInt8) (S : St) (hl : l.length ≤ 1099511627776) :
    evAppend Tryz.prog [94, 94] (.slice (l.map AV.str) (.own S.T.length l.length)) (.slice [.str x] .clip) ⟨S.H, S.T ++ [l.length]⟩ = some (.slice ((l ++ [x]).map AV.str) (.own S.T.length (l.length + 1)), ⟨S.H, S.T ++ [l.length + 1]⟩) := by
  simp [evAppend, sq56, u56, elemsOf, z9, c9, by9, sizes_strs, sizesOk, AV.cells?]
  omega

theorem ev_join (n : Nat) (l : List (List UInt8)) (tok : Tok) (S : St) (h1 : l.length ≤ 1099511627776) (h2 : (joinT l).length ≤ 1099511627776) :
    ev Tryz.prog E (n + 1) 62 [.slice (l.map AV.str) tok, .str [44, 32]] S = some (.ret (.str (joinT l)), S) := by
  have hJ : ∀ args, ev Tryz.prog E (n + 1) 62 args S = joinX args S := fun args => by
    have h : ev Tryz.prog E (n + 1) 62 args S = (if E.ok 62 then (if E.dfr 62 then evFuncD Tryz.prog E (ev Tryz.prog E n) (evd Tryz.prog E n) n 62 args S else evFunc Tryz.prog E (ev Tryz.prog E n) n 62 args S) else E.ext 62 args S) := rfl
    rw [h]
    rfl
  rw [hJ]
  unfold joinT at *
  simp [joinX, strsOf_map, show l.length ≤ 140737488355328 by omega, show (Lib.join l [44, 32]).length ≤ 140737488355328 by omega]
end Go.Proofs.YtemggoaefohliaaGreatDoor.PT
/- An expression's text, lexed: its words. No condition. -/
namespace Go.Proofs.YtemggoaefohliaaGreatDoor.LX
set_option linter.unusedVariables false
set_option linter.unusedSimpArgs false
open Go AE EX PT NF PS
set_option maxRecDepth 100000

def lx (u : List UInt8) (p : Nat) : Except (Int × Nat) (List Tk) := lexU (u.length + 1) u p
abbrev WD := Int × List UInt8 × Int
def wof (t : Tk) : WD := (t.k, t.s, t.n)
def appL (l : List Tk) : Except (Int × Nat) (List Tk) → Except (Int × Nat) (List Tk)
  | .ok m => .ok (l ++ m)
  | .error e => .error e
theorem appL_app (a b : List Tk) (r : Except (Int × Nat) (List Tk)) : appL a (appL b r) = appL (a ++ b) r := by cases r <;> simp [appL]
theorem appL_one (t : Tk) (r : Except (Int × Nat) (List Tk)) : consL t r = appL [t] r := by cases r <;> rfl
theorem appL_nil (r : Except (Int × Nat) (List Tk)) : appL [] r = r := by cases r <;> rfl
theorem lx_fuel {f : Nat} {u : List UInt8} {p : Nat} (h : u.length < f) : lexU f u p = lx u p := lexU_fuel _ _ _ _ (by omega) (by omega)
/-- what ends a word -/
def Sep (r : List UInt8) : Prop := ∀ c v, r = c :: v → tl c = false ∧ c ≠ 61
def Sts (b : List UInt8) : Prop := ∀ r, Sep r → Sep (b ++ r)
theorem Sep_nil : Sep [] := fun c v h => by cases h
theorem Sts_nil : Sts [] := fun r h => h
theorem Sep_cons {c : UInt8} {v : List UInt8} (h1 : tl c = false) (h2 : c ≠ 61) : Sep (c :: v) := fun d w e => by cases e; exact ⟨h1, h2⟩
theorem Sts_cons {c : UInt8} {v : List UInt8} (h1 : tl c = false) (h2 : c ≠ 61) : Sts (c :: v) := fun r _ => Sep_cons h1 h2
/-- a text's words, ahead of what ends a word; ahead of whatever -/
def Lx (t : List UInt8) (ws : List WD) : Prop := ∀ r p, Sep r → ∃ l, l.map wof = ws ∧ lx (t ++ r) p = appL l (lx r (p + t.length))
def Lx0 (t : List UInt8) (ws : List WD) : Prop := ∀ r p, ∃ l, l.map wof = ws ∧ lx (t ++ r) p = appL l (lx r (p + t.length))
theorem Lx0.to {t : List UInt8} {ws : List WD} (h : Lx0 t ws) : Lx t ws := fun r p _ => h r p
theorem Lx0_nil : Lx0 [] [] := fun r p => ⟨[], rfl, by rw [appL_nil]; rfl⟩
theorem Lx.app {a b : List UInt8} {u v : List WD} (ha : Lx a u) (hb : Lx b v) (hs : Sts b) : Lx (a ++ b) (u ++ v) := fun r p hr => by
  obtain ⟨l, h1, h2⟩ := ha (b ++ r) p (hs r hr)
  obtain ⟨m, h3, h4⟩ := hb r (p + a.length) hr
  exact ⟨l ++ m, by rw [List.map_append, h1, h3], by rw [List.append_assoc, h2, h4, appL_app, List.length_append, Nat.add_assoc]⟩
theorem Lx0.app {a b : List UInt8} {u v : List WD} (ha : Lx0 a u) (hb : Lx b v) : Lx (a ++ b) (u ++ v) := fun r p hr => by
  obtain ⟨l, h1, h2⟩ := ha (b ++ r) p
  obtain ⟨m, h3, h4⟩ := hb r (p + a.length) hr
  exact ⟨l ++ m, by rw [List.map_append, h1, h3], by rw [List.append_assoc, h2, h4, appL_app, List.length_append, Nat.add_assoc]⟩
theorem Lx0_word {a : List UInt8} {w : WD} (h : ∀ f r p, ∃ t, wof t = w ∧ lexU (f + 1) (a ++ r) p = consL t (lexU f r (p + a.length))) (ha : a ≠ []) : Lx0 a [w] := fun r p => by
  obtain ⟨t, h1, h2⟩ := h (a ++ r).length r p
  have : 0 < a.length := List.length_pos_iff.2 ha
  exact ⟨[t], by simp [h1], by unfold lx; rw [h2, appL_one, lx_fuel (by simp; omega)]; rfl⟩
theorem Lx_word {a : List UInt8} {w : WD} (h : ∀ f r p, Sep r → ∃ t, wof t = w ∧ lexU (f + 1) (a ++ r) p = consL t (lexU f r (p + a.length))) (ha : a ≠ []) : Lx a [w] := fun r p hr => by
  obtain ⟨t, h1, h2⟩ := h (a ++ r).length r p hr
  have : 0 < a.length := List.length_pos_iff.2 ha
  exact ⟨[t], by simp [h1], by unfold lx; rw [h2, appL_one, lx_fuel (by simp; omega)]; rfl⟩
theorem Lx0_sp : Lx0 [32] [] := fun r p => ⟨[], rfl, by
  rw [appL_nil]
  show lexU (r.length + 1 + 1) (32 :: r) p = _
  rw [lexU_sp]; rfl⟩
theorem Lx_name {w : List UInt8} (h : nameB w = true) : Lx w [(1, w, 0)] :=
  Lx_word (fun f r p hr => ⟨_, rfl, lexU_name h fun c v e => (hr c v e).1⟩) (fun e => by subst e; cases h)
theorem Lx0_sign {c : UInt8} (hc : c ∈ signsT) (h60 : c ≠ 60) : Lx0 [c] [(4, [c], 0)] :=
  Lx0_word (fun f r p => ⟨_, rfl, lexU_sign hc fun e => absurd e h60⟩) (by simp)
theorem Lx_lt : Lx [60] [(4, [60], 0)] :=
  Lx_word (fun f r p hr => ⟨_, rfl, lexU_sign (by decide) fun _ v e => (hr 61 v e).2 rfl⟩) (by simp)
theorem Lx0_le : Lx0 [60, 61] [(4, [60, 61], 0)] :=
  Lx0_word (fun f r p => ⟨_, rfl, lexU_sign2 (q := [60, 61]) (by decide)⟩) (by simp)

/-! ### a number -/
theorem dig_tl {c : UInt8} (h : isDig c = true) : tl c = true ∧ headB (c.toNat : Int) = false ∧ digB (c.toNat : Int) = true ∧ spaces.contains c = false := by
  have h' : ∀ c : UInt8, isDig c = true → tl c = true ∧ headB (c.toNat : Int) = false ∧ digB (c.toNat : Int) = true ∧ spaces.contains c = false := by
    simp only [isDig, Bool.and_eq_true, decide_eq_true_eq, tl, tailB, headB, digB, spaces]
    intro c ⟨h1, h2⟩
    have hb : ∀ n : Nat, 48 ≤ n → n ≤ 57 → decide ((97 : Int) ≤ n) = false ∧ decide ((65 : Int) ≤ n) = false ∧ ((n : Int) == 95) = false ∧ decide ((48 : Int) ≤ n) = true ∧ decide ((n : Int) ≤ 57) = true := by
      intro n a b
      refine ⟨by simp; omega, by simp; omega, by simp; omega, by simp; omega, by simp; omega⟩
    obtain ⟨k1, k2, k3, k4, k5⟩ := hb c.toNat h1 h2
    refine ⟨by rw [k1, k2, k3, k4, k5]; rfl, by rw [k1, k2, k3]; rfl, ⟨by omega, by omega⟩, ?_⟩
    cases hc : [32, 9, 10, 13].contains c with
    | false => rfl
    | true =>
      have hm := List.contains_iff_mem.1 hc
      simp only [List.mem_cons, List.not_mem_nil, or_false] at hm
      exfalso
      rcases hm with rfl | rfl | rfl | rfl <;> revert h1 <;> decide
  exact h' c h
theorem takeWhile_app {f : UInt8 → Bool} {r : List UInt8} (hr : ∀ c v, r = c :: v → f c = false) : ∀ l : List UInt8, l.all f = true → (l ++ r).takeWhile f = l
  | [], _ => by
    cases r with
    | nil => rfl
    | cons d v => simp [List.takeWhile, hr d v rfl]
  | d :: l, hl => by
    simp only [List.all_cons, Bool.and_eq_true] at hl
    simp only [List.cons_append, List.takeWhile, hl.1, takeWhile_app hr l hl.2]
theorem Lx_num {n : Int} (h0 : 0 ≤ n) (h1 : n ≤ 9223372036854775807) : Lx (dec n) [(2, dec n, n)] := by
  have hd : dec n = dg n.natAbs := if_neg (by omega)
  have hpos := dg_pos n.natAbs
  refine Lx_word (fun f r p hr => ?_) (fun e => by rw [hd] at e; rw [e] at hpos; simp at hpos)
  have hall := dg_all n.natAbs
  have hval : val (dec n) = n.natAbs := by rw [hd]; exact val_dg _
  have hP : parseN (dec n) = some n.natAbs := by
    unfold parseN
    rw [if_pos ⟨by rw [hd]; exact hall, by rw [hval]; omega, by rw [hval, hd]; unfold dec; rw [if_neg (by omega)]; simp⟩, hval]
  rw [← hd] at hall hpos
  cases hdd : dec n with
  | nil => rw [hdd] at hpos; simp at hpos
  | cons c t =>
    rw [hdd] at hall hP
    have htl : (c :: t).all tl = true := by
      rw [List.all_eq_true] at hall ⊢
      exact fun x hx => (dig_tl (hall x hx)).1
    have htw := takeWhile_app (f := tl) (r := r) (fun d v e => (hr d v e).1) (c :: t) htl
    have hc : isDig c = true := by simp only [List.all_cons, Bool.and_eq_true] at hall; exact hall.1
    obtain ⟨_, k2, k3, k4⟩ := dig_tl hc
    have hf : far (c :: (t ++ r)) 0 = t.length + 1 := by
      simp only [far, List.drop_zero]
      have := congrArg List.length htw
      simp only [List.cons_append, List.length_cons] at this
      omega
    have hsub : sub (c :: (t ++ r)) 0 (t.length + 1) = c :: t := by
      simp only [sub, List.drop_zero, List.take_succ_cons]
      rw [List.take_left]
    have hn : nextR (c :: (t ++ r)) 0 c = some (.word ⟨2, c :: t, ((n.natAbs : Nat) : Int), 0⟩ (t.length + 1)) := by
      unfold nextR
      rw [if_neg (by rw [k4]; simp)]
      simp only [k2, k3, Bool.false_eq_true, if_false, if_true]
      unfold numberedR
      rw [hf, hsub, hP]
      rfl
    refine ⟨⟨2, c :: t, ((n.natAbs : Nat) : Int), p⟩, ?_, ?_⟩
    · simp only [wof]
      rw [show ((n.natAbs : Nat) : Int) = n by omega]
    · rw [List.cons_append, lexU_word hn]
      simp [Tk.at]
/-! ### a text in quotes -/
theorem index_quote {r : List UInt8} {d : UInt8} : ∀ (u : List UInt8), (∀ c ∈ u, c ≠ d) → Lib.indexByte (u ++ d :: r) d = u.length
  | [], _ => by simp [Lib.indexByte]
  | c :: u, h => by
    have h1 : (c == d) = false := by simpa using h c (by simp)
    have ih := index_quote (r := r) u fun x hx => h x (by simp [hx])
    simp only [List.cons_append, Lib.indexByte, h1, ih]
    simp
theorem index_not {d : UInt8} : ∀ (u : List UInt8), (∀ c ∈ u, c ≠ d) → Lib.indexByte u d = -1
  | [], _ => rfl
  | c :: u, h => by
    have h1 : (c == d) = false := by simpa using h c (by simp)
    have ih := index_not u fun x hx => h x (by simp [hx])
    simp only [Lib.indexByte, h1, ih]
    simp
theorem Lx0_quote {nm : List UInt8} (h : plainB nm = true) : Lx0 (34 :: nm ++ [34]) [(3, nm, 0)] := by
  refine Lx0_word (fun f r p => ⟨⟨3, nm, 0, p⟩, rfl, ?_⟩) (by simp)
  have hp := h
  simp only [plainB, Bool.and_eq_true, decide_eq_true_eq, List.all_eq_true] at h
  have h34 : ∀ c ∈ nm, c ≠ 34 := fun c hc e => by have := h.2 c hc; subst e; revert this; decide
  have h10 : ∀ c ∈ nm, c ≠ 10 := fun c hc e => by have := h.2 c hc; subst e; revert this; decide
  have e1 : (34 :: nm ++ [34]) ++ r = 34 :: (nm ++ 34 :: r) := by simp
  have hi : Lib.indexByte (nm ++ 34 :: r) 34 = nm.length := index_quote nm h34
  have hsub : sub (34 :: (nm ++ 34 :: r)) 1 (1 + nm.length) = nm := by
    simp [sub, Nat.add_comm 1]
  have hn : nextR (34 :: (nm ++ 34 :: r)) 0 34 = some (.word ⟨3, nm, 0, 0⟩ (nm.length + 2)) := by
    unfold nextR
    rw [if_neg (by decide)]
    simp only [show headB ((34 : UInt8).toNat : Int) = false by decide, show digB ((34 : UInt8).toNat : Int) = false by decide, show (((34 : UInt8).toNat : Int) == 34) = true by decide, Bool.false_eq_true, if_false, if_true]
    unfold quotedR
    simp only [Nat.zero_add, List.drop_succ_cons, List.drop_zero, hi, Int.toNat_natCast, hsub, index_not nm h10]
    rw [if_neg (by omega), if_neg (by decide), if_pos hp]
    simp
  rw [e1, lexU_word hn]
  simp [Tk.at]
end Go.Proofs.YtemggoaefohliaaGreatDoor.LX
/- An expression that may be: its shape; its text's words. No condition. -/
namespace Go.Proofs.YtemggoaefohliaaGreatDoor.LX
set_option linter.unusedVariables false
set_option linter.unusedSimpArgs false
open Go AE EX PT NF PS
set_option maxRecDepth 100000

def k1 (k : Int) : Prop := k = 11 ∨ k = 12 ∨ k = 18 ∨ k = 22 ∨ k = 23 ∨ k = 25
def kb (k : Int) : Prop := k = 8 ∨ k = 9 ∨ k = 10 ∨ k = 14 ∨ k = 15 ∨ k = 16 ∨ k = 17 ∨ k = 19 ∨ k = 20
/-- what may be, by its shape -/
theorem may_shape {k : Int} {nm : List UInt8} {n lo hi : Int} {tk : Bool} {kids : List X} (h : MayAll (.mk k nm n lo hi tk kids)) :
    Fits k nm n lo hi ∧ ((k = 4 ∧ SetOK kids) ∨ (isLeaf k ∧ kids = []) ∨ (k1 k ∧ ∃ a, kids = [a] ∧ MayAll a) ∨ (kb k ∧ ∃ a b, kids = [a, b] ∧ MayAll a ∧ MayAll b) ∨ (k = 24 ∧ ∃ a b, kids = [a, b] ∧ MayAll a ∧ MayAll b)) := by
  by_cases h4 : k = 4
  · obtain ⟨h1, h2⟩ := (mayAll_set h4).1 h
    exact ⟨h1, .inl ⟨h4, h2⟩⟩
  · obtain ⟨hk, hl, hf, hall⟩ := (mayAll_more h4).1 h
    refine ⟨hf, .inr ?_⟩
    have two : (kids.length : Int) = 2 → ∃ a b, kids = [a, b] ∧ MayAll a ∧ MayAll b := fun hl => by
      match kids, hl, hall with
      | [a, b], _, hall => exact ⟨a, b, rfl, hall a (by simp), hall b (by simp)⟩
      | [], hl, _ => simp at hl
      | [_], hl, _ => simp at hl
      | _ :: _ :: _ :: _, hl, _ => simp at hl; omega
    have one : (kids.length : Int) = 1 → ∃ a, kids = [a] ∧ MayAll a := fun hl => by
      match kids, hl, hall with
      | [a], _, hall => exact ⟨a, rfl, hall a (by simp)⟩
      | [], hl, _ => simp at hl
      | _ :: _ :: _, hl, _ => simp at hl; omega
    have zero : (kids.length : Int) = 0 → kids = [] := fun hl => List.eq_nil_of_length_eq_zero (by omega)
    unfold kidsI at hl
    unfold isLeaf k1 kb
    rcases hk with rfl | rfl | rfl | rfl | rfl | rfl | rfl | rfl | rfl | rfl | rfl | rfl | rfl | rfl | rfl | rfl | rfl | rfl | rfl | rfl | rfl | rfl | rfl | rfl | rfl <;> simp at hl h4 ⊢ <;>
      first
      | exact hl
      | exact zero (by omega)
      | exact one (by omega)
      | exact two (by omega)

/-! ### its words -/
def joinTailW (r : List (List WD)) : List WD := (r.map ((4, [44], 0) :: ·)).flatten
def joinW : List (List WD) → List WD
  | [] => []
  | x :: r => x ++ joinTailW r
def spanW (lo hi : Int) : List WD := (4, [91], 0) :: (2, dec lo, lo) :: (4, [44], 0) :: (if hi = -1 then (4, [42], 0) else (2, dec hi, hi)) :: [(4, [93], 0)]
def frontW (k lo hi : Int) : List WD := if k = 12 ∨ k = 25 then [(1, wordT k, 0)] else (1, wordT k, 0) :: spanW lo hi
def signW (k : Int) : WD := (if k = 17 ∨ k = 19 ∨ k = 20 then 1 else 4, signT k, 0)
def leafW (k : Int) (nm : List UInt8) (n hi : Int) : List WD :=
  if k = 1 then [(2, dec n, n)] else if k = 2 then [(1, if n = 0 then [102, 97, 108, 115, 101] else [116, 114, 117, 101], 0)] else if k = 3 then [(3, nm, 0)] else if k = 5 then [(1, [115], 0), (4, [46], 0), (1, nm, 0)] else if k = 6 then [(1, [111], 0), (4, [46], 0), (1, nm, 0)] else
  if k = 13 then [(1, [116, 105, 109, 101, 115], 0), (4, [40], 0), (1, nm, 0), (4, [44], 0), (2, dec hi, hi), (4, [41], 0)] else if k = 21 then [(1, [97, 99, 116], 0), (4, [40], 0), (1, nm, 0), (4, [41], 0)] else [(1, [110, 111, 119], 0)]
def binW (k : Int) : List (List WD) → List WD
  | [a, b] => (4, [40], 0) :: a ++ signW k :: b ++ [(4, [41], 0)]
  | _ => []
mutual
def _root_.Go.Proofs.YtemggoaefohliaaGreatDoor.EX.X.toks : X → List WD
  | .mk k nm n lo hi _ kids =>
    if k = 4 then (4, [123], 0) :: joinW (toksL kids) ++ [(4, [125], 0)] else if k = 11 then (4, [45], 0) :: joinW (toksL kids) else if k = 18 then (1, [110, 111, 116], 0) :: joinW (toksL kids) else
    if k = 12 ∨ k = 25 ∨ k = 22 ∨ k = 23 ∨ k = 24 then frontW k lo hi ++ (4, [40], 0) :: joinW (toksL kids) ++ [(4, [41], 0)] else
    if kids.length = 2 then binW k (toksL kids) else leafW k nm n hi
def toksL : List X → List (List WD)
  | [] => []
  | x :: l => x.toks :: toksL l
end

theorem sgn0 {c : UInt8} (h : c ∈ signsT ∧ c ≠ 60 := by decide) : Lx0 [c] [(4, [c], 0)] := Lx0_sign h.1 h.2
theorem Lx0.cons {c : UInt8} {u v : List WD} {b : List UInt8} (ha : Lx0 [c] u) (hb : Lx b v) : Lx (c :: b) (u ++ v) := ha.app hb
theorem comma_sts (b : List UInt8) : Sts (44 :: b) := Sts_cons (by decide) (by decide)
theorem close_sts : Sts [41] := Sts_cons (by decide) (by decide)
theorem sp_sts (b : List UInt8) : Sts (32 :: b) := Sts_cons (by decide) (by decide)
theorem tail_sts (r : List (List UInt8)) : Sts (Lib.joinTail [44, 32] r) := by
  cases r with
  | nil => exact Sts_nil
  | cons x r => simp only [Lib.joinTail, List.map_cons, List.flatten_cons, List.cons_append]; exact comma_sts _
theorem Lx_tail : ∀ (r : List X), (∀ x ∈ r, Lx x.txt x.toks) → Lx (Lib.joinTail [44, 32] (txtL r)) (joinTailW (toksL r))
  | [], _ => Lx0_nil.to
  | x :: r, h => by
    have h1 := h x (by simp)
    have h2 := Lx_tail r fun y hy => h y (by simp [hy])
    have h3 : Lx (44 :: 32 :: (x.txt ++ Lib.joinTail [44, 32] (txtL r))) ([(4, [44], 0)] ++ ([] ++ (x.toks ++ joinTailW (toksL r)))) := (sgn0 (c := 44)).cons (Lx0_sp.cons (h1.app h2 (tail_sts _)))
    simpa [txtL, toksL, Lib.joinTail, joinTailW] using h3
theorem Lx_join (l : List X) (h : ∀ x ∈ l, Lx x.txt x.toks) : Lx (joinT (txtL l)) (joinW (toksL l)) := by
  cases l with
  | nil => exact Lx0_nil.to
  | cons x r =>
    simp only [txtL, toksL, joinT, joinW]
    rw [Lib.join_cons]
    exact (h x (by simp)).app (Lx_tail r fun y hy => h y (by simp [hy])) (tail_sts _)
theorem Lx_kw {w : List UInt8} (h : nameB w = true := by decide) : Lx w [(1, w, 0)] := Lx_name h
theorem Lx_close {a : List UInt8} {u : List WD} (h : Lx a u) : Lx (40 :: a ++ [41]) ((4, [40], 0) :: u ++ [(4, [41], 0)]) :=
  (sgn0 (c := 40)).cons (h.app (sgn0 (c := 41)).to close_sts)
theorem open_sts (b : List UInt8) : Sts (40 :: b) := Sts_cons (by decide) (by decide)
theorem Lx_span {lo hi : Int} (h1 : 0 ≤ lo) (h2 : hi = -1 ∨ lo ≤ hi) (h3 : in64 lo) (h4 : in64 hi) : Lx (spanT lo hi) (spanW lo hi) := by
  unfold in64 at h3 h4
  have hn := Lx_num h1 h3.2
  have hend : Lx ((if hi = -1 then [42] else dec hi) ++ [93]) ([if hi = -1 then ((4, [42], 0) : WD) else (2, dec hi, hi)] ++ [(4, [93], 0)]) := by
    refine Lx.app ?_ (sgn0 (c := 93)).to (Sts_cons (by decide) (by decide))
    split
    · exact (sgn0 (c := 42)).to
    · exact Lx_num (by omega) h4.2
  have h := (sgn0 (c := 91)).cons (hn.app ((sgn0 (c := 44)).cons hend) (comma_sts _))
  simpa [spanT, spanW] using h
theorem Lx.sp0 {a : List UInt8} {u : List WD} (h : Lx a u) : Lx0 (a ++ [32]) u := fun r p => by
  obtain ⟨l, h1, h2⟩ := h (32 :: r) p (Sep_cons (by decide) (by decide))
  obtain ⟨m, h3, h4⟩ := Lx0_sp r (p + a.length)
  exact ⟨l ++ m, by rw [List.map_append, h1, h3, List.append_nil], by rw [List.append_assoc]; show lx (a ++ 32 :: r) p = _; rw [h2]; show appL l (lx ([32] ++ r) _) = _; rw [h4, appL_app, List.length_append, Nat.add_assoc]⟩
theorem Lx_sign {k : Int} (hk : kb k) : Lx0 (32 :: signT k ++ [32]) [signW k] := by
  have h : Lx (signT k) [signW k] := by
    unfold kb at hk
    rcases hk with rfl | rfl | rfl | rfl | rfl | rfl | rfl | rfl | rfl
    · exact (sgn0 (c := 43)).to
    · exact (sgn0 (c := 45)).to
    · exact (sgn0 (c := 42)).to
    · exact (sgn0 (c := 61)).to
    · exact Lx_lt
    · exact Lx0_le.to
    · exact Lx_kw (w := [105, 110])
    · exact Lx_kw (w := [97, 110, 100])
    · exact Lx_kw (w := [111, 114])
  exact (Lx0_sp.cons h).sp0
theorem Lx_word' {k : Int} (hk : k = 12 ∨ k = 25 ∨ k = 22 ∨ k = 23 ∨ k = 24) : Lx (wordT k) [(1, wordT k, 0)] := by
  rcases hk with rfl | rfl | rfl | rfl | rfl <;> exact Lx_kw
theorem Lx_front {k lo hi : Int} (hk : k = 12 ∨ k = 25 ∨ k = 22 ∨ k = 23 ∨ k = 24) (h : k = 22 ∨ k = 23 ∨ k = 24 → 0 ≤ lo ∧ (hi = -1 ∨ lo ≤ hi)) (h3 : in64 lo) (h4 : in64 hi) : Lx (frontT k lo hi) (frontW k lo hi) := by
  have hw := Lx_word' hk
  unfold frontT frontW
  split
  · exact hw
  · obtain ⟨a, b⟩ := h (by omega)
    refine hw.app (Lx_span a b h3 h4) ?_
    exact Sts_cons (by decide) (by decide)
theorem Lx_leaf {k : Int} {nm : List UInt8} {n lo hi : Int} (hk : isLeaf k) (hf : Fits k nm n lo hi) (h3 : in64 n) (h4 : in64 hi) : Lx (leafT k nm n hi) (leafW k nm n hi) := by
  unfold in64 at h3 h4
  rcases hk with rfl | rfl | rfl | rfl | rfl | rfl | rfl | rfl
  · exact Lx_num (hf.int rfl) h3.2
  · simp only [leafT, leafW]
    by_cases h : n = 0
    · subst h; exact Lx_kw (w := [102, 97, 108, 115, 101])
    · simp only [h]; exact Lx_kw (w := [116, 114, 117, 101])
  · exact (Lx0_quote (hf.text rfl)).to
  · have hn := Lx_name (hf.name (by omega))
    exact (Lx_kw (w := [115])).app ((sgn0 (c := 46)).cons hn) (Sts_cons (by decide) (by decide))
  · have hn := Lx_name (hf.name (by omega))
    exact (Lx_kw (w := [111])).app ((sgn0 (c := 46)).cons hn) (Sts_cons (by decide) (by decide))
  · exact Lx_kw (w := [110, 111, 119])
  · have hn := Lx_name (hf.name (by omega))
    have hd := Lx_num (hf.times rfl).2 h4.2
    have h := (Lx_kw (w := [116, 105, 109, 101, 115])).app ((sgn0 (c := 40)).cons (hn.app ((sgn0 (c := 44)).cons (Lx0_sp.cons (hd.app (sgn0 (c := 41)).to close_sts))) (comma_sts _))) (open_sts _)
    simpa [leafT, leafW] using h
  · have hn := Lx_name (hf.name (by omega))
    have h := (Lx_kw (w := [97, 99, 116])).app ((sgn0 (c := 40)).cons (hn.app (sgn0 (c := 41)).to close_sts)) (open_sts _)
    simpa [leafT, leafW] using h
theorem fitL_mem {x : X} : ∀ {l : List X}, x ∈ l → fitL l → x.fit
  | y :: l, h, hf => by
    rcases List.mem_cons.1 h with rfl | h
    · exact hf.1
    · exact fitL_mem h hf.2
theorem Lx_expr : ∀ (m : Nat) (x : X), x.size ≤ m → MayAll x → x.fit → Lx x.txt x.toks
  | 0, x, hm, _, _ => by have := size_pos x; omega
  | m + 1, .mk k nm n lo hi tk kids, hm, h, hfit => by
    obtain ⟨hf, hs⟩ := may_shape h
    obtain ⟨f1, f2, f3, f4, f5, f6⟩ := hfit
    simp only [X.size] at hm
    have key : (∀ x ∈ kids, MayAll x) → ∀ x ∈ kids, Lx x.txt x.toks := fun ha x hx => Lx_expr m x (by have := sizeL_mem hx; omega) (ha x hx) (fitL_mem hx f6)
    have hj : (∀ x ∈ kids, MayAll x) → Lx (joinT (txtL kids)) (joinW (toksL kids)) := fun ha => Lx_join kids (key ha)
    rcases hs with ⟨rfl, hset⟩ | ⟨hk, rfl⟩ | ⟨hk, a, rfl, ha⟩ | ⟨hk, a, b, rfl, ha, hb⟩ | ⟨rfl, a, b, rfl, ha, hb⟩
    · have hj := hj fun x hx => by
        obtain ⟨nm', tk', rfl, hp⟩ := hset.kid x hx
        exact (may_text _ _ _ _ _ _).2 ⟨rfl, rfl, rfl, rfl, hp⟩
      have h := (sgn0 (c := 123)).cons (hj.app (sgn0 (c := 125)).to (Sts_cons (by decide) (by decide)))
      simpa [X.txt, X.toks] using h
    · have hl := Lx_leaf hk hf f2 f4
      have e : (X.mk k nm n lo hi tk []).txt = leafT k nm n hi ∧ (X.mk k nm n lo hi tk []).toks = leafW k nm n hi := by
        rcases hk with rfl | rfl | rfl | rfl | rfl | rfl | rfl | rfl <;> exact ⟨rfl, rfl⟩
      rw [e.1, e.2]
      exact hl
    · have hj := hj fun x hx => by simp at hx; subst hx; exact ha
      rcases hk with rfl | rfl | rfl | rfl | rfl | rfl
      · simpa [X.txt, X.toks] using (sgn0 (c := 45)).cons hj
      · have h := (Lx_front (lo := lo) (hi := hi) (.inl rfl) (fun h => by omega) f3 f4).app (Lx_close hj) (open_sts _)
        simpa [X.txt, X.toks] using h
      · have h := (Lx_kw (w := [110, 111, 116])).app (Lx0_sp.cons hj) (sp_sts _)
        simpa [X.txt, X.toks] using h
      · have h := (Lx_front (.inr (.inr (.inl rfl))) hf.span f3 f4).app (Lx_close hj) (open_sts _)
        simpa [X.txt, X.toks] using h
      · have h := (Lx_front (.inr (.inr (.inr (.inl rfl)))) hf.span f3 f4).app (Lx_close hj) (open_sts _)
        simpa [X.txt, X.toks] using h
      · have h := (Lx_front (lo := lo) (hi := hi) (.inr (.inl rfl)) (fun h => by omega) f3 f4).app (Lx_close hj) (open_sts _)
        simpa [X.txt, X.toks] using h
    · have hall : ∀ x ∈ [a, b], MayAll x := fun x hx => by
        simp at hx
        rcases hx with rfl | rfl
        · exact ha
        · exact hb
      have la := key hall a (by simp)
      have lb := key hall b (by simp)
      have h := (sgn0 (c := 40)).cons (la.app ((Lx_sign hk).app (lb.app (sgn0 (c := 41)).to close_sts)) (sp_sts _))
      have e : (X.mk k nm n lo hi tk [a, b]).txt = 40 :: (a.txt ++ (32 :: signT k ++ [32] ++ (b.txt ++ [41]))) ∧ (X.mk k nm n lo hi tk [a, b]).toks = [(4, [40], 0)] ++ (a.toks ++ ([signW k] ++ (b.toks ++ [(4, [41], 0)]))) := by
        rcases hk with rfl | rfl | rfl | rfl | rfl | rfl | rfl | rfl | rfl <;> simp [X.txt, X.toks, txtL, toksL, binT, binW]
      rw [e.1, e.2]
      exact h
    · have hj := hj fun x hx => by
        simp at hx
        rcases hx with rfl | rfl
        · exact ha
        · exact hb
      have h := (Lx_front (.inr (.inr (.inr (.inr rfl)))) hf.span f3 f4).app (Lx_close hj) (open_sts _)
      simpa [X.txt, X.toks] using h
end Go.Proofs.YtemggoaefohliaaGreatDoor.LX
