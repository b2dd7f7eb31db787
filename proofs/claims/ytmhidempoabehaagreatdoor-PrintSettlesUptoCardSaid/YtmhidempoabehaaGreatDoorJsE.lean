/- Joined: DnD, DnE, PcB, PcC, PcD, PcE, PcF, DlC, DlD, DlE, DlF, DlG, DpA, DpB, DpC, DqA, DqB, DpD, DpE. No condition beyond those of its lemmas. -/
import Derived.Test.YtmhidempoabehaaGreatDoorJsD
/- Numbers read (num.Parse), evaluated. No condition. -/
namespace Go.Proofs.YtmhidempoabehaaGreatDoor.LX
set_option linter.unusedVariables false
set_option linter.unusedSimpArgs false
open Go AE EX PT NF
set_option maxRecDepth 100000

theorem fin_ib (k : IntKind) (n : Int) (b : Bool) (S : St) : finish S (.tup [.int k n, .bool b]) S = some (.tup [.int k n, .bool b], S) := finish_same rfl rfl rfl rfl rfl
theorem tb113 : boolQ Tryz.prog 74 = false := by kernel_rfl
theorem iq113 : intQ Tryz.prog 74 = some .u64 := by kernel_rfl

theorem ev_mulX (n : Nat) (a b : Int) (ha : 0 ≤ a ∧ a < 18446744073709551616) (hb : 0 ≤ b ∧ b < 18446744073709551616) (S : St) :
    ev Tryz.prog E (n + 1) 80 [.int .u64 a, .int .u64 b] S = some (.ret (.tup [.int .u64 ((a.toNat * b.toNat / 18446744073709551616 : Nat) : Int), .int .u64 ((a.toNat * b.toNat % 18446744073709551616 : Nat) : Int)]), S) := by
  have : ev Tryz.prog E (n + 1) 80 [.int .u64 a, .int .u64 b] S = mulX [.int .u64 a, .int .u64 b] S := rfl
  rw [this, mulX, if_pos ⟨ha.1, ha.2, hb.1, hb.2⟩]

theorem mul_ok (n : Nat) (a hi lo u v : Int) (S : St) (g0 : ¬ a < 0) (h1 : ev Tryz.prog E (n + 1) 32 [.int .i64 a] S = some (.ret (.int .u64 u), S)) (h2 : ev Tryz.prog E (n + 1) 32 [.int .i64 10] S = some (.ret (.int .u64 v), S))
    (h3 : ev Tryz.prog E (n + 1) 80 [.int .u64 u, .int .u64 v] S = some (.ret (.tup [.int .u64 hi, .int .u64 lo]), S)) (r : Int) (c1 : ¬ 0 < hi) (c2 : ¬ 9223372036854775807 < lo) (c3 : ¬ 9223372036854775808 < lo) (hw : IntKind.i64.wrap lo = r) :
    ev Tryz.prog E (n + 2) 73 [.int .i64 a, .int .i64 10] S = some (.ret (.tup [.int .i64 r, .bool true]), S) := by
  rw [show n + 2 = (n + 1) + 1 from rfl, ev_enter (n := n + 1) (show E.ok 73 = true from rfl) Tryz.func73 (fn := Tryz.f73) rfl (Nat.le_of_ble_eq_true rfl) (by decide +kernel)]
  simp (disch := first | (simp only [List.length_append, List.length_cons, List.length_nil]; omega) | (simp; done) | assumption) [AV.cells?, AV.isCell, Tryz.f73, E_esc, h1, h2, h3, bq2, tb113, bq4, iq2, iq113, g0, c1, c2, c3, hw, fin_ib]
theorem mul_hi (n : Nat) (a hi lo u v : Int) (S : St) (g0 : ¬ a < 0) (h1 : ev Tryz.prog E (n + 1) 32 [.int .i64 a] S = some (.ret (.int .u64 u), S)) (h2 : ev Tryz.prog E (n + 1) 32 [.int .i64 10] S = some (.ret (.int .u64 v), S))
    (h3 : ev Tryz.prog E (n + 1) 80 [.int .u64 u, .int .u64 v] S = some (.ret (.tup [.int .u64 hi, .int .u64 lo]), S)) (c1 : 0 < hi) :
    ev Tryz.prog E (n + 2) 73 [.int .i64 a, .int .i64 10] S = some (.ret (.tup [.int .i64 0, .bool false]), S) := by
  rw [show n + 2 = (n + 1) + 1 from rfl, ev_enter (n := n + 1) (show E.ok 73 = true from rfl) Tryz.func73 (fn := Tryz.f73) rfl (Nat.le_of_ble_eq_true rfl) (by decide +kernel)]
  simp (disch := first | (simp only [List.length_append, List.length_cons, List.length_nil]; omega) | (simp; done) | assumption) [AV.cells?, AV.isCell, Tryz.f73, E_esc, h1, h2, h3, bq2, tb113, bq4, iq2, iq113, g0, c1, fin_ib]
theorem mul_lo (n : Nat) (a hi lo u v : Int) (S : St) (g0 : ¬ a < 0) (h1 : ev Tryz.prog E (n + 1) 32 [.int .i64 a] S = some (.ret (.int .u64 u), S)) (h2 : ev Tryz.prog E (n + 1) 32 [.int .i64 10] S = some (.ret (.int .u64 v), S))
    (h3 : ev Tryz.prog E (n + 1) 80 [.int .u64 u, .int .u64 v] S = some (.ret (.tup [.int .u64 hi, .int .u64 lo]), S)) (c1 : ¬ 0 < hi) (c2 : 9223372036854775807 < lo) :
    ev Tryz.prog E (n + 2) 73 [.int .i64 a, .int .i64 10] S = some (.ret (.tup [.int .i64 0, .bool false]), S) := by
  rw [show n + 2 = (n + 1) + 1 from rfl, ev_enter (n := n + 1) (show E.ok 73 = true from rfl) Tryz.func73 (fn := Tryz.f73) rfl (Nat.le_of_ble_eq_true rfl) (by decide +kernel)]
  simp (disch := first | (simp only [List.length_append, List.length_cons, List.length_nil]; omega) | (simp; done) | assumption) [AV.cells?, AV.isCell, Tryz.f73, E_esc, h1, h2, h3, bq2, tb113, bq4, iq2, iq113, g0, c1, c2, fin_ib]

theorem mul_arith (m : Nat) : (m : Int) ≤ 9223372036854775807 ∧ ((m / 18446744073709551616 : Nat) : Int) = 0 ∧ ((m % 18446744073709551616 : Nat) : Int) = m ∨ 0 < ((m / 18446744073709551616 : Nat) : Int) ∧ ¬ (m : Int) ≤ 9223372036854775807 ∨ ((m / 18446744073709551616 : Nat) : Int) = 0 ∧ 9223372036854775807 < ((m % 18446744073709551616 : Nat) : Int) ∧ ¬ (m : Int) ≤ 9223372036854775807 := by
  omega
theorem ev_Mul (n : Nat) (a : Nat) (ha : (a : Int) ≤ 9223372036854775807) (S : St) :
    ev Tryz.prog E (n + 2) 73 [.int .i64 (a : Int), .int .i64 10] S = some (.ret (.tup [.int .i64 (if ((a * 10 : Nat) : Int) ≤ 9223372036854775807 then ((a * 10 : Nat) : Int) else 0), .bool (decide (((a * 10 : Nat) : Int) ≤ 9223372036854775807))]), S) := by
  have h1 := ev_size n a S (by unfold in64; omega)
  have h2 := ev_size n 10 S (by unfold in64; omega)
  have h3 := ev_mulX n (((a : Int).natAbs : Nat) : Int) (((10 : Int).natAbs : Nat) : Int) ⟨by omega, by omega⟩ ⟨by omega, by omega⟩ S
  have hm : ((((a : Int).natAbs : Nat) : Int).toNat * (((10 : Int).natAbs : Nat) : Int).toNat) = a * 10 := by simp
  rw [hm] at h3
  generalize a * 10 = m at *
  have g0 : ¬ (a : Int) < 0 := by omega
  rcases mul_arith m with ⟨k1, k2, k3⟩ | ⟨k1, k2⟩ | ⟨k1, k2, k3⟩
  · rw [k2, k3] at h3
    rw [if_pos k1, decide_eq_true k1]
    exact mul_ok n a _ _ _ _ S g0 h1 h2 h3 m (by omega) (by omega) (by omega) (wrap64 _ (by omega))
  · rw [if_neg k2, decide_eq_false k2]
    exact mul_hi n a _ _ _ _ S g0 h1 h2 h3 k1
  · rw [if_neg k3, decide_eq_false k3]
    exact mul_lo n a _ _ _ _ S g0 h1 h2 h3 (by omega) k2

theorem ev_Add (n : Nat) (a b : Int) (ha : 0 ≤ a ∧ a ≤ 9223372036854775807) (hb : 0 ≤ b ∧ b ≤ 9223372036854775807) (S : St) :
    ev Tryz.prog E (n + 1) 74 [.int .i64 a, .int .i64 b] S = some (.ret (.tup [.int .i64 (if a + b ≤ 9223372036854775807 then a + b else 0), .bool (decide (a + b ≤ 9223372036854775807))]), S) := by
  have g0 : ¬ a < 0 := by omega
  have g1 : ¬ b < 0 := by omega
  rw [ev_enter (n := n) (show E.ok 74 = true from rfl) Tryz.func74 (fn := Tryz.f74) rfl (Nat.le_of_ble_eq_true rfl) (by decide +kernel)]
  by_cases hok : a + b ≤ 9223372036854775807
  · have hw : IntKind.i64.wrap (a + b) = a + b := wrap64 _ (by omega)
    have g2 : ¬ a + b < 0 := by omega
    simp (disch := first | (simp only [List.length_append, List.length_cons, List.length_nil]; omega) | (simp; done) | assumption) [AV.cells?, AV.isCell, Tryz.f74, E_esc, bq2, bq4, g0, g1, g2, hw, hok, fin_ib]
  · have g2 : IntKind.i64.wrap (a + b) < 0 := by
      simp [IntKind.wrap, IntKind.bits, IntKind.signed]; omega
    simp (disch := first | (simp only [List.length_append, List.length_cons, List.length_nil]; omega) | (simp; done) | assumption) [AV.cells?, AV.isCell, Tryz.f74, E_esc, bq2, bq4, g0, g1, g2, hok, fin_ib]
end Go.Proofs.YtmhidempoabehaaGreatDoor.LX
/- Numbers read (num.Parse), evaluated (2). No condition. -/
namespace Go.Proofs.YtmhidempoabehaaGreatDoor.LX
set_option linter.unusedVariables false
set_option linter.unusedSimpArgs false
open Go AE EX PT NF
set_option maxRecDepth 100000

/-- a number of its digits -/
def parseN (s : List UInt8) : Option Nat := if s.all isDig = true ∧ val s ≤ 9223372036854775807 ∧ dec (val s) = s then some (val s) else none
theorem val_ge : ∀ (r l : List UInt8), val l ≤ val (l ++ r)
  | [], l => by simp
  | c :: r, l => by
    have := val_ge r (l ++ [c])
    rw [val_snoc] at this
    have e : l ++ [c] ++ r = l ++ c :: r := by simp
    rw [e] at this
    omega
theorem val_take (s : List UInt8) (i : Nat) : val (s.take i) ≤ val s := by
  have := val_ge (s.drop i) (s.take i)
  rwa [List.take_append_drop] at this

noncomputable def npLoop : Code := cutC (bodyOf Tryz.f58) [1, 1, 0, 1, 0, 0]
noncomputable def np0 : Code := cutC (bodyOf Tryz.f58) [0]
noncomputable def np1 : Code := cutC (bodyOf Tryz.f58) [1, 0]
noncomputable def np2 : Code := cutC (bodyOf Tryz.f58) [1, 1, 0, 0]
noncomputable def np3 : Code := cutC (bodyOf Tryz.f58) [1, 1, 1]
theorem f54b : Tryz.f58.body = some (.seq np0 (.seq np1 (.seq (.seq np2 (.block 0 (.loop npLoop))) np3))) := rfl

def NPI (s : List UInt8) (S0 : St) (m : Nat) (fs : FS) : Prop :=
  ∃ i, i + m = s.length ∧ fs.t 0 = .str s ∧ fs.t 4 = .int .i64 (val (s.take i) : Int) ∧ fs.t 11 = .int .i64 s.length ∧ fs.t 12 = .int .i64 i ∧ fs.S = S0 ∧ (s.take i).all isDig = true ∧ val (s.take i) ≤ 9223372036854775807
def NPQ (s : List UInt8) (S0 : St) (r : Out × FS) : Prop :=
  r.2.S = S0 ∧ ((r.1 = .exit 0 ∧ r.2.t 0 = .str s ∧ r.2.t 4 = .int .i64 (val s : Int) ∧ s.all isDig = true ∧ val s ≤ 9223372036854775807) ∨ (r.1 = .ret ∧ r.2.t 2 = .int .i64 0 ∧ r.2.t 3 = .bool false ∧ ¬ (s.all isDig = true ∧ val s ≤ 9223372036854775807)))

set_option maxHeartbeats 4000000 in
theorem np_round (n : Nat) (s : List UInt8) (S0 : St) (hs : s.length ≤ 1048576) (m : Nat) (fs : FS) (h : NPI s S0 m fs) :
    ∃ o fs', evCode ⟨Tryz.prog, E.esc 58, n + 2⟩ (ev Tryz.prog E (n + 2)) (E.ps 58) (n + 2) npLoop fs = some (o, fs') ∧ ((o = .norm ∧ ∃ m', m' < m ∧ NPI s S0 m' fs') ∨ (o ≠ .norm ∧ NPQ s S0 (o, fs'))) := by
  obtain ⟨t, b, v, S⟩ := fs
  obtain ⟨i, hi, h0, h4, h11, h12, hS, hall, hval⟩ := h
  simp only at h0 h4 h11 h12 hS
  subst hS
  cases m with
  | zero =>
    have hi' : i = s.length := by omega
    subst hi'
    rw [List.take_length] at hall hval h4
    refine ⟨.exit 0, _, by
      simp (disch := first | (simp only [List.length_append, List.length_cons, List.length_nil]; omega) | (simp; done) | assumption) [AV.cells?, AV.isCell, npLoop, cutC, bodyOf, Tryz.f58, h0, h4, h11, h12, bq3]
      rfl, .inr ⟨by simp, rfl, .inl ⟨rfl, by simp [upd, h0], by simp [upd, h4], hall, hval⟩⟩⟩
  | succ m =>
    have hlt : i < s.length := by omega
    have hltz : (i : Int) < s.length := by omega
    have hxe : s[i]? = some s[i] := List.getElem?_eq_getElem hlt
    have hmem : s[i] ∈ s := List.getElem_mem hlt
    have hidx : evIndex Tryz.prog 9 (.str s) (.int .i64 (i : Int)) = some (.int .u8 (s[i].toNat : Int)) := by simp [evIndex, sq9, hlt]
    have htake : s.take (i + 1) = s.take i ++ [s[i]] := by rw [List.take_add_one, hxe]; rfl
    have hvs : val (s.take (i + 1)) = val (s.take i) * 10 + (s[i].toNat - 48) := by rw [htake, val_snoc]
    have hvle := val_take s (i + 1)
    have hw : IntKind.i64.wrap ((i : Int) + 1) = (i : Int) + 1 := wrap64 _ (by omega)
    generalize s[i] = x at *
    have hx256 := x.toNat_lt
    by_cases g1 : (x.toNat : Int) < 48
    · refine ⟨.ret, _, by
        simp (disch := first | (simp only [List.length_append, List.length_cons, List.length_nil]; omega) | (simp; done) | assumption) [AV.cells?, AV.isCell, -evIndex, npLoop, cutC, bodyOf, Tryz.f58, h0, h4, h11, h12, bq3, bq5, hlt, hltz, hidx, g1]
        rfl, .inr ⟨by simp, rfl, .inr ⟨rfl, by simp [upd], by simp [upd], fun ⟨ha, _⟩ => ?_⟩⟩⟩
      have := List.all_eq_true.1 ha x hmem
      simp [isDig] at this
      omega
    by_cases g2 : 57 < (x.toNat : Int)
    · refine ⟨.ret, _, by
        simp (disch := first | (simp only [List.length_append, List.length_cons, List.length_nil]; omega) | (simp; done) | assumption) [AV.cells?, AV.isCell, -evIndex, npLoop, cutC, bodyOf, Tryz.f58, h0, h4, h11, h12, bq3, bq5, hlt, hltz, hidx, g1, g2]
        rfl, .inr ⟨by simp, rfl, .inr ⟨rfl, by simp [upd], by simp [upd], fun ⟨ha, _⟩ => ?_⟩⟩⟩
      have := List.all_eq_true.1 ha x hmem
      simp [isDig] at this
      omega
    have hM := ev_Mul n (val (s.take i)) (by omega) S
    have hsub : IntKind.u8.wrap ((x.toNat : Int) - 48) = ((x.toNat - 48 : Nat) : Int) := by rw [wrapu8 _ (by omega)]; omega
    have hcv : IntKind.i64.wrap ((x.toNat - 48 : Nat) : Int) = ((x.toNat - 48 : Nat) : Int) := wrap64 _ (by omega)
    generalize hd : x.toNat - 48 = d at *
    have hdig : isDig x = true := by simp [isDig]; omega
    by_cases k1 : ((val (s.take i) * 10 : Nat) : Int) ≤ 9223372036854775807
    · rw [if_pos k1, decide_eq_true k1] at hM
      have hA := ev_Add (n + 1) ((val (s.take i) * 10 : Nat) : Int) (d : Int) (by omega) (by omega) S
      have hsum : ((val (s.take i) * 10 : Nat) : Int) + (d : Int) = (val (s.take (i + 1)) : Int) := by rw [hvs]; omega
      rw [hsum] at hA
      generalize hv2 : val (s.take (i + 1)) = v2 at *
      generalize val (s.take i) = v1 at *
      generalize v1 * 10 = v10 at *
      by_cases k2 : (v2 : Int) ≤ 9223372036854775807
      · rw [if_pos k2, decide_eq_true k2] at hA
        refine ⟨.norm, _, by
          simp (disch := first | (simp only [List.length_append, List.length_cons, List.length_nil]; omega) | (simp; done) | assumption) [AV.cells?, AV.isCell, -evIndex, npLoop, cutC, bodyOf, Tryz.f58, h0, h4, h11, h12, bq3, bq5, iq5, iq2, hlt, hltz, hidx, g1, g2, hM, hsub, hcv, hA]
          rfl, .inl ⟨rfl, m, by omega, i + 1, by omega, by simp [upd, h0], by rw [hv2]; simp [upd], by simp [upd, h11], by simp [upd, hw], rfl, by rw [htake, List.all_append, hall]; simp [hdig], by rw [hv2]; omega⟩⟩
      · rw [if_neg k2, decide_eq_false k2] at hA
        refine ⟨.ret, _, by
          simp (disch := first | (simp only [List.length_append, List.length_cons, List.length_nil]; omega) | (simp; done) | assumption) [AV.cells?, AV.isCell, -evIndex, npLoop, cutC, bodyOf, Tryz.f58, h0, h4, h11, h12, bq3, bq5, iq5, iq2, hlt, hltz, hidx, g1, g2, hM, hsub, hcv, hA]
          rfl, .inr ⟨by simp, rfl, .inr ⟨rfl, by simp [upd], by simp [upd], fun ⟨_, hv⟩ => by omega⟩⟩⟩
    · rw [if_neg k1, decide_eq_false k1] at hM
      have hA := ev_Add (n + 1) 0 (d : Int) (by omega) (by omega) S
      rw [Int.zero_add, if_pos (by omega), decide_eq_true (by omega)] at hA
      generalize val (s.take (i + 1)) = v2 at *
      generalize val (s.take i) = v1 at *
      refine ⟨.ret, _, by
        simp (disch := first | (simp only [List.length_append, List.length_cons, List.length_nil]; omega) | (simp; done) | assumption) [AV.cells?, AV.isCell, -evIndex, npLoop, cutC, bodyOf, Tryz.f58, h0, h4, h11, h12, bq3, bq5, iq5, iq2, hlt, hltz, hidx, g1, g2, hM, hsub, hcv, hA]
        rfl, .inr ⟨by simp, rfl, .inr ⟨rfl, by simp [upd], by simp [upd], fun ⟨_, hv⟩ => by omega⟩⟩⟩

theorem ev_Parse (n : Nat) (s : List UInt8) (hs : s.length ≤ 1048576) (hn : s.length < n) (hn2 : 40 ≤ n) (S : St) :
    ev Tryz.prog E (n + 3) 58 [.str s] S = some (.ret (match parseN s with | some v => .tup [.int .i64 (v : Int), .bool true] | none => .tup [.int .i64 0, .bool false]), S) := by
  rw [show n + 3 = (n + 2) + 1 from rfl, ev_enter (n := n + 2) (show E.ok 58 = true from rfl) Tryz.func58 f54b (Nat.le_of_ble_eq_true rfl) (by decide +kernel)]
  obtain ⟨⟨o, t, b, v, S'⟩, hr, hS, hq⟩ := iter_meas (fun m fs h => np_round n s S hs m fs h) s.length (n + 2)
    ⟨upd 12 (.int .i64 0) (upd 11 (.int .i64 s.length) (upd 10 (.str s) (upd 4 (.int .i64 0) (upd 3 (.bool false) (upd 2 (.int .i64 0) (argsA [.str s])))))), fun _ => (0, []), 6, S⟩ (by omega)
    ⟨0, by omega, by simp [upd, argsA], by simp [upd, val], by simp [upd], by simp [upd], rfl, by simp, by simp [val]⟩
  simp only at hS hq
  subst hS
  rcases hq with ⟨rfl, h0, h4, ha, hv⟩ | ⟨rfl, h2, h3, hno⟩
  · have hD : ev Tryz.prog E (n + 2) 22 [.int .i64 (val s : Int)] S' = some (.ret (.str (dec (val s))), S') := ev_dec (n + 1) (by omega) (val s) (by unfold in64; omega) S'
    cases e : (dec (val s) == s)
    · have hp : parseN s = none := by
        unfold parseN
        rw [if_neg]
        rintro ⟨_, _, h⟩
        rw [h] at e; simp at e
      rw [hp]
      generalize dec (val s) = ds at *
      simp (disch := first | (simp only [List.length_append, List.length_cons, List.length_nil]; omega) | (simp; done) | assumption) [AV.cells?, AV.isCell, np0, np1, np2, np3, cutC, bodyOf, Tryz.f58, sq9, bq9, hr, h0, h4, hD, bne, e, fin_ib]
    · have hp : parseN s = some (val s) := by
        unfold parseN
        rw [if_pos ⟨ha, hv, by simpa using e⟩]
      rw [hp]
      generalize dec (val s) = ds at *
      simp (disch := first | (simp only [List.length_append, List.length_cons, List.length_nil]; omega) | (simp; done) | assumption) [AV.cells?, AV.isCell, np0, np1, np2, np3, cutC, bodyOf, Tryz.f58, sq9, bq9, hr, h0, h4, hD, bne, e, fin_ib]
  · have hp : parseN s = none := by
      unfold parseN
      rw [if_neg fun h => hno ⟨h.1, h.2.1⟩]
    rw [hp]
    simp (disch := first | (simp only [List.length_append, List.length_cons, List.length_nil]; omega) | (simp; done) | assumption) [AV.cells?, AV.isCell, np0, np1, np2, np3, cutC, bodyOf, Tryz.f58, sq9, hr, h2, h3, fin_ib]
end Go.Proofs.YtmhidempoabehaaGreatDoor.LX
/- Expressions as texts, evaluated (made by genpc.py). No condition. -/
namespace Go.Proofs.YtmhidempoabehaaGreatDoor.PT
set_option linter.unusedVariables false
set_option linter.unusedSimpArgs false
open Go AE EX
end Go.Proofs.YtmhidempoabehaaGreatDoor.PT
/- Expressions as texts, evaluated (made by genpc.py). No condition. -/
namespace Go.Proofs.YtmhidempoabehaaGreatDoor.PT
set_option linter.unusedVariables false
set_option linter.unusedSimpArgs false
open Go AE EX
set_option maxRecDepth 100000


theorem dec_len {a : Int} (h : in64 a) : (dec a).length ≤ 21 := by
  unfold in64 at h
  have := dg_len20 (u := a.natAbs) (by omega)
  unfold dec
  split <;> simp <;> omega

/-- a span's text -/
def spanT (lo hi : Int) : List UInt8 := 91 :: dec lo ++ 44 :: (if hi = -1 then [42] else dec hi) ++ [93]

theorem ev_Span (n : Nat) (hn : 31 ≤ n) (lo hi : Int) (h1 : in64 lo) (h2 : in64 hi) (S : St) : ev Tryz.prog E (n + 1) 9 [.int .i64 lo, .int .i64 hi] S = some (.ret (.str (spanT lo hi)), S) := by
  obtain ⟨n, rfl⟩ : ∃ k, n = k + 1 := ⟨n - 1, by omega⟩
  have d1 := ev_dec n (by omega) lo h1 S
  have d2 := ev_dec n (by omega) hi h2 S
  have l1 := dec_len h1
  have l2 := dec_len h2
  rw [ev_enter (n := n + 1) (show E.ok 9 = true from rfl) Tryz.func9 (fn := Tryz.f9) rfl (Nat.le_of_ble_eq_true rfl) (by decide +kernel)]
  by_cases h : hi = -1
  · have h' : (hi != -1) = false := by simp [h]
    subst h
    simp (disch := first | (simp only [List.length_append, List.length_cons, List.length_nil]; omega) | (simp; done) | assumption) [AV.cells?, AV.isCell, Tryz.f9, bq9, bq2, d1, h', spanT]
  · have h' : (hi != -1) = true := by simp [h]
    simp (disch := first | (simp only [List.length_append, List.length_cons, List.length_nil]; omega) | (simp; done) | assumption) [AV.cells?, AV.isCell, Tryz.f9, bq9, bq2, d1, d2, h', h, spanT]
def quoteT (s : List UInt8) : List UInt8 := 34 :: s ++ [34]
theorem ev_Quote (n : Nat) (s : List UInt8) (hs : s.length ≤ 1099511627776) (S : St) : ev Tryz.prog E (n + 1) 8 [.str s] S = some (.ret (.str (quoteT s)), S) := by
  rw [ev_enter (n := n) (show E.ok 8 = true from rfl) Tryz.func8 (fn := Tryz.f8) rfl (Nat.le_of_ble_eq_true rfl) (by decide +kernel)]
  simp (disch := first | (simp only [List.length_append, List.length_cons, List.length_nil]; omega) | (simp; done) | assumption) [AV.cells?, AV.isCell, Tryz.f8, bq9, quoteT]
end Go.Proofs.YtmhidempoabehaaGreatDoor.PT
/- Expressions as texts, evaluated (made by genpc.py). No condition. -/
namespace Go.Proofs.YtmhidempoabehaaGreatDoor.PT
set_option linter.unusedVariables false
set_option linter.unusedSimpArgs false
open Go AE EX
set_option maxRecDepth 100000


def wordT (k : Int) : List UInt8 := if k = 12 then [108, 101, 110] else if k = 25 then [112, 114, 101, 118] else if k = 22 then [111, 110, 99, 101] else if k = 23 then [104, 105, 115, 116] else [115, 105, 110, 99, 101]
def signT (k : Int) : List UInt8 := if k = 8 then [43] else if k = 9 then [45] else if k = 10 then [42] else if k = 14 then [61] else if k = 15 then [60] else if k = 16 then [60, 61] else if k = 17 then [105, 110] else if k = 19 then [97, 110, 100] else [111, 114]
def leafT (k : Int) (nm : List UInt8) (n hi : Int) : List UInt8 :=
  if k = 1 then dec n else if k = 2 then (if n = 0 then [102, 97, 108, 115, 101] else [116, 114, 117, 101]) else if k = 3 then quoteT nm else if k = 5 then 115 :: 46 :: nm else if k = 6 then 111 :: 46 :: nm else
  if k = 13 then [116, 105, 109, 101, 115, 40] ++ nm ++ [44, 32] ++ dec hi ++ [41] else if k = 21 then [97, 99, 116, 40] ++ nm ++ [41] else [110, 111, 119]

theorem ev_word (n : Nat) (k : Int) (hk : k = 12 ∨ k = 25 ∨ k = 22 ∨ k = 23 ∨ k = 24) (S : St) : ev Tryz.prog E (n + 1) 18 [.int .i64 k] S = some (.ret (.str (wordT k)), S) := by
  rw [ev_enter (n := n) (show E.ok 18 = true from rfl) Tryz.func18 (fn := Tryz.f18) rfl (Nat.le_of_ble_eq_true rfl) (by decide +kernel)]
  rcases hk with rfl | rfl | rfl | rfl | rfl <;> simp (disch := first | (simp only [List.length_append, List.length_cons, List.length_nil]; omega) | (simp; done) | assumption) [AV.cells?, AV.isCell, Tryz.f18, bq3, wordT]

theorem ev_sign (n : Nat) (k : Int) (hk : k = 8 ∨ k = 9 ∨ k = 10 ∨ k = 14 ∨ k = 15 ∨ k = 16 ∨ k = 17 ∨ k = 19 ∨ k = 20) (S : St) : ev Tryz.prog E (n + 1) 19 [.int .i64 k] S = some (.ret (.str (signT k)), S) := by
  rw [ev_enter (n := n) (show E.ok 19 = true from rfl) Tryz.func19 (fn := Tryz.f19) rfl (Nat.le_of_ble_eq_true rfl) (by decide +kernel)]
  rcases hk with rfl | rfl | rfl | rfl | rfl | rfl | rfl | rfl | rfl <;> simp (disch := first | (simp only [List.length_append, List.length_cons, List.length_nil]; omega) | (simp; done) | assumption) [AV.cells?, AV.isCell, Tryz.f19, bq3, signT]

def isLeaf (k : Int) : Prop := k = 1 ∨ k = 2 ∨ k = 3 ∨ k = 5 ∨ k = 6 ∨ k = 7 ∨ k = 13 ∨ k = 21

theorem ev_leaf (m : Nat) (hm : 31 ≤ m) (k : Int) (nm : List UInt8) (n lo hi : Int) (ks : AV) (hks : ks.isCell = true) (hk : isLeaf k) (h1 : in64 n) (h2 : in64 hi) (hl : nm.length ≤ 1099511627776) (S : St) :
    ev Tryz.prog E (m + 1) 20 [.agg [.int .i64 k, .str nm, .int .i64 n, .int .i64 lo, .int .i64 hi, ks]] S = some (.ret (.str (leafT k nm n hi)), S) := by
  obtain ⟨m, rfl⟩ : ∃ k, m = k + 1 := ⟨m - 1, by omega⟩
  have d1 := ev_dec m (by omega) n h1 S
  have d2 := ev_dec m (by omega) hi h2 S
  have q1 := ev_Quote m nm hl S
  have l2 := dec_len h2
  rw [ev_enter (n := m + 1) (show E.ok 20 = true from rfl) Tryz.func20 (fn := Tryz.f20) rfl (Nat.le_of_ble_eq_true rfl) (by decide +kernel)]
  have hp : E.ps 20 15 = [(1, 5), (1, 6)] := rfl
  rcases hk with rfl | rfl | rfl | rfl | rfl | rfl | rfl | rfl
  · simp (disch := first | (simp only [List.length_append, List.length_cons, List.length_nil]; omega) | (simp; done) | assumption) [AV.cells?, AV.isCell, Tryz.f20, E_esc, c24, a24, k24, fq0, fq1, fq2, fq4, k3, c3, a3, k2, c2, a2, k9, a9, c9, hks, -AV.isCell, leafT, d1]
  · by_cases h : n = 0
    · subst h
      simp (disch := first | (simp only [List.length_append, List.length_cons, List.length_nil]; omega) | (simp; done) | assumption) [AV.cells?, AV.isCell, Tryz.f20, E_esc, c24, a24, k24, fq0, fq1, fq2, fq4, k3, c3, a3, k2, c2, a2, k9, a9, c9, hks, -AV.isCell, leafT]
    · have h' : (n == 0) = false := by simp [h]
      simp (disch := first | (simp only [List.length_append, List.length_cons, List.length_nil]; omega) | (simp; done) | assumption) [AV.cells?, AV.isCell, Tryz.f20, E_esc, c24, a24, k24, fq0, fq1, fq2, fq4, k3, c3, a3, k2, c2, a2, k9, a9, c9, hks, -AV.isCell, leafT, h, h']
  · simp (disch := first | (simp only [List.length_append, List.length_cons, List.length_nil]; omega) | (simp; done) | assumption) [AV.cells?, AV.isCell, Tryz.f20, E_esc, c24, a24, k24, fq0, fq1, fq2, fq4, k3, c3, a3, k2, c2, a2, k9, a9, c9, hks, -AV.isCell, leafT, q1]
  · simp (disch := first | (simp only [List.length_append, List.length_cons, List.length_nil]; omega) | (simp; done) | assumption) [AV.cells?, AV.isCell, Tryz.f20, E_esc, c24, a24, k24, fq0, fq1, fq2, fq4, k3, c3, a3, k2, c2, a2, k9, a9, c9, hks, -AV.isCell, leafT]
  · simp (disch := first | (simp only [List.length_append, List.length_cons, List.length_nil]; omega) | (simp; done) | assumption) [AV.cells?, AV.isCell, Tryz.f20, E_esc, c24, a24, k24, fq0, fq1, fq2, fq4, k3, c3, a3, k2, c2, a2, k9, a9, c9, hks, -AV.isCell, leafT]
  · simp (disch := first | (simp only [List.length_append, List.length_cons, List.length_nil]; omega) | (simp; done) | assumption) [AV.cells?, AV.isCell, Tryz.f20, E_esc, c24, a24, k24, fq0, fq1, fq2, fq4, k3, c3, a3, k2, c2, a2, k9, a9, c9, hks, -AV.isCell, leafT]
  · simp (disch := first | (simp only [List.length_append, List.length_cons, List.length_nil]; omega) | (simp; done) | assumption) [AV.cells?, AV.isCell, Tryz.f20, E_esc, c24, a24, k24, fq0, fq1, fq2, fq4, k3, c3, a3, k2, c2, a2, k9, a9, c9, hks, -AV.isCell, leafT, d2, hp]
  · simp (disch := first | (simp only [List.length_append, List.length_cons, List.length_nil]; omega) | (simp; done) | assumption) [AV.cells?, AV.isCell, Tryz.f20, E_esc, c24, a24, k24, fq0, fq1, fq2, fq4, k3, c3, a3, k2, c2, a2, k9, a9, c9, hks, -AV.isCell, leafT]
end Go.Proofs.YtmhidempoabehaaGreatDoor.PT
/- Expressions as texts, evaluated (made by genpc.py). No condition. -/
namespace Go.Proofs.YtmhidempoabehaaGreatDoor.PT
set_option linter.unusedVariables false
set_option linter.unusedSimpArgs false
open Go AE EX
/-- what stands ahead of kids in parentheses -/
def frontT (k lo hi : Int) : List UInt8 := if k = 12 ∨ k = 25 then wordT k else wordT k ++ spanT lo hi
theorem spanT_len {lo hi : Int} (h1 : in64 lo) (h2 : in64 hi) : (spanT lo hi).length ≤ 45 := by
  have l1 := dec_len h1
  have l2 := dec_len h2
  unfold spanT
  split <;> simp <;> omega

theorem i9 : (Tryz.prog.info? 9).isSome = true := by kernel_rfl
end Go.Proofs.YtmhidempoabehaaGreatDoor.PT
/- Expressions as texts, evaluated (made by genpc.py). No condition. -/
namespace Go.Proofs.YtmhidempoabehaaGreatDoor.PT
set_option linter.unusedVariables false
set_option linter.unusedSimpArgs false
open Go AE EX
set_option maxRecDepth 100000


def joinT (l : List (List UInt8)) : List UInt8 := Lib.join l [44, 32]
def binT (k : Int) : List (List UInt8) → List UInt8
  | [a, b] => 40 :: a ++ 32 :: signT k ++ 32 :: b ++ [41]
  | _ => []
mutual
/-- as the page says -/
def _root_.Go.Proofs.YtmhidempoabehaaGreatDoor.EX.X.txt : X → List UInt8
  | .mk k nm n lo hi _ kids =>
    if k = 4 then 123 :: joinT (txtL kids) ++ [125] else if k = 11 then 45 :: joinT (txtL kids) else if k = 18 then [110, 111, 116, 32] ++ joinT (txtL kids) else
    if k = 12 ∨ k = 25 ∨ k = 22 ∨ k = 23 ∨ k = 24 then frontT k lo hi ++ 40 :: joinT (txtL kids) ++ [41] else
    if kids.length = 2 then binT k (txtL kids) else leafT k nm n hi
def txtL : List X → List (List UInt8)
  | [] => []
  | x :: l => x.txt :: txtL l
end
theorem txtL_map : ∀ l : List X, txtL l = l.map X.txt
  | [] => rfl
  | x :: l => by simp [txtL, txtL_map l]

theorem join_len (l : List (List UInt8)) : (joinT l).length ≤ Lib.lens l + 2 * l.length := by
  cases l with
  | nil => simp [joinT, Lib.join_nil]
  | cons x r => unfold joinT; rw [Lib.join_length]; simp; omega
theorem sign_len (k : Int) : (signT k).length ≤ 3 := by unfold signT; (repeat' split) <;> simp
theorem word_len (k : Int) : (wordT k).length ≤ 5 := by unfold wordT; (repeat' split) <;> simp
theorem front_len {k lo hi : Int} (h1 : in64 lo) (h2 : in64 hi) : (frontT k lo hi).length ≤ 50 := by
  have := word_len k
  have := spanT_len h1 h2
  unfold frontT
  split <;> simp <;> omega
theorem leaf_len {k n hi : Int} (nm : List UInt8) (h1 : in64 n) (h2 : in64 hi) : (leafT k nm n hi).length ≤ nm.length + 40 := by
  have := dec_len h1
  have := dec_len h2
  unfold leafT
  (repeat' split) <;> simp [quoteT] <;> omega
theorem bin_len (k : Int) : ∀ l : List (List UInt8), (binT k l).length ≤ Lib.lens l + 10
  | [a, b] => by have := sign_len k; simp [binT, Lib.lens]; omega
  | [] => by simp [binT]
  | [_] => by simp [binT]
  | _ :: _ :: _ :: _ => by simp [binT]
mutual
/-- its numbers are numbers of 64 bits -/
def _root_.Go.Proofs.YtmhidempoabehaaGreatDoor.EX.X.num : X → Prop
  | .mk k _ n lo hi tok kids => in64 k ∧ in64 n ∧ in64 lo ∧ in64 hi ∧ True ∧ numL kids
def numL : List X → Prop
  | [] => True
  | x :: l => x.num ∧ numL l
end
mutual
theorem fit_num : ∀ x : X, x.fit → x.num
  | .mk k _ n lo hi tok kids, h => ⟨h.1, h.2.1, h.2.2.1, h.2.2.2.1, trivial, fitL_num kids h.2.2.2.2.2⟩
theorem fitL_num : ∀ l : List X, fitL l → numL l
  | [], _ => trivial
  | x :: l, h => ⟨fit_num x h.1, fitL_num l h.2⟩
end
mutual
theorem txt_len : ∀ x : X, x.num → x.txt.length + 2 ≤ 64 * x.bulk
  | .mk k nm n lo hi tk kids, hf => by
    obtain ⟨f1, f2, f3, f4, f5, f6⟩ := hf
    have h1 := txtL_len kids f6
    have h2 := join_len (txtL kids)
    have h3 := front_len (k := k) f3 f4
    have h4 := leaf_len (k := k) nm f2 f4
    have h5 := bin_len k (txtL kids)
    simp only [X.txt, X.bulk]
    (repeat' split) <;> simp <;> omega
theorem txtL_len : ∀ l : List X, numL l → Lib.lens (txtL l) + 2 * (txtL l).length ≤ 64 * bulkL l
  | [], _ => by simp [txtL, Lib.lens]
  | x :: l, hf => by
    have h1 := txt_len x hf.1
    have h2 := txtL_len l hf.2
    have : 7 ≤ x.bulk := by cases x; simp [X.bulk]; omega
    simp only [txtL, bulkL, Lib.lens, List.map_cons, List.sum_cons, List.length_cons] at h2 ⊢
    omega
end

/-- it may be: as far as its text goes by it -/
inductive May : X → Prop where
  | set (nm n lo hi tk kids) : (∀ x ∈ kids, ∃ nm' n' lo' hi' tk', x = .mk 3 nm' n' lo' hi' tk' []) → May (.mk 4 nm n lo hi tk kids)
  | leaf (k nm n lo hi tk) : isLeaf k → (k = 2 → n = 0 ∨ n = 1) → May (.mk k nm n lo hi tk [])
  | one (k nm n lo hi tk a) : (k = 11 ∨ k = 12 ∨ k = 18 ∨ k = 22 ∨ k = 23 ∨ k = 25) → May a → May (.mk k nm n lo hi tk [a])
  | two (k nm n lo hi tk a b) : (k = 8 ∨ k = 9 ∨ k = 10 ∨ k = 14 ∨ k = 15 ∨ k = 16 ∨ k = 17 ∨ k = 19 ∨ k = 20 ∨ k = 24) → May a → May b → May (.mk k nm n lo hi tk [a, b])

theorem by9 : Tryz.prog.bytesOf 9 = 16 := by kernel_rfl
theorem sq56 : sliceQ Tryz.prog 72 = some 9 := by kernel_rfl
theorem u56 : Tryz.prog.underlying 72 = some (.slice 9) := by kernel_rfl
theorem z9 : zeroQ Tryz.prog 9 = some [.str []] := by kernel_rfl

theorem sizes_strs : ∀ l : List (List UInt8), sizesOk 1 (l.map AV.str) = true
  | [] => rfl
  | s :: l => by simp [sizesOk, AV.cells?, sizes_strs l]
theorem app0 (x : List UInt8) (S : St) : evAppend Tryz.prog [72, 72] (.slice [] .clip) (.slice [.str x] .clip) S = some (.slice [.str x] (.own S.T.length 1), ⟨S.H, S.T ++ [1]⟩) := by
  simp [evAppend, sq56, u56, elemsOf, z9, c9, by9, sizesOk, AV.cells?]
theorem app1 (l : List (List UInt8)) (x : List UInt8) (S : St) (hl : l.length ≤ 1099511627776) :
    evAppend Tryz.prog [72, 72] (.slice (l.map AV.str) (.own S.T.length l.length)) (.slice [.str x] .clip) ⟨S.H, S.T ++ [l.length]⟩ = some (.slice ((l ++ [x]).map AV.str) (.own S.T.length (l.length + 1)), ⟨S.H, S.T ++ [l.length + 1]⟩) := by
  simp [evAppend, sq56, u56, elemsOf, z9, c9, by9, sizes_strs, sizesOk, AV.cells?]
  omega

theorem ev_join (n : Nat) (l : List (List UInt8)) (tok : Tok) (S : St) (h1 : l.length ≤ 1099511627776) (h2 : (joinT l).length ≤ 1099511627776) :
    ev Tryz.prog E (n + 1) 31 [.slice (l.map AV.str) tok, .str [44, 32]] S = some (.ret (.str (joinT l)), S) := by
  have hJ : ∀ args, ev Tryz.prog E (n + 1) 31 args S = joinX args S := fun args => by
    have h : ev Tryz.prog E (n + 1) 31 args S = (if E.ok 31 then (if E.dfr 31 then evFuncD Tryz.prog E (ev Tryz.prog E n) (evd Tryz.prog E n) n 31 args S else evFunc Tryz.prog E (ev Tryz.prog E n) n 31 args S) else E.ext 31 args S) := rfl
    rw [h]
    rfl
  rw [hJ]
  unfold joinT at *
  simp [joinX, strsOf_map, show l.length ≤ 140737488355328 by omega, show (Lib.join l [44, 32]).length ≤ 140737488355328 by omega]
end Go.Proofs.YtmhidempoabehaaGreatDoor.PT
/- The lexer: names, numbers, texts, evaluated. No condition. -/
namespace Go.Proofs.YtmhidempoabehaaGreatDoor.LX
set_option linter.unusedVariables false
set_option linter.unusedSimpArgs false
open Go AE EX PT NF
set_option maxRecDepth 100000

theorem LSt_get (S0 : St) (s : List UInt8) (p : Nat) (out : List Tk) : (LSt S0 s p out).H[S0.H.length]? = some ⟨54, [.str s, .int .i64 p, lv S0 out]⟩ := HS_get _ _
/-- behind an error in a word -/
def ErrSt (S0 : St) (s : List UInt8) (p : Nat) (out : List Tk) (c : Int) : St := ⟨HS S0 ⟨54, [.str s, .int .i64 p, lv S0 out]⟩ ++ [⟨66, [.int .i64 c, .int .i64 p, .nilif]⟩], S0.T ++ lT out⟩
def errV (S0 : St) : AV := .iface 64 (.ptr (S0.H.length + 1) 0)
theorem ev_NewL (n : Nat) (c : Int) (S0 : St) (s : List UInt8) (p : Nat) (out : List Tk) : ev Tryz.prog E (n + 1) 15 [.int .i64 c, .int .i64 (p : Int)] (LSt S0 s p out) = some (.ret (errV S0), ErrSt S0 s p out c) := by
  rw [ev_New]
  simp [LSt, HS_len, errV, ErrSt]
theorem fin_err (S0 : St) (s : List UInt8) (p : Nat) (out : List Tk) (c : Int) : finish (LSt S0 s p out) (errV S0) (ErrSt S0 s p out c) = some (errV S0, ErrSt S0 s p out c) := by
  unfold finish
  simp [errV, AV.sealed, AV.strip, AV.low, LSt, HS_len]
theorem bT1 (k : Int) (s : List UInt8) : evBuild Tryz.prog 45 [(0, .int .i64 k), (1, .str s)] = some (Tk.emb ⟨k, s, 0, 0⟩) := by
  have : Tk.emb ⟨k, s, 0, 0⟩ = .agg [.int .i64 k, .str s, .int .i64 0, .int .i64 0] := rfl
  rw [this]
  simp [evBuild, tp46, tz46, fillA, tl46_0, tl46_1, AV.cells?, wrc]
theorem bT2 (k : Int) (s : List UInt8) (v : Int) : evBuild Tryz.prog 45 [(0, .int .i64 k), (1, .str s), (2, .int .i64 v)] = some (Tk.emb ⟨k, s, v, 0⟩) := by
  have : Tk.emb ⟨k, s, v, 0⟩ = .agg [.int .i64 k, .str s, .int .i64 v, .int .i64 0] := rfl
  rw [this]
  simp [evBuild, tp46, tz46, fillA, tl46_0, tl46_1, tl46_2, AV.cells?, wrc]
def sub (s : List UInt8) (p q : Nat) : List UInt8 := (s.take q).drop p
theorem sl2 (s : List UInt8) (p q : Nat) (h1 : p ≤ q) (h2 : q ≤ s.length) : evSlice Tryz.prog 9 (.str s) (some (.int .i64 (p : Int))) (some (.int .i64 (q : Int))) = some (.str (sub s p q)) := by
  simp [evSlice, sq9, sub]
  omega
theorem sl1 (s : List UInt8) (p : Nat) (h1 : p ≤ s.length) : evSlice Tryz.prog 9 (.str s) (some (.int .i64 (p : Int))) none = some (.str (s.drop p)) := by
  simp [evSlice, sq9]
  omega

/-- what a step of the lexer gives: an error's code, or a word and where it ends -/
inductive LR where
  | err (c : Int)
  | word (t : Tk) (to : Nat)
def LR.put (p : Nat) : LR → LR
  | .err c => .err c
  | .word t to => .word { t with p := p } to
/-- the answer's shape -/
def ans (S0 : St) (s : List UInt8) (p : Nat) (out : List Tk) : LR → Option (Res × St)
  | .err c => some (.ret (errV S0), ErrSt S0 s p out c)
  | .word t to => some (.ret .nilif, LSt S0 s to (out ++ [t]))

theorem ans_err (S0 : St) (s : List UInt8) (p : Nat) (out : List Tk) (c : Int) : ans S0 s p out (.err c) = some (.ret (errV S0), ErrSt S0 s p out c) := rfl
theorem ans_word (S0 : St) (s : List UInt8) (p : Nat) (out : List Tk) (t : Tk) (to : Nat) : ans S0 s p out (.word t to) = some (.ret .nilif, LSt S0 s to (out ++ [t])) := rfl

def namedR (s : List UInt8) (p : Nat) : LR := if 16 < far s p - p then .err 5 else .word ⟨1, sub s p (far s p), 0, p⟩ (far s p)
theorem ev_named (n : Nat) (S0 : St) (s : List UInt8) (p : Nat) (out : List Tk) (hs : s.length ≤ 1048576) (hp : p ≤ s.length) (hn : s.length < n) (hl : out.length ≤ 1048576) :
    ev Tryz.prog E (n + 3) 35 [.ptr S0.H.length 0] (LSt S0 s p out) = ans S0 s p out (namedR s p) := by
  have hL := LSt_get S0 s p out
  have hW := ev_word n S0.H.length s p _ _ hL hs hp hn
  have hg := far_ge s p
  have hle := far_le hp
  have hE := ev_NewL (n + 1) 5 S0 s p out
  have hP := ev_put (n + 1) S0 s p out ⟨1, sub s p (far s p), 0, 0⟩ (far s p) hl
  have hf1 := fin_err S0 s p out 5
  have hf2 := fin_putv S0 s p (far s p) out ⟨1, sub s p (far s p), 0, p⟩ .nilif rfl
  have hsl := sl2 s p (far s p) hg hle
  have hbd := bT1 1 (sub s p (far s p))
  have hps : E.ps 35 4 = [(4, 8)] := rfl
  have hw : IntKind.i64.wrap ((far s p : Int) - p) = ((far s p - p : Nat) : Int) := by rw [wrap64 _ (by omega)]; omega
  simp only at hP hf2
  by_cases h16 : 16 < far s p - p
  · have h16z : (16 : Int) < ((far s p - p : Nat) : Int) := by omega
    rw [show namedR s p = .err 5 from if_pos h16]
    rw [ans_err]
    generalize LSt S0 s p out = L at *
    generalize ErrSt S0 s p out 5 = LE at *
    generalize errV S0 = eV at *
    generalize far s p - p = d at *
    generalize far s p = q at *
    rw [show n + 3 = (n + 2) + 1 from rfl, ev_enter (n := n + 2) (show E.ok 35 = true from rfl) Tryz.func35 (fn := Tryz.f35) rfl (Nat.le_of_ble_eq_true rfl) (by decide +kernel)]
    simp (disch := first | (simp only [List.length_append, List.length_cons, List.length_nil]; omega) | (simp; done) | assumption) [AV.cells?, AV.isCell, -evBuild, -evSlice, Tryz.f35, E_esc, hL, tq61_0, tq61_1, tk61, k9, c9, a9, k3, c3, a3, sq9, bq3, hW, hw, h16, h16z, hE, hf1]
  · have h16z : ¬ (16 : Int) < ((far s p - p : Nat) : Int) := by omega
    rw [show namedR s p = .word ⟨1, sub s p (far s p), 0, p⟩ (far s p) from if_neg h16]
    rw [ans_word]
    generalize LSt S0 s (far s p) _ = L2 at *
    generalize LSt S0 s p out = L at *
    generalize sub s p (far s p) = sb at *
    generalize Tk.emb ⟨1, sb, 0, 0⟩ = te at *
    generalize far s p - p = d at *
    generalize far s p = q at *
    rw [show n + 3 = (n + 2) + 1 from rfl, ev_enter (n := n + 2) (show E.ok 35 = true from rfl) Tryz.func35 (fn := Tryz.f35) rfl (Nat.le_of_ble_eq_true rfl) (by decide +kernel)]
    simp (disch := first | (simp only [List.length_append, List.length_cons, List.length_nil]; omega) | (simp; done) | assumption) [AV.cells?, AV.isCell, -evBuild, -evSlice, Tryz.f35, E_esc, hL, tq61_0, tq61_1, tk61, k9, c9, a9, k3, c3, a3, sq9, bq3, hW, hw, h16, h16z, hsl, hbd, hP, hf2, hps]

/-! ### numbers -/
def numberedR (s : List UInt8) (p : Nat) : LR := match parseN (sub s p (far s p)) with
  | some v => .word ⟨2, sub s p (far s p), v, p⟩ (far s p)
  | none => .err 16
theorem sub_len (s : List UInt8) (p q : Nat) : (sub s p q).length ≤ s.length := by
  simp [sub]; omega
theorem ev_numbered (n : Nat) (S0 : St) (s : List UInt8) (p : Nat) (out : List Tk) (hs : s.length ≤ 1048576) (hp : p ≤ s.length) (hn : s.length + 40 < n) (hl : out.length ≤ 1048576) :
    ev Tryz.prog E (n + 4) 37 [.ptr S0.H.length 0] (LSt S0 s p out) = ans S0 s p out (numberedR s p) := by
  have hL := LSt_get S0 s p out
  have hW := ev_word (n + 1) S0.H.length s p _ _ hL hs hp (by omega)
  have hg := far_ge s p
  have hle := far_le hp
  have hE := ev_NewL (n + 2) 16 S0 s p out
  have hf1 := fin_err S0 s p out 16
  have hsl := sl2 s p (far s p) hg hle
  have hps2 : E.ps 37 2 = [(3, 7)] := rfl
  have hps5 : E.ps 37 5 = [(4, 8)] := rfl
  have hN := ev_Parse n (sub s p (far s p)) (by have := sub_len s p (far s p); omega) (by have := sub_len s p (far s p); omega) (by omega) (LSt S0 s p out)
  cases hv : parseN (sub s p (far s p)) with
  | none =>
    rw [hv] at hN
    rw [show numberedR s p = .err 16 by unfold numberedR; rw [hv]]
    rw [ans_err]
    simp only at hN
    generalize LSt S0 s p out = L at *
    generalize ErrSt S0 s p out 16 = LE at *
    generalize errV S0 = eV at *
    generalize sub s p (far s p) = sb at *
    generalize far s p = q at *
    rw [show n + 4 = (n + 3) + 1 from rfl, ev_enter (n := n + 3) (show E.ok 37 = true from rfl) Tryz.func37 (fn := Tryz.f37) rfl (Nat.le_of_ble_eq_true rfl) (by decide +kernel)]
    simp (disch := first | (simp only [List.length_append, List.length_cons, List.length_nil]; omega) | (simp; done) | assumption) [AV.cells?, AV.isCell, -evBuild, -evSlice, Tryz.f37, E_esc, hL, tq61_0, tq61_1, tk61, k9, c9, a9, k3, c3, a3, sq9, bq3, hW, hsl, hN, hE, hf1, hps2]
  | some v =>
    rw [hv] at hN
    have hP := ev_put (n + 2) S0 s p out ⟨2, sub s p (far s p), v, 0⟩ (far s p) hl
    have hf2 := fin_putv S0 s p (far s p) out ⟨2, sub s p (far s p), v, p⟩ .nilif rfl
    have hbd := bT2 2 (sub s p (far s p)) v
    simp only at hP hf2 hN
    rw [show numberedR s p = .word ⟨2, sub s p (far s p), v, p⟩ (far s p) by unfold numberedR; rw [hv]]
    rw [ans_word]
    generalize LSt S0 s (far s p) _ = L2 at *
    generalize LSt S0 s p out = L at *
    generalize sub s p (far s p) = sb at *
    generalize Tk.emb ⟨2, sb, v, 0⟩ = te at *
    generalize far s p = q at *
    rw [show n + 4 = (n + 3) + 1 from rfl, ev_enter (n := n + 3) (show E.ok 37 = true from rfl) Tryz.func37 (fn := Tryz.f37) rfl (Nat.le_of_ble_eq_true rfl) (by decide +kernel)]
    simp (disch := first | (simp only [List.length_append, List.length_cons, List.length_nil]; omega) | (simp; done) | assumption) [AV.cells?, AV.isCell, -evBuild, -evSlice, Tryz.f37, E_esc, hL, tq61_0, tq61_1, tk61, k9, c9, a9, k3, c3, a3, sq9, bq3, hW, hsl, hN, hbd, hP, hf2, hps2, hps5]
end Go.Proofs.YtmhidempoabehaaGreatDoor.LX
/- The lexer: texts and signs, evaluated. No condition. -/
namespace Go.Proofs.YtmhidempoabehaaGreatDoor.LX
set_option linter.unusedVariables false
set_option linter.unusedSimpArgs false
open Go AE EX PT NF
set_option maxRecDepth 100000

theorem indexByte_lt : ∀ (l : List UInt8) (c : UInt8) (k : Nat), Lib.indexByte l c = (k : Int) → k < l.length
  | [], c, k, h => by simp [Lib.indexByte] at h
  | b :: l, c, k, h => by
    have hg := Lib.indexByte_ge l c
    cases e : (b == c)
    · have h1 : Lib.indexByte (b :: l) c = if Lib.indexByte l c = -1 then -1 else Lib.indexByte l c + 1 := by simp [Lib.indexByte, e]
      rw [h1] at h
      split at h
      · omega
      · have := indexByte_lt l c (k - 1) (by omega)
        simp; omega
    · simp [Lib.indexByte, e] at h
      simp; omega

def quotedR (s : List UInt8) (p : Nat) : LR :=
  if Lib.indexByte (s.drop (p + 1)) 34 < 0 then .err 16
  else if 0 ≤ Lib.indexByte (sub s (p + 1) (p + 1 + (Lib.indexByte (s.drop (p + 1)) 34).toNat)) 10 then .err 16
  else if plainB (sub s (p + 1) (p + 1 + (Lib.indexByte (s.drop (p + 1)) 34).toNat)) = true then .word ⟨3, sub s (p + 1) (p + 1 + (Lib.indexByte (s.drop (p + 1)) 34).toNat), 0, p⟩ (p + (Lib.indexByte (s.drop (p + 1)) 34).toNat + 2)
  else .err 5

set_option maxHeartbeats 4000000 in
theorem ev_quoted (n : Nat) (S0 : St) (s : List UInt8) (p : Nat) (out : List Tk) (hs : s.length ≤ 1048576) (hp : p < s.length) (hl : out.length ≤ 1048576) :
    ev Tryz.prog E (n + 3) 38 [.ptr S0.H.length 0] (LSt S0 s p out) = ans S0 s p out (quotedR s p) := by
  have hL := LSt_get S0 s p out
  have hE16 := ev_NewL (n + 1) 16 S0 s p out
  have hE5 := ev_NewL (n + 1) 5 S0 s p out
  have hf16 := fin_err S0 s p out 16
  have hf5 := fin_err S0 s p out 5
  have hps1 : E.ps 38 1 = [(3, 7)] := rfl
  have hps2 : E.ps 38 2 = [(6, 10), (6, 15), (10, 15)] := rfl
  have hps4 : E.ps 38 4 = [(3, 7), (3, 12), (7, 12)] := rfl
  have hs1 := sl1 s (p + 1) (by omega)
  have hi34 : ev Tryz.prog E (n + 2) 33 [.str (s.drop (p + 1)), .int .u8 34] (LSt S0 s p out) = some (.ret (.int .i64 (Lib.indexByte (s.drop (p + 1)) 34)), LSt S0 s p out) := ev_indexByte (n + 1) _ 34 _
  have hw1 : IntKind.i64.wrap ((p : Int) + 1) = ((p + 1 : Nat) : Int) := by rw [wrap64 _ (by omega)]; omega
  by_cases h34 : Lib.indexByte (s.drop (p + 1)) 34 < 0
  · rw [show quotedR s p = .err 16 from if_pos h34, ans_err]
    generalize Lib.indexByte (s.drop (p + 1)) 34 = i34 at *
    generalize s.drop (p + 1) = sd at *
    generalize LSt S0 s p out = L at *
    generalize ErrSt S0 s p out 16 = LE at *
    generalize errV S0 = eV at *
    generalize p + 1 = P1 at *
    rw [show n + 3 = (n + 2) + 1 from rfl, ev_enter (n := n + 2) (show E.ok 38 = true from rfl) Tryz.func38 (fn := Tryz.f38) rfl (Nat.le_of_ble_eq_true rfl) (by decide +kernel)]
    simp (disch := first | (simp only [List.length_append, List.length_cons, List.length_nil]; omega) | (simp; done) | assumption) [AV.cells?, AV.isCell, -evBuild, -evSlice, Tryz.f38, E_esc, hL, tq61_0, tq61_1, tk61, k9, c9, a9, k3, c3, a3, sq9, bq3, hw1, hs1, hi34, h34, hE16, hf16, hps1, hps2]
  obtain ⟨k, hk⟩ : ∃ k : Nat, Lib.indexByte (s.drop (p + 1)) 34 = (k : Int) := ⟨(Lib.indexByte (s.drop (p + 1)) 34).toNat, by omega⟩
  have hkl := indexByte_lt _ _ _ hk
  simp only [List.length_drop] at hkl
  have hkt : (Lib.indexByte (s.drop (p + 1)) 34).toNat = k := by omega
  have hs2 := sl2 s (p + 1) (p + 1 + k) (by omega) (by omega)
  have hi10 : ev Tryz.prog E (n + 2) 33 [.str (sub s (p + 1) (p + 1 + k)), .int .u8 10] (LSt S0 s p out) = some (.ret (.int .i64 (Lib.indexByte (sub s (p + 1) (p + 1 + k)) 10)), LSt S0 s p out) := ev_indexByte (n + 1) _ 10 _
  have hPl := ev_lPlain n (sub s (p + 1) (p + 1 + k)) (LSt S0 s p out)
  have hw2 : IntKind.i64.wrap (((p + 1 : Nat) : Int) + (k : Int)) = ((p + 1 + k : Nat) : Int) := by rw [wrap64 _ (by omega)]; omega
  have hw3 : IntKind.i64.wrap ((p : Int) + (k : Int)) = ((p + k : Nat) : Int) := by rw [wrap64 _ (by omega)]; omega
  have hw4 : IntKind.i64.wrap (((p + k : Nat) : Int) + 2) = ((p + k + 2 : Nat) : Int) := by rw [wrap64 _ (by omega)]; omega
  have hP := ev_put (n + 1) S0 s p out ⟨3, sub s (p + 1) (p + 1 + k), 0, 0⟩ (p + k + 2) hl
  have hf2 := fin_putv S0 s p (p + k + 2) out ⟨3, sub s (p + 1) (p + 1 + k), 0, p⟩ .nilif rfl
  have hbd := bT1 3 (sub s (p + 1) (p + 1 + k))
  have hk0 : ¬ (k : Int) < 0 := by omega
  simp only at hP hf2
  have hQ : quotedR s p = if 0 ≤ Lib.indexByte (sub s (p + 1) (p + 1 + k)) 10 then .err 16 else if plainB (sub s (p + 1) (p + 1 + k)) = true then .word ⟨3, sub s (p + 1) (p + 1 + k), 0, p⟩ (p + k + 2) else .err 5 := by
    unfold quotedR
    rw [if_neg h34, hkt]
  rw [hQ]
  rw [hk] at hi34
  clear hQ h34 hkl hkt
  by_cases h10 : 0 ≤ Lib.indexByte (sub s (p + 1) (p + 1 + k)) 10
  · rw [if_pos h10, ans_err]
    generalize Lib.indexByte (sub s (p + 1) (p + 1 + k)) 10 = i10 at *
    generalize sub s (p + 1) (p + 1 + k) = sb at *
    clear hk
    generalize s.drop (p + 1) = sd at *
    generalize LSt S0 s p out = L at *
    generalize ErrSt S0 s p out 16 = LE at *
    generalize errV S0 = eV at *
    generalize p + 1 + k = Q1 at *
    generalize p + 1 = P1 at *
    rw [show n + 3 = (n + 2) + 1 from rfl, ev_enter (n := n + 2) (show E.ok 38 = true from rfl) Tryz.func38 (fn := Tryz.f38) rfl (Nat.le_of_ble_eq_true rfl) (by decide +kernel)]
    simp (disch := first | (simp only [List.length_append, List.length_cons, List.length_nil]; omega) | (simp; done) | assumption) [AV.cells?, AV.isCell, -evBuild, -evSlice, Tryz.f38, E_esc, hL, tq61_0, tq61_1, tk61, k9, c9, a9, k3, c3, a3, sq9, bq3, hw1, hw2, hs1, hs2, hi34, hi10, hk0, h10, hE16, hf16, hps1, hps2]
  rw [if_neg h10]
  cases hpl : plainB (sub s (p + 1) (p + 1 + k))
  · rw [hpl] at hPl
    rw [if_neg (by simp), ans_err]
    generalize Lib.indexByte (sub s (p + 1) (p + 1 + k)) 10 = i10 at *
    clear hpl
    generalize sub s (p + 1) (p + 1 + k) = sb at *
    clear hk
    generalize s.drop (p + 1) = sd at *
    generalize LSt S0 s p out = L at *
    generalize ErrSt S0 s p out 5 = LE at *
    generalize errV S0 = eV at *
    generalize p + 1 + k = Q1 at *
    generalize p + 1 = P1 at *
    rw [show n + 3 = (n + 2) + 1 from rfl, ev_enter (n := n + 2) (show E.ok 38 = true from rfl) Tryz.func38 (fn := Tryz.f38) rfl (Nat.le_of_ble_eq_true rfl) (by decide +kernel)]
    simp (disch := first | (simp only [List.length_append, List.length_cons, List.length_nil]; omega) | (simp; done) | assumption) [AV.cells?, AV.isCell, -evBuild, -evSlice, Tryz.f38, E_esc, hL, tq61_0, tq61_1, tk61, k9, c9, a9, k3, c3, a3, sq9, bq3, hw1, hw2, hs1, hs2, hi34, hi10, hk0, h10, hPl, hE5, hf5, hps1, hps2, hps4]
  · rw [hpl] at hPl
    rw [if_pos rfl, ans_word]
    generalize Lib.indexByte (sub s (p + 1) (p + 1 + k)) 10 = i10 at *
    clear hpl
    generalize LSt S0 s (p + k + 2) _ = L2 at *
    generalize sub s (p + 1) (p + 1 + k) = sb at *
    generalize Tk.emb ⟨3, sb, 0, 0⟩ = te at *
    clear hk
    generalize s.drop (p + 1) = sd at *
    generalize LSt S0 s p out = L at *
    generalize p + 1 + k = Q1 at *
    generalize p + 1 = P1 at *
    generalize p + k + 2 = R2 at *
    generalize p + k = R1 at *
    rw [show n + 3 = (n + 2) + 1 from rfl, ev_enter (n := n + 2) (show E.ok 38 = true from rfl) Tryz.func38 (fn := Tryz.f38) rfl (Nat.le_of_ble_eq_true rfl) (by decide +kernel)]
    simp (disch := first | (simp only [List.length_append, List.length_cons, List.length_nil]; omega) | (simp; done) | assumption) [AV.cells?, AV.isCell, -evBuild, -evSlice, Tryz.f38, E_esc, hL, tq61_0, tq61_1, tk61, k9, c9, a9, k3, c3, a3, sq9, bq3, hw1, hw2, hw3, hw4, hs1, hs2, hi34, hi10, hk0, h10, hPl, hbd, hP, hf2, hps1, hps2, hps4]
end Go.Proofs.YtmhidempoabehaaGreatDoor.LX
/- The lexer: signs, evaluated. No condition. -/
namespace Go.Proofs.YtmhidempoabehaaGreatDoor.LX
set_option linter.unusedVariables false
set_option linter.unusedSimpArgs false
open Go AE EX PT NF
set_option maxRecDepth 100000

def pre (s q : List UInt8) : Bool := decide (q.length ≤ s.length) && (s.take q.length == q)
theorem ev_pre0 (n : Nat) (s q : List UInt8) (S : St) : ev Tryz.prog E (n + 1) 75 [.str s, .str q] S = some (.ret (.bool (pre s q)), S) := by
  rw [ev_enter (n := n) (show E.ok 75 = true from rfl) Tryz.func75 (fn := Tryz.f75) rfl (Nat.le_of_ble_eq_true rfl) (by decide +kernel)]
  by_cases h : q.length ≤ s.length
  · have hz : (q.length : Int) ≤ (s.length : Int) := by omega
    have hsl : evSlice Tryz.prog 9 (.str s) none (some (.int .i64 (q.length : Int))) = some (.str (s.take q.length)) := by
      simp [evSlice, sq9]; omega
    have hp : pre s q = (s.take q.length == q) := by simp [pre, h]
    rw [hp]
    generalize s.take q.length = st at *
    simp (disch := first | (simp only [List.length_append, List.length_cons, List.length_nil]; omega) | (simp; done) | assumption) [AV.cells?, AV.isCell, -evSlice, Tryz.f75, bq3, bq9, sq9, h, hz, hsl]
  · have hz : ¬ (q.length : Int) ≤ (s.length : Int) := by omega
    have hp : pre s q = false := by simp [pre, h]
    rw [hp]
    simp (disch := first | (simp only [List.length_append, List.length_cons, List.length_nil]; omega) | (simp; done) | assumption) [AV.cells?, AV.isCell, -evSlice, Tryz.f75, bq3, bq9, sq9, h, hz]
theorem ev_pre (n : Nat) (s q : List UInt8) (S : St) : ev Tryz.prog E (n + 2) 60 [.str s, .str q] S = some (.ret (.bool (pre s q)), S) := by
  have := ev_pre0 n s q S
  rw [show n + 2 = (n + 1) + 1 from rfl, ev_enter (n := n + 1) (show E.ok 60 = true from rfl) Tryz.func60 (fn := Tryz.f60) rfl (Nat.le_of_ble_eq_true rfl) (by decide +kernel)]
  simp (disch := first | (simp only [List.length_append, List.length_cons, List.length_nil]; omega) | (simp; done) | assumption) [AV.cells?, AV.isCell, Tryz.f60, this]

def sgL : List (List UInt8) := [[58, 61], [33, 61], [60, 61]]
def signsT : List UInt8 := [40, 41, 91, 93, 123, 125, 44, 59, 46, 43, 45, 42, 61, 60]
theorem z106 : zeroQ Tryz.prog 106 = some [.str [], .str [], .str []] := by kernel_rfl
theorem p106 : partsQ Tryz.prog 106 = true := by kernel_rfl
theorem q106 : arrQ Tryz.prog 106 = some (3, 9) := by kernel_rfl
theorem u106 : Tryz.prog.underlying 106 = some (.array 3 9) := by kernel_rfl
theorem kn9 : (Tryz.prog.underlying 9).isSome = true := by kernel_rfl
theorem sgB : evBuild Tryz.prog 106 [(0, .str [58, 61]), (1, .str [33, 61]), (2, .str [60, 61])] = some (.agg [.str [58, 61], .str [33, 61], .str [60, 61]]) := by
  simp [evBuild, p106, z106, fillA, placeQ, u106, c9, AV.cells?, wrc]
theorem sgI (i : Nat) (q : List UInt8) (h : sgL[i]? = some q) : evIndex Tryz.prog 106 (.agg [.str [58, 61], .str [33, 61], .str [60, 61]]) (.int .i64 (i : Int)) = some (.str q) := by
  match i, h with
  | 0, h => simp [sgL] at h; subst h; simp [evIndex, q106, kn9, c9, a9, rdc]
  | 1, h => simp [sgL] at h; subst h; simp [evIndex, q106, kn9, c9, a9, rdc]
  | 2, h => simp [sgL] at h; subst h; simp [evIndex, q106, kn9, c9, a9, rdc]
  | i + 3, h => simp [sgL] at h

noncomputable def sgLoop : Code := cutC (bodyOf Tryz.f39) [1, 0, 1, 0, 0]
noncomputable def sg0 : Code := cutC (bodyOf Tryz.f39) [0]
noncomputable def sg1 : Code := cutC (bodyOf Tryz.f39) [1, 0, 0]
noncomputable def sg2 : Code := cutC (bodyOf Tryz.f39) [1, 1]
theorem f42b : Tryz.f39.body = some (.seq sg0 (.seq (.seq sg1 (.block 0 (.loop sgLoop))) sg2)) := rfl

/-- the first of the signs of two letters that stands here -/
def sgAt (s : List UInt8) (p : Nat) : Option (List UInt8) := sgL.find? fun q => pre (s.drop p) q
def SGI (S0 : St) (s : List UInt8) (p : Nat) (out : List Tk) (m : Nat) (fs : FS) : Prop :=
  ∃ i, i + m = 3 ∧ fs.t 0 = .ptr S0.H.length 0 ∧ fs.t 5 = .agg [.str [58, 61], .str [33, 61], .str [60, 61]] ∧ fs.t 6 = .int .i64 i ∧ fs.S = LSt S0 s p out ∧ ∀ j q, j < i → sgL[j]? = some q → pre (s.drop p) q = false
def SGQ (S0 : St) (s : List UInt8) (p : Nat) (out : List Tk) (r : Out × FS) : Prop :=
  (r.1 = .exit 0 ∧ r.2.t 0 = .ptr S0.H.length 0 ∧ r.2.S = LSt S0 s p out ∧ sgAt s p = none) ∨ (r.1 = .ret ∧ r.2.t 2 = .nilif ∧ ∃ q, sgAt s p = some q ∧ r.2.S = LSt S0 s (p + 2) (out ++ [⟨4, q, 0, p⟩]))

set_option maxHeartbeats 2000000 in
theorem sg_round (n : Nat) (S0 : St) (s : List UInt8) (p : Nat) (out : List Tk) (hs : s.length ≤ 1048576) (hp : p < s.length) (hl : out.length ≤ 1048576) (m : Nat) (fs : FS) (h : SGI S0 s p out m fs) :
    ∃ o fs', evCode ⟨Tryz.prog, E.esc 39, n + 2⟩ (ev Tryz.prog E (n + 2)) (E.ps 39) (n + 2) sgLoop fs = some (o, fs') ∧ ((o = .norm ∧ ∃ m', m' < m ∧ SGI S0 s p out m' fs') ∨ (o ≠ .norm ∧ SGQ S0 s p out (o, fs'))) := by
  obtain ⟨t, b, v, S⟩ := fs
  obtain ⟨i, hi, h0, h5, h6, hS, hno⟩ := h
  simp only at h0 h5 h6 hS
  subst hS
  cases m with
  | zero =>
    have hi' : i = 3 := by omega
    subst hi'
    have hn : sgAt s p = none := by
      unfold sgAt
      rw [List.find?_eq_none]
      intro q hq
      obtain ⟨j, hj, rfl⟩ := List.getElem_of_mem hq
      have : j < 3 := hj
      simp [hno j _ this (List.getElem?_eq_getElem hj)]
    refine ⟨.exit 0, _, by
      simp (disch := first | (simp only [List.length_append, List.length_cons, List.length_nil]; omega) | (simp; done) | assumption) [AV.cells?, AV.isCell, sgLoop, cutC, bodyOf, Tryz.f39, h6, bq3]
      rfl, .inr ⟨by simp, .inl ⟨rfl, by simp [upd, h0], rfl, hn⟩⟩⟩
  | succ m =>
    have hlt : i < 3 := by omega
    obtain ⟨q, hq⟩ : ∃ q, sgL[i]? = some q := ⟨sgL[i]'(show i < sgL.length from hlt), List.getElem?_eq_getElem _⟩
    have hq2 : q.length = 2 := by
      match i, hq with
      | 0, h => simp [sgL] at h; subst h; rfl
      | 1, h => simp [sgL] at h; subst h; rfl
      | 2, h => simp [sgL] at h; subst h; rfl
      | i + 3, h => simp [sgL] at h
    have hIx := sgI i q hq
    have hL := LSt_get S0 s p out
    have hs1 := sl1 s p (by omega)
    have hPr := ev_pre n (s.drop p) q (LSt S0 s p out)
    have hw : IntKind.i64.wrap ((i : Int) + 1) = (i : Int) + 1 := wrap64 _ (by omega)
    have hltz : (i : Int) < 3 := by omega
    have hps4 : E.ps 39 4 = [(3, 7)] := rfl
    have hw2 : IntKind.i64.wrap ((p : Int) + 2) = ((p + 2 : Nat) : Int) := by rw [wrap64 _ (by omega)]; omega
    have hP := ev_put (n + 1) S0 s p out ⟨4, q, 0, 0⟩ (p + 2) hl
    have hbd := bT1 4 q
    simp only at hP
    generalize hA : AV.agg [.str [58, 61], .str [33, 61], .str [60, 61]] = arr at *
    cases hpr : pre (s.drop p) q
    · rw [hpr] at hPr
      generalize hLL : LSt S0 s p out = L at *
      refine ⟨.norm, _, by
        simp (disch := first | (simp only [List.length_append, List.length_cons, List.length_nil]; omega) | (simp; done) | assumption) [AV.cells?, AV.isCell, -evBuild, -evSlice, -evIndex, sgLoop, cutC, bodyOf, Tryz.f39, E_esc, h0, h5, h6, hL, hIx, tq61_0, tq61_1, tk61, k9, c9, a9, k3, c3, a3, sq9, bq3, hlt, hltz, hs1, hPr, hps4]
        rfl, .inl ⟨rfl, m, by omega, i + 1, by omega, by simp [upd, h0], by simp [upd, h5, hA], by simp [upd, hw], by rw [hLL], fun j q' hj hq' => by
          by_cases hji : j = i
          · subst hji; rw [hq] at hq'; cases hq'; exact hpr
          · exact hno j q' (by omega) hq'⟩⟩
    · rw [hpr] at hPr
      have hfind : sgAt s p = some q := by
        unfold sgAt
        match i, hq, hno with
        | 0, hq, hno => simp [sgL] at hq; subst hq; simp [sgL, hpr]
        | 1, hq, hno =>
          have k0 := hno 0 [58, 61] (by omega) rfl
          simp [sgL] at hq; subst hq; simp [sgL, List.find?, k0, hpr]
        | 2, hq, hno =>
          have k0 := hno 0 [58, 61] (by omega) rfl
          have k1 := hno 1 [33, 61] (by omega) rfl
          simp [sgL] at hq; subst hq; simp [sgL, List.find?, k0, k1, hpr]
        | i + 3, hq, _ => simp [sgL] at hq
      generalize hL2 : LSt S0 s (p + 2) _ = L2 at *
      generalize LSt S0 s p out = L at *
      generalize hP2 : p + 2 = P2 at *
      generalize Tk.emb ⟨4, q, 0, 0⟩ = te at *
      refine ⟨.ret, _, by
        simp (disch := first | (simp only [List.length_append, List.length_cons, List.length_nil]; omega) | (simp; done) | assumption) [AV.cells?, AV.isCell, -evBuild, -evSlice, -evIndex, sgLoop, cutC, bodyOf, Tryz.f39, E_esc, h0, h5, h6, hL, hIx, tq61_0, tq61_1, tk61, k9, c9, a9, k3, c3, a3, sq9, bq3, hlt, hltz, hs1, hPr, hps4, hq2, hw2, hbd, hP]
        rfl, .inr ⟨by simp, .inr ⟨rfl, by simp [upd], q, hfind, by rw [hP2, hL2]⟩⟩⟩

def signedR (s : List UInt8) (p : Nat) : LR :=
  match sgAt s p with
  | some q => .word ⟨4, q, 0, p⟩ (p + 2)
  | none => match s[p]? with
    | some c => if signsT.contains c then .word ⟨4, sub s p (p + 1), 0, p⟩ (p + 1) else .err 16
    | none => .err 16
theorem contains_index : ∀ (l : List UInt8) (c : UInt8), l.contains c = decide (0 ≤ Lib.indexByte l c)
  | [], c => by simp [Lib.indexByte]
  | b :: l, c => by
    have ih := contains_index l c
    have hg := Lib.indexByte_ge l c
    cases e : (b == c)
    · have h1 : Lib.indexByte (b :: l) c = if Lib.indexByte l c = -1 then -1 else Lib.indexByte l c + 1 := by simp [Lib.indexByte, e]
      have e' : (c == b) = false := by rw [← e]; exact Bool.beq_comm
      rw [List.contains_cons, e', Bool.false_or, ih, h1]
      split <;> simp <;> omega
    · have e' : (c == b) = true := by rw [← e]; exact Bool.beq_comm
      rw [List.contains_cons, e']
      simp [Lib.indexByte, e]

set_option maxHeartbeats 2000000 in
theorem ev_signed (n : Nat) (hn : 5 ≤ n) (S0 : St) (s : List UInt8) (p : Nat) (out : List Tk) (hs : s.length ≤ 1048576) (hp : p < s.length) (hl : out.length ≤ 1048576) :
    ev Tryz.prog E (n + 3) 39 [.ptr S0.H.length 0] (LSt S0 s p out) = ans S0 s p out (signedR s p) := by
  have hgb := sgB
  rw [show n + 3 = (n + 2) + 1 from rfl, ev_enter (n := n + 2) (show E.ok 39 = true from rfl) Tryz.func39 f42b (Nat.le_of_ble_eq_true rfl) (by decide +kernel)]
  obtain ⟨fs1, e1, p1⟩ : ∃ fs', evCode ⟨Tryz.prog, E.esc 39, n + 2⟩ (ev Tryz.prog E (n + 2)) (E.ps 39) (n + 2) (.seq sg0 sg1) ⟨argsA [.ptr S0.H.length 0], fun _ => (0, []), 0, LSt S0 s p out⟩ = some (.norm, fs') ∧ SGI S0 s p out 3 fs' := by
    generalize hA : AV.agg [.str [58, 61], .str [33, 61], .str [60, 61]] = arr at *
    refine ⟨_, by
      simp (disch := first | (simp only [List.length_append, List.length_cons, List.length_nil]; omega) | (simp; done) | assumption) [AV.cells?, AV.isCell, -evBuild, sg0, sg1, cutC, bodyOf, Tryz.f39, E_esc, hgb]
      rfl, 0, by omega, by simp [upd, argsA], by rw [hA]; simp [upd], by simp [upd], rfl, fun j q hj => by omega⟩
  obtain ⟨⟨o, fs2⟩, r1, r2⟩ := iter_meas (fun m' fs h => sg_round n S0 s p out hs hp hl m' fs h) 3 (n + 2) fs1 (by omega) p1
  rw [evCode_assoc, evCode_seq, evCode_assoc, evCode_seq, e1, seqK_norm, evCode_block, evCode_loop, r1]
  obtain ⟨t, b, c, S⟩ := fs2
  rcases r2 with ⟨rfl, h0, rfl, hn⟩ | ⟨rfl, h2, q, hq, rfl⟩
  · have hL := LSt_get S0 s p out
    have hxe : s[p]? = some s[p] := List.getElem?_eq_getElem hp
    have hidx : evIndex Tryz.prog 9 (.str s) (.int .i64 (p : Int)) = some (.int .u8 (s[p].toNat : Int)) := by simp [evIndex, sq9, hp]
    have hR : signedR s p = if signsT.contains s[p] then .word ⟨4, sub s p (p + 1), 0, p⟩ (p + 1) else .err 16 := by
      unfold signedR; rw [hn, hxe]
    rw [hR, contains_index]
    have hI : ev Tryz.prog E (n + 2) 33 [.str [40, 41, 91, 93, 123, 125, 44, 59, 46, 43, 45, 42, 61, 60], .int .u8 (s[p].toNat : Int)] (LSt S0 s p out) = some (.ret (.int .i64 (Lib.indexByte signsT s[p])), LSt S0 s p out) := by
      have := ev_indexByte (n + 1) signsT (s[p].toNat : Int) (LSt S0 s p out)
      have e : (s[p].toNat : Int).toNat.toUInt8 = s[p] := by simp
      rw [e] at this
      exact this
    have hps8 : E.ps 39 8 = [(3, 7)] := rfl
    have hps10 : E.ps 39 10 = [(4, 8), (4, 12), (8, 12), (4, 19), (8, 19), (12, 19)] := rfl
    have hE := ev_NewL (n + 1) 16 S0 s p out
    have hf1 := fin_err S0 s p out 16
    have hsl := sl2 s p (p + 1) (by omega) (by omega)
    have hbd := bT1 4 (sub s p (p + 1))
    have hP := ev_put (n + 1) S0 s p out ⟨4, sub s p (p + 1), 0, 0⟩ (p + 1) hl
    have hf2 := fin_putv S0 s p (p + 1) out ⟨4, sub s p (p + 1), 0, p⟩ .nilif rfl
    have hw1 : IntKind.i64.wrap ((p : Int) + 1) = ((p + 1 : Nat) : Int) := by rw [wrap64 _ (by omega)]; omega
    simp only at hP hf2 h0
    generalize Lib.indexByte signsT s[p] = ix at *
    generalize s[p] = x at *
    by_cases hx : 0 ≤ ix
    · have hx' : ¬ ix < 0 := by omega
      rw [decide_eq_true hx, if_pos rfl, ans_word]
      generalize LSt S0 s (p + 1) _ = L2 at *
      generalize LSt S0 s p out = L at *
      generalize sub s p (p + 1) = sb at *
      generalize Tk.emb ⟨4, sb, 0, 0⟩ = te at *
      generalize p + 1 = P1 at *
      simp (disch := first | (simp only [List.length_append, List.length_cons, List.length_nil]; omega) | (simp; done) | assumption) [AV.cells?, AV.isCell, -evBuild, -evSlice, -evIndex, sg2, cutC, bodyOf, Tryz.f39, E_esc, h0, hL, hidx, tq61_0, tq61_1, tk61, k9, c9, a9, k3, c3, a3, sq9, bq3, hI, hx', hsl, hbd, hP, hf2, hw1, hps8, hps10]
    · have hx' : ix < 0 := by omega
      rw [decide_eq_false hx, if_neg (by simp), ans_err]
      generalize LSt S0 s p out = L at *
      generalize ErrSt S0 s p out 16 = LE at *
      generalize errV S0 = eV at *
      simp (disch := first | (simp only [List.length_append, List.length_cons, List.length_nil]; omega) | (simp; done) | assumption) [AV.cells?, AV.isCell, -evBuild, -evSlice, -evIndex, sg2, cutC, bodyOf, Tryz.f39, E_esc, h0, hL, hidx, tq61_0, tq61_1, tk61, k9, c9, a9, k3, c3, a3, sq9, bq3, hI, hx', hE, hf1, hps8]
  · have hR : signedR s p = .word ⟨4, q, 0, p⟩ (p + 2) := by unfold signedR; rw [hq]
    have hf2 := fin_putv S0 s p (p + 2) out ⟨4, q, 0, p⟩ .nilif rfl
    simp only at hf2 h2
    rw [hR, ans_word]
    generalize LSt S0 s (p + 2) _ = L2 at *
    generalize LSt S0 s p out = L at *
    simp (disch := first | (simp only [List.length_append, List.length_cons, List.length_nil]; omega) | (simp; done) | assumption) [AV.cells?, AV.isCell, Tryz.f39, h2, hf2]
end Go.Proofs.YtmhidempoabehaaGreatDoor.LX
/- The lexer: a step; all words, evaluated. No condition. -/
namespace Go.Proofs.YtmhidempoabehaaGreatDoor.LX
set_option linter.unusedVariables false
set_option linter.unusedSimpArgs false
open Go AE EX PT NF
set_option maxRecDepth 100000

def spaces : List UInt8 := [32, 9, 10, 13]
/-- a step: nothing but a blank, or a word, or an error -/
def nextR (s : List UInt8) (p : Nat) (c : UInt8) : Option LR :=
  if spaces.contains c then none
  else some (if headB c.toNat then namedR s p else if digB c.toNat then numberedR s p else if (c.toNat : Int) == 34 then quotedR s p else signedR s p)

theorem ans_fin (S0 : St) (s : List UInt8) (p : Nat) (out : List Tk) (r : LR) : ∃ v L2, ans S0 s p out r = some (.ret v, L2) ∧ finish (LSt S0 s p out) v L2 = some (v, L2) := by
  cases r with
  | err c => exact ⟨_, _, rfl, fin_err S0 s p out c⟩
  | word t to => exact ⟨_, _, rfl, fin_putv S0 s p to out t .nilif rfl⟩
theorem fin_skip (S0 : St) (s : List UInt8) (p q : Nat) (out : List Tk) : finish (LSt S0 s p out) .nilif (LSt S0 s q out) = some (.nilif, LSt S0 s q out) :=
  finish_same rfl rfl rfl (by simp [LSt, HS_len]) rfl

set_option maxHeartbeats 2000000 in
theorem ev_next (n : Nat) (S0 : St) (s : List UInt8) (p : Nat) (out : List Tk) (c : UInt8) (hc : s[p]? = some c) (hs : s.length ≤ 1048576) (hn : s.length + 40 < n) (hl : out.length ≤ 1048576) :
    ev Tryz.prog E (n + 5) 23 [.ptr S0.H.length 0] (LSt S0 s p out) = (match nextR s p c with | none => some (.ret .nilif, LSt S0 s (p + 1) out) | some r => ans S0 s p out r) := by
  have hp : p < s.length := (List.getElem?_eq_some_iff.1 hc).1
  have hL := LSt_get S0 s p out
  have hidx : evIndex Tryz.prog 9 (.str s) (.int .i64 (p : Int)) = some (.int .u8 (c.toNat : Int)) := by simp [evIndex, sq9, hc]
  have hps1 : E.ps 23 1 = [(3, 7)] := rfl
  have hI : ev Tryz.prog E (n + 4) 33 [.str [32, 9, 10, 13], .int .u8 (c.toNat : Int)] (LSt S0 s p out) = some (.ret (.int .i64 (Lib.indexByte spaces c)), LSt S0 s p out) := by
    have := ev_indexByte (n + 3) spaces (c.toNat : Int) (LSt S0 s p out)
    have e : (c.toNat : Int).toNat.toUInt8 = c := by simp
    rw [e] at this
    exact this
  have hw1 : IntKind.i64.wrap ((p : Int) + 1) = ((p + 1 : Nat) : Int) := by rw [wrap64 _ (by omega)]; omega
  have hLe := ev_letter (n + 3) c (LSt S0 s p out)
  have hDi := ev_digit (n + 3) (c.toNat : Int) (LSt S0 s p out)
  unfold nextR
  rw [contains_index]
  generalize Lib.indexByte spaces c = ix at *
  rw [show n + 5 = (n + 4) + 1 from rfl, ev_enter (n := n + 4) (show E.ok 23 = true from rfl) Tryz.func23 (fn := Tryz.f23) rfl (Nat.le_of_ble_eq_true rfl) (by decide +kernel)]
  by_cases hx : 0 ≤ ix
  · rw [decide_eq_true hx, if_pos rfl]
    have hset : (LSt S0 s p out).H.set S0.H.length ⟨54, [.str s, .int .i64 ((p + 1 : Nat) : Int), lv S0 out]⟩ = (LSt S0 s (p + 1) out).H := HS_set _ _ _
    have hT : (LSt S0 s p out).T = (LSt S0 s (p + 1) out).T := rfl
    have hf := fin_skip S0 s p (p + 1) out
    have heta : (⟨(LSt S0 s (p + 1) out).H, (LSt S0 s (p + 1) out).T⟩ : St) = LSt S0 s (p + 1) out := rfl
    generalize hL2 : LSt S0 s (p + 1) out = L2 at *
    generalize LSt S0 s p out = L at *
    generalize p + 1 = P1 at *
    have hcl : (lv S0 out).cells? = some [lv S0 out] := by unfold lv; split <;> rfl
    generalize lv S0 out = vv at *
    simp (disch := first | (simp only [List.length_append, List.length_cons, List.length_nil]; omega) | (simp; done) | assumption) [AV.cells?, AV.isCell, -evIndex, AV.sealed, AV.sealedL, wrc, Tryz.f23, E_esc, hL, hidx, tq61_0, tq61_1, tk61, k9, c9, a9, k3, c3, a3, i3, sq9, bq3, hI, hx, hw1, hps1, hset, hT, heta, hf]
  · rw [decide_eq_false hx, if_neg (by simp)]
    cases h1 : headB (c.toNat : Int)
    · rw [h1] at hLe
      rw [if_neg (by simp)]
      cases h2 : digB (c.toNat : Int)
      · rw [h2] at hDi
        rw [if_neg (by simp)]
        cases h3 : ((c.toNat : Int) == 34)
        · rw [if_neg (by simp)]
          have hS := ev_signed (n + 1) (by omega) S0 s p out hs hp hl
          obtain ⟨v, L2, e1, e2⟩ := ans_fin S0 s p out (signedR s p)
          simp only [e1] at hS ⊢
          generalize LSt S0 s p out = L at *
          simp (disch := first | (simp only [List.length_append, List.length_cons, List.length_nil]; omega) | (simp; done) | assumption) [AV.cells?, AV.isCell, -evIndex, Tryz.f23, E_esc, hL, hidx, tq61_0, tq61_1, tk61, k9, c9, a9, k3, c3, a3, sq9, bq3, bq5, hI, hx, hps1, hLe, hDi, h3, hS, e2]
        · rw [if_pos rfl]
          have hS := ev_quoted (n + 1) S0 s p out hs hp hl
          obtain ⟨v, L2, e1, e2⟩ := ans_fin S0 s p out (quotedR s p)
          simp only [e1] at hS ⊢
          generalize LSt S0 s p out = L at *
          simp (disch := first | (simp only [List.length_append, List.length_cons, List.length_nil]; omega) | (simp; done) | assumption) [AV.cells?, AV.isCell, -evIndex, Tryz.f23, E_esc, hL, hidx, tq61_0, tq61_1, tk61, k9, c9, a9, k3, c3, a3, sq9, bq3, bq5, hI, hx, hps1, hLe, hDi, h3, hS, e2]
      · rw [h2] at hDi
        rw [if_pos rfl]
        have hS := ev_numbered n S0 s p out hs (by omega) (by omega) hl
        obtain ⟨v, L2, e1, e2⟩ := ans_fin S0 s p out (numberedR s p)
        simp only [e1] at hS ⊢
        generalize LSt S0 s p out = L at *
        simp (disch := first | (simp only [List.length_append, List.length_cons, List.length_nil]; omega) | (simp; done) | assumption) [AV.cells?, AV.isCell, -evIndex, Tryz.f23, E_esc, hL, hidx, tq61_0, tq61_1, tk61, k9, c9, a9, k3, c3, a3, sq9, bq3, bq5, hI, hx, hps1, hLe, hDi, hS, e2]
    · rw [h1] at hLe
      rw [if_pos rfl]
      have hS := ev_named (n + 1) S0 s p out hs (by omega) (by omega) hl
      obtain ⟨v, L2, e1, e2⟩ := ans_fin S0 s p out (namedR s p)
      simp only [e1] at hS ⊢
      generalize LSt S0 s p out = L at *
      simp (disch := first | (simp only [List.length_append, List.length_cons, List.length_nil]; omega) | (simp; done) | assumption) [AV.cells?, AV.isCell, -evIndex, Tryz.f23, E_esc, hL, hidx, tq61_0, tq61_1, tk61, k9, c9, a9, k3, c3, a3, sq9, bq3, bq5, hI, hx, hps1, hLe, hS, e2]
end Go.Proofs.YtmhidempoabehaaGreatDoor.LX
/- The lexer: all words, evaluated. No condition. -/
namespace Go.Proofs.YtmhidempoabehaaGreatDoor.LX
set_option linter.unusedVariables false
set_option linter.unusedSimpArgs false
open Go AE EX PT NF
set_option maxRecDepth 100000

theorem far_gt {s : List UInt8} {p : Nat} {c : UInt8} (hc : s[p]? = some c) (ht : tl c = true) : p < far s p := by
  unfold far
  have hp := (List.getElem?_eq_some_iff.1 hc).1
  have : s.drop p = c :: s.drop (p + 1) := by
    rw [List.drop_eq_getElem_cons hp]
    simp [(List.getElem?_eq_some_iff.1 hc).2]
  rw [this]
  simp [List.takeWhile, ht]
theorem sgL_len : ∀ q ∈ sgL, q.length = 2 := by simp [sgL]
theorem next_far {s : List UInt8} {p : Nat} {c : UInt8} {t : Tk} {to : Nat} (hc : s[p]? = some c) (h : nextR s p c = some (.word t to)) : p < to ∧ to ≤ s.length ∧ t.p = p := by
  have hp := (List.getElem?_eq_some_iff.1 hc).1
  unfold nextR at h
  split at h
  · cases h
  · rename_i hsp
    simp only [Option.some.injEq] at h
    split at h
    · rename_i hh
      unfold namedR at h
      split at h
      · cases h
      · cases h
        exact ⟨far_gt hc (by simp [tl, tailB, hh]), far_le (by omega), rfl⟩
    · split at h
      · rename_i hh
        unfold numberedR at h
        split at h
        · cases h
          exact ⟨far_gt hc (by simp only [digB] at hh; simp [tl, tailB, hh]), far_le (by omega), rfl⟩
        · cases h
      · split at h
        · unfold quotedR at h
          split at h
          · cases h
          · rename_i h34
            split at h
            · cases h
            · split at h
              · cases h
                obtain ⟨k, hk⟩ : ∃ k : Nat, Lib.indexByte (s.drop (p + 1)) 34 = (k : Int) := ⟨(Lib.indexByte (s.drop (p + 1)) 34).toNat, by omega⟩
                have hkl := indexByte_lt _ _ _ hk
                simp only [List.length_drop] at hkl
                rw [hk]
                simp only [Int.toNat_natCast]
                refine ⟨by omega, by omega, trivial⟩
              · cases h
        · unfold signedR at h
          split at h
          · rename_i q hq
            cases h
            have hm := List.mem_of_find?_eq_some hq
            have hpre := List.find?_some hq
            have h2 := sgL_len q hm
            simp only [pre, Bool.and_eq_true, decide_eq_true_eq, List.length_drop] at hpre
            exact ⟨by omega, by omega, rfl⟩
          · split at h
            · split at h
              · cases h
                exact ⟨by omega, by omega, rfl⟩
              · cases h
            · cases h

/-- all words from here on, by fuel; or an error's code and place -/
def lexF (s : List UInt8) : Nat → Nat → List Tk → Except (Int × Nat) (List Tk)
  | 0, p, out => .ok out
  | f + 1, p, out => match s[p]? with
    | none => .ok (out ++ [⟨5, [], 0, p⟩])
    | some c => match nextR s p c with
      | none => lexF s f (p + 1) out
      | some (.err e) => .error (e, p)
      | some (.word t to) => lexF s f to (out ++ [t])
def lexAll (s : List UInt8) : Except (Int × Nat) (List Tk) := if 4096 < s.length then .error (5, 0) else lexF s (s.length + 1) 0 []

noncomputable def alLoop : Code := cutC (bodyOf Tryz.f10) [1, 1, 1, 0, 0, 0]
noncomputable def al0 : Code := cutC (bodyOf Tryz.f10) [0]
noncomputable def al1 : Code := cutC (bodyOf Tryz.f10) [1, 0]
noncomputable def al2 : Code := cutC (bodyOf Tryz.f10) [1, 1, 0]
noncomputable def al3 : Code := cutC (bodyOf Tryz.f10) [1, 1, 1, 1]
theorem f14b : Tryz.f10.body = some (.seq al0 (.seq al1 (.seq al2 (.seq (.block 0 (.loop alLoop)) al3)))) := rfl
theorem esc14 (d : Nat) : E.esc 10 d = (d == 12) := by simp [E]

def ALI (S0 : St) (s : List UInt8) (R : Except (Int × Nat) (List Tk)) (m : Nat) (fs : FS) : Prop :=
  ∃ p out f, p + m = s.length ∧ out.length ≤ p ∧ m < f ∧ fs.t 0 = .str s ∧ fs.t 4 = .ptr S0.H.length 0 ∧ fs.S = LSt S0 s p out ∧ lexF s f p out = R
def ALQ (S0 : St) (s : List UInt8) (R : Except (Int × Nat) (List Tk)) (r : Out × FS) : Prop :=
  (r.1 = .exit 0 ∧ ∃ p out, out.length ≤ p ∧ p ≤ s.length ∧ r.2.t 4 = .ptr S0.H.length 0 ∧ r.2.S = LSt S0 s p out ∧ R = .ok (out ++ [⟨5, [], 0, p⟩])) ∨
  (r.1 = .ret ∧ ∃ p out c, r.2.t 2 = .slice [] .clip ∧ r.2.t 3 = errV S0 ∧ r.2.S = ErrSt S0 s p out c ∧ R = .error (c, p))

set_option maxHeartbeats 2000000 in
theorem al_round (n : Nat) (S0 : St) (s : List UInt8) (R : Except (Int × Nat) (List Tk)) (hs : s.length ≤ 1048576) (hn : s.length + 40 < n) (m : Nat) (fs : FS) (h : ALI S0 s R m fs) :
    ∃ o fs', evCode ⟨Tryz.prog, E.esc 10, n + 5⟩ (ev Tryz.prog E (n + 5)) (E.ps 10) (n + 5) alLoop fs = some (o, fs') ∧ ((o = .norm ∧ ∃ m', m' < m ∧ ALI S0 s R m' fs') ∨ (o ≠ .norm ∧ ALQ S0 s R (o, fs'))) := by
  obtain ⟨t, b, c, S⟩ := fs
  obtain ⟨p, out, f, hpm, hol, hmf, h0, h4, hS, hR⟩ := h
  simp only at h0 h4 hS
  subst hS
  obtain ⟨f, rfl⟩ : ∃ g, f = g + 1 := ⟨f - 1, by omega⟩
  have hL := LSt_get S0 s p out
  cases hc : s[p]? with
  | none =>
    have hge : s.length ≤ p := by simpa using hc
    have hlt : ¬ p < s.length := by omega
    have hltz : ¬ (p : Int) < s.length := by omega
    have hR' : R = .ok (out ++ [⟨5, [], 0, p⟩]) := by rw [← hR, lexF, hc]
    refine ⟨.exit 0, _, by
      simp (disch := first | (simp only [List.length_append, List.length_cons, List.length_nil]; omega) | (simp; done) | assumption) [AV.cells?, AV.isCell, alLoop, cutC, bodyOf, Tryz.f10, esc14, h0, h4, hL, tq61_1, tk61, k3, c3, a3, k9, sq9, bq3, hlt, hltz]
      rfl, .inr ⟨by simp, .inl ⟨rfl, p, out, hol, by omega, by simp [upd, putA, h4], rfl, hR'⟩⟩⟩
  | some c0 =>
    have hlt : p < s.length := (List.getElem?_eq_some_iff.1 hc).1
    have hltz : (p : Int) < s.length := by omega
    have hN := ev_next n S0 s p out c0 hc hs hn (by omega)
    rw [lexF, hc] at hR
    simp only at hR
    cases hx : nextR s p c0 with
    | none =>
      rw [hx] at hR hN
      simp only at hR hN
      refine ⟨.norm, ?_⟩
      have hS2 : (LSt S0 s (p + 1) out) = LSt S0 s (p + 1) out := rfl
      generalize hL2 : LSt S0 s (p + 1) out = L2 at hN
      generalize hL1 : LSt S0 s p out = L1 at *
      refine ⟨_, by
        simp (disch := first | (simp only [List.length_append, List.length_cons, List.length_nil]; omega) | (simp; done) | assumption) [AV.cells?, AV.isCell, alLoop, cutC, bodyOf, Tryz.f10, esc14, h0, h4, hL, tq61_1, tk61, k3, c3, a3, k9, sq9, bq3, tf27, hlt, hltz, hN]
        rfl, .inl ⟨rfl, m - 1, by omega, p + 1, out, f, by omega, by omega, by omega, by simp [upd, putA, h0], by simp [upd, putA, h4], hL2.symm, hR⟩⟩
    | some r =>
      rw [hx] at hR hN
      cases r with
      | err e =>
        simp only [ans_err] at hR hN
        refine ⟨.ret, ?_⟩
        generalize hL2 : ErrSt S0 s p out e = L2 at hN
        generalize hL1 : LSt S0 s p out = L1 at *
        obtain ⟨ea, eb, hev⟩ : ∃ ea eb, errV S0 = .iface ea (.ptr eb 0) := ⟨_, _, rfl⟩
        rw [hev] at hN
        refine ⟨_, by
          simp (disch := first | (simp only [List.length_append, List.length_cons, List.length_nil]; omega) | (simp; done) | assumption) [AV.cells?, AV.isCell, alLoop, cutC, bodyOf, Tryz.f10, esc14, h0, h4, hL, tq61_1, tk61, k3, c3, a3, k9, sq9, bq3, tf27, hlt, hltz, hN]
          rfl, .inr ⟨by simp, .inr ⟨rfl, p, out, e, by simp [upd, putA, rho, ofC, ofC0], by simp [upd, putA, rho, hev], hL2.symm, hR.symm⟩⟩⟩
      | word w to =>
        simp only [ans_word] at hR hN
        obtain ⟨g1, g2, g3⟩ := next_far hc hx
        refine ⟨.norm, ?_⟩
        generalize hL2 : LSt S0 s to (out ++ [w]) = L2 at hN
        generalize hL1 : LSt S0 s p out = L1 at *
        refine ⟨_, by
          simp (disch := first | (simp only [List.length_append, List.length_cons, List.length_nil]; omega) | (simp; done) | assumption) [AV.cells?, AV.isCell, alLoop, cutC, bodyOf, Tryz.f10, esc14, h0, h4, hL, tq61_1, tk61, k3, c3, a3, k9, sq9, bq3, tf27, hlt, hltz, hN]
          rfl, .inl ⟨rfl, s.length - to, by omega, to, out ++ [w], f, by omega, by simp; omega, by omega, by simp [upd, putA, h0], by simp [upd, putA, h4], hL2.symm, hR⟩⟩

theorem strip_tkL (t0 : Nat) : ∀ l : List Tk, AV.stripL t0 (tkL l) = tkL l
  | [] => rfl
  | t :: l => by
    have := strip_tkL t0 l
    simp only [tkL] at this
    simp [tkL, AV.stripL, Tk.emb, Tk.cells, AV.strip, this]
theorem low_tkL (h0 t0 : Nat) : ∀ l : List Tk, AV.lowL h0 t0 (tkL l) = true
  | [] => rfl
  | t :: l => by
    have := low_tkL h0 t0 l
    simp only [tkL] at this
    simp [tkL, AV.lowL, Tk.emb, Tk.cells, AV.low, this]
theorem sealed_tkL : ∀ l : List Tk, AV.sealedL (tkL l) = true
  | [] => rfl
  | t :: l => by
    have := sealed_tkL l
    simp only [tkL] at this
    simp [tkL, AV.sealedL, Tk.emb, Tk.cells, AV.sealed, this]
theorem fin_all (S0 : St) (s : List UInt8) (p : Nat) (out : List Tk) (t : Tk) : finish S0 (.tup [lv S0 (out ++ [t]), .nilif]) (LSt S0 s p (out ++ [t])) = some (.tup [.slice (tkL (out ++ [t])) .non, .nilif], S0) := by
  have hne : out ++ [t] ≠ [] := by simp
  unfold finish
  simp [lv, hne, AV.sealed, AV.sealedL, AV.strip, AV.stripL, AV.low, AV.lowL, sealed_tkL, strip_tkL, low_tkL, LSt, HS, boxEqL_refl]
theorem fin_hi {S S' : St} {id : Nat} (h : S.H.length ≤ id) (w : AV) (h1 : w.sealed = true) : finish S (.tup [w, .iface 64 (.ptr id 0)]) S' = some (.tup [w, .iface 64 (.ptr id 0)], S') := by
  unfold finish
  have : ¬ id < S.H.length := by omega
  simp [AV.sealed, AV.sealedL, AV.strip, AV.stripL, AV.low, AV.lowL, this, h1]

set_option maxHeartbeats 2000000 in
theorem ev_All (n : Nat) (S0 : St) (s : List UInt8) (hs : s.length ≤ 1100000) (hn : s.length + 40 < n) :
    (∀ l, lexAll s = .ok l → ev Tryz.prog E (n + 6) 10 [.str s] S0 = some (.ret (.tup [.slice (tkL l) .non, .nilif]), S0)) ∧
    (∀ c p, lexAll s = .error (c, p) → ∃ id S', S0.H.length ≤ id ∧ ev Tryz.prog E (n + 6) 10 [.str s] S0 = some (.ret (.tup [.slice [] .clip, .iface 64 (.ptr id 0)]), S') ∧ S'.H[id]? = some ⟨66, [.int .i64 c, .int .i64 (p : Int), .nilif]⟩ ∧ Grows S0 S') := by
  by_cases hlong : 4096 < s.length
  · have hlz : (4096 : Int) < s.length := by omega
    refine ⟨fun l h => by simp [lexAll, hlong] at h, fun c p h => ?_⟩
    simp [lexAll, hlong] at h
    obtain ⟨rfl, rfl⟩ := h
    have hE : ev Tryz.prog E (n + 5) 15 [.int .i64 5, .int .i64 0] S0 = _ := ev_New (n + 4) 5 0 S0
    have hid : S0.H.length ≤ S0.H.length := Nat.le_refl _
    have hg : (S0.H ++ [⟨66, [.int .i64 5, .int .i64 ((0 : Nat) : Int), .nilif]⟩])[S0.H.length]? = some (⟨66, [.int .i64 5, .int .i64 ((0 : Nat) : Int), .nilif]⟩ : HBox) := by simp
    refine ⟨S0.H.length, ⟨S0.H ++ [⟨66, [.int .i64 5, .int .i64 ((0 : Nat) : Int), .nilif]⟩], S0.T⟩, hid, ?_, hg, ⟨by simp, by simp⟩⟩
    have hf := fin_hi (S := S0) (S' := ⟨S0.H ++ [⟨66, [.int .i64 5, .int .i64 ((0 : Nat) : Int), .nilif]⟩], S0.T⟩) hid (.slice [] .clip) rfl
    simp only [Int.ofNat_zero, Int.natCast_zero] at hf hE ⊢
    generalize (⟨S0.H ++ [⟨66, [.int .i64 5, .int .i64 0, .nilif]⟩], S0.T⟩ : St) = L2 at *
    rw [show n + 6 = (n + 5) + 1 from rfl, ev_enter (n := n + 5) (show E.ok 10 = true from rfl) Tryz.func10 (fn := Tryz.f10) rfl (Nat.le_of_ble_eq_true rfl) (by decide +kernel)]
    simp (disch := first | (simp only [List.length_append, List.length_cons, List.length_nil]; omega) | (simp; done) | assumption) [AV.cells?, AV.isCell, Tryz.f10, esc14, k9, sq9, bq3, hlong, hlz, hE, hf, ofC]
  · have hlz : ¬ (4096 : Int) < s.length := by omega
    have hs : s.length ≤ 1048576 := by omega
    have hR : lexAll s = lexF s (s.length + 1) 0 [] := if_neg hlong
    rw [hR]
    generalize hRR : lexF s (s.length + 1) 0 [] = R
    have hL0 : (⟨S0.H ++ [⟨54, [.str s, .int .i64 0, .slice [] .clip]⟩], S0.T⟩ : St) = LSt S0 s 0 [] := by simp [LSt, HS, lv, lT, tkL]
    have hbd : evBuild Tryz.prog 54 [(0, .str s)] = some (.agg [.str s, .int .i64 0, .slice [] .clip]) := by simp [evBuild, tp61, tz61, fillA, tl61_0, AV.cells?, wrc]
    obtain ⟨fs1, e1, p1⟩ : ∃ fs', evCode ⟨Tryz.prog, E.esc 10, n + 5⟩ (ev Tryz.prog E (n + 5)) (E.ps 10) (n + 5) (.seq al0 (.seq al1 al2)) ⟨argsA [.str s], fun _ => (0, []), 0, S0⟩ = some (.norm, fs') ∧ ALI S0 s R s.length fs' := by
      refine ⟨_, by
        simp (disch := first | (simp only [List.length_append, List.length_cons, List.length_nil]; omega) | (simp; done) | assumption) [AV.cells?, AV.isCell, -evBuild, al0, al1, al2, cutC, bodyOf, Tryz.f10, esc14, k9, sq9, bq3, hlong, hlz, hbd, tn55, tc61, tk61, ta61, AV.sealed, AV.sealedL]
        rfl, 0, [], s.length + 1, by omega, by simp, by omega, by simp [upd, putA, argsA], by simp [upd, putA], hL0, hRR⟩
    obtain ⟨⟨o, fs2⟩, r1, r2⟩ := iter_meas (fun m' fs h => al_round n S0 s R hs hn m' fs h) s.length (n + 5) fs1 (by omega) p1
    have main : ∀ res, (match o with | .ret => fromBody Tryz.prog ⟨Tryz.prog, E.esc 10, n + 5⟩ S0 Tryz.f10.results.toList (some (.ret, fs2)) | _ => fromBody Tryz.prog ⟨Tryz.prog, E.esc 10, n + 5⟩ S0 Tryz.f10.results.toList (evCode ⟨Tryz.prog, E.esc 10, n + 5⟩ (ev Tryz.prog E (n + 5)) (E.ps 10) (n + 5) al3 fs2)) = res → (o = .ret ∨ o = .exit 0) → ev Tryz.prog E (n + 6) 10 [.str s] S0 = res := by
      intro res h ho
      rw [show n + 6 = (n + 5) + 1 from rfl, ev_enter (n := n + 5) (show E.ok 10 = true from rfl) Tryz.func10 f14b (Nat.le_of_ble_eq_true rfl) (by decide +kernel)]
      rw [evCode_assoc] at e1
      rw [evCode_assoc, evCode_assoc, evCode_seq, e1, seqK_norm, evCode_seq, evCode_block, evCode_loop, r1]
      rcases ho with rfl | rfl
      · rw [← h]; rfl
      · rw [blockK_exit, if_pos rfl, seqK_norm, ← h]
    obtain ⟨t, b, c, S⟩ := fs2
    rcases r2 with ⟨q1, p, out, q2, q3, q4, q5, q6⟩ | ⟨q1, p, out, c', q2, q3, q4, q5⟩
    · simp only at q1 q4 q5
      subst q1 q5 q6
      refine ⟨fun l hl => ?_, fun c p h => by cases h⟩
      cases hl
      refine main _ ?_ (.inr rfl)
      simp only
      clear main r1 e1 p1
      have hL := LSt_get S0 s p out
      have hP := ev_put (n + 4) S0 s p out ⟨5, [], 0, 0⟩ p (by omega)
      have hf := fin_all S0 s p out ⟨5, [], 0, p⟩
      have hL' := LSt_get S0 s p (out ++ [⟨5, [], 0, p⟩])
      have hbT : evBuild Tryz.prog 45 [(0, .int .i64 5)] = some (Tk.emb ⟨5, [], 0, 0⟩) := by
        have : Tk.emb ⟨5, [], 0, 0⟩ = .agg [.int .i64 5, .str [], .int .i64 0, .int .i64 0] := rfl
        rw [this]
        simp [evBuild, tp46, tz46, fillA, tl46_0, AV.cells?, wrc]
      have hcl : ∀ o, (lv S0 o).cells? = some [lv S0 o] := fun o => by unfold lv; split <;> rfl
      have hcl' : ∀ o, (lv S0 o).isCell = true := fun o => by unfold lv; split <;> rfl
      simp only at hP
      generalize LSt S0 s p (out ++ [⟨5, [], 0, p⟩]) = L2 at *
      generalize LSt S0 s p out = L1 at *
      have hcl1 := hcl (out ++ [⟨5, [], 0, p⟩])
      have hcl2 := hcl' (out ++ [⟨5, [], 0, p⟩])
      generalize lv S0 (out ++ [⟨5, [], 0, p⟩]) = l2 at *
      generalize tkL (out ++ [⟨5, [], 0, p⟩]) = tl2 at *
      generalize Tk.emb ⟨5, [], 0, 0⟩ = te at *
      simp (disch := first | (simp only [List.length_append, List.length_cons, List.length_nil]; omega) | (simp; done) | assumption) [AV.cells?, AV.isCell, -evBuild, al3, cutC, bodyOf, Tryz.f10, esc14, q4, hL, hL', tq61_1, tq61_2, tk61, k3, c3, a3, tk39, tc39, ta39, hbT, hP, hf, hcl1, hcl2]
    · simp only at q1 q2 q3 q4
      subst q1 q4 q5
      refine ⟨fun l hl => (by cases hl), fun c p h => ?_⟩
      cases h
      have hid : S0.H.length ≤ S0.H.length + 1 := by omega
      refine ⟨S0.H.length + 1, ErrSt S0 s p out c', hid, ?_, by simp [ErrSt, HS], ⟨by simp [ErrSt, HS], by simp [ErrSt]⟩⟩
      refine main _ ?_ (.inl rfl)
      simp only
      clear main r1 e1 p1
      have hf := fin_hi (S := S0) (S' := ErrSt S0 s p out c') hid (.slice [] .clip) rfl
      simp only [errV] at q3
      generalize ErrSt S0 s p out c' = L2 at *
      simp (disch := first | (simp only [List.length_append, List.length_cons, List.length_nil]; omega) | (simp; done) | assumption) [AV.cells?, AV.isCell, Tryz.f10, q2, q3, hf]
end Go.Proofs.YtmhidempoabehaaGreatDoor.LX
/- The parser: its state; what stands here; is, need, take, fail, evaluated. No condition. -/
namespace Go.Proofs.YtmhidempoabehaaGreatDoor.PS
set_option linter.unusedVariables false
set_option linter.unusedSimpArgs false
open Go AE EX PT NF LX
set_option maxRecDepth 100000

/-- the word that stands here -/
def hereT (l : List Tk) (p : Nat) : Tk :=
  match l[p]? with
  | some t => t
  | none => match l.getLast? with
    | some t => ⟨5, [], 0, t.p⟩
    | none => ⟨5, [], 0, 0⟩
def box (l : List Tk) (p d : Nat) : HBox := ⟨59, [.slice (tkL l) .non, .int .i64 p, .int .i64 d]⟩
/-- the parser's box stands at a -/
def PSt (H0 : List HBox) (T : List Nat) (a : Nat) (l : List Tk) (p d : Nat) : St := ⟨H0.set a (box l p d), T⟩
theorem PSt_get {H0 : List HBox} {a : Nat} (ha : a < H0.length) (T : List Nat) (l : List Tk) (p d : Nat) : (PSt H0 T a l p d).H[a]? = some ⟨59, [.slice (tkL l) .non, .int .i64 p, .int .i64 d]⟩ := by
  simp [PSt, ha, box]
theorem PSt_set {H0 : List HBox} {a : Nat} (T : List Nat) (l : List Tk) (p d q e : Nat) : (⟨(PSt H0 T a l p d).H.set a ⟨59, [.slice (tkL l) .non, .int .i64 q, .int .i64 e]⟩, (PSt H0 T a l p d).T⟩ : St) = PSt H0 T a l q e := by
  simp [PSt, box]
theorem PSt_fin {H0 : List HBox} {a : Nat} (T : List Nat) (l : List Tk) (p d q e : Nat) {v : AV} (h1 : v.sealed = true) (h2 : v.strip T.length = v) (h3 : v.low H0.length T.length = true) : finish (PSt H0 T a l p d) v (PSt H0 T a l q e) = some (v, PSt H0 T a l q e) :=
  finish_same h1 (by simpa [PSt] using h2) (by simpa [PSt] using h3) (by simp [PSt]) rfl

theorem sl_get (l : List Tk) (p : Nat) : (tkL l)[p]? = (l[p]?).map Tk.emb := by simp [tkL]
theorem tkcells (t : Tk) : t.emb.cells? = some t.cells := by simp [Tk.emb, Tk.cells, AV.cells?, AV.isCell]
theorem ia (l : List Tk) (k : Tok) (i : Nat) (t : Tk) (h : l[i]? = some t) : evIndexAddr Tryz.prog 35 (.slice (tkL l) k) (.int .i64 (i : Int)) = some (.ref t.cells) := by
  have hc := tkcells t
  have hi : (Tryz.prog.info? 45).isSome = true := ti46
  simp [evIndexAddr, ts39, nth, sl_get, h, hc, tc46, tk_len]
  exact Option.isSome_iff_ne_none.1 hi

theorem fin_tk (t : Tk) (S : St) : finish S t.emb S = some (t.emb, S) := finish_same rfl rfl rfl rfl rfl
theorem ev_here (n : Nat) (a : Nat) (S : St) (l : List Tk) (p d : Nat) (hS : S.H[a]? = some ⟨59, [.slice (tkL l) .non, .int .i64 p, .int .i64 d]⟩) (hl : l.length ≤ 2000000) :
    ev Tryz.prog E (n + 1) 62 [.ptr a 0] S = some (.ret (hereT l p).emb, S) := by
  have hlen := tkL_length l
  have hp1 : E.ps 62 1 = [(3, 7)] := rfl
  have hp2 : E.ps 62 2 = [(3, 7)] := rfl
  have hp4 : E.ps 62 4 = [(3, 7)] := rfl
  by_cases hp : p < l.length
  · have hpz : (p : Int) < l.length := by omega
    have hx : l[p]? = some l[p] := List.getElem?_eq_getElem hp
    have hia := ia l .non p _ hx
    have hh : hereT l p = l[p] := by simp [hereT, hx]
    rw [hh]
    have hf := fin_tk l[p] S
    generalize l[p] = t at *
    obtain ⟨k, ts, tn, tp⟩ := t
    simp only [Tk.emb, Tk.cells] at hf hia ⊢
    generalize hes : tkL l = es at *
    rw [ev_enter (n := n) (show E.ok 62 = true from rfl) Tryz.func62 (fn := Tryz.f62) rfl (Nat.le_of_ble_eq_true rfl) (by decide +kernel)]
    simp (disch := first | (simp only [List.length_append, List.length_cons, List.length_nil]; omega) | (simp; done) | assumption) [AV.cells?, AV.isCell, -evIndexAddr, Tryz.f62, E_esc, hS, hlen, tq66_0, tq66_1, tk66, k3, c3, a3, tk39, tc39, ta39, ts39, bq3, hp, hpz, hia, tc46, ta46, tk46, ti46, tz46, hp1, hp2, hf]
  · have hpz : ¬ (p : Int) < l.length := by omega
    have hn : l[p]? = none := List.getElem?_eq_none (by omega)
    cases hl0 : l.getLast? with
    | none =>
      have h0 : l = [] := by simpa using hl0
      subst h0
      have hh : hereT [] p = ⟨5, [], 0, 0⟩ := rfl
      rw [hh]
      have hf := fin_tk ⟨5, [], 0, 0⟩ S
      simp only [Tk.emb, Tk.cells] at hf ⊢
      simp only [tkL, List.map_nil] at hS
      rw [ev_enter (n := n) (show E.ok 62 = true from rfl) Tryz.func62 (fn := Tryz.f62) rfl (Nat.le_of_ble_eq_true rfl) (by decide +kernel)]
      have hbd : evBuild Tryz.prog 45 [(0, .int .i64 5)] = some (.agg [.int .i64 5, .str [], .int .i64 0, .int .i64 0]) := by
        simp [evBuild, tp46, tz46, fillA, tl46_0, AV.cells?, wrc]
      have hnp : ¬ (p : Int) < 0 := by omega
      simp (disch := first | (simp only [List.length_append, List.length_cons, List.length_nil]; omega) | (simp; done) | assumption) [AV.cells?, AV.isCell, -evIndexAddr, -evBuild, Tryz.f62, E_esc, hS, tq66_0, tq66_1, tk66, k3, c3, a3, tk39, tc39, ta39, ts39, bq3, hnp, tc46, ta46, tk46, ti46, tz46, hbd, hp1, hf]
    | some t =>
      have hpos : 0 < l.length := by
        cases l with
        | nil => simp at hl0
        | cons => simp
      have hposz : (0 : Int) < l.length := by omega
      have hx : l[l.length - 1]? = some t := by rw [← List.getLast?_eq_getElem?]; exact hl0
      have hia := ia l .non (l.length - 1) t hx
      have hw : IntKind.i64.wrap ((l.length : Int) - 1) = ((l.length - 1 : Nat) : Int) := by rw [wrap64 _ (by omega)]; omega
      have hh : hereT l p = ⟨5, [], 0, t.p⟩ := by simp [hereT, hn, hl0]
      rw [hh]
      have hf := fin_tk ⟨5, [], 0, t.p⟩ S
      obtain ⟨k, ts, tn, tp⟩ := t
      simp only [Tk.emb, Tk.cells] at hf hia ⊢
      have hbd : evBuild Tryz.prog 45 [(0, .int .i64 5), (3, .int .i64 tp)] = some (.agg [.int .i64 5, .str [], .int .i64 0, .int .i64 tp]) := by
        simp [evBuild, tp46, tz46, fillA, tl46_0, tl46_3, AV.cells?, wrc]
      generalize tkL l = es at *
      generalize l.length - 1 = lm at *
      generalize l.length = ll at *
      rw [ev_enter (n := n) (show E.ok 62 = true from rfl) Tryz.func62 (fn := Tryz.f62) rfl (Nat.le_of_ble_eq_true rfl) (by decide +kernel)]
      simp (disch := first | (simp only [List.length_append, List.length_cons, List.length_nil]; omega) | (simp; done) | assumption) [AV.cells?, AV.isCell, -evIndexAddr, -evBuild, Tryz.f62, E_esc, hS, hlen, tq66_0, tq66_1, tk66, k3, c3, a3, tk39, tc39, ta39, ts39, bq3, hp, hpz, hpos, hposz, hw, hia, tq46_3, tc46, ta46, tk46, ti46, tz46, hbd, hp1, hp4, hf]

/-! ### words of the grammar -/
def kindOf (q : List UInt8) : Int := match q with
  | c :: _ => if (97 ≤ c.toNat ∧ c.toNat ≤ 122) then 1 else 4
  | [] => 4
theorem ev_kind (n : Nat) (c : UInt8) (q : List UInt8) (S : St) : ev Tryz.prog E (n + 1) 63 [.str (c :: q)] S = some (.ret (.int .i64 (kindOf (c :: q))), S) := by
  have hidx : evIndex Tryz.prog 9 (.str (c :: q)) (.int .i64 0) = some (.int .u8 (c.toNat : Int)) := by simp [evIndex, sq9]
  have hk : kindOf (c :: q) = if (97 ≤ c.toNat ∧ c.toNat ≤ 122) then 1 else 4 := rfl
  rw [hk]
  generalize c :: q = w at *
  rw [ev_enter (n := n) (show E.ok 63 = true from rfl) Tryz.func63 (fn := Tryz.f63) rfl (Nat.le_of_ble_eq_true rfl) (by decide +kernel)]
  have hb5 : boolQ Tryz.prog 5 = false := by kernel_rfl
  by_cases h1 : 97 ≤ c.toNat
  · have h1z : (97 : Int) ≤ c.toNat := by omega
    by_cases h2 : c.toNat ≤ 122
    · have h2z : (c.toNat : Int) ≤ 122 := by omega
      rw [if_pos ⟨h1, h2⟩]
      simp (disch := first | (simp only [List.length_append, List.length_cons, List.length_nil]; omega) | (simp; done) | assumption) [AV.cells?, AV.isCell, -evIndex, Tryz.f63, E_esc, hidx, hb5, h1z, h2z, h1, h2]
    · have h2z : ¬ (c.toNat : Int) ≤ 122 := by omega
      rw [if_neg (fun h => h2 h.2)]
      simp (disch := first | (simp only [List.length_append, List.length_cons, List.length_nil]; omega) | (simp; done) | assumption) [AV.cells?, AV.isCell, -evIndex, Tryz.f63, E_esc, hidx, hb5, h1z, h2z, h1, h2]
  · have h1z : ¬ (97 : Int) ≤ c.toNat := by omega
    rw [if_neg (fun h => h1 h.1)]
    simp (disch := first | (simp only [List.length_append, List.length_cons, List.length_nil]; omega) | (simp; done) | assumption) [AV.cells?, AV.isCell, -evIndex, Tryz.f63, E_esc, hidx, hb5, h1z, h1]

/-- does this word of the grammar stand here? -/
def isB (h : Nat → Tk) (p : Nat) (q : List UInt8) : Bool := ((h p).k == kindOf q) && ((h p).s == q)

theorem here_lt {l : List Tk} {p : Nat} (h : (hereT l p).k ≠ 5) : p < l.length := by
  by_cases hp : p < l.length
  · exact hp
  · exfalso
    apply h
    have hn : l[p]? = none := List.getElem?_eq_none (by omega)
    simp only [hereT, hn]
    split <;> rfl
theorem kindOf_ne (q : List UInt8) : kindOf q ≠ 5 := by
  unfold kindOf; split
  · split <;> decide
  · decide
theorem is_lt {l : List Tk} {p : Nat} {q : List UInt8} (h : isB (hereT l) p q = true) : p < l.length := by
  simp only [isB, Bool.and_eq_true, beq_iff_eq] at h
  exact here_lt (by rw [h.1]; exact kindOf_ne q)

section
variable {H0 : List HBox} {a : Nat} (ha : a < H0.length) (T : List Nat) (l : List Tk) (hl : l.length ≤ 2000000)
include ha hl
theorem ev_hereP (n p d : Nat) : ev Tryz.prog E (n + 1) 62 [.ptr a 0] (PSt H0 T a l p d) = some (.ret (hereT l p).emb, PSt H0 T a l p d) := ev_here n a _ l p d (PSt_get ha T l p d) hl

theorem ev_is (n p d : Nat) (c : UInt8) (q : List UInt8) : ev Tryz.prog E (n + 2) 41 [.ptr a 0, .str (c :: q)] (PSt H0 T a l p d) = some (.ret (.bool (isB (hereT l) p (c :: q))), PSt H0 T a l (if isB (hereT l) p (c :: q) then p + 1 else p) d) := by
  have hh := ev_hereP ha T l hl n p d
  have hk := ev_kind n c q (PSt H0 T a l p d)
  have hps : E.ps 41 2 = [(1, 3)] := rfl
  have hg := PSt_get ha T l p d
  have hset := PSt_set (H0 := H0) (a := a) T l p d (p + 1) d
  have hf1 := PSt_fin (H0 := H0) (a := a) T l p d p d (v := .bool false) rfl rfl rfl
  have hf2 := PSt_fin (H0 := H0) (a := a) T l p d (p + 1) d (v := .bool true) rfl rfl rfl
  have hw : isB (hereT l) p (c :: q) = true → IntKind.i64.wrap ((p : Int) + 1) = ((p + 1 : Nat) : Int) := fun h => by have := is_lt h; rw [wrap64 _ (by omega)]; omega
  unfold isB at hw ⊢
  generalize hereT l p = t at *
  generalize c :: q = w at *
  generalize kindOf w = kw at *
  obtain ⟨k, ts, tn, tp⟩ := t
  simp only [Tk.emb, Tk.cells] at hh ⊢
  rw [show n + 2 = (n + 1) + 1 from rfl, ev_enter (n := n + 1) (show E.ok 41 = true from rfl) Tryz.func41 (fn := Tryz.f41) rfl (Nat.le_of_ble_eq_true rfl) (by decide +kernel)]
  by_cases h1 : k = kw
  · have h1b : (k == kw) = true := by simp [h1]
    by_cases h2 : ts = w
    · have h2b : (ts == w) = true := by simp [h2]
      simp only [h1b, h2b, Bool.and_self, if_true] at hw ⊢
      have hw := hw trivial
      generalize hL1 : PSt H0 T a l p d = L1 at *
      generalize hL2 : PSt H0 T a l (p + 1) d = L2 at *
      generalize p + 1 = P1 at *
      subst h1 h2
      simp (disch := first | (simp only [List.length_append, List.length_cons, List.length_nil]; omega) | (simp; done) | assumption) [AV.cells?, AV.isCell, Tryz.f41, E_esc, AV.sealed, AV.sealedL, hh, hk, hg, tz46, tq46_0, tq46_1, tc46, ta46, tk46, ti46, tq66_1, tk66, k3, c3, a3, i3, k9, a9, c9, bq3, bq9, hps, hw, hset, hf2]
    · have h2b : (ts == w) = false := by simp [h2]
      simp only [h1b, h2b, Bool.true_and, if_false, Bool.false_eq_true]
      generalize hL1 : PSt H0 T a l p d = L1 at *
      subst h1
      simp (disch := first | (simp only [List.length_append, List.length_cons, List.length_nil]; omega) | (simp; done) | assumption) [AV.cells?, AV.isCell, Tryz.f41, E_esc, hh, hk, hg, tz46, tq46_0, tq46_1, tc46, ta46, tk46, ti46, tq66_1, tk66, k3, c3, a3, i3, k9, a9, c9, bq3, bq9, hps, h2, h2b, hf1]
  · have h1b : (k == kw) = false := by simp [h1]
    simp only [h1b, Bool.false_and, if_false, Bool.false_eq_true]
    generalize hL1 : PSt H0 T a l p d = L1 at *
    simp (disch := first | (simp only [List.length_append, List.length_cons, List.length_nil]; omega) | (simp; done) | assumption) [AV.cells?, AV.isCell, Tryz.f41, E_esc, hh, hk, hg, tz46, tq46_0, tq46_1, tc46, ta46, tk46, ti46, tq66_1, tk66, k3, c3, a3, i3, k9, a9, c9, bq3, bq9, hps, h1, h1b, hf1]
end
end Go.Proofs.YtmhidempoabehaaGreatDoor.PS
/- The parser: fail, need, take; expressions of it, evaluated. No condition. -/
namespace Go.Proofs.YtmhidempoabehaaGreatDoor.PS
set_option linter.unusedVariables false
set_option linter.unusedSimpArgs false
open Go AE EX PT NF LX
set_option maxRecDepth 100000

def bothX (k : Int) (x y : X) : X := .mk k [] 0 0 0 true [x, y]
def oneX (k : Int) (x : X) : X := .mk k [] 0 0 0 true [x]
def leafX (k : Int) (s : List UInt8) (n hi : Int) : X := .mk k s n 0 hi true []

theorem fl0 : placeQ Tryz.prog 25 0 = some (0, 1) := by kernel_rfl
theorem fl1 : placeQ Tryz.prog 25 1 = some (1, 1) := by kernel_rfl
theorem fl2 : placeQ Tryz.prog 25 2 = some (2, 1) := by kernel_rfl
theorem fl5 : placeQ Tryz.prog 25 5 = some (5, 1) := by kernel_rfl
theorem p25 : partsQ Tryz.prog 25 = true := by kernel_rfl
theorem bX5 (k : Int) (es : List X) : evBuild Tryz.prog 25 [(0, .int .i64 k), (5, .slice (embL es) .clip)] = some (X.mk k [] 0 0 0 true es).emb := by
  simp [evBuild, p25, z24, fillA, fl0, fl5, AV.cells?, wrc, X.emb, tokOf]
theorem bX2 (k : Int) (n : Int) : evBuild Tryz.prog 25 [(0, .int .i64 k), (2, .int .i64 n)] = some (leafX k [] n 0).emb := by
  simp [evBuild, p25, z24, fillA, fl0, fl2, AV.cells?, wrc, X.emb, tokOf, leafX, embL]
theorem bX1 (k : Int) (s : List UInt8) : evBuild Tryz.prog 25 [(0, .int .i64 k), (1, .str s)] = some (leafX k s 0 0).emb := by
  simp [evBuild, p25, z24, fillA, fl0, fl1, AV.cells?, wrc, X.emb, tokOf, leafX, embL]
theorem bX0 (k : Int) : evBuild Tryz.prog 25 [(0, .int .i64 k)] = some (leafX k [] 0 0).emb := by
  simp [evBuild, p25, z24, fillA, fl0, AV.cells?, wrc, X.emb, tokOf, leafX, embL]
theorem bXz : evBuild Tryz.prog 25 [] = some (leafX 0 [] 0 0).emb := by
  simp [evBuild, p25, z24, fillA, AV.cells?, wrc, X.emb, tokOf, leafX, embL]
theorem xcells (x : X) : x.emb.cells? = some x.cells := (cells_ok x).1
theorem xlen (x : X) : x.cells.length = 6 := (cells_ok x).2
theorem xtake (x : X) : List.take 6 x.cells = x.cells := by rw [List.take_of_length_le (by rw [xlen]; omega)]
theorem xemb (x : X) : AV.agg x.cells = x.emb := (emb_cells x).symm
theorem xisC (x : X) : x.emb.isCell = false := by cases x; rfl
theorem bS2 (x y : X) : evBuildSlice Tryz.prog 23 2 [(0, x.emb), (1, y.emb)] = some (.slice (embL [x, y]) .clip) := by
  have hx := xcells x
  have hy := xcells y
  have lx := xlen x
  have ly := xlen y
  have ex := xemb x
  have ey := xemb y
  simp [evBuildSlice, sq22, z24, c24, a24, evElems, hx, hy, lx, ly, ex, ey, embL]
theorem bS1 (x : X) : evBuildSlice Tryz.prog 23 1 [(0, x.emb)] = some (.slice (embL [x]) .clip) := by
  have hx := xcells x
  have lx := xlen x
  have ex := xemb x
  simp [evBuildSlice, sq22, z24, c24, a24, evElems, hx, lx, ex, embL]
theorem fin_emb (x : X) (S : St) : finish S x.emb S = some (x.emb, S) := finish_same (sealed_emb x) (strip_emb _ x) (low_emb _ _ x) rfl rfl

theorem ev_truth (n : Nat) (v : Int) (S : St) : ev Tryz.prog E (n + 1) 89 [.int .i64 v] S = some (.ret (leafX 2 [] v 0).emb, S) := by
  have hb := bX2 2 v
  have hf := fin_emb (leafX 2 [] v 0) S
  have hc := xcells (leafX 2 [] v 0)
  have hl := xlen (leafX 2 [] v 0)
  have ht := xtake (leafX 2 [] v 0)
  have he := xemb (leafX 2 [] v 0)
  generalize leafX 2 [] v 0 = x at *
  generalize x.cells = xc at *
  rw [ev_enter (n := n) (show E.ok 89 = true from rfl) Tryz.func89 (fn := Tryz.f89) rfl (Nat.le_of_ble_eq_true rfl) (by decide +kernel)]
  simp (disch := first | (simp only [List.length_append, List.length_cons, List.length_nil]; omega) | (simp; done) | assumption) [AV.cells?, AV.isCell, -AV.cells?, cq_int, cq_str, cq_slice, -evBuild, Tryz.f89, E_esc, hb, hc, hl, ht, he, hf, c24, a24, k24, i24, z24]
theorem ev_both (n : Nat) (k : Int) (x y : X) (S : St) : ev Tryz.prog E (n + 1) 42 [.int .i64 k, x.emb, y.emb] S = some (.ret (bothX k x y).emb, S) := by
  have hb : evBuild Tryz.prog 25 [(0, .int .i64 k), (5, .slice (embL [x, y]) .clip)] = some (bothX k x y).emb := bX5 k [x, y]
  have hbs := bS2 x y
  have hf := fin_emb (bothX k x y) S
  have hcx := xcells x
  have hlx := xlen x
  have htx := xtake x
  have hex := xemb x
  have hcy := xcells y
  have hly := xlen y
  have hty := xtake y
  have hey := xemb y
  have hc := xcells (bothX k x y)
  have hl := xlen (bothX k x y)
  have ht := xtake (bothX k x y)
  have he := xemb (bothX k x y)
  generalize embL [x, y] = es at *
  generalize bothX k x y = z at *
  generalize x.cells = xc at *
  generalize y.cells = yc at *
  generalize z.cells = zc at *
  generalize x.emb = xe at *
  generalize y.emb = ye at *
  generalize z.emb = ze at *
  rw [ev_enter (n := n) (show E.ok 42 = true from rfl) Tryz.func42 (fn := Tryz.f42) rfl (Nat.le_of_ble_eq_true rfl) (by decide +kernel)]
  simp (disch := first | (simp only [List.length_append, List.length_cons, List.length_nil]; omega) | (simp; done) | assumption) [AV.cells?, AV.isCell, -AV.cells?, cq_int, cq_str, cq_slice, -evBuild, -evBuildSlice, Tryz.f42, E_esc, hb, hbs, hc, hl, ht, he, hcx, hlx, htx, hex, hcy, hly, hty, hey, hf, c24, a24, k24, i24, z24]
theorem ev_one1 (n : Nat) (k : Int) (x : X) (S : St) : ev Tryz.prog E (n + 1) 77 [.int .i64 k, x.emb] S = some (.ret (oneX k x).emb, S) := by
  have hb : evBuild Tryz.prog 25 [(0, .int .i64 k), (5, .slice (embL [x]) .clip)] = some (oneX k x).emb := bX5 k [x]
  have hbs := bS1 x
  have hf := fin_emb (oneX k x) S
  have hcx := xcells x
  have hlx := xlen x
  have htx := xtake x
  have hex := xemb x
  have hc := xcells (oneX k x)
  have hl := xlen (oneX k x)
  have ht := xtake (oneX k x)
  have he := xemb (oneX k x)
  generalize embL [x] = es at *
  generalize oneX k x = z at *
  generalize x.cells = xc at *
  generalize z.cells = zc at *
  generalize x.emb = xe at *
  generalize z.emb = ze at *
  rw [ev_enter (n := n) (show E.ok 77 = true from rfl) Tryz.func77 (fn := Tryz.f77) rfl (Nat.le_of_ble_eq_true rfl) (by decide +kernel)]
  simp (disch := first | (simp only [List.length_append, List.length_cons, List.length_nil]; omega) | (simp; done) | assumption) [AV.cells?, AV.isCell, -AV.cells?, cq_int, cq_str, cq_slice, -evBuild, -evBuildSlice, Tryz.f77, E_esc, hb, hbs, hc, hl, ht, he, hcx, hlx, htx, hex, hf, c24, a24, k24, i24, z24]

/-- what fail panics with -/
def stopV (h : Nat → Tk) (c : Int) (p : Nat) : AV := .iface 61 (.agg [.int .i64 c, .int .i64 (h p).p])
section
variable {H0 : List HBox} {a : Nat} (ha : a < H0.length) (T : List Nat) (l : List Tk) (hl : l.length ≤ 2000000)
include ha hl
theorem ev_fail (n p d : Nat) (c : Int) : ev Tryz.prog E (n + 2) 83 [.ptr a 0, .int .i64 c] (PSt H0 T a l p d) = some (.pan (stopV (hereT l) c p), PSt H0 T a l p d) := by
  have hh := ev_hereP ha T l hl n p d
  have hf := PSt_fin (H0 := H0) (a := a) T l p d p d (v := stopV (hereT l) c p) rfl rfl rfl
  simp only [stopV] at hf ⊢
  generalize hereT l p = t at *
  generalize PSt H0 T a l p d = L1 at *
  obtain ⟨k, ts, tn, tp⟩ := t
  simp only [Tk.emb, Tk.cells] at hh
  simp only at hf ⊢
  have hbd : evBuild Tryz.prog 61 [(0, .int .i64 c), (1, .int .i64 tp)] = some (.agg [.int .i64 c, .int .i64 tp]) := by
    simp [evBuild, tp68, tz68, fillA, tl68_0, tl68_1, AV.cells?, wrc]
  rw [show n + 2 = (n + 1) + 1 from rfl, ev_enter (n := n + 1) (show E.ok 83 = true from rfl) Tryz.func83 (fn := Tryz.f83) rfl (Nat.le_of_ble_eq_true rfl) (by decide +kernel)]
  simp (disch := first | (simp only [List.length_append, List.length_cons, List.length_nil]; omega) | (simp; done) | assumption) [AV.cells?, AV.isCell, -evBuild, Tryz.f83, E_esc, hh, hbd, tq46_3, tc46, ta46, tk46, finPan, tn68, hf]
theorem ev_needT (n p d : Nat) (c : UInt8) (q : List UInt8) (hb : isB (hereT l) p (c :: q) = true) : ev Tryz.prog E (n + 4) 88 [.ptr a 0, .str (c :: q)] (PSt H0 T a l p d) = some (.ret (.tup []), PSt H0 T a l (p + 1) d) := by
  have hi := ev_is ha T l hl (n + 1) p d c q
  have hf := PSt_fin (H0 := H0) (a := a) T l p d (p + 1) d (v := .tup []) rfl rfl rfl
  rw [hb] at hi
  simp only [if_true] at hi
  generalize c :: q = w at *
  generalize PSt H0 T a l (p + 1) d = L2 at *
  generalize PSt H0 T a l p d = L1 at *
  rw [show n + 4 = (n + 3) + 1 from rfl, ev_enter (n := n + 3) (show E.ok 88 = true from rfl) Tryz.func88 (fn := Tryz.f88) rfl (Nat.le_of_ble_eq_true rfl) (by decide +kernel)]
  simp (disch := first | (simp only [List.length_append, List.length_cons, List.length_nil]; omega) | (simp; done) | assumption) [AV.cells?, AV.isCell, Tryz.f88, E_esc, hi, hf]
theorem ev_needF (n p d : Nat) (c : UInt8) (q : List UInt8) (hb : isB (hereT l) p (c :: q) = false) : ev Tryz.prog E (n + 4) 88 [.ptr a 0, .str (c :: q)] (PSt H0 T a l p d) = some (.pan (stopV (hereT l) 16 p), PSt H0 T a l p d) := by
  have hi := ev_is ha T l hl (n + 1) p d c q
  have hfl := ev_fail ha T l hl (n + 1) p d 16
  have hf := PSt_fin (H0 := H0) (a := a) T l p d p d (v := stopV (hereT l) 16 p) rfl rfl rfl
  rw [hb] at hi
  simp only [if_false, Bool.false_eq_true] at hi
  generalize c :: q = w at *
  generalize stopV (hereT l) 16 p = sv at *
  generalize PSt H0 T a l p d = L1 at *
  rw [show n + 4 = (n + 3) + 1 from rfl, ev_enter (n := n + 3) (show E.ok 88 = true from rfl) Tryz.func88 (fn := Tryz.f88) rfl (Nat.le_of_ble_eq_true rfl) (by decide +kernel)]
  simp (disch := first | (simp only [List.length_append, List.length_cons, List.length_nil]; omega) | (simp; done) | assumption) [AV.cells?, AV.isCell, Tryz.f88, E_esc, hi, hfl, finPan, hf]
theorem ev_takeT (n p d : Nat) (k : Int) (hk : k ≠ 5) (hb : (hereT l p).k = k) : ev Tryz.prog E (n + 3) 94 [.ptr a 0, .int .i64 k] (PSt H0 T a l p d) = some (.ret (hereT l p).emb, PSt H0 T a l (p + 1) d) := by
  have hh := ev_hereP ha T l hl (n + 1) p d
  have hg := PSt_get ha T l p d
  have hset := PSt_set (H0 := H0) (a := a) T l p d (p + 1) d
  have hf := PSt_fin (H0 := H0) (a := a) T l p d (p + 1) d (v := (hereT l p).emb) rfl rfl rfl
  have hplt : p < l.length := here_lt (by rw [hb]; exact hk)
  have hw : IntKind.i64.wrap ((p : Int) + 1) = ((p + 1 : Nat) : Int) := by rw [wrap64 _ (by omega)]; omega
  generalize hereT l p = t at *
  obtain ⟨kk, ts, tn, tp⟩ := t
  simp only at hb
  subst hb
  simp only [Tk.emb, Tk.cells] at hh hf ⊢
  generalize PSt H0 T a l (p + 1) d = L2 at *
  generalize PSt H0 T a l p d = L1 at *
  generalize p + 1 = P1 at *
  generalize tkL l = es at *
  rw [show n + 3 = (n + 2) + 1 from rfl, ev_enter (n := n + 2) (show E.ok 94 = true from rfl) Tryz.func94 (fn := Tryz.f94) rfl (Nat.le_of_ble_eq_true rfl) (by decide +kernel)]
  simp (disch := first | (simp only [List.length_append, List.length_cons, List.length_nil]; omega) | (simp; done) | assumption) [AV.cells?, AV.isCell, Tryz.f94, E_esc, AV.sealed, AV.sealedL, hh, hg, tz46, tq46_0, tq46_1, tc46, ta46, tk46, ti46, tq66_1, tk66, k3, c3, a3, i3, bq3, hw, hset, hf]
theorem ev_takeF (n p d : Nat) (k : Int) (hb : (hereT l p).k ≠ k) : ev Tryz.prog E (n + 3) 94 [.ptr a 0, .int .i64 k] (PSt H0 T a l p d) = some (.pan (stopV (hereT l) 16 p), PSt H0 T a l p d) := by
  have hh := ev_hereP ha T l hl (n + 1) p d
  have hfl := ev_fail ha T l hl n p d 16
  have hf := PSt_fin (H0 := H0) (a := a) T l p d p d (v := stopV (hereT l) 16 p) rfl rfl rfl
  generalize stopV (hereT l) 16 p = sv at *
  generalize hereT l p = t at *
  obtain ⟨kk, ts, tn, tp⟩ := t
  simp only at hb
  simp only [Tk.emb, Tk.cells] at hh ⊢
  generalize PSt H0 T a l p d = L1 at *
  rw [show n + 3 = (n + 2) + 1 from rfl, ev_enter (n := n + 2) (show E.ok 94 = true from rfl) Tryz.func94 (fn := Tryz.f94) rfl (Nat.le_of_ble_eq_true rfl) (by decide +kernel)]
  simp (disch := first | (simp only [List.length_append, List.length_cons, List.length_nil]; omega) | (simp; done) | assumption) [AV.cells?, AV.isCell, Tryz.f94, E_esc, hh, hb, hfl, tz46, tq46_0, tc46, ta46, tk46, ti46, k3, c3, a3, bq3, finPan, hf]
end
end Go.Proofs.YtmhidempoabehaaGreatDoor.PS
/- The parser as plain functions over the words. No condition. -/
namespace Go.Proofs.YtmhidempoabehaaGreatDoor.PS
set_option linter.unusedVariables false
set_option linter.unusedSimpArgs false
open Go AE EX PT NF LX
set_option maxRecDepth 100000

/-- an error's code and where it stood; or a value and the place behind it -/
abbrev PR (α : Type) := Except (Int × Nat) (α × Nat)
def PR.th {α β : Type} (x : PR α) (f : α → Nat → PR β) : PR β :=
  match x with
  | .ok (v, q) => f v q
  | .error e => .error e
theorem th_ok {α β : Type} (v : α) (q : Nat) (f : α → Nat → PR β) : PR.th (.ok (v, q)) f = f v q := rfl
theorem th_err {α β : Type} (e : Int × Nat) (f : α → Nat → PR β) : PR.th (.error e) f = .error e := rfl

section
variable (h : Nat → Tk)
def needP (q : List UInt8) (p : Nat) : PR Unit := if isB h p q = true then .ok ((), p + 1) else .error (16, p)
def takeP (k : Int) (p : Nat) : PR Tk := if (h p).k = k then .ok (h p, p + 1) else .error (16, p)
/-- which of the signs stands here? -/
def opAt (p : Nat) : List (List UInt8 × Int) → Option Int
  | [] => none
  | (q, k) :: r => if isB h p q = true then some k else opAt p r
def loopF (ops : List (List UInt8 × Int)) (sub : Nat → PR X) : Nat → X → Nat → PR X
  | 0, e, p => .error (0, p)
  | f + 1, e, p => match opAt h p ops with
    | none => .ok (e, p)
    | some k => (sub (p + 1)).th fun x r => loopF ops sub f (bothX k e x) r
def chainP (F : Nat) (ops : List (List UInt8 × Int)) (sub : Nat → PR X) (p : Nat) : PR X := (sub p).th fun e r => loopF h ops sub F e r
def relP (sub : Nat → PR X) (p : Nat) : PR X := (sub p).th fun e r =>
  if isB h r [61] = true then (sub (r + 1)).th fun x q => .ok (bothX 14 e x, q)
  else if isB h r [33, 61] = true then (sub (r + 1)).th fun x q => .ok (oneX 18 (bothX 14 e x), q)
  else if isB h r [60] = true then (sub (r + 1)).th fun x q => .ok (bothX 15 e x, q)
  else if isB h r [60, 61] = true then (sub (r + 1)).th fun x q => .ok (bothX 16 e x, q)
  else if isB h r [105, 110] = true then (sub (r + 1)).th fun x q => .ok (bothX 17 e x, q)
  else .ok (e, r)
def prodP (F : Nat) (one : Nat → PR X) : Nat → PR X := chainP h F [([42], 10)] one
def sumP (F : Nat) (one : Nat → PR X) : Nat → PR X := chainP h F [([43], 8), ([45], 9)] (prodP h F one)
def allP (F : Nat) (one : Nat → PR X) : Nat → PR X := chainP h F [([97, 110, 100], 19)] (relP h (sumP h F one))
def anyP (F : Nat) (one : Nat → PR X) : Nat → PR X := chainP h F [([111, 114], 20)] (allP h F one)
/-- the last text of a set so far -/
def lastS (ks : List X) : List UInt8 := match ks.getLast? with
  | some (.mk _ s _ _ _ _ _) => s
  | none => []
def setBad (ks : List X) (s : List UInt8) : Bool := (ks.length == 8) || (decide (0 < ks.length) && (Op.bytesLess s (lastS ks) || s == lastS ks))
def setX (ks : List X) : X := .mk 4 [] 0 0 0 false ks
def setF : Nat → List X → Nat → PR X
  | 0, ks, p => .error (0, p)
  | f + 1, ks, p => (takeP h 3 p).th fun t r =>
    if setBad ks t.s = true then .error (16, r)
    else if isB h r [125] = true then .ok (setX (ks ++ [leafX 3 t.s 0 0]), r + 1)
    else (needP h [44] r).th fun _ q => setF f (ks ++ [leafX 3 t.s 0 0]) q
def setP (F : Nat) (p : Nat) : PR X := if isB h p [125] = true then .ok (leafX 4 [] 0 0, p + 1) else setF h F [] p
def argP (any : Nat → PR X) (p : Nat) : PR X := (needP h [40] p).th fun _ q => (any q).th fun e r => (needP h [41] r).th fun _ t => .ok (e, t)
def signedP (F : Nat) (one any : Nat → PR X) (p : Nat) : PR X :=
  if isB h p [45] = true then (one (p + 1)).th fun x r => .ok (oneX 11 x, r)
  else if isB h p [123] = true then setP h F (p + 1)
  else argP h any p
def attrP (side : Int) (p : Nat) : PR X := (needP h [46] p).th fun _ q => (takeP h 1 q).th fun t r => .ok (leafX side t.s 0 0, r)
def timesP (p : Nat) : PR X := (needP h [40] p).th fun _ q => (takeP h 1 q).th fun t r => (needP h [44] r).th fun _ r2 => (takeP h 2 r2).th fun u r3 => (needP h [41] r3).th fun _ r4 => .ok (leafX 13 t.s 0 u.n, r4)
def actP (p : Nat) : PR X := (needP h [40] p).th fun _ q => (takeP h 1 q).th fun t r => (needP h [41] r).th fun _ r4 => .ok (leafX 21 t.s 0 0, r4)
def spanP (p : Nat) : PR (Int × Int) := (needP h [91] p).th fun _ q => (takeP h 2 q).th fun t r => (needP h [44] r).th fun _ r2 =>
  if isB h r2 [42] = true then (needP h [93] (r2 + 1)).th fun _ r4 => .ok ((t.n, -1), r4)
  else (takeP h 2 r2).th fun u r3 => if u.n < t.n then .error (16, r3) else (needP h [93] r3).th fun _ r4 => .ok ((t.n, u.n), r4)
def lookP (k : Int) (any : Nat → PR X) (p : Nat) : PR X := (spanP h p).th fun lh r => (argP h any r).th fun e q => .ok (.mk k [] 0 lh.1 lh.2 true [e], q)
def sinceP (any : Nat → PR X) (p : Nat) : PR X := (spanP h p).th fun lh r => (needP h [40] r).th fun _ r2 => (any r2).th fun x r3 => (needP h [44] r3).th fun _ r4 => (any r4).th fun y r5 => (needP h [41] r5).th fun _ r6 => .ok (.mk 24 [] 0 lh.1 lh.2 true [x, y], r6)
def timedP (any : Nat → PR X) (p : Nat) : PR X :=
  if isB h p [111, 110, 99, 101] = true then lookP h 22 any (p + 1)
  else if isB h p [104, 105, 115, 116] = true then lookP h 23 any (p + 1)
  else if isB h p [115, 105, 110, 99, 101] = true then sinceP h any (p + 1)
  else .error (16, p)
def namedP (one any : Nat → PR X) (p : Nat) : PR X :=
  if isB h p [116, 114, 117, 101] = true then .ok (leafX 2 [] 1 0, p + 1)
  else if isB h p [102, 97, 108, 115, 101] = true then .ok (leafX 2 [] 0 0, p + 1)
  else if isB h p [110, 111, 119] = true then .ok (leafX 7 [] 0 0, p + 1)
  else if isB h p [110, 111, 116] = true then (one (p + 1)).th fun x r => .ok (oneX 18 x, r)
  else if isB h p [115] = true then attrP h 5 (p + 1)
  else if isB h p [111] = true then attrP h 6 (p + 1)
  else if isB h p [97, 99, 116] = true then actP h (p + 1)
  else if isB h p [116, 105, 109, 101, 115] = true then timesP h (p + 1)
  else if isB h p [108, 101, 110] = true then (argP h any (p + 1)).th fun x r => .ok (oneX 12 x, r)
  else if isB h p [112, 114, 101, 118] = true then (argP h any (p + 1)).th fun x r => .ok (oneX 25 x, r)
  else timedP h any p
/-- one expression that stands by itself, by how many levels there still are -/
def oneF (F : Nat) : Nat → Nat → PR X
  | 0, p => .error (32, p)
  | k + 1, p =>
    if (h p).k = 2 then .ok (leafX 1 [] (h p).n 0, p + 1)
    else if (h p).k = 3 then .ok (leafX 3 (h p).s 0 0, p + 1)
    else if (h p).k = 4 then signedP h F (oneF F k) (anyP h F (oneF F k)) p
    else if (h p).k = 1 then namedP h (oneF F k) (anyP h F (oneF F k)) p
    else .error (16, p)
end

/-! ### the place does not go back -/
def Mono {α : Type} (sub : Nat → PR α) : Prop := ∀ p x r, sub p = .ok (x, r) → p ≤ r
theorem th_split {α β : Type} {x : PR α} {f : α → Nat → PR β} {b : β × Nat} (h : PR.th x f = .ok b) : ∃ v q, x = .ok (v, q) ∧ f v q = .ok b := by
  match x, h with
  | .ok (v, q), h => exact ⟨v, q, rfl, h⟩
  | .error e, h => cases h
section
variable {h : Nat → Tk}
theorem mono_need (q : List UInt8) : Mono (needP h q) := by
  intro p x r hh
  unfold needP at hh
  split at hh <;> cases hh
  omega
theorem mono_take (k : Int) : Mono (takeP h k) := by
  intro p x r hh
  unfold takeP at hh
  split at hh <;> cases hh
  omega
theorem mono_loop {ops : List (List UInt8 × Int)} {sub : Nat → PR X} (hs : Mono sub) : ∀ f e, Mono (loopF h ops sub f e)
  | 0, e => by intro p x r hh; cases hh
  | f + 1, e => by
    intro p x r hh
    rw [loopF] at hh
    split at hh
    · cases hh; omega
    · obtain ⟨v, q, h1, h2⟩ := th_split hh
      have := hs _ _ _ h1
      have := mono_loop hs f _ _ _ _ h2
      omega
theorem mono_chain {ops : List (List UInt8 × Int)} {sub : Nat → PR X} (hs : Mono sub) (F : Nat) : Mono (chainP h F ops sub) := by
  intro p x r hh
  obtain ⟨v, q, h1, h2⟩ := th_split hh
  have := hs _ _ _ h1
  have := mono_loop hs F _ _ _ _ h2
  omega
theorem mono_th2 {α β : Type} {sub : Nat → PR α} (hs : Mono sub) {g : α → Nat → β} {p : Nat} {x : β} {r : Nat} (hh : (sub p).th (fun x q => .ok (g x q, q)) = .ok (x, r)) : p ≤ r := by
  obtain ⟨v, q, h1, h2⟩ := th_split hh
  cases h2
  exact hs _ _ _ h1
theorem mono_rel {sub : Nat → PR X} (hs : Mono sub) : Mono (relP h sub) := by
  intro p x r hh
  obtain ⟨v, q, h1, h2⟩ := th_split hh
  have h3 := hs _ _ _ h1
  have key : ∀ {g : X → Nat → X}, (sub (q + 1)).th (fun x q => .ok (g x q, q)) = .ok (x, r) → p ≤ r := fun hh => by
    have := mono_th2 hs hh
    omega
  split at h2
  · exact key h2
  · split at h2
    · exact key h2
    · split at h2
      · exact key h2
      · split at h2
        · exact key h2
        · split at h2
          · exact key h2
          · cases h2; omega
theorem mono_arg {any : Nat → PR X} (hs : Mono any) : Mono (argP h any) := by
  intro p x r hh
  obtain ⟨v, q, h1, h2⟩ := th_split hh
  obtain ⟨v2, q2, h3, h4⟩ := th_split h2
  obtain ⟨v3, q3, h5, h6⟩ := th_split h4
  have := mono_need _ _ _ _ h1
  have := hs _ _ _ h3
  have := mono_need _ _ _ _ h5
  cases h6
  omega
theorem mono_setF : ∀ f ks, Mono (setF h f ks)
  | 0, ks => by intro p x r hh; cases hh
  | f + 1, ks => by
    intro p x r hh
    rw [setF] at hh
    obtain ⟨v, q, h1, h2⟩ := th_split hh
    have := mono_take _ _ _ _ h1
    split at h2
    · cases h2
    · split at h2
      · cases h2; omega
      · obtain ⟨v2, q2, h3, h4⟩ := th_split h2
        have := mono_need _ _ _ _ h3
        have := mono_setF f _ _ _ _ h4
        omega
theorem mono_signed {F : Nat} {one any : Nat → PR X} (h1 : Mono one) (h2 : Mono any) : Mono (signedP h F one any) := by
  intro p x r hh
  unfold signedP at hh
  split at hh
  · have := mono_th2 h1 hh; omega
  · split at hh
    · unfold setP at hh
      split at hh
      · cases hh; omega
      · have := mono_setF _ _ _ _ _ hh; omega
    · exact mono_arg h2 _ _ _ hh
theorem mono_attr (side : Int) : Mono (attrP h side) := by
  intro p x r hh
  obtain ⟨v, q, h1, h2⟩ := th_split hh
  have := mono_need _ _ _ _ h1
  have := mono_th2 (mono_take _) h2
  omega
theorem mono_act : Mono (actP h) := by
  intro p x r hh
  obtain ⟨v, q, h1, h2⟩ := th_split hh
  obtain ⟨v2, q2, h3, h4⟩ := th_split h2
  have := mono_need _ _ _ _ h1
  have := mono_take _ _ _ _ h3
  have := mono_th2 (mono_need _) h4
  omega
theorem mono_times : Mono (timesP h) := by
  intro p x r hh
  obtain ⟨v, q, h1, h2⟩ := th_split hh
  obtain ⟨v2, q2, h3, h4⟩ := th_split h2
  obtain ⟨v3, q3, h5, h6⟩ := th_split h4
  obtain ⟨v4, q4, h7, h8⟩ := th_split h6
  have := mono_need _ _ _ _ h1
  have := mono_take _ _ _ _ h3
  have := mono_need _ _ _ _ h5
  have := mono_take _ _ _ _ h7
  have := mono_th2 (mono_need _) h8
  omega
theorem mono_span : Mono (spanP h) := by
  intro p x r hh
  obtain ⟨v, q, h1, h2⟩ := th_split hh
  obtain ⟨v2, q2, h3, h4⟩ := th_split h2
  obtain ⟨v3, q3, h5, h6⟩ := th_split h4
  have := mono_need _ _ _ _ h1
  have := mono_take _ _ _ _ h3
  have := mono_need _ _ _ _ h5
  split at h6
  · have := mono_th2 (mono_need _) h6
    omega
  · obtain ⟨v4, q4, h7, h8⟩ := th_split h6
    have := mono_take _ _ _ _ h7
    split at h8
    · cases h8
    · have := mono_th2 (mono_need _) h8
      omega
theorem mono_look {any : Nat → PR X} (hs : Mono any) (k : Int) : Mono (lookP h k any) := by
  intro p x r hh
  obtain ⟨v, q, h1, h2⟩ := th_split hh
  have := mono_span _ _ _ h1
  have := mono_th2 (mono_arg hs) h2
  omega
theorem mono_since {any : Nat → PR X} (hs : Mono any) : Mono (sinceP h any) := by
  intro p x r hh
  obtain ⟨v, q, h1, h2⟩ := th_split hh
  obtain ⟨v2, q2, h3, h4⟩ := th_split h2
  obtain ⟨v3, q3, h5, h6⟩ := th_split h4
  obtain ⟨v4, q4, h7, h8⟩ := th_split h6
  obtain ⟨v5, q5, h9, h10⟩ := th_split h8
  have := mono_span _ _ _ h1
  have := mono_need _ _ _ _ h3
  have := hs _ _ _ h5
  have := mono_need _ _ _ _ h7
  have := hs _ _ _ h9
  have := mono_th2 (mono_need _) h10
  omega
theorem mono_timed {any : Nat → PR X} (hs : Mono any) : Mono (timedP h any) := by
  intro p x r hh
  unfold timedP at hh
  split at hh
  · have := mono_look hs _ _ _ _ hh; omega
  · split at hh
    · have := mono_look hs _ _ _ _ hh; omega
    · split at hh
      · have := mono_since hs _ _ _ hh; omega
      · cases hh
theorem mono_named {one any : Nat → PR X} (h1 : Mono one) (h2 : Mono any) : Mono (namedP h one any) := by
  intro p x r hh
  unfold namedP at hh
  split at hh
  · cases hh; omega
  · split at hh
    · cases hh; omega
    · split at hh
      · cases hh; omega
      · split at hh
        · have := mono_th2 h1 hh; omega
        · split at hh
          · have := mono_attr _ _ _ _ hh; omega
          · split at hh
            · have := mono_attr _ _ _ _ hh; omega
            · split at hh
              · have := mono_act _ _ _ hh; omega
              · split at hh
                · have := mono_times _ _ _ hh; omega
                · split at hh
                  · have := mono_th2 (mono_arg h2) hh; omega
                  · split at hh
                    · have := mono_th2 (mono_arg h2) hh; omega
                    · exact mono_timed h2 _ _ _ hh
theorem mono_any {F : Nat} {one : Nat → PR X} (h1 : Mono one) : Mono (prodP h F one) ∧ Mono (sumP h F one) ∧ Mono (allP h F one) ∧ Mono (anyP h F one) := by
  have a1 : Mono (prodP h F one) := mono_chain h1 F
  have a2 : Mono (sumP h F one) := mono_chain a1 F
  have a3 : Mono (allP h F one) := mono_chain (mono_rel a2) F
  exact ⟨a1, a2, a3, mono_chain a3 F⟩
theorem mono_one (F : Nat) : ∀ k, Mono (oneF h F k)
  | 0 => by intro p x r hh; cases hh
  | k + 1 => by
    intro p x r hh
    have ih := mono_one F k
    rw [oneF] at hh
    split at hh
    · cases hh; omega
    · split at hh
      · cases hh; omega
      · split at hh
        · exact mono_signed ih (mono_any ih).2.2.2 _ _ _ hh
        · split at hh
          · exact mono_named ih (mono_any ih).2.2.2 _ _ _ hh
          · cases hh
end
end Go.Proofs.YtmhidempoabehaaGreatDoor.PS
/- How great what the parser builds can be: by the words it has passed. No condition. -/
namespace Go.Proofs.YtmhidempoabehaaGreatDoor.PS
set_option linter.unusedVariables false
set_option linter.unusedSimpArgs false
open Go AE EX PT NF LX
set_option maxRecDepth 100000

def wT (t : Tk) : Nat := 14 + t.s.length
def Wt (l : List Tk) (i : Nat) : Nat := ((l.take i).map wT).sum
theorem Wt_succ {l : List Tk} {p : Nat} (h : p < l.length) : Wt l (p + 1) = Wt l p + wT (hereT l p) := by
  have hg : l[p]? = some l[p] := List.getElem?_eq_getElem h
  have hh : hereT l p = l[p] := by simp [hereT, hg]
  rw [hh]
  unfold Wt
  rw [List.take_add_one, hg]
  simp only [Option.toList_some, List.map_append, List.map_cons, List.map_nil, List.sum_append_nat, List.sum_cons, List.sum_nil]
  omega
theorem Wt_all (l : List Tk) (i : Nat) : Wt l i ≤ (l.map wT).sum := by
  have : (l.map wT).sum = ((l.take i).map wT).sum + ((l.drop i).map wT).sum := by
    rw [← List.sum_append, ← List.map_append, List.take_append_drop]
  unfold Wt; omega
/-- a word's weight, at the least -/
def Wok (h : Nat → Tk) (Wf : Nat → Nat) : Prop := ∀ p, (h p).k ≠ 5 → Wf p + 14 + (h p).s.length ≤ Wf (p + 1)
theorem Wok_l (l : List Tk) : Wok (hereT l) (Wt l) := fun p hp => by
  rw [Wt_succ (here_lt hp)]; unfold wT; omega
/-- nothing is passed behind a word that ends all -/
theorem Wok_end {l : List Tk} {m : Nat} (hm : (hereT l m).k = 5) (hl : l.length ≤ m + 1) : Wok (hereT l) (fun i => if i ≤ m then Wt l i else 0) := fun p hp => by
  have := Wok_l l p hp
  have h1 := here_lt hp
  have h2 : p ≠ m := fun e => hp (by rw [e]; exact hm)
  have e1 : p ≤ m := by omega
  have e2 : p + 1 ≤ m := by omega
  simp only [e1, e2, if_true]
  exact this
/-- so much at the most -/
def Bd (Wf : Nat → Nat) (sub : Nat → PR X) : Prop := ∀ p x r, sub p = .ok (x, r) → x.bulk + Wf p ≤ Wf r

section
variable {h0 : Nat → Tk} {Wf : Nat → Nat} (hW : Wok h0 Wf)
include hW
theorem is_c {p : Nat} {q : List UInt8} (h : isB h0 p q = true) : Wf p + 14 ≤ Wf (p + 1) := by
  simp only [isB, Bool.and_eq_true, beq_iff_eq] at h
  have := hW p (by rw [h.1]; exact kindOf_ne q)
  omega
theorem need_c {p : Nat} {q : List UInt8} {u : Unit} {r : Nat} (h : needP h0 q p = .ok (u, r)) : Wf p + 14 ≤ Wf r := by
  unfold needP at h
  split at h
  · rename_i hb; cases h; exact is_c hW hb
  · cases h
theorem take_c {p : Nat} {k : Int} {t : Tk} {r : Nat} (hk : k ≠ 5) (h : takeP h0 k p = .ok (t, r)) : Wf p + 14 + t.s.length ≤ Wf r := by
  unfold takeP at h
  split at h
  · rename_i hb
    cases h
    exact hW p (by rw [hb]; exact hk)
  · cases h
theorem here_c {p : Nat} {k : Int} (hk : k ≠ 5) (h : (h0 p).k = k) : Wf p + 14 + (h0 p).s.length ≤ Wf (p + 1) := hW p (by rw [h]; exact hk)
omit hW in
theorem leaf_b (k : Int) (s : List UInt8) (n hi : Int) : (leafX k s n hi).bulk = 7 + s.length := by simp [leafX, X.bulk, bulkL]
omit hW in
theorem both_b (k : Int) (x y : X) : (bothX k x y).bulk = 7 + (x.bulk + y.bulk) := by simp [bothX, X.bulk, bulkL]
omit hW in
theorem one_b (k : Int) (x : X) : (oneX k x).bulk = 7 + x.bulk := by simp [oneX, X.bulk, bulkL]
omit hW in
theorem mk1_b (k lo hi : Int) (b : Bool) (x : X) : (X.mk k [] 0 lo hi b [x]).bulk = 7 + x.bulk := by simp [X.bulk, bulkL]
omit hW in
theorem mk2_b (k lo hi : Int) (b : Bool) (x y : X) : (X.mk k [] 0 lo hi b [x, y]).bulk = 7 + (x.bulk + y.bulk) := by simp [X.bulk, bulkL]

omit hW in
theorem opAt_is {h : Nat → Tk} {p : Nat} {k : Int} : ∀ {ops : List (List UInt8 × Int)}, opAt h p ops = some k → ∃ q, isB h p q = true
  | [], hh => by cases hh
  | (q, k') :: r, hh => by
    rw [opAt] at hh
    split at hh
    · rename_i hb; exact ⟨q, hb⟩
    · exact opAt_is hh
theorem bd_loop {ops : List (List UInt8 × Int)} {sub : Nat → PR X} (hs : Bd Wf sub) : ∀ f e p x r, loopF h0 ops sub f e p = .ok (x, r) → x.bulk + Wf p ≤ e.bulk + Wf r
  | 0, e, p, x, r, h => by cases h
  | f + 1, e, p, x, r, h => by
    rw [loopF] at h
    split at h
    · cases h; omega
    · rename_i k hk
      obtain ⟨v, q, h1, h2⟩ := th_split h
      obtain ⟨w, hw⟩ := opAt_is hk
      have := is_c hW hw
      have := hs _ _ _ h1
      have := bd_loop hs f _ _ _ _ h2
      rw [both_b] at this
      omega
theorem bd_chain {ops : List (List UInt8 × Int)} {sub : Nat → PR X} (hs : Bd Wf sub) (F : Nat) : Bd Wf (chainP h0 F ops sub) := by
  intro p x r h
  obtain ⟨v, q, h1, h2⟩ := th_split h
  have := hs _ _ _ h1
  have := bd_loop hW hs F _ _ _ _ h2
  omega
theorem bd_rel {sub : Nat → PR X} (hs : Bd Wf sub) : Bd Wf (relP h0 sub) := by
  intro p x r h
  obtain ⟨v, q, h1, h2⟩ := th_split h
  have h3 := hs _ _ _ h1
  have key : ∀ {k : Int}, isB h0 q [61] = true ∨ isB h0 q [60] = true ∨ isB h0 q [60, 61] = true ∨ isB h0 q [105, 110] = true → (sub (q + 1)).th (fun y t => .ok (bothX k v y, t)) = .ok (x, r) → x.bulk + Wf p ≤ Wf r := fun hb hh => by
    obtain ⟨y, t, g1, g2⟩ := th_split hh
    cases g2
    have := hs _ _ _ g1
    rw [both_b]
    rcases hb with hb | hb | hb | hb <;> (have := is_c hW hb; omega)
  split at h2
  · rename_i hb; exact key (.inl hb) h2
  · split at h2
    · rename_i hb
      obtain ⟨y, t, g1, g2⟩ := th_split h2
      cases g2
      have := hs _ _ _ g1
      have := is_c hW hb
      rw [one_b, both_b]
      omega
    · split at h2
      · rename_i hb; exact key (.inr (.inl hb)) h2
      · split at h2
        · rename_i hb; exact key (.inr (.inr (.inl hb))) h2
        · split at h2
          · rename_i hb; exact key (.inr (.inr (.inr hb))) h2
          · cases h2; omega
theorem bd_any {one : Nat → PR X} (hs : Bd Wf one) (F : Nat) : Bd Wf (anyP h0 F one) := bd_chain hW (bd_chain hW (bd_rel hW (bd_chain hW (bd_chain hW hs F) F)) F) F
theorem bd_setF : ∀ f ks p x r, setF h0 f ks p = .ok (x, r) → x.bulk + Wf p ≤ 7 + bulkL ks + Wf r
  | 0, ks, p, x, r, h => by cases h
  | f + 1, ks, p, x, r, h => by
    rw [setF] at h
    obtain ⟨t, q, h1, h2⟩ := th_split h
    have := take_c hW (by decide) h1
    have hb : bulkL (ks ++ [leafX 3 t.s 0 0]) = bulkL ks + (7 + t.s.length) := by
      have : ∀ a b : List X, bulkL (a ++ b) = bulkL a + bulkL b := fun a b => by
        induction a with
        | nil => simp [bulkL]
        | cons x a ih => simp [bulkL, ih]; omega
      rw [this]; simp [bulkL, leaf_b]
    split at h2
    · cases h2
    · split at h2
      · rename_i hc
        cases h2
        have := is_c hW hc
        simp only [setX, X.bulk, hb, List.length_nil]
        omega
      · obtain ⟨u, q2, h3, h4⟩ := th_split h2
        have := need_c hW h3
        have := bd_setF f _ _ _ _ h4
        rw [hb] at this
        omega
theorem bd_set (F : Nat) : ∀ p x r, setP h0 F p = .ok (x, r) → x.bulk + Wf p ≤ 7 + Wf r := by
  intro p x r h
  unfold setP at h
  split at h
  · rename_i hb
    cases h
    have := is_c hW hb
    simp [leaf_b]; omega
  · have := bd_setF hW F _ _ _ _ h
    simpa [bulkL] using this
theorem bd_arg {any : Nat → PR X} (ha : Bd Wf any) : ∀ p x r, argP h0 any p = .ok (x, r) → x.bulk + Wf p + 28 ≤ Wf r := by
  intro p x r h
  obtain ⟨_, q, h1, h2⟩ := th_split h
  obtain ⟨v, q2, h3, h4⟩ := th_split h2
  obtain ⟨_, q3, h5, h6⟩ := th_split h4
  cases h6
  have := need_c hW h1
  have := ha _ _ _ h3
  have := need_c hW h5
  omega
theorem bd_signed {one any : Nat → PR X} (ho : Bd Wf one) (ha : Bd Wf any) (F : Nat) : Bd Wf (signedP h0 F one any) := by
  intro p x r h
  unfold signedP at h
  split at h
  · rename_i hb
    obtain ⟨v, q, h1, h2⟩ := th_split h
    cases h2
    have := ho _ _ _ h1
    have := is_c hW hb
    rw [one_b]; omega
  · split at h
    · rename_i hb
      have := bd_set hW F _ _ _ h
      have := is_c hW hb
      omega
    · have := bd_arg hW ha _ _ _ h
      omega
theorem bd_span : ∀ p x r, spanP h0 p = .ok (x, r) → Wf p + 14 ≤ Wf r := by
  intro p x r h
  obtain ⟨_, q, h1, h2⟩ := th_split h
  obtain ⟨t, q2, h3, h4⟩ := th_split h2
  obtain ⟨_, q3, h5, h6⟩ := th_split h4
  have := need_c hW h1
  have := take_c hW (by decide) h3
  have := need_c hW h5
  split at h6
  · rename_i hb
    obtain ⟨_, q4, h7, h8⟩ := th_split h6
    cases h8
    have := is_c hW hb
    have := need_c hW h7
    omega
  · obtain ⟨u, q4, h7, h8⟩ := th_split h6
    have := take_c hW (by decide) h7
    split at h8
    · cases h8
    · obtain ⟨_, q5, h9, h10⟩ := th_split h8
      cases h10
      have := need_c hW h9
      omega
theorem bd_look {any : Nat → PR X} (ha : Bd Wf any) (k : Int) : Bd Wf (lookP h0 k any) := by
  intro p x r h
  obtain ⟨lh, q, h1, h2⟩ := th_split h
  obtain ⟨v, q2, h3, h4⟩ := th_split h2
  cases h4
  have := bd_span hW _ _ _ h1
  have := bd_arg hW ha _ _ _ h3
  rw [mk1_b]; omega
theorem bd_since {any : Nat → PR X} (ha : Bd Wf any) : Bd Wf (sinceP h0 any) := by
  intro p x r h
  obtain ⟨lh, q, h1, h2⟩ := th_split h
  obtain ⟨_, q2, h3, h4⟩ := th_split h2
  obtain ⟨x1, q3, h5, h6⟩ := th_split h4
  obtain ⟨_, q4, h7, h8⟩ := th_split h6
  obtain ⟨x2, q5, h9, h10⟩ := th_split h8
  obtain ⟨_, q6, h11, h12⟩ := th_split h10
  cases h12
  have := bd_span hW _ _ _ h1
  have := need_c hW h3
  have := ha _ _ _ h5
  have := need_c hW h7
  have := ha _ _ _ h9
  have := need_c hW h11
  rw [mk2_b]; omega
theorem bd_timed {any : Nat → PR X} (ha : Bd Wf any) : Bd Wf (timedP h0 any) := by
  intro p x r h
  unfold timedP at h
  split at h
  · rename_i hb; have := bd_look hW ha _ _ _ _ h; have := is_c hW hb; omega
  · split at h
    · rename_i hb; have := bd_look hW ha _ _ _ _ h; have := is_c hW hb; omega
    · split at h
      · rename_i hb; have := bd_since hW ha _ _ _ h; have := is_c hW hb; omega
      · cases h
theorem bd_attr (side : Int) : Bd Wf (attrP h0 side) := by
  intro p x r h
  obtain ⟨_, q, h1, h2⟩ := th_split h
  obtain ⟨t, q2, h3, h4⟩ := th_split h2
  cases h4
  have := need_c hW h1
  have := take_c hW (by decide) h3
  rw [leaf_b]; omega
theorem bd_act : Bd Wf (actP h0) := by
  intro p x r h
  obtain ⟨_, q, h1, h2⟩ := th_split h
  obtain ⟨t, q2, h3, h4⟩ := th_split h2
  obtain ⟨_, q3, h5, h6⟩ := th_split h4
  cases h6
  have := need_c hW h1
  have := take_c hW (by decide) h3
  have := need_c hW h5
  rw [leaf_b]; omega
theorem bd_times : Bd Wf (timesP h0) := by
  intro p x r h
  obtain ⟨_, q, h1, h2⟩ := th_split h
  obtain ⟨t, q2, h3, h4⟩ := th_split h2
  obtain ⟨_, q3, h5, h6⟩ := th_split h4
  obtain ⟨u, q4, h7, h8⟩ := th_split h6
  obtain ⟨_, q5, h9, h10⟩ := th_split h8
  cases h10
  have := need_c hW h1
  have := take_c hW (by decide) h3
  have := need_c hW h5
  have := take_c hW (by decide) h7
  have := need_c hW h9
  rw [leaf_b]; omega
theorem bd_named {one any : Nat → PR X} (ho : Bd Wf one) (ha : Bd Wf any) : Bd Wf (namedP h0 one any) := by
  intro p x r h
  unfold namedP at h
  split at h
  · rename_i hb; cases h; have := is_c hW hb; rw [leaf_b]; simp; omega
  · split at h
    · rename_i hb; cases h; have := is_c hW hb; rw [leaf_b]; simp; omega
    · split at h
      · rename_i hb; cases h; have := is_c hW hb; rw [leaf_b]; simp; omega
      · split at h
        · rename_i hb
          obtain ⟨v, q, h1, h2⟩ := th_split h
          cases h2
          have := ho _ _ _ h1
          have := is_c hW hb
          rw [one_b]; omega
        · split at h
          · rename_i hb; have := bd_attr hW _ _ _ _ h; have := is_c hW hb; omega
          · split at h
            · rename_i hb; have := bd_attr hW _ _ _ _ h; have := is_c hW hb; omega
            · split at h
              · rename_i hb; have := bd_act hW _ _ _ h; have := is_c hW hb; omega
              · split at h
                · rename_i hb; have := bd_times hW _ _ _ h; have := is_c hW hb; omega
                · split at h
                  · rename_i hb
                    obtain ⟨v, q, h1, h2⟩ := th_split h
                    cases h2
                    have := bd_arg hW ha _ _ _ h1
                    have := is_c hW hb
                    rw [one_b]; omega
                  · split at h
                    · rename_i hb
                      obtain ⟨v, q, h1, h2⟩ := th_split h
                      cases h2
                      have := bd_arg hW ha _ _ _ h1
                      have := is_c hW hb
                      rw [one_b]; omega
                    · exact bd_timed hW ha _ _ _ h
theorem bd_one (F : Nat) : ∀ k, Bd Wf (oneF h0 F k)
  | 0 => by intro p x r h; rw [oneF] at h; cases h
  | k + 1 => by
    intro p x r h
    have ih := bd_one F k
    rw [oneF] at h
    split at h
    · rename_i hb; cases h; have := here_c hW (by decide) hb; rw [leaf_b]; simp; omega
    · split at h
      · rename_i hb; cases h; have := here_c hW (by decide) hb; rw [leaf_b]; omega
      · split at h
        · exact bd_signed hW ih (bd_any hW ih F) F _ _ _ h
        · split at h
          · exact bd_named hW ih (bd_any hW ih F) _ _ _ h
          · cases h
end
theorem bulk_pos : ∀ x : X, 7 ≤ x.bulk
  | .mk _ _ _ _ _ _ _ => by simp only [X.bulk]; omega
end Go.Proofs.YtmhidempoabehaaGreatDoor.PS
/- The words of a text: the last one ends all, no other does; their weight. No condition. -/
namespace Go.Proofs.YtmhidempoabehaaGreatDoor.LX
set_option linter.unusedVariables false
set_option linter.unusedSimpArgs false
open Go AE EX PT NF PS
set_option maxRecDepth 100000

theorem sub_le (s : List UInt8) (p q : Nat) : (sub s p q).length ≤ q - p := by
  simp [sub]; omega
theorem next_word {s : List UInt8} {p : Nat} {c : UInt8} {t : Tk} {to : Nat} (hc : s[p]? = some c) (h : nextR s p c = some (.word t to)) : t.s.length ≤ to - p ∧ t.k ≠ 5 := by
  unfold nextR at h
  split at h
  · cases h
  · simp only [Option.some.injEq] at h
    split at h
    · unfold namedR at h
      split at h
      · cases h
      · cases h
        exact ⟨sub_le _ _ _, by simp⟩
    · split at h
      · unfold numberedR at h
        split at h
        · cases h
          exact ⟨sub_le _ _ _, by simp⟩
        · cases h
      · split at h
        · unfold quotedR at h
          split at h
          · cases h
          · split at h
            · cases h
            · split at h
              · cases h
                have := sub_le s (p + 1) (p + 1 + (Lib.indexByte (s.drop (p + 1)) 34).toNat)
                exact ⟨by simp only; omega, by simp⟩
              · cases h
        · unfold signedR at h
          split at h
          · rename_i q hq
            cases h
            have hm := List.mem_of_find?_eq_some hq
            have h2 := sgL_len q hm
            exact ⟨by simp only; omega, by simp⟩
          · split at h
            · split at h
              · cases h
                exact ⟨by have := sub_le s p (p + 1); simp only; omega, by simp⟩
              · cases h
            · cases h

theorem lexF_shape {s : List UInt8} : ∀ (f p : Nat) (out l : List Tk), p ≤ s.length → s.length < f + p → lexF s f p out = .ok l →
    ∃ more, l = out ++ more ++ [⟨5, [], 0, s.length⟩] ∧ (∀ t ∈ more, t.k ≠ 5) ∧ (more.map wT).sum ≤ 15 * (s.length - p) ∧ more.length ≤ s.length - p
  | 0, p, out, l, hp, hf, h => by omega
  | f + 1, p, out, l, hp, hf, h => by
    rw [lexF] at h
    split at h
    · rename_i hn
      have := List.getElem?_eq_none_iff.1 hn
      have hpe : p = s.length := by omega
      cases h
      exact ⟨[], by simp [hpe], by simp, by simp, by simp⟩
    · rename_i c hc
      have hlt := (List.getElem?_eq_some_iff.1 hc).1
      split at h
      · obtain ⟨more, e1, e2, e3, e4⟩ := lexF_shape f (p + 1) out l (by omega) (by omega) h
        exact ⟨more, e1, e2, by omega, by omega⟩
      · cases h
      · rename_i t to hw
        obtain ⟨w1, w2, w3⟩ := next_far hc hw
        obtain ⟨w4, w5⟩ := next_word hc hw
        obtain ⟨more, e1, e2, e3, e4⟩ := lexF_shape f to (out ++ [t]) l w2 (by omega) h
        refine ⟨t :: more, by rw [e1]; simp, ?_, ?_, ?_⟩
        · intro u hu
          rcases List.mem_cons.1 hu with rfl | hu
          · exact w5
          · exact e2 u hu
        · simp only [List.map_cons, List.sum_cons, wT] at e3 ⊢
          omega
        · simp only [List.length_cons]; omega
theorem lexAll_shape {s : List UInt8} {l : List Tk} (h : lexAll s = .ok l) : s.length ≤ 4096 ∧
    ∃ more, l = more ++ [⟨5, [], 0, s.length⟩] ∧ (∀ t ∈ more, t.k ≠ 5) ∧ (more.map wT).sum ≤ 15 * s.length ∧ more.length ≤ s.length := by
  unfold lexAll at h
  split at h
  · cases h
  · obtain ⟨more, e1, e2, e3, e4⟩ := lexF_shape _ 0 [] l (by omega) (by omega) h
    exact ⟨by omega, more, by simpa using e1, e2, by simpa using e3, by simpa using e4⟩

/-- what the parser takes of a text's words -/
theorem take_bound {s : List UInt8} {l : List Tk} (h : lexAll s = .ok l) {x : X} {q : Nat} (hx : anyP (hereT l) (l.length + 1) (oneF (hereT l) (l.length + 1) 32) 0 = .ok (x, q)) : q < l.length ∧ x.bulk ≤ 62000 ∧ l.length ≤ 4097 := by
  obtain ⟨h1, more, e1, e2, e3, e4⟩ := lexAll_shape h
  have hlen : l.length = more.length + 1 := by rw [e1]; simp
  have hm : (hereT l more.length).k = 5 := by
    have : l[more.length]? = some ⟨5, [], 0, s.length⟩ := by rw [e1]; simp
    simp [hereT, this]
  have b1 := bd_any (Wok_l l) (bd_one (Wok_l l) (l.length + 1) 32) (l.length + 1) _ _ _ hx
  have b2 := bd_any (Wok_end hm (by omega)) (bd_one (Wok_end hm (by omega)) (l.length + 1) 32) (l.length + 1) _ _ _ hx
  have hb := bulk_pos x
  have hall := Wt_all l q
  have hs : (l.map wT).sum ≤ 15 * s.length + 14 := by rw [e1]; simp [wT]; exact e3
  refine ⟨?_, by omega, by omega⟩
  simp only [Nat.zero_le, if_true] at b2
  split at b2
  · omega
  · omega
end Go.Proofs.YtmhidempoabehaaGreatDoor.LX
/- The parser: any, all, prod, evaluated (printed by gendp.py). No condition. -/
namespace Go.Proofs.YtmhidempoabehaaGreatDoor.PS
set_option linter.unusedVariables false
set_option linter.unusedSimpArgs false
open Go AE EX PT NF LX
set_option maxRecDepth 100000

def ansX (H0 : List HBox) (T : List Nat) (a : Nat) (l : List Tk) (d : Nat) : PR X → Option (Res × St)
  | .ok (x, q) => some (.ret x.emb, PSt H0 T a l q d)
  | .error (c, q) => some (.pan (stopV (hereT l) c q), PSt H0 T a l q d)
/-- the function f answers as sub says -/
def Sub (H0 : List HBox) (T : List Nat) (a : Nat) (l : List Tk) (d n f : Nat) (sub : Nat → PR X) : Prop := ∀ p, ev Tryz.prog E n f [.ptr a 0] (PSt H0 T a l p d) = ansX H0 T a l d (sub p)
theorem ansX_ok (H0 : List HBox) (T : List Nat) (a : Nat) (l : List Tk) (d : Nat) (x : X) (q : Nat) : ansX H0 T a l d (.ok (x, q)) = some (.ret x.emb, PSt H0 T a l q d) := rfl
theorem ansX_err (H0 : List HBox) (T : List Nat) (a : Nat) (l : List Tk) (d : Nat) (c : Int) (q : Nat) : ansX H0 T a l d (.error (c, q)) = some (.pan (stopV (hereT l) c q), PSt H0 T a l q d) := rfl
def z6 : List AV := [.int .i64 0, .str [], .int .i64 0, .int .i64 0, .int .i64 0, .slice [] .clip]
theorem z6_len : z6.length = 6 := rfl
theorem z6_take : List.take 6 z6 = z6 := rfl
theorem z24' : zeroQ Tryz.prog 25 = some z6 := z24
theorem fin_X (H0 : List HBox) (T : List Nat) (a : Nat) (l : List Tk) (p d q : Nat) (x : X) : finish (PSt H0 T a l p d) x.emb (PSt H0 T a l q d) = some (x.emb, PSt H0 T a l q d) :=
  PSt_fin T l p d q d (sealed_emb x) (strip_emb _ x) (low_emb _ _ x)
theorem fin_stop (H0 : List HBox) (T : List Nat) (a : Nat) (l : List Tk) (p d q : Nat) (c : Int) (z : Nat) : finish (PSt H0 T a l p d) (stopV (hereT l) c z) (PSt H0 T a l q d) = some (stopV (hereT l) c z, PSt H0 T a l q d) :=
  PSt_fin T l p d q d rfl rfl rfl

def CHI (H0 : List HBox) (T : List Nat) (a : Nat) (l : List Tk) (d n : Nat) (ops : List (List UInt8 × Int)) (sub : Nat → PR X) (R : PR X) (m : Nat) (fs : FS) : Prop :=
  ∃ e r f, m = l.length - r ∧ fs.t 0 = .ptr a 0 ∧ fs.t 2 = .loc n 2 1 0 ∧ fs.t 3 = .loc n 3 4 0 ∧ fs.b 2 = (1, z6) ∧ fs.b 3 = (4, e.cells) ∧ fs.S = PSt H0 T a l r d ∧ m < f ∧ loopF (hereT l) ops sub f e r = R
def CHQ (H0 : List HBox) (T : List Nat) (a : Nat) (l : List Tk) (d n : Nat) (R : PR X) (r : Out × FS) : Prop :=
  (r.1 = .exit 0 ∧ ∃ e q, r.2.t 2 = .loc n 2 1 0 ∧ r.2.t 3 = .loc n 3 4 0 ∧ r.2.b 2 = (1, z6) ∧ r.2.b 3 = (4, X.cells e) ∧ r.2.S = PSt H0 T a l q d ∧ R = .ok (e, q)) ∨
  (∃ c q, r.1 = .pan (stopV (hereT l) c q) ∧ r.2.S = PSt H0 T a l q d ∧ R = .error (c, q))

noncomputable def lp68 : Code := cutC (bodyOf Tryz.f81) [1, 1, 0, 0, 0]
noncomputable def l068 : Code := cutC (bodyOf Tryz.f81) [0]
noncomputable def l168 : Code := cutC (bodyOf Tryz.f81) [1, 0]
noncomputable def l268 : Code := cutC (bodyOf Tryz.f81) [1, 1, 1]
theorem fb68 : Tryz.f81.body = some (.seq l068 (.seq l168 (.seq (.block 0 (.loop lp68)) l268))) := rfl
section
variable {H0 : List HBox} {a : Nat} (ha : a < H0.length) (T : List Nat) (l : List Tk) (hl : l.length ≤ 2000000)
include ha hl
set_option maxHeartbeats 2000000 in
theorem rd68 (n d : Nat) (sub : Nat → PR X) (hs : Sub H0 T a l d (n + 2) 82 sub) (hm : Mono sub) (R : PR X) (m : Nat) (fs : FS) (h : CHI H0 T a l d (n + 2) [([42], 10)] sub R m fs) :
    ∃ o fs', evCode ⟨Tryz.prog, E.esc 81, n + 2⟩ (ev Tryz.prog E (n + 2)) (E.ps 81) (n + 2) lp68 fs = some (o, fs') ∧ ((o = .norm ∧ ∃ m', m' < m ∧ CHI H0 T a l d (n + 2) [([42], 10)] sub R m' fs') ∨ (o ≠ .norm ∧ CHQ H0 T a l d (n + 2) R (o, fs'))) := by
  obtain ⟨t, b, c, S⟩ := fs
  obtain ⟨e, r, f, hmr, h0, h2, h3, hb2, hb3, hS, hmf, hR⟩ := h
  simp only at h0 h2 h3 hb2 hb3 hS
  subst hS
  obtain ⟨f, rfl⟩ : ∃ g, f = g + 1 := ⟨f - 1, by omega⟩
  have hi : ev Tryz.prog E (n + 2) 41 [.ptr a 0, .str [42]] (PSt H0 T a l r d) = _ := ev_is ha T l hl n r d _ _
  rw [loopF, opAt, opAt] at hR
  cases hB : isB (hereT l) r [42]
  · rw [hB] at hi hR
    simp only [Bool.false_eq_true, if_false] at hi hR
    refine ⟨.exit 0, ?_⟩
    generalize hL1 : PSt H0 T a l r d = L1 at *
    refine ⟨_, by
      simp (disch := first | (simp only [List.length_append, List.length_cons, List.length_nil]; omega) | (simp; done) | assumption) [AV.cells?, AV.isCell, lp68, cutC, bodyOf, Tryz.f81, E_esc, h0, hi]
      rfl, .inr ⟨by simp, .inl ⟨rfl, e, r, by simp [upd, putA, h2], by simp [upd, putA, h3], hb2, hb3, hL1.symm, hR.symm⟩⟩⟩
  · have hlt := is_lt hB
    rw [hB] at hi hR
    simp only [if_true] at hi hR
    have hsub := hs (r + 1)
    have hcx := xcells e
    have hlx := xlen e
    have htx := xtake e
    have hex := xemb e
    have hps : E.ps 81 3 = [(0, 2), (2, 2)] := rfl
    cases hq : sub (r + 1) with
    | error z =>
      obtain ⟨c', q⟩ := z
      rw [hq] at hsub hR
      rw [ansX_err] at hsub
      rw [th_err] at hR
      generalize hL3 : PSt H0 T a l q d = L3 at *
      generalize hL2 : PSt H0 T a l (r + 1) d = L2 at *
      generalize hL1 : PSt H0 T a l r d = L1 at *
      generalize e.cells = ec at *
      generalize hsv : stopV (hereT l) c' q = sv at *
      refine ⟨.pan sv, _, by
        simp (disch := first | (simp only [List.length_append, List.length_cons, List.length_nil]; omega) | (simp; done) | assumption) [AV.cells?, AV.isCell, -AV.cells?, lp68, cutC, bodyOf, Tryz.f81, E_esc, h0, h3, hb3, hi, hsub, hlx, htx, hex, c24, a24, k24, i24, hps]
        rfl, .inr ⟨by simp, .inr ⟨c', q, by rw [hsv], hL3.symm, hR.symm⟩⟩⟩
    | ok z =>
      obtain ⟨x, q⟩ := z
      have hmono := hm _ _ _ hq
      rw [hq] at hsub hR
      rw [ansX_ok] at hsub
      rw [th_ok] at hR
      have hbo := ev_both (n + 1) 10 e x (PSt H0 T a l q d)
      have hcz := xcells (bothX 10 e x)
      have hlz := xlen (bothX 10 e x)
      refine ⟨.norm, ?_⟩
      generalize hL3 : PSt H0 T a l q d = L3 at *
      generalize hL2 : PSt H0 T a l (r + 1) d = L2 at *
      generalize hL1 : PSt H0 T a l r d = L1 at *
      generalize e.cells = ec at *
      generalize e.emb = ee at *
      generalize x.emb = xe at *
      generalize hzc : (bothX 10 e x).cells = zc at *
      generalize (bothX 10 e x).emb = ze at *
      refine ⟨_, by
        simp (disch := first | (simp only [List.length_append, List.length_cons, List.length_nil]; omega) | (simp; done) | assumption) [AV.cells?, AV.isCell, -AV.cells?, lp68, cutC, bodyOf, Tryz.f81, E_esc, h0, h3, hb3, hi, hsub, hbo, hcz, hlz, hlx, htx, hex, c24, a24, k24, i24, hps]
        rfl, .inl ⟨rfl, l.length - q, by omega, bothX 10 e x, q, f, rfl, by simp [upd, putA, h0], by simp [upd, putA, h2], by simp [upd, putA, h3], by simp [upd, hb2], by simp [upd, hzc, hlx], hL3.symm, by omega, hR⟩⟩
set_option maxHeartbeats 2000000 in
theorem ev68 (n d : Nat) (sub : Nat → PR X) (hs : Sub H0 T a l d (n + 2) 82 sub) (hm : Mono sub) (F : Nat) (hF : l.length < F) (hn : l.length < n) : Sub H0 T a l d (n + 3) 81 (chainP (hereT l) F [([42], 10)] sub) := by
  intro p
  have hsub := hs p
  rw [show n + 3 = (n + 2) + 1 from rfl, ev_enter (n := n + 2) (show E.ok 81 = true from rfl) Tryz.func81 fb68 (Nat.le_of_ble_eq_true rfl) (by decide +kernel)]
  rw [evCode_assoc]
  unfold chainP
  cases hq : sub p with
  | error z =>
    obtain ⟨c', q⟩ := z
    rw [hq, ansX_err] at hsub
    rw [th_err, ansX_err]
    have hf := fin_stop H0 T a l p d q c' q
    generalize PSt H0 T a l q d = L3 at *
    generalize PSt H0 T a l p d = L1 at *
    generalize stopV (hereT l) c' q = sv at *
    simp (disch := first | (simp only [List.length_append, List.length_cons, List.length_nil]; omega) | (simp; done) | assumption) [AV.cells?, AV.isCell, l068, l168, cutC, bodyOf, Tryz.f81, E_esc, hsub, z24', c24, a24, k24, i24, finPan, hf]
  | ok z =>
    obtain ⟨x, q⟩ := z
    rw [hq, ansX_ok] at hsub
    rw [th_ok]
    have hcx := xcells x
    have hlx := xlen x
    obtain ⟨fs1, e1, p1⟩ : ∃ fs', evCode ⟨Tryz.prog, E.esc 81, n + 2⟩ (ev Tryz.prog E (n + 2)) (E.ps 81) (n + 2) (.seq l068 l168) ⟨argsA [.ptr a 0], fun _ => (0, []), 0, PSt H0 T a l p d⟩ = some (.norm, fs') ∧ CHI H0 T a l d (n + 2) [([42], 10)] sub (loopF (hereT l) [([42], 10)] sub F x q) (l.length - q) fs' := by
      generalize hL3 : PSt H0 T a l q d = L3 at *
      generalize PSt H0 T a l p d = L1 at *
      generalize hxc : x.cells = xc at *
      generalize x.emb = xe at *
      refine ⟨_, by
        simp (disch := first | (simp only [List.length_append, List.length_cons, List.length_nil]; omega) | (simp; done) | assumption) [AV.cells?, AV.isCell, -AV.cells?, l068, l168, cutC, bodyOf, Tryz.f81, E_esc, hsub, hcx, hlx, z24', z6_len, c24, a24, k24, i24]
        rfl, x, q, F, rfl, by simp [upd, putA, argsA], by simp [upd, putA], by simp [upd, putA], by simp [upd], by simp [upd, hxc, z6], hL3.symm, by omega, rfl⟩
    obtain ⟨⟨o, fs2⟩, r1, r2⟩ := iter_meas (fun m' fs h => rd68 ha T l hl n d sub hs hm _ m' fs h) (l.length - q) (n + 2) fs1 (by omega) p1
    rw [evCode_seq, e1, seqK_norm, evCode_seq, evCode_block, evCode_loop, r1]
    obtain ⟨t, b, c, S⟩ := fs2
    rcases r2 with ⟨q1, e, r, q2, q3, q4, q5, q6, q7⟩ | ⟨c', r, q1, q2, q3⟩
    · simp only at q1 q2 q3 q4 q5 q6
      subst q1 q6
      rw [q7, blockK_exit, if_pos rfl, seqK_norm, ansX_ok]
      clear r1 e1 p1
      have hf := fin_X H0 T a l p d r e
      have hcx := xcells e
      have hlx := xlen e
      have htx := xtake e
      have hex := xemb e
      generalize PSt H0 T a l r d = L3 at *
      generalize PSt H0 T a l p d = L1 at *
      generalize e.cells = ec at *
      generalize e.emb = ee at *
      simp (disch := first | (simp only [List.length_append, List.length_cons, List.length_nil]; omega) | (simp; done) | assumption) [AV.cells?, AV.isCell, -AV.cells?, l268, cutC, bodyOf, Tryz.f81, E_esc, q2, q3, q4, q5, hcx, hlx, htx, hex, z6_len, z6, c24, a24, k24, i24, hf]
    · simp only at q1 q2
      subst q1 q2
      rw [q3, blockK_pan, seqK_pan, ansX_err]
      clear r1 e1 p1
      have hf := fin_stop H0 T a l p d r c' r
      simp only [fromBody, finPan, hf]
end

noncomputable def lp43 : Code := cutC (bodyOf Tryz.f40) [1, 1, 0, 0, 0]
noncomputable def l043 : Code := cutC (bodyOf Tryz.f40) [0]
noncomputable def l143 : Code := cutC (bodyOf Tryz.f40) [1, 0]
noncomputable def l243 : Code := cutC (bodyOf Tryz.f40) [1, 1, 1]
theorem fb43 : Tryz.f40.body = some (.seq l043 (.seq l143 (.seq (.block 0 (.loop lp43)) l243))) := rfl
section
variable {H0 : List HBox} {a : Nat} (ha : a < H0.length) (T : List Nat) (l : List Tk) (hl : l.length ≤ 2000000)
include ha hl
set_option maxHeartbeats 2000000 in
theorem rd43 (n d : Nat) (sub : Nat → PR X) (hs : Sub H0 T a l d (n + 2) 61 sub) (hm : Mono sub) (R : PR X) (m : Nat) (fs : FS) (h : CHI H0 T a l d (n + 2) [([97, 110, 100], 19)] sub R m fs) :
    ∃ o fs', evCode ⟨Tryz.prog, E.esc 40, n + 2⟩ (ev Tryz.prog E (n + 2)) (E.ps 40) (n + 2) lp43 fs = some (o, fs') ∧ ((o = .norm ∧ ∃ m', m' < m ∧ CHI H0 T a l d (n + 2) [([97, 110, 100], 19)] sub R m' fs') ∨ (o ≠ .norm ∧ CHQ H0 T a l d (n + 2) R (o, fs'))) := by
  obtain ⟨t, b, c, S⟩ := fs
  obtain ⟨e, r, f, hmr, h0, h2, h3, hb2, hb3, hS, hmf, hR⟩ := h
  simp only at h0 h2 h3 hb2 hb3 hS
  subst hS
  obtain ⟨f, rfl⟩ : ∃ g, f = g + 1 := ⟨f - 1, by omega⟩
  have hi : ev Tryz.prog E (n + 2) 41 [.ptr a 0, .str [97, 110, 100]] (PSt H0 T a l r d) = _ := ev_is ha T l hl n r d _ _
  rw [loopF, opAt, opAt] at hR
  cases hB : isB (hereT l) r [97, 110, 100]
  · rw [hB] at hi hR
    simp only [Bool.false_eq_true, if_false] at hi hR
    refine ⟨.exit 0, ?_⟩
    generalize hL1 : PSt H0 T a l r d = L1 at *
    refine ⟨_, by
      simp (disch := first | (simp only [List.length_append, List.length_cons, List.length_nil]; omega) | (simp; done) | assumption) [AV.cells?, AV.isCell, lp43, cutC, bodyOf, Tryz.f40, E_esc, h0, hi]
      rfl, .inr ⟨by simp, .inl ⟨rfl, e, r, by simp [upd, putA, h2], by simp [upd, putA, h3], hb2, hb3, hL1.symm, hR.symm⟩⟩⟩
  · have hlt := is_lt hB
    rw [hB] at hi hR
    simp only [if_true] at hi hR
    have hsub := hs (r + 1)
    have hcx := xcells e
    have hlx := xlen e
    have htx := xtake e
    have hex := xemb e
    have hps : E.ps 40 3 = [(0, 2), (2, 2)] := rfl
    cases hq : sub (r + 1) with
    | error z =>
      obtain ⟨c', q⟩ := z
      rw [hq] at hsub hR
      rw [ansX_err] at hsub
      rw [th_err] at hR
      generalize hL3 : PSt H0 T a l q d = L3 at *
      generalize hL2 : PSt H0 T a l (r + 1) d = L2 at *
      generalize hL1 : PSt H0 T a l r d = L1 at *
      generalize e.cells = ec at *
      generalize hsv : stopV (hereT l) c' q = sv at *
      refine ⟨.pan sv, _, by
        simp (disch := first | (simp only [List.length_append, List.length_cons, List.length_nil]; omega) | (simp; done) | assumption) [AV.cells?, AV.isCell, -AV.cells?, lp43, cutC, bodyOf, Tryz.f40, E_esc, h0, h3, hb3, hi, hsub, hlx, htx, hex, c24, a24, k24, i24, hps]
        rfl, .inr ⟨by simp, .inr ⟨c', q, by rw [hsv], hL3.symm, hR.symm⟩⟩⟩
    | ok z =>
      obtain ⟨x, q⟩ := z
      have hmono := hm _ _ _ hq
      rw [hq] at hsub hR
      rw [ansX_ok] at hsub
      rw [th_ok] at hR
      have hbo := ev_both (n + 1) 19 e x (PSt H0 T a l q d)
      have hcz := xcells (bothX 19 e x)
      have hlz := xlen (bothX 19 e x)
      refine ⟨.norm, ?_⟩
      generalize hL3 : PSt H0 T a l q d = L3 at *
      generalize hL2 : PSt H0 T a l (r + 1) d = L2 at *
      generalize hL1 : PSt H0 T a l r d = L1 at *
      generalize e.cells = ec at *
      generalize e.emb = ee at *
      generalize x.emb = xe at *
      generalize hzc : (bothX 19 e x).cells = zc at *
      generalize (bothX 19 e x).emb = ze at *
      refine ⟨_, by
        simp (disch := first | (simp only [List.length_append, List.length_cons, List.length_nil]; omega) | (simp; done) | assumption) [AV.cells?, AV.isCell, -AV.cells?, lp43, cutC, bodyOf, Tryz.f40, E_esc, h0, h3, hb3, hi, hsub, hbo, hcz, hlz, hlx, htx, hex, c24, a24, k24, i24, hps]
        rfl, .inl ⟨rfl, l.length - q, by omega, bothX 19 e x, q, f, rfl, by simp [upd, putA, h0], by simp [upd, putA, h2], by simp [upd, putA, h3], by simp [upd, hb2], by simp [upd, hzc, hlx], hL3.symm, by omega, hR⟩⟩
set_option maxHeartbeats 2000000 in
theorem ev43 (n d : Nat) (sub : Nat → PR X) (hs : Sub H0 T a l d (n + 2) 61 sub) (hm : Mono sub) (F : Nat) (hF : l.length < F) (hn : l.length < n) : Sub H0 T a l d (n + 3) 40 (chainP (hereT l) F [([97, 110, 100], 19)] sub) := by
  intro p
  have hsub := hs p
  rw [show n + 3 = (n + 2) + 1 from rfl, ev_enter (n := n + 2) (show E.ok 40 = true from rfl) Tryz.func40 fb43 (Nat.le_of_ble_eq_true rfl) (by decide +kernel)]
  rw [evCode_assoc]
  unfold chainP
  cases hq : sub p with
  | error z =>
    obtain ⟨c', q⟩ := z
    rw [hq, ansX_err] at hsub
    rw [th_err, ansX_err]
    have hf := fin_stop H0 T a l p d q c' q
    generalize PSt H0 T a l q d = L3 at *
    generalize PSt H0 T a l p d = L1 at *
    generalize stopV (hereT l) c' q = sv at *
    simp (disch := first | (simp only [List.length_append, List.length_cons, List.length_nil]; omega) | (simp; done) | assumption) [AV.cells?, AV.isCell, l043, l143, cutC, bodyOf, Tryz.f40, E_esc, hsub, z24', c24, a24, k24, i24, finPan, hf]
  | ok z =>
    obtain ⟨x, q⟩ := z
    rw [hq, ansX_ok] at hsub
    rw [th_ok]
    have hcx := xcells x
    have hlx := xlen x
    obtain ⟨fs1, e1, p1⟩ : ∃ fs', evCode ⟨Tryz.prog, E.esc 40, n + 2⟩ (ev Tryz.prog E (n + 2)) (E.ps 40) (n + 2) (.seq l043 l143) ⟨argsA [.ptr a 0], fun _ => (0, []), 0, PSt H0 T a l p d⟩ = some (.norm, fs') ∧ CHI H0 T a l d (n + 2) [([97, 110, 100], 19)] sub (loopF (hereT l) [([97, 110, 100], 19)] sub F x q) (l.length - q) fs' := by
      generalize hL3 : PSt H0 T a l q d = L3 at *
      generalize PSt H0 T a l p d = L1 at *
      generalize hxc : x.cells = xc at *
      generalize x.emb = xe at *
      refine ⟨_, by
        simp (disch := first | (simp only [List.length_append, List.length_cons, List.length_nil]; omega) | (simp; done) | assumption) [AV.cells?, AV.isCell, -AV.cells?, l043, l143, cutC, bodyOf, Tryz.f40, E_esc, hsub, hcx, hlx, z24', z6_len, c24, a24, k24, i24]
        rfl, x, q, F, rfl, by simp [upd, putA, argsA], by simp [upd, putA], by simp [upd, putA], by simp [upd], by simp [upd, hxc, z6], hL3.symm, by omega, rfl⟩
    obtain ⟨⟨o, fs2⟩, r1, r2⟩ := iter_meas (fun m' fs h => rd43 ha T l hl n d sub hs hm _ m' fs h) (l.length - q) (n + 2) fs1 (by omega) p1
    rw [evCode_seq, e1, seqK_norm, evCode_seq, evCode_block, evCode_loop, r1]
    obtain ⟨t, b, c, S⟩ := fs2
    rcases r2 with ⟨q1, e, r, q2, q3, q4, q5, q6, q7⟩ | ⟨c', r, q1, q2, q3⟩
    · simp only at q1 q2 q3 q4 q5 q6
      subst q1 q6
      rw [q7, blockK_exit, if_pos rfl, seqK_norm, ansX_ok]
      clear r1 e1 p1
      have hf := fin_X H0 T a l p d r e
      have hcx := xcells e
      have hlx := xlen e
      have htx := xtake e
      have hex := xemb e
      generalize PSt H0 T a l r d = L3 at *
      generalize PSt H0 T a l p d = L1 at *
      generalize e.cells = ec at *
      generalize e.emb = ee at *
      simp (disch := first | (simp only [List.length_append, List.length_cons, List.length_nil]; omega) | (simp; done) | assumption) [AV.cells?, AV.isCell, -AV.cells?, l243, cutC, bodyOf, Tryz.f40, E_esc, q2, q3, q4, q5, hcx, hlx, htx, hex, z6_len, z6, c24, a24, k24, i24, hf]
    · simp only at q1 q2
      subst q1 q2
      rw [q3, blockK_pan, seqK_pan, ansX_err]
      clear r1 e1 p1
      have hf := fin_stop H0 T a l p d r c' r
      simp only [fromBody, finPan, hf]
end

noncomputable def lp27 : Code := cutC (bodyOf Tryz.f26) [1, 1, 0, 0, 0]
noncomputable def l027 : Code := cutC (bodyOf Tryz.f26) [0]
noncomputable def l127 : Code := cutC (bodyOf Tryz.f26) [1, 0]
noncomputable def l227 : Code := cutC (bodyOf Tryz.f26) [1, 1, 1]
theorem fb27 : Tryz.f26.body = some (.seq l027 (.seq l127 (.seq (.block 0 (.loop lp27)) l227))) := rfl
section
variable {H0 : List HBox} {a : Nat} (ha : a < H0.length) (T : List Nat) (l : List Tk) (hl : l.length ≤ 2000000)
include ha hl
set_option maxHeartbeats 2000000 in
theorem rd27 (n d : Nat) (sub : Nat → PR X) (hs : Sub H0 T a l d (n + 2) 40 sub) (hm : Mono sub) (R : PR X) (m : Nat) (fs : FS) (h : CHI H0 T a l d (n + 2) [([111, 114], 20)] sub R m fs) :
    ∃ o fs', evCode ⟨Tryz.prog, E.esc 26, n + 2⟩ (ev Tryz.prog E (n + 2)) (E.ps 26) (n + 2) lp27 fs = some (o, fs') ∧ ((o = .norm ∧ ∃ m', m' < m ∧ CHI H0 T a l d (n + 2) [([111, 114], 20)] sub R m' fs') ∨ (o ≠ .norm ∧ CHQ H0 T a l d (n + 2) R (o, fs'))) := by
  obtain ⟨t, b, c, S⟩ := fs
  obtain ⟨e, r, f, hmr, h0, h2, h3, hb2, hb3, hS, hmf, hR⟩ := h
  simp only at h0 h2 h3 hb2 hb3 hS
  subst hS
  obtain ⟨f, rfl⟩ : ∃ g, f = g + 1 := ⟨f - 1, by omega⟩
  have hi : ev Tryz.prog E (n + 2) 41 [.ptr a 0, .str [111, 114]] (PSt H0 T a l r d) = _ := ev_is ha T l hl n r d _ _
  rw [loopF, opAt, opAt] at hR
  cases hB : isB (hereT l) r [111, 114]
  · rw [hB] at hi hR
    simp only [Bool.false_eq_true, if_false] at hi hR
    refine ⟨.exit 0, ?_⟩
    generalize hL1 : PSt H0 T a l r d = L1 at *
    refine ⟨_, by
      simp (disch := first | (simp only [List.length_append, List.length_cons, List.length_nil]; omega) | (simp; done) | assumption) [AV.cells?, AV.isCell, lp27, cutC, bodyOf, Tryz.f26, E_esc, h0, hi]
      rfl, .inr ⟨by simp, .inl ⟨rfl, e, r, by simp [upd, putA, h2], by simp [upd, putA, h3], hb2, hb3, hL1.symm, hR.symm⟩⟩⟩
  · have hlt := is_lt hB
    rw [hB] at hi hR
    simp only [if_true] at hi hR
    have hsub := hs (r + 1)
    have hcx := xcells e
    have hlx := xlen e
    have htx := xtake e
    have hex := xemb e
    have hps : E.ps 26 3 = [(0, 2), (2, 2)] := rfl
    cases hq : sub (r + 1) with
    | error z =>
      obtain ⟨c', q⟩ := z
      rw [hq] at hsub hR
      rw [ansX_err] at hsub
      rw [th_err] at hR
      generalize hL3 : PSt H0 T a l q d = L3 at *
      generalize hL2 : PSt H0 T a l (r + 1) d = L2 at *
      generalize hL1 : PSt H0 T a l r d = L1 at *
      generalize e.cells = ec at *
      generalize hsv : stopV (hereT l) c' q = sv at *
      refine ⟨.pan sv, _, by
        simp (disch := first | (simp only [List.length_append, List.length_cons, List.length_nil]; omega) | (simp; done) | assumption) [AV.cells?, AV.isCell, -AV.cells?, lp27, cutC, bodyOf, Tryz.f26, E_esc, h0, h3, hb3, hi, hsub, hlx, htx, hex, c24, a24, k24, i24, hps]
        rfl, .inr ⟨by simp, .inr ⟨c', q, by rw [hsv], hL3.symm, hR.symm⟩⟩⟩
    | ok z =>
      obtain ⟨x, q⟩ := z
      have hmono := hm _ _ _ hq
      rw [hq] at hsub hR
      rw [ansX_ok] at hsub
      rw [th_ok] at hR
      have hbo := ev_both (n + 1) 20 e x (PSt H0 T a l q d)
      have hcz := xcells (bothX 20 e x)
      have hlz := xlen (bothX 20 e x)
      refine ⟨.norm, ?_⟩
      generalize hL3 : PSt H0 T a l q d = L3 at *
      generalize hL2 : PSt H0 T a l (r + 1) d = L2 at *
      generalize hL1 : PSt H0 T a l r d = L1 at *
      generalize e.cells = ec at *
      generalize e.emb = ee at *
      generalize x.emb = xe at *
      generalize hzc : (bothX 20 e x).cells = zc at *
      generalize (bothX 20 e x).emb = ze at *
      refine ⟨_, by
        simp (disch := first | (simp only [List.length_append, List.length_cons, List.length_nil]; omega) | (simp; done) | assumption) [AV.cells?, AV.isCell, -AV.cells?, lp27, cutC, bodyOf, Tryz.f26, E_esc, h0, h3, hb3, hi, hsub, hbo, hcz, hlz, hlx, htx, hex, c24, a24, k24, i24, hps]
        rfl, .inl ⟨rfl, l.length - q, by omega, bothX 20 e x, q, f, rfl, by simp [upd, putA, h0], by simp [upd, putA, h2], by simp [upd, putA, h3], by simp [upd, hb2], by simp [upd, hzc, hlx], hL3.symm, by omega, hR⟩⟩
set_option maxHeartbeats 2000000 in
theorem ev27 (n d : Nat) (sub : Nat → PR X) (hs : Sub H0 T a l d (n + 2) 40 sub) (hm : Mono sub) (F : Nat) (hF : l.length < F) (hn : l.length < n) : Sub H0 T a l d (n + 3) 26 (chainP (hereT l) F [([111, 114], 20)] sub) := by
  intro p
  have hsub := hs p
  rw [show n + 3 = (n + 2) + 1 from rfl, ev_enter (n := n + 2) (show E.ok 26 = true from rfl) Tryz.func26 fb27 (Nat.le_of_ble_eq_true rfl) (by decide +kernel)]
  rw [evCode_assoc]
  unfold chainP
  cases hq : sub p with
  | error z =>
    obtain ⟨c', q⟩ := z
    rw [hq, ansX_err] at hsub
    rw [th_err, ansX_err]
    have hf := fin_stop H0 T a l p d q c' q
    generalize PSt H0 T a l q d = L3 at *
    generalize PSt H0 T a l p d = L1 at *
    generalize stopV (hereT l) c' q = sv at *
    simp (disch := first | (simp only [List.length_append, List.length_cons, List.length_nil]; omega) | (simp; done) | assumption) [AV.cells?, AV.isCell, l027, l127, cutC, bodyOf, Tryz.f26, E_esc, hsub, z24', c24, a24, k24, i24, finPan, hf]
  | ok z =>
    obtain ⟨x, q⟩ := z
    rw [hq, ansX_ok] at hsub
    rw [th_ok]
    have hcx := xcells x
    have hlx := xlen x
    obtain ⟨fs1, e1, p1⟩ : ∃ fs', evCode ⟨Tryz.prog, E.esc 26, n + 2⟩ (ev Tryz.prog E (n + 2)) (E.ps 26) (n + 2) (.seq l027 l127) ⟨argsA [.ptr a 0], fun _ => (0, []), 0, PSt H0 T a l p d⟩ = some (.norm, fs') ∧ CHI H0 T a l d (n + 2) [([111, 114], 20)] sub (loopF (hereT l) [([111, 114], 20)] sub F x q) (l.length - q) fs' := by
      generalize hL3 : PSt H0 T a l q d = L3 at *
      generalize PSt H0 T a l p d = L1 at *
      generalize hxc : x.cells = xc at *
      generalize x.emb = xe at *
      refine ⟨_, by
        simp (disch := first | (simp only [List.length_append, List.length_cons, List.length_nil]; omega) | (simp; done) | assumption) [AV.cells?, AV.isCell, -AV.cells?, l027, l127, cutC, bodyOf, Tryz.f26, E_esc, hsub, hcx, hlx, z24', z6_len, c24, a24, k24, i24]
        rfl, x, q, F, rfl, by simp [upd, putA, argsA], by simp [upd, putA], by simp [upd, putA], by simp [upd], by simp [upd, hxc, z6], hL3.symm, by omega, rfl⟩
    obtain ⟨⟨o, fs2⟩, r1, r2⟩ := iter_meas (fun m' fs h => rd27 ha T l hl n d sub hs hm _ m' fs h) (l.length - q) (n + 2) fs1 (by omega) p1
    rw [evCode_seq, e1, seqK_norm, evCode_seq, evCode_block, evCode_loop, r1]
    obtain ⟨t, b, c, S⟩ := fs2
    rcases r2 with ⟨q1, e, r, q2, q3, q4, q5, q6, q7⟩ | ⟨c', r, q1, q2, q3⟩
    · simp only at q1 q2 q3 q4 q5 q6
      subst q1 q6
      rw [q7, blockK_exit, if_pos rfl, seqK_norm, ansX_ok]
      clear r1 e1 p1
      have hf := fin_X H0 T a l p d r e
      have hcx := xcells e
      have hlx := xlen e
      have htx := xtake e
      have hex := xemb e
      generalize PSt H0 T a l r d = L3 at *
      generalize PSt H0 T a l p d = L1 at *
      generalize e.cells = ec at *
      generalize e.emb = ee at *
      simp (disch := first | (simp only [List.length_append, List.length_cons, List.length_nil]; omega) | (simp; done) | assumption) [AV.cells?, AV.isCell, -AV.cells?, l227, cutC, bodyOf, Tryz.f26, E_esc, q2, q3, q4, q5, hcx, hlx, htx, hex, z6_len, z6, c24, a24, k24, i24, hf]
    · simp only at q1 q2
      subst q1 q2
      rw [q3, blockK_pan, seqK_pan, ansX_err]
      clear r1 e1 p1
      have hf := fin_stop H0 T a l p d r c' r
      simp only [fromBody, finPan, hf]
end
end Go.Proofs.YtmhidempoabehaaGreatDoor.PS
/- The parser: sum, rel, evaluated. No condition. -/
namespace Go.Proofs.YtmhidempoabehaaGreatDoor.PS
set_option linter.unusedVariables false
set_option linter.unusedSimpArgs false
open Go AE EX PT NF LX
set_option maxRecDepth 100000

noncomputable def lp64 : Code := cutC (bodyOf Tryz.f76) [1, 1, 0, 0]
noncomputable def l064 : Code := cutC (bodyOf Tryz.f76) [0]
noncomputable def l164 : Code := cutC (bodyOf Tryz.f76) [1, 0]
theorem fb64 : Tryz.f76.body = some (.seq l064 (.seq l164 (.block 0 (.loop lp64)))) := rfl

def CHR (H0 : List HBox) (T : List Nat) (a : Nat) (l : List Tk) (d n : Nat) (R : PR X) (r : Out × FS) : Prop :=
  (r.1 = .ret ∧ ∃ e q, r.2.t 2 = .loc n 2 1 0 ∧ r.2.b 2 = (1, X.cells e) ∧ r.2.S = PSt H0 T a l q d ∧ R = .ok (e, q)) ∨
  (∃ c q, r.1 = .pan (stopV (hereT l) c q) ∧ r.2.S = PSt H0 T a l q d ∧ R = .error (c, q))

section
variable {H0 : List HBox} {a : Nat} (ha : a < H0.length) (T : List Nat) (l : List Tk) (hl : l.length ≤ 2000000)
include ha hl
set_option maxHeartbeats 4000000 in
theorem rd64 (n d : Nat) (sub : Nat → PR X) (hs : Sub H0 T a l d (n + 2) 81 sub) (hm : Mono sub) (R : PR X) (m : Nat) (fs : FS) (h : CHI H0 T a l d (n + 2) [([43], 8), ([45], 9)] sub R m fs) :
    ∃ o fs', evCode ⟨Tryz.prog, E.esc 76, n + 2⟩ (ev Tryz.prog E (n + 2)) (E.ps 76) (n + 2) lp64 fs = some (o, fs') ∧ ((o = .norm ∧ ∃ m', m' < m ∧ CHI H0 T a l d (n + 2) [([43], 8), ([45], 9)] sub R m' fs') ∨ (o ≠ .norm ∧ CHR H0 T a l d (n + 2) R (o, fs'))) := by
  obtain ⟨t, b, c, S⟩ := fs
  obtain ⟨e, r, f, hmr, h0, h2, h3, hb2, hb3, hS, hmf, hR⟩ := h
  simp only at h0 h2 h3 hb2 hb3 hS
  subst hS
  obtain ⟨f, rfl⟩ : ∃ g, f = g + 1 := ⟨f - 1, by omega⟩
  have hi : ev Tryz.prog E (n + 2) 41 [.ptr a 0, .str [43]] (PSt H0 T a l r d) = _ := ev_is ha T l hl n r d _ _
  have hj : ev Tryz.prog E (n + 2) 41 [.ptr a 0, .str [45]] (PSt H0 T a l r d) = _ := ev_is ha T l hl n r d _ _
  have hcx := xcells e
  have hlx := xlen e
  have htx := xtake e
  have hex := xemb e
  have hsub := hs (r + 1)
  rw [loopF, opAt, opAt, opAt] at hR
  cases hB : isB (hereT l) r [43]
  · rw [hB] at hi hR
    simp only [Bool.false_eq_true, if_false] at hi hR
    cases hB2 : isB (hereT l) r [45]
    · rw [hB2] at hj hR
      simp only [Bool.false_eq_true, if_false] at hj hR
      refine ⟨.ret, ?_⟩
      generalize hL1 : PSt H0 T a l r d = L1 at *
      generalize hec : e.cells = ec at *
      generalize e.emb = ee at *
      refine ⟨_, by
        simp (disch := first | (simp only [List.length_append, List.length_cons, List.length_nil]; omega) | (simp; done) | assumption) [AV.cells?, AV.isCell, -AV.cells?, lp64, cutC, bodyOf, Tryz.f76, E_esc, h0, h2, h3, hb2, hb3, hi, hj, hcx, hlx, htx, hex, z6_len, c24, a24, k24, i24]
        rfl, .inr ⟨by simp, .inl ⟨rfl, e, r, by simp [upd, putA, h2], by simp [upd, hec, hb2, hlx, z6], hL1.symm, hR.symm⟩⟩⟩
    · have hlt := is_lt hB2
      rw [hB2] at hj hR
      simp only [if_true] at hj hR
      have hps : E.ps 76 6 = [(0, 2), (2, 2)] := rfl
      cases hq : sub (r + 1) with
      | error z =>
        obtain ⟨c', q⟩ := z
        rw [hq] at hsub hR
        rw [ansX_err] at hsub
        rw [th_err] at hR
        generalize hL3 : PSt H0 T a l q d = L3 at *
        generalize hL2 : PSt H0 T a l (r + 1) d = L2 at *
        generalize hL1 : PSt H0 T a l r d = L1 at *
        generalize e.cells = ec at *
        generalize hsv : stopV (hereT l) c' q = sv at *
        refine ⟨.pan sv, _, by
          simp (disch := first | (simp only [List.length_append, List.length_cons, List.length_nil]; omega) | (simp; done) | assumption) [AV.cells?, AV.isCell, -AV.cells?, lp64, cutC, bodyOf, Tryz.f76, E_esc, h0, h3, hb3, hi, hj, hsub, hlx, htx, hex, c24, a24, k24, i24, hps]
          rfl, .inr ⟨by simp, .inr ⟨c', q, by rw [hsv], hL3.symm, hR.symm⟩⟩⟩
      | ok z =>
        obtain ⟨x, q⟩ := z
        have hmono := hm _ _ _ hq
        rw [hq] at hsub hR
        rw [ansX_ok] at hsub
        rw [th_ok] at hR
        have hbo := ev_both (n + 1) 9 e x (PSt H0 T a l q d)
        have hcz := xcells (bothX 9 e x)
        have hlz := xlen (bothX 9 e x)
        generalize hL3 : PSt H0 T a l q d = L3 at *
        generalize hL2 : PSt H0 T a l (r + 1) d = L2 at *
        generalize hL1 : PSt H0 T a l r d = L1 at *
        generalize e.cells = ec at *
        generalize e.emb = ee at *
        generalize x.emb = xe at *
        generalize hzc : (bothX 9 e x).cells = zc at *
        generalize (bothX 9 e x).emb = ze at *
        refine ⟨.norm, _, by
          simp (disch := first | (simp only [List.length_append, List.length_cons, List.length_nil]; omega) | (simp; done) | assumption) [AV.cells?, AV.isCell, -AV.cells?, lp64, cutC, bodyOf, Tryz.f76, E_esc, h0, h3, hb3, hi, hj, hsub, hbo, hcz, hlz, hlx, htx, hex, c24, a24, k24, i24, hps]
          rfl, .inl ⟨rfl, l.length - q, by omega, bothX 9 e x, q, f, rfl, by simp [upd, putA, h0], by simp [upd, putA, h2], by simp [upd, putA, h3], by simp [upd, hb2], by simp [upd, hzc, hlx], hL3.symm, by omega, hR⟩⟩
  · have hlt := is_lt hB
    rw [hB] at hi hR
    simp only [if_true] at hi hR
    have hps : E.ps 76 4 = [(0, 2), (2, 2)] := rfl
    cases hq : sub (r + 1) with
    | error z =>
      obtain ⟨c', q⟩ := z
      rw [hq] at hsub hR
      rw [ansX_err] at hsub
      rw [th_err] at hR
      generalize hL3 : PSt H0 T a l q d = L3 at *
      generalize hL2 : PSt H0 T a l (r + 1) d = L2 at *
      generalize hL1 : PSt H0 T a l r d = L1 at *
      generalize e.cells = ec at *
      generalize hsv : stopV (hereT l) c' q = sv at *
      refine ⟨.pan sv, _, by
        simp (disch := first | (simp only [List.length_append, List.length_cons, List.length_nil]; omega) | (simp; done) | assumption) [AV.cells?, AV.isCell, -AV.cells?, lp64, cutC, bodyOf, Tryz.f76, E_esc, h0, h3, hb3, hi, hsub, hlx, htx, hex, c24, a24, k24, i24, hps]
        rfl, .inr ⟨by simp, .inr ⟨c', q, by rw [hsv], hL3.symm, hR.symm⟩⟩⟩
    | ok z =>
      obtain ⟨x, q⟩ := z
      have hmono := hm _ _ _ hq
      rw [hq] at hsub hR
      rw [ansX_ok] at hsub
      rw [th_ok] at hR
      have hbo := ev_both (n + 1) 8 e x (PSt H0 T a l q d)
      have hcz := xcells (bothX 8 e x)
      have hlz := xlen (bothX 8 e x)
      generalize hL3 : PSt H0 T a l q d = L3 at *
      generalize hL2 : PSt H0 T a l (r + 1) d = L2 at *
      generalize hL1 : PSt H0 T a l r d = L1 at *
      generalize e.cells = ec at *
      generalize e.emb = ee at *
      generalize x.emb = xe at *
      generalize hzc : (bothX 8 e x).cells = zc at *
      generalize (bothX 8 e x).emb = ze at *
      refine ⟨.norm, _, by
        simp (disch := first | (simp only [List.length_append, List.length_cons, List.length_nil]; omega) | (simp; done) | assumption) [AV.cells?, AV.isCell, -AV.cells?, lp64, cutC, bodyOf, Tryz.f76, E_esc, h0, h3, hb3, hi, hsub, hbo, hcz, hlz, hlx, htx, hex, c24, a24, k24, i24, hps]
        rfl, .inl ⟨rfl, l.length - q, by omega, bothX 8 e x, q, f, rfl, by simp [upd, putA, h0], by simp [upd, putA, h2], by simp [upd, putA, h3], by simp [upd, hb2], by simp [upd, hzc, hlx], hL3.symm, by omega, hR⟩⟩
set_option maxHeartbeats 2000000 in
theorem ev64 (n d : Nat) (sub : Nat → PR X) (hs : Sub H0 T a l d (n + 2) 81 sub) (hm : Mono sub) (F : Nat) (hF : l.length < F) (hn : l.length < n) : Sub H0 T a l d (n + 3) 76 (chainP (hereT l) F [([43], 8), ([45], 9)] sub) := by
  intro p
  have hsub := hs p
  rw [show n + 3 = (n + 2) + 1 from rfl, ev_enter (n := n + 2) (show E.ok 76 = true from rfl) Tryz.func76 fb64 (Nat.le_of_ble_eq_true rfl) (by decide +kernel)]
  rw [evCode_assoc]
  unfold chainP
  cases hq : sub p with
  | error z =>
    obtain ⟨c', q⟩ := z
    rw [hq, ansX_err] at hsub
    rw [th_err, ansX_err]
    have hf := fin_stop H0 T a l p d q c' q
    generalize PSt H0 T a l q d = L3 at *
    generalize PSt H0 T a l p d = L1 at *
    generalize stopV (hereT l) c' q = sv at *
    simp (disch := first | (simp only [List.length_append, List.length_cons, List.length_nil]; omega) | (simp; done) | assumption) [AV.cells?, AV.isCell, l064, l164, cutC, bodyOf, Tryz.f76, E_esc, hsub, z24', c24, a24, k24, i24, finPan, hf]
  | ok z =>
    obtain ⟨x, q⟩ := z
    rw [hq, ansX_ok] at hsub
    rw [th_ok]
    have hcx := xcells x
    have hlx := xlen x
    obtain ⟨fs1, e1, p1⟩ : ∃ fs', evCode ⟨Tryz.prog, E.esc 76, n + 2⟩ (ev Tryz.prog E (n + 2)) (E.ps 76) (n + 2) (.seq l064 l164) ⟨argsA [.ptr a 0], fun _ => (0, []), 0, PSt H0 T a l p d⟩ = some (.norm, fs') ∧ CHI H0 T a l d (n + 2) [([43], 8), ([45], 9)] sub (loopF (hereT l) [([43], 8), ([45], 9)] sub F x q) (l.length - q) fs' := by
      generalize hL3 : PSt H0 T a l q d = L3 at *
      generalize PSt H0 T a l p d = L1 at *
      generalize hxc : x.cells = xc at *
      generalize x.emb = xe at *
      refine ⟨_, by
        simp (disch := first | (simp only [List.length_append, List.length_cons, List.length_nil]; omega) | (simp; done) | assumption) [AV.cells?, AV.isCell, -AV.cells?, l064, l164, cutC, bodyOf, Tryz.f76, E_esc, hsub, hcx, hlx, z24', z6_len, c24, a24, k24, i24]
        rfl, x, q, F, rfl, by simp [upd, putA, argsA], by simp [upd, putA], by simp [upd, putA], by simp [upd], by simp [upd, hxc, z6], hL3.symm, by omega, rfl⟩
    obtain ⟨⟨o, fs2⟩, r1, r2⟩ := iter_meas (fun m' fs h => rd64 ha T l hl n d sub hs hm _ m' fs h) (l.length - q) (n + 2) fs1 (by omega) p1
    rw [evCode_seq, e1, seqK_norm, evCode_block, evCode_loop, r1]
    obtain ⟨t, b, c, S⟩ := fs2
    rcases r2 with ⟨q1, e, r, q2, q4, q6, q7⟩ | ⟨c', r, q1, q2, q3⟩
    · simp only at q1 q2 q4 q6
      subst q1 q6
      rw [q7, blockK_ret, ansX_ok]
      clear r1 e1 p1
      have hf := fin_X H0 T a l p d r e
      have hlx := xlen e
      have htx := xtake e
      have hex := xemb e
      generalize PSt H0 T a l r d = L3 at *
      generalize PSt H0 T a l p d = L1 at *
      generalize e.cells = ec at *
      generalize e.emb = ee at *
      simp (disch := first | (simp only [List.length_append, List.length_cons, List.length_nil]; omega) | (simp; done) | assumption) [AV.cells?, AV.isCell, -AV.cells?, Tryz.f76, E_esc, q2, q4, hlx, htx, hex, z6_len, c24, a24, k24, i24, hf]
    · simp only at q1 q2
      subst q1 q2
      rw [q3, blockK_pan, ansX_err]
      clear r1 e1 p1
      have hf := fin_stop H0 T a l p d r c' r
      simp only [fromBody, finPan, hf]
end
end Go.Proofs.YtmhidempoabehaaGreatDoor.PS
