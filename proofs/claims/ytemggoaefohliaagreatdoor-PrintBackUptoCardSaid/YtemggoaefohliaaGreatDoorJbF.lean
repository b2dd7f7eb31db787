/- Joined: PuA, DpD, DpE, DpF, DpG, DpH, DpI, DpJ, DpK, DpL. No condition beyond those of its lemmas. -/
import Derived.Test.YtemggoaefohliaaGreatDoorJbD
import Derived.Test.YtemggoaefohliaaGreatDoorJbE
/- Are two expressions alike, evaluated. No condition. -/
namespace Go.Proofs.YtemggoaefohliaaGreatDoor.PT
set_option linter.unusedVariables false
set_option linter.unusedSimpArgs false
open Go AE EX
set_option maxRecDepth 100000

mutual
def _root_.Go.Proofs.YtemggoaefohliaaGreatDoor.EX.X.same : X → X → Bool
  | .mk k nm n lo hi _ ks, .mk k' nm' n' lo' hi' _ ks' => k == k' && nm == nm' && n == n' && lo == lo' && hi == hi' && ks.length == ks'.length && sameL ks ks'
def sameL : List X → List X → Bool
  | [], [] => true
  | a :: l, b :: m => a.same b && sameL l m
  | _, _ => false
end
theorem sameL_append : ∀ (a a' b b' : List X), a.length = a'.length → sameL (a ++ b) (a' ++ b') = (sameL a a' && sameL b b')
  | [], [], b, b', _ => by simp [sameL]
  | x :: a, y :: a', b, b', h => by
    simp only [List.cons_append, sameL, sameL_append a a' b b' (by simpa using h), Bool.and_assoc]
  | [], _ :: _, _, _, h => by simp at h
  | _ :: _, [], _, _, h => by simp at h

noncomputable def eLoop : Code := cutC (bodyOf Tryz.f17) [1, 1, 0, 1, 0, 0]
noncomputable def el0 : Code := cutC (bodyOf Tryz.f17) [0]
noncomputable def el1 : Code := cutC (bodyOf Tryz.f17) [1, 0]
noncomputable def el2 : Code := cutC (bodyOf Tryz.f17) [1, 1, 0, 0]
noncomputable def el3 : Code := cutC (bodyOf Tryz.f17) [1, 1, 1]
theorem f19b : Tryz.f17.body = some (.seq el0 (.seq el1 (.seq (.seq el2 (.block 0 (.loop eLoop))) el3))) := rfl

def EI (n : Nat) (C D : List AV) (ks ks' : List X) (S0 : St) (m : Nat) (fs : FS) : Prop :=
  ∃ i, i + m = ks.length ∧ fs.t 2 = .loc n 2 1 0 ∧ fs.t 3 = .loc n 3 2 0 ∧ fs.b 2 = (1, C) ∧ fs.b 3 = (2, D) ∧ fs.t 5 = .int .i64 i ∧ fs.S = S0 ∧ sameL (ks.take i) (ks'.take i) = true
def EQ (ks ks' : List X) (S0 : St) (r : Out × FS) : Prop :=
  r.2.S = S0 ∧ ((r.1 = .exit 0 ∧ sameL ks ks' = true) ∨ (r.1 = .ret ∧ r.2.t 4 = .bool false ∧ sameL ks ks' = false))

theorem same_round (n : Nat) (c0 c1' c2' c3' c4' d0 d1 d2 d3 d4 : AV) (tk tk' : Bool) (ks ks' : List X) (S0 : St) (hs : ks.length ≤ 1048576) (hl : ks'.length = ks.length)
    (hrec : ∀ x ∈ ks, ∀ y ∈ ks', ∀ S, ev Tryz.prog E n 17 [x.emb, y.emb] S = some (.ret (.bool (x.same y)), S)) (m : Nat) (fs : FS)
    (h : EI n [c0, c1', c2', c3', c4', .slice (embL ks) (tokOf tk)] [d0, d1, d2, d3, d4, .slice (embL ks') (tokOf tk')] ks ks' S0 m fs) :
    ∃ o fs', evCode ⟨Tryz.prog, E.esc 17, n⟩ (ev Tryz.prog E n) (E.ps 17) n eLoop fs = some (o, fs') ∧
      ((o = .norm ∧ ∃ m', m' < m ∧ EI n [c0, c1', c2', c3', c4', .slice (embL ks) (tokOf tk)] [d0, d1, d2, d3, d4, .slice (embL ks') (tokOf tk')] ks ks' S0 m' fs') ∨ (o ≠ .norm ∧ EQ ks ks' S0 (o, fs'))) := by
  obtain ⟨t, b, v, S⟩ := fs
  obtain ⟨i, hi, h1, h2, h3, h4, h5, h6, h7⟩ := h
  simp only at h1 h2 h3 h4 h5 h6
  subst h6
  have hlen := embL_length ks
  have hlen' := embL_length ks'
  cases m with
  | zero =>
    have hi : i = ks.length := by omega
    subst hi
    refine ⟨.exit 0, _, by
      simp (disch := first | (simp only [List.length_append, List.length_cons, List.length_nil]; omega) | (simp; done) | assumption) [AV.cells?, AV.isCell, eLoop, cutC, bodyOf, Tryz.f17, h1, h2, h3, h4, h5, fq5, k22, c22, a22, sq22, bq3, hlen]
      rfl, .inr ⟨by simp, rfl, .inl ⟨rfl, by rw [List.take_length, ← hl, List.take_length] at h7; exact h7⟩⟩⟩
  | succ m =>
    have hlt : i < ks.length := by omega
    have hlt' : i < ks'.length := by omega
    have hltz : (i : Int) < ks.length := by omega
    have hxe : ks[i]? = some ks[i] := List.getElem?_eq_getElem hlt
    have hye : ks'[i]? = some ks'[i] := List.getElem?_eq_getElem hlt'
    have hr := hrec ks[i] (List.getElem_mem hlt) ks'[i] (List.getElem_mem hlt') S
    have hemb : (embL ks)[i]? = some ks[i].emb := by rw [embL_map, List.getElem?_map, hxe]; rfl
    have hemb' : (embL ks')[i]? = some ks'[i].emb := by rw [embL_map, List.getElem?_map, hye]; rfl
    have t1 : ks.take (i + 1) = ks.take i ++ [ks[i]] := by rw [List.take_add_one, hxe]; rfl
    have t2 : ks'.take (i + 1) = ks'.take i ++ [ks'[i]] := by rw [List.take_add_one, hye]; rfl
    have hw : IntKind.i64.wrap ((i : Int) + 1) = (i : Int) + 1 := wrap64 _ (by omega)
    have ha1 := cells_all ks[i]
    have hc1 := (cells_ok ks[i]).2
    have ht1 : List.take 6 ks[i].cells = ks[i].cells := List.take_of_length_le (by omega)
    have ha2 := cells_all ks'[i]
    have hc2 := (cells_ok ks'[i]).2
    have ht2 : List.take 6 ks'[i].cells = ks'[i].cells := List.take_of_length_le (by omega)
    have hps : E.ps 17 6 = [(1, 6), (4, 6), (1, 9), (4, 9)] := rfl
    obtain ⟨z, hz⟩ := ii24
    rw [emb_cells] at hemb hemb'
    rw [emb_cells, emb_cells] at hr
    have hst : sameL (ks.take (i + 1)) (ks'.take (i + 1)) = ks[i].same ks'[i] := by
      rw [t1, t2, sameL_append _ _ _ _ (by simp; omega), h7]
      simp [sameL]
    cases e1 : ks[i].same ks'[i]
    · rw [e1] at hr hst
      have hbad : sameL ks ks' = false := by
        have : sameL (ks.take (i + 1) ++ ks.drop (i + 1)) (ks'.take (i + 1) ++ ks'.drop (i + 1)) = false := by
          rw [sameL_append _ _ _ _ (by simp; omega), hst]; rfl
        rwa [List.take_append_drop, List.take_append_drop] at this
      generalize ks[i].cells = C1 at *
      generalize ks'[i].cells = C2 at *
      refine ⟨.ret, _, by
        simp (disch := first | (simp only [List.length_append, List.length_cons, List.length_nil]; omega) | (simp; done) | assumption) [AV.cells?, AV.isCell, eLoop, cutC, bodyOf, Tryz.f17, E_esc, h1, h2, h3, h4, h5, fq5, k22, c22, a22, k24, c24, a24, i24, hz, sq22, bq3, hlen, hlen', hlt, hltz, hemb, hemb', hr, hps, ha1, hc1, ht1, ha2, hc2, ht2]
        rfl, .inr ⟨by simp, rfl, .inr ⟨rfl, by simp [upd], hbad⟩⟩⟩
    · rw [e1] at hr hst
      generalize ks[i].cells = C1 at *
      generalize ks'[i].cells = C2 at *
      refine ⟨.norm, _, by
        simp (disch := first | (simp only [List.length_append, List.length_cons, List.length_nil]; omega) | (simp; done) | assumption) [AV.cells?, AV.isCell, eLoop, cutC, bodyOf, Tryz.f17, E_esc, h1, h2, h3, h4, h5, fq5, k22, c22, a22, k24, c24, a24, i24, hz, sq22, bq3, hlen, hlen', hlt, hltz, hemb, hemb', hr, hps, ha1, hc1, ht1, ha2, hc2, ht2]
        rfl, .inl ⟨rfl, m, by omega, i + 1, by omega, by simp [upd, h1], by simp [upd, h2], by simp [upd, h3], by simp [upd, h4], by simp [upd, hw], rfl, hst⟩⟩

theorem ev_same : ∀ (m : Nat) (x y : X), x.size ≤ m → y.size ≤ 1048576 → m ≤ 1048576 → ∀ n, m + 2 ≤ n → ∀ S, ev Tryz.prog E n 17 [x.emb, y.emb] S = some (.ret (.bool (x.same y)), S)
  | 0, x, _, hm, _, _, _, _, _ => absurd hm (by have := size_pos x; omega)
  | m + 1, x, y, hm, hy, hmm, n, hn, S => by
    obtain ⟨n, rfl⟩ : ∃ k, n = k + 1 := ⟨n - 1, by omega⟩
    obtain ⟨k, nm, a, lo, hi, tk, ks⟩ := x
    obtain ⟨k', nm', a', lo', hi', tk', ks'⟩ := y
    simp only [X.size] at hm hy
    have hl := sizeL_length ks
    have hl' := sizeL_length ks'
    have hlen := embL_length ks
    have hlen' := embL_length ks'
    simp only [X.emb]
    rw [ev_enter (n := n) (show E.ok 17 = true from rfl) Tryz.func17 f19b (Nat.le_of_ble_eq_true rfl) (by decide +kernel)]
    cases h0 : (k == k')
    · have hx : (X.mk k nm a lo hi tk ks).same (.mk k' nm' a' lo' hi' tk' ks') = false := by simp only [X.same, h0]; simp
      rw [hx]
      simp (disch := first | (simp only [List.length_append, List.length_cons, List.length_nil]; omega) | (simp; done) | assumption) [AV.cells?, AV.isCell, el0, el1, el2, el3, cutC, bodyOf, Tryz.f17, E_esc, k24, c24, a24, k3, c3, a3, k2, c2, a2, k9, c9, a9, k22, c22, a22, fq0, fq1, fq2, fq3, fq4, fq5, sq22, bq3, bq2, bq9, bne, hlen, hlen', -AV.isCell, h0]
    cases h1 : (nm == nm')
    · have hx : (X.mk k nm a lo hi tk ks).same (.mk k' nm' a' lo' hi' tk' ks') = false := by simp only [X.same, h0, h1]; simp
      rw [hx]
      simp (disch := first | (simp only [List.length_append, List.length_cons, List.length_nil]; omega) | (simp; done) | assumption) [AV.cells?, AV.isCell, el0, el1, el2, el3, cutC, bodyOf, Tryz.f17, E_esc, k24, c24, a24, k3, c3, a3, k2, c2, a2, k9, c9, a9, k22, c22, a22, fq0, fq1, fq2, fq3, fq4, fq5, sq22, bq3, bq2, bq9, bne, hlen, hlen', -AV.isCell, h0, h1]
    cases h2 : (a == a')
    · have hx : (X.mk k nm a lo hi tk ks).same (.mk k' nm' a' lo' hi' tk' ks') = false := by simp only [X.same, h0, h1, h2]; simp
      rw [hx]
      simp (disch := first | (simp only [List.length_append, List.length_cons, List.length_nil]; omega) | (simp; done) | assumption) [AV.cells?, AV.isCell, el0, el1, el2, el3, cutC, bodyOf, Tryz.f17, E_esc, k24, c24, a24, k3, c3, a3, k2, c2, a2, k9, c9, a9, k22, c22, a22, fq0, fq1, fq2, fq3, fq4, fq5, sq22, bq3, bq2, bq9, bne, hlen, hlen', -AV.isCell, h0, h1, h2]
    cases h3 : (lo == lo')
    · have hx : (X.mk k nm a lo hi tk ks).same (.mk k' nm' a' lo' hi' tk' ks') = false := by simp only [X.same, h0, h1, h2, h3]; simp
      rw [hx]
      simp (disch := first | (simp only [List.length_append, List.length_cons, List.length_nil]; omega) | (simp; done) | assumption) [AV.cells?, AV.isCell, el0, el1, el2, el3, cutC, bodyOf, Tryz.f17, E_esc, k24, c24, a24, k3, c3, a3, k2, c2, a2, k9, c9, a9, k22, c22, a22, fq0, fq1, fq2, fq3, fq4, fq5, sq22, bq3, bq2, bq9, bne, hlen, hlen', -AV.isCell, h0, h1, h2, h3]
    cases h4 : (hi == hi')
    · have hx : (X.mk k nm a lo hi tk ks).same (.mk k' nm' a' lo' hi' tk' ks') = false := by simp only [X.same, h0, h1, h2, h3, h4]; simp
      rw [hx]
      simp (disch := first | (simp only [List.length_append, List.length_cons, List.length_nil]; omega) | (simp; done) | assumption) [AV.cells?, AV.isCell, el0, el1, el2, el3, cutC, bodyOf, Tryz.f17, E_esc, k24, c24, a24, k3, c3, a3, k2, c2, a2, k9, c9, a9, k22, c22, a22, fq0, fq1, fq2, fq3, fq4, fq5, sq22, bq3, bq2, bq9, bne, hlen, hlen', -AV.isCell, h0, h1, h2, h3, h4]
    cases h5 : (ks.length == ks'.length)
    · have hx : (X.mk k nm a lo hi tk ks).same (.mk k' nm' a' lo' hi' tk' ks') = false := by simp only [X.same, h0, h1, h2, h3, h4, h5]; simp
      have h5z : ((ks.length : Int) == (ks'.length : Int)) = false := by
        have : ks.length ≠ ks'.length := by simpa using h5
        simp; omega
      rw [hx]
      simp (disch := first | (simp only [List.length_append, List.length_cons, List.length_nil]; omega) | (simp; done) | assumption) [AV.cells?, AV.isCell, el0, el1, el2, el3, cutC, bodyOf, Tryz.f17, E_esc, k24, c24, a24, k3, c3, a3, k2, c2, a2, k9, c9, a9, k22, c22, a22, fq0, fq1, fq2, fq3, fq4, fq5, sq22, bq3, bq2, bq9, bne, hlen, hlen', -AV.isCell, h0, h1, h2, h3, h4, h5z]
    have e5 : ks'.length = ks.length := by
      have : ks.length = ks'.length := by simpa using h5
      omega
    have h5z : ((ks.length : Int) == (ks'.length : Int)) = true := by simp; omega
    have hx : (X.mk k nm a lo hi tk ks).same (.mk k' nm' a' lo' hi' tk' ks') = sameL ks ks' := by simp only [X.same, h0, h1, h2, h3, h4, h5]; simp
    rw [hx]
    have key : ∀ fs, EI n [.int .i64 k, .str nm, .int .i64 a, .int .i64 lo, .int .i64 hi, .slice (embL ks) (tokOf tk)] [.int .i64 k', .str nm', .int .i64 a', .int .i64 lo', .int .i64 hi', .slice (embL ks') (tokOf tk')] ks ks' S ks.length fs →
        ∃ r, iter n (evCode ⟨Tryz.prog, E.esc 17, n⟩ (ev Tryz.prog E n) (E.ps 17) n eLoop) fs = some r ∧ EQ ks ks' S r := fun fs h =>
      iter_meas (fun q fs h => same_round n _ _ _ _ _ _ _ _ _ _ tk tk' ks ks' S (by omega) e5 (fun x hx y hy' S => ev_same m x y (by have := sizeL_mem hx; omega) (by have := sizeL_mem hy'; omega) (by omega) n (by omega) S) q fs h) ks.length n fs (by omega) h
    cases hb : sameL ks ks'
    · have key2 : ∀ fs : FS, (fs.t 2 = .loc n 2 1 0 ∧ fs.t 3 = .loc n 3 2 0 ∧ fs.b 2 = (1, [.int .i64 k, .str nm, .int .i64 a, .int .i64 lo, .int .i64 hi, .slice (embL ks) (tokOf tk)]) ∧ fs.b 3 = (2, [.int .i64 k', .str nm', .int .i64 a', .int .i64 lo', .int .i64 hi', .slice (embL ks') (tokOf tk')]) ∧ fs.t 5 = .int .i64 0 ∧ fs.S = S) →
          ∃ r, iter n (evCode ⟨Tryz.prog, E.esc 17, n⟩ (ev Tryz.prog E n) (E.ps 17) n eLoop) fs = some (.ret, r) ∧ r.t 4 = .bool false ∧ r.S = S := fun fs ⟨q1, q2, q3, q4, q5, q6⟩ => by
        obtain ⟨⟨o, r⟩, r1, r2, r3⟩ := key fs ⟨0, by omega, q1, q2, q3, q4, q5, q6, by simp [sameL]⟩
        rcases r3 with ⟨_, r4⟩ | ⟨r4, r5, _⟩
        · rw [hb] at r4; cases r4
        · simp only at r4; subst r4; exact ⟨r, r1, r5, r2⟩
      obtain ⟨F, hF⟩ := skolem key2
      have hF1 := fun x h => (hF x h).1
      have hF2 := fun x h => (hF x h).2.1
      have hF3 := fun x h => (hF x h).2.2
      simp (disch := first | (simp [upd]; done) | omega | assumption) [AV.cells?, AV.isCell, el0, el1, el2, el3, cutC, bodyOf, Tryz.f17, E_esc, k24, c24, a24, k3, c3, a3, k2, c2, a2, k9, c9, a9, k22, c22, a22, fq0, fq1, fq2, fq3, fq4, fq5, sq22, bq3, bq2, bq9, bne, hlen, hlen', -AV.isCell, h0, h1, h2, h3, h4, h5z, hF1, hF2, hF3]
    · have key2 : ∀ fs : FS, (fs.t 2 = .loc n 2 1 0 ∧ fs.t 3 = .loc n 3 2 0 ∧ fs.b 2 = (1, [.int .i64 k, .str nm, .int .i64 a, .int .i64 lo, .int .i64 hi, .slice (embL ks) (tokOf tk)]) ∧ fs.b 3 = (2, [.int .i64 k', .str nm', .int .i64 a', .int .i64 lo', .int .i64 hi', .slice (embL ks') (tokOf tk')]) ∧ fs.t 5 = .int .i64 0 ∧ fs.S = S) →
          ∃ r, iter n (evCode ⟨Tryz.prog, E.esc 17, n⟩ (ev Tryz.prog E n) (E.ps 17) n eLoop) fs = some (.exit 0, r) ∧ r.S = S := fun fs ⟨q1, q2, q3, q4, q5, q6⟩ => by
        obtain ⟨⟨o, r⟩, r1, r2, r3⟩ := key fs ⟨0, by omega, q1, q2, q3, q4, q5, q6, by simp [sameL]⟩
        rcases r3 with ⟨r4, _⟩ | ⟨_, _, r4⟩
        · simp only at r4; subst r4; exact ⟨r, r1, r2⟩
        · rw [hb] at r4; cases r4
      obtain ⟨F, hF⟩ := skolem key2
      have hF1 := fun x h => (hF x h).1
      have hF3 := fun x h => (hF x h).2
      simp (disch := first | (simp [upd]; done) | omega | assumption) [AV.cells?, AV.isCell, el0, el1, el2, el3, cutC, bodyOf, Tryz.f17, E_esc, k24, c24, a24, k3, c3, a3, k2, c2, a2, k9, c9, a9, k22, c22, a22, fq0, fq1, fq2, fq3, fq4, fq5, sq22, bq3, bq2, bq9, bne, hlen, hlen', -AV.isCell, h0, h1, h2, h3, h4, h5z, hF1, hF3]
end Go.Proofs.YtemggoaefohliaaGreatDoor.PT
/- The parser: any, all, prod, evaluated (printed by gendp.py). No condition. -/
namespace Go.Proofs.YtemggoaefohliaaGreatDoor.PS
set_option linter.unusedVariables false
set_option linter.unusedSimpArgs false
open Go AE EX PT NF LX
set_option maxRecDepth 100000

def ansX (H0 : List HBox) (T : List Nat) (a : Nat) (l : List Tk) (d : Nat) : PR X → Option (Res × St)
  | .ok (x, q) => some (.ret x.emb, PSt H0 T a l q d)
  | .error (c, q) => some (.pan (stopV (hereT l) c q), PSt H0 T a l q d)
/-- the function f answers as sub says -/
def Sub (H0 : List HBox) (T : List Nat) (a : Nat) (l : List Tk) (d n f : Nat) (sub : Nat → PR X) : Prop := ∀ p, ev Tryz.prog E n f [.ptr a 0] (PSt H0 T a l p d) = ansX H0 T a l d (sub p)
theorem ansX_ok (H0 : List HBox) (T : List Nat) (a : Nat) (l : List Tk) (d : Nat) (x : X) (q : Nat) : ansX H0 T a l d (.ok (x, q)) = some (.ret x.emb, PSt H0 T a l q d) := rfl
theorem ansX_err (H0 : List HBox) (T : List Nat) (a : Nat) (l : List Tk) (d : Nat) (c : Int) (q : Nat) : ansX H0 T a l d (.error (c, q)) = some (.pan (stopV (hereT l) c q), PSt H0 T a l q d) := rfl
def z6 : List AV := [.int .i64 0, .str [], .int .i64 0, .int .i64 0, .int .i64 0, .slice [] .clip]
theorem z6_len : z6.length = 6 := rfl
theorem z6_take : List.take 6 z6 = z6 := rfl
theorem z24' : zeroQ Tryz.prog 25 = some z6 := z24
theorem fin_X (H0 : List HBox) (T : List Nat) (a : Nat) (l : List Tk) (p d q : Nat) (x : X) : finish (PSt H0 T a l p d) x.emb (PSt H0 T a l q d) = some (x.emb, PSt H0 T a l q d) :=
  PSt_fin T l p d q d (sealed_emb x) (strip_emb _ x) (low_emb _ _ x)
theorem fin_stop (H0 : List HBox) (T : List Nat) (a : Nat) (l : List Tk) (p d q : Nat) (c : Int) (z : Nat) : finish (PSt H0 T a l p d) (stopV (hereT l) c z) (PSt H0 T a l q d) = some (stopV (hereT l) c z, PSt H0 T a l q d) :=
  PSt_fin T l p d q d rfl rfl rfl

def CHI (H0 : List HBox) (T : List Nat) (a : Nat) (l : List Tk) (d n : Nat) (ops : List (List UInt8 × Int)) (sub : Nat → PR X) (R : PR X) (m : Nat) (fs : FS) : Prop :=
  ∃ e r f, m = l.length - r ∧ fs.t 0 = .ptr a 0 ∧ fs.t 2 = .loc n 2 1 0 ∧ fs.t 3 = .loc n 3 4 0 ∧ fs.b 2 = (1, z6) ∧ fs.b 3 = (4, e.cells) ∧ fs.S = PSt H0 T a l r d ∧ m < f ∧ loopF (hereT l) ops sub f e r = R
def CHQ (H0 : List HBox) (T : List Nat) (a : Nat) (l : List Tk) (d n : Nat) (R : PR X) (r : Out × FS) : Prop :=
  (r.1 = .exit 0 ∧ ∃ e q, r.2.t 2 = .loc n 2 1 0 ∧ r.2.t 3 = .loc n 3 4 0 ∧ r.2.b 2 = (1, z6) ∧ r.2.b 3 = (4, X.cells e) ∧ r.2.S = PSt H0 T a l q d ∧ R = .ok (e, q)) ∨
  (∃ c q, r.1 = .pan (stopV (hereT l) c q) ∧ r.2.S = PSt H0 T a l q d ∧ R = .error (c, q))

noncomputable def lp68 : Code := cutC (bodyOf Tryz.f123) [1, 1, 0, 0, 0]
noncomputable def l068 : Code := cutC (bodyOf Tryz.f123) [0]
noncomputable def l168 : Code := cutC (bodyOf Tryz.f123) [1, 0]
noncomputable def l268 : Code := cutC (bodyOf Tryz.f123) [1, 1, 1]
theorem fb68 : Tryz.f123.body = some (.seq l068 (.seq l168 (.seq (.block 0 (.loop lp68)) l268))) := rfl
section
variable {H0 : List HBox} {a : Nat} (ha : a < H0.length) (T : List Nat) (l : List Tk) (hl : l.length ≤ 2000000)
include ha hl
set_option maxHeartbeats 2000000 in
theorem rd68 (n d : Nat) (sub : Nat → PR X) (hs : Sub H0 T a l d (n + 2) 128 sub) (hm : Mono sub) (R : PR X) (m : Nat) (fs : FS) (h : CHI H0 T a l d (n + 2) [([42], 10)] sub R m fs) :
    ∃ o fs', evCode ⟨Tryz.prog, E.esc 123, n + 2⟩ (ev Tryz.prog E (n + 2)) (E.ps 123) (n + 2) lp68 fs = some (o, fs') ∧ ((o = .norm ∧ ∃ m', m' < m ∧ CHI H0 T a l d (n + 2) [([42], 10)] sub R m' fs') ∨ (o ≠ .norm ∧ CHQ H0 T a l d (n + 2) R (o, fs'))) := by
  obtain ⟨t, b, c, S⟩ := fs
  obtain ⟨e, r, f, hmr, h0, h2, h3, hb2, hb3, hS, hmf, hR⟩ := h
  simp only at h0 h2 h3 hb2 hb3 hS
  subst hS
  obtain ⟨f, rfl⟩ : ∃ g, f = g + 1 := ⟨f - 1, by omega⟩
  have hi : ev Tryz.prog E (n + 2) 52 [.ptr a 0, .str [42]] (PSt H0 T a l r d) = _ := ev_is ha T l hl n r d _ _
  rw [loopF, opAt, opAt] at hR
  cases hB : isB (hereT l) r [42]
  · rw [hB] at hi hR
    simp only [Bool.false_eq_true, if_false] at hi hR
    refine ⟨.exit 0, ?_⟩
    generalize hL1 : PSt H0 T a l r d = L1 at *
    refine ⟨_, by
      simp (disch := first | (simp only [List.length_append, List.length_cons, List.length_nil]; omega) | (simp; done) | assumption) [AV.cells?, AV.isCell, lp68, cutC, bodyOf, Tryz.f123, E_esc, h0, hi]
      rfl, .inr ⟨by simp, .inl ⟨rfl, e, r, by simp [upd, putA, h2], by simp [upd, putA, h3], hb2, hb3, hL1.symm, hR.symm⟩⟩⟩
  · have hlt := is_lt hB
    rw [hB] at hi hR
    simp only [if_true] at hi hR
    have hsub := hs (r + 1)
    have hcx := xcells e
    have hlx := xlen e
    have htx := xtake e
    have hex := xemb e
    have hps : E.ps 123 3 = [(0, 2), (2, 2)] := rfl
    cases hq : sub (r + 1) with
    | error z =>
      obtain ⟨c', q⟩ := z
      rw [hq] at hsub hR
      rw [ansX_err] at hsub
      rw [th_err] at hR
      generalize hL3 : PSt H0 T a l q d = L3 at *
      generalize hL2 : PSt H0 T a l (r + 1) d = L2 at *
      generalize hL1 : PSt H0 T a l r d = L1 at *
      generalize e.cells = ec at *
      generalize hsv : stopV (hereT l) c' q = sv at *
      refine ⟨.pan sv, _, by
        simp (disch := first | (simp only [List.length_append, List.length_cons, List.length_nil]; omega) | (simp; done) | assumption) [AV.cells?, AV.isCell, -AV.cells?, lp68, cutC, bodyOf, Tryz.f123, E_esc, h0, h3, hb3, hi, hsub, hlx, htx, hex, c24, a24, k24, i24, hps]
        rfl, .inr ⟨by simp, .inr ⟨c', q, by rw [hsv], hL3.symm, hR.symm⟩⟩⟩
    | ok z =>
      obtain ⟨x, q⟩ := z
      have hmono := hm _ _ _ hq
      rw [hq] at hsub hR
      rw [ansX_ok] at hsub
      rw [th_ok] at hR
      have hbo := ev_both (n + 1) 10 e x (PSt H0 T a l q d)
      have hcz := xcells (bothX 10 e x)
      have hlz := xlen (bothX 10 e x)
      refine ⟨.norm, ?_⟩
      generalize hL3 : PSt H0 T a l q d = L3 at *
      generalize hL2 : PSt H0 T a l (r + 1) d = L2 at *
      generalize hL1 : PSt H0 T a l r d = L1 at *
      generalize e.cells = ec at *
      generalize e.emb = ee at *
      generalize x.emb = xe at *
      generalize hzc : (bothX 10 e x).cells = zc at *
      generalize (bothX 10 e x).emb = ze at *
      refine ⟨_, by
        simp (disch := first | (simp only [List.length_append, List.length_cons, List.length_nil]; omega) | (simp; done) | assumption) [AV.cells?, AV.isCell, -AV.cells?, lp68, cutC, bodyOf, Tryz.f123, E_esc, h0, h3, hb3, hi, hsub, hbo, hcz, hlz, hlx, htx, hex, c24, a24, k24, i24, hps]
        rfl, .inl ⟨rfl, l.length - q, by omega, bothX 10 e x, q, f, rfl, by simp [upd, putA, h0], by simp [upd, putA, h2], by simp [upd, putA, h3], by simp [upd, hb2], by simp [upd, hzc, hlx], hL3.symm, by omega, hR⟩⟩
set_option maxHeartbeats 2000000 in
theorem ev68 (n d : Nat) (sub : Nat → PR X) (hs : Sub H0 T a l d (n + 2) 128 sub) (hm : Mono sub) (F : Nat) (hF : l.length < F) (hn : l.length < n) : Sub H0 T a l d (n + 3) 123 (chainP (hereT l) F [([42], 10)] sub) := by
  intro p
  have hsub := hs p
  rw [show n + 3 = (n + 2) + 1 from rfl, ev_enter (n := n + 2) (show E.ok 123 = true from rfl) Tryz.func123 fb68 (Nat.le_of_ble_eq_true rfl) (by decide +kernel)]
  rw [evCode_assoc]
  unfold chainP
  cases hq : sub p with
  | error z =>
    obtain ⟨c', q⟩ := z
    rw [hq, ansX_err] at hsub
    rw [th_err, ansX_err]
    have hf := fin_stop H0 T a l p d q c' q
    generalize PSt H0 T a l q d = L3 at *
    generalize PSt H0 T a l p d = L1 at *
    generalize stopV (hereT l) c' q = sv at *
    simp (disch := first | (simp only [List.length_append, List.length_cons, List.length_nil]; omega) | (simp; done) | assumption) [AV.cells?, AV.isCell, l068, l168, cutC, bodyOf, Tryz.f123, E_esc, hsub, z24', c24, a24, k24, i24, finPan, hf]
  | ok z =>
    obtain ⟨x, q⟩ := z
    rw [hq, ansX_ok] at hsub
    rw [th_ok]
    have hcx := xcells x
    have hlx := xlen x
    obtain ⟨fs1, e1, p1⟩ : ∃ fs', evCode ⟨Tryz.prog, E.esc 123, n + 2⟩ (ev Tryz.prog E (n + 2)) (E.ps 123) (n + 2) (.seq l068 l168) ⟨argsA [.ptr a 0], fun _ => (0, []), 0, PSt H0 T a l p d⟩ = some (.norm, fs') ∧ CHI H0 T a l d (n + 2) [([42], 10)] sub (loopF (hereT l) [([42], 10)] sub F x q) (l.length - q) fs' := by
      generalize hL3 : PSt H0 T a l q d = L3 at *
      generalize PSt H0 T a l p d = L1 at *
      generalize hxc : x.cells = xc at *
      generalize x.emb = xe at *
      refine ⟨_, by
        simp (disch := first | (simp only [List.length_append, List.length_cons, List.length_nil]; omega) | (simp; done) | assumption) [AV.cells?, AV.isCell, -AV.cells?, l068, l168, cutC, bodyOf, Tryz.f123, E_esc, hsub, hcx, hlx, z24', z6_len, c24, a24, k24, i24]
        rfl, x, q, F, rfl, by simp [upd, putA, argsA], by simp [upd, putA], by simp [upd, putA], by simp [upd], by simp [upd, hxc, z6], hL3.symm, by omega, rfl⟩
    obtain ⟨⟨o, fs2⟩, r1, r2⟩ := iter_meas (fun m' fs h => rd68 ha T l hl n d sub hs hm _ m' fs h) (l.length - q) (n + 2) fs1 (by omega) p1
    rw [evCode_seq, e1, seqK_norm, evCode_seq, evCode_block, evCode_loop, r1]
    obtain ⟨t, b, c, S⟩ := fs2
    rcases r2 with ⟨q1, e, r, q2, q3, q4, q5, q6, q7⟩ | ⟨c', r, q1, q2, q3⟩
    · simp only at q1 q2 q3 q4 q5 q6
      subst q1 q6
      rw [q7, blockK_exit, if_pos rfl, seqK_norm, ansX_ok]
      clear r1 e1 p1
      have hf := fin_X H0 T a l p d r e
      have hcx := xcells e
      have hlx := xlen e
      have htx := xtake e
      have hex := xemb e
      generalize PSt H0 T a l r d = L3 at *
      generalize PSt H0 T a l p d = L1 at *
      generalize e.cells = ec at *
      generalize e.emb = ee at *
      simp (disch := first | (simp only [List.length_append, List.length_cons, List.length_nil]; omega) | (simp; done) | assumption) [AV.cells?, AV.isCell, -AV.cells?, l268, cutC, bodyOf, Tryz.f123, E_esc, q2, q3, q4, q5, hcx, hlx, htx, hex, z6_len, z6, c24, a24, k24, i24, hf]
    · simp only at q1 q2
      subst q1 q2
      rw [q3, blockK_pan, seqK_pan, ansX_err]
      clear r1 e1 p1
      have hf := fin_stop H0 T a l p d r c' r
      simp only [fromBody, finPan, hf]
end

noncomputable def lp43 : Code := cutC (bodyOf Tryz.f51) [1, 1, 0, 0, 0]
noncomputable def l043 : Code := cutC (bodyOf Tryz.f51) [0]
noncomputable def l143 : Code := cutC (bodyOf Tryz.f51) [1, 0]
noncomputable def l243 : Code := cutC (bodyOf Tryz.f51) [1, 1, 1]
theorem fb43 : Tryz.f51.body = some (.seq l043 (.seq l143 (.seq (.block 0 (.loop lp43)) l243))) := rfl
section
variable {H0 : List HBox} {a : Nat} (ha : a < H0.length) (T : List Nat) (l : List Tk) (hl : l.length ≤ 2000000)
include ha hl
set_option maxHeartbeats 2000000 in
theorem rd43 (n d : Nat) (sub : Nat → PR X) (hs : Sub H0 T a l d (n + 2) 84 sub) (hm : Mono sub) (R : PR X) (m : Nat) (fs : FS) (h : CHI H0 T a l d (n + 2) [([97, 110, 100], 19)] sub R m fs) :
    ∃ o fs', evCode ⟨Tryz.prog, E.esc 51, n + 2⟩ (ev Tryz.prog E (n + 2)) (E.ps 51) (n + 2) lp43 fs = some (o, fs') ∧ ((o = .norm ∧ ∃ m', m' < m ∧ CHI H0 T a l d (n + 2) [([97, 110, 100], 19)] sub R m' fs') ∨ (o ≠ .norm ∧ CHQ H0 T a l d (n + 2) R (o, fs'))) := by
  obtain ⟨t, b, c, S⟩ := fs
  obtain ⟨e, r, f, hmr, h0, h2, h3, hb2, hb3, hS, hmf, hR⟩ := h
  simp only at h0 h2 h3 hb2 hb3 hS
  subst hS
  obtain ⟨f, rfl⟩ : ∃ g, f = g + 1 := ⟨f - 1, by omega⟩
  have hi : ev Tryz.prog E (n + 2) 52 [.ptr a 0, .str [97, 110, 100]] (PSt H0 T a l r d) = _ := ev_is ha T l hl n r d _ _
  rw [loopF, opAt, opAt] at hR
  cases hB : isB (hereT l) r [97, 110, 100]
  · rw [hB] at hi hR
    simp only [Bool.false_eq_true, if_false] at hi hR
    refine ⟨.exit 0, ?_⟩
    generalize hL1 : PSt H0 T a l r d = L1 at *
    refine ⟨_, by
      simp (disch := first | (simp only [List.length_append, List.length_cons, List.length_nil]; omega) | (simp; done) | assumption) [AV.cells?, AV.isCell, lp43, cutC, bodyOf, Tryz.f51, E_esc, h0, hi]
      rfl, .inr ⟨by simp, .inl ⟨rfl, e, r, by simp [upd, putA, h2], by simp [upd, putA, h3], hb2, hb3, hL1.symm, hR.symm⟩⟩⟩
  · have hlt := is_lt hB
    rw [hB] at hi hR
    simp only [if_true] at hi hR
    have hsub := hs (r + 1)
    have hcx := xcells e
    have hlx := xlen e
    have htx := xtake e
    have hex := xemb e
    have hps : E.ps 51 3 = [(0, 2), (2, 2)] := rfl
    cases hq : sub (r + 1) with
    | error z =>
      obtain ⟨c', q⟩ := z
      rw [hq] at hsub hR
      rw [ansX_err] at hsub
      rw [th_err] at hR
      generalize hL3 : PSt H0 T a l q d = L3 at *
      generalize hL2 : PSt H0 T a l (r + 1) d = L2 at *
      generalize hL1 : PSt H0 T a l r d = L1 at *
      generalize e.cells = ec at *
      generalize hsv : stopV (hereT l) c' q = sv at *
      refine ⟨.pan sv, _, by
        simp (disch := first | (simp only [List.length_append, List.length_cons, List.length_nil]; omega) | (simp; done) | assumption) [AV.cells?, AV.isCell, -AV.cells?, lp43, cutC, bodyOf, Tryz.f51, E_esc, h0, h3, hb3, hi, hsub, hlx, htx, hex, c24, a24, k24, i24, hps]
        rfl, .inr ⟨by simp, .inr ⟨c', q, by rw [hsv], hL3.symm, hR.symm⟩⟩⟩
    | ok z =>
      obtain ⟨x, q⟩ := z
      have hmono := hm _ _ _ hq
      rw [hq] at hsub hR
      rw [ansX_ok] at hsub
      rw [th_ok] at hR
      have hbo := ev_both (n + 1) 19 e x (PSt H0 T a l q d)
      have hcz := xcells (bothX 19 e x)
      have hlz := xlen (bothX 19 e x)
      refine ⟨.norm, ?_⟩
      generalize hL3 : PSt H0 T a l q d = L3 at *
      generalize hL2 : PSt H0 T a l (r + 1) d = L2 at *
      generalize hL1 : PSt H0 T a l r d = L1 at *
      generalize e.cells = ec at *
      generalize e.emb = ee at *
      generalize x.emb = xe at *
      generalize hzc : (bothX 19 e x).cells = zc at *
      generalize (bothX 19 e x).emb = ze at *
      refine ⟨_, by
        simp (disch := first | (simp only [List.length_append, List.length_cons, List.length_nil]; omega) | (simp; done) | assumption) [AV.cells?, AV.isCell, -AV.cells?, lp43, cutC, bodyOf, Tryz.f51, E_esc, h0, h3, hb3, hi, hsub, hbo, hcz, hlz, hlx, htx, hex, c24, a24, k24, i24, hps]
        rfl, .inl ⟨rfl, l.length - q, by omega, bothX 19 e x, q, f, rfl, by simp [upd, putA, h0], by simp [upd, putA, h2], by simp [upd, putA, h3], by simp [upd, hb2], by simp [upd, hzc, hlx], hL3.symm, by omega, hR⟩⟩
set_option maxHeartbeats 2000000 in
theorem ev43 (n d : Nat) (sub : Nat → PR X) (hs : Sub H0 T a l d (n + 2) 84 sub) (hm : Mono sub) (F : Nat) (hF : l.length < F) (hn : l.length < n) : Sub H0 T a l d (n + 3) 51 (chainP (hereT l) F [([97, 110, 100], 19)] sub) := by
  intro p
  have hsub := hs p
  rw [show n + 3 = (n + 2) + 1 from rfl, ev_enter (n := n + 2) (show E.ok 51 = true from rfl) Tryz.func51 fb43 (Nat.le_of_ble_eq_true rfl) (by decide +kernel)]
  rw [evCode_assoc]
  unfold chainP
  cases hq : sub p with
  | error z =>
    obtain ⟨c', q⟩ := z
    rw [hq, ansX_err] at hsub
    rw [th_err, ansX_err]
    have hf := fin_stop H0 T a l p d q c' q
    generalize PSt H0 T a l q d = L3 at *
    generalize PSt H0 T a l p d = L1 at *
    generalize stopV (hereT l) c' q = sv at *
    simp (disch := first | (simp only [List.length_append, List.length_cons, List.length_nil]; omega) | (simp; done) | assumption) [AV.cells?, AV.isCell, l043, l143, cutC, bodyOf, Tryz.f51, E_esc, hsub, z24', c24, a24, k24, i24, finPan, hf]
  | ok z =>
    obtain ⟨x, q⟩ := z
    rw [hq, ansX_ok] at hsub
    rw [th_ok]
    have hcx := xcells x
    have hlx := xlen x
    obtain ⟨fs1, e1, p1⟩ : ∃ fs', evCode ⟨Tryz.prog, E.esc 51, n + 2⟩ (ev Tryz.prog E (n + 2)) (E.ps 51) (n + 2) (.seq l043 l143) ⟨argsA [.ptr a 0], fun _ => (0, []), 0, PSt H0 T a l p d⟩ = some (.norm, fs') ∧ CHI H0 T a l d (n + 2) [([97, 110, 100], 19)] sub (loopF (hereT l) [([97, 110, 100], 19)] sub F x q) (l.length - q) fs' := by
      generalize hL3 : PSt H0 T a l q d = L3 at *
      generalize PSt H0 T a l p d = L1 at *
      generalize hxc : x.cells = xc at *
      generalize x.emb = xe at *
      refine ⟨_, by
        simp (disch := first | (simp only [List.length_append, List.length_cons, List.length_nil]; omega) | (simp; done) | assumption) [AV.cells?, AV.isCell, -AV.cells?, l043, l143, cutC, bodyOf, Tryz.f51, E_esc, hsub, hcx, hlx, z24', z6_len, c24, a24, k24, i24]
        rfl, x, q, F, rfl, by simp [upd, putA, argsA], by simp [upd, putA], by simp [upd, putA], by simp [upd], by simp [upd, hxc, z6], hL3.symm, by omega, rfl⟩
    obtain ⟨⟨o, fs2⟩, r1, r2⟩ := iter_meas (fun m' fs h => rd43 ha T l hl n d sub hs hm _ m' fs h) (l.length - q) (n + 2) fs1 (by omega) p1
    rw [evCode_seq, e1, seqK_norm, evCode_seq, evCode_block, evCode_loop, r1]
    obtain ⟨t, b, c, S⟩ := fs2
    rcases r2 with ⟨q1, e, r, q2, q3, q4, q5, q6, q7⟩ | ⟨c', r, q1, q2, q3⟩
    · simp only at q1 q2 q3 q4 q5 q6
      subst q1 q6
      rw [q7, blockK_exit, if_pos rfl, seqK_norm, ansX_ok]
      clear r1 e1 p1
      have hf := fin_X H0 T a l p d r e
      have hcx := xcells e
      have hlx := xlen e
      have htx := xtake e
      have hex := xemb e
      generalize PSt H0 T a l r d = L3 at *
      generalize PSt H0 T a l p d = L1 at *
      generalize e.cells = ec at *
      generalize e.emb = ee at *
      simp (disch := first | (simp only [List.length_append, List.length_cons, List.length_nil]; omega) | (simp; done) | assumption) [AV.cells?, AV.isCell, -AV.cells?, l243, cutC, bodyOf, Tryz.f51, E_esc, q2, q3, q4, q5, hcx, hlx, htx, hex, z6_len, z6, c24, a24, k24, i24, hf]
    · simp only at q1 q2
      subst q1 q2
      rw [q3, blockK_pan, seqK_pan, ansX_err]
      clear r1 e1 p1
      have hf := fin_stop H0 T a l p d r c' r
      simp only [fromBody, finPan, hf]
end

noncomputable def lp27 : Code := cutC (bodyOf Tryz.f27) [1, 1, 0, 0, 0]
noncomputable def l027 : Code := cutC (bodyOf Tryz.f27) [0]
noncomputable def l127 : Code := cutC (bodyOf Tryz.f27) [1, 0]
noncomputable def l227 : Code := cutC (bodyOf Tryz.f27) [1, 1, 1]
theorem fb27 : Tryz.f27.body = some (.seq l027 (.seq l127 (.seq (.block 0 (.loop lp27)) l227))) := rfl
section
variable {H0 : List HBox} {a : Nat} (ha : a < H0.length) (T : List Nat) (l : List Tk) (hl : l.length ≤ 2000000)
include ha hl
set_option maxHeartbeats 2000000 in
theorem rd27 (n d : Nat) (sub : Nat → PR X) (hs : Sub H0 T a l d (n + 2) 51 sub) (hm : Mono sub) (R : PR X) (m : Nat) (fs : FS) (h : CHI H0 T a l d (n + 2) [([111, 114], 20)] sub R m fs) :
    ∃ o fs', evCode ⟨Tryz.prog, E.esc 27, n + 2⟩ (ev Tryz.prog E (n + 2)) (E.ps 27) (n + 2) lp27 fs = some (o, fs') ∧ ((o = .norm ∧ ∃ m', m' < m ∧ CHI H0 T a l d (n + 2) [([111, 114], 20)] sub R m' fs') ∨ (o ≠ .norm ∧ CHQ H0 T a l d (n + 2) R (o, fs'))) := by
  obtain ⟨t, b, c, S⟩ := fs
  obtain ⟨e, r, f, hmr, h0, h2, h3, hb2, hb3, hS, hmf, hR⟩ := h
  simp only at h0 h2 h3 hb2 hb3 hS
  subst hS
  obtain ⟨f, rfl⟩ : ∃ g, f = g + 1 := ⟨f - 1, by omega⟩
  have hi : ev Tryz.prog E (n + 2) 52 [.ptr a 0, .str [111, 114]] (PSt H0 T a l r d) = _ := ev_is ha T l hl n r d _ _
  rw [loopF, opAt, opAt] at hR
  cases hB : isB (hereT l) r [111, 114]
  · rw [hB] at hi hR
    simp only [Bool.false_eq_true, if_false] at hi hR
    refine ⟨.exit 0, ?_⟩
    generalize hL1 : PSt H0 T a l r d = L1 at *
    refine ⟨_, by
      simp (disch := first | (simp only [List.length_append, List.length_cons, List.length_nil]; omega) | (simp; done) | assumption) [AV.cells?, AV.isCell, lp27, cutC, bodyOf, Tryz.f27, E_esc, h0, hi]
      rfl, .inr ⟨by simp, .inl ⟨rfl, e, r, by simp [upd, putA, h2], by simp [upd, putA, h3], hb2, hb3, hL1.symm, hR.symm⟩⟩⟩
  · have hlt := is_lt hB
    rw [hB] at hi hR
    simp only [if_true] at hi hR
    have hsub := hs (r + 1)
    have hcx := xcells e
    have hlx := xlen e
    have htx := xtake e
    have hex := xemb e
    have hps : E.ps 27 3 = [(0, 2), (2, 2)] := rfl
    cases hq : sub (r + 1) with
    | error z =>
      obtain ⟨c', q⟩ := z
      rw [hq] at hsub hR
      rw [ansX_err] at hsub
      rw [th_err] at hR
      generalize hL3 : PSt H0 T a l q d = L3 at *
      generalize hL2 : PSt H0 T a l (r + 1) d = L2 at *
      generalize hL1 : PSt H0 T a l r d = L1 at *
      generalize e.cells = ec at *
      generalize hsv : stopV (hereT l) c' q = sv at *
      refine ⟨.pan sv, _, by
        simp (disch := first | (simp only [List.length_append, List.length_cons, List.length_nil]; omega) | (simp; done) | assumption) [AV.cells?, AV.isCell, -AV.cells?, lp27, cutC, bodyOf, Tryz.f27, E_esc, h0, h3, hb3, hi, hsub, hlx, htx, hex, c24, a24, k24, i24, hps]
        rfl, .inr ⟨by simp, .inr ⟨c', q, by rw [hsv], hL3.symm, hR.symm⟩⟩⟩
    | ok z =>
      obtain ⟨x, q⟩ := z
      have hmono := hm _ _ _ hq
      rw [hq] at hsub hR
      rw [ansX_ok] at hsub
      rw [th_ok] at hR
      have hbo := ev_both (n + 1) 20 e x (PSt H0 T a l q d)
      have hcz := xcells (bothX 20 e x)
      have hlz := xlen (bothX 20 e x)
      refine ⟨.norm, ?_⟩
      generalize hL3 : PSt H0 T a l q d = L3 at *
      generalize hL2 : PSt H0 T a l (r + 1) d = L2 at *
      generalize hL1 : PSt H0 T a l r d = L1 at *
      generalize e.cells = ec at *
      generalize e.emb = ee at *
      generalize x.emb = xe at *
      generalize hzc : (bothX 20 e x).cells = zc at *
      generalize (bothX 20 e x).emb = ze at *
      refine ⟨_, by
        simp (disch := first | (simp only [List.length_append, List.length_cons, List.length_nil]; omega) | (simp; done) | assumption) [AV.cells?, AV.isCell, -AV.cells?, lp27, cutC, bodyOf, Tryz.f27, E_esc, h0, h3, hb3, hi, hsub, hbo, hcz, hlz, hlx, htx, hex, c24, a24, k24, i24, hps]
        rfl, .inl ⟨rfl, l.length - q, by omega, bothX 20 e x, q, f, rfl, by simp [upd, putA, h0], by simp [upd, putA, h2], by simp [upd, putA, h3], by simp [upd, hb2], by simp [upd, hzc, hlx], hL3.symm, by omega, hR⟩⟩
set_option maxHeartbeats 2000000 in
theorem ev27 (n d : Nat) (sub : Nat → PR X) (hs : Sub H0 T a l d (n + 2) 51 sub) (hm : Mono sub) (F : Nat) (hF : l.length < F) (hn : l.length < n) : Sub H0 T a l d (n + 3) 27 (chainP (hereT l) F [([111, 114], 20)] sub) := by
  intro p
  have hsub := hs p
  rw [show n + 3 = (n + 2) + 1 from rfl, ev_enter (n := n + 2) (show E.ok 27 = true from rfl) Tryz.func27 fb27 (Nat.le_of_ble_eq_true rfl) (by decide +kernel)]
  rw [evCode_assoc]
  unfold chainP
  cases hq : sub p with
  | error z =>
    obtain ⟨c', q⟩ := z
    rw [hq, ansX_err] at hsub
    rw [th_err, ansX_err]
    have hf := fin_stop H0 T a l p d q c' q
    generalize PSt H0 T a l q d = L3 at *
    generalize PSt H0 T a l p d = L1 at *
    generalize stopV (hereT l) c' q = sv at *
    simp (disch := first | (simp only [List.length_append, List.length_cons, List.length_nil]; omega) | (simp; done) | assumption) [AV.cells?, AV.isCell, l027, l127, cutC, bodyOf, Tryz.f27, E_esc, hsub, z24', c24, a24, k24, i24, finPan, hf]
  | ok z =>
    obtain ⟨x, q⟩ := z
    rw [hq, ansX_ok] at hsub
    rw [th_ok]
    have hcx := xcells x
    have hlx := xlen x
    obtain ⟨fs1, e1, p1⟩ : ∃ fs', evCode ⟨Tryz.prog, E.esc 27, n + 2⟩ (ev Tryz.prog E (n + 2)) (E.ps 27) (n + 2) (.seq l027 l127) ⟨argsA [.ptr a 0], fun _ => (0, []), 0, PSt H0 T a l p d⟩ = some (.norm, fs') ∧ CHI H0 T a l d (n + 2) [([111, 114], 20)] sub (loopF (hereT l) [([111, 114], 20)] sub F x q) (l.length - q) fs' := by
      generalize hL3 : PSt H0 T a l q d = L3 at *
      generalize PSt H0 T a l p d = L1 at *
      generalize hxc : x.cells = xc at *
      generalize x.emb = xe at *
      refine ⟨_, by
        simp (disch := first | (simp only [List.length_append, List.length_cons, List.length_nil]; omega) | (simp; done) | assumption) [AV.cells?, AV.isCell, -AV.cells?, l027, l127, cutC, bodyOf, Tryz.f27, E_esc, hsub, hcx, hlx, z24', z6_len, c24, a24, k24, i24]
        rfl, x, q, F, rfl, by simp [upd, putA, argsA], by simp [upd, putA], by simp [upd, putA], by simp [upd], by simp [upd, hxc, z6], hL3.symm, by omega, rfl⟩
    obtain ⟨⟨o, fs2⟩, r1, r2⟩ := iter_meas (fun m' fs h => rd27 ha T l hl n d sub hs hm _ m' fs h) (l.length - q) (n + 2) fs1 (by omega) p1
    rw [evCode_seq, e1, seqK_norm, evCode_seq, evCode_block, evCode_loop, r1]
    obtain ⟨t, b, c, S⟩ := fs2
    rcases r2 with ⟨q1, e, r, q2, q3, q4, q5, q6, q7⟩ | ⟨c', r, q1, q2, q3⟩
    · simp only at q1 q2 q3 q4 q5 q6
      subst q1 q6
      rw [q7, blockK_exit, if_pos rfl, seqK_norm, ansX_ok]
      clear r1 e1 p1
      have hf := fin_X H0 T a l p d r e
      have hcx := xcells e
      have hlx := xlen e
      have htx := xtake e
      have hex := xemb e
      generalize PSt H0 T a l r d = L3 at *
      generalize PSt H0 T a l p d = L1 at *
      generalize e.cells = ec at *
      generalize e.emb = ee at *
      simp (disch := first | (simp only [List.length_append, List.length_cons, List.length_nil]; omega) | (simp; done) | assumption) [AV.cells?, AV.isCell, -AV.cells?, l227, cutC, bodyOf, Tryz.f27, E_esc, q2, q3, q4, q5, hcx, hlx, htx, hex, z6_len, z6, c24, a24, k24, i24, hf]
    · simp only at q1 q2
      subst q1 q2
      rw [q3, blockK_pan, seqK_pan, ansX_err]
      clear r1 e1 p1
      have hf := fin_stop H0 T a l p d r c' r
      simp only [fromBody, finPan, hf]
end
end Go.Proofs.YtemggoaefohliaaGreatDoor.PS
/- The parser: sum, rel, evaluated. No condition. -/
namespace Go.Proofs.YtemggoaefohliaaGreatDoor.PS
set_option linter.unusedVariables false
set_option linter.unusedSimpArgs false
open Go AE EX PT NF LX
set_option maxRecDepth 100000

noncomputable def lp64 : Code := cutC (bodyOf Tryz.f111) [1, 1, 0, 0]
noncomputable def l064 : Code := cutC (bodyOf Tryz.f111) [0]
noncomputable def l164 : Code := cutC (bodyOf Tryz.f111) [1, 0]
theorem fb64 : Tryz.f111.body = some (.seq l064 (.seq l164 (.block 0 (.loop lp64)))) := rfl

def CHR (H0 : List HBox) (T : List Nat) (a : Nat) (l : List Tk) (d n : Nat) (R : PR X) (r : Out × FS) : Prop :=
  (r.1 = .ret ∧ ∃ e q, r.2.t 2 = .loc n 2 1 0 ∧ r.2.b 2 = (1, X.cells e) ∧ r.2.S = PSt H0 T a l q d ∧ R = .ok (e, q)) ∨
  (∃ c q, r.1 = .pan (stopV (hereT l) c q) ∧ r.2.S = PSt H0 T a l q d ∧ R = .error (c, q))

section
variable {H0 : List HBox} {a : Nat} (ha : a < H0.length) (T : List Nat) (l : List Tk) (hl : l.length ≤ 2000000)
include ha hl
set_option maxHeartbeats 4000000 in
theorem rd64 (n d : Nat) (sub : Nat → PR X) (hs : Sub H0 T a l d (n + 2) 123 sub) (hm : Mono sub) (R : PR X) (m : Nat) (fs : FS) (h : CHI H0 T a l d (n + 2) [([43], 8), ([45], 9)] sub R m fs) :
    ∃ o fs', evCode ⟨Tryz.prog, E.esc 111, n + 2⟩ (ev Tryz.prog E (n + 2)) (E.ps 111) (n + 2) lp64 fs = some (o, fs') ∧ ((o = .norm ∧ ∃ m', m' < m ∧ CHI H0 T a l d (n + 2) [([43], 8), ([45], 9)] sub R m' fs') ∨ (o ≠ .norm ∧ CHR H0 T a l d (n + 2) R (o, fs'))) := by
  obtain ⟨t, b, c, S⟩ := fs
  obtain ⟨e, r, f, hmr, h0, h2, h3, hb2, hb3, hS, hmf, hR⟩ := h
  simp only at h0 h2 h3 hb2 hb3 hS
  subst hS
  obtain ⟨f, rfl⟩ : ∃ g, f = g + 1 := ⟨f - 1, by omega⟩
  have hi : ev Tryz.prog E (n + 2) 52 [.ptr a 0, .str [43]] (PSt H0 T a l r d) = _ := ev_is ha T l hl n r d _ _
  have hj : ev Tryz.prog E (n + 2) 52 [.ptr a 0, .str [45]] (PSt H0 T a l r d) = _ := ev_is ha T l hl n r d _ _
  have hcx := xcells e
  have hlx := xlen e
  have htx := xtake e
  have hex := xemb e
  have hsub := hs (r + 1)
  rw [loopF, opAt, opAt, opAt] at hR
  cases hB : isB (hereT l) r [43]
  · rw [hB] at hi hR
    simp only [Bool.false_eq_true, if_false] at hi hR
    cases hB2 : isB (hereT l) r [45]
    · rw [hB2] at hj hR
      simp only [Bool.false_eq_true, if_false] at hj hR
      refine ⟨.ret, ?_⟩
      generalize hL1 : PSt H0 T a l r d = L1 at *
      generalize hec : e.cells = ec at *
      generalize e.emb = ee at *
      refine ⟨_, by
        simp (disch := first | (simp only [List.length_append, List.length_cons, List.length_nil]; omega) | (simp; done) | assumption) [AV.cells?, AV.isCell, -AV.cells?, lp64, cutC, bodyOf, Tryz.f111, E_esc, h0, h2, h3, hb2, hb3, hi, hj, hcx, hlx, htx, hex, z6_len, c24, a24, k24, i24]
        rfl, .inr ⟨by simp, .inl ⟨rfl, e, r, by simp [upd, putA, h2], by simp [upd, hec, hb2, hlx, z6], hL1.symm, hR.symm⟩⟩⟩
    · have hlt := is_lt hB2
      rw [hB2] at hj hR
      simp only [if_true] at hj hR
      have hps : E.ps 111 6 = [(0, 2), (2, 2)] := rfl
      cases hq : sub (r + 1) with
      | error z =>
        obtain ⟨c', q⟩ := z
        rw [hq] at hsub hR
        rw [ansX_err] at hsub
        rw [th_err] at hR
        generalize hL3 : PSt H0 T a l q d = L3 at *
        generalize hL2 : PSt H0 T a l (r + 1) d = L2 at *
        generalize hL1 : PSt H0 T a l r d = L1 at *
        generalize e.cells = ec at *
        generalize hsv : stopV (hereT l) c' q = sv at *
        refine ⟨.pan sv, _, by
          simp (disch := first | (simp only [List.length_append, List.length_cons, List.length_nil]; omega) | (simp; done) | assumption) [AV.cells?, AV.isCell, -AV.cells?, lp64, cutC, bodyOf, Tryz.f111, E_esc, h0, h3, hb3, hi, hj, hsub, hlx, htx, hex, c24, a24, k24, i24, hps]
          rfl, .inr ⟨by simp, .inr ⟨c', q, by rw [hsv], hL3.symm, hR.symm⟩⟩⟩
      | ok z =>
        obtain ⟨x, q⟩ := z
        have hmono := hm _ _ _ hq
        rw [hq] at hsub hR
        rw [ansX_ok] at hsub
        rw [th_ok] at hR
        have hbo := ev_both (n + 1) 9 e x (PSt H0 T a l q d)
        have hcz := xcells (bothX 9 e x)
        have hlz := xlen (bothX 9 e x)
        generalize hL3 : PSt H0 T a l q d = L3 at *
        generalize hL2 : PSt H0 T a l (r + 1) d = L2 at *
        generalize hL1 : PSt H0 T a l r d = L1 at *
        generalize e.cells = ec at *
        generalize e.emb = ee at *
        generalize x.emb = xe at *
        generalize hzc : (bothX 9 e x).cells = zc at *
        generalize (bothX 9 e x).emb = ze at *
        refine ⟨.norm, _, by
          simp (disch := first | (simp only [List.length_append, List.length_cons, List.length_nil]; omega) | (simp; done) | assumption) [AV.cells?, AV.isCell, -AV.cells?, lp64, cutC, bodyOf, Tryz.f111, E_esc, h0, h3, hb3, hi, hj, hsub, hbo, hcz, hlz, hlx, htx, hex, c24, a24, k24, i24, hps]
          rfl, .inl ⟨rfl, l.length - q, by omega, bothX 9 e x, q, f, rfl, by simp [upd, putA, h0], by simp [upd, putA, h2], by simp [upd, putA, h3], by simp [upd, hb2], by simp [upd, hzc, hlx], hL3.symm, by omega, hR⟩⟩
  · have hlt := is_lt hB
    rw [hB] at hi hR
    simp only [if_true] at hi hR
    have hps : E.ps 111 4 = [(0, 2), (2, 2)] := rfl
    cases hq : sub (r + 1) with
    | error z =>
      obtain ⟨c', q⟩ := z
      rw [hq] at hsub hR
      rw [ansX_err] at hsub
      rw [th_err] at hR
      generalize hL3 : PSt H0 T a l q d = L3 at *
      generalize hL2 : PSt H0 T a l (r + 1) d = L2 at *
      generalize hL1 : PSt H0 T a l r d = L1 at *
      generalize e.cells = ec at *
      generalize hsv : stopV (hereT l) c' q = sv at *
      refine ⟨.pan sv, _, by
        simp (disch := first | (simp only [List.length_append, List.length_cons, List.length_nil]; omega) | (simp; done) | assumption) [AV.cells?, AV.isCell, -AV.cells?, lp64, cutC, bodyOf, Tryz.f111, E_esc, h0, h3, hb3, hi, hsub, hlx, htx, hex, c24, a24, k24, i24, hps]
        rfl, .inr ⟨by simp, .inr ⟨c', q, by rw [hsv], hL3.symm, hR.symm⟩⟩⟩
    | ok z =>
      obtain ⟨x, q⟩ := z
      have hmono := hm _ _ _ hq
      rw [hq] at hsub hR
      rw [ansX_ok] at hsub
      rw [th_ok] at hR
      have hbo := ev_both (n + 1) 8 e x (PSt H0 T a l q d)
      have hcz := xcells (bothX 8 e x)
      have hlz := xlen (bothX 8 e x)
      generalize hL3 : PSt H0 T a l q d = L3 at *
      generalize hL2 : PSt H0 T a l (r + 1) d = L2 at *
      generalize hL1 : PSt H0 T a l r d = L1 at *
      generalize e.cells = ec at *
      generalize e.emb = ee at *
      generalize x.emb = xe at *
      generalize hzc : (bothX 8 e x).cells = zc at *
      generalize (bothX 8 e x).emb = ze at *
      refine ⟨.norm, _, by
        simp (disch := first | (simp only [List.length_append, List.length_cons, List.length_nil]; omega) | (simp; done) | assumption) [AV.cells?, AV.isCell, -AV.cells?, lp64, cutC, bodyOf, Tryz.f111, E_esc, h0, h3, hb3, hi, hsub, hbo, hcz, hlz, hlx, htx, hex, c24, a24, k24, i24, hps]
        rfl, .inl ⟨rfl, l.length - q, by omega, bothX 8 e x, q, f, rfl, by simp [upd, putA, h0], by simp [upd, putA, h2], by simp [upd, putA, h3], by simp [upd, hb2], by simp [upd, hzc, hlx], hL3.symm, by omega, hR⟩⟩
set_option maxHeartbeats 2000000 in
theorem ev64 (n d : Nat) (sub : Nat → PR X) (hs : Sub H0 T a l d (n + 2) 123 sub) (hm : Mono sub) (F : Nat) (hF : l.length < F) (hn : l.length < n) : Sub H0 T a l d (n + 3) 111 (chainP (hereT l) F [([43], 8), ([45], 9)] sub) := by
  intro p
  have hsub := hs p
  rw [show n + 3 = (n + 2) + 1 from rfl, ev_enter (n := n + 2) (show E.ok 111 = true from rfl) Tryz.func111 fb64 (Nat.le_of_ble_eq_true rfl) (by decide +kernel)]
  rw [evCode_assoc]
  unfold chainP
  cases hq : sub p with
  | error z =>
    obtain ⟨c', q⟩ := z
    rw [hq, ansX_err] at hsub
    rw [th_err, ansX_err]
    have hf := fin_stop H0 T a l p d q c' q
    generalize PSt H0 T a l q d = L3 at *
    generalize PSt H0 T a l p d = L1 at *
    generalize stopV (hereT l) c' q = sv at *
    simp (disch := first | (simp only [List.length_append, List.length_cons, List.length_nil]; omega) | (simp; done) | assumption) [AV.cells?, AV.isCell, l064, l164, cutC, bodyOf, Tryz.f111, E_esc, hsub, z24', c24, a24, k24, i24, finPan, hf]
  | ok z =>
    obtain ⟨x, q⟩ := z
    rw [hq, ansX_ok] at hsub
    rw [th_ok]
    have hcx := xcells x
    have hlx := xlen x
    obtain ⟨fs1, e1, p1⟩ : ∃ fs', evCode ⟨Tryz.prog, E.esc 111, n + 2⟩ (ev Tryz.prog E (n + 2)) (E.ps 111) (n + 2) (.seq l064 l164) ⟨argsA [.ptr a 0], fun _ => (0, []), 0, PSt H0 T a l p d⟩ = some (.norm, fs') ∧ CHI H0 T a l d (n + 2) [([43], 8), ([45], 9)] sub (loopF (hereT l) [([43], 8), ([45], 9)] sub F x q) (l.length - q) fs' := by
      generalize hL3 : PSt H0 T a l q d = L3 at *
      generalize PSt H0 T a l p d = L1 at *
      generalize hxc : x.cells = xc at *
      generalize x.emb = xe at *
      refine ⟨_, by
        simp (disch := first | (simp only [List.length_append, List.length_cons, List.length_nil]; omega) | (simp; done) | assumption) [AV.cells?, AV.isCell, -AV.cells?, l064, l164, cutC, bodyOf, Tryz.f111, E_esc, hsub, hcx, hlx, z24', z6_len, c24, a24, k24, i24]
        rfl, x, q, F, rfl, by simp [upd, putA, argsA], by simp [upd, putA], by simp [upd, putA], by simp [upd], by simp [upd, hxc, z6], hL3.symm, by omega, rfl⟩
    obtain ⟨⟨o, fs2⟩, r1, r2⟩ := iter_meas (fun m' fs h => rd64 ha T l hl n d sub hs hm _ m' fs h) (l.length - q) (n + 2) fs1 (by omega) p1
    rw [evCode_seq, e1, seqK_norm, evCode_block, evCode_loop, r1]
    obtain ⟨t, b, c, S⟩ := fs2
    rcases r2 with ⟨q1, e, r, q2, q4, q6, q7⟩ | ⟨c', r, q1, q2, q3⟩
    · simp only at q1 q2 q4 q6
      subst q1 q6
      rw [q7, blockK_ret, ansX_ok]
      clear r1 e1 p1
      have hf := fin_X H0 T a l p d r e
      have hlx := xlen e
      have htx := xtake e
      have hex := xemb e
      generalize PSt H0 T a l r d = L3 at *
      generalize PSt H0 T a l p d = L1 at *
      generalize e.cells = ec at *
      generalize e.emb = ee at *
      simp (disch := first | (simp only [List.length_append, List.length_cons, List.length_nil]; omega) | (simp; done) | assumption) [AV.cells?, AV.isCell, -AV.cells?, Tryz.f111, E_esc, q2, q4, hlx, htx, hex, z6_len, c24, a24, k24, i24, hf]
    · simp only at q1 q2
      subst q1 q2
      rw [q3, blockK_pan, ansX_err]
      clear r1 e1 p1
      have hf := fin_stop H0 T a l p d r c' r
      simp only [fromBody, finPan, hf]
end
end Go.Proofs.YtemggoaefohliaaGreatDoor.PS
/- The parser: rel, evaluated (printed by gendp2.py). No condition. -/
namespace Go.Proofs.YtemggoaefohliaaGreatDoor.PS
set_option linter.unusedVariables false
set_option linter.unusedSimpArgs false
open Go AE EX PT NF LX
set_option maxRecDepth 100000

section
variable {H0 : List HBox} {a : Nat} (ha : a < H0.length) (T : List Nat) (l : List Tk) (hl : l.length ≤ 2000000)
include ha hl
set_option maxHeartbeats 8000000 in
theorem ev56 (n d : Nat) (sub : Nat → PR X) (hs : Sub H0 T a l d (n + 2) 111 sub) : Sub H0 T a l d (n + 3) 84 (relP (hereT l) sub) := by
  intro p
  have hsub := hs p
  rw [show n + 3 = (n + 2) + 1 from rfl, ev_enter (n := n + 2) (show E.ok 84 = true from rfl) Tryz.func84 (fn := Tryz.f84) rfl (Nat.le_of_ble_eq_true rfl) (by decide +kernel)]
  unfold relP
  cases hq : sub p with
  | error z =>
    obtain ⟨c', q⟩ := z
    rw [hq, ansX_err] at hsub
    rw [th_err, ansX_err]
    have hf := fin_stop H0 T a l p d q c' q
    generalize PSt H0 T a l q d = L3 at *
    generalize PSt H0 T a l p d = L1 at *
    generalize stopV (hereT l) c' q = sv at *
    simp (disch := first | (simp only [List.length_append, List.length_cons, List.length_nil]; omega) | (simp; done) | assumption) [AV.cells?, AV.isCell, Tryz.f84, E_esc, hsub, z24', c24, a24, k24, i24, finPan, hf]
  | ok z =>
    obtain ⟨e, r⟩ := z
    rw [hq, ansX_ok] at hsub
    rw [th_ok]
    have hcx := xcells e
    have hlx := xlen e
    have htx := xtake e
    have hex := xemb e
    have hsub2 := hs (r + 1)
    have hi0 : ev Tryz.prog E (n + 2) 52 [.ptr a 0, .str [61]] (PSt H0 T a l r d) = _ := ev_is ha T l hl n r d _ _
    have hi1 : ev Tryz.prog E (n + 2) 52 [.ptr a 0, .str [33, 61]] (PSt H0 T a l r d) = _ := ev_is ha T l hl n r d _ _
    have hi2 : ev Tryz.prog E (n + 2) 52 [.ptr a 0, .str [60]] (PSt H0 T a l r d) = _ := ev_is ha T l hl n r d _ _
    have hi3 : ev Tryz.prog E (n + 2) 52 [.ptr a 0, .str [60, 61]] (PSt H0 T a l r d) = _ := ev_is ha T l hl n r d _ _
    have hi4 : ev Tryz.prog E (n + 2) 52 [.ptr a 0, .str [105, 110]] (PSt H0 T a l r d) = _ := ev_is ha T l hl n r d _ _
    by_cases hB0 : isB (hereT l) r [61] = true
    · rw [if_pos hB0]
      rw [hB0] at hi0
      simp only [if_true] at hi0
      have hps : E.ps 84 3 = [(0, 2), (2, 2)] := rfl
      cases hq2 : sub (r + 1) with
      | error z =>
        obtain ⟨c', q⟩ := z
        rw [hq2, ansX_err] at hsub2
        rw [th_err, ansX_err]
        have hf := fin_stop H0 T a l p d q c' q
        generalize PSt H0 T a l q d = L4 at *
        generalize PSt H0 T a l (r + 1) d = L3 at *
        generalize PSt H0 T a l r d = L2 at *
        generalize PSt H0 T a l p d = L1 at *
        generalize stopV (hereT l) c' q = sv at *
        generalize e.cells = ec at *
        generalize e.emb = ee at *
        simp (disch := first | (simp only [List.length_append, List.length_cons, List.length_nil]; omega) | (simp; done) | assumption) [AV.cells?, AV.isCell, -AV.cells?, Tryz.f84, E_esc, hsub, hsub2, hi0, hcx, hlx, htx, hex, z24', z6_len, c24, a24, k24, i24, hps, finPan, hf]
      | ok z =>
        obtain ⟨x, q⟩ := z
        rw [hq2, ansX_ok] at hsub2
        rw [th_ok, ansX_ok]
        have hbo := ev_both (n + 1) 14 e x (PSt H0 T a l q d)
        have hne := ev_one1 (n + 1) 18 (bothX 14 e x) (PSt H0 T a l q d)
        have hcz := xcells (bothX 14 e x)
        have hlz := xlen (bothX 14 e x)
        have htz := xtake (bothX 14 e x)
        have hez := xemb (bothX 14 e x)
        have hf := fin_X H0 T a l p d q (bothX 14 e x)
        generalize PSt H0 T a l q d = L4 at *
        generalize PSt H0 T a l (r + 1) d = L3 at *
        generalize PSt H0 T a l r d = L2 at *
        generalize PSt H0 T a l p d = L1 at *
        generalize (bothX 14 e x).cells = zc at *
        generalize (bothX 14 e x).emb = ze at *
        generalize (bothX 14 e x).emb = be at *
        generalize e.cells = ec at *
        generalize e.emb = ee at *
        generalize x.emb = xe at *
        simp (disch := first | (simp only [List.length_append, List.length_cons, List.length_nil]; omega) | (simp; done) | assumption) [AV.cells?, AV.isCell, -AV.cells?, Tryz.f84, E_esc, hsub, hsub2, hi0, hbo, hne, hcz, hlz, htz, hez, hcx, hlx, htx, hex, z24', z6_len, z6, c24, a24, k24, i24, hps, hf]
    rw [if_neg hB0]
    simp only [Bool.not_eq_true] at hB0
    rw [hB0] at hi0
    simp only [Bool.false_eq_true, if_false] at hi0
    by_cases hB1 : isB (hereT l) r [33, 61] = true
    · rw [if_pos hB1]
      rw [hB1] at hi1
      simp only [if_true] at hi1
      have hps : E.ps 84 5 = [(0, 2), (2, 2)] := rfl
      cases hq2 : sub (r + 1) with
      | error z =>
        obtain ⟨c', q⟩ := z
        rw [hq2, ansX_err] at hsub2
        rw [th_err, ansX_err]
        have hf := fin_stop H0 T a l p d q c' q
        generalize PSt H0 T a l q d = L4 at *
        generalize PSt H0 T a l (r + 1) d = L3 at *
        generalize PSt H0 T a l r d = L2 at *
        generalize PSt H0 T a l p d = L1 at *
        generalize stopV (hereT l) c' q = sv at *
        generalize e.cells = ec at *
        generalize e.emb = ee at *
        simp (disch := first | (simp only [List.length_append, List.length_cons, List.length_nil]; omega) | (simp; done) | assumption) [AV.cells?, AV.isCell, -AV.cells?, Tryz.f84, E_esc, hsub, hsub2, hi0, hi1, hcx, hlx, htx, hex, z24', z6_len, c24, a24, k24, i24, hps, finPan, hf]
      | ok z =>
        obtain ⟨x, q⟩ := z
        rw [hq2, ansX_ok] at hsub2
        rw [th_ok, ansX_ok]
        have hbo := ev_both (n + 1) 14 e x (PSt H0 T a l q d)
        have hne := ev_one1 (n + 1) 18 (bothX 14 e x) (PSt H0 T a l q d)
        have hcz := xcells (oneX 18 (bothX 14 e x))
        have hlz := xlen (oneX 18 (bothX 14 e x))
        have htz := xtake (oneX 18 (bothX 14 e x))
        have hez := xemb (oneX 18 (bothX 14 e x))
        have hf := fin_X H0 T a l p d q (oneX 18 (bothX 14 e x))
        generalize PSt H0 T a l q d = L4 at *
        generalize PSt H0 T a l (r + 1) d = L3 at *
        generalize PSt H0 T a l r d = L2 at *
        generalize PSt H0 T a l p d = L1 at *
        generalize (oneX 18 (bothX 14 e x)).cells = zc at *
        generalize (oneX 18 (bothX 14 e x)).emb = ze at *
        generalize (bothX 14 e x).emb = be at *
        generalize e.cells = ec at *
        generalize e.emb = ee at *
        generalize x.emb = xe at *
        simp (disch := first | (simp only [List.length_append, List.length_cons, List.length_nil]; omega) | (simp; done) | assumption) [AV.cells?, AV.isCell, -AV.cells?, Tryz.f84, E_esc, hsub, hsub2, hi0, hi1, hbo, hne, hcz, hlz, htz, hez, hcx, hlx, htx, hex, z24', z6_len, z6, c24, a24, k24, i24, hps, hf]
    rw [if_neg hB1]
    simp only [Bool.not_eq_true] at hB1
    rw [hB1] at hi1
    simp only [Bool.false_eq_true, if_false] at hi1
    by_cases hB2 : isB (hereT l) r [60] = true
    · rw [if_pos hB2]
      rw [hB2] at hi2
      simp only [if_true] at hi2
      have hps : E.ps 84 7 = [(0, 2), (2, 2)] := rfl
      cases hq2 : sub (r + 1) with
      | error z =>
        obtain ⟨c', q⟩ := z
        rw [hq2, ansX_err] at hsub2
        rw [th_err, ansX_err]
        have hf := fin_stop H0 T a l p d q c' q
        generalize PSt H0 T a l q d = L4 at *
        generalize PSt H0 T a l (r + 1) d = L3 at *
        generalize PSt H0 T a l r d = L2 at *
        generalize PSt H0 T a l p d = L1 at *
        generalize stopV (hereT l) c' q = sv at *
        generalize e.cells = ec at *
        generalize e.emb = ee at *
        simp (disch := first | (simp only [List.length_append, List.length_cons, List.length_nil]; omega) | (simp; done) | assumption) [AV.cells?, AV.isCell, -AV.cells?, Tryz.f84, E_esc, hsub, hsub2, hi0, hi1, hi2, hcx, hlx, htx, hex, z24', z6_len, c24, a24, k24, i24, hps, finPan, hf]
      | ok z =>
        obtain ⟨x, q⟩ := z
        rw [hq2, ansX_ok] at hsub2
        rw [th_ok, ansX_ok]
        have hbo := ev_both (n + 1) 15 e x (PSt H0 T a l q d)
        have hne := ev_one1 (n + 1) 18 (bothX 15 e x) (PSt H0 T a l q d)
        have hcz := xcells (bothX 15 e x)
        have hlz := xlen (bothX 15 e x)
        have htz := xtake (bothX 15 e x)
        have hez := xemb (bothX 15 e x)
        have hf := fin_X H0 T a l p d q (bothX 15 e x)
        generalize PSt H0 T a l q d = L4 at *
        generalize PSt H0 T a l (r + 1) d = L3 at *
        generalize PSt H0 T a l r d = L2 at *
        generalize PSt H0 T a l p d = L1 at *
        generalize (bothX 15 e x).cells = zc at *
        generalize (bothX 15 e x).emb = ze at *
        generalize (bothX 15 e x).emb = be at *
        generalize e.cells = ec at *
        generalize e.emb = ee at *
        generalize x.emb = xe at *
        simp (disch := first | (simp only [List.length_append, List.length_cons, List.length_nil]; omega) | (simp; done) | assumption) [AV.cells?, AV.isCell, -AV.cells?, Tryz.f84, E_esc, hsub, hsub2, hi0, hi1, hi2, hbo, hne, hcz, hlz, htz, hez, hcx, hlx, htx, hex, z24', z6_len, z6, c24, a24, k24, i24, hps, hf]
    rw [if_neg hB2]
    simp only [Bool.not_eq_true] at hB2
    rw [hB2] at hi2
    simp only [Bool.false_eq_true, if_false] at hi2
    by_cases hB3 : isB (hereT l) r [60, 61] = true
    · rw [if_pos hB3]
      rw [hB3] at hi3
      simp only [if_true] at hi3
      have hps : E.ps 84 9 = [(0, 2), (2, 2)] := rfl
      cases hq2 : sub (r + 1) with
      | error z =>
        obtain ⟨c', q⟩ := z
        rw [hq2, ansX_err] at hsub2
        rw [th_err, ansX_err]
        have hf := fin_stop H0 T a l p d q c' q
        generalize PSt H0 T a l q d = L4 at *
        generalize PSt H0 T a l (r + 1) d = L3 at *
        generalize PSt H0 T a l r d = L2 at *
        generalize PSt H0 T a l p d = L1 at *
        generalize stopV (hereT l) c' q = sv at *
        generalize e.cells = ec at *
        generalize e.emb = ee at *
        simp (disch := first | (simp only [List.length_append, List.length_cons, List.length_nil]; omega) | (simp; done) | assumption) [AV.cells?, AV.isCell, -AV.cells?, Tryz.f84, E_esc, hsub, hsub2, hi0, hi1, hi2, hi3, hcx, hlx, htx, hex, z24', z6_len, c24, a24, k24, i24, hps, finPan, hf]
      | ok z =>
        obtain ⟨x, q⟩ := z
        rw [hq2, ansX_ok] at hsub2
        rw [th_ok, ansX_ok]
        have hbo := ev_both (n + 1) 16 e x (PSt H0 T a l q d)
        have hne := ev_one1 (n + 1) 18 (bothX 16 e x) (PSt H0 T a l q d)
        have hcz := xcells (bothX 16 e x)
        have hlz := xlen (bothX 16 e x)
        have htz := xtake (bothX 16 e x)
        have hez := xemb (bothX 16 e x)
        have hf := fin_X H0 T a l p d q (bothX 16 e x)
        generalize PSt H0 T a l q d = L4 at *
        generalize PSt H0 T a l (r + 1) d = L3 at *
        generalize PSt H0 T a l r d = L2 at *
        generalize PSt H0 T a l p d = L1 at *
        generalize (bothX 16 e x).cells = zc at *
        generalize (bothX 16 e x).emb = ze at *
        generalize (bothX 16 e x).emb = be at *
        generalize e.cells = ec at *
        generalize e.emb = ee at *
        generalize x.emb = xe at *
        simp (disch := first | (simp only [List.length_append, List.length_cons, List.length_nil]; omega) | (simp; done) | assumption) [AV.cells?, AV.isCell, -AV.cells?, Tryz.f84, E_esc, hsub, hsub2, hi0, hi1, hi2, hi3, hbo, hne, hcz, hlz, htz, hez, hcx, hlx, htx, hex, z24', z6_len, z6, c24, a24, k24, i24, hps, hf]
    rw [if_neg hB3]
    simp only [Bool.not_eq_true] at hB3
    rw [hB3] at hi3
    simp only [Bool.false_eq_true, if_false] at hi3
    by_cases hB4 : isB (hereT l) r [105, 110] = true
    · rw [if_pos hB4]
      rw [hB4] at hi4
      simp only [if_true] at hi4
      have hps : E.ps 84 11 = [(0, 2), (2, 2)] := rfl
      cases hq2 : sub (r + 1) with
      | error z =>
        obtain ⟨c', q⟩ := z
        rw [hq2, ansX_err] at hsub2
        rw [th_err, ansX_err]
        have hf := fin_stop H0 T a l p d q c' q
        generalize PSt H0 T a l q d = L4 at *
        generalize PSt H0 T a l (r + 1) d = L3 at *
        generalize PSt H0 T a l r d = L2 at *
        generalize PSt H0 T a l p d = L1 at *
        generalize stopV (hereT l) c' q = sv at *
        generalize e.cells = ec at *
        generalize e.emb = ee at *
        simp (disch := first | (simp only [List.length_append, List.length_cons, List.length_nil]; omega) | (simp; done) | assumption) [AV.cells?, AV.isCell, -AV.cells?, Tryz.f84, E_esc, hsub, hsub2, hi0, hi1, hi2, hi3, hi4, hcx, hlx, htx, hex, z24', z6_len, c24, a24, k24, i24, hps, finPan, hf]
      | ok z =>
        obtain ⟨x, q⟩ := z
        rw [hq2, ansX_ok] at hsub2
        rw [th_ok, ansX_ok]
        have hbo := ev_both (n + 1) 17 e x (PSt H0 T a l q d)
        have hne := ev_one1 (n + 1) 18 (bothX 17 e x) (PSt H0 T a l q d)
        have hcz := xcells (bothX 17 e x)
        have hlz := xlen (bothX 17 e x)
        have htz := xtake (bothX 17 e x)
        have hez := xemb (bothX 17 e x)
        have hf := fin_X H0 T a l p d q (bothX 17 e x)
        generalize PSt H0 T a l q d = L4 at *
        generalize PSt H0 T a l (r + 1) d = L3 at *
        generalize PSt H0 T a l r d = L2 at *
        generalize PSt H0 T a l p d = L1 at *
        generalize (bothX 17 e x).cells = zc at *
        generalize (bothX 17 e x).emb = ze at *
        generalize (bothX 17 e x).emb = be at *
        generalize e.cells = ec at *
        generalize e.emb = ee at *
        generalize x.emb = xe at *
        simp (disch := first | (simp only [List.length_append, List.length_cons, List.length_nil]; omega) | (simp; done) | assumption) [AV.cells?, AV.isCell, -AV.cells?, Tryz.f84, E_esc, hsub, hsub2, hi0, hi1, hi2, hi3, hi4, hbo, hne, hcz, hlz, htz, hez, hcx, hlx, htx, hex, z24', z6_len, z6, c24, a24, k24, i24, hps, hf]
    rw [if_neg hB4]
    simp only [Bool.not_eq_true] at hB4
    rw [hB4] at hi4
    simp only [Bool.false_eq_true, if_false] at hi4
    rw [ansX_ok]
    have hf := fin_X H0 T a l p d r e
    generalize PSt H0 T a l r d = L2 at *
    generalize PSt H0 T a l p d = L1 at *
    generalize e.cells = ec at *
    generalize e.emb = ee at *
    simp (disch := first | (simp only [List.length_append, List.length_cons, List.length_nil]; omega) | (simp; done) | assumption) [AV.cells?, AV.isCell, -AV.cells?, Tryz.f84, E_esc, hsub, hi0, hi1, hi2, hi3, hi4, hcx, hlx, htx, hex, z24', z6_len, z6, c24, a24, k24, i24, hf]
end
end Go.Proofs.YtemggoaefohliaaGreatDoor.PS
/- The parser: argument, attribute, counted, span, evaluated. No condition. -/
namespace Go.Proofs.YtemggoaefohliaaGreatDoor.PS
set_option linter.unusedVariables false
set_option linter.unusedSimpArgs false
open Go AE EX PT NF LX
set_option maxRecDepth 100000

/-- an answer: what a value is to the evaluator -/
def ansR {α : Type} (H0 : List HBox) (T : List Nat) (a : Nat) (l : List Tk) (d : Nat) (g : α → AV) : PR α → Option (Res × St)
  | .ok (x, q) => some (.ret (g x), PSt H0 T a l q d)
  | .error (c, q) => some (.pan (stopV (hereT l) c q), PSt H0 T a l q d)
theorem ansR_ok {α : Type} (H0 : List HBox) (T : List Nat) (a : Nat) (l : List Tk) (d : Nat) (g : α → AV) (x : α) (q : Nat) : ansR H0 T a l d g (.ok (x, q)) = some (.ret (g x), PSt H0 T a l q d) := rfl
theorem ansR_err {α : Type} (H0 : List HBox) (T : List Nat) (a : Nat) (l : List Tk) (d : Nat) (g : α → AV) (c : Int) (q : Nat) : ansR H0 T a l d g (.error (c, q)) = some (.pan (stopV (hereT l) c q), PSt H0 T a l q d) := rfl

section
variable {H0 : List HBox} {a : Nat} (ha : a < H0.length) (T : List Nat) (l : List Tk) (hl : l.length ≤ 2000000)
include ha hl
theorem ev_need (n p d : Nat) (c : UInt8) (q : List UInt8) : ev Tryz.prog E (n + 4) 134 [.ptr a 0, .str (c :: q)] (PSt H0 T a l p d) = ansR H0 T a l d (fun _ => .tup []) (needP (hereT l) (c :: q) p) := by
  unfold needP
  cases hB : isB (hereT l) p (c :: q)
  · rw [if_neg (by simp)]
    exact ev_needF ha T l hl n p d c q hB
  · rw [if_pos rfl]
    exact ev_needT ha T l hl n p d c q hB
theorem ev_take (n p d : Nat) (k : Int) (hk : k ≠ 5) : ev Tryz.prog E (n + 3) 140 [.ptr a 0, .int .i64 k] (PSt H0 T a l p d) = ansR H0 T a l d Tk.emb (takeP (hereT l) k p) := by
  unfold takeP
  by_cases h : (hereT l p).k = k
  · rw [if_pos h]
    exact ev_takeT ha T l hl n p d k hk h
  · rw [if_neg h]
    exact ev_takeF ha T l hl n p d k h
end
end Go.Proofs.YtemggoaefohliaaGreatDoor.PS
/- The parser: argument, attribute, counted, span, evaluated (printed by gendp3.py). No condition. -/
namespace Go.Proofs.YtemggoaefohliaaGreatDoor.PS
set_option linter.unusedVariables false
set_option linter.unusedSimpArgs false
open Go AE EX PT NF LX
set_option maxRecDepth 100000
theorem fin_ii (H0 : List HBox) (T : List Nat) (a : Nat) (l : List Tk) (p d q : Nat) (x y : Int) : finish (PSt H0 T a l p d) (.tup [.int .i64 x, .int .i64 y]) (PSt H0 T a l q d) = some (.tup [.int .i64 x, .int .i64 y], PSt H0 T a l q d) :=
  PSt_fin T l p d q d rfl rfl rfl
theorem leaf_emb (k : Int) (s : List UInt8) (n hi : Int) : (leafX k s n hi).emb = .agg [.int .i64 k, .str s, .int .i64 n, .int .i64 0, .int .i64 hi, .slice [] .clip] := rfl
theorem bX1' (k : Int) (s : List UInt8) : evBuild Tryz.prog 25 [(0, .int .i64 k), (1, .str s)] = some (.agg [.int .i64 k, .str s, .int .i64 0, .int .i64 0, .int .i64 0, .slice [] .clip]) := bX1 k s
section
variable {H0 : List HBox} {a : Nat} (ha : a < H0.length) (T : List Nat) (l : List Tk) (hl : l.length ≤ 2000000)
include ha hl
set_option maxHeartbeats 4000000 in
theorem ev79 (n d : Nat) (any : Nat → PR X) (hs : Sub H0 T a l d (n + 4) 27 any) : Sub H0 T a l d (n + 5) 138 (argP (hereT l) any) := by
  intro p
  rw [show n + 5 = (n + 4) + 1 from rfl, ev_enter (n := n + 4) (show E.ok 138 = true from rfl) Tryz.func138 (fn := Tryz.f138) rfl (Nat.le_of_ble_eq_true rfl) (by decide +kernel)]
  unfold argP
  have h1 : ev Tryz.prog E (n + 4) 134 [.ptr a 0, .str [40]] (PSt H0 T a l (p) d) = _ := ev_need ha T l hl n (p) d _ _
  cases e1 : needP (hereT l) [40] (p) with
  | error z =>
    obtain ⟨c', w⟩ := z
    rw [e1, ansR_err] at h1
    rw [th_err, ansX_err]
    have hf := fin_stop H0 T a l p d w c' w
    generalize PSt H0 T a l (w) d = L0 at *
    generalize PSt H0 T a l (p) d = L1 at *
    generalize stopV (hereT l) c' w = sv at *
    simp (disch := first | (simp only [List.length_append, List.length_cons, List.length_nil]; omega) | (simp; done) | assumption) [AV.cells?, AV.isCell, -AV.cells?, cq_int, cq_str, cq_slice, cq_bool, -evBuild, -evBuildSlice, Tryz.f138, E_esc, h1, z24', z6_len, c24, a24, k24, i24, tq46_0, tq46_1, tq46_2, tc46, ta46, tk46, ti46, tz46, fq0, fq3, fq4, fq5, c3, a3, k3, i3, c2, a2, k2, i2, c22, a22, k22, bq3, bq2, finPan, hf]
  | ok z =>
    obtain ⟨_u1, r1⟩ := z
    rw [e1, ansR_ok] at h1
    rw [th_ok]
    have h2 := hs (r1)
    cases e2 : any (r1) with
    | error z =>
      obtain ⟨c', w⟩ := z
      rw [e2, ansX_err] at h2
      rw [th_err, ansX_err]
      have hf := fin_stop H0 T a l p d w c' w
      generalize PSt H0 T a l (w) d = L0 at *
      generalize PSt H0 T a l (r1) d = L1 at *
      generalize PSt H0 T a l (p) d = L2 at *
      generalize stopV (hereT l) c' w = sv at *
      simp (disch := first | (simp only [List.length_append, List.length_cons, List.length_nil]; omega) | (simp; done) | assumption) [AV.cells?, AV.isCell, -AV.cells?, cq_int, cq_str, cq_slice, cq_bool, -evBuild, -evBuildSlice, Tryz.f138, E_esc, h1, h2, z24', z6_len, c24, a24, k24, i24, tq46_0, tq46_1, tq46_2, tc46, ta46, tk46, ti46, tz46, fq0, fq3, fq4, fq5, c3, a3, k3, i3, c2, a2, k2, i2, c22, a22, k22, bq3, bq2, finPan, hf]
    | ok z =>
      obtain ⟨x, r2⟩ := z
      rw [e2, ansX_ok] at h2
      rw [th_ok]
      have hcx := xcells x
      have hlx := xlen x
      have htx := xtake x
      have hex := xemb x
      have h3 : ev Tryz.prog E (n + 4) 134 [.ptr a 0, .str [41]] (PSt H0 T a l (r2) d) = _ := ev_need ha T l hl n (r2) d _ _
      cases e3 : needP (hereT l) [41] (r2) with
      | error z =>
        obtain ⟨c', w⟩ := z
        rw [e3, ansR_err] at h3
        rw [th_err, ansX_err]
        have hf := fin_stop H0 T a l p d w c' w
        generalize PSt H0 T a l (w) d = L0 at *
        generalize PSt H0 T a l (r2) d = L1 at *
        generalize PSt H0 T a l (r1) d = L2 at *
        generalize PSt H0 T a l (p) d = L3 at *
        generalize stopV (hereT l) c' w = sv at *
        generalize x.cells = xc at *
        generalize x.emb = xe at *
        simp (disch := first | (simp only [List.length_append, List.length_cons, List.length_nil]; omega) | (simp; done) | assumption) [AV.cells?, AV.isCell, -AV.cells?, cq_int, cq_str, cq_slice, cq_bool, -evBuild, -evBuildSlice, Tryz.f138, E_esc, h1, h2, h3, hcx, hlx, htx, hex, z24', z6_len, c24, a24, k24, i24, tq46_0, tq46_1, tq46_2, tc46, ta46, tk46, ti46, tz46, fq0, fq3, fq4, fq5, c3, a3, k3, i3, c2, a2, k2, i2, c22, a22, k22, bq3, bq2, finPan, hf]
      | ok z =>
        obtain ⟨_u3, r3⟩ := z
        rw [e3, ansR_ok] at h3
        rw [th_ok]
        rw [ansX_ok]
        have hf := fin_X H0 T a l p d (r3) (x)
        generalize PSt H0 T a l (r3) d = L0 at *
        generalize PSt H0 T a l (r2) d = L1 at *
        generalize PSt H0 T a l (r1) d = L2 at *
        generalize PSt H0 T a l (p) d = L3 at *
        generalize x.cells = xc at *
        generalize x.emb = xe at *
        simp (disch := first | (simp only [List.length_append, List.length_cons, List.length_nil]; omega) | (simp; done) | assumption) [AV.cells?, AV.isCell, -AV.cells?, cq_int, cq_str, cq_slice, cq_bool, -evBuild, -evBuildSlice, Tryz.f138, E_esc, h1, h2, h3, hcx, hlx, htx, hex, z24', z6_len, c24, a24, k24, i24, tq46_0, tq46_1, tq46_2, tc46, ta46, tk46, ti46, tz46, fq0, fq3, fq4, fq5, c3, a3, k3, i3, c2, a2, k2, i2, c22, a22, k22, bq3, bq2, z6, hf]
set_option maxHeartbeats 4000000 in
theorem ev77 (n p d : Nat) (side : Int) : ev Tryz.prog E (n + 5) 136 [.ptr a 0, .int .i64 side] (PSt H0 T a l p d) = ansX H0 T a l d (attrP (hereT l) side p) := by
  rw [show n + 5 = (n + 4) + 1 from rfl, ev_enter (n := n + 4) (show E.ok 136 = true from rfl) Tryz.func136 (fn := Tryz.f136) rfl (Nat.le_of_ble_eq_true rfl) (by decide +kernel)]
  unfold attrP
  have h1 : ev Tryz.prog E (n + 4) 134 [.ptr a 0, .str [46]] (PSt H0 T a l (p) d) = _ := ev_need ha T l hl n (p) d _ _
  cases e1 : needP (hereT l) [46] (p) with
  | error z =>
    obtain ⟨c', w⟩ := z
    rw [e1, ansR_err] at h1
    rw [th_err, ansX_err]
    have hf := fin_stop H0 T a l p d w c' w
    generalize PSt H0 T a l (w) d = L0 at *
    generalize PSt H0 T a l (p) d = L1 at *
    generalize stopV (hereT l) c' w = sv at *
    simp (disch := first | (simp only [List.length_append, List.length_cons, List.length_nil]; omega) | (simp; done) | assumption) [AV.cells?, AV.isCell, -AV.cells?, cq_int, cq_str, cq_slice, cq_bool, -evBuild, -evBuildSlice, Tryz.f136, E_esc, h1, z24', z6_len, c24, a24, k24, i24, tq46_0, tq46_1, tq46_2, tc46, ta46, tk46, ti46, tz46, fq0, fq3, fq4, fq5, c3, a3, k3, i3, c2, a2, k2, i2, c22, a22, k22, bq3, bq2, finPan, hf]
  | ok z =>
    obtain ⟨_u1, r1⟩ := z
    rw [e1, ansR_ok] at h1
    rw [th_ok]
    have h2 : ev Tryz.prog E (n + 4) 140 [.ptr a 0, .int .i64 1] (PSt H0 T a l (r1) d) = _ := ev_take ha T l hl (n + 1) (r1) d 1 (by decide)
    cases e2 : takeP (hereT l) 1 (r1) with
    | error z =>
      obtain ⟨c', w⟩ := z
      rw [e2, ansR_err] at h2
      rw [th_err, ansX_err]
      have hf := fin_stop H0 T a l p d w c' w
      generalize PSt H0 T a l (w) d = L0 at *
      generalize PSt H0 T a l (r1) d = L1 at *
      generalize PSt H0 T a l (p) d = L2 at *
      generalize stopV (hereT l) c' w = sv at *
      simp (disch := first | (simp only [List.length_append, List.length_cons, List.length_nil]; omega) | (simp; done) | assumption) [AV.cells?, AV.isCell, -AV.cells?, cq_int, cq_str, cq_slice, cq_bool, -evBuild, -evBuildSlice, Tryz.f136, E_esc, h1, h2, z24', z6_len, c24, a24, k24, i24, tq46_0, tq46_1, tq46_2, tc46, ta46, tk46, ti46, tz46, fq0, fq3, fq4, fq5, c3, a3, k3, i3, c2, a2, k2, i2, c22, a22, k22, bq3, bq2, finPan, hf]
    | ok z =>
      obtain ⟨t, r2⟩ := z
      rw [e2, ansR_ok] at h2
      rw [th_ok]
      obtain ⟨tk, ts, tn, tp⟩ := t
      simp only [Tk.emb, Tk.cells] at h2
      rw [ansX_ok]
      have hf := fin_X H0 T a l p d (r2) (leafX side ts 0 0)
      simp only [leaf_emb] at hf ⊢
      generalize PSt H0 T a l (r2) d = L0 at *
      generalize PSt H0 T a l (r1) d = L1 at *
      generalize PSt H0 T a l (p) d = L2 at *
      simp (disch := first | (simp only [List.length_append, List.length_cons, List.length_nil]; omega) | (simp; done) | assumption) [AV.cells?, AV.isCell, -AV.cells?, cq_int, cq_str, cq_slice, cq_bool, -evBuild, -evBuildSlice, Tryz.f136, E_esc, h1, h2, z24', z6_len, c24, a24, k24, i24, tq46_0, tq46_1, tq46_2, tc46, ta46, tk46, ti46, tz46, fq0, fq3, fq4, fq5, c3, a3, k3, i3, c2, a2, k2, i2, c22, a22, k22, bq3, bq2, bX1', z6, hf]
set_option maxHeartbeats 4000000 in
theorem ev78a (n p d : Nat) : ev Tryz.prog E (n + 5) 137 [.ptr a 0, .bool false] (PSt H0 T a l p d) = ansX H0 T a l d (actP (hereT l) p) := by
  rw [show n + 5 = (n + 4) + 1 from rfl, ev_enter (n := n + 4) (show E.ok 137 = true from rfl) Tryz.func137 (fn := Tryz.f137) rfl (Nat.le_of_ble_eq_true rfl) (by decide +kernel)]
  unfold actP
  have h1 : ev Tryz.prog E (n + 4) 134 [.ptr a 0, .str [40]] (PSt H0 T a l (p) d) = _ := ev_need ha T l hl n (p) d _ _
  cases e1 : needP (hereT l) [40] (p) with
  | error z =>
    obtain ⟨c', w⟩ := z
    rw [e1, ansR_err] at h1
    rw [th_err, ansX_err]
    have hf := fin_stop H0 T a l p d w c' w
    generalize PSt H0 T a l (w) d = L0 at *
    generalize PSt H0 T a l (p) d = L1 at *
    generalize stopV (hereT l) c' w = sv at *
    simp (disch := first | (simp only [List.length_append, List.length_cons, List.length_nil]; omega) | (simp; done) | assumption) [AV.cells?, AV.isCell, -AV.cells?, cq_int, cq_str, cq_slice, cq_bool, -evBuild, -evBuildSlice, Tryz.f137, E_esc, bX1', h1, z24', z6_len, c24, a24, k24, i24, tq46_0, tq46_1, tq46_2, tc46, ta46, tk46, ti46, tz46, fq0, fq3, fq4, fq5, c3, a3, k3, i3, c2, a2, k2, i2, c22, a22, k22, bq3, bq2, finPan, hf]
  | ok z =>
    obtain ⟨_u1, r1⟩ := z
    rw [e1, ansR_ok] at h1
    rw [th_ok]
    have h2 : ev Tryz.prog E (n + 4) 140 [.ptr a 0, .int .i64 1] (PSt H0 T a l (r1) d) = _ := ev_take ha T l hl (n + 1) (r1) d 1 (by decide)
    cases e2 : takeP (hereT l) 1 (r1) with
    | error z =>
      obtain ⟨c', w⟩ := z
      rw [e2, ansR_err] at h2
      rw [th_err, ansX_err]
      have hf := fin_stop H0 T a l p d w c' w
      generalize PSt H0 T a l (w) d = L0 at *
      generalize PSt H0 T a l (r1) d = L1 at *
      generalize PSt H0 T a l (p) d = L2 at *
      generalize stopV (hereT l) c' w = sv at *
      simp (disch := first | (simp only [List.length_append, List.length_cons, List.length_nil]; omega) | (simp; done) | assumption) [AV.cells?, AV.isCell, -AV.cells?, cq_int, cq_str, cq_slice, cq_bool, -evBuild, -evBuildSlice, Tryz.f137, E_esc, bX1', h1, h2, z24', z6_len, c24, a24, k24, i24, tq46_0, tq46_1, tq46_2, tc46, ta46, tk46, ti46, tz46, fq0, fq3, fq4, fq5, c3, a3, k3, i3, c2, a2, k2, i2, c22, a22, k22, bq3, bq2, finPan, hf]
    | ok z =>
      obtain ⟨t, r2⟩ := z
      rw [e2, ansR_ok] at h2
      rw [th_ok]
      obtain ⟨tk, ts, tn, tp⟩ := t
      simp only [Tk.emb, Tk.cells] at h2
      have h3 : ev Tryz.prog E (n + 4) 134 [.ptr a 0, .str [41]] (PSt H0 T a l (r2) d) = _ := ev_need ha T l hl n (r2) d _ _
      cases e3 : needP (hereT l) [41] (r2) with
      | error z =>
        obtain ⟨c', w⟩ := z
        rw [e3, ansR_err] at h3
        rw [th_err, ansX_err]
        have hf := fin_stop H0 T a l p d w c' w
        generalize PSt H0 T a l (w) d = L0 at *
        generalize PSt H0 T a l (r2) d = L1 at *
        generalize PSt H0 T a l (r1) d = L2 at *
        generalize PSt H0 T a l (p) d = L3 at *
        generalize stopV (hereT l) c' w = sv at *
        simp (disch := first | (simp only [List.length_append, List.length_cons, List.length_nil]; omega) | (simp; done) | assumption) [AV.cells?, AV.isCell, -AV.cells?, cq_int, cq_str, cq_slice, cq_bool, -evBuild, -evBuildSlice, Tryz.f137, E_esc, bX1', h1, h2, h3, z24', z6_len, c24, a24, k24, i24, tq46_0, tq46_1, tq46_2, tc46, ta46, tk46, ti46, tz46, fq0, fq3, fq4, fq5, c3, a3, k3, i3, c2, a2, k2, i2, c22, a22, k22, bq3, bq2, finPan, hf]
      | ok z =>
        obtain ⟨_u3, r3⟩ := z
        rw [e3, ansR_ok] at h3
        rw [th_ok]
        rw [ansX_ok]
        have hf := fin_X H0 T a l p d (r3) (leafX 21 ts 0 0)
        simp only [leaf_emb] at hf ⊢
        generalize PSt H0 T a l (r3) d = L0 at *
        generalize PSt H0 T a l (r2) d = L1 at *
        generalize PSt H0 T a l (r1) d = L2 at *
        generalize PSt H0 T a l (p) d = L3 at *
        simp (disch := first | (simp only [List.length_append, List.length_cons, List.length_nil]; omega) | (simp; done) | assumption) [AV.cells?, AV.isCell, -AV.cells?, cq_int, cq_str, cq_slice, cq_bool, -evBuild, -evBuildSlice, Tryz.f137, E_esc, bX1', h1, h2, h3, z24', z6_len, c24, a24, k24, i24, tq46_0, tq46_1, tq46_2, tc46, ta46, tk46, ti46, tz46, fq0, fq3, fq4, fq5, c3, a3, k3, i3, c2, a2, k2, i2, c22, a22, k22, bq3, bq2, z6, hf]
set_option maxHeartbeats 4000000 in
theorem ev78b (n p d : Nat) : ev Tryz.prog E (n + 5) 137 [.ptr a 0, .bool true] (PSt H0 T a l p d) = ansX H0 T a l d (timesP (hereT l) p) := by
  rw [show n + 5 = (n + 4) + 1 from rfl, ev_enter (n := n + 4) (show E.ok 137 = true from rfl) Tryz.func137 (fn := Tryz.f137) rfl (Nat.le_of_ble_eq_true rfl) (by decide +kernel)]
  unfold timesP
  have h1 : ev Tryz.prog E (n + 4) 134 [.ptr a 0, .str [40]] (PSt H0 T a l (p) d) = _ := ev_need ha T l hl n (p) d _ _
  cases e1 : needP (hereT l) [40] (p) with
  | error z =>
    obtain ⟨c', w⟩ := z
    rw [e1, ansR_err] at h1
    rw [th_err, ansX_err]
    have hf := fin_stop H0 T a l p d w c' w
    generalize PSt H0 T a l (w) d = L0 at *
    generalize PSt H0 T a l (p) d = L1 at *
    generalize stopV (hereT l) c' w = sv at *
    simp (disch := first | (simp only [List.length_append, List.length_cons, List.length_nil]; omega) | (simp; done) | assumption) [AV.cells?, AV.isCell, -AV.cells?, cq_int, cq_str, cq_slice, cq_bool, -evBuild, -evBuildSlice, Tryz.f137, E_esc, bX1', h1, z24', z6_len, c24, a24, k24, i24, tq46_0, tq46_1, tq46_2, tc46, ta46, tk46, ti46, tz46, fq0, fq3, fq4, fq5, c3, a3, k3, i3, c2, a2, k2, i2, c22, a22, k22, bq3, bq2, finPan, hf]
  | ok z =>
    obtain ⟨_u1, r1⟩ := z
    rw [e1, ansR_ok] at h1
    rw [th_ok]
    have h2 : ev Tryz.prog E (n + 4) 140 [.ptr a 0, .int .i64 1] (PSt H0 T a l (r1) d) = _ := ev_take ha T l hl (n + 1) (r1) d 1 (by decide)
    cases e2 : takeP (hereT l) 1 (r1) with
    | error z =>
      obtain ⟨c', w⟩ := z
      rw [e2, ansR_err] at h2
      rw [th_err, ansX_err]
      have hf := fin_stop H0 T a l p d w c' w
      generalize PSt H0 T a l (w) d = L0 at *
      generalize PSt H0 T a l (r1) d = L1 at *
      generalize PSt H0 T a l (p) d = L2 at *
      generalize stopV (hereT l) c' w = sv at *
      simp (disch := first | (simp only [List.length_append, List.length_cons, List.length_nil]; omega) | (simp; done) | assumption) [AV.cells?, AV.isCell, -AV.cells?, cq_int, cq_str, cq_slice, cq_bool, -evBuild, -evBuildSlice, Tryz.f137, E_esc, bX1', h1, h2, z24', z6_len, c24, a24, k24, i24, tq46_0, tq46_1, tq46_2, tc46, ta46, tk46, ti46, tz46, fq0, fq3, fq4, fq5, c3, a3, k3, i3, c2, a2, k2, i2, c22, a22, k22, bq3, bq2, finPan, hf]
    | ok z =>
      obtain ⟨t, r2⟩ := z
      rw [e2, ansR_ok] at h2
      rw [th_ok]
      obtain ⟨tk, ts, tn, tp⟩ := t
      simp only [Tk.emb, Tk.cells] at h2
      have h3 : ev Tryz.prog E (n + 4) 134 [.ptr a 0, .str [44]] (PSt H0 T a l (r2) d) = _ := ev_need ha T l hl n (r2) d _ _
      cases e3 : needP (hereT l) [44] (r2) with
      | error z =>
        obtain ⟨c', w⟩ := z
        rw [e3, ansR_err] at h3
        rw [th_err, ansX_err]
        have hf := fin_stop H0 T a l p d w c' w
        generalize PSt H0 T a l (w) d = L0 at *
        generalize PSt H0 T a l (r2) d = L1 at *
        generalize PSt H0 T a l (r1) d = L2 at *
        generalize PSt H0 T a l (p) d = L3 at *
        generalize stopV (hereT l) c' w = sv at *
        simp (disch := first | (simp only [List.length_append, List.length_cons, List.length_nil]; omega) | (simp; done) | assumption) [AV.cells?, AV.isCell, -AV.cells?, cq_int, cq_str, cq_slice, cq_bool, -evBuild, -evBuildSlice, Tryz.f137, E_esc, bX1', h1, h2, h3, z24', z6_len, c24, a24, k24, i24, tq46_0, tq46_1, tq46_2, tc46, ta46, tk46, ti46, tz46, fq0, fq3, fq4, fq5, c3, a3, k3, i3, c2, a2, k2, i2, c22, a22, k22, bq3, bq2, finPan, hf]
      | ok z =>
        obtain ⟨_u3, r3⟩ := z
        rw [e3, ansR_ok] at h3
        rw [th_ok]
        have h4 : ev Tryz.prog E (n + 4) 140 [.ptr a 0, .int .i64 2] (PSt H0 T a l (r3) d) = _ := ev_take ha T l hl (n + 1) (r3) d 2 (by decide)
        cases e4 : takeP (hereT l) 2 (r3) with
        | error z =>
          obtain ⟨c', w⟩ := z
          rw [e4, ansR_err] at h4
          rw [th_err, ansX_err]
          have hf := fin_stop H0 T a l p d w c' w
          generalize PSt H0 T a l (w) d = L0 at *
          generalize PSt H0 T a l (r3) d = L1 at *
          generalize PSt H0 T a l (r2) d = L2 at *
          generalize PSt H0 T a l (r1) d = L3 at *
          generalize PSt H0 T a l (p) d = L4 at *
          generalize stopV (hereT l) c' w = sv at *
          simp (disch := first | (simp only [List.length_append, List.length_cons, List.length_nil]; omega) | (simp; done) | assumption) [AV.cells?, AV.isCell, -AV.cells?, cq_int, cq_str, cq_slice, cq_bool, -evBuild, -evBuildSlice, Tryz.f137, E_esc, bX1', h1, h2, h3, h4, z24', z6_len, c24, a24, k24, i24, tq46_0, tq46_1, tq46_2, tc46, ta46, tk46, ti46, tz46, fq0, fq3, fq4, fq5, c3, a3, k3, i3, c2, a2, k2, i2, c22, a22, k22, bq3, bq2, finPan, hf]
        | ok z =>
          obtain ⟨u, r4⟩ := z
          rw [e4, ansR_ok] at h4
          rw [th_ok]
          obtain ⟨uk, us, un, up⟩ := u
          simp only [Tk.emb, Tk.cells] at h4
          have h5 : ev Tryz.prog E (n + 4) 134 [.ptr a 0, .str [41]] (PSt H0 T a l (r4) d) = _ := ev_need ha T l hl n (r4) d _ _
          cases e5 : needP (hereT l) [41] (r4) with
          | error z =>
            obtain ⟨c', w⟩ := z
            rw [e5, ansR_err] at h5
            rw [th_err, ansX_err]
            have hf := fin_stop H0 T a l p d w c' w
            generalize PSt H0 T a l (w) d = L0 at *
            generalize PSt H0 T a l (r4) d = L1 at *
            generalize PSt H0 T a l (r3) d = L2 at *
            generalize PSt H0 T a l (r2) d = L3 at *
            generalize PSt H0 T a l (r1) d = L4 at *
            generalize PSt H0 T a l (p) d = L5 at *
            generalize stopV (hereT l) c' w = sv at *
            simp (disch := first | (simp only [List.length_append, List.length_cons, List.length_nil]; omega) | (simp; done) | assumption) [AV.cells?, AV.isCell, -AV.cells?, cq_int, cq_str, cq_slice, cq_bool, -evBuild, -evBuildSlice, Tryz.f137, E_esc, bX1', h1, h2, h3, h4, h5, z24', z6_len, c24, a24, k24, i24, tq46_0, tq46_1, tq46_2, tc46, ta46, tk46, ti46, tz46, fq0, fq3, fq4, fq5, c3, a3, k3, i3, c2, a2, k2, i2, c22, a22, k22, bq3, bq2, finPan, hf]
          | ok z =>
            obtain ⟨_u5, r5⟩ := z
            rw [e5, ansR_ok] at h5
            rw [th_ok]
            rw [ansX_ok]
            have hf := fin_X H0 T a l p d (r5) (leafX 13 ts 0 un)
            simp only [leaf_emb] at hf ⊢
            generalize PSt H0 T a l (r5) d = L0 at *
            generalize PSt H0 T a l (r4) d = L1 at *
            generalize PSt H0 T a l (r3) d = L2 at *
            generalize PSt H0 T a l (r2) d = L3 at *
            generalize PSt H0 T a l (r1) d = L4 at *
            generalize PSt H0 T a l (p) d = L5 at *
            simp (disch := first | (simp only [List.length_append, List.length_cons, List.length_nil]; omega) | (simp; done) | assumption) [AV.cells?, AV.isCell, -AV.cells?, cq_int, cq_str, cq_slice, cq_bool, -evBuild, -evBuildSlice, Tryz.f137, E_esc, bX1', h1, h2, h3, h4, h5, z24', z6_len, c24, a24, k24, i24, tq46_0, tq46_1, tq46_2, tc46, ta46, tk46, ti46, tz46, fq0, fq3, fq4, fq5, c3, a3, k3, i3, c2, a2, k2, i2, c22, a22, k22, bq3, bq2, z6, hf]
set_option maxHeartbeats 4000000 in
theorem ev82 (n p d : Nat) : ev Tryz.prog E (n + 5) 141 [.ptr a 0] (PSt H0 T a l p d) = ansR H0 T a l d (fun x : Int × Int => .tup [.int .i64 x.1, .int .i64 x.2]) (spanP (hereT l) p) := by
  rw [show n + 5 = (n + 4) + 1 from rfl, ev_enter (n := n + 4) (show E.ok 141 = true from rfl) Tryz.func141 (fn := Tryz.f141) rfl (Nat.le_of_ble_eq_true rfl) (by decide +kernel)]
  unfold spanP
  have h1 : ev Tryz.prog E (n + 4) 134 [.ptr a 0, .str [91]] (PSt H0 T a l (p) d) = _ := ev_need ha T l hl n (p) d _ _
  cases e1 : needP (hereT l) [91] (p) with
  | error z =>
    obtain ⟨c', w⟩ := z
    rw [e1, ansR_err] at h1
    rw [th_err, ansR_err]
    have hf := fin_stop H0 T a l p d w c' w
    generalize PSt H0 T a l (w) d = L0 at *
    generalize PSt H0 T a l (p) d = L1 at *
    generalize stopV (hereT l) c' w = sv at *
    simp (disch := first | (simp only [List.length_append, List.length_cons, List.length_nil]; omega) | (simp; done) | assumption) [AV.cells?, AV.isCell, -AV.cells?, cq_int, cq_str, cq_slice, cq_bool, -evBuild, -evBuildSlice, Tryz.f141, E_esc, h1, z24', z6_len, c24, a24, k24, i24, tq46_0, tq46_1, tq46_2, tc46, ta46, tk46, ti46, tz46, fq0, fq3, fq4, fq5, c3, a3, k3, i3, c2, a2, k2, i2, c22, a22, k22, bq3, bq2, finPan, hf]
  | ok z =>
    obtain ⟨_u1, r1⟩ := z
    rw [e1, ansR_ok] at h1
    rw [th_ok]
    have h2 : ev Tryz.prog E (n + 4) 140 [.ptr a 0, .int .i64 2] (PSt H0 T a l (r1) d) = _ := ev_take ha T l hl (n + 1) (r1) d 2 (by decide)
    cases e2 : takeP (hereT l) 2 (r1) with
    | error z =>
      obtain ⟨c', w⟩ := z
      rw [e2, ansR_err] at h2
      rw [th_err, ansR_err]
      have hf := fin_stop H0 T a l p d w c' w
      generalize PSt H0 T a l (w) d = L0 at *
      generalize PSt H0 T a l (r1) d = L1 at *
      generalize PSt H0 T a l (p) d = L2 at *
      generalize stopV (hereT l) c' w = sv at *
      simp (disch := first | (simp only [List.length_append, List.length_cons, List.length_nil]; omega) | (simp; done) | assumption) [AV.cells?, AV.isCell, -AV.cells?, cq_int, cq_str, cq_slice, cq_bool, -evBuild, -evBuildSlice, Tryz.f141, E_esc, h1, h2, z24', z6_len, c24, a24, k24, i24, tq46_0, tq46_1, tq46_2, tc46, ta46, tk46, ti46, tz46, fq0, fq3, fq4, fq5, c3, a3, k3, i3, c2, a2, k2, i2, c22, a22, k22, bq3, bq2, finPan, hf]
    | ok z =>
      obtain ⟨t, r2⟩ := z
      rw [e2, ansR_ok] at h2
      rw [th_ok]
      obtain ⟨tk, ts, tn, tp⟩ := t
      simp only [Tk.emb, Tk.cells] at h2
      have h3 : ev Tryz.prog E (n + 4) 134 [.ptr a 0, .str [44]] (PSt H0 T a l (r2) d) = _ := ev_need ha T l hl n (r2) d _ _
      cases e3 : needP (hereT l) [44] (r2) with
      | error z =>
        obtain ⟨c', w⟩ := z
        rw [e3, ansR_err] at h3
        rw [th_err, ansR_err]
        have hf := fin_stop H0 T a l p d w c' w
        generalize PSt H0 T a l (w) d = L0 at *
        generalize PSt H0 T a l (r2) d = L1 at *
        generalize PSt H0 T a l (r1) d = L2 at *
        generalize PSt H0 T a l (p) d = L3 at *
        generalize stopV (hereT l) c' w = sv at *
        simp (disch := first | (simp only [List.length_append, List.length_cons, List.length_nil]; omega) | (simp; done) | assumption) [AV.cells?, AV.isCell, -AV.cells?, cq_int, cq_str, cq_slice, cq_bool, -evBuild, -evBuildSlice, Tryz.f141, E_esc, h1, h2, h3, z24', z6_len, c24, a24, k24, i24, tq46_0, tq46_1, tq46_2, tc46, ta46, tk46, ti46, tz46, fq0, fq3, fq4, fq5, c3, a3, k3, i3, c2, a2, k2, i2, c22, a22, k22, bq3, bq2, finPan, hf]
      | ok z =>
        obtain ⟨_u3, r3⟩ := z
        rw [e3, ansR_ok] at h3
        rw [th_ok]
        have hi : ev Tryz.prog E (n + 4) 52 [.ptr a 0, .str [42]] (PSt H0 T a l (r3) d) = _ := ev_is ha T l hl (n + 2) (r3) d _ _
        by_cases hB : isB (hereT l) (r3) [42] = true
        · rw [if_pos hB]
          rw [hB] at hi
          simp only [if_true] at hi
          have h11 : ev Tryz.prog E (n + 4) 134 [.ptr a 0, .str [93]] (PSt H0 T a l (r3 + 1) d) = _ := ev_need ha T l hl n (r3 + 1) d _ _
          cases e11 : needP (hereT l) [93] (r3 + 1) with
          | error z =>
            obtain ⟨c', w⟩ := z
            rw [e11, ansR_err] at h11
            rw [th_err, ansR_err]
            have hf := fin_stop H0 T a l p d w c' w
            generalize PSt H0 T a l (w) d = L0 at *
            generalize PSt H0 T a l (r3 + 1) d = L1 at *
            generalize PSt H0 T a l (r3) d = L2 at *
            generalize PSt H0 T a l (r2) d = L3 at *
            generalize PSt H0 T a l (r1) d = L4 at *
            generalize PSt H0 T a l (p) d = L5 at *
            generalize stopV (hereT l) c' w = sv at *
            simp (disch := first | (simp only [List.length_append, List.length_cons, List.length_nil]; omega) | (simp; done) | assumption) [AV.cells?, AV.isCell, -AV.cells?, cq_int, cq_str, cq_slice, cq_bool, -evBuild, -evBuildSlice, Tryz.f141, E_esc, h1, h2, h3, hi, h11, z24', z6_len, c24, a24, k24, i24, tq46_0, tq46_1, tq46_2, tc46, ta46, tk46, ti46, tz46, fq0, fq3, fq4, fq5, c3, a3, k3, i3, c2, a2, k2, i2, c22, a22, k22, bq3, bq2, finPan, hf]
          | ok z =>
            obtain ⟨_u11, r11⟩ := z
            rw [e11, ansR_ok] at h11
            rw [th_ok]
            rw [ansR_ok]
            have hf := fin_ii H0 T a l p d (r11) (tn) (-1)
            generalize PSt H0 T a l (r11) d = L0 at *
            generalize PSt H0 T a l (r3 + 1) d = L1 at *
            generalize PSt H0 T a l (r3) d = L2 at *
            generalize PSt H0 T a l (r2) d = L3 at *
            generalize PSt H0 T a l (r1) d = L4 at *
            generalize PSt H0 T a l (p) d = L5 at *
            simp (disch := first | (simp only [List.length_append, List.length_cons, List.length_nil]; omega) | (simp; done) | assumption) [AV.cells?, AV.isCell, -AV.cells?, cq_int, cq_str, cq_slice, cq_bool, -evBuild, -evBuildSlice, Tryz.f141, E_esc, h1, h2, h3, hi, h11, z24', z6_len, c24, a24, k24, i24, tq46_0, tq46_1, tq46_2, tc46, ta46, tk46, ti46, tz46, fq0, fq3, fq4, fq5, c3, a3, k3, i3, c2, a2, k2, i2, c22, a22, k22, bq3, bq2, hf]
        · rw [if_neg hB]
          simp only [Bool.not_eq_true] at hB
          rw [hB] at hi
          simp only [Bool.false_eq_true, if_false] at hi
          have h21 : ev Tryz.prog E (n + 4) 140 [.ptr a 0, .int .i64 2] (PSt H0 T a l (r3) d) = _ := ev_take ha T l hl (n + 1) (r3) d 2 (by decide)
          cases e21 : takeP (hereT l) 2 (r3) with
          | error z =>
            obtain ⟨c', w⟩ := z
            rw [e21, ansR_err] at h21
            rw [th_err, ansR_err]
            have hf := fin_stop H0 T a l p d w c' w
            generalize PSt H0 T a l (w) d = L0 at *
            generalize PSt H0 T a l (r3) d = L1 at *
            generalize PSt H0 T a l (r2) d = L2 at *
            generalize PSt H0 T a l (r1) d = L3 at *
            generalize PSt H0 T a l (p) d = L4 at *
            generalize stopV (hereT l) c' w = sv at *
            simp (disch := first | (simp only [List.length_append, List.length_cons, List.length_nil]; omega) | (simp; done) | assumption) [AV.cells?, AV.isCell, -AV.cells?, cq_int, cq_str, cq_slice, cq_bool, -evBuild, -evBuildSlice, Tryz.f141, E_esc, h1, h2, h3, hi, h21, z24', z6_len, c24, a24, k24, i24, tq46_0, tq46_1, tq46_2, tc46, ta46, tk46, ti46, tz46, fq0, fq3, fq4, fq5, c3, a3, k3, i3, c2, a2, k2, i2, c22, a22, k22, bq3, bq2, finPan, hf]
          | ok z =>
            obtain ⟨u, r21⟩ := z
            rw [e21, ansR_ok] at h21
            rw [th_ok]
            obtain ⟨uk, us, un, up⟩ := u
            simp only [Tk.emb, Tk.cells] at h21
            by_cases hlt : un < tn
            · rw [if_pos (show (⟨uk, us, un, up⟩ : Tk).n < (⟨tk, ts, tn, tp⟩ : Tk).n from hlt), ansR_err]
              have hfl := ev_fail ha T l hl (n + 2) (r21) d 16
              have hf := fin_stop H0 T a l p d (r21) 16 (r21)
              generalize PSt H0 T a l (r21) d = L0 at *
              generalize PSt H0 T a l (r3) d = L1 at *
              generalize PSt H0 T a l (r2) d = L2 at *
              generalize PSt H0 T a l (r1) d = L3 at *
              generalize PSt H0 T a l (p) d = L4 at *
              generalize stopV (hereT l) 16 (r21) = sv at *
              simp (disch := first | (simp only [List.length_append, List.length_cons, List.length_nil]; omega) | (simp; done) | assumption) [AV.cells?, AV.isCell, -AV.cells?, cq_int, cq_str, cq_slice, cq_bool, -evBuild, -evBuildSlice, Tryz.f141, E_esc, h1, h2, h3, hi, h21, z24', z6_len, c24, a24, k24, i24, tq46_0, tq46_1, tq46_2, tc46, ta46, tk46, ti46, tz46, fq0, fq3, fq4, fq5, c3, a3, k3, i3, c2, a2, k2, i2, c22, a22, k22, bq3, bq2, hlt, hfl, finPan, hf]
            · rw [if_neg (show ¬ (⟨uk, us, un, up⟩ : Tk).n < (⟨tk, ts, tn, tp⟩ : Tk).n from hlt)]
              have h31 : ev Tryz.prog E (n + 4) 134 [.ptr a 0, .str [93]] (PSt H0 T a l (r21) d) = _ := ev_need ha T l hl n (r21) d _ _
              cases e31 : needP (hereT l) [93] (r21) with
              | error z =>
                obtain ⟨c', w⟩ := z
                rw [e31, ansR_err] at h31
                rw [th_err, ansR_err]
                have hf := fin_stop H0 T a l p d w c' w
                generalize PSt H0 T a l (w) d = L0 at *
                generalize PSt H0 T a l (r21) d = L1 at *
                generalize PSt H0 T a l (r3) d = L2 at *
                generalize PSt H0 T a l (r2) d = L3 at *
                generalize PSt H0 T a l (r1) d = L4 at *
                generalize PSt H0 T a l (p) d = L5 at *
                generalize stopV (hereT l) c' w = sv at *
                simp (disch := first | (simp only [List.length_append, List.length_cons, List.length_nil]; omega) | (simp; done) | assumption) [AV.cells?, AV.isCell, -AV.cells?, cq_int, cq_str, cq_slice, cq_bool, -evBuild, -evBuildSlice, Tryz.f141, E_esc, h1, h2, h3, hi, h21, hlt, h31, z24', z6_len, c24, a24, k24, i24, tq46_0, tq46_1, tq46_2, tc46, ta46, tk46, ti46, tz46, fq0, fq3, fq4, fq5, c3, a3, k3, i3, c2, a2, k2, i2, c22, a22, k22, bq3, bq2, finPan, hf]
              | ok z =>
                obtain ⟨_u31, r31⟩ := z
                rw [e31, ansR_ok] at h31
                rw [th_ok]
                rw [ansR_ok]
                have hf := fin_ii H0 T a l p d (r31) (tn) (un)
                generalize PSt H0 T a l (r31) d = L0 at *
                generalize PSt H0 T a l (r21) d = L1 at *
                generalize PSt H0 T a l (r3) d = L2 at *
                generalize PSt H0 T a l (r2) d = L3 at *
                generalize PSt H0 T a l (r1) d = L4 at *
                generalize PSt H0 T a l (p) d = L5 at *
                simp (disch := first | (simp only [List.length_append, List.length_cons, List.length_nil]; omega) | (simp; done) | assumption) [AV.cells?, AV.isCell, -AV.cells?, cq_int, cq_str, cq_slice, cq_bool, -evBuild, -evBuildSlice, Tryz.f141, E_esc, h1, h2, h3, hi, h21, hlt, h31, z24', z6_len, c24, a24, k24, i24, tq46_0, tq46_1, tq46_2, tc46, ta46, tk46, ti46, tz46, fq0, fq3, fq4, fq5, c3, a3, k3, i3, c2, a2, k2, i2, c22, a22, k22, bq3, bq2, hf]
end
end Go.Proofs.YtemggoaefohliaaGreatDoor.PS
/- The parser: timed, signed, named, evaluated (printed by gendp4.py). No condition. -/
namespace Go.Proofs.YtemggoaefohliaaGreatDoor.PS
set_option linter.unusedVariables false
set_option linter.unusedSimpArgs false
open Go AE EX PT NF LX
set_option maxRecDepth 100000
theorem i22 : (Tryz.prog.info? 23).isSome = true := by kernel_rfl
theorem embL1 (x : X) : embL [x] = [x.emb] := rfl
theorem embL2 (x y : X) : embL [x, y] = [x.emb, y.emb] := rfl
theorem bS1' (x : X) : evBuildSlice Tryz.prog 23 1 [(0, x.emb)] = some (.slice [x.emb] .clip) := bS1 x
theorem bS2' (x y : X) : evBuildSlice Tryz.prog 23 2 [(0, x.emb), (1, y.emb)] = some (.slice [x.emb, y.emb] .clip) := bS2 x y
theorem mk_emb (k : Int) (lo hi : Int) (ks : List X) : (X.mk k [] 0 lo hi true ks).emb = .agg [.int .i64 k, .str [], .int .i64 0, .int .i64 lo, .int .i64 hi, .slice (embL ks) .clip] := rfl
theorem bX0' (k : Int) : evBuild Tryz.prog 25 [(0, .int .i64 k)] = some (.agg [.int .i64 k, .str [], .int .i64 0, .int .i64 0, .int .i64 0, .slice [] .clip]) := bX0 k
section
variable {H0 : List HBox} {a : Nat} (ha : a < H0.length) (T : List Nat) (l : List Tk) (hl : l.length ≤ 2000000)
include ha hl
set_option maxHeartbeats 8000000 in
theorem ev80 (n d : Nat) (any : Nat → PR X) (hA : Sub H0 T a l d (n + 5) 138 (argP (hereT l) any)) (hs : Sub H0 T a l d (n + 5) 27 any) : Sub H0 T a l d (n + 6) 139 (timedP (hereT l) any) := by
  intro p
  rw [show n + 6 = (n + 5) + 1 from rfl, ev_enter (n := n + 5) (show E.ok 139 = true from rfl) Tryz.func139 (fn := Tryz.f139) rfl (Nat.le_of_ble_eq_true rfl) (by decide +kernel)]
  unfold timedP
  have i1 : ev Tryz.prog E (n + 5) 52 [.ptr a 0, .str [111, 110, 99, 101]] (PSt H0 T a l (p) d) = _ := ev_is ha T l hl (n + 3) (p) d _ _
  by_cases b1 : isB (hereT l) (p) [111, 110, 99, 101] = true
  · rw [if_pos b1]
    have ilt := is_lt b1
    have ib := b1
    rw [b1] at i1
    simp only [if_true] at i1
    unfold lookP
    have h2 := ev82 ha T l hl n (p + 1) d
    cases e2 : spanP (hereT l) (p + 1) with
    | error z =>
      obtain ⟨c', w⟩ := z
      rw [e2, ansR_err] at h2
      rw [th_err, ansX_err]
      have hf := fin_stop H0 T a l p d w c' w
      generalize PSt H0 T a l (w) d = L0 at *
      generalize PSt H0 T a l (p + 1) d = L1 at *
      generalize PSt H0 T a l (p) d = L2 at *
      generalize stopV (hereT l) c' w = sv at *
      simp (disch := first | (simp only [List.length_append, List.length_cons, List.length_nil]; omega) | (simp; done) | assumption) [AV.cells?, AV.isCell, -AV.cells?, cq_int, cq_str, cq_slice, cq_bool, -evBuild, -evBuildSlice, Tryz.f139, E_esc, i1, h2, finPan, hf, z24, c24, a24, k24, i24, tq46_0, tq46_1, tq46_2, tc46, ta46, tk46, ti46, tz46, fq0, fq3, fq4, fq5, c3, a3, k3, i3, c2, a2, k2, i2, c22, a22, k22, i22, bq3, bq2]
    | ok z =>
      obtain ⟨lh, r2⟩ := z
      rw [e2, ansR_ok] at h2
      rw [th_ok]
      obtain ⟨lo, hi⟩ := lh; simp only at h2
      have h3 := hA (r2)
      cases e3 : argP (hereT l) any (r2) with
      | error z =>
        obtain ⟨c', w⟩ := z
        rw [e3, ansX_err] at h3
        rw [th_err, ansX_err]
        have hf := fin_stop H0 T a l p d w c' w
        generalize PSt H0 T a l (w) d = L0 at *
        generalize PSt H0 T a l (r2) d = L1 at *
        generalize PSt H0 T a l (p + 1) d = L2 at *
        generalize PSt H0 T a l (p) d = L3 at *
        generalize stopV (hereT l) c' w = sv at *
        simp (disch := first | (simp only [List.length_append, List.length_cons, List.length_nil]; omega) | (simp; done) | assumption) [AV.cells?, AV.isCell, -AV.cells?, cq_int, cq_str, cq_slice, cq_bool, -evBuild, -evBuildSlice, Tryz.f139, E_esc, i1, h2, h3, finPan, hf, z24, c24, a24, k24, i24, tq46_0, tq46_1, tq46_2, tc46, ta46, tk46, ti46, tz46, fq0, fq3, fq4, fq5, c3, a3, k3, i3, c2, a2, k2, i2, c22, a22, k22, i22, bq3, bq2]
      | ok z =>
        obtain ⟨x, r3⟩ := z
        rw [e3, ansX_ok] at h3
        rw [th_ok]
        have hcx := xcells x
        have hlx := xlen x
        have htx := xtake x
        have hex := xemb x
        rw [ansX_ok]
        have hf := fin_X H0 T a l p d (r3) (X.mk 22 [] 0 lo hi true [x])
        have hbs := bS1' x
        simp only [mk_emb, embL1] at hf ⊢
        generalize PSt H0 T a l (r3) d = L0 at *
        generalize PSt H0 T a l (r2) d = L1 at *
        generalize PSt H0 T a l (p + 1) d = L2 at *
        generalize PSt H0 T a l (p) d = L3 at *
        generalize x.cells = xc at *
        generalize x.emb = xe at *
        simp (disch := first | (simp only [List.length_append, List.length_cons, List.length_nil]; omega) | (simp; done) | assumption) [AV.cells?, AV.isCell, -AV.cells?, cq_int, cq_str, cq_slice, cq_bool, -evBuild, -evBuildSlice, Tryz.f139, E_esc, i1, h2, h3, hcx, hlx, htx, hex, hbs, hf, z24, c24, a24, k24, i24, tq46_0, tq46_1, tq46_2, tc46, ta46, tk46, ti46, tz46, fq0, fq3, fq4, fq5, c3, a3, k3, i3, c2, a2, k2, i2, c22, a22, k22, i22, bq3, bq2]
  · rw [if_neg b1]
    simp only [Bool.not_eq_true] at b1
    rw [b1] at i1
    simp only [Bool.false_eq_true, if_false] at i1
    have i4 : ev Tryz.prog E (n + 5) 52 [.ptr a 0, .str [104, 105, 115, 116]] (PSt H0 T a l (p) d) = _ := ev_is ha T l hl (n + 3) (p) d _ _
    by_cases b4 : isB (hereT l) (p) [104, 105, 115, 116] = true
    · rw [if_pos b4]
      have ilt := is_lt b4
      have ib := b4
      rw [b4] at i4
      simp only [if_true] at i4
      unfold lookP
      have h5 := ev82 ha T l hl n (p + 1) d
      cases e5 : spanP (hereT l) (p + 1) with
      | error z =>
        obtain ⟨c', w⟩ := z
        rw [e5, ansR_err] at h5
        rw [th_err, ansX_err]
        have hf := fin_stop H0 T a l p d w c' w
        generalize PSt H0 T a l (w) d = L0 at *
        generalize PSt H0 T a l (p + 1) d = L1 at *
        generalize PSt H0 T a l (p) d = L2 at *
        generalize stopV (hereT l) c' w = sv at *
        simp (disch := first | (simp only [List.length_append, List.length_cons, List.length_nil]; omega) | (simp; done) | assumption) [AV.cells?, AV.isCell, -AV.cells?, cq_int, cq_str, cq_slice, cq_bool, -evBuild, -evBuildSlice, Tryz.f139, E_esc, i1, i4, h5, finPan, hf, z24, c24, a24, k24, i24, tq46_0, tq46_1, tq46_2, tc46, ta46, tk46, ti46, tz46, fq0, fq3, fq4, fq5, c3, a3, k3, i3, c2, a2, k2, i2, c22, a22, k22, i22, bq3, bq2]
      | ok z =>
        obtain ⟨lh, r5⟩ := z
        rw [e5, ansR_ok] at h5
        rw [th_ok]
        obtain ⟨lo, hi⟩ := lh; simp only at h5
        have h6 := hA (r5)
        cases e6 : argP (hereT l) any (r5) with
        | error z =>
          obtain ⟨c', w⟩ := z
          rw [e6, ansX_err] at h6
          rw [th_err, ansX_err]
          have hf := fin_stop H0 T a l p d w c' w
          generalize PSt H0 T a l (w) d = L0 at *
          generalize PSt H0 T a l (r5) d = L1 at *
          generalize PSt H0 T a l (p + 1) d = L2 at *
          generalize PSt H0 T a l (p) d = L3 at *
          generalize stopV (hereT l) c' w = sv at *
          simp (disch := first | (simp only [List.length_append, List.length_cons, List.length_nil]; omega) | (simp; done) | assumption) [AV.cells?, AV.isCell, -AV.cells?, cq_int, cq_str, cq_slice, cq_bool, -evBuild, -evBuildSlice, Tryz.f139, E_esc, i1, i4, h5, h6, finPan, hf, z24, c24, a24, k24, i24, tq46_0, tq46_1, tq46_2, tc46, ta46, tk46, ti46, tz46, fq0, fq3, fq4, fq5, c3, a3, k3, i3, c2, a2, k2, i2, c22, a22, k22, i22, bq3, bq2]
        | ok z =>
          obtain ⟨x, r6⟩ := z
          rw [e6, ansX_ok] at h6
          rw [th_ok]
          have hcx := xcells x
          have hlx := xlen x
          have htx := xtake x
          have hex := xemb x
          rw [ansX_ok]
          have hf := fin_X H0 T a l p d (r6) (X.mk 23 [] 0 lo hi true [x])
          have hbs := bS1' x
          simp only [mk_emb, embL1] at hf ⊢
          generalize PSt H0 T a l (r6) d = L0 at *
          generalize PSt H0 T a l (r5) d = L1 at *
          generalize PSt H0 T a l (p + 1) d = L2 at *
          generalize PSt H0 T a l (p) d = L3 at *
          generalize x.cells = xc at *
          generalize x.emb = xe at *
          simp (disch := first | (simp only [List.length_append, List.length_cons, List.length_nil]; omega) | (simp; done) | assumption) [AV.cells?, AV.isCell, -AV.cells?, cq_int, cq_str, cq_slice, cq_bool, -evBuild, -evBuildSlice, Tryz.f139, E_esc, i1, i4, h5, h6, hcx, hlx, htx, hex, hbs, hf, z24, c24, a24, k24, i24, tq46_0, tq46_1, tq46_2, tc46, ta46, tk46, ti46, tz46, fq0, fq3, fq4, fq5, c3, a3, k3, i3, c2, a2, k2, i2, c22, a22, k22, i22, bq3, bq2]
    · rw [if_neg b4]
      simp only [Bool.not_eq_true] at b4
      rw [b4] at i4
      simp only [Bool.false_eq_true, if_false] at i4
      have i7 : ev Tryz.prog E (n + 5) 52 [.ptr a 0, .str [115, 105, 110, 99, 101]] (PSt H0 T a l (p) d) = _ := ev_is ha T l hl (n + 3) (p) d _ _
      by_cases b7 : isB (hereT l) (p) [115, 105, 110, 99, 101] = true
      · rw [if_pos b7]
        have ilt := is_lt b7
        have ib := b7
        rw [b7] at i7
        simp only [if_true] at i7
        have hps : E.ps 139 16 = [(0, 2), (2, 2)] := rfl
        unfold sinceP
        have h8 := ev82 ha T l hl n (p + 1) d
        cases e8 : spanP (hereT l) (p + 1) with
        | error z =>
          obtain ⟨c', w⟩ := z
          rw [e8, ansR_err] at h8
          rw [th_err, ansX_err]
          have hf := fin_stop H0 T a l p d w c' w
          generalize PSt H0 T a l (w) d = L0 at *
          generalize PSt H0 T a l (p + 1) d = L1 at *
          generalize PSt H0 T a l (p) d = L2 at *
          generalize stopV (hereT l) c' w = sv at *
          simp (disch := first | (simp only [List.length_append, List.length_cons, List.length_nil]; omega) | (simp; done) | assumption) [AV.cells?, AV.isCell, -AV.cells?, cq_int, cq_str, cq_slice, cq_bool, -evBuild, -evBuildSlice, Tryz.f139, E_esc, i1, i4, i7, hps, h8, finPan, hf, z24, c24, a24, k24, i24, tq46_0, tq46_1, tq46_2, tc46, ta46, tk46, ti46, tz46, fq0, fq3, fq4, fq5, c3, a3, k3, i3, c2, a2, k2, i2, c22, a22, k22, i22, bq3, bq2]
        | ok z =>
          obtain ⟨lh, r8⟩ := z
          rw [e8, ansR_ok] at h8
          rw [th_ok]
          obtain ⟨lo, hi⟩ := lh; simp only at h8
          have h9 : ev Tryz.prog E (n + 5) 134 [.ptr a 0, .str [40]] (PSt H0 T a l (r8) d) = _ := ev_need ha T l hl (n + 1) (r8) d _ _
          cases e9 : needP (hereT l) [40] (r8) with
          | error z =>
            obtain ⟨c', w⟩ := z
            rw [e9, ansR_err] at h9
            rw [th_err, ansX_err]
            have hf := fin_stop H0 T a l p d w c' w
            generalize PSt H0 T a l (w) d = L0 at *
            generalize PSt H0 T a l (r8) d = L1 at *
            generalize PSt H0 T a l (p + 1) d = L2 at *
            generalize PSt H0 T a l (p) d = L3 at *
            generalize stopV (hereT l) c' w = sv at *
            simp (disch := first | (simp only [List.length_append, List.length_cons, List.length_nil]; omega) | (simp; done) | assumption) [AV.cells?, AV.isCell, -AV.cells?, cq_int, cq_str, cq_slice, cq_bool, -evBuild, -evBuildSlice, Tryz.f139, E_esc, i1, i4, i7, hps, h8, h9, finPan, hf, z24, c24, a24, k24, i24, tq46_0, tq46_1, tq46_2, tc46, ta46, tk46, ti46, tz46, fq0, fq3, fq4, fq5, c3, a3, k3, i3, c2, a2, k2, i2, c22, a22, k22, i22, bq3, bq2]
          | ok z =>
            obtain ⟨_u9, r9⟩ := z
            rw [e9, ansR_ok] at h9
            rw [th_ok]
            have h10 := hs (r9)
            cases e10 : any (r9) with
            | error z =>
              obtain ⟨c', w⟩ := z
              rw [e10, ansX_err] at h10
              rw [th_err, ansX_err]
              have hf := fin_stop H0 T a l p d w c' w
              generalize PSt H0 T a l (w) d = L0 at *
              generalize PSt H0 T a l (r9) d = L1 at *
              generalize PSt H0 T a l (r8) d = L2 at *
              generalize PSt H0 T a l (p + 1) d = L3 at *
              generalize PSt H0 T a l (p) d = L4 at *
              generalize stopV (hereT l) c' w = sv at *
              simp (disch := first | (simp only [List.length_append, List.length_cons, List.length_nil]; omega) | (simp; done) | assumption) [AV.cells?, AV.isCell, -AV.cells?, cq_int, cq_str, cq_slice, cq_bool, -evBuild, -evBuildSlice, Tryz.f139, E_esc, i1, i4, i7, hps, h8, h9, h10, finPan, hf, z24, c24, a24, k24, i24, tq46_0, tq46_1, tq46_2, tc46, ta46, tk46, ti46, tz46, fq0, fq3, fq4, fq5, c3, a3, k3, i3, c2, a2, k2, i2, c22, a22, k22, i22, bq3, bq2]
            | ok z =>
              obtain ⟨x, r10⟩ := z
              rw [e10, ansX_ok] at h10
              rw [th_ok]
              have hcx := xcells x
              have hlx := xlen x
              have htx := xtake x
              have hex := xemb x
              have h11 : ev Tryz.prog E (n + 5) 134 [.ptr a 0, .str [44]] (PSt H0 T a l (r10) d) = _ := ev_need ha T l hl (n + 1) (r10) d _ _
              cases e11 : needP (hereT l) [44] (r10) with
              | error z =>
                obtain ⟨c', w⟩ := z
                rw [e11, ansR_err] at h11
                rw [th_err, ansX_err]
                have hf := fin_stop H0 T a l p d w c' w
                generalize PSt H0 T a l (w) d = L0 at *
                generalize PSt H0 T a l (r10) d = L1 at *
                generalize PSt H0 T a l (r9) d = L2 at *
                generalize PSt H0 T a l (r8) d = L3 at *
                generalize PSt H0 T a l (p + 1) d = L4 at *
                generalize PSt H0 T a l (p) d = L5 at *
                generalize stopV (hereT l) c' w = sv at *
                generalize x.cells = xc at *
                generalize x.emb = xe at *
                simp (disch := first | (simp only [List.length_append, List.length_cons, List.length_nil]; omega) | (simp; done) | assumption) [AV.cells?, AV.isCell, -AV.cells?, cq_int, cq_str, cq_slice, cq_bool, -evBuild, -evBuildSlice, Tryz.f139, E_esc, i1, i4, i7, hps, h8, h9, h10, h11, hcx, hlx, htx, hex, finPan, hf, z24, c24, a24, k24, i24, tq46_0, tq46_1, tq46_2, tc46, ta46, tk46, ti46, tz46, fq0, fq3, fq4, fq5, c3, a3, k3, i3, c2, a2, k2, i2, c22, a22, k22, i22, bq3, bq2]
              | ok z =>
                obtain ⟨_u11, r11⟩ := z
                rw [e11, ansR_ok] at h11
                rw [th_ok]
                have h12 := hs (r11)
                cases e12 : any (r11) with
                | error z =>
                  obtain ⟨c', w⟩ := z
                  rw [e12, ansX_err] at h12
                  rw [th_err, ansX_err]
                  have hf := fin_stop H0 T a l p d w c' w
                  generalize PSt H0 T a l (w) d = L0 at *
                  generalize PSt H0 T a l (r11) d = L1 at *
                  generalize PSt H0 T a l (r10) d = L2 at *
                  generalize PSt H0 T a l (r9) d = L3 at *
                  generalize PSt H0 T a l (r8) d = L4 at *
                  generalize PSt H0 T a l (p + 1) d = L5 at *
                  generalize PSt H0 T a l (p) d = L6 at *
                  generalize stopV (hereT l) c' w = sv at *
                  generalize x.cells = xc at *
                  generalize x.emb = xe at *
                  simp (disch := first | (simp only [List.length_append, List.length_cons, List.length_nil]; omega) | (simp; done) | assumption) [AV.cells?, AV.isCell, -AV.cells?, cq_int, cq_str, cq_slice, cq_bool, -evBuild, -evBuildSlice, Tryz.f139, E_esc, i1, i4, i7, hps, h8, h9, h10, h11, h12, hcx, hlx, htx, hex, finPan, hf, z24, c24, a24, k24, i24, tq46_0, tq46_1, tq46_2, tc46, ta46, tk46, ti46, tz46, fq0, fq3, fq4, fq5, c3, a3, k3, i3, c2, a2, k2, i2, c22, a22, k22, i22, bq3, bq2]
                | ok z =>
                  obtain ⟨y, r12⟩ := z
                  rw [e12, ansX_ok] at h12
                  rw [th_ok]
                  have hbs := bS2' x y
                  have hcy := xcells y
                  have hly := xlen y
                  have hty := xtake y
                  have hey := xemb y
                  have h13 : ev Tryz.prog E (n + 5) 134 [.ptr a 0, .str [41]] (PSt H0 T a l (r12) d) = _ := ev_need ha T l hl (n + 1) (r12) d _ _
                  cases e13 : needP (hereT l) [41] (r12) with
                  | error z =>
                    obtain ⟨c', w⟩ := z
                    rw [e13, ansR_err] at h13
                    rw [th_err, ansX_err]
                    have hf := fin_stop H0 T a l p d w c' w
                    generalize PSt H0 T a l (w) d = L0 at *
                    generalize PSt H0 T a l (r12) d = L1 at *
                    generalize PSt H0 T a l (r11) d = L2 at *
                    generalize PSt H0 T a l (r10) d = L3 at *
                    generalize PSt H0 T a l (r9) d = L4 at *
                    generalize PSt H0 T a l (r8) d = L5 at *
                    generalize PSt H0 T a l (p + 1) d = L6 at *
                    generalize PSt H0 T a l (p) d = L7 at *
                    generalize stopV (hereT l) c' w = sv at *
                    generalize x.cells = xc at *
                    generalize x.emb = xe at *
                    generalize y.cells = yc at *
                    generalize y.emb = ye at *
                    simp (disch := first | (simp only [List.length_append, List.length_cons, List.length_nil]; omega) | (simp; done) | assumption) [AV.cells?, AV.isCell, -AV.cells?, cq_int, cq_str, cq_slice, cq_bool, -evBuild, -evBuildSlice, Tryz.f139, E_esc, i1, i4, i7, hps, h8, h9, h10, h11, h12, hbs, h13, hcx, hlx, htx, hex, hcy, hly, hty, hey, finPan, hf, z24, c24, a24, k24, i24, tq46_0, tq46_1, tq46_2, tc46, ta46, tk46, ti46, tz46, fq0, fq3, fq4, fq5, c3, a3, k3, i3, c2, a2, k2, i2, c22, a22, k22, i22, bq3, bq2]
                  | ok z =>
                    obtain ⟨_u13, r13⟩ := z
                    rw [e13, ansR_ok] at h13
                    rw [th_ok]
                    rw [ansX_ok]
                    have hf := fin_X H0 T a l p d (r13) (X.mk 24 [] 0 lo hi true [x, y])
                    simp only [mk_emb, embL2] at hf ⊢
                    generalize PSt H0 T a l (r13) d = L0 at *
                    generalize PSt H0 T a l (r12) d = L1 at *
                    generalize PSt H0 T a l (r11) d = L2 at *
                    generalize PSt H0 T a l (r10) d = L3 at *
                    generalize PSt H0 T a l (r9) d = L4 at *
                    generalize PSt H0 T a l (r8) d = L5 at *
                    generalize PSt H0 T a l (p + 1) d = L6 at *
                    generalize PSt H0 T a l (p) d = L7 at *
                    generalize x.cells = xc at *
                    generalize x.emb = xe at *
                    generalize y.cells = yc at *
                    generalize y.emb = ye at *
                    simp (disch := first | (simp only [List.length_append, List.length_cons, List.length_nil]; omega) | (simp; done) | assumption) [AV.cells?, AV.isCell, -AV.cells?, cq_int, cq_str, cq_slice, cq_bool, -evBuild, -evBuildSlice, Tryz.f139, E_esc, i1, i4, i7, hps, h8, h9, h10, h11, h12, hbs, h13, hcx, hlx, htx, hex, hcy, hly, hty, hey, hf, z24, c24, a24, k24, i24, tq46_0, tq46_1, tq46_2, tc46, ta46, tk46, ti46, tz46, fq0, fq3, fq4, fq5, c3, a3, k3, i3, c2, a2, k2, i2, c22, a22, k22, i22, bq3, bq2]
      · rw [if_neg b7]
        simp only [Bool.not_eq_true] at b7
        rw [b7] at i7
        simp only [Bool.false_eq_true, if_false] at i7
        rw [ansX_err]
        have hfl := ev_fail ha T l hl (n + 3) (p) d 16
        have hf := fin_stop H0 T a l p d (p) 16 (p)
        generalize PSt H0 T a l (p) d = L0 at *
        generalize stopV (hereT l) 16 (p) = sv at *
        simp (disch := first | (simp only [List.length_append, List.length_cons, List.length_nil]; omega) | (simp; done) | assumption) [AV.cells?, AV.isCell, -AV.cells?, cq_int, cq_str, cq_slice, cq_bool, -evBuild, -evBuildSlice, Tryz.f139, E_esc, i1, i4, i7, hfl, finPan, hf, z24, c24, a24, k24, i24, tq46_0, tq46_1, tq46_2, tc46, ta46, tk46, ti46, tz46, fq0, fq3, fq4, fq5, c3, a3, k3, i3, c2, a2, k2, i2, c22, a22, k22, i22, bq3, bq2]
set_option maxHeartbeats 8000000 in
theorem ev72 (n d F : Nat) (one any : Nat → PR X) (h1 : Sub H0 T a l d (n + 6) 128 one) (hs : Sub H0 T a l d (n + 6) 27 any) (hS : Sub H0 T a l d (n + 6) 133 (setP (hereT l) F)) : Sub H0 T a l d (n + 7) 131 (signedP (hereT l) F one any) := by
  intro p
  rw [show n + 7 = (n + 6) + 1 from rfl, ev_enter (n := n + 6) (show E.ok 131 = true from rfl) Tryz.func131 (fn := Tryz.f131) rfl (Nat.le_of_ble_eq_true rfl) (by decide +kernel)]
  unfold signedP
  have i1 : ev Tryz.prog E (n + 6) 52 [.ptr a 0, .str [45]] (PSt H0 T a l (p) d) = _ := ev_is ha T l hl (n + 4) (p) d _ _
  by_cases b1 : isB (hereT l) (p) [45] = true
  · rw [if_pos b1]
    have ilt := is_lt b1
    have ib := b1
    rw [b1] at i1
    simp only [if_true] at i1
    have h2 := h1 (p + 1)
    cases e2 : one (p + 1) with
    | error z =>
      obtain ⟨c', w⟩ := z
      rw [e2, ansX_err] at h2
      rw [th_err, ansX_err]
      have hf := fin_stop H0 T a l p d w c' w
      generalize PSt H0 T a l (w) d = L0 at *
      generalize PSt H0 T a l (p + 1) d = L1 at *
      generalize PSt H0 T a l (p) d = L2 at *
      generalize stopV (hereT l) c' w = sv at *
      simp (disch := first | (simp only [List.length_append, List.length_cons, List.length_nil]; omega) | (simp; done) | assumption) [AV.cells?, AV.isCell, -AV.cells?, cq_int, cq_str, cq_slice, cq_bool, -evBuild, -evBuildSlice, Tryz.f131, E_esc, i1, h2, finPan, hf, z24, c24, a24, k24, i24, tq46_0, tq46_1, tq46_2, tc46, ta46, tk46, ti46, tz46, fq0, fq3, fq4, fq5, c3, a3, k3, i3, c2, a2, k2, i2, c22, a22, k22, i22, bq3, bq2]
    | ok z =>
      obtain ⟨x, r2⟩ := z
      rw [e2, ansX_ok] at h2
      rw [th_ok]
      have hcx := xcells x
      have hlx := xlen x
      have htx := xtake x
      have hex := xemb x
      rw [ansX_ok]
      have hf := fin_X H0 T a l p d (r2) (oneX 11 x)
      have ho := fun S => ev_one1 (n + 5) 11 x S
      have hcz := xcells (oneX 11 x)
      have hlz := xlen (oneX 11 x)
      have htz := xtake (oneX 11 x)
      have hez := xemb (oneX 11 x)
      generalize (oneX 11 x).cells = zc at *
      generalize (oneX 11 x).emb = ze at *
      generalize PSt H0 T a l (r2) d = L0 at *
      generalize PSt H0 T a l (p + 1) d = L1 at *
      generalize PSt H0 T a l (p) d = L2 at *
      generalize x.cells = xc at *
      generalize x.emb = xe at *
      simp (disch := first | (simp only [List.length_append, List.length_cons, List.length_nil]; omega) | (simp; done) | assumption) [AV.cells?, AV.isCell, -AV.cells?, cq_int, cq_str, cq_slice, cq_bool, -evBuild, -evBuildSlice, Tryz.f131, E_esc, i1, h2, hcx, hlx, htx, hex, ho, hcz, hlz, htz, hez, hf, z24, c24, a24, k24, i24, tq46_0, tq46_1, tq46_2, tc46, ta46, tk46, ti46, tz46, fq0, fq3, fq4, fq5, c3, a3, k3, i3, c2, a2, k2, i2, c22, a22, k22, i22, bq3, bq2]
  · rw [if_neg b1]
    simp only [Bool.not_eq_true] at b1
    rw [b1] at i1
    simp only [Bool.false_eq_true, if_false] at i1
    have i3 : ev Tryz.prog E (n + 6) 52 [.ptr a 0, .str [123]] (PSt H0 T a l (p) d) = _ := ev_is ha T l hl (n + 4) (p) d _ _
    by_cases b3 : isB (hereT l) (p) [123] = true
    · rw [if_pos b3]
      have ilt := is_lt b3
      have ib := b3
      rw [b3] at i3
      simp only [if_true] at i3
      have h4 := hS (p + 1)
      cases e4 : setP (hereT l) F (p + 1) with
      | error z =>
        obtain ⟨c', w⟩ := z
        rw [e4, ansX_err] at h4
        rw [ansX_err]
        have hf := fin_stop H0 T a l p d w c' w
        generalize PSt H0 T a l (w) d = L0 at *
        generalize PSt H0 T a l (p + 1) d = L1 at *
        generalize PSt H0 T a l (p) d = L2 at *
        generalize stopV (hereT l) c' w = sv at *
        simp (disch := first | (simp only [List.length_append, List.length_cons, List.length_nil]; omega) | (simp; done) | assumption) [AV.cells?, AV.isCell, -AV.cells?, cq_int, cq_str, cq_slice, cq_bool, -evBuild, -evBuildSlice, Tryz.f131, E_esc, i1, i3, h4, finPan, hf, z24, c24, a24, k24, i24, tq46_0, tq46_1, tq46_2, tc46, ta46, tk46, ti46, tz46, fq0, fq3, fq4, fq5, c3, a3, k3, i3, c2, a2, k2, i2, c22, a22, k22, i22, bq3, bq2]
      | ok z =>
        obtain ⟨x, r4⟩ := z
        rw [e4, ansX_ok] at h4
        have hcx := xcells x
        have hlx := xlen x
        have htx := xtake x
        have hex := xemb x
        rw [ansX_ok]
        have hf := fin_X H0 T a l p d (r4) (x)
        generalize PSt H0 T a l (r4) d = L0 at *
        generalize PSt H0 T a l (p + 1) d = L1 at *
        generalize PSt H0 T a l (p) d = L2 at *
        generalize x.cells = xc at *
        generalize x.emb = xe at *
        simp (disch := first | (simp only [List.length_append, List.length_cons, List.length_nil]; omega) | (simp; done) | assumption) [AV.cells?, AV.isCell, -AV.cells?, cq_int, cq_str, cq_slice, cq_bool, -evBuild, -evBuildSlice, Tryz.f131, E_esc, i1, i3, h4, hcx, hlx, htx, hex, hf, z24, c24, a24, k24, i24, tq46_0, tq46_1, tq46_2, tc46, ta46, tk46, ti46, tz46, fq0, fq3, fq4, fq5, c3, a3, k3, i3, c2, a2, k2, i2, c22, a22, k22, i22, bq3, bq2]
    · rw [if_neg b3]
      simp only [Bool.not_eq_true] at b3
      rw [b3] at i3
      simp only [Bool.false_eq_true, if_false] at i3
      unfold argP
      have h5 : ev Tryz.prog E (n + 6) 134 [.ptr a 0, .str [40]] (PSt H0 T a l (p) d) = _ := ev_need ha T l hl (n + 2) (p) d _ _
      cases e5 : needP (hereT l) [40] (p) with
      | error z =>
        obtain ⟨c', w⟩ := z
        rw [e5, ansR_err] at h5
        rw [th_err, ansX_err]
        have hf := fin_stop H0 T a l p d w c' w
        generalize PSt H0 T a l (w) d = L0 at *
        generalize PSt H0 T a l (p) d = L1 at *
        generalize stopV (hereT l) c' w = sv at *
        simp (disch := first | (simp only [List.length_append, List.length_cons, List.length_nil]; omega) | (simp; done) | assumption) [AV.cells?, AV.isCell, -AV.cells?, cq_int, cq_str, cq_slice, cq_bool, -evBuild, -evBuildSlice, Tryz.f131, E_esc, i1, i3, h5, finPan, hf, z24, c24, a24, k24, i24, tq46_0, tq46_1, tq46_2, tc46, ta46, tk46, ti46, tz46, fq0, fq3, fq4, fq5, c3, a3, k3, i3, c2, a2, k2, i2, c22, a22, k22, i22, bq3, bq2]
      | ok z =>
        obtain ⟨_u5, r5⟩ := z
        rw [e5, ansR_ok] at h5
        rw [th_ok]
        have h6 := hs (r5)
        cases e6 : any (r5) with
        | error z =>
          obtain ⟨c', w⟩ := z
          rw [e6, ansX_err] at h6
          rw [th_err, ansX_err]
          have hf := fin_stop H0 T a l p d w c' w
          generalize PSt H0 T a l (w) d = L0 at *
          generalize PSt H0 T a l (r5) d = L1 at *
          generalize PSt H0 T a l (p) d = L2 at *
          generalize stopV (hereT l) c' w = sv at *
          simp (disch := first | (simp only [List.length_append, List.length_cons, List.length_nil]; omega) | (simp; done) | assumption) [AV.cells?, AV.isCell, -AV.cells?, cq_int, cq_str, cq_slice, cq_bool, -evBuild, -evBuildSlice, Tryz.f131, E_esc, i1, i3, h5, h6, finPan, hf, z24, c24, a24, k24, i24, tq46_0, tq46_1, tq46_2, tc46, ta46, tk46, ti46, tz46, fq0, fq3, fq4, fq5, c3, a3, k3, i3, c2, a2, k2, i2, c22, a22, k22, i22, bq3, bq2]
        | ok z =>
          obtain ⟨x, r6⟩ := z
          rw [e6, ansX_ok] at h6
          rw [th_ok]
          have hcx := xcells x
          have hlx := xlen x
          have htx := xtake x
          have hex := xemb x
          have h7 : ev Tryz.prog E (n + 6) 134 [.ptr a 0, .str [41]] (PSt H0 T a l (r6) d) = _ := ev_need ha T l hl (n + 2) (r6) d _ _
          cases e7 : needP (hereT l) [41] (r6) with
          | error z =>
            obtain ⟨c', w⟩ := z
            rw [e7, ansR_err] at h7
            rw [th_err, ansX_err]
            have hf := fin_stop H0 T a l p d w c' w
            generalize PSt H0 T a l (w) d = L0 at *
            generalize PSt H0 T a l (r6) d = L1 at *
            generalize PSt H0 T a l (r5) d = L2 at *
            generalize PSt H0 T a l (p) d = L3 at *
            generalize stopV (hereT l) c' w = sv at *
            generalize x.cells = xc at *
            generalize x.emb = xe at *
            simp (disch := first | (simp only [List.length_append, List.length_cons, List.length_nil]; omega) | (simp; done) | assumption) [AV.cells?, AV.isCell, -AV.cells?, cq_int, cq_str, cq_slice, cq_bool, -evBuild, -evBuildSlice, Tryz.f131, E_esc, i1, i3, h5, h6, h7, hcx, hlx, htx, hex, finPan, hf, z24, c24, a24, k24, i24, tq46_0, tq46_1, tq46_2, tc46, ta46, tk46, ti46, tz46, fq0, fq3, fq4, fq5, c3, a3, k3, i3, c2, a2, k2, i2, c22, a22, k22, i22, bq3, bq2]
          | ok z =>
            obtain ⟨_u7, r7⟩ := z
            rw [e7, ansR_ok] at h7
            rw [th_ok]
            rw [ansX_ok]
            have hf := fin_X H0 T a l p d (r7) (x)
            generalize PSt H0 T a l (r7) d = L0 at *
            generalize PSt H0 T a l (r6) d = L1 at *
            generalize PSt H0 T a l (r5) d = L2 at *
            generalize PSt H0 T a l (p) d = L3 at *
            generalize x.cells = xc at *
            generalize x.emb = xe at *
            simp (disch := first | (simp only [List.length_append, List.length_cons, List.length_nil]; omega) | (simp; done) | assumption) [AV.cells?, AV.isCell, -AV.cells?, cq_int, cq_str, cq_slice, cq_bool, -evBuild, -evBuildSlice, Tryz.f131, E_esc, i1, i3, h5, h6, h7, hcx, hlx, htx, hex, hf, z24, c24, a24, k24, i24, tq46_0, tq46_1, tq46_2, tc46, ta46, tk46, ti46, tz46, fq0, fq3, fq4, fq5, c3, a3, k3, i3, c2, a2, k2, i2, c22, a22, k22, i22, bq3, bq2]
set_option maxHeartbeats 16000000 in
theorem ev73 (n d : Nat) (one any : Nat → PR X) (h1 : Sub H0 T a l d (n + 6) 128 one) (hA : Sub H0 T a l d (n + 6) 138 (argP (hereT l) any)) (hT : Sub H0 T a l d (n + 6) 139 (timedP (hereT l) any)) : Sub H0 T a l d (n + 7) 132 (namedP (hereT l) one any) := by
  intro p
  rw [show n + 7 = (n + 6) + 1 from rfl, ev_enter (n := n + 6) (show E.ok 132 = true from rfl) Tryz.func132 (fn := Tryz.f132) rfl (Nat.le_of_ble_eq_true rfl) (by decide +kernel)]
  unfold namedP
  have i1 : ev Tryz.prog E (n + 6) 52 [.ptr a 0, .str [116, 114, 117, 101]] (PSt H0 T a l (p) d) = _ := ev_is ha T l hl (n + 4) (p) d _ _
  by_cases b1 : isB (hereT l) (p) [116, 114, 117, 101] = true
  · rw [if_pos b1]
    have ilt := is_lt b1
    have ib := b1
    rw [b1] at i1
    simp only [if_true] at i1
    rw [ansX_ok]
    have hf := fin_X H0 T a l p d (p + 1) (leafX 2 [] 1 0)
    have ht0 := ev_truth (n + 5) 1 (PSt H0 T a l (p + 1) d)
    have hcz := xcells (leafX 2 [] 1 0)
    have hlz := xlen (leafX 2 [] 1 0)
    have htz := xtake (leafX 2 [] 1 0)
    have hez := xemb (leafX 2 [] 1 0)
    generalize (leafX 2 [] 1 0).cells = zc at *
    generalize (leafX 2 [] 1 0).emb = ze at *
    generalize PSt H0 T a l (p + 1) d = L0 at *
    generalize PSt H0 T a l (p) d = L1 at *
    simp (disch := first | (simp only [List.length_append, List.length_cons, List.length_nil]; omega) | (simp; done) | assumption) [AV.cells?, AV.isCell, -AV.cells?, cq_int, cq_str, cq_slice, cq_bool, -evBuild, -evBuildSlice, Tryz.f132, E_esc, i1, ht0, hcz, hlz, htz, hez, hf, z24, c24, a24, k24, i24, tq46_0, tq46_1, tq46_2, tc46, ta46, tk46, ti46, tz46, fq0, fq3, fq4, fq5, c3, a3, k3, i3, c2, a2, k2, i2, c22, a22, k22, i22, bq3, bq2]
  · rw [if_neg b1]
    simp only [Bool.not_eq_true] at b1
    rw [b1] at i1
    simp only [Bool.false_eq_true, if_false] at i1
    have i2 : ev Tryz.prog E (n + 6) 52 [.ptr a 0, .str [102, 97, 108, 115, 101]] (PSt H0 T a l (p) d) = _ := ev_is ha T l hl (n + 4) (p) d _ _
    by_cases b2 : isB (hereT l) (p) [102, 97, 108, 115, 101] = true
    · rw [if_pos b2]
      have ilt := is_lt b2
      have ib := b2
      rw [b2] at i2
      simp only [if_true] at i2
      rw [ansX_ok]
      have hf := fin_X H0 T a l p d (p + 1) (leafX 2 [] 0 0)
      have ht0 := ev_truth (n + 5) 0 (PSt H0 T a l (p + 1) d)
      have hcz := xcells (leafX 2 [] 0 0)
      have hlz := xlen (leafX 2 [] 0 0)
      have htz := xtake (leafX 2 [] 0 0)
      have hez := xemb (leafX 2 [] 0 0)
      generalize (leafX 2 [] 0 0).cells = zc at *
      generalize (leafX 2 [] 0 0).emb = ze at *
      generalize PSt H0 T a l (p + 1) d = L0 at *
      generalize PSt H0 T a l (p) d = L1 at *
      simp (disch := first | (simp only [List.length_append, List.length_cons, List.length_nil]; omega) | (simp; done) | assumption) [AV.cells?, AV.isCell, -AV.cells?, cq_int, cq_str, cq_slice, cq_bool, -evBuild, -evBuildSlice, Tryz.f132, E_esc, i1, i2, ht0, hcz, hlz, htz, hez, hf, z24, c24, a24, k24, i24, tq46_0, tq46_1, tq46_2, tc46, ta46, tk46, ti46, tz46, fq0, fq3, fq4, fq5, c3, a3, k3, i3, c2, a2, k2, i2, c22, a22, k22, i22, bq3, bq2]
    · rw [if_neg b2]
      simp only [Bool.not_eq_true] at b2
      rw [b2] at i2
      simp only [Bool.false_eq_true, if_false] at i2
      have i3 : ev Tryz.prog E (n + 6) 52 [.ptr a 0, .str [110, 111, 119]] (PSt H0 T a l (p) d) = _ := ev_is ha T l hl (n + 4) (p) d _ _
      by_cases b3 : isB (hereT l) (p) [110, 111, 119] = true
      · rw [if_pos b3]
        have ilt := is_lt b3
        have ib := b3
        rw [b3] at i3
        simp only [if_true] at i3
        rw [ansX_ok]
        have hf := fin_X H0 T a l p d (p + 1) (leafX 7 [] 0 0)
        have hb0 := bX0 7
        have hcz := xcells (leafX 7 [] 0 0)
        have hlz := xlen (leafX 7 [] 0 0)
        have htz := xtake (leafX 7 [] 0 0)
        have hez := xemb (leafX 7 [] 0 0)
        generalize (leafX 7 [] 0 0).cells = zc at *
        generalize (leafX 7 [] 0 0).emb = ze at *
        generalize PSt H0 T a l (p + 1) d = L0 at *
        generalize PSt H0 T a l (p) d = L1 at *
        simp (disch := first | (simp only [List.length_append, List.length_cons, List.length_nil]; omega) | (simp; done) | assumption) [AV.cells?, AV.isCell, -AV.cells?, cq_int, cq_str, cq_slice, cq_bool, -evBuild, -evBuildSlice, Tryz.f132, E_esc, i1, i2, i3, hb0, hcz, hlz, htz, hez, hf, z24, c24, a24, k24, i24, tq46_0, tq46_1, tq46_2, tc46, ta46, tk46, ti46, tz46, fq0, fq3, fq4, fq5, c3, a3, k3, i3, c2, a2, k2, i2, c22, a22, k22, i22, bq3, bq2]
      · rw [if_neg b3]
        simp only [Bool.not_eq_true] at b3
        rw [b3] at i3
        simp only [Bool.false_eq_true, if_false] at i3
        have i4 : ev Tryz.prog E (n + 6) 52 [.ptr a 0, .str [110, 111, 116]] (PSt H0 T a l (p) d) = _ := ev_is ha T l hl (n + 4) (p) d _ _
        by_cases b4 : isB (hereT l) (p) [110, 111, 116] = true
        · rw [if_pos b4]
          have ilt := is_lt b4
          have ib := b4
          rw [b4] at i4
          simp only [if_true] at i4
          have h5 := h1 (p + 1)
          cases e5 : one (p + 1) with
          | error z =>
            obtain ⟨c', w⟩ := z
            rw [e5, ansX_err] at h5
            rw [th_err, ansX_err]
            have hf := fin_stop H0 T a l p d w c' w
            generalize PSt H0 T a l (w) d = L0 at *
            generalize PSt H0 T a l (p + 1) d = L1 at *
            generalize PSt H0 T a l (p) d = L2 at *
            generalize stopV (hereT l) c' w = sv at *
            simp (disch := first | (simp only [List.length_append, List.length_cons, List.length_nil]; omega) | (simp; done) | assumption) [AV.cells?, AV.isCell, -AV.cells?, cq_int, cq_str, cq_slice, cq_bool, -evBuild, -evBuildSlice, Tryz.f132, E_esc, i1, i2, i3, i4, h5, finPan, hf, z24, c24, a24, k24, i24, tq46_0, tq46_1, tq46_2, tc46, ta46, tk46, ti46, tz46, fq0, fq3, fq4, fq5, c3, a3, k3, i3, c2, a2, k2, i2, c22, a22, k22, i22, bq3, bq2]
          | ok z =>
            obtain ⟨x, r5⟩ := z
            rw [e5, ansX_ok] at h5
            rw [th_ok]
            have hcx := xcells x
            have hlx := xlen x
            have htx := xtake x
            have hex := xemb x
            rw [ansX_ok]
            have hf := fin_X H0 T a l p d (r5) (oneX 18 x)
            have ho := fun S => ev_one1 (n + 5) 18 x S
            have hcz := xcells (oneX 18 x)
            have hlz := xlen (oneX 18 x)
            have htz := xtake (oneX 18 x)
            have hez := xemb (oneX 18 x)
            generalize (oneX 18 x).cells = zc at *
            generalize (oneX 18 x).emb = ze at *
            generalize PSt H0 T a l (r5) d = L0 at *
            generalize PSt H0 T a l (p + 1) d = L1 at *
            generalize PSt H0 T a l (p) d = L2 at *
            generalize x.cells = xc at *
            generalize x.emb = xe at *
            simp (disch := first | (simp only [List.length_append, List.length_cons, List.length_nil]; omega) | (simp; done) | assumption) [AV.cells?, AV.isCell, -AV.cells?, cq_int, cq_str, cq_slice, cq_bool, -evBuild, -evBuildSlice, Tryz.f132, E_esc, i1, i2, i3, i4, h5, hcx, hlx, htx, hex, ho, hcz, hlz, htz, hez, hf, z24, c24, a24, k24, i24, tq46_0, tq46_1, tq46_2, tc46, ta46, tk46, ti46, tz46, fq0, fq3, fq4, fq5, c3, a3, k3, i3, c2, a2, k2, i2, c22, a22, k22, i22, bq3, bq2]
        · rw [if_neg b4]
          simp only [Bool.not_eq_true] at b4
          rw [b4] at i4
          simp only [Bool.false_eq_true, if_false] at i4
          have i6 : ev Tryz.prog E (n + 6) 52 [.ptr a 0, .str [115]] (PSt H0 T a l (p) d) = _ := ev_is ha T l hl (n + 4) (p) d _ _
          by_cases b6 : isB (hereT l) (p) [115] = true
          · rw [if_pos b6]
            have ilt := is_lt b6
            have ib := b6
            rw [b6] at i6
            simp only [if_true] at i6
            have h7 := ev77 ha T l hl (n + 1) (p + 1) d 5
            cases e7 : attrP (hereT l) 5 (p + 1) with
            | error z =>
              obtain ⟨c', w⟩ := z
              rw [e7, ansX_err] at h7
              rw [ansX_err]
              have hf := fin_stop H0 T a l p d w c' w
              generalize PSt H0 T a l (w) d = L0 at *
              generalize PSt H0 T a l (p + 1) d = L1 at *
              generalize PSt H0 T a l (p) d = L2 at *
              generalize stopV (hereT l) c' w = sv at *
              simp (disch := first | (simp only [List.length_append, List.length_cons, List.length_nil]; omega) | (simp; done) | assumption) [AV.cells?, AV.isCell, -AV.cells?, cq_int, cq_str, cq_slice, cq_bool, -evBuild, -evBuildSlice, Tryz.f132, E_esc, i1, i2, i3, i4, i6, h7, finPan, hf, z24, c24, a24, k24, i24, tq46_0, tq46_1, tq46_2, tc46, ta46, tk46, ti46, tz46, fq0, fq3, fq4, fq5, c3, a3, k3, i3, c2, a2, k2, i2, c22, a22, k22, i22, bq3, bq2]
            | ok z =>
              obtain ⟨x, r7⟩ := z
              rw [e7, ansX_ok] at h7
              have hcx := xcells x
              have hlx := xlen x
              have htx := xtake x
              have hex := xemb x
              rw [ansX_ok]
              have hf := fin_X H0 T a l p d (r7) (x)
              generalize PSt H0 T a l (r7) d = L0 at *
              generalize PSt H0 T a l (p + 1) d = L1 at *
              generalize PSt H0 T a l (p) d = L2 at *
              generalize x.cells = xc at *
              generalize x.emb = xe at *
              simp (disch := first | (simp only [List.length_append, List.length_cons, List.length_nil]; omega) | (simp; done) | assumption) [AV.cells?, AV.isCell, -AV.cells?, cq_int, cq_str, cq_slice, cq_bool, -evBuild, -evBuildSlice, Tryz.f132, E_esc, i1, i2, i3, i4, i6, h7, hcx, hlx, htx, hex, hf, z24, c24, a24, k24, i24, tq46_0, tq46_1, tq46_2, tc46, ta46, tk46, ti46, tz46, fq0, fq3, fq4, fq5, c3, a3, k3, i3, c2, a2, k2, i2, c22, a22, k22, i22, bq3, bq2]
          · rw [if_neg b6]
            simp only [Bool.not_eq_true] at b6
            rw [b6] at i6
            simp only [Bool.false_eq_true, if_false] at i6
            have i8 : ev Tryz.prog E (n + 6) 52 [.ptr a 0, .str [111]] (PSt H0 T a l (p) d) = _ := ev_is ha T l hl (n + 4) (p) d _ _
            by_cases b8 : isB (hereT l) (p) [111] = true
            · rw [if_pos b8]
              have ilt := is_lt b8
              have ib := b8
              rw [b8] at i8
              simp only [if_true] at i8
              have h9 := ev77 ha T l hl (n + 1) (p + 1) d 6
              cases e9 : attrP (hereT l) 6 (p + 1) with
              | error z =>
                obtain ⟨c', w⟩ := z
                rw [e9, ansX_err] at h9
                rw [ansX_err]
                have hf := fin_stop H0 T a l p d w c' w
                generalize PSt H0 T a l (w) d = L0 at *
                generalize PSt H0 T a l (p + 1) d = L1 at *
                generalize PSt H0 T a l (p) d = L2 at *
                generalize stopV (hereT l) c' w = sv at *
                simp (disch := first | (simp only [List.length_append, List.length_cons, List.length_nil]; omega) | (simp; done) | assumption) [AV.cells?, AV.isCell, -AV.cells?, cq_int, cq_str, cq_slice, cq_bool, -evBuild, -evBuildSlice, Tryz.f132, E_esc, i1, i2, i3, i4, i6, i8, h9, finPan, hf, z24, c24, a24, k24, i24, tq46_0, tq46_1, tq46_2, tc46, ta46, tk46, ti46, tz46, fq0, fq3, fq4, fq5, c3, a3, k3, i3, c2, a2, k2, i2, c22, a22, k22, i22, bq3, bq2]
              | ok z =>
                obtain ⟨x, r9⟩ := z
                rw [e9, ansX_ok] at h9
                have hcx := xcells x
                have hlx := xlen x
                have htx := xtake x
                have hex := xemb x
                rw [ansX_ok]
                have hf := fin_X H0 T a l p d (r9) (x)
                generalize PSt H0 T a l (r9) d = L0 at *
                generalize PSt H0 T a l (p + 1) d = L1 at *
                generalize PSt H0 T a l (p) d = L2 at *
                generalize x.cells = xc at *
                generalize x.emb = xe at *
                simp (disch := first | (simp only [List.length_append, List.length_cons, List.length_nil]; omega) | (simp; done) | assumption) [AV.cells?, AV.isCell, -AV.cells?, cq_int, cq_str, cq_slice, cq_bool, -evBuild, -evBuildSlice, Tryz.f132, E_esc, i1, i2, i3, i4, i6, i8, h9, hcx, hlx, htx, hex, hf, z24, c24, a24, k24, i24, tq46_0, tq46_1, tq46_2, tc46, ta46, tk46, ti46, tz46, fq0, fq3, fq4, fq5, c3, a3, k3, i3, c2, a2, k2, i2, c22, a22, k22, i22, bq3, bq2]
            · rw [if_neg b8]
              simp only [Bool.not_eq_true] at b8
              rw [b8] at i8
              simp only [Bool.false_eq_true, if_false] at i8
              have i10 : ev Tryz.prog E (n + 6) 52 [.ptr a 0, .str [97, 99, 116]] (PSt H0 T a l (p) d) = _ := ev_is ha T l hl (n + 4) (p) d _ _
              by_cases b10 : isB (hereT l) (p) [97, 99, 116] = true
              · rw [if_pos b10]
                have ilt := is_lt b10
                have ib := b10
                rw [b10] at i10
                simp only [if_true] at i10
                have hps : E.ps 132 15 = [(4, 8), (14, 14)] := rfl
                have hg := PSt_get ha T l (p + 1) d
                have hw : IntKind.i64.wrap (((p + 1 : Nat) : Int) - 1) = (p : Int) := by rw [wrap64 _ (by omega)]; omega
                have hx : l[p]? = some (hereT l p) := by
                  have e : l[p]? = some l[p] := List.getElem?_eq_getElem ilt
                  simp [hereT, e]
                have hia := ia l .non p _ hx
                have hcs : (hereT l p).cells = [.int .i64 (hereT l p).k, .str (hereT l p).s, .int .i64 (hereT l p).n, .int .i64 (hereT l p).p] := rfl
                have hss : (hereT l p).s = [97, 99, 116] := by
                  simp only [isB, Bool.and_eq_true, beq_iff_eq] at ib
                  exact ib.2
                rw [hcs, hss] at hia
                generalize tkL l = es at *
                clear ib
                generalize (hereT l p).k = zk at *
                generalize (hereT l p).n = zn at *
                generalize (hereT l p).p = zp at *
                generalize hP1 : p + 1 = P1 at *
                have h11 := ev78a ha T l hl (n + 1) (P1) d
                cases e11 : actP (hereT l) (P1) with
                | error z =>
                  obtain ⟨c', w⟩ := z
                  rw [e11, ansX_err] at h11
                  rw [ansX_err]
                  have hf := fin_stop H0 T a l p d w c' w
                  generalize PSt H0 T a l (w) d = L0 at *
                  generalize PSt H0 T a l (P1) d = L1 at *
                  generalize PSt H0 T a l (p) d = L2 at *
                  generalize stopV (hereT l) c' w = sv at *
                  simp (disch := first | (simp only [List.length_append, List.length_cons, List.length_nil]; omega) | (simp; done) | assumption) [AV.cells?, AV.isCell, -AV.cells?, cq_int, cq_str, cq_slice, cq_bool, -evBuild, -evBuildSlice, Tryz.f132, E_esc, i1, i2, i3, i4, i6, i8, i10, hps, hg, hw, hia, -evIndexAddr, tq66_0, tq66_1, tk66, tk39, tc39, ta39, k9, a9, c9, bq9, h11, finPan, hf, z24, c24, a24, k24, i24, tq46_0, tq46_1, tq46_2, tc46, ta46, tk46, ti46, tz46, fq0, fq3, fq4, fq5, c3, a3, k3, i3, c2, a2, k2, i2, c22, a22, k22, i22, bq3, bq2]
                | ok z =>
                  obtain ⟨x, r11⟩ := z
                  rw [e11, ansX_ok] at h11
                  have hcx := xcells x
                  have hlx := xlen x
                  have htx := xtake x
                  have hex := xemb x
                  rw [ansX_ok]
                  have hf := fin_X H0 T a l p d (r11) (x)
                  generalize PSt H0 T a l (r11) d = L0 at *
                  generalize PSt H0 T a l (P1) d = L1 at *
                  generalize PSt H0 T a l (p) d = L2 at *
                  generalize x.cells = xc at *
                  generalize x.emb = xe at *
                  simp (disch := first | (simp only [List.length_append, List.length_cons, List.length_nil]; omega) | (simp; done) | assumption) [AV.cells?, AV.isCell, -AV.cells?, cq_int, cq_str, cq_slice, cq_bool, -evBuild, -evBuildSlice, Tryz.f132, E_esc, i1, i2, i3, i4, i6, i8, i10, hps, hg, hw, hia, -evIndexAddr, tq66_0, tq66_1, tk66, tk39, tc39, ta39, k9, a9, c9, bq9, h11, hcx, hlx, htx, hex, hf, z24, c24, a24, k24, i24, tq46_0, tq46_1, tq46_2, tc46, ta46, tk46, ti46, tz46, fq0, fq3, fq4, fq5, c3, a3, k3, i3, c2, a2, k2, i2, c22, a22, k22, i22, bq3, bq2]
              · rw [if_neg b10]
                simp only [Bool.not_eq_true] at b10
                rw [b10] at i10
                simp only [Bool.false_eq_true, if_false] at i10
                have i12 : ev Tryz.prog E (n + 6) 52 [.ptr a 0, .str [116, 105, 109, 101, 115]] (PSt H0 T a l (p) d) = _ := ev_is ha T l hl (n + 4) (p) d _ _
                by_cases b12 : isB (hereT l) (p) [116, 105, 109, 101, 115] = true
                · rw [if_pos b12]
                  have ilt := is_lt b12
                  have ib := b12
                  rw [b12] at i12
                  simp only [if_true] at i12
                  have hps : E.ps 132 15 = [(4, 8), (14, 14)] := rfl
                  have hg := PSt_get ha T l (p + 1) d
                  have hw : IntKind.i64.wrap (((p + 1 : Nat) : Int) - 1) = (p : Int) := by rw [wrap64 _ (by omega)]; omega
                  have hx : l[p]? = some (hereT l p) := by
                    have e : l[p]? = some l[p] := List.getElem?_eq_getElem ilt
                    simp [hereT, e]
                  have hia := ia l .non p _ hx
                  have hcs : (hereT l p).cells = [.int .i64 (hereT l p).k, .str (hereT l p).s, .int .i64 (hereT l p).n, .int .i64 (hereT l p).p] := rfl
                  have hss : (hereT l p).s = [116, 105, 109, 101, 115] := by
                    simp only [isB, Bool.and_eq_true, beq_iff_eq] at ib
                    exact ib.2
                  rw [hcs, hss] at hia
                  generalize tkL l = es at *
                  clear ib
                  generalize (hereT l p).k = zk at *
                  generalize (hereT l p).n = zn at *
                  generalize (hereT l p).p = zp at *
                  generalize hP1 : p + 1 = P1 at *
                  have h13 := ev78b ha T l hl (n + 1) (P1) d
                  cases e13 : timesP (hereT l) (P1) with
                  | error z =>
                    obtain ⟨c', w⟩ := z
                    rw [e13, ansX_err] at h13
                    rw [ansX_err]
                    have hf := fin_stop H0 T a l p d w c' w
                    generalize PSt H0 T a l (w) d = L0 at *
                    generalize PSt H0 T a l (P1) d = L1 at *
                    generalize PSt H0 T a l (p) d = L2 at *
                    generalize stopV (hereT l) c' w = sv at *
                    simp (disch := first | (simp only [List.length_append, List.length_cons, List.length_nil]; omega) | (simp; done) | assumption) [AV.cells?, AV.isCell, -AV.cells?, cq_int, cq_str, cq_slice, cq_bool, -evBuild, -evBuildSlice, Tryz.f132, E_esc, i1, i2, i3, i4, i6, i8, i10, i12, hps, hg, hw, hia, -evIndexAddr, tq66_0, tq66_1, tk66, tk39, tc39, ta39, k9, a9, c9, bq9, h13, finPan, hf, z24, c24, a24, k24, i24, tq46_0, tq46_1, tq46_2, tc46, ta46, tk46, ti46, tz46, fq0, fq3, fq4, fq5, c3, a3, k3, i3, c2, a2, k2, i2, c22, a22, k22, i22, bq3, bq2]
                  | ok z =>
                    obtain ⟨x, r13⟩ := z
                    rw [e13, ansX_ok] at h13
                    have hcx := xcells x
                    have hlx := xlen x
                    have htx := xtake x
                    have hex := xemb x
                    rw [ansX_ok]
                    have hf := fin_X H0 T a l p d (r13) (x)
                    generalize PSt H0 T a l (r13) d = L0 at *
                    generalize PSt H0 T a l (P1) d = L1 at *
                    generalize PSt H0 T a l (p) d = L2 at *
                    generalize x.cells = xc at *
                    generalize x.emb = xe at *
                    simp (disch := first | (simp only [List.length_append, List.length_cons, List.length_nil]; omega) | (simp; done) | assumption) [AV.cells?, AV.isCell, -AV.cells?, cq_int, cq_str, cq_slice, cq_bool, -evBuild, -evBuildSlice, Tryz.f132, E_esc, i1, i2, i3, i4, i6, i8, i10, i12, hps, hg, hw, hia, -evIndexAddr, tq66_0, tq66_1, tk66, tk39, tc39, ta39, k9, a9, c9, bq9, h13, hcx, hlx, htx, hex, hf, z24, c24, a24, k24, i24, tq46_0, tq46_1, tq46_2, tc46, ta46, tk46, ti46, tz46, fq0, fq3, fq4, fq5, c3, a3, k3, i3, c2, a2, k2, i2, c22, a22, k22, i22, bq3, bq2]
                · rw [if_neg b12]
                  simp only [Bool.not_eq_true] at b12
                  rw [b12] at i12
                  simp only [Bool.false_eq_true, if_false] at i12
                  have i14 : ev Tryz.prog E (n + 6) 52 [.ptr a 0, .str [108, 101, 110]] (PSt H0 T a l (p) d) = _ := ev_is ha T l hl (n + 4) (p) d _ _
                  by_cases b14 : isB (hereT l) (p) [108, 101, 110] = true
                  · rw [if_pos b14]
                    have ilt := is_lt b14
                    have ib := b14
                    rw [b14] at i14
                    simp only [if_true] at i14
                    have h15 := hA (p + 1)
                    cases e15 : argP (hereT l) any (p + 1) with
                    | error z =>
                      obtain ⟨c', w⟩ := z
                      rw [e15, ansX_err] at h15
                      rw [th_err, ansX_err]
                      have hf := fin_stop H0 T a l p d w c' w
                      generalize PSt H0 T a l (w) d = L0 at *
                      generalize PSt H0 T a l (p + 1) d = L1 at *
                      generalize PSt H0 T a l (p) d = L2 at *
                      generalize stopV (hereT l) c' w = sv at *
                      simp (disch := first | (simp only [List.length_append, List.length_cons, List.length_nil]; omega) | (simp; done) | assumption) [AV.cells?, AV.isCell, -AV.cells?, cq_int, cq_str, cq_slice, cq_bool, -evBuild, -evBuildSlice, Tryz.f132, E_esc, i1, i2, i3, i4, i6, i8, i10, i12, i14, h15, finPan, hf, z24, c24, a24, k24, i24, tq46_0, tq46_1, tq46_2, tc46, ta46, tk46, ti46, tz46, fq0, fq3, fq4, fq5, c3, a3, k3, i3, c2, a2, k2, i2, c22, a22, k22, i22, bq3, bq2]
                    | ok z =>
                      obtain ⟨x, r15⟩ := z
                      rw [e15, ansX_ok] at h15
                      rw [th_ok]
                      have hcx := xcells x
                      have hlx := xlen x
                      have htx := xtake x
                      have hex := xemb x
                      rw [ansX_ok]
                      have hf := fin_X H0 T a l p d (r15) (oneX 12 x)
                      have ho := fun S => ev_one1 (n + 5) 12 x S
                      have hcz := xcells (oneX 12 x)
                      have hlz := xlen (oneX 12 x)
                      have htz := xtake (oneX 12 x)
                      have hez := xemb (oneX 12 x)
                      generalize (oneX 12 x).cells = zc at *
                      generalize (oneX 12 x).emb = ze at *
                      generalize PSt H0 T a l (r15) d = L0 at *
                      generalize PSt H0 T a l (p + 1) d = L1 at *
                      generalize PSt H0 T a l (p) d = L2 at *
                      generalize x.cells = xc at *
                      generalize x.emb = xe at *
                      simp (disch := first | (simp only [List.length_append, List.length_cons, List.length_nil]; omega) | (simp; done) | assumption) [AV.cells?, AV.isCell, -AV.cells?, cq_int, cq_str, cq_slice, cq_bool, -evBuild, -evBuildSlice, Tryz.f132, E_esc, i1, i2, i3, i4, i6, i8, i10, i12, i14, h15, hcx, hlx, htx, hex, ho, hcz, hlz, htz, hez, hf, z24, c24, a24, k24, i24, tq46_0, tq46_1, tq46_2, tc46, ta46, tk46, ti46, tz46, fq0, fq3, fq4, fq5, c3, a3, k3, i3, c2, a2, k2, i2, c22, a22, k22, i22, bq3, bq2]
                  · rw [if_neg b14]
                    simp only [Bool.not_eq_true] at b14
                    rw [b14] at i14
                    simp only [Bool.false_eq_true, if_false] at i14
                    have i16 : ev Tryz.prog E (n + 6) 52 [.ptr a 0, .str [112, 114, 101, 118]] (PSt H0 T a l (p) d) = _ := ev_is ha T l hl (n + 4) (p) d _ _
                    by_cases b16 : isB (hereT l) (p) [112, 114, 101, 118] = true
                    · rw [if_pos b16]
                      have ilt := is_lt b16
                      have ib := b16
                      rw [b16] at i16
                      simp only [if_true] at i16
                      have h17 := hA (p + 1)
                      cases e17 : argP (hereT l) any (p + 1) with
                      | error z =>
                        obtain ⟨c', w⟩ := z
                        rw [e17, ansX_err] at h17
                        rw [th_err, ansX_err]
                        have hf := fin_stop H0 T a l p d w c' w
                        generalize PSt H0 T a l (w) d = L0 at *
                        generalize PSt H0 T a l (p + 1) d = L1 at *
                        generalize PSt H0 T a l (p) d = L2 at *
                        generalize stopV (hereT l) c' w = sv at *
                        simp (disch := first | (simp only [List.length_append, List.length_cons, List.length_nil]; omega) | (simp; done) | assumption) [AV.cells?, AV.isCell, -AV.cells?, cq_int, cq_str, cq_slice, cq_bool, -evBuild, -evBuildSlice, Tryz.f132, E_esc, i1, i2, i3, i4, i6, i8, i10, i12, i14, i16, h17, finPan, hf, z24, c24, a24, k24, i24, tq46_0, tq46_1, tq46_2, tc46, ta46, tk46, ti46, tz46, fq0, fq3, fq4, fq5, c3, a3, k3, i3, c2, a2, k2, i2, c22, a22, k22, i22, bq3, bq2]
                      | ok z =>
                        obtain ⟨x, r17⟩ := z
                        rw [e17, ansX_ok] at h17
                        rw [th_ok]
                        have hcx := xcells x
                        have hlx := xlen x
                        have htx := xtake x
                        have hex := xemb x
                        rw [ansX_ok]
                        have hf := fin_X H0 T a l p d (r17) (oneX 25 x)
                        have ho := fun S => ev_one1 (n + 5) 25 x S
                        have hcz := xcells (oneX 25 x)
                        have hlz := xlen (oneX 25 x)
                        have htz := xtake (oneX 25 x)
                        have hez := xemb (oneX 25 x)
                        generalize (oneX 25 x).cells = zc at *
                        generalize (oneX 25 x).emb = ze at *
                        generalize PSt H0 T a l (r17) d = L0 at *
                        generalize PSt H0 T a l (p + 1) d = L1 at *
                        generalize PSt H0 T a l (p) d = L2 at *
                        generalize x.cells = xc at *
                        generalize x.emb = xe at *
                        simp (disch := first | (simp only [List.length_append, List.length_cons, List.length_nil]; omega) | (simp; done) | assumption) [AV.cells?, AV.isCell, -AV.cells?, cq_int, cq_str, cq_slice, cq_bool, -evBuild, -evBuildSlice, Tryz.f132, E_esc, i1, i2, i3, i4, i6, i8, i10, i12, i14, i16, h17, hcx, hlx, htx, hex, ho, hcz, hlz, htz, hez, hf, z24, c24, a24, k24, i24, tq46_0, tq46_1, tq46_2, tc46, ta46, tk46, ti46, tz46, fq0, fq3, fq4, fq5, c3, a3, k3, i3, c2, a2, k2, i2, c22, a22, k22, i22, bq3, bq2]
                    · rw [if_neg b16]
                      simp only [Bool.not_eq_true] at b16
                      rw [b16] at i16
                      simp only [Bool.false_eq_true, if_false] at i16
                      have h18 := hT (p)
                      cases e18 : timedP (hereT l) any (p) with
                      | error z =>
                        obtain ⟨c', w⟩ := z
                        rw [e18, ansX_err] at h18
                        rw [ansX_err]
                        have hf := fin_stop H0 T a l p d w c' w
                        generalize PSt H0 T a l (w) d = L0 at *
                        generalize PSt H0 T a l (p) d = L1 at *
                        generalize stopV (hereT l) c' w = sv at *
                        simp (disch := first | (simp only [List.length_append, List.length_cons, List.length_nil]; omega) | (simp; done) | assumption) [AV.cells?, AV.isCell, -AV.cells?, cq_int, cq_str, cq_slice, cq_bool, -evBuild, -evBuildSlice, Tryz.f132, E_esc, i1, i2, i3, i4, i6, i8, i10, i12, i14, i16, h18, finPan, hf, z24, c24, a24, k24, i24, tq46_0, tq46_1, tq46_2, tc46, ta46, tk46, ti46, tz46, fq0, fq3, fq4, fq5, c3, a3, k3, i3, c2, a2, k2, i2, c22, a22, k22, i22, bq3, bq2]
                      | ok z =>
                        obtain ⟨x, r18⟩ := z
                        rw [e18, ansX_ok] at h18
                        have hcx := xcells x
                        have hlx := xlen x
                        have htx := xtake x
                        have hex := xemb x
                        rw [ansX_ok]
                        have hf := fin_X H0 T a l p d (r18) (x)
                        generalize PSt H0 T a l (r18) d = L0 at *
                        generalize PSt H0 T a l (p) d = L1 at *
                        generalize x.cells = xc at *
                        generalize x.emb = xe at *
                        simp (disch := first | (simp only [List.length_append, List.length_cons, List.length_nil]; omega) | (simp; done) | assumption) [AV.cells?, AV.isCell, -AV.cells?, cq_int, cq_str, cq_slice, cq_bool, -evBuild, -evBuildSlice, Tryz.f132, E_esc, i1, i2, i3, i4, i6, i8, i10, i12, i14, i16, h18, hcx, hlx, htx, hex, hf, z24, c24, a24, k24, i24, tq46_0, tq46_1, tq46_2, tc46, ta46, tk46, ti46, tz46, fq0, fq3, fq4, fq5, c3, a3, k3, i3, c2, a2, k2, i2, c22, a22, k22, i22, bq3, bq2]
end
end Go.Proofs.YtemggoaefohliaaGreatDoor.PS
/- The parser: set, evaluated. Condition: the world outside is closed. -/
namespace Go.Proofs.YtemggoaefohliaaGreatDoor.PS
set_option linter.unusedVariables false
set_option linter.unusedSimpArgs false
open Go AE EX PT NF LX
set_option maxRecDepth 100000

theorem fin_drop {S S' : St} {v : AV} (hv : v.sealed = true) (hlen : S.H.length ≤ S'.H.length) (hT : S'.T.take S.T.length = S.T) (hlow : lowB S.H.length S.T.length (S'.H.take S.H.length) = true) (hvl : (v.strip S.T.length).low S.H.length S.T.length = true) :
    finish S v S' = some (v.strip S.T.length, ⟨S'.H.take S.H.length, S.T⟩) := by
  unfold finish
  rw [if_pos hv]
  by_cases h1 : boxEqL (S'.H.take S.H.length) S.H = true
  · have e := boxEqL_spec _ _ h1
    rw [if_pos (by simp [h1, hT, hvl]), e]
  · rw [if_neg (by simp [h1]), if_pos (by simp [hlen, hT, hvl, hlow])]
theorem lowB_set {h0 t0 : Nat} {b : HBox} (hb : AV.lowL h0 t0 b.cs = true) : ∀ {H : List HBox} {a : Nat}, lowB h0 t0 H = true → lowB h0 t0 (H.set a b) = true
  | [], a, h => h
  | x :: H, 0, h => by
    simp only [lowB, Bool.and_eq_true] at h
    simp [lowB, hb, h.2]
  | x :: H, a + 1, h => by
    simp only [lowB, Bool.and_eq_true] at h
    simp [lowB, h.1, lowB_set hb h.2]
theorem box_low (h0 t0 : Nat) (l : List Tk) (p d : Nat) : AV.lowL h0 t0 (box l p d).cs = true := by simp [box, AV.lowL, AV.low, low_tkL]
def kT (ks : List X) : List Nat := if ks = [] then [] else [6 * ks.length]
def kS (T : List Nat) (ks : List X) : AV := if ks = [] then .slice (embL ks) .clip else .slice (embL ks) (.own T.length (6 * ks.length))
theorem embL_len (ks : List X) : (embL ks).length = ks.length := by rw [embL_map]; simp
theorem embL_app (ks : List X) (x : X) : embL (ks ++ [x]) = embL ks ++ [x.emb] := by simp [embL_map]
theorem kS_cells (T : List Nat) (ks : List X) : (kS T ks).cells? = some [kS T ks] := by unfold kS; split <;> rfl
theorem kS_isCell (T : List Nat) (ks : List X) : (kS T ks).isCell = true := by unfold kS; split <;> rfl
theorem kS_sealed (T : List Nat) (ks : List X) : (kS T ks).sealed = true := by unfold kS; split <;> simp [AV.sealed, sealed_embL]
theorem kS_strip (T : List Nat) (ks : List X) (h : ks ≠ []) : (kS T ks).strip T.length = .slice (embL ks) .non := by simp [kS, h, AV.strip, strip_embL]
theorem kS_len (T : List Nat) (ks : List X) : evLen Tryz.prog 23 (kS T ks) = some (.int .i64 (ks.length : Int)) := by unfold kS; split <;> simp [evLen, embL_len, sq22]
theorem sizes_embL : ∀ ks : List X, sizesOk 6 (embL ks) = true
  | [] => rfl
  | x :: ks => by
    have := sizes_embL ks
    have hc := xcells x
    have hl := xlen x
    simp [embL, sizesOk, hc, hl, this]
theorem kS_ia (T : List Nat) (ks : List X) (i : Nat) (x : X) (h : ks[i]? = some x) : evIndexAddr Tryz.prog 23 (kS T ks) (.int .i64 (i : Int)) = some (.ref x.cells) := by
  have hc := xcells x
  have hl := xlen x
  have hi : (Tryz.prog.info? 25).isSome = true := i24
  have hg : (embL ks)[i]? = some x.emb := by rw [embL_map]; simp [h]
  unfold kS
  split <;> (simp [evIndexAddr, sq22, nth, hg, hc, c24, hl]; exact Option.isSome_iff_ne_none.1 hi)
theorem kS_app (H1 : List HBox) (T : List Nat) (ks : List X) (x : X) (h : ks.length ≤ 8) : evAppend Tryz.prog [23, 23] (kS T ks) (.slice (embL [x]) .clip) ⟨H1, T ++ kT ks⟩ = some (kS T (ks ++ [x]), ⟨H1, T ++ kT (ks ++ [x])⟩) := by
  have hs := sizes_embL ks
  have hx := sizes_embL [x]
  have hl := embL_len ks
  have he := embL_app ks x
  have hne : ks ++ [x] ≠ [] := by simp
  have hb : Tryz.prog.bytesOf 25 = 72 := by kernel_rfl
  have hs1 : embL [x] = [x.emb] := rfl
  rw [hs1] at hx ⊢
  have hcx := xcells x
  have hlx := xlen x
  simp only [evAppend, sq22, u22, elemsOf, z24, c24, hb, kS, kT, if_neg hne, he]
  by_cases h0 : ks = []
  · subst h0
    have he0 : embL ([] : List X) = [] := rfl
    simp [he0, hx, sizesOk, hcx, hlx]
  · simp only [if_neg h0]
    simp [hs, hx, hl]
    omega

/-! ### the loop -/
noncomputable def lp74 : Code := cutC (bodyOf Tryz.f133) [1, 1, 1, 0, 0]
noncomputable def s074 : Code := cutC (bodyOf Tryz.f133) [0]
noncomputable def s174 : Code := cutC (bodyOf Tryz.f133) [1, 0]
noncomputable def s274 : Code := cutC (bodyOf Tryz.f133) [1, 1, 0]
theorem fb74 : Tryz.f133.body = some (.seq s074 (.seq s174 (.seq s274 (.block 0 (.loop lp74))))) := rfl
def ksC (T : List Nat) (ks : List X) : List AV := [.int .i64 4, .str [], .int .i64 0, .int .i64 0, .int .i64 0, kS T ks]
def SEI (H0 : List HBox) (T : List Nat) (a : Nat) (l : List Tk) (d n : Nat) (R : PR X) (m : Nat) (fs : FS) : Prop :=
  ∃ ks r f, m = l.length - r ∧ ks.length ≤ 8 ∧ fs.t 0 = .ptr a 0 ∧ fs.t 2 = .loc n 2 1 0 ∧ fs.t 3 = .loc n 3 3 0 ∧ fs.b 2 = (1, z6) ∧ fs.b 3 = (3, ksC T ks) ∧ fs.S = PSt H0 (T ++ kT ks) a l r d ∧ m < f ∧ setF (hereT l) f ks r = R
def SEQ (H0 : List HBox) (T : List Nat) (a : Nat) (l : List Tk) (d n : Nat) (R : PR X) (r : Out × FS) : Prop :=
  (r.1 = .ret ∧ ∃ ks q, ks ≠ [] ∧ r.2.t 2 = .loc n 2 1 0 ∧ r.2.b 2 = (1, ksC T ks) ∧ r.2.S = PSt H0 (T ++ kT ks) a l q d ∧ R = .ok (setX ks, q)) ∨
  (∃ c q ks, r.1 = .pan (stopV (hereT l) c q) ∧ r.2.S = PSt H0 (T ++ kT ks) a l q d ∧ R = .error (c, q))
theorem lastS_name (ks : List X) (i : Nat) (hi : ks.length = i + 1) : ∃ k s n lo hi tk kk, ks[i]? = some (X.mk k s n lo hi tk kk) ∧ lastS ks = s := by
  have hlt : i < ks.length := by omega
  have hg : ks[i]? = some ks[i] := List.getElem?_eq_getElem hlt
  have hl : ks.getLast? = some ks[i] := by rw [List.getLast?_eq_getElem?, show ks.length - 1 = i by omega]; exact hg
  rcases hk : ks[i] with ⟨k, s, n, lo, hi', tk, kk⟩
  rw [hk] at hg hl
  exact ⟨k, s, n, lo, hi', tk, kk, hg, by simp [lastS, hl]⟩
end Go.Proofs.YtemggoaefohliaaGreatDoor.PS
/- The parser: set's rounds; set, evaluated (printed by gendp5.py). Condition: the world outside is closed. -/
namespace Go.Proofs.YtemggoaefohliaaGreatDoor.PS
set_option linter.unusedVariables false
set_option linter.unusedSimpArgs false
open Go AE EX PT NF LX
set_option maxRecDepth 100000
section
variable {H0 : List HBox} {a : Nat} (ha : a < H0.length) (T : List Nat) (l : List Tk) (hl : l.length ≤ 2000000)
include ha hl
set_option maxHeartbeats 8000000 in
theorem rd74 (n d : Nat) (R : PR X) (m : Nat) (fs : FS) (h : SEI H0 T a l d (n + 4) R m fs) :
    ∃ o fs', evCode ⟨Tryz.prog, E.esc 133, n + 4⟩ (ev Tryz.prog E (n + 4)) (E.ps 133) (n + 4) lp74 fs = some (o, fs') ∧ ((o = .norm ∧ ∃ m', m' < m ∧ SEI H0 T a l d (n + 4) R m' fs') ∨ (o ≠ .norm ∧ SEQ H0 T a l d (n + 4) R (o, fs'))) := by
  obtain ⟨t, b, c, S⟩ := fs
  obtain ⟨ks, r, f, hmr, hk8, h0, h2, h3, hb2, hb3, hS, hmf, hR⟩ := h
  simp only at h0 h2 h3 hb2 hb3 hS
  subst hS
  obtain ⟨f, rfl⟩ : ∃ g, f = g + 1 := ⟨f - 1, by omega⟩
  have hps : E.ps 133 6 = [(7, 9), (7, 14)] := rfl
  have htk : ev Tryz.prog E (n + 4) 140 [.ptr a 0, .int .i64 3] (PSt H0 (T ++ kT ks) a l r d) = _ := ev_take ha (T ++ kT ks) l hl (n + 1) r d 3 (by decide)
  simp only [ksC] at hb3
  have hcl := kS_cells T ks
  have hlen := kS_len T ks
  rw [setF] at hR
  cases e1 : takeP (hereT l) 3 r with
  | error z =>
    obtain ⟨c', w⟩ := z
    rw [e1, ansR_err] at htk
    rw [e1, th_err] at hR
    generalize hL2 : PSt H0 (T ++ kT ks) a l w d = L2 at *
    generalize hL1 : PSt H0 (T ++ kT ks) a l r d = L1 at *
    generalize hsv : stopV (hereT l) c' w = sv at *
    refine ⟨.pan sv, _, by
      simp (disch := first | (simp only [List.length_append, List.length_cons, List.length_nil]; omega) | (simp; done) | assumption) [AV.cells?, AV.isCell, -AV.cells?, -evLen, -evIndexAddr, cq_int, cq_str, cq_slice, cq_bool, -evBuild, -evBuildSlice, lp74, s074, s174, s274, cutC, bodyOf, Tryz.f133, E_esc, h0, h2, h3, hb2, hb3, htk, z24, c24, a24, k24, i24, tq46_0, tq46_1, tq46_2, tc46, ta46, tk46, ti46, tz46, fq0, fq3, fq4, fq5, c3, a3, k3, i3, c2, a2, k2, i2, c22, a22, k22, i22, bq3, bq2, fq1, k9, a9, c9, bq9]
      rfl, .inr ⟨by simp, .inr ⟨c', w, ks, by rw [hsv], hL2.symm, hR.symm⟩⟩⟩
  | ok z =>
    obtain ⟨u, r1⟩ := z
    have hlt : r < l.length ∧ r1 = r + 1 := by
      unfold takeP at e1
      split at e1
      · rename_i hk
        cases e1
        exact ⟨here_lt (by rw [hk]; decide), rfl⟩
      · cases e1
    obtain ⟨hlt, hr1⟩ := hlt
    rw [e1, ansR_ok] at htk
    rw [e1, th_ok] at hR
    obtain ⟨uk, us, un, up⟩ := u
    simp only [Tk.emb, Tk.cells] at htk
    simp only at hR
    have hfl := ev_fail ha (T ++ kT ks) l hl (n + 2) r1 d 16
    -- whether it may stand here
    have hbad : setBad ks us = true → ∃ fs', evCode ⟨Tryz.prog, E.esc 133, n + 4⟩ (ev Tryz.prog E (n + 4)) (E.ps 133) (n + 4) lp74 ⟨t, b, c, PSt H0 (T ++ kT ks) a l r d⟩ = some (.pan (stopV (hereT l) 16 r1), fs') ∧ fs'.S = PSt H0 (T ++ kT ks) a l r1 d := by
      intro hbad
      generalize hL2 : PSt H0 (T ++ kT ks) a l r1 d = L2 at *
      generalize hL1 : PSt H0 (T ++ kT ks) a l r d = L1 at *
      generalize hsv : stopV (hereT l) 16 r1 = sv at *
      unfold setBad at hbad
      rcases hkn : ks.length with _ | i
      · rw [hkn] at hbad
        simp at hbad
      · obtain ⟨k, s, n', lo, hi, tk, kk, hg, hls⟩ := lastS_name ks i hkn
        have hia := kS_ia T ks i _ hg
        rw [hkn] at hlen hbad
        rw [hls] at hbad
        simp only [X.cells] at hia
        have hw : IntKind.i64.wrap (((i + 1 : Nat) : Int) - 1) = (i : Int) := by rw [wrap64 _ (by omega)]; omega
        have hpos : (0 : Int) < ((i + 1 : Nat) : Int) := by omega
        generalize kS T ks = sl at *
        generalize embL kk = ekk at *
        by_cases h8 : i + 1 = 8
        · have hi7 : i = 7 := by omega
          subst hi7
          refine ⟨_, by
            simp (disch := first | (simp only [List.length_append, List.length_cons, List.length_nil]; omega) | (simp; done) | assumption) [AV.cells?, AV.isCell, -AV.cells?, -evLen, -evIndexAddr, cq_int, cq_str, cq_slice, cq_bool, -evBuild, -evBuildSlice, lp74, s074, s174, s274, cutC, bodyOf, Tryz.f133, E_esc, h0, h2, h3, hb2, hb3, htk, hlen, hps, hcl, hia, hw, hpos, hfl, z24, c24, a24, k24, i24, tq46_0, tq46_1, tq46_2, tc46, ta46, tk46, ti46, tz46, fq0, fq3, fq4, fq5, c3, a3, k3, i3, c2, a2, k2, i2, c22, a22, k22, i22, bq3, bq2, fq1, k9, a9, c9, bq9]
            rfl, rfl⟩
        · have h8z : ¬ ((i + 1 : Nat) : Int) = 8 := by omega
          have h8b : (i + 1 == 8) = false := by simp; omega
          have hdp : decide (0 < i + 1) = true := by simp
          rw [h8b, hdp] at hbad
          simp only [Bool.false_or, Bool.true_and] at hbad
          clear hkn h8b hdp
          generalize ((i + 1 : Nat) : Int) = I1 at *
          refine ⟨_, by
            simp (disch := first | (simp only [List.length_append, List.length_cons, List.length_nil]; omega) | (simp; done) | assumption) [AV.cells?, AV.isCell, -AV.cells?, -evLen, -evIndexAddr, cq_int, cq_str, cq_slice, cq_bool, -evBuild, -evBuildSlice, lp74, s074, s174, s274, cutC, bodyOf, Tryz.f133, E_esc, h0, h2, h3, hb2, hb3, htk, hlen, hps, hcl, hia, hw, hpos, h8z, hbad, hfl, z24, c24, a24, k24, i24, tq46_0, tq46_1, tq46_2, tc46, ta46, tk46, ti46, tz46, fq0, fq3, fq4, fq5, c3, a3, k3, i3, c2, a2, k2, i2, c22, a22, k22, i22, bq3, bq2, fq1, k9, a9, c9, bq9]
            rfl, rfl⟩
    cases hsb : setBad ks us
    · rw [hsb] at hR
      simp only [Bool.false_eq_true, if_false] at hR
      have hk7 : ks.length < 8 := by
        unfold setBad at hsb
        simp only [Bool.or_eq_false_iff, beq_eq_false_iff_ne, ne_eq] at hsb
        omega
      have hi : ev Tryz.prog E (n + 4) 52 [.ptr a 0, .str [125]] (PSt H0 (T ++ kT (ks ++ [leafX 3 us 0 0])) a l r1 d) = _ := ev_is ha (T ++ kT (ks ++ [leafX 3 us 0 0])) l hl (n + 2) r1 d _ _
      have hap : evAppend Tryz.prog [23, 23] (kS T ks) (.slice (embL [leafX 3 us 0 0]) .clip) (PSt H0 (T ++ kT ks) a l r1 d) = some (kS T (ks ++ [leafX 3 us 0 0]), PSt H0 (T ++ kT (ks ++ [leafX 3 us 0 0])) a l r1 d) := kS_app _ T ks _ hk8
      have hbl := bX1 3 us
      have hbs := bS1 (leafX 3 us 0 0)
      have hcl2 := kS_cells T (ks ++ [leafX 3 us 0 0])
      have hic2 := kS_isCell T (ks ++ [leafX 3 us 0 0])
      have hag : (AV.agg (ksC T (ks ++ [leafX 3 us 0 0]))).cells? = some (ksC T (ks ++ [leafX 3 us 0 0])) := cq_agg _ (by simp only [ksC, List.all_cons, List.all_nil, hic2]; rfl)
      simp only [ksC] at hag
      have hks2 : (ks ++ [leafX 3 us 0 0]).length ≤ 8 := by simp; omega
      have hne2 : ks ++ [leafX 3 us 0 0] ≠ [] := by simp
      have hnd : ev Tryz.prog E (n + 4) 134 [.ptr a 0, .str [44]] (PSt H0 (T ++ kT (ks ++ [leafX 3 us 0 0])) a l r1 d) = _ := ev_need ha (T ++ kT (ks ++ [leafX 3 us 0 0])) l hl n r1 d _ _
      generalize ks ++ [leafX 3 us 0 0] = ks2 at *
      generalize embL [leafX 3 us 0 0] = el at *
      generalize (leafX 3 us 0 0).emb = le at *
      have hC2 : ksC T ks2 = [.int .i64 4, .str [], .int .i64 0, .int .i64 0, .int .i64 0, kS T ks2] := rfl
      rcases hkn : ks.length with _ | i
      · have h00 : ks = [] := by simpa using hkn
        rw [hkn] at hlen
        cases hB : isB (hereT l) r1 [125]
        · rw [hB] at hi hR
          simp only [Bool.false_eq_true, if_false] at hi hR
          cases e2 : needP (hereT l) [44] r1 with
          | error z =>
            obtain ⟨c', w⟩ := z
            rw [e2, ansR_err] at hnd
            rw [e2, th_err] at hR
            generalize hL4 : PSt H0 (T ++ kT ks2) a l w d = L4 at *
            generalize hL3 : PSt H0 (T ++ kT ks2) a l r1 d = L3 at *
            generalize hL2 : PSt H0 (T ++ kT ks) a l r1 d = L2 at *
            generalize hL1 : PSt H0 (T ++ kT ks) a l r d = L1 at *
            generalize hsv : stopV (hereT l) c' w = sv at *
            generalize kS T ks = sl at *
            generalize kS T ks2 = sl2 at *
            refine ⟨.pan sv, _, by
              simp (disch := first | (simp only [List.length_append, List.length_cons, List.length_nil]; omega) | (simp; done) | assumption) [AV.cells?, AV.isCell, -AV.cells?, -evLen, -evIndexAddr, cq_int, cq_str, cq_slice, cq_bool, -evBuild, -evBuildSlice, lp74, s074, s174, s274, cutC, bodyOf, Tryz.f133, E_esc, h0, h2, h3, hb2, hb3, htk, hlen, hps, hcl, hbl, hbs, hap, hcl2, hag, i22, z6_len, hi, hnd, z24, c24, a24, k24, i24, tq46_0, tq46_1, tq46_2, tc46, ta46, tk46, ti46, tz46, fq0, fq3, fq4, fq5, c3, a3, k3, i3, c2, a2, k2, i2, c22, a22, k22, i22, bq3, bq2, fq1, k9, a9, c9, bq9]
              rfl, .inr ⟨by simp, .inr ⟨c', w, ks2, by rw [hsv], hL4.symm, hR.symm⟩⟩⟩
          | ok z =>
            obtain ⟨_u, w⟩ := z
            have hw2 := mono_need _ _ _ _ e2
            rw [e2, ansR_ok] at hnd
            rw [e2, th_ok] at hR
            generalize hL4 : PSt H0 (T ++ kT ks2) a l w d = L4 at *
            generalize hL3 : PSt H0 (T ++ kT ks2) a l r1 d = L3 at *
            generalize hL2 : PSt H0 (T ++ kT ks) a l r1 d = L2 at *
            generalize hL1 : PSt H0 (T ++ kT ks) a l r d = L1 at *
            generalize kS T ks = sl at *
            generalize hsl2 : kS T ks2 = sl2 at *
            refine ⟨.norm, _, by
              simp (disch := first | (simp only [List.length_append, List.length_cons, List.length_nil]; omega) | (simp; done) | assumption) [AV.cells?, AV.isCell, -AV.cells?, -evLen, -evIndexAddr, cq_int, cq_str, cq_slice, cq_bool, -evBuild, -evBuildSlice, lp74, s074, s174, s274, cutC, bodyOf, Tryz.f133, E_esc, h0, h2, h3, hb2, hb3, htk, hlen, hps, hcl, hbl, hbs, hap, hcl2, hag, i22, z6_len, hi, hnd, z24, c24, a24, k24, i24, tq46_0, tq46_1, tq46_2, tc46, ta46, tk46, ti46, tz46, fq0, fq3, fq4, fq5, c3, a3, k3, i3, c2, a2, k2, i2, c22, a22, k22, i22, bq3, bq2, fq1, k9, a9, c9, bq9]
              rfl, .inl ⟨rfl, l.length - w, by omega, ks2, w, f, rfl, hks2, by simp [upd, putA, h0], by simp [upd, putA, h2], by simp [upd, putA, h3], by simp [upd, hb2], by simp [upd, ksC, hsl2], hL4.symm, by omega, hR⟩⟩
        · rw [hB] at hi hR
          simp only [if_true] at hi hR
          generalize hL4 : PSt H0 (T ++ kT ks2) a l (r1 + 1) d = L4 at *
          generalize hL3 : PSt H0 (T ++ kT ks2) a l r1 d = L3 at *
          generalize hL2 : PSt H0 (T ++ kT ks) a l r1 d = L2 at *
          generalize hL1 : PSt H0 (T ++ kT ks) a l r d = L1 at *
          generalize kS T ks = sl at *
          generalize hsl2 : kS T ks2 = sl2 at *
          refine ⟨.ret, _, by
            simp (disch := first | (simp only [List.length_append, List.length_cons, List.length_nil]; omega) | (simp; done) | assumption) [AV.cells?, AV.isCell, -AV.cells?, -evLen, -evIndexAddr, cq_int, cq_str, cq_slice, cq_bool, -evBuild, -evBuildSlice, lp74, s074, s174, s274, cutC, bodyOf, Tryz.f133, E_esc, h0, h2, h3, hb2, hb3, htk, hlen, hps, hcl, hbl, hbs, hap, hcl2, hag, i22, z6_len, hi, z24, c24, a24, k24, i24, tq46_0, tq46_1, tq46_2, tc46, ta46, tk46, ti46, tz46, fq0, fq3, fq4, fq5, c3, a3, k3, i3, c2, a2, k2, i2, c22, a22, k22, i22, bq3, bq2, fq1, k9, a9, c9, bq9]
            rfl, .inr ⟨by simp, .inl ⟨rfl, ks2, r1 + 1, hne2, by simp [upd, putA, h2], by simp [upd, ksC, hsl2, hb2, z6], hL4.symm, hR.symm⟩⟩⟩
      · obtain ⟨k, s, n', lo, hi', tk, kk, hg, hls⟩ := lastS_name ks i hkn
        have hia := kS_ia T ks i _ hg
        unfold setBad at hsb
        rw [hkn] at hlen hsb
        rw [hls] at hsb
        simp only [X.cells] at hia
        have hw : IntKind.i64.wrap (((i + 1 : Nat) : Int) - 1) = (i : Int) := by rw [wrap64 _ (by omega)]; omega
        have hpos : (0 : Int) < ((i + 1 : Nat) : Int) := by omega
        have h8z : ¬ ((i + 1 : Nat) : Int) = 8 := by omega
        have h8b : (i + 1 == 8) = false := by simp; omega
        have hdp : decide (0 < i + 1) = true := by simp
        rw [h8b, hdp] at hsb
        simp only [Bool.false_or, Bool.true_and] at hsb
        clear h8b hdp
        generalize ((i + 1 : Nat) : Int) = I1 at *
        generalize embL kk = ekk at *
        cases hB : isB (hereT l) r1 [125]
        · rw [hB] at hi hR
          simp only [Bool.false_eq_true, if_false] at hi hR
          cases e2 : needP (hereT l) [44] r1 with
          | error z =>
            obtain ⟨c', w⟩ := z
            rw [e2, ansR_err] at hnd
            rw [e2, th_err] at hR
            generalize hL4 : PSt H0 (T ++ kT ks2) a l w d = L4 at *
            generalize hL3 : PSt H0 (T ++ kT ks2) a l r1 d = L3 at *
            generalize hL2 : PSt H0 (T ++ kT ks) a l r1 d = L2 at *
            generalize hL1 : PSt H0 (T ++ kT ks) a l r d = L1 at *
            generalize hsv : stopV (hereT l) c' w = sv at *
            generalize kS T ks = sl at *
            generalize kS T ks2 = sl2 at *
            refine ⟨.pan sv, _, by
              simp (disch := first | (simp only [List.length_append, List.length_cons, List.length_nil]; omega) | (simp; done) | assumption) [AV.cells?, AV.isCell, -AV.cells?, -evLen, -evIndexAddr, cq_int, cq_str, cq_slice, cq_bool, -evBuild, -evBuildSlice, lp74, s074, s174, s274, cutC, bodyOf, Tryz.f133, E_esc, h0, h2, h3, hb2, hb3, htk, hlen, hps, hcl, hbl, hbs, hap, hcl2, hag, i22, z6_len, hi, hnd, hia, hw, hpos, h8z, hsb, z24, c24, a24, k24, i24, tq46_0, tq46_1, tq46_2, tc46, ta46, tk46, ti46, tz46, fq0, fq3, fq4, fq5, c3, a3, k3, i3, c2, a2, k2, i2, c22, a22, k22, i22, bq3, bq2, fq1, k9, a9, c9, bq9]
              rfl, .inr ⟨by simp, .inr ⟨c', w, ks2, by rw [hsv], hL4.symm, hR.symm⟩⟩⟩
          | ok z =>
            obtain ⟨_u, w⟩ := z
            have hw2 := mono_need _ _ _ _ e2
            rw [e2, ansR_ok] at hnd
            rw [e2, th_ok] at hR
            generalize hL4 : PSt H0 (T ++ kT ks2) a l w d = L4 at *
            generalize hL3 : PSt H0 (T ++ kT ks2) a l r1 d = L3 at *
            generalize hL2 : PSt H0 (T ++ kT ks) a l r1 d = L2 at *
            generalize hL1 : PSt H0 (T ++ kT ks) a l r d = L1 at *
            generalize kS T ks = sl at *
            generalize hsl2 : kS T ks2 = sl2 at *
            refine ⟨.norm, _, by
              simp (disch := first | (simp only [List.length_append, List.length_cons, List.length_nil]; omega) | (simp; done) | assumption) [AV.cells?, AV.isCell, -AV.cells?, -evLen, -evIndexAddr, cq_int, cq_str, cq_slice, cq_bool, -evBuild, -evBuildSlice, lp74, s074, s174, s274, cutC, bodyOf, Tryz.f133, E_esc, h0, h2, h3, hb2, hb3, htk, hlen, hps, hcl, hbl, hbs, hap, hcl2, hag, i22, z6_len, hi, hnd, hia, hw, hpos, h8z, hsb, z24, c24, a24, k24, i24, tq46_0, tq46_1, tq46_2, tc46, ta46, tk46, ti46, tz46, fq0, fq3, fq4, fq5, c3, a3, k3, i3, c2, a2, k2, i2, c22, a22, k22, i22, bq3, bq2, fq1, k9, a9, c9, bq9]
              rfl, .inl ⟨rfl, l.length - w, by omega, ks2, w, f, rfl, hks2, by simp [upd, putA, h0], by simp [upd, putA, h2], by simp [upd, putA, h3], by simp [upd, hb2], by simp [upd, ksC, hsl2], hL4.symm, by omega, hR⟩⟩
        · rw [hB] at hi hR
          simp only [if_true] at hi hR
          generalize hL4 : PSt H0 (T ++ kT ks2) a l (r1 + 1) d = L4 at *
          generalize hL3 : PSt H0 (T ++ kT ks2) a l r1 d = L3 at *
          generalize hL2 : PSt H0 (T ++ kT ks) a l r1 d = L2 at *
          generalize hL1 : PSt H0 (T ++ kT ks) a l r d = L1 at *
          generalize kS T ks = sl at *
          generalize hsl2 : kS T ks2 = sl2 at *
          refine ⟨.ret, _, by
            simp (disch := first | (simp only [List.length_append, List.length_cons, List.length_nil]; omega) | (simp; done) | assumption) [AV.cells?, AV.isCell, -AV.cells?, -evLen, -evIndexAddr, cq_int, cq_str, cq_slice, cq_bool, -evBuild, -evBuildSlice, lp74, s074, s174, s274, cutC, bodyOf, Tryz.f133, E_esc, h0, h2, h3, hb2, hb3, htk, hlen, hps, hcl, hbl, hbs, hap, hcl2, hag, i22, z6_len, hi, hia, hw, hpos, h8z, hsb, z24, c24, a24, k24, i24, tq46_0, tq46_1, tq46_2, tc46, ta46, tk46, ti46, tz46, fq0, fq3, fq4, fq5, c3, a3, k3, i3, c2, a2, k2, i2, c22, a22, k22, i22, bq3, bq2, fq1, k9, a9, c9, bq9]
            rfl, .inr ⟨by simp, .inl ⟨rfl, ks2, r1 + 1, hne2, by simp [upd, putA, h2], by simp [upd, ksC, hsl2, hb2, z6], hL4.symm, hR.symm⟩⟩⟩
    · rw [hsb] at hR
      simp only [if_true] at hR
      obtain ⟨fs', g1, g2⟩ := hbad hsb
      exact ⟨_, fs', g1, .inr ⟨by simp, .inr ⟨16, r1, ks, rfl, g2, hR.symm⟩⟩⟩
end
end Go.Proofs.YtemggoaefohliaaGreatDoor.PS
/- The parser: set, evaluated (printed by gendp6.py). Condition: the world outside is closed. -/
namespace Go.Proofs.YtemggoaefohliaaGreatDoor.PS
set_option linter.unusedVariables false
set_option linter.unusedSimpArgs false
open Go AE EX PT NF LX
set_option maxRecDepth 100000
theorem PSt_take {H0 : List HBox} (T T' : List Nat) (a : Nat) (l : List Tk) (q d : Nat) : (PSt H0 T' a l q d).H.take H0.length = (PSt H0 T a l q d).H := by
  simp [PSt, List.take_of_length_le]
theorem fin_dropP {H0 : List HBox} (T : List Nat) (a : Nat) (l : List Tk) (p q d : Nat) (ex : List Nat) (v : AV) (hw : lowB H0.length T.length H0 = true) (hv : v.sealed = true) (hvl : (v.strip T.length).low H0.length T.length = true) :
    finish (PSt H0 T a l p d) v (PSt H0 (T ++ ex) a l q d) = some (v.strip T.length, PSt H0 T a l q d) := by
  have := fin_drop (S := PSt H0 T a l p d) (S' := PSt H0 (T ++ ex) a l q d) (v := v) hv (by simp [PSt]) (by simp [PSt]) (by
    have e : (PSt H0 T a l p d).H.length = H0.length := by simp [PSt]
    have et : (PSt H0 T a l p d).T.length = T.length := rfl
    rw [e, et, PSt_take T]
    exact lowB_set (box_low _ _ l q d) hw) (by simpa [PSt] using hvl)
  rw [this]
  have e : (PSt H0 T a l p d).H.length = H0.length := by simp [PSt]
  rw [e, PSt_take T]
  rfl
section
variable {H0 : List HBox} {a : Nat} (ha : a < H0.length) (T : List Nat) (l : List Tk) (hl : l.length ≤ 2000000)
include ha hl
set_option maxHeartbeats 4000000 in
theorem ev74 (n d : Nat) (hw : lowB H0.length T.length H0 = true) (F : Nat) (hF : l.length < F) (hn : l.length < n) : Sub H0 T a l d (n + 5) 133 (setP (hereT l) F) := by
  intro p
  rw [show n + 5 = (n + 4) + 1 from rfl, ev_enter (n := n + 4) (show E.ok 133 = true from rfl) Tryz.func133 fb74 (Nat.le_of_ble_eq_true rfl) (by decide +kernel)]
  unfold setP
  have hi : ev Tryz.prog E (n + 4) 52 [.ptr a 0, .str [125]] (PSt H0 T a l p d) = _ := ev_is ha T l hl (n + 2) p d _ _
  have hb : evBuild Tryz.prog 25 [(0, .int .i64 4)] = some (.agg [.int .i64 4, .str [], .int .i64 0, .int .i64 0, .int .i64 0, .slice [] .clip]) := bX0 4
  by_cases hB : isB (hereT l) p [125] = true
  · rw [if_pos hB]
    rw [hB] at hi
    simp only [if_true] at hi
    rw [ansX_ok]
    have hf := fin_X H0 T a l p d (p + 1) (leafX 4 [] 0 0)
    simp only [leaf_emb] at hf ⊢
    generalize PSt H0 T a l (p + 1) d = L2 at *
    generalize PSt H0 T a l p d = L1 at *
    simp (disch := first | (simp only [List.length_append, List.length_cons, List.length_nil]; omega) | (simp; done) | assumption) [AV.cells?, AV.isCell, -AV.cells?, -evLen, -evIndexAddr, cq_int, cq_str, cq_slice, cq_bool, -evBuild, -evBuildSlice, s074, s174, s274, cutC, bodyOf, Tryz.f133, E_esc, hi, hb, hf, z24, c24, a24, k24, i24, tq46_0, tq46_1, tq46_2, tc46, ta46, tk46, ti46, tz46, fq0, fq3, fq4, fq5, c3, a3, k3, i3, c2, a2, k2, i2, c22, a22, k22, i22, bq3, bq2, fq1, k9, a9, c9, bq9]
  · rw [if_neg hB]
    simp only [Bool.not_eq_true] at hB
    rw [hB] at hi
    simp only [Bool.false_eq_true, if_false] at hi
    obtain ⟨fs1, e1, p1⟩ : ∃ fs', evCode ⟨Tryz.prog, E.esc 133, n + 4⟩ (ev Tryz.prog E (n + 4)) (E.ps 133) (n + 4) (.seq (.seq s074 s174) s274) ⟨argsA [.ptr a 0], fun _ => (0, []), 0, PSt H0 T a l p d⟩ = some (.norm, fs') ∧ SEI H0 T a l d (n + 4) (setF (hereT l) F [] p) (l.length - p) fs' := by
      have hT : PSt H0 (T ++ kT []) a l p d = PSt H0 T a l p d := by simp [kT]
      generalize hL1 : PSt H0 T a l p d = L1 at *
      have hks : ksC T [] = [.int .i64 4, .str [], .int .i64 0, .int .i64 0, .int .i64 0, .slice [] .clip] := rfl
      refine ⟨_, by
        simp (disch := first | (simp only [List.length_append, List.length_cons, List.length_nil]; omega) | (simp; done) | assumption) [AV.cells?, AV.isCell, -AV.cells?, -evLen, -evIndexAddr, cq_int, cq_str, cq_slice, cq_bool, -evBuild, -evBuildSlice, s074, s174, s274, cutC, bodyOf, Tryz.f133, E_esc, hi, hb, z24, c24, a24, k24, i24, tq46_0, tq46_1, tq46_2, tc46, ta46, tk46, ti46, tz46, fq0, fq3, fq4, fq5, c3, a3, k3, i3, c2, a2, k2, i2, c22, a22, k22, i22, bq3, bq2, fq1, k9, a9, c9, bq9]
        rfl, [], p, F, rfl, by simp, by simp [upd, putA, argsA], by simp [upd, putA], by simp [upd, putA], by simp [upd, z6], by simp [upd, hks], hT.symm, by omega, rfl⟩
    obtain ⟨⟨o, fs2⟩, r1, r2⟩ := iter_meas (fun m' fs h => rd74 ha T l hl n d _ m' fs h) (l.length - p) (n + 4) fs1 (by omega) p1
    rw [evCode_assoc, evCode_assoc, evCode_seq, e1, seqK_norm, evCode_block, evCode_loop, r1]
    obtain ⟨t, b, c, S⟩ := fs2
    rcases r2 with ⟨q1, ks, q, q2, q3, q4, q5, q6⟩ | ⟨c', q, ks, q1, q2, q3⟩
    · simp only at q1 q3 q4 q5
      subst q1 q5
      rw [q6, blockK_ret, ansX_ok]
      clear r1 e1 p1
      have hsl : AV.sealed (.agg (ksC T ks)) = true := by
        have := kS_sealed T ks
        simp [ksC, AV.sealed, AV.sealedL, this]
      have hst : (AV.agg (ksC T ks)).strip T.length = (setX ks).emb := by
        have := kS_strip T ks q2
        simp [ksC, AV.strip, AV.stripL, this, setX, X.emb, tokOf]
      have hf := fin_dropP T a l p q d (kT ks) (.agg (ksC T ks)) hw hsl (by rw [hst]; exact low_emb _ _ _)
      rw [hst] at hf
      have hk6 : (ksC T ks).length = 6 := rfl
      have hkt : List.take 6 (ksC T ks) = ksC T ks := rfl
      generalize PSt H0 (T ++ kT ks) a l q d = L3 at *
      generalize PSt H0 T a l q d = L2 at *
      generalize PSt H0 T a l p d = L1 at *
      generalize (setX ks).emb = ze at *
      generalize ksC T ks = kc at *
      clear hsl hst
      simp (disch := first | (simp only [List.length_append, List.length_cons, List.length_nil]; omega) | (simp; done) | assumption) [AV.cells?, AV.isCell, -AV.cells?, -evLen, -evIndexAddr, cq_int, cq_str, cq_slice, cq_bool, -evBuild, -evBuildSlice, s074, s174, s274, cutC, bodyOf, Tryz.f133, E_esc, q3, q4, hk6, hkt, hf, z24, c24, a24, k24, i24, tq46_0, tq46_1, tq46_2, tc46, ta46, tk46, ti46, tz46, fq0, fq3, fq4, fq5, c3, a3, k3, i3, c2, a2, k2, i2, c22, a22, k22, i22, bq3, bq2, fq1, k9, a9, c9, bq9]
    · simp only at q1 q2
      subst q1 q2
      rw [q3, blockK_pan, ansX_err]
      clear r1 e1 p1
      have hf := fin_dropP T a l p q d (kT ks) (stopV (hereT l) c' q) hw rfl rfl
      simp only [fromBody, finPan, hf]
      rfl
end
end Go.Proofs.YtemggoaefohliaaGreatDoor.PS
