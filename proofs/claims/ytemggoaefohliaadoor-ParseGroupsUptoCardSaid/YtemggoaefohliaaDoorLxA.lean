/- Joined: DlA, DlB, DnA, DnB, DnC, DnD, DnE, DlC, DlD, DlE, DlF, DlG. No condition beyond those of its lemmas. -/
import Derived.Test.YtemggoaefohliaaDoorPxA
/- The lexer: its state, put, word, evaluated. No condition. -/
namespace Go.Proofs.YtemggoaefohliaaDoor.LX
set_option linter.unusedVariables false
set_option linter.unusedSimpArgs false
open Go AE EX PT NF
set_option maxRecDepth 100000

/-- outside, all that was there stands -/
structure Grows (S0 S' : St) : Prop where
  h : S'.H.take S0.H.length = S0.H
  t : S'.T.take S0.T.length = S0.T
theorem Grows.app (S0 : St) (h : List HBox) (t : List Nat) : Grows S0 ⟨S0.H ++ h, S0.T ++ t⟩ := ⟨by simp, by simp⟩
theorem Grows.len {S0 S' : St} (g : Grows S0 S') : S0.H.length ≤ S'.H.length := by
  have := congrArg List.length g.h
  simp at this
  omega
theorem Grows.push {S0 S' : St} (g : Grows S0 S') (h : List HBox) : Grows S0 ⟨S'.H ++ h, S'.T⟩ := ⟨by
  simp only
  rw [List.take_append_of_le_length g.len]
  exact g.h, g.t⟩
theorem fin_grow {S S' : St} (g : Grows S S') (v : AV) (h1 : v.sealed = true) (h2 : v.strip S.T.length = v) (h3 : v.low S.H.length S.T.length = true) : finish S v S' = some (v, S) := by
  have h4 := g.h
  have h5 := g.t
  unfold finish
  simp [h1, h2, h3, h4, h5, boxEqL_refl]

/-- a word -/
structure Tk where
  k : Int
  s : List UInt8
  n : Int
  p : Int
def Tk.cells (t : Tk) : List AV := [.int .i64 t.k, .str t.s, .int .i64 t.n, .int .i64 t.p]
def Tk.emb (t : Tk) : AV := .agg t.cells
def tkL (l : List Tk) : List AV := l.map Tk.emb
theorem tkL_length (l : List Tk) : (tkL l).length = l.length := by simp [tkL]
theorem tkL_append (a b : List Tk) : tkL (a ++ b) = tkL a ++ tkL b := by simp [tkL]
theorem tk_all (t : Tk) : t.cells.all AV.isCell = true := rfl
theorem tk_len (t : Tk) : t.cells.length = 4 := rfl
theorem tk_take (t : Tk) : List.take 4 t.cells = t.cells := rfl
theorem sizes_tk : ∀ l : List Tk, sizesOk 4 (tkL l) = true
  | [] => rfl
  | t :: l => by
    have := sizes_tk l
    simp only [tkL] at this
    simp [tkL, sizesOk, Tk.emb, Tk.cells, AV.cells?, AV.isCell, this]

theorem cq_int (k : IntKind) (n : Int) : (AV.int k n).cells? = some [.int k n] := rfl
theorem cq_bool (b : Bool) : (AV.bool b).cells? = some [.bool b] := rfl
theorem cq_str (s : List UInt8) : (AV.str s).cells? = some [.str s] := rfl
theorem cq_slice (e : List AV) (t : Tok) : (AV.slice e t).cells? = some [.slice e t] := rfl
theorem cq_ptr (a b : Nat) : (AV.ptr a b).cells? = some [.ptr a b] := rfl
theorem cq_iface (t : TypeId) (v : AV) : (AV.iface t v).cells? = some [.iface t v] := rfl
theorem cq_nilif : AV.nilif.cells? = some [.nilif] := rfl
theorem cq_agg (cs : List AV) (h : cs.all AV.isCell = true) : (AV.agg cs).cells? = some cs := by simp only [AV.cells?, h, if_true]

def lv (S0 : St) (out : List Tk) : AV := if out = [] then .slice (tkL out) .clip else .slice (tkL out) (.own S0.T.length (4 * out.length))
def lT (out : List Tk) : List Nat := if out = [] then [] else [4 * out.length]
def HS (S0 : St) (b : HBox) : List HBox := S0.H ++ [b]
theorem HS_get (S0 : St) (b : HBox) : (HS S0 b)[S0.H.length]? = some b := by simp [HS]
theorem HS_set (S0 : St) (b c : HBox) : (HS S0 b).set S0.H.length c = HS S0 c := by simp [HS]
theorem HS_len (S0 : St) (b : HBox) : (HS S0 b).length = S0.H.length + 1 := by simp [HS]
theorem HS_inj {S0 : St} {b c : HBox} (h : HS S0 b = HS S0 c) : b = c := by simpa [HS] using h
/-- the lexer's state: its box stands behind what was outside -/
def LSt (S0 : St) (s : List UInt8) (p : Nat) (out : List Tk) : St := ⟨HS S0 ⟨61, [.str s, .int .i64 p, lv S0 out]⟩, S0.T ++ lT out⟩

theorem tz39 : zeroQ Tryd.prog 39 = some [.slice [] .clip] := by kernel_rfl
theorem appT (S0 : St) (out : List Tk) (t : Tk) (H1 : List HBox) (h : out.length ≤ 1048576) :
    evAppend Tryd.prog [39, 39] (lv S0 out) (.slice [.agg t.cells] .clip) ⟨H1, S0.T ++ lT out⟩ = some (lv S0 (out ++ [t]), ⟨H1, S0.T ++ lT (out ++ [t])⟩) := by
  have hs := sizes_tk out
  have ht : sizesOk 4 [.agg t.cells] = true := sizes_tk [t]
  have hl := tkL_length out
  have he : tkL (out ++ [t]) = tkL out ++ [.agg t.cells] := tkL_append out [t]
  have hne : out ++ [t] ≠ [] := by simp
  simp only [evAppend, ts39, tu39, elemsOf, tz46, tc46, ty46, lv, lT, if_neg hne, he]
  by_cases h0 : out = []
  · subst h0
    simp [tkL, sizesOk, Tk.cells, AV.cells?, AV.isCell]
  · simp only [if_neg h0]
    simp [hs, ht, hl]
    omega

theorem fin_keep {S S' : St} {v : AV} (hv : v.sealed = true) (hH : S'.H.length = S.H.length) (c1 : S'.H ≠ S.H ∨ S'.T.take S.T.length ≠ S.T) (c2 : S'.T.take S.T.length ≠ S.T ∨ lowB S.H.length S.T.length S'.H = false) : finish S v S' = some (v, S') := by
  have e1 : S'.H.take S.H.length = S'.H := by rw [← hH, List.take_length]
  unfold finish
  rw [if_pos hv, e1, if_neg, if_neg]
  · split <;> rfl
  · simp only [Bool.and_eq_true, decide_eq_true_eq, beq_iff_eq]
    rintro ⟨⟨⟨_, h1⟩, h2⟩, _⟩
    rcases c2 with c | c
    · exact c h1
    · rw [c] at h2; cases h2
  · simp only [Bool.and_eq_true, beq_iff_eq]
    rintro ⟨⟨h1, h2⟩, _⟩
    rcases c1 with c | c
    · exact c (boxEqL_spec _ _ h1)
    · exact c h2
theorem lowB_append (h0 t0 : Nat) : ∀ a b : List HBox, lowB h0 t0 (a ++ b) = (lowB h0 t0 a && lowB h0 t0 b)
  | [], b => by simp [lowB]
  | x :: a, b => by simp only [List.cons_append, lowB, lowB_append h0 t0 a b, Bool.and_assoc]

theorem fin_putv (S0 : St) (s : List UInt8) (p q : Nat) (out : List Tk) (t : Tk) (v : AV) (hv : v.sealed = true) : finish (LSt S0 s p out) v (LSt S0 s q (out ++ [t])) = some (v, LSt S0 s q (out ++ [t])) := by
  have hne : out ++ [t] ≠ [] := by simp
  have hlv : lv S0 (out ++ [t]) ≠ lv S0 out := fun h => by
    have h1 : ∀ o : List Tk, (match lv S0 o with | .slice es _ => es.length | _ => 0) = o.length := fun o => by
      by_cases h0 : o = []
      · subst h0; simp [lv, tkL]
      · simp [lv, h0, tkL_length]
    have := h1 (out ++ [t])
    rw [h, h1] at this
    simp at this
  refine fin_keep hv (by simp [LSt, HS_len]) (.inl ?_) ?_
  · intro h
    have := HS_inj h
    simp at this
    exact hlv this.2
  · by_cases h0 : out = []
    · subst h0
      refine .inr ?_
      have : lv S0 ([] ++ [t]) = .slice (tkL [t]) (.own S0.T.length 4) := rfl
      simp only [LSt, HS, lowB_append, this]
      simp [lowB, AV.lowL, AV.low, lT]
    · refine .inl ?_
      simp only [LSt, lT, if_neg h0, if_neg hne]
      rw [List.take_of_length_le (by simp)]
      intro h
      have := List.append_cancel_left h
      simp at this
      omega

theorem fin_put (S0 : St) (s : List UInt8) (p q : Nat) (out : List Tk) (t : Tk) : finish (LSt S0 s p out) (.tup []) (LSt S0 s q (out ++ [t])) = some (.tup [], LSt S0 s q (out ++ [t])) := fin_putv S0 s p q out t _ rfl
theorem ev_put (n : Nat) (S0 : St) (s : List UInt8) (p : Nat) (out : List Tk) (t : Tk) (to : Nat) (hl : out.length ≤ 1048576) :
    ev Tryd.prog E (n + 1) 25 [.ptr S0.H.length 0, t.emb, .int .i64 to] (LSt S0 s p out) = some (.ret (.tup []), LSt S0 s to (out ++ [{ t with p := p }])) := by
  have hps : E.ps 25 2 = [(4, 5)] := rfl
  have ha := appT S0 out { t with p := p }
  have hf := fin_put S0 s p to out { t with p := p }
  obtain ⟨k, ts, tn, tp⟩ := t
  simp only [Tk.emb, Tk.cells] at ha hf ⊢
  simp only [LSt] at hf ⊢
  have hbs : ∀ t' : Tk, evBuildSlice Tryd.prog 39 1 [(0, .agg t'.cells)] = some (.slice [.agg t'.cells] .clip) := fun t' => by
    simp [evBuildSlice, ts39, tz46, tc46, ta46, evElems, Tk.cells, AV.cells?, AV.isCell]
  have hbs' := hbs ⟨k, ts, tn, p⟩
  simp only [Tk.cells] at hbs'
  have ha' := fun H1 => ha H1 hl
  clear ha hbs
  have hsl : (lv S0 out).isCell = true := by unfold lv; split <;> rfl
  have hsl' : (lv S0 (out ++ [{ k := k, s := ts, n := tn, p := p }])).isCell = true := by unfold lv; split <;> rfl
  have hcl : ∀ o, (lv S0 o).cells? = some [lv S0 o] := fun o => by unfold lv; split <;> rfl
  have hse : ∀ o : List Tk, (lv S0 o).sealed = true := fun o => by
    have : AV.sealedL (tkL o) = true := by
      induction o with
      | nil => rfl
      | cons a l ih => simpa [tkL, AV.sealedL, Tk.emb, Tk.cells, AV.sealed] using ih
    unfold lv; split <;> simp [AV.sealed, this]
  have hsp := hcl (out ++ [{ k := k, s := ts, n := tn, p := p }])
  have hse' := hse (out ++ [{ k := k, s := ts, n := tn, p := p }])
  generalize lv S0 (out ++ [{ k := k, s := ts, n := tn, p := p }]) = l2 at *
  generalize lT (out ++ [{ k := k, s := ts, n := tn, p := p }]) = T2 at *
  generalize lv S0 out = l1 at *
  generalize S0.T ++ lT out = T1 at *
  generalize S0.T ++ T2 = T3 at *
  rw [ev_enter (n := n) (show E.ok 25 = true from rfl) Tryd.func25 (fn := Tryd.f25) rfl (Nat.le_of_ble_eq_true rfl) (by decide +kernel)]
  simp (disch := first | (simp only [List.length_append, List.length_cons, List.length_nil]; omega) | (simp; done) | assumption) [AV.cells?, AV.isCell, -evBuildSlice, -AV.cells?, cq_int, cq_str, cq_slice, cq_agg, AV.sealed, AV.sealedL, wrc, Tryd.f25, E_esc, tc46, ta46, tk46, ti46, tz46, tq46_0, tq46_1, tq46_2, tq46_3, tc61, ta61, tk61, ti61, tq61_0, tq61_1, tq61_2, k3, c3, a3, i3, tc39, ta39, tk39, ti39, HS_get, HS_set, hbs', ha', hps, hsl, hcl, hsp, hse', hf]
end Go.Proofs.YtemggoaefohliaaDoor.LX

/- The lexer: how far a word goes; faults, evaluated. No condition. -/
namespace Go.Proofs.YtemggoaefohliaaDoor.LX
set_option linter.unusedVariables false
set_option linter.unusedSimpArgs false
open Go AE EX PT NF
set_option maxRecDepth 100000

theorem evCode_assoc {cx : Ctx} {call : Cal} {ps : Nat → List (Nat × Nat)} {L : Nat} (x y z : Code) (fs : FS) : evCode cx call ps L (.seq x (.seq y z)) fs = evCode cx call ps L (.seq (.seq x y) z) fs := by
  rw [evCode_seq, evCode_seq, evCode_seq]
  generalize evCode cx call ps L x fs = r
  match r with
  | none => rfl
  | some (.norm, fs') => rw [seqK_norm, seqK_norm, evCode_seq]
  | some (.ret, _) => rfl
  | some (.exit _, _) => rfl
  | some (.pan _, _) => rfl

/-- where a run of a name's letters ends -/
def far (s : List UInt8) (p : Nat) : Nat := p + ((s.drop p).takeWhile tl).length
theorem takeWhile_len (f : UInt8 → Bool) : ∀ (l : List UInt8) (i : Nat), (∀ j c, j < i → l[j]? = some c → f c = true) → i ≤ l.length → (∀ c, l[i]? = some c → f c = false) → (l.takeWhile f).length = i
  | [], i, _, h, _ => by simp at h; simp [h]
  | c :: l, 0, _, _, h => by
    have := h c rfl
    simp [List.takeWhile, this]
  | c :: l, i + 1, h1, h2, h3 => by
    have := h1 0 c (by omega) rfl
    have ih := takeWhile_len f l i (fun j c hj hc => h1 (j + 1) c (by omega) (by simpa using hc)) (by simpa using h2) (fun c hc => h3 c (by simpa using hc))
    simp [List.takeWhile, this, ih]
theorem far_eq {s : List UInt8} {p q : Nat} (hp : p ≤ q) (hq : q ≤ s.length) (h1 : ∀ j c, p ≤ j → j < q → s[j]? = some c → tl c = true) (h2 : ∀ c, s[q]? = some c → tl c = false) : far s p = q := by
  unfold far
  rw [takeWhile_len tl (s.drop p) (q - p) (fun j c hj hc => h1 (p + j) c (by omega) (by omega) (by simpa using hc)) (by simp; omega) (fun c hc => h2 c (by
    have : s[p + (q - p)]? = some c := by simpa using hc
    rwa [show p + (q - p) = q by omega] at this))]
  omega
theorem far_ge (s : List UInt8) (p : Nat) : p ≤ far s p := by unfold far; omega
theorem takeWhile_le (f : UInt8 → Bool) : ∀ l : List UInt8, (l.takeWhile f).length ≤ l.length
  | [] => by simp
  | c :: l => by
    have := takeWhile_le f l
    simp only [List.takeWhile]
    split <;> simp <;> omega
theorem far_le {s : List UInt8} {p : Nat} (h : p ≤ s.length) : far s p ≤ s.length := by
  unfold far
  have := takeWhile_le tl (s.drop p)
  simp at this
  omega

noncomputable def wdLoop : Code := cutC (bodyOf Tryd.f53) [1, 1, 0, 0, 0]
noncomputable def wd0 : Code := cutC (bodyOf Tryd.f53) [0]
noncomputable def wd1 : Code := cutC (bodyOf Tryd.f53) [1, 0]
noncomputable def wd2 : Code := cutC (bodyOf Tryd.f53) [1, 1, 1]
theorem f53b : Tryd.f53.body = some (.seq wd0 (.seq wd1 (.seq (.block 0 (.loop wdLoop)) wd2))) := rfl

def WDI (id : Nat) (s : List UInt8) (p : Nat) (L : St) (m : Nat) (fs : FS) : Prop :=
  ∃ q, q + m = s.length ∧ p ≤ q ∧ fs.t 0 = .ptr id 0 ∧ fs.t 3 = .int .i64 (q : Int) ∧ fs.S = L ∧ ∀ j c, p ≤ j → j < q → s[j]? = some c → tl c = true
def WDQ (s : List UInt8) (p : Nat) (L : St) (r : Out × FS) : Prop := r.2.S = L ∧ r.1 = .exit 0 ∧ r.2.t 3 = .int .i64 (far s p : Int)

theorem wd_round (n : Nat) (id : Nat) (s : List UInt8) (p : Nat) (v : AV) (L : St) (hL : L.H[id]? = some ⟨61, [.str s, .int .i64 p, v]⟩) (hs : s.length ≤ 1048576) (m : Nat) (fs : FS) (h : WDI id s p L m fs) :
    ∃ o fs', evCode ⟨Tryd.prog, E.esc 53, n + 1⟩ (ev Tryd.prog E (n + 1)) (E.ps 53) (n + 1) wdLoop fs = some (o, fs') ∧ ((o = .norm ∧ ∃ m', m' < m ∧ WDI id s p L m' fs') ∨ (o ≠ .norm ∧ WDQ s p L (o, fs'))) := by
  obtain ⟨t, b, c, S⟩ := fs
  obtain ⟨q, hq, hp, h0, h3, hS, hall⟩ := h
  simp only at h0 h3 hS
  subst hS
  cases m with
  | zero =>
    have hq' : q = s.length := by omega
    subst hq'
    have hfar : far s p = s.length := far_eq hp (Nat.le_refl _) hall (fun c hc => by simp at hc)
    refine ⟨.exit 0, _, by
      simp (disch := first | (simp only [List.length_append, List.length_cons, List.length_nil]; omega) | (simp; done) | assumption) [AV.cells?, AV.isCell, wdLoop, cutC, bodyOf, Tryd.f53, E_esc, h0, h3, hL, tq61_0, tk61, k9, c9, a9, sq9, bq3]
      rfl, .inr ⟨by simp, rfl, rfl, by rw [hfar]; simp [upd, h3]⟩⟩
  | succ m =>
    have hlt : q < s.length := by omega
    have hltz : (q : Int) < s.length := by omega
    have hxe : s[q]? = some s[q] := List.getElem?_eq_getElem hlt
    have hidx : evIndex Tryd.prog 9 (.str s) (.int .i64 (q : Int)) = some (.int .u8 (s[q].toNat : Int)) := by simp [evIndex, sq9, hlt]
    have hl := ev_letter n s[q] S
    have hd := ev_digit n (s[q].toNat : Int) S
    have hw : IntKind.i64.wrap ((q : Int) + 1) = ((q + 1 : Nat) : Int) := by rw [wrap64 _ (by omega)]; omega
    have htl : tl s[q] = (headB (s[q].toNat : Int) || digB (s[q].toNat : Int)) := rfl
    generalize s[q] = x at *
    have good : tl x = true → ∀ j c, p ≤ j → j < q + 1 → s[j]? = some c → tl c = true := fun ht j c h1 h2 hc => by
      by_cases hj : j = q
      · subst hj; rw [hxe] at hc; cases hc; exact ht
      · exact hall j c h1 (by omega) hc
    cases e1 : headB (x.toNat : Int)
    · rw [e1] at hl htl
      cases e2 : digB (x.toNat : Int)
      · rw [e2] at hd htl
        have hfar : far s p = q := far_eq hp (by omega) hall (fun c hc => by rw [hxe] at hc; cases hc; rw [htl]; rfl)
        refine ⟨.exit 0, _, by
          simp (disch := first | (simp only [List.length_append, List.length_cons, List.length_nil]; omega) | (simp; done) | assumption) [AV.cells?, AV.isCell, -evIndex, wdLoop, cutC, bodyOf, Tryd.f53, E_esc, h0, h3, hL, tq61_0, tk61, k9, c9, a9, sq9, bq3, hlt, hltz, hidx, hl, hd]
          rfl, .inr ⟨by simp, rfl, rfl, by rw [hfar]; simp [upd, h3]⟩⟩
      · rw [e2] at hd htl
        refine ⟨.norm, _, by
          simp (disch := first | (simp only [List.length_append, List.length_cons, List.length_nil]; omega) | (simp; done) | assumption) [AV.cells?, AV.isCell, -evIndex, wdLoop, cutC, bodyOf, Tryd.f53, E_esc, h0, h3, hL, tq61_0, tk61, k9, c9, a9, sq9, bq3, hlt, hltz, hidx, hl, hd]
          rfl, .inl ⟨rfl, m, by omega, q + 1, by omega, by omega, by simp [upd, h0], by simp [upd, hw], rfl, good (by rw [htl]; rfl)⟩⟩
    · rw [e1] at hl htl
      refine ⟨.norm, _, by
        simp (disch := first | (simp only [List.length_append, List.length_cons, List.length_nil]; omega) | (simp; done) | assumption) [AV.cells?, AV.isCell, -evIndex, wdLoop, cutC, bodyOf, Tryd.f53, E_esc, h0, h3, hL, tq61_0, tk61, k9, c9, a9, sq9, bq3, hlt, hltz, hidx, hl]
        rfl, .inl ⟨rfl, m, by omega, q + 1, by omega, by omega, by simp [upd, h0], by simp [upd, hw], rfl, good (by rw [htl]; rfl)⟩⟩

theorem ev_word (n : Nat) (id : Nat) (s : List UInt8) (p : Nat) (v : AV) (L : St) (hL : L.H[id]? = some ⟨61, [.str s, .int .i64 p, v]⟩) (hs : s.length ≤ 1048576) (hp : p ≤ s.length) (hn : s.length < n) :
    ev Tryd.prog E (n + 2) 53 [.ptr id 0] L = some (.ret (.int .i64 (far s p)), L) := by
  rw [show n + 2 = (n + 1) + 1 from rfl, ev_enter (n := n + 1) (show E.ok 53 = true from rfl) Tryd.func53 f53b (Nat.le_of_ble_eq_true rfl) (by decide +kernel)]
  obtain ⟨fs1, e1, p1⟩ : ∃ fs', evCode ⟨Tryd.prog, E.esc 53, n + 1⟩ (ev Tryd.prog E (n + 1)) (E.ps 53) (n + 1) (.seq wd0 wd1) ⟨argsA [.ptr id 0], fun _ => (0, []), 0, L⟩ = some (.norm, fs') ∧ WDI id s p L (s.length - p) fs' := by
    refine ⟨_, by
      simp (disch := first | (simp only [List.length_append, List.length_cons, List.length_nil]; omega) | (simp; done) | assumption) [AV.cells?, AV.isCell, wd0, wd1, cutC, bodyOf, Tryd.f53, E_esc, hL, tq61_1, tk61, k3, c3, a3]
      rfl, p, by omega, Nat.le_refl _, by simp [upd, argsA], by simp [upd], rfl, fun j c h1 h2 => by omega⟩
  obtain ⟨⟨o, fs2⟩, r1, r2, r3, r4⟩ := iter_meas (fun m' fs h => wd_round n id s p v L hL hs m' fs h) (s.length - p) (n + 1) fs1 (by omega) p1
  simp only at r2 r3 r4
  subst r3
  rw [evCode_assoc, evCode_seq, e1, seqK_norm, evCode_seq, evCode_block, evCode_loop, r1, blockK_exit, if_pos rfl, seqK_norm]
  obtain ⟨t, b, c, S⟩ := fs2
  simp only at r2 r4
  subst r2
  simp (disch := first | (simp only [List.length_append, List.length_cons, List.length_nil]; omega) | (simp; done) | assumption) [AV.cells?, AV.isCell, wd2, cutC, bodyOf, Tryd.f53, r4]

/-! ### faults -/
/-- a fault, new, outside -/
theorem ev_New (n : Nat) (c a : Int) (S : St) : ev Tryd.prog E (n + 1) 17 [.int .i64 c, .int .i64 a] S = some (.ret (.iface 55 (.ptr S.H.length 0)), ⟨S.H ++ [⟨58, [.int .i64 c, .int .i64 a, .nilif]⟩], S.T⟩) := by
  have he : E.esc 17 8 = true := rfl
  have hbd : evBuild Tryd.prog 58 [(0, .int .i64 c), (1, .int .i64 a)] = some (.agg [.int .i64 c, .int .i64 a, .nilif]) := by
    simp [evBuild, tp58, tz58, fillA, tl58_0, tl58_1, AV.cells?, wrc]
  have hf : finish S (.iface 55 (.ptr S.H.length 0)) ⟨S.H ++ [⟨58, [.int .i64 c, .int .i64 a, .nilif]⟩], S.T⟩ = some (.iface 55 (.ptr S.H.length 0), ⟨S.H ++ [⟨58, [.int .i64 c, .int .i64 a, .nilif]⟩], S.T⟩) := by
    unfold finish
    simp [AV.sealed, AV.strip, AV.low]
  rw [ev_enter (n := n) (show E.ok 17 = true from rfl) Tryd.func17 (fn := Tryd.f17) rfl (Nat.le_of_ble_eq_true rfl) (by decide +kernel)]
  simp (disch := first | (simp only [List.length_append, List.length_cons, List.length_nil]; omega) | (simp; done) | assumption) [AV.cells?, AV.isCell, -evBuild, Tryd.f17, he, hbd, AV.sealed, AV.sealedL, tn55, hf]
end Go.Proofs.YtemggoaefohliaaDoor.LX

/- Decimals, evaluated. No condition. -/
namespace Go.Proofs.YtemggoaefohliaaDoor.PT
set_option linter.unusedVariables false
set_option linter.unusedSimpArgs false
open Go AE EX
set_option maxRecDepth 100000

theorem by5 : Tryd.prog.bytesOf 5 = 1 := by kernel_rfl
theorem sq54 : sliceQ Tryd.prog 117 = some 5 := by kernel_rfl
theorem u54 : Tryd.prog.underlying 117 = some (.slice 5) := by kernel_rfl
theorem z5 : zeroQ Tryd.prog 5 = some [.int .u8 0] := by kernel_rfl
theorem iq52 : intQ Tryd.prog 113 = some .u64 := by kernel_rfl
theorem bq52 : boolQ Tryd.prog 113 = false := by kernel_rfl
theorem sl54 : sliceQ Tryd.prog 117 = some 5 := by kernel_rfl

theorem wrapu64 (n : Int) (h : 0 ≤ n ∧ n < 18446744073709551616) : IntKind.u64.wrap n = n := by
  simp [IntKind.wrap, IntKind.bits, IntKind.signed]; omega
theorem wrapu8 (n : Int) (h : 0 ≤ n ∧ n < 256) : IntKind.u8.wrap n = n := by
  simp [IntKind.wrap, IntKind.bits, IntKind.signed]; omega

/-- a number's size, as 64 bits -/
theorem ev_size (n : Nat) (a : Int) (S : St) (ha : in64 a) : ev Tryd.prog E (n + 1) 67 [.int .i64 a] S = some (.ret (.int .u64 a.natAbs), S) := by
  unfold in64 at ha
  rw [ev_enter (n := n) (show E.ok 67 = true from rfl) Tryd.func67 (fn := Tryd.f67) rfl (Nat.le_of_ble_eq_true rfl) (by decide +kernel)]
  by_cases h : a < 0
  · have w1 : IntKind.u64.wrap (0 - IntKind.u64.wrap a) = a.natAbs := by
      simp [IntKind.wrap, IntKind.bits, IntKind.signed]; omega
    have w1' : IntKind.u64.wrap (-IntKind.u64.wrap a) = a.natAbs := by
      simp [IntKind.wrap, IntKind.bits, IntKind.signed]; omega
    simp [AV.cells?, AV.isCell, Tryd.f67, bq2, iq2, iq52, h, w1, w1', fin_int]
  · have w1 : IntKind.u64.wrap a = a.natAbs := by
      simp [IntKind.wrap, IntKind.bits, IntKind.signed]; omega
    simp [AV.cells?, AV.isCell, Tryd.f67, bq2, iq2, iq52, h, w1, fin_int]

def dig (d : Nat) : UInt8 := UInt8.ofNat (48 + d)
/-- decimals -/
def dg (u : Nat) : List UInt8 := if h : u < 10 then [dig u] else dg (u / 10) ++ [dig (u % 10)]
theorem dg_lt {u : Nat} (h : u < 10) : dg u = [dig u] := by rw [dg, dif_pos h]
theorem dg_ge {u : Nat} (h : ¬ u < 10) : dg u = dg (u / 10) ++ [dig (u % 10)] := by rw [dg, dif_neg h]
theorem dg_len : ∀ (k u : Nat), u < 10 ^ (k + 1) → (dg u).length ≤ k + 1
  | 0, u, h => by rw [dg_lt (by simpa using h)]; simp
  | k + 1, u, h => by
    by_cases hu : u < 10
    · rw [dg_lt hu]; simp
    · rw [dg_ge hu]
      have := dg_len k (u / 10) (by rw [Nat.div_lt_iff_lt_mul (by omega)]; rw [Nat.pow_succ] at h; exact h)
      simp; omega
theorem dg_len20 {u : Nat} (h : u < 18446744073709551616) : (dg u).length ≤ 20 := dg_len 19 u (by omega)
theorem dg_pos (u : Nat) : 1 ≤ (dg u).length := by
  by_cases h : u < 10
  · rw [dg_lt h]; simp
  · rw [dg_ge h]; simp
theorem dig_nat {d : Nat} (h : d < 10) : (dig d).toNat = 48 + d := by
  unfold dig
  simp [UInt8.toNat_ofNat']
  omega

def dec (a : Int) : List UInt8 := if a < 0 then 45 :: dg a.natAbs else dg a.natAbs

def bav (l : List UInt8) : List AV := l.map fun b => .int .u8 b.toNat
theorem bav_sizes : ∀ l : List UInt8, sizesOk 1 (bav l) = true
  | [] => rfl
  | b :: l => by
    have := bav_sizes l
    simp only [bav] at this
    simp [bav, sizesOk, AV.cells?, this]
theorem bav_bytes : ∀ l : List UInt8, bytesOf (bav l) = some l
  | [] => rfl
  | b :: l => by
    have := bav_bytes l
    simp only [bav] at this
    simp [bav, bytesOf, this]
theorem bav_len (l : List UInt8) : (bav l).length = l.length := by simp [bav]

def apTok (xs : List AV) (S : St) : Tok := if xs = [] then .clip else .own S.T.length (1 + xs.length)
def apEx (xs : List AV) : List Nat := if xs = [] then [] else [1 + xs.length]
theorem appB (a : Int) (l : List UInt8) (tok : Tok) (S : St) (h : l.length ≤ 1000) : evAppend Tryd.prog [117, 117] (.slice [.int .u8 a] .clip) (.slice (bav l) tok) S = some (.slice (.int .u8 a :: bav l) (apTok (bav l) S), ⟨S.H, S.T ++ apEx (bav l)⟩) := by
  have hs := bav_sizes l
  have hl := bav_len l
  simp only [evAppend, sq54, u54, elemsOf, z5, c5, by5]
  by_cases hn : bav l = []
  · simp [hn, apTok, apEx, sizesOk, AV.cells?]
  · simp [hn, apTok, apEx, hs, sizesOk, AV.cells?, Nat.add_comm]
    omega
end Go.Proofs.YtemggoaefohliaaDoor.PT

/- Decimals, evaluated, of both. No condition. -/
namespace Go.Proofs.YtemggoaefohliaaDoor.PT
set_option linter.unusedVariables false
set_option linter.unusedSimpArgs false
open Go AE EX
set_option maxRecDepth 100000

noncomputable def dLoop : Code := cutC (bodyOf Tryd.f62) [1, 1, 1, 0, 0, 0]
noncomputable def d0 : Code := cutC (bodyOf Tryd.f62) [0]
noncomputable def d1 : Code := cutC (bodyOf Tryd.f62) [1, 0]
noncomputable def d2 : Code := cutC (bodyOf Tryd.f62) [1, 1, 0]
noncomputable def d3 : Code := cutC (bodyOf Tryd.f62) [1, 1, 1, 1]
theorem f30b : Tryd.f62.body = some (.seq d0 (.seq d1 (.seq d2 (.seq (.block 0 (.loop dLoop)) d3)))) := rfl

def DI (a : Int) (S0 : St) (m : Nat) (fs : FS) : Prop :=
  ∃ (u : Nat) (l : List UInt8) (tok : Tok) (ex : List Nat), fs.t 0 = .int .i64 a ∧ fs.t 3 = .int .u64 u ∧ u < 18446744073709551616 ∧ fs.t 4 = .slice (bav l) tok ∧ dg u ++ l = dg a.natAbs ∧ m = (dg u).length ∧ fs.S = ⟨S0.H, S0.T ++ ex⟩
def DQ (a : Int) (S0 : St) (r : Out × FS) : Prop :=
  r.1 = .exit 0 ∧ ∃ (u : Nat) (l : List UInt8) (tok : Tok) (ex : List Nat), r.2.t 0 = .int .i64 a ∧ r.2.t 3 = .int .u64 u ∧ u < 10 ∧ r.2.t 4 = .slice (bav l) tok ∧ dig u :: l = dg a.natAbs ∧ r.2.S = ⟨S0.H, S0.T ++ ex⟩

theorem dec_round (n : Nat) (a : Int) (ha : in64 a) (S0 : St) (m : Nat) (fs : FS) (h : DI a S0 m fs) :
    ∃ o fs', evCode ⟨Tryd.prog, E.esc 62, n⟩ (ev Tryd.prog E n) (E.ps 62) n dLoop fs = some (o, fs') ∧ ((o = .norm ∧ ∃ m', m' < m ∧ DI a S0 m' fs') ∨ (o ≠ .norm ∧ DQ a S0 (o, fs'))) := by
  obtain ⟨t, b, v, S⟩ := fs
  obtain ⟨u, l, tok, ex, h0, h1, h2, h3, h4, h5, h6⟩ := h
  simp at h0 h1 h3 h6
  subst h6
  unfold in64 at ha
  by_cases hu : u < 10
  · refine ⟨.exit 0, _, by
      simp [AV.cells?, AV.isCell, dLoop, cutC, bodyOf, Tryd.f62, h0, h1, show ¬ ((u : Int) ≥ 10) by omega, bq52]
      rfl, .inr ⟨by simp, rfl, u, l, tok, ex, by simp [upd, h0], by simp [upd, h1], hu, by simp [upd, h3], ?_, rfl⟩⟩
    rw [← h4, dg_lt hu]; rfl
  · have hl : l.length ≤ 1000 := by
      have := congrArg List.length h4
      have h7 := dg_len20 (u := a.natAbs) (by omega)
      simp at this
      omega
    have e1 : ((u : Int).tmod 10) = (u % 10 : Nat) := by rw [Int.tmod_eq_emod_of_nonneg (by omega)]; omega
    have e2 : ((u : Int).tdiv 10) = (u / 10 : Nat) := by rw [Int.tdiv_eq_ediv_of_nonneg (by omega)]; omega
    have w1 : IntKind.u64.wrap (48 + (u % 10 : Nat)) = (48 + (u % 10 : Nat) : Int) := wrapu64 _ (by omega)
    have w2 : IntKind.u8.wrap (48 + (u % 10 : Nat)) = ((dig (u % 10)).toNat : Int) := by
      rw [wrapu8 _ (by omega), dig_nat (by omega)]; omega
    have w3 : IntKind.u64.wrap ((u / 10 : Nat) : Int) = (u / 10 : Nat) := wrapu64 _ (by omega)
    have e3 : (10 : Int) ≤ u := by omega
    have hcons : ∀ x : UInt8, AV.int .u8 x.toNat :: bav l = bav (x :: l) := fun _ => rfl
    refine ⟨.norm, _, by
      simp [AV.cells?, AV.isCell, evElems, dLoop, cutC, bodyOf, Tryd.f62, h0, h1, h3, e3, bq52, e1, e2, -Int.natCast_emod, -Int.natCast_ediv, w1, w2, w3, iq52, iq5, sq54, z5, c5, a5, appB _ l tok _ hl]
      rfl, .inl ⟨rfl, (dg (u / 10)).length, ?_, u / 10, dig (u % 10) :: l, apTok (bav l) ⟨S0.H, S0.T ++ ex⟩, ex ++ apEx (bav l), ?_, ?_, ?_, ?_, ?_, rfl, ?_⟩⟩
    · rw [h5, dg_ge hu]; simp
    · simp [upd, h0]
    · simp [upd]
    · omega
    · simp [upd, hcons]
    · rw [← h4, dg_ge hu]; simp
    · simp

theorem fin_strT (s : List UInt8) (S : St) (ex : List Nat) : finish S (.str s) ⟨S.H, S.T ++ ex⟩ = some (.str s, S) := by
  unfold finish
  simp [AV.sealed, AV.strip, AV.low, boxEqL_refl]

theorem ev_dec (n : Nat) (hn : 30 ≤ n) (a : Int) (ha : in64 a) (S : St) : ev Tryd.prog E (n + 1) 62 [.int .i64 a] S = some (.ret (.str (dec a)), S) := by
  have hs := ev_size (n - 1) a S ha
  rw [show n - 1 + 1 = n by omega] at hs
  have ha' := ha
  unfold in64 at ha'
  have key : ∀ fs, DI a S (dg a.natAbs).length fs → ∃ r, iter n (evCode ⟨Tryd.prog, E.esc 62, n⟩ (ev Tryd.prog E n) (E.ps 62) n dLoop) fs = some r ∧ DQ a S r := fun fs h =>
    iter_meas (fun m fs h => dec_round n a ha S m fs h) (dg a.natAbs).length n fs (by have := dg_len20 (u := a.natAbs) (by omega); omega) h
  obtain ⟨r, hr, hq1, u, l, tok, ex, q0, q1, q2, q3, q4, q5⟩ := key ⟨upd 4 (.slice [] .clip) (upd 3 (.int .u64 a.natAbs) (upd 7 (.int .u64 a.natAbs) (upd 6 (.int .i64 a) (upd 2 (.str []) (argsA [.int .i64 a]))))), fun _ => (0, []), 5, S⟩
    ⟨a.natAbs, [], .clip, [], by simp [upd, argsA], by simp [upd], by omega, by simp [upd, bav], by simp, rfl, by simp⟩
  obtain ⟨o, t, b, v, S'⟩ := r
  simp at hq1 q0 q1 q3 q5
  subst hq1 q5
  have hl : l.length ≤ 1000 := by
    have := congrArg List.length q4
    have h7 := dg_len20 (u := a.natAbs) (by omega)
    simp at this
    omega
  have w1 : IntKind.u64.wrap (48 + (u : Int)) = (48 + u : Int) := wrapu64 _ (by omega)
  have w2 : IntKind.u8.wrap (48 + (u : Int)) = ((dig u).toNat : Int) := by
    rw [wrapu8 _ (by omega), dig_nat (by omega)]; omega
  have hbb : bytesOf (.int .u8 (dig u).toNat :: bav l) = some (dig u :: l) := bav_bytes (dig u :: l)
  have hf := fin_strT (dec a) S (ex ++ apEx (bav l))
  rw [ev_enter (n := n) (show E.ok 62 = true from rfl) Tryd.func62 f30b (Nat.le_of_ble_eq_true rfl) (by decide +kernel)]
  have hlen : (dg a.natAbs).length ≤ 20 := dg_len20 (by omega)
  by_cases h : a < 0
  · have hd : dec a = 45 :: dg a.natAbs := by simp [dec, h]
    rw [hd] at hf
    simp [AV.cells?, AV.isCell, evElems, d0, d1, d2, d3, cutC, bodyOf, Tryd.f62, hs, hr, q0, q1, q3, bq52, w1, w2, iq52, iq5, sq54, z5, c5, a5, appB _ l tok _ hl, sq9, hbb, q4, h, hf, hd, show (dg a.natAbs).length + 1 ≤ 4611686018427387904 by omega, show 1 + (dg a.natAbs).length ≤ 4611686018427387904 by omega]
  · have hd : dec a = dg a.natAbs := by simp [dec, h]
    rw [hd] at hf
    simp [AV.cells?, AV.isCell, evElems, d0, d1, d2, d3, cutC, bodyOf, Tryd.f62, hs, hr, q0, q1, q3, bq52, w1, w2, iq52, iq5, sq54, z5, c5, a5, appB _ l tok _ hl, sq9, hbb, q4, h, hf, hd]

/-! ### the page's -/
def RI (a : Int) (S0 : St) (m : Nat) (fs : FS) : Prop :=
  ∃ (u : Int) (l : List UInt8), fs.t 0 = .int .i64 a ∧ fs.t 4 = .int .i64 u ∧ in64 u ∧ fs.t 3 = .str l ∧ (if u = 0 then l else dg u.natAbs ++ l) = dg a.natAbs ∧ m = (if u = 0 then 0 else (dg u.natAbs).length) ∧ fs.S = S0
def RQ (a : Int) (S0 : St) (r : Out × FS) : Prop :=
  r.1 = .exit 0 ∧ r.2.t 0 = .int .i64 a ∧ r.2.t 3 = .str (dg a.natAbs) ∧ r.2.S = S0

end Go.Proofs.YtemggoaefohliaaDoor.PT

/- One text just where they are alike: small parts. No condition. -/
namespace Go.Proofs.YtemggoaefohliaaDoor.PT
set_option linter.unusedVariables false
set_option linter.unusedSimpArgs false
open Go AE EX
set_option maxRecDepth 100000

/-- it doesn't begin so -/
def stops (p : UInt8 → Bool) : List UInt8 → Prop
  | [] => True
  | c :: _ => p c = false
theorem span_inj (p : UInt8 → Bool) : ∀ (a b r s : List UInt8), a.all p = true → b.all p = true → stops p r → stops p s → a ++ r = b ++ s → a = b ∧ r = s
  | [], [], r, s, _, _, _, _, h => ⟨rfl, by simpa using h⟩
  | [], y :: b, r, s, _, hb, hr, _, h => by
    simp at h
    subst h
    simp [stops] at hr
    simp [hr] at hb
  | x :: a, [], r, s, ha, _, _, hs, h => by
    simp at h
    subst h
    simp [stops] at hs
    simp [hs] at ha
  | x :: a, y :: b, r, s, ha, hb, hr, hs, h => by
    simp at h ha hb
    obtain ⟨rfl, h⟩ := h
    obtain ⟨rfl, rfl⟩ := span_inj p a b r s (by simpa using ha.2) (by simpa using hb.2) hr hs h
    exact ⟨rfl, rfl⟩

def isDig (c : UInt8) : Bool := decide (48 ≤ c.toNat) && decide (c.toNat ≤ 57)
def val (l : List UInt8) : Nat := l.foldl (fun v c => v * 10 + (c.toNat - 48)) 0
theorem val_snoc (l : List UInt8) (c : UInt8) : val (l ++ [c]) = val l * 10 + (c.toNat - 48) := by simp [val]
theorem val_dg (u : Nat) : val (dg u) = u := by
  induction u using Nat.strongRecOn with
  | _ u ih =>
  by_cases h : u < 10
  · rw [dg_lt h]; simp [val, dig_nat h]
  · rw [dg_ge h, val_snoc, ih _ (by omega), dig_nat (by omega)]; omega
theorem dg_inj {u v : Nat} (h : dg u = dg v) : u = v := by rw [← val_dg u, ← val_dg v, h]
theorem dig_isDig {d : Nat} (h : d < 10) : isDig (dig d) = true := by
  unfold isDig; rw [dig_nat h]; simp; omega
theorem dg_all (u : Nat) : (dg u).all isDig = true := by
  induction u using Nat.strongRecOn with
  | _ u ih =>
  by_cases h : u < 10
  · rw [dg_lt h]; simp [dig_isDig h]
  · rw [dg_ge h, List.all_append, ih _ (by omega)]; simp [dig_isDig (show u % 10 < 10 by omega)]
theorem dec_pos {a : Int} (h : 0 ≤ a) : dec a = dg a.natAbs := by unfold dec; rw [if_neg (by omega)]
theorem dec_inj {a b : Int} (ha : 0 ≤ a) (hb : 0 ≤ b) {r s : List UInt8} (hr : stops isDig r) (hs : stops isDig s) (h : dec a ++ r = dec b ++ s) : a = b ∧ r = s := by
  rw [dec_pos ha, dec_pos hb] at h
  obtain ⟨h1, h2⟩ := span_inj isDig _ _ _ _ (dg_all _) (dg_all _) hr hs h
  have := dg_inj h1
  exact ⟨by omega, h2⟩

theorem head_tail {c : Int} (h : headB c = true) : tailB c = true := by simp [tailB, h]
theorem name_all {s : List UInt8} (h : nameB s = true) : s.all tl = true := by
  cases s with
  | nil => simp [nameB] at h
  | cons c r =>
    simp only [nameB, Bool.and_eq_true] at h
    rw [List.all_cons, h.2, Bool.and_true]
    exact head_tail h.1.2
theorem name_inj {a b r s : List UInt8} (ha : nameB a = true) (hb : nameB b = true) (hr : stops tl r) (hs : stops tl s) (h : a ++ r = b ++ s) : a = b ∧ r = s :=
  span_inj tl a b r s (name_all ha) (name_all hb) hr hs h
def notQ (c : UInt8) : Bool := c != 34
theorem plain_all {s : List UInt8} (h : plainB s = true) : s.all notQ = true := by
  simp only [plainB, Bool.and_eq_true] at h
  rw [List.all_eq_true] at h ⊢
  intro c hc
  have := h.2 c hc
  simp [badB] at this
  simp [notQ]
  intro e
  subst e
  exact this.1 rfl
theorem plain_inj {a b r s : List UInt8} (ha : plainB a = true) (hb : plainB b = true) (h : a ++ 34 :: r = b ++ 34 :: s) : a = b ∧ r = s := by
  obtain ⟨h1, h2⟩ := span_inj notQ a b (34 :: r) (34 :: s) (plain_all ha) (plain_all hb) rfl rfl h
  exact ⟨h1, by simpa using h2⟩

/-- what may stand behind an expression: nothing, or a blank, a comma, a bracket's end -/
def delim : List UInt8 → Prop
  | [] => True
  | c :: _ => c = 32 ∨ c = 41 ∨ c = 44 ∨ c = 125
theorem delim_tl {r : List UInt8} (h : delim r) : stops tl r := by
  cases r with
  | nil => trivial
  | cons c r => rcases h with rfl | rfl | rfl | rfl <;> rfl
theorem delim_dig {r : List UInt8} (h : delim r) : stops isDig r := by
  cases r with
  | nil => trivial
  | cons c r => rcases h with rfl | rfl | rfl | rfl <;> rfl
end Go.Proofs.YtemggoaefohliaaDoor.PT

/- Numbers read (num.Parse), evaluated. No condition. -/
namespace Go.Proofs.YtemggoaefohliaaDoor.LX
set_option linter.unusedVariables false
set_option linter.unusedSimpArgs false
open Go AE EX PT NF
set_option maxRecDepth 100000

theorem fin_ib (k : IntKind) (n : Int) (b : Bool) (S : St) : finish S (.tup [.int k n, .bool b]) S = some (.tup [.int k n, .bool b], S) := finish_same rfl rfl rfl rfl rfl
theorem tb113 : boolQ Tryd.prog 113 = false := by kernel_rfl
theorem iq113 : intQ Tryd.prog 113 = some .u64 := by kernel_rfl

theorem ev_mulX (n : Nat) (a b : Int) (ha : 0 ≤ a ∧ a < 18446744073709551616) (hb : 0 ≤ b ∧ b < 18446744073709551616) (S : St) :
    ev Tryd.prog E (n + 1) 66 [.int .u64 a, .int .u64 b] S = some (.ret (.tup [.int .u64 ((a.toNat * b.toNat / 18446744073709551616 : Nat) : Int), .int .u64 ((a.toNat * b.toNat % 18446744073709551616 : Nat) : Int)]), S) := by
  have : ev Tryd.prog E (n + 1) 66 [.int .u64 a, .int .u64 b] S = mulX [.int .u64 a, .int .u64 b] S := rfl
  rw [this, mulX, if_pos ⟨ha.1, ha.2, hb.1, hb.2⟩]

theorem mul_ok (n : Nat) (a hi lo u v : Int) (S : St) (g0 : ¬ a < 0) (h1 : ev Tryd.prog E (n + 1) 67 [.int .i64 a] S = some (.ret (.int .u64 u), S)) (h2 : ev Tryd.prog E (n + 1) 67 [.int .i64 10] S = some (.ret (.int .u64 v), S))
    (h3 : ev Tryd.prog E (n + 1) 66 [.int .u64 u, .int .u64 v] S = some (.ret (.tup [.int .u64 hi, .int .u64 lo]), S)) (r : Int) (c1 : ¬ 0 < hi) (c2 : ¬ 9223372036854775807 < lo) (c3 : ¬ 9223372036854775808 < lo) (hw : IntKind.i64.wrap lo = r) :
    ev Tryd.prog E (n + 2) 60 [.int .i64 a, .int .i64 10] S = some (.ret (.tup [.int .i64 r, .bool true]), S) := by
  rw [show n + 2 = (n + 1) + 1 from rfl, ev_enter (n := n + 1) (show E.ok 60 = true from rfl) Tryd.func60 (fn := Tryd.f60) rfl (Nat.le_of_ble_eq_true rfl) (by decide +kernel)]
  simp (disch := first | (simp only [List.length_append, List.length_cons, List.length_nil]; omega) | (simp; done) | assumption) [AV.cells?, AV.isCell, Tryd.f60, E_esc, h1, h2, h3, bq2, tb113, bq4, iq2, iq113, g0, c1, c2, c3, hw, fin_ib]
theorem mul_hi (n : Nat) (a hi lo u v : Int) (S : St) (g0 : ¬ a < 0) (h1 : ev Tryd.prog E (n + 1) 67 [.int .i64 a] S = some (.ret (.int .u64 u), S)) (h2 : ev Tryd.prog E (n + 1) 67 [.int .i64 10] S = some (.ret (.int .u64 v), S))
    (h3 : ev Tryd.prog E (n + 1) 66 [.int .u64 u, .int .u64 v] S = some (.ret (.tup [.int .u64 hi, .int .u64 lo]), S)) (c1 : 0 < hi) :
    ev Tryd.prog E (n + 2) 60 [.int .i64 a, .int .i64 10] S = some (.ret (.tup [.int .i64 0, .bool false]), S) := by
  rw [show n + 2 = (n + 1) + 1 from rfl, ev_enter (n := n + 1) (show E.ok 60 = true from rfl) Tryd.func60 (fn := Tryd.f60) rfl (Nat.le_of_ble_eq_true rfl) (by decide +kernel)]
  simp (disch := first | (simp only [List.length_append, List.length_cons, List.length_nil]; omega) | (simp; done) | assumption) [AV.cells?, AV.isCell, Tryd.f60, E_esc, h1, h2, h3, bq2, tb113, bq4, iq2, iq113, g0, c1, fin_ib]
theorem mul_lo (n : Nat) (a hi lo u v : Int) (S : St) (g0 : ¬ a < 0) (h1 : ev Tryd.prog E (n + 1) 67 [.int .i64 a] S = some (.ret (.int .u64 u), S)) (h2 : ev Tryd.prog E (n + 1) 67 [.int .i64 10] S = some (.ret (.int .u64 v), S))
    (h3 : ev Tryd.prog E (n + 1) 66 [.int .u64 u, .int .u64 v] S = some (.ret (.tup [.int .u64 hi, .int .u64 lo]), S)) (c1 : ¬ 0 < hi) (c2 : 9223372036854775807 < lo) :
    ev Tryd.prog E (n + 2) 60 [.int .i64 a, .int .i64 10] S = some (.ret (.tup [.int .i64 0, .bool false]), S) := by
  rw [show n + 2 = (n + 1) + 1 from rfl, ev_enter (n := n + 1) (show E.ok 60 = true from rfl) Tryd.func60 (fn := Tryd.f60) rfl (Nat.le_of_ble_eq_true rfl) (by decide +kernel)]
  simp (disch := first | (simp only [List.length_append, List.length_cons, List.length_nil]; omega) | (simp; done) | assumption) [AV.cells?, AV.isCell, Tryd.f60, E_esc, h1, h2, h3, bq2, tb113, bq4, iq2, iq113, g0, c1, c2, fin_ib]

theorem mul_arith (m : Nat) : (m : Int) ≤ 9223372036854775807 ∧ ((m / 18446744073709551616 : Nat) : Int) = 0 ∧ ((m % 18446744073709551616 : Nat) : Int) = m ∨ 0 < ((m / 18446744073709551616 : Nat) : Int) ∧ ¬ (m : Int) ≤ 9223372036854775807 ∨ ((m / 18446744073709551616 : Nat) : Int) = 0 ∧ 9223372036854775807 < ((m % 18446744073709551616 : Nat) : Int) ∧ ¬ (m : Int) ≤ 9223372036854775807 := by
  omega
theorem ev_Mul (n : Nat) (a : Nat) (ha : (a : Int) ≤ 9223372036854775807) (S : St) :
    ev Tryd.prog E (n + 2) 60 [.int .i64 (a : Int), .int .i64 10] S = some (.ret (.tup [.int .i64 (if ((a * 10 : Nat) : Int) ≤ 9223372036854775807 then ((a * 10 : Nat) : Int) else 0), .bool (decide (((a * 10 : Nat) : Int) ≤ 9223372036854775807))]), S) := by
  have h1 := ev_size n a S (by unfold in64; omega)
  have h2 := ev_size n 10 S (by unfold in64; omega)
  have h3 := ev_mulX n (((a : Int).natAbs : Nat) : Int) (((10 : Int).natAbs : Nat) : Int) ⟨by omega, by omega⟩ ⟨by omega, by omega⟩ S
  have hm : ((((a : Int).natAbs : Nat) : Int).toNat * (((10 : Int).natAbs : Nat) : Int).toNat) = a * 10 := by simp
  rw [hm] at h3
  generalize a * 10 = m at *
  have g0 : ¬ (a : Int) < 0 := by omega
  rcases mul_arith m with ⟨k1, k2, k3⟩ | ⟨k1, k2⟩ | ⟨k1, k2, k3⟩
  · rw [k2, k3] at h3
    rw [if_pos k1, decide_eq_true k1]
    exact mul_ok n a _ _ _ _ S g0 h1 h2 h3 m (by omega) (by omega) (by omega) (wrap64 _ (by omega))
  · rw [if_neg k2, decide_eq_false k2]
    exact mul_hi n a _ _ _ _ S g0 h1 h2 h3 k1
  · rw [if_neg k3, decide_eq_false k3]
    exact mul_lo n a _ _ _ _ S g0 h1 h2 h3 (by omega) k2

theorem ev_Add (n : Nat) (a b : Int) (ha : 0 ≤ a ∧ a ≤ 9223372036854775807) (hb : 0 ≤ b ∧ b ≤ 9223372036854775807) (S : St) :
    ev Tryd.prog E (n + 1) 61 [.int .i64 a, .int .i64 b] S = some (.ret (.tup [.int .i64 (if a + b ≤ 9223372036854775807 then a + b else 0), .bool (decide (a + b ≤ 9223372036854775807))]), S) := by
  have g0 : ¬ a < 0 := by omega
  have g1 : ¬ b < 0 := by omega
  rw [ev_enter (n := n) (show E.ok 61 = true from rfl) Tryd.func61 (fn := Tryd.f61) rfl (Nat.le_of_ble_eq_true rfl) (by decide +kernel)]
  by_cases hok : a + b ≤ 9223372036854775807
  · have hw : IntKind.i64.wrap (a + b) = a + b := wrap64 _ (by omega)
    have g2 : ¬ a + b < 0 := by omega
    simp (disch := first | (simp only [List.length_append, List.length_cons, List.length_nil]; omega) | (simp; done) | assumption) [AV.cells?, AV.isCell, Tryd.f61, E_esc, bq2, bq4, g0, g1, g2, hw, hok, fin_ib]
  · have g2 : IntKind.i64.wrap (a + b) < 0 := by
      simp [IntKind.wrap, IntKind.bits, IntKind.signed]; omega
    simp (disch := first | (simp only [List.length_append, List.length_cons, List.length_nil]; omega) | (simp; done) | assumption) [AV.cells?, AV.isCell, Tryd.f61, E_esc, bq2, bq4, g0, g1, g2, hok, fin_ib]
end Go.Proofs.YtemggoaefohliaaDoor.LX

/- Numbers read (num.Parse), evaluated (2). No condition. -/
namespace Go.Proofs.YtemggoaefohliaaDoor.LX
set_option linter.unusedVariables false
set_option linter.unusedSimpArgs false
open Go AE EX PT NF
set_option maxRecDepth 100000

/-- a number of its digits -/
def parseN (s : List UInt8) : Option Nat := if s.all isDig = true ∧ val s ≤ 9223372036854775807 ∧ dec (val s) = s then some (val s) else none
theorem val_ge : ∀ (r l : List UInt8), val l ≤ val (l ++ r)
  | [], l => by simp
  | c :: r, l => by
    have := val_ge r (l ++ [c])
    rw [val_snoc] at this
    have e : l ++ [c] ++ r = l ++ c :: r := by simp
    rw [e] at this
    omega
theorem val_take (s : List UInt8) (i : Nat) : val (s.take i) ≤ val s := by
  have := val_ge (s.drop i) (s.take i)
  rwa [List.take_append_drop] at this

noncomputable def npLoop : Code := cutC (bodyOf Tryd.f54) [1, 1, 0, 1, 0, 0]
noncomputable def np0 : Code := cutC (bodyOf Tryd.f54) [0]
noncomputable def np1 : Code := cutC (bodyOf Tryd.f54) [1, 0]
noncomputable def np2 : Code := cutC (bodyOf Tryd.f54) [1, 1, 0, 0]
noncomputable def np3 : Code := cutC (bodyOf Tryd.f54) [1, 1, 1]
theorem f54b : Tryd.f54.body = some (.seq np0 (.seq np1 (.seq (.seq np2 (.block 0 (.loop npLoop))) np3))) := rfl

def NPI (s : List UInt8) (S0 : St) (m : Nat) (fs : FS) : Prop :=
  ∃ i, i + m = s.length ∧ fs.t 0 = .str s ∧ fs.t 4 = .int .i64 (val (s.take i) : Int) ∧ fs.t 11 = .int .i64 s.length ∧ fs.t 12 = .int .i64 i ∧ fs.S = S0 ∧ (s.take i).all isDig = true ∧ val (s.take i) ≤ 9223372036854775807
def NPQ (s : List UInt8) (S0 : St) (r : Out × FS) : Prop :=
  r.2.S = S0 ∧ ((r.1 = .exit 0 ∧ r.2.t 0 = .str s ∧ r.2.t 4 = .int .i64 (val s : Int) ∧ s.all isDig = true ∧ val s ≤ 9223372036854775807) ∨ (r.1 = .ret ∧ r.2.t 2 = .int .i64 0 ∧ r.2.t 3 = .bool false ∧ ¬ (s.all isDig = true ∧ val s ≤ 9223372036854775807)))

set_option maxHeartbeats 4000000 in
theorem np_round (n : Nat) (s : List UInt8) (S0 : St) (hs : s.length ≤ 1048576) (m : Nat) (fs : FS) (h : NPI s S0 m fs) :
    ∃ o fs', evCode ⟨Tryd.prog, E.esc 54, n + 2⟩ (ev Tryd.prog E (n + 2)) (E.ps 54) (n + 2) npLoop fs = some (o, fs') ∧ ((o = .norm ∧ ∃ m', m' < m ∧ NPI s S0 m' fs') ∨ (o ≠ .norm ∧ NPQ s S0 (o, fs'))) := by
  obtain ⟨t, b, v, S⟩ := fs
  obtain ⟨i, hi, h0, h4, h11, h12, hS, hall, hval⟩ := h
  simp only at h0 h4 h11 h12 hS
  subst hS
  cases m with
  | zero =>
    have hi' : i = s.length := by omega
    subst hi'
    rw [List.take_length] at hall hval h4
    refine ⟨.exit 0, _, by
      simp (disch := first | (simp only [List.length_append, List.length_cons, List.length_nil]; omega) | (simp; done) | assumption) [AV.cells?, AV.isCell, npLoop, cutC, bodyOf, Tryd.f54, h0, h4, h11, h12, bq3]
      rfl, .inr ⟨by simp, rfl, .inl ⟨rfl, by simp [upd, h0], by simp [upd, h4], hall, hval⟩⟩⟩
  | succ m =>
    have hlt : i < s.length := by omega
    have hltz : (i : Int) < s.length := by omega
    have hxe : s[i]? = some s[i] := List.getElem?_eq_getElem hlt
    have hmem : s[i] ∈ s := List.getElem_mem hlt
    have hidx : evIndex Tryd.prog 9 (.str s) (.int .i64 (i : Int)) = some (.int .u8 (s[i].toNat : Int)) := by simp [evIndex, sq9, hlt]
    have htake : s.take (i + 1) = s.take i ++ [s[i]] := by rw [List.take_add_one, hxe]; rfl
    have hvs : val (s.take (i + 1)) = val (s.take i) * 10 + (s[i].toNat - 48) := by rw [htake, val_snoc]
    have hvle := val_take s (i + 1)
    have hw : IntKind.i64.wrap ((i : Int) + 1) = (i : Int) + 1 := wrap64 _ (by omega)
    generalize s[i] = x at *
    have hx256 := x.toNat_lt
    by_cases g1 : (x.toNat : Int) < 48
    · refine ⟨.ret, _, by
        simp (disch := first | (simp only [List.length_append, List.length_cons, List.length_nil]; omega) | (simp; done) | assumption) [AV.cells?, AV.isCell, -evIndex, npLoop, cutC, bodyOf, Tryd.f54, h0, h4, h11, h12, bq3, bq5, hlt, hltz, hidx, g1]
        rfl, .inr ⟨by simp, rfl, .inr ⟨rfl, by simp [upd], by simp [upd], fun ⟨ha, _⟩ => ?_⟩⟩⟩
      have := List.all_eq_true.1 ha x hmem
      simp [isDig] at this
      omega
    by_cases g2 : 57 < (x.toNat : Int)
    · refine ⟨.ret, _, by
        simp (disch := first | (simp only [List.length_append, List.length_cons, List.length_nil]; omega) | (simp; done) | assumption) [AV.cells?, AV.isCell, -evIndex, npLoop, cutC, bodyOf, Tryd.f54, h0, h4, h11, h12, bq3, bq5, hlt, hltz, hidx, g1, g2]
        rfl, .inr ⟨by simp, rfl, .inr ⟨rfl, by simp [upd], by simp [upd], fun ⟨ha, _⟩ => ?_⟩⟩⟩
      have := List.all_eq_true.1 ha x hmem
      simp [isDig] at this
      omega
    have hM := ev_Mul n (val (s.take i)) (by omega) S
    have hsub : IntKind.u8.wrap ((x.toNat : Int) - 48) = ((x.toNat - 48 : Nat) : Int) := by rw [wrapu8 _ (by omega)]; omega
    have hcv : IntKind.i64.wrap ((x.toNat - 48 : Nat) : Int) = ((x.toNat - 48 : Nat) : Int) := wrap64 _ (by omega)
    generalize hd : x.toNat - 48 = d at *
    have hdig : isDig x = true := by simp [isDig]; omega
    by_cases k1 : ((val (s.take i) * 10 : Nat) : Int) ≤ 9223372036854775807
    · rw [if_pos k1, decide_eq_true k1] at hM
      have hA := ev_Add (n + 1) ((val (s.take i) * 10 : Nat) : Int) (d : Int) (by omega) (by omega) S
      have hsum : ((val (s.take i) * 10 : Nat) : Int) + (d : Int) = (val (s.take (i + 1)) : Int) := by rw [hvs]; omega
      rw [hsum] at hA
      generalize hv2 : val (s.take (i + 1)) = v2 at *
      generalize val (s.take i) = v1 at *
      generalize v1 * 10 = v10 at *
      by_cases k2 : (v2 : Int) ≤ 9223372036854775807
      · rw [if_pos k2, decide_eq_true k2] at hA
        refine ⟨.norm, _, by
          simp (disch := first | (simp only [List.length_append, List.length_cons, List.length_nil]; omega) | (simp; done) | assumption) [AV.cells?, AV.isCell, -evIndex, npLoop, cutC, bodyOf, Tryd.f54, h0, h4, h11, h12, bq3, bq5, iq5, iq2, hlt, hltz, hidx, g1, g2, hM, hsub, hcv, hA]
          rfl, .inl ⟨rfl, m, by omega, i + 1, by omega, by simp [upd, h0], by rw [hv2]; simp [upd], by simp [upd, h11], by simp [upd, hw], rfl, by rw [htake, List.all_append, hall]; simp [hdig], by rw [hv2]; omega⟩⟩
      · rw [if_neg k2, decide_eq_false k2] at hA
        refine ⟨.ret, _, by
          simp (disch := first | (simp only [List.length_append, List.length_cons, List.length_nil]; omega) | (simp; done) | assumption) [AV.cells?, AV.isCell, -evIndex, npLoop, cutC, bodyOf, Tryd.f54, h0, h4, h11, h12, bq3, bq5, iq5, iq2, hlt, hltz, hidx, g1, g2, hM, hsub, hcv, hA]
          rfl, .inr ⟨by simp, rfl, .inr ⟨rfl, by simp [upd], by simp [upd], fun ⟨_, hv⟩ => by omega⟩⟩⟩
    · rw [if_neg k1, decide_eq_false k1] at hM
      have hA := ev_Add (n + 1) 0 (d : Int) (by omega) (by omega) S
      rw [Int.zero_add, if_pos (by omega), decide_eq_true (by omega)] at hA
      generalize val (s.take (i + 1)) = v2 at *
      generalize val (s.take i) = v1 at *
      refine ⟨.ret, _, by
        simp (disch := first | (simp only [List.length_append, List.length_cons, List.length_nil]; omega) | (simp; done) | assumption) [AV.cells?, AV.isCell, -evIndex, npLoop, cutC, bodyOf, Tryd.f54, h0, h4, h11, h12, bq3, bq5, iq5, iq2, hlt, hltz, hidx, g1, g2, hM, hsub, hcv, hA]
        rfl, .inr ⟨by simp, rfl, .inr ⟨rfl, by simp [upd], by simp [upd], fun ⟨_, hv⟩ => by omega⟩⟩⟩

theorem ev_Parse (n : Nat) (s : List UInt8) (hs : s.length ≤ 1048576) (hn : s.length < n) (hn2 : 40 ≤ n) (S : St) :
    ev Tryd.prog E (n + 3) 54 [.str s] S = some (.ret (match parseN s with | some v => .tup [.int .i64 (v : Int), .bool true] | none => .tup [.int .i64 0, .bool false]), S) := by
  rw [show n + 3 = (n + 2) + 1 from rfl, ev_enter (n := n + 2) (show E.ok 54 = true from rfl) Tryd.func54 f54b (Nat.le_of_ble_eq_true rfl) (by decide +kernel)]
  obtain ⟨⟨o, t, b, v, S'⟩, hr, hS, hq⟩ := iter_meas (fun m fs h => np_round n s S hs m fs h) s.length (n + 2)
    ⟨upd 12 (.int .i64 0) (upd 11 (.int .i64 s.length) (upd 10 (.str s) (upd 4 (.int .i64 0) (upd 3 (.bool false) (upd 2 (.int .i64 0) (argsA [.str s])))))), fun _ => (0, []), 6, S⟩ (by omega)
    ⟨0, by omega, by simp [upd, argsA], by simp [upd, val], by simp [upd], by simp [upd], rfl, by simp, by simp [val]⟩
  simp only at hS hq
  subst hS
  rcases hq with ⟨rfl, h0, h4, ha, hv⟩ | ⟨rfl, h2, h3, hno⟩
  · have hD : ev Tryd.prog E (n + 2) 62 [.int .i64 (val s : Int)] S' = some (.ret (.str (dec (val s))), S') := ev_dec (n + 1) (by omega) (val s) (by unfold in64; omega) S'
    cases e : (dec (val s) == s)
    · have hp : parseN s = none := by
        unfold parseN
        rw [if_neg]
        rintro ⟨_, _, h⟩
        rw [h] at e; simp at e
      rw [hp]
      generalize dec (val s) = ds at *
      simp (disch := first | (simp only [List.length_append, List.length_cons, List.length_nil]; omega) | (simp; done) | assumption) [AV.cells?, AV.isCell, np0, np1, np2, np3, cutC, bodyOf, Tryd.f54, sq9, bq9, hr, h0, h4, hD, bne, e, fin_ib]
    · have hp : parseN s = some (val s) := by
        unfold parseN
        rw [if_pos ⟨ha, hv, by simpa using e⟩]
      rw [hp]
      generalize dec (val s) = ds at *
      simp (disch := first | (simp only [List.length_append, List.length_cons, List.length_nil]; omega) | (simp; done) | assumption) [AV.cells?, AV.isCell, np0, np1, np2, np3, cutC, bodyOf, Tryd.f54, sq9, bq9, hr, h0, h4, hD, bne, e, fin_ib]
  · have hp : parseN s = none := by
      unfold parseN
      rw [if_neg fun h => hno ⟨h.1, h.2.1⟩]
    rw [hp]
    simp (disch := first | (simp only [List.length_append, List.length_cons, List.length_nil]; omega) | (simp; done) | assumption) [AV.cells?, AV.isCell, np0, np1, np2, np3, cutC, bodyOf, Tryd.f54, sq9, hr, h2, h3, fin_ib]
end Go.Proofs.YtemggoaefohliaaDoor.LX

/- The lexer: names, numbers, texts, evaluated. No condition. -/
namespace Go.Proofs.YtemggoaefohliaaDoor.LX
set_option linter.unusedVariables false
set_option linter.unusedSimpArgs false
open Go AE EX PT NF
set_option maxRecDepth 100000

theorem LSt_get (S0 : St) (s : List UInt8) (p : Nat) (out : List Tk) : (LSt S0 s p out).H[S0.H.length]? = some ⟨61, [.str s, .int .i64 p, lv S0 out]⟩ := HS_get _ _
/-- behind an error in a word -/
def ErrSt (S0 : St) (s : List UInt8) (p : Nat) (out : List Tk) (c : Int) : St := ⟨HS S0 ⟨61, [.str s, .int .i64 p, lv S0 out]⟩ ++ [⟨58, [.int .i64 c, .int .i64 p, .nilif]⟩], S0.T ++ lT out⟩
def errV (S0 : St) : AV := .iface 55 (.ptr (S0.H.length + 1) 0)
theorem ev_NewL (n : Nat) (c : Int) (S0 : St) (s : List UInt8) (p : Nat) (out : List Tk) : ev Tryd.prog E (n + 1) 17 [.int .i64 c, .int .i64 (p : Int)] (LSt S0 s p out) = some (.ret (errV S0), ErrSt S0 s p out c) := by
  rw [ev_New]
  simp [LSt, HS_len, errV, ErrSt]
theorem fin_err (S0 : St) (s : List UInt8) (p : Nat) (out : List Tk) (c : Int) : finish (LSt S0 s p out) (errV S0) (ErrSt S0 s p out c) = some (errV S0, ErrSt S0 s p out c) := by
  unfold finish
  simp [errV, AV.sealed, AV.strip, AV.low, LSt, HS_len]
theorem bT1 (k : Int) (s : List UInt8) : evBuild Tryd.prog 46 [(0, .int .i64 k), (1, .str s)] = some (Tk.emb ⟨k, s, 0, 0⟩) := by
  have : Tk.emb ⟨k, s, 0, 0⟩ = .agg [.int .i64 k, .str s, .int .i64 0, .int .i64 0] := rfl
  rw [this]
  simp [evBuild, tp46, tz46, fillA, tl46_0, tl46_1, AV.cells?, wrc]
theorem bT2 (k : Int) (s : List UInt8) (v : Int) : evBuild Tryd.prog 46 [(0, .int .i64 k), (1, .str s), (2, .int .i64 v)] = some (Tk.emb ⟨k, s, v, 0⟩) := by
  have : Tk.emb ⟨k, s, v, 0⟩ = .agg [.int .i64 k, .str s, .int .i64 v, .int .i64 0] := rfl
  rw [this]
  simp [evBuild, tp46, tz46, fillA, tl46_0, tl46_1, tl46_2, AV.cells?, wrc]
def sub (s : List UInt8) (p q : Nat) : List UInt8 := (s.take q).drop p
theorem sl2 (s : List UInt8) (p q : Nat) (h1 : p ≤ q) (h2 : q ≤ s.length) : evSlice Tryd.prog 9 (.str s) (some (.int .i64 (p : Int))) (some (.int .i64 (q : Int))) = some (.str (sub s p q)) := by
  simp [evSlice, sq9, sub]
  omega
theorem sl1 (s : List UInt8) (p : Nat) (h1 : p ≤ s.length) : evSlice Tryd.prog 9 (.str s) (some (.int .i64 (p : Int))) none = some (.str (s.drop p)) := by
  simp [evSlice, sq9]
  omega

/-- what a step of the lexer gives: an error's code, or a word and where it ends -/
inductive LR where
  | err (c : Int)
  | word (t : Tk) (to : Nat)
def LR.put (p : Nat) : LR → LR
  | .err c => .err c
  | .word t to => .word { t with p := p } to
/-- the answer's shape -/
def ans (S0 : St) (s : List UInt8) (p : Nat) (out : List Tk) : LR → Option (Res × St)
  | .err c => some (.ret (errV S0), ErrSt S0 s p out c)
  | .word t to => some (.ret .nilif, LSt S0 s to (out ++ [t]))

theorem ans_err (S0 : St) (s : List UInt8) (p : Nat) (out : List Tk) (c : Int) : ans S0 s p out (.err c) = some (.ret (errV S0), ErrSt S0 s p out c) := rfl
theorem ans_word (S0 : St) (s : List UInt8) (p : Nat) (out : List Tk) (t : Tk) (to : Nat) : ans S0 s p out (.word t to) = some (.ret .nilif, LSt S0 s to (out ++ [t])) := rfl

def namedR (s : List UInt8) (p : Nat) : LR := if 16 < far s p - p then .err 5 else .word ⟨1, sub s p (far s p), 0, p⟩ (far s p)
theorem ev_named (n : Nat) (S0 : St) (s : List UInt8) (p : Nat) (out : List Tk) (hs : s.length ≤ 1048576) (hp : p ≤ s.length) (hn : s.length < n) (hl : out.length ≤ 1048576) :
    ev Tryd.prog E (n + 3) 39 [.ptr S0.H.length 0] (LSt S0 s p out) = ans S0 s p out (namedR s p) := by
  have hL := LSt_get S0 s p out
  have hW := ev_word n S0.H.length s p _ _ hL hs hp hn
  have hg := far_ge s p
  have hle := far_le hp
  have hE := ev_NewL (n + 1) 5 S0 s p out
  have hP := ev_put (n + 1) S0 s p out ⟨1, sub s p (far s p), 0, 0⟩ (far s p) hl
  have hf1 := fin_err S0 s p out 5
  have hf2 := fin_putv S0 s p (far s p) out ⟨1, sub s p (far s p), 0, p⟩ .nilif rfl
  have hsl := sl2 s p (far s p) hg hle
  have hbd := bT1 1 (sub s p (far s p))
  have hps : E.ps 39 4 = [(4, 8)] := rfl
  have hw : IntKind.i64.wrap ((far s p : Int) - p) = ((far s p - p : Nat) : Int) := by rw [wrap64 _ (by omega)]; omega
  simp only at hP hf2
  by_cases h16 : 16 < far s p - p
  · have h16z : (16 : Int) < ((far s p - p : Nat) : Int) := by omega
    rw [show namedR s p = .err 5 from if_pos h16]
    rw [ans_err]
    generalize LSt S0 s p out = L at *
    generalize ErrSt S0 s p out 5 = LE at *
    generalize errV S0 = eV at *
    generalize far s p - p = d at *
    generalize far s p = q at *
    rw [show n + 3 = (n + 2) + 1 from rfl, ev_enter (n := n + 2) (show E.ok 39 = true from rfl) Tryd.func39 (fn := Tryd.f39) rfl (Nat.le_of_ble_eq_true rfl) (by decide +kernel)]
    simp (disch := first | (simp only [List.length_append, List.length_cons, List.length_nil]; omega) | (simp; done) | assumption) [AV.cells?, AV.isCell, -evBuild, -evSlice, Tryd.f39, E_esc, hL, tq61_0, tq61_1, tk61, k9, c9, a9, k3, c3, a3, sq9, bq3, hW, hw, h16, h16z, hE, hf1]
  · have h16z : ¬ (16 : Int) < ((far s p - p : Nat) : Int) := by omega
    rw [show namedR s p = .word ⟨1, sub s p (far s p), 0, p⟩ (far s p) from if_neg h16]
    rw [ans_word]
    generalize LSt S0 s (far s p) _ = L2 at *
    generalize LSt S0 s p out = L at *
    generalize sub s p (far s p) = sb at *
    generalize Tk.emb ⟨1, sb, 0, 0⟩ = te at *
    generalize far s p - p = d at *
    generalize far s p = q at *
    rw [show n + 3 = (n + 2) + 1 from rfl, ev_enter (n := n + 2) (show E.ok 39 = true from rfl) Tryd.func39 (fn := Tryd.f39) rfl (Nat.le_of_ble_eq_true rfl) (by decide +kernel)]
    simp (disch := first | (simp only [List.length_append, List.length_cons, List.length_nil]; omega) | (simp; done) | assumption) [AV.cells?, AV.isCell, -evBuild, -evSlice, Tryd.f39, E_esc, hL, tq61_0, tq61_1, tk61, k9, c9, a9, k3, c3, a3, sq9, bq3, hW, hw, h16, h16z, hsl, hbd, hP, hf2, hps]

/-! ### numbers -/
def numberedR (s : List UInt8) (p : Nat) : LR := match parseN (sub s p (far s p)) with
  | some v => .word ⟨2, sub s p (far s p), v, p⟩ (far s p)
  | none => .err 16
theorem sub_len (s : List UInt8) (p q : Nat) : (sub s p q).length ≤ s.length := by
  simp [sub]; omega
theorem ev_numbered (n : Nat) (S0 : St) (s : List UInt8) (p : Nat) (out : List Tk) (hs : s.length ≤ 1048576) (hp : p ≤ s.length) (hn : s.length + 40 < n) (hl : out.length ≤ 1048576) :
    ev Tryd.prog E (n + 4) 40 [.ptr S0.H.length 0] (LSt S0 s p out) = ans S0 s p out (numberedR s p) := by
  have hL := LSt_get S0 s p out
  have hW := ev_word (n + 1) S0.H.length s p _ _ hL hs hp (by omega)
  have hg := far_ge s p
  have hle := far_le hp
  have hE := ev_NewL (n + 2) 16 S0 s p out
  have hf1 := fin_err S0 s p out 16
  have hsl := sl2 s p (far s p) hg hle
  have hps2 : E.ps 40 2 = [(3, 7)] := rfl
  have hps5 : E.ps 40 5 = [(4, 8)] := rfl
  have hN := ev_Parse n (sub s p (far s p)) (by have := sub_len s p (far s p); omega) (by have := sub_len s p (far s p); omega) (by omega) (LSt S0 s p out)
  cases hv : parseN (sub s p (far s p)) with
  | none =>
    rw [hv] at hN
    rw [show numberedR s p = .err 16 by unfold numberedR; rw [hv]]
    rw [ans_err]
    simp only at hN
    generalize LSt S0 s p out = L at *
    generalize ErrSt S0 s p out 16 = LE at *
    generalize errV S0 = eV at *
    generalize sub s p (far s p) = sb at *
    generalize far s p = q at *
    rw [show n + 4 = (n + 3) + 1 from rfl, ev_enter (n := n + 3) (show E.ok 40 = true from rfl) Tryd.func40 (fn := Tryd.f40) rfl (Nat.le_of_ble_eq_true rfl) (by decide +kernel)]
    simp (disch := first | (simp only [List.length_append, List.length_cons, List.length_nil]; omega) | (simp; done) | assumption) [AV.cells?, AV.isCell, -evBuild, -evSlice, Tryd.f40, E_esc, hL, tq61_0, tq61_1, tk61, k9, c9, a9, k3, c3, a3, sq9, bq3, hW, hsl, hN, hE, hf1, hps2]
  | some v =>
    rw [hv] at hN
    have hP := ev_put (n + 2) S0 s p out ⟨2, sub s p (far s p), v, 0⟩ (far s p) hl
    have hf2 := fin_putv S0 s p (far s p) out ⟨2, sub s p (far s p), v, p⟩ .nilif rfl
    have hbd := bT2 2 (sub s p (far s p)) v
    simp only at hP hf2 hN
    rw [show numberedR s p = .word ⟨2, sub s p (far s p), v, p⟩ (far s p) by unfold numberedR; rw [hv]]
    rw [ans_word]
    generalize LSt S0 s (far s p) _ = L2 at *
    generalize LSt S0 s p out = L at *
    generalize sub s p (far s p) = sb at *
    generalize Tk.emb ⟨2, sb, v, 0⟩ = te at *
    generalize far s p = q at *
    rw [show n + 4 = (n + 3) + 1 from rfl, ev_enter (n := n + 3) (show E.ok 40 = true from rfl) Tryd.func40 (fn := Tryd.f40) rfl (Nat.le_of_ble_eq_true rfl) (by decide +kernel)]
    simp (disch := first | (simp only [List.length_append, List.length_cons, List.length_nil]; omega) | (simp; done) | assumption) [AV.cells?, AV.isCell, -evBuild, -evSlice, Tryd.f40, E_esc, hL, tq61_0, tq61_1, tk61, k9, c9, a9, k3, c3, a3, sq9, bq3, hW, hsl, hN, hbd, hP, hf2, hps2, hps5]
end Go.Proofs.YtemggoaefohliaaDoor.LX

/- The lexer: texts and signs, evaluated. No condition. -/
namespace Go.Proofs.YtemggoaefohliaaDoor.LX
set_option linter.unusedVariables false
set_option linter.unusedSimpArgs false
open Go AE EX PT NF
set_option maxRecDepth 100000

theorem indexByte_lt : ∀ (l : List UInt8) (c : UInt8) (k : Nat), Lib.indexByte l c = (k : Int) → k < l.length
  | [], c, k, h => by simp [Lib.indexByte] at h
  | b :: l, c, k, h => by
    have hg := Lib.indexByte_ge l c
    cases e : (b == c)
    · have h1 : Lib.indexByte (b :: l) c = if Lib.indexByte l c = -1 then -1 else Lib.indexByte l c + 1 := by simp [Lib.indexByte, e]
      rw [h1] at h
      split at h
      · omega
      · have := indexByte_lt l c (k - 1) (by omega)
        simp; omega
    · simp [Lib.indexByte, e] at h
      simp; omega

def quotedR (s : List UInt8) (p : Nat) : LR :=
  if Lib.indexByte (s.drop (p + 1)) 34 < 0 then .err 16
  else if 0 ≤ Lib.indexByte (sub s (p + 1) (p + 1 + (Lib.indexByte (s.drop (p + 1)) 34).toNat)) 10 then .err 16
  else if plainB (sub s (p + 1) (p + 1 + (Lib.indexByte (s.drop (p + 1)) 34).toNat)) = true then .word ⟨3, sub s (p + 1) (p + 1 + (Lib.indexByte (s.drop (p + 1)) 34).toNat), 0, p⟩ (p + (Lib.indexByte (s.drop (p + 1)) 34).toNat + 2)
  else .err 5

set_option maxHeartbeats 4000000 in
theorem ev_quoted (n : Nat) (S0 : St) (s : List UInt8) (p : Nat) (out : List Tk) (hs : s.length ≤ 1048576) (hp : p < s.length) (hl : out.length ≤ 1048576) :
    ev Tryd.prog E (n + 3) 41 [.ptr S0.H.length 0] (LSt S0 s p out) = ans S0 s p out (quotedR s p) := by
  have hL := LSt_get S0 s p out
  have hE16 := ev_NewL (n + 1) 16 S0 s p out
  have hE5 := ev_NewL (n + 1) 5 S0 s p out
  have hf16 := fin_err S0 s p out 16
  have hf5 := fin_err S0 s p out 5
  have hps1 : E.ps 41 1 = [(3, 7)] := rfl
  have hps2 : E.ps 41 2 = [(6, 10), (6, 15), (10, 15)] := rfl
  have hps4 : E.ps 41 4 = [(3, 7), (3, 12), (7, 12)] := rfl
  have hs1 := sl1 s (p + 1) (by omega)
  have hi34 : ev Tryd.prog E (n + 2) 38 [.str (s.drop (p + 1)), .int .u8 34] (LSt S0 s p out) = some (.ret (.int .i64 (Lib.indexByte (s.drop (p + 1)) 34)), LSt S0 s p out) := ev_indexByte (n + 1) _ 34 _
  have hw1 : IntKind.i64.wrap ((p : Int) + 1) = ((p + 1 : Nat) : Int) := by rw [wrap64 _ (by omega)]; omega
  by_cases h34 : Lib.indexByte (s.drop (p + 1)) 34 < 0
  · rw [show quotedR s p = .err 16 from if_pos h34, ans_err]
    generalize Lib.indexByte (s.drop (p + 1)) 34 = i34 at *
    generalize s.drop (p + 1) = sd at *
    generalize LSt S0 s p out = L at *
    generalize ErrSt S0 s p out 16 = LE at *
    generalize errV S0 = eV at *
    generalize p + 1 = P1 at *
    rw [show n + 3 = (n + 2) + 1 from rfl, ev_enter (n := n + 2) (show E.ok 41 = true from rfl) Tryd.func41 (fn := Tryd.f41) rfl (Nat.le_of_ble_eq_true rfl) (by decide +kernel)]
    simp (disch := first | (simp only [List.length_append, List.length_cons, List.length_nil]; omega) | (simp; done) | assumption) [AV.cells?, AV.isCell, -evBuild, -evSlice, Tryd.f41, E_esc, hL, tq61_0, tq61_1, tk61, k9, c9, a9, k3, c3, a3, sq9, bq3, hw1, hs1, hi34, h34, hE16, hf16, hps1, hps2]
  obtain ⟨k, hk⟩ : ∃ k : Nat, Lib.indexByte (s.drop (p + 1)) 34 = (k : Int) := ⟨(Lib.indexByte (s.drop (p + 1)) 34).toNat, by omega⟩
  have hkl := indexByte_lt _ _ _ hk
  simp only [List.length_drop] at hkl
  have hkt : (Lib.indexByte (s.drop (p + 1)) 34).toNat = k := by omega
  have hs2 := sl2 s (p + 1) (p + 1 + k) (by omega) (by omega)
  have hi10 : ev Tryd.prog E (n + 2) 38 [.str (sub s (p + 1) (p + 1 + k)), .int .u8 10] (LSt S0 s p out) = some (.ret (.int .i64 (Lib.indexByte (sub s (p + 1) (p + 1 + k)) 10)), LSt S0 s p out) := ev_indexByte (n + 1) _ 10 _
  have hPl := ev_lPlain n (sub s (p + 1) (p + 1 + k)) (LSt S0 s p out)
  have hw2 : IntKind.i64.wrap (((p + 1 : Nat) : Int) + (k : Int)) = ((p + 1 + k : Nat) : Int) := by rw [wrap64 _ (by omega)]; omega
  have hw3 : IntKind.i64.wrap ((p : Int) + (k : Int)) = ((p + k : Nat) : Int) := by rw [wrap64 _ (by omega)]; omega
  have hw4 : IntKind.i64.wrap (((p + k : Nat) : Int) + 2) = ((p + k + 2 : Nat) : Int) := by rw [wrap64 _ (by omega)]; omega
  have hP := ev_put (n + 1) S0 s p out ⟨3, sub s (p + 1) (p + 1 + k), 0, 0⟩ (p + k + 2) hl
  have hf2 := fin_putv S0 s p (p + k + 2) out ⟨3, sub s (p + 1) (p + 1 + k), 0, p⟩ .nilif rfl
  have hbd := bT1 3 (sub s (p + 1) (p + 1 + k))
  have hk0 : ¬ (k : Int) < 0 := by omega
  simp only at hP hf2
  have hQ : quotedR s p = if 0 ≤ Lib.indexByte (sub s (p + 1) (p + 1 + k)) 10 then .err 16 else if plainB (sub s (p + 1) (p + 1 + k)) = true then .word ⟨3, sub s (p + 1) (p + 1 + k), 0, p⟩ (p + k + 2) else .err 5 := by
    unfold quotedR
    rw [if_neg h34, hkt]
  rw [hQ]
  rw [hk] at hi34
  clear hQ h34 hkl hkt
  by_cases h10 : 0 ≤ Lib.indexByte (sub s (p + 1) (p + 1 + k)) 10
  · rw [if_pos h10, ans_err]
    generalize Lib.indexByte (sub s (p + 1) (p + 1 + k)) 10 = i10 at *
    generalize sub s (p + 1) (p + 1 + k) = sb at *
    clear hk
    generalize s.drop (p + 1) = sd at *
    generalize LSt S0 s p out = L at *
    generalize ErrSt S0 s p out 16 = LE at *
    generalize errV S0 = eV at *
    generalize p + 1 + k = Q1 at *
    generalize p + 1 = P1 at *
    rw [show n + 3 = (n + 2) + 1 from rfl, ev_enter (n := n + 2) (show E.ok 41 = true from rfl) Tryd.func41 (fn := Tryd.f41) rfl (Nat.le_of_ble_eq_true rfl) (by decide +kernel)]
    simp (disch := first | (simp only [List.length_append, List.length_cons, List.length_nil]; omega) | (simp; done) | assumption) [AV.cells?, AV.isCell, -evBuild, -evSlice, Tryd.f41, E_esc, hL, tq61_0, tq61_1, tk61, k9, c9, a9, k3, c3, a3, sq9, bq3, hw1, hw2, hs1, hs2, hi34, hi10, hk0, h10, hE16, hf16, hps1, hps2]
  rw [if_neg h10]
  cases hpl : plainB (sub s (p + 1) (p + 1 + k))
  · rw [hpl] at hPl
    rw [if_neg (by simp), ans_err]
    generalize Lib.indexByte (sub s (p + 1) (p + 1 + k)) 10 = i10 at *
    clear hpl
    generalize sub s (p + 1) (p + 1 + k) = sb at *
    clear hk
    generalize s.drop (p + 1) = sd at *
    generalize LSt S0 s p out = L at *
    generalize ErrSt S0 s p out 5 = LE at *
    generalize errV S0 = eV at *
    generalize p + 1 + k = Q1 at *
    generalize p + 1 = P1 at *
    rw [show n + 3 = (n + 2) + 1 from rfl, ev_enter (n := n + 2) (show E.ok 41 = true from rfl) Tryd.func41 (fn := Tryd.f41) rfl (Nat.le_of_ble_eq_true rfl) (by decide +kernel)]
    simp (disch := first | (simp only [List.length_append, List.length_cons, List.length_nil]; omega) | (simp; done) | assumption) [AV.cells?, AV.isCell, -evBuild, -evSlice, Tryd.f41, E_esc, hL, tq61_0, tq61_1, tk61, k9, c9, a9, k3, c3, a3, sq9, bq3, hw1, hw2, hs1, hs2, hi34, hi10, hk0, h10, hPl, hE5, hf5, hps1, hps2, hps4]
  · rw [hpl] at hPl
    rw [if_pos rfl, ans_word]
    generalize Lib.indexByte (sub s (p + 1) (p + 1 + k)) 10 = i10 at *
    clear hpl
    generalize LSt S0 s (p + k + 2) _ = L2 at *
    generalize sub s (p + 1) (p + 1 + k) = sb at *
    generalize Tk.emb ⟨3, sb, 0, 0⟩ = te at *
    clear hk
    generalize s.drop (p + 1) = sd at *
    generalize LSt S0 s p out = L at *
    generalize p + 1 + k = Q1 at *
    generalize p + 1 = P1 at *
    generalize p + k + 2 = R2 at *
    generalize p + k = R1 at *
    rw [show n + 3 = (n + 2) + 1 from rfl, ev_enter (n := n + 2) (show E.ok 41 = true from rfl) Tryd.func41 (fn := Tryd.f41) rfl (Nat.le_of_ble_eq_true rfl) (by decide +kernel)]
    simp (disch := first | (simp only [List.length_append, List.length_cons, List.length_nil]; omega) | (simp; done) | assumption) [AV.cells?, AV.isCell, -evBuild, -evSlice, Tryd.f41, E_esc, hL, tq61_0, tq61_1, tk61, k9, c9, a9, k3, c3, a3, sq9, bq3, hw1, hw2, hw3, hw4, hs1, hs2, hi34, hi10, hk0, h10, hPl, hbd, hP, hf2, hps1, hps2, hps4]
end Go.Proofs.YtemggoaefohliaaDoor.LX

/- The lexer: signs, evaluated. No condition. -/
namespace Go.Proofs.YtemggoaefohliaaDoor.LX
set_option linter.unusedVariables false
set_option linter.unusedSimpArgs false
open Go AE EX PT NF
set_option maxRecDepth 100000

def pre (s q : List UInt8) : Bool := decide (q.length ≤ s.length) && (s.take q.length == q)
theorem ev_pre0 (n : Nat) (s q : List UInt8) (S : St) : ev Tryd.prog E (n + 1) 63 [.str s, .str q] S = some (.ret (.bool (pre s q)), S) := by
  rw [ev_enter (n := n) (show E.ok 63 = true from rfl) Tryd.func63 (fn := Tryd.f63) rfl (Nat.le_of_ble_eq_true rfl) (by decide +kernel)]
  by_cases h : q.length ≤ s.length
  · have hz : (q.length : Int) ≤ (s.length : Int) := by omega
    have hsl : evSlice Tryd.prog 9 (.str s) none (some (.int .i64 (q.length : Int))) = some (.str (s.take q.length)) := by
      simp [evSlice, sq9]; omega
    have hp : pre s q = (s.take q.length == q) := by simp [pre, h]
    rw [hp]
    generalize s.take q.length = st at *
    simp (disch := first | (simp only [List.length_append, List.length_cons, List.length_nil]; omega) | (simp; done) | assumption) [AV.cells?, AV.isCell, -evSlice, Tryd.f63, bq3, bq9, sq9, h, hz, hsl]
  · have hz : ¬ (q.length : Int) ≤ (s.length : Int) := by omega
    have hp : pre s q = false := by simp [pre, h]
    rw [hp]
    simp (disch := first | (simp only [List.length_append, List.length_cons, List.length_nil]; omega) | (simp; done) | assumption) [AV.cells?, AV.isCell, -evSlice, Tryd.f63, bq3, bq9, sq9, h, hz]
theorem ev_pre (n : Nat) (s q : List UInt8) (S : St) : ev Tryd.prog E (n + 2) 55 [.str s, .str q] S = some (.ret (.bool (pre s q)), S) := by
  have := ev_pre0 n s q S
  rw [show n + 2 = (n + 1) + 1 from rfl, ev_enter (n := n + 1) (show E.ok 55 = true from rfl) Tryd.func55 (fn := Tryd.f55) rfl (Nat.le_of_ble_eq_true rfl) (by decide +kernel)]
  simp (disch := first | (simp only [List.length_append, List.length_cons, List.length_nil]; omega) | (simp; done) | assumption) [AV.cells?, AV.isCell, Tryd.f55, this]

def sgL : List (List UInt8) := [[58, 61], [33, 61], [60, 61]]
def signsT : List UInt8 := [40, 41, 91, 93, 123, 125, 44, 59, 46, 43, 45, 42, 61, 60]
theorem z106 : zeroQ Tryd.prog 106 = some [.str [], .str [], .str []] := by kernel_rfl
theorem p106 : partsQ Tryd.prog 106 = true := by kernel_rfl
theorem q106 : arrQ Tryd.prog 106 = some (3, 9) := by kernel_rfl
theorem u106 : Tryd.prog.underlying 106 = some (.array 3 9) := by kernel_rfl
theorem kn9 : (Tryd.prog.underlying 9).isSome = true := by kernel_rfl
theorem sgB : evBuild Tryd.prog 106 [(0, .str [58, 61]), (1, .str [33, 61]), (2, .str [60, 61])] = some (.agg [.str [58, 61], .str [33, 61], .str [60, 61]]) := by
  simp [evBuild, p106, z106, fillA, placeQ, u106, c9, AV.cells?, wrc]
theorem sgI (i : Nat) (q : List UInt8) (h : sgL[i]? = some q) : evIndex Tryd.prog 106 (.agg [.str [58, 61], .str [33, 61], .str [60, 61]]) (.int .i64 (i : Int)) = some (.str q) := by
  match i, h with
  | 0, h => simp [sgL] at h; subst h; simp [evIndex, q106, kn9, c9, a9, rdc]
  | 1, h => simp [sgL] at h; subst h; simp [evIndex, q106, kn9, c9, a9, rdc]
  | 2, h => simp [sgL] at h; subst h; simp [evIndex, q106, kn9, c9, a9, rdc]
  | i + 3, h => simp [sgL] at h

noncomputable def sgLoop : Code := cutC (bodyOf Tryd.f42) [1, 0, 1, 0, 0]
noncomputable def sg0 : Code := cutC (bodyOf Tryd.f42) [0]
noncomputable def sg1 : Code := cutC (bodyOf Tryd.f42) [1, 0, 0]
noncomputable def sg2 : Code := cutC (bodyOf Tryd.f42) [1, 1]
theorem f42b : Tryd.f42.body = some (.seq sg0 (.seq (.seq sg1 (.block 0 (.loop sgLoop))) sg2)) := rfl

/-- the first of the signs of two letters that stands here -/
def sgAt (s : List UInt8) (p : Nat) : Option (List UInt8) := sgL.find? fun q => pre (s.drop p) q
def SGI (S0 : St) (s : List UInt8) (p : Nat) (out : List Tk) (m : Nat) (fs : FS) : Prop :=
  ∃ i, i + m = 3 ∧ fs.t 0 = .ptr S0.H.length 0 ∧ fs.t 5 = .agg [.str [58, 61], .str [33, 61], .str [60, 61]] ∧ fs.t 6 = .int .i64 i ∧ fs.S = LSt S0 s p out ∧ ∀ j q, j < i → sgL[j]? = some q → pre (s.drop p) q = false
def SGQ (S0 : St) (s : List UInt8) (p : Nat) (out : List Tk) (r : Out × FS) : Prop :=
  (r.1 = .exit 0 ∧ r.2.t 0 = .ptr S0.H.length 0 ∧ r.2.S = LSt S0 s p out ∧ sgAt s p = none) ∨ (r.1 = .ret ∧ r.2.t 2 = .nilif ∧ ∃ q, sgAt s p = some q ∧ r.2.S = LSt S0 s (p + 2) (out ++ [⟨4, q, 0, p⟩]))

set_option maxHeartbeats 2000000 in
theorem sg_round (n : Nat) (S0 : St) (s : List UInt8) (p : Nat) (out : List Tk) (hs : s.length ≤ 1048576) (hp : p < s.length) (hl : out.length ≤ 1048576) (m : Nat) (fs : FS) (h : SGI S0 s p out m fs) :
    ∃ o fs', evCode ⟨Tryd.prog, E.esc 42, n + 2⟩ (ev Tryd.prog E (n + 2)) (E.ps 42) (n + 2) sgLoop fs = some (o, fs') ∧ ((o = .norm ∧ ∃ m', m' < m ∧ SGI S0 s p out m' fs') ∨ (o ≠ .norm ∧ SGQ S0 s p out (o, fs'))) := by
  obtain ⟨t, b, v, S⟩ := fs
  obtain ⟨i, hi, h0, h5, h6, hS, hno⟩ := h
  simp only at h0 h5 h6 hS
  subst hS
  cases m with
  | zero =>
    have hi' : i = 3 := by omega
    subst hi'
    have hn : sgAt s p = none := by
      unfold sgAt
      rw [List.find?_eq_none]
      intro q hq
      obtain ⟨j, hj, rfl⟩ := List.getElem_of_mem hq
      have : j < 3 := hj
      simp [hno j _ this (List.getElem?_eq_getElem hj)]
    refine ⟨.exit 0, _, by
      simp (disch := first | (simp only [List.length_append, List.length_cons, List.length_nil]; omega) | (simp; done) | assumption) [AV.cells?, AV.isCell, sgLoop, cutC, bodyOf, Tryd.f42, h6, bq3]
      rfl, .inr ⟨by simp, .inl ⟨rfl, by simp [upd, h0], rfl, hn⟩⟩⟩
  | succ m =>
    have hlt : i < 3 := by omega
    obtain ⟨q, hq⟩ : ∃ q, sgL[i]? = some q := ⟨sgL[i]'(show i < sgL.length from hlt), List.getElem?_eq_getElem _⟩
    have hq2 : q.length = 2 := by
      match i, hq with
      | 0, h => simp [sgL] at h; subst h; rfl
      | 1, h => simp [sgL] at h; subst h; rfl
      | 2, h => simp [sgL] at h; subst h; rfl
      | i + 3, h => simp [sgL] at h
    have hIx := sgI i q hq
    have hL := LSt_get S0 s p out
    have hs1 := sl1 s p (by omega)
    have hPr := ev_pre n (s.drop p) q (LSt S0 s p out)
    have hw : IntKind.i64.wrap ((i : Int) + 1) = (i : Int) + 1 := wrap64 _ (by omega)
    have hltz : (i : Int) < 3 := by omega
    have hps4 : E.ps 42 4 = [(3, 7)] := rfl
    have hw2 : IntKind.i64.wrap ((p : Int) + 2) = ((p + 2 : Nat) : Int) := by rw [wrap64 _ (by omega)]; omega
    have hP := ev_put (n + 1) S0 s p out ⟨4, q, 0, 0⟩ (p + 2) hl
    have hbd := bT1 4 q
    simp only at hP
    generalize hA : AV.agg [.str [58, 61], .str [33, 61], .str [60, 61]] = arr at *
    cases hpr : pre (s.drop p) q
    · rw [hpr] at hPr
      generalize hLL : LSt S0 s p out = L at *
      refine ⟨.norm, _, by
        simp (disch := first | (simp only [List.length_append, List.length_cons, List.length_nil]; omega) | (simp; done) | assumption) [AV.cells?, AV.isCell, -evBuild, -evSlice, -evIndex, sgLoop, cutC, bodyOf, Tryd.f42, E_esc, h0, h5, h6, hL, hIx, tq61_0, tq61_1, tk61, k9, c9, a9, k3, c3, a3, sq9, bq3, hlt, hltz, hs1, hPr, hps4]
        rfl, .inl ⟨rfl, m, by omega, i + 1, by omega, by simp [upd, h0], by simp [upd, h5, hA], by simp [upd, hw], by rw [hLL], fun j q' hj hq' => by
          by_cases hji : j = i
          · subst hji; rw [hq] at hq'; cases hq'; exact hpr
          · exact hno j q' (by omega) hq'⟩⟩
    · rw [hpr] at hPr
      have hfind : sgAt s p = some q := by
        unfold sgAt
        match i, hq, hno with
        | 0, hq, hno => simp [sgL] at hq; subst hq; simp [sgL, hpr]
        | 1, hq, hno =>
          have k0 := hno 0 [58, 61] (by omega) rfl
          simp [sgL] at hq; subst hq; simp [sgL, List.find?, k0, hpr]
        | 2, hq, hno =>
          have k0 := hno 0 [58, 61] (by omega) rfl
          have k1 := hno 1 [33, 61] (by omega) rfl
          simp [sgL] at hq; subst hq; simp [sgL, List.find?, k0, k1, hpr]
        | i + 3, hq, _ => simp [sgL] at hq
      generalize hL2 : LSt S0 s (p + 2) _ = L2 at *
      generalize LSt S0 s p out = L at *
      generalize hP2 : p + 2 = P2 at *
      generalize Tk.emb ⟨4, q, 0, 0⟩ = te at *
      refine ⟨.ret, _, by
        simp (disch := first | (simp only [List.length_append, List.length_cons, List.length_nil]; omega) | (simp; done) | assumption) [AV.cells?, AV.isCell, -evBuild, -evSlice, -evIndex, sgLoop, cutC, bodyOf, Tryd.f42, E_esc, h0, h5, h6, hL, hIx, tq61_0, tq61_1, tk61, k9, c9, a9, k3, c3, a3, sq9, bq3, hlt, hltz, hs1, hPr, hps4, hq2, hw2, hbd, hP]
        rfl, .inr ⟨by simp, .inr ⟨rfl, by simp [upd], q, hfind, by rw [hP2, hL2]⟩⟩⟩

def signedR (s : List UInt8) (p : Nat) : LR :=
  match sgAt s p with
  | some q => .word ⟨4, q, 0, p⟩ (p + 2)
  | none => match s[p]? with
    | some c => if signsT.contains c then .word ⟨4, sub s p (p + 1), 0, p⟩ (p + 1) else .err 16
    | none => .err 16
theorem contains_index : ∀ (l : List UInt8) (c : UInt8), l.contains c = decide (0 ≤ Lib.indexByte l c)
  | [], c => by simp [Lib.indexByte]
  | b :: l, c => by
    have ih := contains_index l c
    have hg := Lib.indexByte_ge l c
    cases e : (b == c)
    · have h1 : Lib.indexByte (b :: l) c = if Lib.indexByte l c = -1 then -1 else Lib.indexByte l c + 1 := by simp [Lib.indexByte, e]
      have e' : (c == b) = false := by rw [← e]; exact Bool.beq_comm
      rw [List.contains_cons, e', Bool.false_or, ih, h1]
      split <;> simp <;> omega
    · have e' : (c == b) = true := by rw [← e]; exact Bool.beq_comm
      rw [List.contains_cons, e']
      simp [Lib.indexByte, e]

set_option maxHeartbeats 2000000 in
theorem ev_signed (n : Nat) (hn : 5 ≤ n) (S0 : St) (s : List UInt8) (p : Nat) (out : List Tk) (hs : s.length ≤ 1048576) (hp : p < s.length) (hl : out.length ≤ 1048576) :
    ev Tryd.prog E (n + 3) 42 [.ptr S0.H.length 0] (LSt S0 s p out) = ans S0 s p out (signedR s p) := by
  have hgb := sgB
  rw [show n + 3 = (n + 2) + 1 from rfl, ev_enter (n := n + 2) (show E.ok 42 = true from rfl) Tryd.func42 f42b (Nat.le_of_ble_eq_true rfl) (by decide +kernel)]
  obtain ⟨fs1, e1, p1⟩ : ∃ fs', evCode ⟨Tryd.prog, E.esc 42, n + 2⟩ (ev Tryd.prog E (n + 2)) (E.ps 42) (n + 2) (.seq sg0 sg1) ⟨argsA [.ptr S0.H.length 0], fun _ => (0, []), 0, LSt S0 s p out⟩ = some (.norm, fs') ∧ SGI S0 s p out 3 fs' := by
    generalize hA : AV.agg [.str [58, 61], .str [33, 61], .str [60, 61]] = arr at *
    refine ⟨_, by
      simp (disch := first | (simp only [List.length_append, List.length_cons, List.length_nil]; omega) | (simp; done) | assumption) [AV.cells?, AV.isCell, -evBuild, sg0, sg1, cutC, bodyOf, Tryd.f42, E_esc, hgb]
      rfl, 0, by omega, by simp [upd, argsA], by rw [hA]; simp [upd], by simp [upd], rfl, fun j q hj => by omega⟩
  obtain ⟨⟨o, fs2⟩, r1, r2⟩ := iter_meas (fun m' fs h => sg_round n S0 s p out hs hp hl m' fs h) 3 (n + 2) fs1 (by omega) p1
  rw [evCode_assoc, evCode_seq, evCode_assoc, evCode_seq, e1, seqK_norm, evCode_block, evCode_loop, r1]
  obtain ⟨t, b, c, S⟩ := fs2
  rcases r2 with ⟨rfl, h0, rfl, hn⟩ | ⟨rfl, h2, q, hq, rfl⟩
  · have hL := LSt_get S0 s p out
    have hxe : s[p]? = some s[p] := List.getElem?_eq_getElem hp
    have hidx : evIndex Tryd.prog 9 (.str s) (.int .i64 (p : Int)) = some (.int .u8 (s[p].toNat : Int)) := by simp [evIndex, sq9, hp]
    have hR : signedR s p = if signsT.contains s[p] then .word ⟨4, sub s p (p + 1), 0, p⟩ (p + 1) else .err 16 := by
      unfold signedR; rw [hn, hxe]
    rw [hR, contains_index]
    have hI : ev Tryd.prog E (n + 2) 38 [.str [40, 41, 91, 93, 123, 125, 44, 59, 46, 43, 45, 42, 61, 60], .int .u8 (s[p].toNat : Int)] (LSt S0 s p out) = some (.ret (.int .i64 (Lib.indexByte signsT s[p])), LSt S0 s p out) := by
      have := ev_indexByte (n + 1) signsT (s[p].toNat : Int) (LSt S0 s p out)
      have e : (s[p].toNat : Int).toNat.toUInt8 = s[p] := by simp
      rw [e] at this
      exact this
    have hps8 : E.ps 42 8 = [(3, 7)] := rfl
    have hps10 : E.ps 42 10 = [(4, 8), (4, 12), (8, 12), (4, 19), (8, 19), (12, 19)] := rfl
    have hE := ev_NewL (n + 1) 16 S0 s p out
    have hf1 := fin_err S0 s p out 16
    have hsl := sl2 s p (p + 1) (by omega) (by omega)
    have hbd := bT1 4 (sub s p (p + 1))
    have hP := ev_put (n + 1) S0 s p out ⟨4, sub s p (p + 1), 0, 0⟩ (p + 1) hl
    have hf2 := fin_putv S0 s p (p + 1) out ⟨4, sub s p (p + 1), 0, p⟩ .nilif rfl
    have hw1 : IntKind.i64.wrap ((p : Int) + 1) = ((p + 1 : Nat) : Int) := by rw [wrap64 _ (by omega)]; omega
    simp only at hP hf2 h0
    generalize Lib.indexByte signsT s[p] = ix at *
    generalize s[p] = x at *
    by_cases hx : 0 ≤ ix
    · have hx' : ¬ ix < 0 := by omega
      rw [decide_eq_true hx, if_pos rfl, ans_word]
      generalize LSt S0 s (p + 1) _ = L2 at *
      generalize LSt S0 s p out = L at *
      generalize sub s p (p + 1) = sb at *
      generalize Tk.emb ⟨4, sb, 0, 0⟩ = te at *
      generalize p + 1 = P1 at *
      simp (disch := first | (simp only [List.length_append, List.length_cons, List.length_nil]; omega) | (simp; done) | assumption) [AV.cells?, AV.isCell, -evBuild, -evSlice, -evIndex, sg2, cutC, bodyOf, Tryd.f42, E_esc, h0, hL, hidx, tq61_0, tq61_1, tk61, k9, c9, a9, k3, c3, a3, sq9, bq3, hI, hx', hsl, hbd, hP, hf2, hw1, hps8, hps10]
    · have hx' : ix < 0 := by omega
      rw [decide_eq_false hx, if_neg (by simp), ans_err]
      generalize LSt S0 s p out = L at *
      generalize ErrSt S0 s p out 16 = LE at *
      generalize errV S0 = eV at *
      simp (disch := first | (simp only [List.length_append, List.length_cons, List.length_nil]; omega) | (simp; done) | assumption) [AV.cells?, AV.isCell, -evBuild, -evSlice, -evIndex, sg2, cutC, bodyOf, Tryd.f42, E_esc, h0, hL, hidx, tq61_0, tq61_1, tk61, k9, c9, a9, k3, c3, a3, sq9, bq3, hI, hx', hE, hf1, hps8]
  · have hR : signedR s p = .word ⟨4, q, 0, p⟩ (p + 2) := by unfold signedR; rw [hq]
    have hf2 := fin_putv S0 s p (p + 2) out ⟨4, q, 0, p⟩ .nilif rfl
    simp only at hf2 h2
    rw [hR, ans_word]
    generalize LSt S0 s (p + 2) _ = L2 at *
    generalize LSt S0 s p out = L at *
    simp (disch := first | (simp only [List.length_append, List.length_cons, List.length_nil]; omega) | (simp; done) | assumption) [AV.cells?, AV.isCell, Tryd.f42, h2, hf2]
end Go.Proofs.YtemggoaefohliaaDoor.LX

/- The lexer: a step; all words, evaluated. No condition. -/
namespace Go.Proofs.YtemggoaefohliaaDoor.LX
set_option linter.unusedVariables false
set_option linter.unusedSimpArgs false
open Go AE EX PT NF
set_option maxRecDepth 100000

def spaces : List UInt8 := [32, 9, 10, 13]
/-- a step: nothing but a blank, or a word, or an error -/
def nextR (s : List UInt8) (p : Nat) (c : UInt8) : Option LR :=
  if spaces.contains c then none
  else some (if headB c.toNat then namedR s p else if digB c.toNat then numberedR s p else if (c.toNat : Int) == 34 then quotedR s p else signedR s p)

theorem ans_fin (S0 : St) (s : List UInt8) (p : Nat) (out : List Tk) (r : LR) : ∃ v L2, ans S0 s p out r = some (.ret v, L2) ∧ finish (LSt S0 s p out) v L2 = some (v, L2) := by
  cases r with
  | err c => exact ⟨_, _, rfl, fin_err S0 s p out c⟩
  | word t to => exact ⟨_, _, rfl, fin_putv S0 s p to out t .nilif rfl⟩
theorem fin_skip (S0 : St) (s : List UInt8) (p q : Nat) (out : List Tk) : finish (LSt S0 s p out) .nilif (LSt S0 s q out) = some (.nilif, LSt S0 s q out) :=
  finish_same rfl rfl rfl (by simp [LSt, HS_len]) rfl

set_option maxHeartbeats 2000000 in
theorem ev_next (n : Nat) (S0 : St) (s : List UInt8) (p : Nat) (out : List Tk) (c : UInt8) (hc : s[p]? = some c) (hs : s.length ≤ 1048576) (hn : s.length + 40 < n) (hl : out.length ≤ 1048576) :
    ev Tryd.prog E (n + 5) 24 [.ptr S0.H.length 0] (LSt S0 s p out) = (match nextR s p c with | none => some (.ret .nilif, LSt S0 s (p + 1) out) | some r => ans S0 s p out r) := by
  have hp : p < s.length := (List.getElem?_eq_some_iff.1 hc).1
  have hL := LSt_get S0 s p out
  have hidx : evIndex Tryd.prog 9 (.str s) (.int .i64 (p : Int)) = some (.int .u8 (c.toNat : Int)) := by simp [evIndex, sq9, hc]
  have hps1 : E.ps 24 1 = [(3, 7)] := rfl
  have hI : ev Tryd.prog E (n + 4) 38 [.str [32, 9, 10, 13], .int .u8 (c.toNat : Int)] (LSt S0 s p out) = some (.ret (.int .i64 (Lib.indexByte spaces c)), LSt S0 s p out) := by
    have := ev_indexByte (n + 3) spaces (c.toNat : Int) (LSt S0 s p out)
    have e : (c.toNat : Int).toNat.toUInt8 = c := by simp
    rw [e] at this
    exact this
  have hw1 : IntKind.i64.wrap ((p : Int) + 1) = ((p + 1 : Nat) : Int) := by rw [wrap64 _ (by omega)]; omega
  have hLe := ev_letter (n + 3) c (LSt S0 s p out)
  have hDi := ev_digit (n + 3) (c.toNat : Int) (LSt S0 s p out)
  unfold nextR
  rw [contains_index]
  generalize Lib.indexByte spaces c = ix at *
  rw [show n + 5 = (n + 4) + 1 from rfl, ev_enter (n := n + 4) (show E.ok 24 = true from rfl) Tryd.func24 (fn := Tryd.f24) rfl (Nat.le_of_ble_eq_true rfl) (by decide +kernel)]
  by_cases hx : 0 ≤ ix
  · rw [decide_eq_true hx, if_pos rfl]
    have hset : (LSt S0 s p out).H.set S0.H.length ⟨61, [.str s, .int .i64 ((p + 1 : Nat) : Int), lv S0 out]⟩ = (LSt S0 s (p + 1) out).H := HS_set _ _ _
    have hT : (LSt S0 s p out).T = (LSt S0 s (p + 1) out).T := rfl
    have hf := fin_skip S0 s p (p + 1) out
    have heta : (⟨(LSt S0 s (p + 1) out).H, (LSt S0 s (p + 1) out).T⟩ : St) = LSt S0 s (p + 1) out := rfl
    generalize hL2 : LSt S0 s (p + 1) out = L2 at *
    generalize LSt S0 s p out = L at *
    generalize p + 1 = P1 at *
    have hcl : (lv S0 out).cells? = some [lv S0 out] := by unfold lv; split <;> rfl
    generalize lv S0 out = vv at *
    simp (disch := first | (simp only [List.length_append, List.length_cons, List.length_nil]; omega) | (simp; done) | assumption) [AV.cells?, AV.isCell, -evIndex, AV.sealed, AV.sealedL, wrc, Tryd.f24, E_esc, hL, hidx, tq61_0, tq61_1, tk61, k9, c9, a9, k3, c3, a3, i3, sq9, bq3, hI, hx, hw1, hps1, hset, hT, heta, hf]
  · rw [decide_eq_false hx, if_neg (by simp)]
    cases h1 : headB (c.toNat : Int)
    · rw [h1] at hLe
      rw [if_neg (by simp)]
      cases h2 : digB (c.toNat : Int)
      · rw [h2] at hDi
        rw [if_neg (by simp)]
        cases h3 : ((c.toNat : Int) == 34)
        · rw [if_neg (by simp)]
          have hS := ev_signed (n + 1) (by omega) S0 s p out hs hp hl
          obtain ⟨v, L2, e1, e2⟩ := ans_fin S0 s p out (signedR s p)
          simp only [e1] at hS ⊢
          generalize LSt S0 s p out = L at *
          simp (disch := first | (simp only [List.length_append, List.length_cons, List.length_nil]; omega) | (simp; done) | assumption) [AV.cells?, AV.isCell, -evIndex, Tryd.f24, E_esc, hL, hidx, tq61_0, tq61_1, tk61, k9, c9, a9, k3, c3, a3, sq9, bq3, bq5, hI, hx, hps1, hLe, hDi, h3, hS, e2]
        · rw [if_pos rfl]
          have hS := ev_quoted (n + 1) S0 s p out hs hp hl
          obtain ⟨v, L2, e1, e2⟩ := ans_fin S0 s p out (quotedR s p)
          simp only [e1] at hS ⊢
          generalize LSt S0 s p out = L at *
          simp (disch := first | (simp only [List.length_append, List.length_cons, List.length_nil]; omega) | (simp; done) | assumption) [AV.cells?, AV.isCell, -evIndex, Tryd.f24, E_esc, hL, hidx, tq61_0, tq61_1, tk61, k9, c9, a9, k3, c3, a3, sq9, bq3, bq5, hI, hx, hps1, hLe, hDi, h3, hS, e2]
      · rw [h2] at hDi
        rw [if_pos rfl]
        have hS := ev_numbered n S0 s p out hs (by omega) (by omega) hl
        obtain ⟨v, L2, e1, e2⟩ := ans_fin S0 s p out (numberedR s p)
        simp only [e1] at hS ⊢
        generalize LSt S0 s p out = L at *
        simp (disch := first | (simp only [List.length_append, List.length_cons, List.length_nil]; omega) | (simp; done) | assumption) [AV.cells?, AV.isCell, -evIndex, Tryd.f24, E_esc, hL, hidx, tq61_0, tq61_1, tk61, k9, c9, a9, k3, c3, a3, sq9, bq3, bq5, hI, hx, hps1, hLe, hDi, hS, e2]
    · rw [h1] at hLe
      rw [if_pos rfl]
      have hS := ev_named (n + 1) S0 s p out hs (by omega) (by omega) hl
      obtain ⟨v, L2, e1, e2⟩ := ans_fin S0 s p out (namedR s p)
      simp only [e1] at hS ⊢
      generalize LSt S0 s p out = L at *
      simp (disch := first | (simp only [List.length_append, List.length_cons, List.length_nil]; omega) | (simp; done) | assumption) [AV.cells?, AV.isCell, -evIndex, Tryd.f24, E_esc, hL, hidx, tq61_0, tq61_1, tk61, k9, c9, a9, k3, c3, a3, sq9, bq3, bq5, hI, hx, hps1, hLe, hS, e2]
end Go.Proofs.YtemggoaefohliaaDoor.LX

/- The lexer: all words, evaluated. No condition. -/
namespace Go.Proofs.YtemggoaefohliaaDoor.LX
set_option linter.unusedVariables false
set_option linter.unusedSimpArgs false
open Go AE EX PT NF
set_option maxRecDepth 100000

theorem far_gt {s : List UInt8} {p : Nat} {c : UInt8} (hc : s[p]? = some c) (ht : tl c = true) : p < far s p := by
  unfold far
  have hp := (List.getElem?_eq_some_iff.1 hc).1
  have : s.drop p = c :: s.drop (p + 1) := by
    rw [List.drop_eq_getElem_cons hp]
    simp [(List.getElem?_eq_some_iff.1 hc).2]
  rw [this]
  simp [List.takeWhile, ht]
theorem sgL_len : ∀ q ∈ sgL, q.length = 2 := by simp [sgL]
theorem next_far {s : List UInt8} {p : Nat} {c : UInt8} {t : Tk} {to : Nat} (hc : s[p]? = some c) (h : nextR s p c = some (.word t to)) : p < to ∧ to ≤ s.length ∧ t.p = p := by
  have hp := (List.getElem?_eq_some_iff.1 hc).1
  unfold nextR at h
  split at h
  · cases h
  · rename_i hsp
    simp only [Option.some.injEq] at h
    split at h
    · rename_i hh
      unfold namedR at h
      split at h
      · cases h
      · cases h
        exact ⟨far_gt hc (by simp [tl, tailB, hh]), far_le (by omega), rfl⟩
    · split at h
      · rename_i hh
        unfold numberedR at h
        split at h
        · cases h
          exact ⟨far_gt hc (by simp only [digB] at hh; simp [tl, tailB, hh]), far_le (by omega), rfl⟩
        · cases h
      · split at h
        · unfold quotedR at h
          split at h
          · cases h
          · rename_i h34
            split at h
            · cases h
            · split at h
              · cases h
                obtain ⟨k, hk⟩ : ∃ k : Nat, Lib.indexByte (s.drop (p + 1)) 34 = (k : Int) := ⟨(Lib.indexByte (s.drop (p + 1)) 34).toNat, by omega⟩
                have hkl := indexByte_lt _ _ _ hk
                simp only [List.length_drop] at hkl
                rw [hk]
                simp only [Int.toNat_natCast]
                refine ⟨by omega, by omega, trivial⟩
              · cases h
        · unfold signedR at h
          split at h
          · rename_i q hq
            cases h
            have hm := List.mem_of_find?_eq_some hq
            have hpre := List.find?_some hq
            have h2 := sgL_len q hm
            simp only [pre, Bool.and_eq_true, decide_eq_true_eq, List.length_drop] at hpre
            exact ⟨by omega, by omega, rfl⟩
          · split at h
            · split at h
              · cases h
                exact ⟨by omega, by omega, rfl⟩
              · cases h
            · cases h

/-- all words from here on, by fuel; or an error's code and place -/
def lexF (s : List UInt8) : Nat → Nat → List Tk → Except (Int × Nat) (List Tk)
  | 0, p, out => .ok out
  | f + 1, p, out => match s[p]? with
    | none => .ok (out ++ [⟨5, [], 0, p⟩])
    | some c => match nextR s p c with
      | none => lexF s f (p + 1) out
      | some (.err e) => .error (e, p)
      | some (.word t to) => lexF s f to (out ++ [t])
def lexAll (s : List UInt8) : Except (Int × Nat) (List Tk) := if 4096 < s.length then .error (5, 0) else lexF s (s.length + 1) 0 []

noncomputable def alLoop : Code := cutC (bodyOf Tryd.f14) [1, 1, 1, 0, 0, 0]
noncomputable def al0 : Code := cutC (bodyOf Tryd.f14) [0]
noncomputable def al1 : Code := cutC (bodyOf Tryd.f14) [1, 0]
noncomputable def al2 : Code := cutC (bodyOf Tryd.f14) [1, 1, 0]
noncomputable def al3 : Code := cutC (bodyOf Tryd.f14) [1, 1, 1, 1]
theorem f14b : Tryd.f14.body = some (.seq al0 (.seq al1 (.seq al2 (.seq (.block 0 (.loop alLoop)) al3)))) := rfl
theorem esc14 (d : Nat) : E.esc 14 d = (d == 12) := by simp [E]

def ALI (S0 : St) (s : List UInt8) (R : Except (Int × Nat) (List Tk)) (m : Nat) (fs : FS) : Prop :=
  ∃ p out f, p + m = s.length ∧ out.length ≤ p ∧ m < f ∧ fs.t 0 = .str s ∧ fs.t 4 = .ptr S0.H.length 0 ∧ fs.S = LSt S0 s p out ∧ lexF s f p out = R
def ALQ (S0 : St) (s : List UInt8) (R : Except (Int × Nat) (List Tk)) (r : Out × FS) : Prop :=
  (r.1 = .exit 0 ∧ ∃ p out, out.length ≤ p ∧ p ≤ s.length ∧ r.2.t 4 = .ptr S0.H.length 0 ∧ r.2.S = LSt S0 s p out ∧ R = .ok (out ++ [⟨5, [], 0, p⟩])) ∨
  (r.1 = .ret ∧ ∃ p out c, r.2.t 2 = .slice [] .clip ∧ r.2.t 3 = errV S0 ∧ r.2.S = ErrSt S0 s p out c ∧ R = .error (c, p))

set_option maxHeartbeats 2000000 in
theorem al_round (n : Nat) (S0 : St) (s : List UInt8) (R : Except (Int × Nat) (List Tk)) (hs : s.length ≤ 1048576) (hn : s.length + 40 < n) (m : Nat) (fs : FS) (h : ALI S0 s R m fs) :
    ∃ o fs', evCode ⟨Tryd.prog, E.esc 14, n + 5⟩ (ev Tryd.prog E (n + 5)) (E.ps 14) (n + 5) alLoop fs = some (o, fs') ∧ ((o = .norm ∧ ∃ m', m' < m ∧ ALI S0 s R m' fs') ∨ (o ≠ .norm ∧ ALQ S0 s R (o, fs'))) := by
  obtain ⟨t, b, c, S⟩ := fs
  obtain ⟨p, out, f, hpm, hol, hmf, h0, h4, hS, hR⟩ := h
  simp only at h0 h4 hS
  subst hS
  obtain ⟨f, rfl⟩ : ∃ g, f = g + 1 := ⟨f - 1, by omega⟩
  have hL := LSt_get S0 s p out
  cases hc : s[p]? with
  | none =>
    have hge : s.length ≤ p := by simpa using hc
    have hlt : ¬ p < s.length := by omega
    have hltz : ¬ (p : Int) < s.length := by omega
    have hR' : R = .ok (out ++ [⟨5, [], 0, p⟩]) := by rw [← hR, lexF, hc]
    refine ⟨.exit 0, _, by
      simp (disch := first | (simp only [List.length_append, List.length_cons, List.length_nil]; omega) | (simp; done) | assumption) [AV.cells?, AV.isCell, alLoop, cutC, bodyOf, Tryd.f14, esc14, h0, h4, hL, tq61_1, tk61, k3, c3, a3, k9, sq9, bq3, hlt, hltz]
      rfl, .inr ⟨by simp, .inl ⟨rfl, p, out, hol, by omega, by simp [upd, putA, h4], rfl, hR'⟩⟩⟩
  | some c0 =>
    have hlt : p < s.length := (List.getElem?_eq_some_iff.1 hc).1
    have hltz : (p : Int) < s.length := by omega
    have hN := ev_next n S0 s p out c0 hc hs hn (by omega)
    rw [lexF, hc] at hR
    simp only at hR
    cases hx : nextR s p c0 with
    | none =>
      rw [hx] at hR hN
      simp only at hR hN
      refine ⟨.norm, ?_⟩
      have hS2 : (LSt S0 s (p + 1) out) = LSt S0 s (p + 1) out := rfl
      generalize hL2 : LSt S0 s (p + 1) out = L2 at hN
      generalize hL1 : LSt S0 s p out = L1 at *
      refine ⟨_, by
        simp (disch := first | (simp only [List.length_append, List.length_cons, List.length_nil]; omega) | (simp; done) | assumption) [AV.cells?, AV.isCell, alLoop, cutC, bodyOf, Tryd.f14, esc14, h0, h4, hL, tq61_1, tk61, k3, c3, a3, k9, sq9, bq3, tf27, hlt, hltz, hN]
        rfl, .inl ⟨rfl, m - 1, by omega, p + 1, out, f, by omega, by omega, by omega, by simp [upd, putA, h0], by simp [upd, putA, h4], hL2.symm, hR⟩⟩
    | some r =>
      rw [hx] at hR hN
      cases r with
      | err e =>
        simp only [ans_err] at hR hN
        refine ⟨.ret, ?_⟩
        generalize hL2 : ErrSt S0 s p out e = L2 at hN
        generalize hL1 : LSt S0 s p out = L1 at *
        obtain ⟨ea, eb, hev⟩ : ∃ ea eb, errV S0 = .iface ea (.ptr eb 0) := ⟨_, _, rfl⟩
        rw [hev] at hN
        refine ⟨_, by
          simp (disch := first | (simp only [List.length_append, List.length_cons, List.length_nil]; omega) | (simp; done) | assumption) [AV.cells?, AV.isCell, alLoop, cutC, bodyOf, Tryd.f14, esc14, h0, h4, hL, tq61_1, tk61, k3, c3, a3, k9, sq9, bq3, tf27, hlt, hltz, hN]
          rfl, .inr ⟨by simp, .inr ⟨rfl, p, out, e, by simp [upd, putA, rho, ofC, ofC0], by simp [upd, putA, rho, hev], hL2.symm, hR.symm⟩⟩⟩
      | word w to =>
        simp only [ans_word] at hR hN
        obtain ⟨g1, g2, g3⟩ := next_far hc hx
        refine ⟨.norm, ?_⟩
        generalize hL2 : LSt S0 s to (out ++ [w]) = L2 at hN
        generalize hL1 : LSt S0 s p out = L1 at *
        refine ⟨_, by
          simp (disch := first | (simp only [List.length_append, List.length_cons, List.length_nil]; omega) | (simp; done) | assumption) [AV.cells?, AV.isCell, alLoop, cutC, bodyOf, Tryd.f14, esc14, h0, h4, hL, tq61_1, tk61, k3, c3, a3, k9, sq9, bq3, tf27, hlt, hltz, hN]
          rfl, .inl ⟨rfl, s.length - to, by omega, to, out ++ [w], f, by omega, by simp; omega, by omega, by simp [upd, putA, h0], by simp [upd, putA, h4], hL2.symm, hR⟩⟩

theorem strip_tkL (t0 : Nat) : ∀ l : List Tk, AV.stripL t0 (tkL l) = tkL l
  | [] => rfl
  | t :: l => by
    have := strip_tkL t0 l
    simp only [tkL] at this
    simp [tkL, AV.stripL, Tk.emb, Tk.cells, AV.strip, this]
theorem low_tkL (h0 t0 : Nat) : ∀ l : List Tk, AV.lowL h0 t0 (tkL l) = true
  | [] => rfl
  | t :: l => by
    have := low_tkL h0 t0 l
    simp only [tkL] at this
    simp [tkL, AV.lowL, Tk.emb, Tk.cells, AV.low, this]
theorem sealed_tkL : ∀ l : List Tk, AV.sealedL (tkL l) = true
  | [] => rfl
  | t :: l => by
    have := sealed_tkL l
    simp only [tkL] at this
    simp [tkL, AV.sealedL, Tk.emb, Tk.cells, AV.sealed, this]
theorem fin_all (S0 : St) (s : List UInt8) (p : Nat) (out : List Tk) (t : Tk) : finish S0 (.tup [lv S0 (out ++ [t]), .nilif]) (LSt S0 s p (out ++ [t])) = some (.tup [.slice (tkL (out ++ [t])) .non, .nilif], S0) := by
  have hne : out ++ [t] ≠ [] := by simp
  unfold finish
  simp [lv, hne, AV.sealed, AV.sealedL, AV.strip, AV.stripL, AV.low, AV.lowL, sealed_tkL, strip_tkL, low_tkL, LSt, HS, boxEqL_refl]
theorem fin_hi {S S' : St} {id : Nat} (h : S.H.length ≤ id) (w : AV) (h1 : w.sealed = true) : finish S (.tup [w, .iface 55 (.ptr id 0)]) S' = some (.tup [w, .iface 55 (.ptr id 0)], S') := by
  unfold finish
  have : ¬ id < S.H.length := by omega
  simp [AV.sealed, AV.sealedL, AV.strip, AV.stripL, AV.low, AV.lowL, this, h1]

set_option maxHeartbeats 2000000 in
theorem ev_All (n : Nat) (S0 : St) (s : List UInt8) (hs : s.length ≤ 1100000) (hn : s.length + 40 < n) :
    (∀ l, lexAll s = .ok l → ev Tryd.prog E (n + 6) 14 [.str s] S0 = some (.ret (.tup [.slice (tkL l) .non, .nilif]), S0)) ∧
    (∀ c p, lexAll s = .error (c, p) → ∃ id S', S0.H.length ≤ id ∧ ev Tryd.prog E (n + 6) 14 [.str s] S0 = some (.ret (.tup [.slice [] .clip, .iface 55 (.ptr id 0)]), S') ∧ S'.H[id]? = some ⟨58, [.int .i64 c, .int .i64 (p : Int), .nilif]⟩ ∧ Grows S0 S') := by
  by_cases hlong : 4096 < s.length
  · have hlz : (4096 : Int) < s.length := by omega
    refine ⟨fun l h => by simp [lexAll, hlong] at h, fun c p h => ?_⟩
    simp [lexAll, hlong] at h
    obtain ⟨rfl, rfl⟩ := h
    have hE : ev Tryd.prog E (n + 5) 17 [.int .i64 5, .int .i64 0] S0 = _ := ev_New (n + 4) 5 0 S0
    have hid : S0.H.length ≤ S0.H.length := Nat.le_refl _
    have hg : (S0.H ++ [⟨58, [.int .i64 5, .int .i64 ((0 : Nat) : Int), .nilif]⟩])[S0.H.length]? = some (⟨58, [.int .i64 5, .int .i64 ((0 : Nat) : Int), .nilif]⟩ : HBox) := by simp
    refine ⟨S0.H.length, ⟨S0.H ++ [⟨58, [.int .i64 5, .int .i64 ((0 : Nat) : Int), .nilif]⟩], S0.T⟩, hid, ?_, hg, ⟨by simp, by simp⟩⟩
    have hf := fin_hi (S := S0) (S' := ⟨S0.H ++ [⟨58, [.int .i64 5, .int .i64 ((0 : Nat) : Int), .nilif]⟩], S0.T⟩) hid (.slice [] .clip) rfl
    simp only [Int.ofNat_zero, Int.natCast_zero] at hf hE ⊢
    generalize (⟨S0.H ++ [⟨58, [.int .i64 5, .int .i64 0, .nilif]⟩], S0.T⟩ : St) = L2 at *
    rw [show n + 6 = (n + 5) + 1 from rfl, ev_enter (n := n + 5) (show E.ok 14 = true from rfl) Tryd.func14 (fn := Tryd.f14) rfl (Nat.le_of_ble_eq_true rfl) (by decide +kernel)]
    simp (disch := first | (simp only [List.length_append, List.length_cons, List.length_nil]; omega) | (simp; done) | assumption) [AV.cells?, AV.isCell, Tryd.f14, esc14, k9, sq9, bq3, hlong, hlz, hE, hf, ofC]
  · have hlz : ¬ (4096 : Int) < s.length := by omega
    have hs : s.length ≤ 1048576 := by omega
    have hR : lexAll s = lexF s (s.length + 1) 0 [] := if_neg hlong
    rw [hR]
    generalize hRR : lexF s (s.length + 1) 0 [] = R
    have hL0 : (⟨S0.H ++ [⟨61, [.str s, .int .i64 0, .slice [] .clip]⟩], S0.T⟩ : St) = LSt S0 s 0 [] := by simp [LSt, HS, lv, lT, tkL]
    have hbd : evBuild Tryd.prog 61 [(0, .str s)] = some (.agg [.str s, .int .i64 0, .slice [] .clip]) := by simp [evBuild, tp61, tz61, fillA, tl61_0, AV.cells?, wrc]
    obtain ⟨fs1, e1, p1⟩ : ∃ fs', evCode ⟨Tryd.prog, E.esc 14, n + 5⟩ (ev Tryd.prog E (n + 5)) (E.ps 14) (n + 5) (.seq al0 (.seq al1 al2)) ⟨argsA [.str s], fun _ => (0, []), 0, S0⟩ = some (.norm, fs') ∧ ALI S0 s R s.length fs' := by
      refine ⟨_, by
        simp (disch := first | (simp only [List.length_append, List.length_cons, List.length_nil]; omega) | (simp; done) | assumption) [AV.cells?, AV.isCell, -evBuild, al0, al1, al2, cutC, bodyOf, Tryd.f14, esc14, k9, sq9, bq3, hlong, hlz, hbd, tn55, tc61, tk61, ta61, AV.sealed, AV.sealedL]
        rfl, 0, [], s.length + 1, by omega, by simp, by omega, by simp [upd, putA, argsA], by simp [upd, putA], hL0, hRR⟩
    obtain ⟨⟨o, fs2⟩, r1, r2⟩ := iter_meas (fun m' fs h => al_round n S0 s R hs hn m' fs h) s.length (n + 5) fs1 (by omega) p1
    have main : ∀ res, (match o with | .ret => fromBody Tryd.prog ⟨Tryd.prog, E.esc 14, n + 5⟩ S0 Tryd.f14.results.toList (some (.ret, fs2)) | _ => fromBody Tryd.prog ⟨Tryd.prog, E.esc 14, n + 5⟩ S0 Tryd.f14.results.toList (evCode ⟨Tryd.prog, E.esc 14, n + 5⟩ (ev Tryd.prog E (n + 5)) (E.ps 14) (n + 5) al3 fs2)) = res → (o = .ret ∨ o = .exit 0) → ev Tryd.prog E (n + 6) 14 [.str s] S0 = res := by
      intro res h ho
      rw [show n + 6 = (n + 5) + 1 from rfl, ev_enter (n := n + 5) (show E.ok 14 = true from rfl) Tryd.func14 f14b (Nat.le_of_ble_eq_true rfl) (by decide +kernel)]
      rw [evCode_assoc] at e1
      rw [evCode_assoc, evCode_assoc, evCode_seq, e1, seqK_norm, evCode_seq, evCode_block, evCode_loop, r1]
      rcases ho with rfl | rfl
      · rw [← h]; rfl
      · rw [blockK_exit, if_pos rfl, seqK_norm, ← h]
    obtain ⟨t, b, c, S⟩ := fs2
    rcases r2 with ⟨q1, p, out, q2, q3, q4, q5, q6⟩ | ⟨q1, p, out, c', q2, q3, q4, q5⟩
    · simp only at q1 q4 q5
      subst q1 q5 q6
      refine ⟨fun l hl => ?_, fun c p h => by cases h⟩
      cases hl
      refine main _ ?_ (.inr rfl)
      simp only
      clear main r1 e1 p1
      have hL := LSt_get S0 s p out
      have hP := ev_put (n + 4) S0 s p out ⟨5, [], 0, 0⟩ p (by omega)
      have hf := fin_all S0 s p out ⟨5, [], 0, p⟩
      have hL' := LSt_get S0 s p (out ++ [⟨5, [], 0, p⟩])
      have hbT : evBuild Tryd.prog 46 [(0, .int .i64 5)] = some (Tk.emb ⟨5, [], 0, 0⟩) := by
        have : Tk.emb ⟨5, [], 0, 0⟩ = .agg [.int .i64 5, .str [], .int .i64 0, .int .i64 0] := rfl
        rw [this]
        simp [evBuild, tp46, tz46, fillA, tl46_0, AV.cells?, wrc]
      have hcl : ∀ o, (lv S0 o).cells? = some [lv S0 o] := fun o => by unfold lv; split <;> rfl
      have hcl' : ∀ o, (lv S0 o).isCell = true := fun o => by unfold lv; split <;> rfl
      simp only at hP
      generalize LSt S0 s p (out ++ [⟨5, [], 0, p⟩]) = L2 at *
      generalize LSt S0 s p out = L1 at *
      have hcl1 := hcl (out ++ [⟨5, [], 0, p⟩])
      have hcl2 := hcl' (out ++ [⟨5, [], 0, p⟩])
      generalize lv S0 (out ++ [⟨5, [], 0, p⟩]) = l2 at *
      generalize tkL (out ++ [⟨5, [], 0, p⟩]) = tl2 at *
      generalize Tk.emb ⟨5, [], 0, 0⟩ = te at *
      simp (disch := first | (simp only [List.length_append, List.length_cons, List.length_nil]; omega) | (simp; done) | assumption) [AV.cells?, AV.isCell, -evBuild, al3, cutC, bodyOf, Tryd.f14, esc14, q4, hL, hL', tq61_1, tq61_2, tk61, k3, c3, a3, tk39, tc39, ta39, hbT, hP, hf, hcl1, hcl2]
    · simp only at q1 q2 q3 q4
      subst q1 q4 q5
      refine ⟨fun l hl => (by cases hl), fun c p h => ?_⟩
      cases h
      have hid : S0.H.length ≤ S0.H.length + 1 := by omega
      refine ⟨S0.H.length + 1, ErrSt S0 s p out c', hid, ?_, by simp [ErrSt, HS], ⟨by simp [ErrSt, HS], by simp [ErrSt]⟩⟩
      refine main _ ?_ (.inl rfl)
      simp only
      clear main r1 e1 p1
      have hf := fin_hi (S := S0) (S' := ErrSt S0 s p out c') hid (.slice [] .clip) rfl
      simp only [errV] at q3
      generalize ErrSt S0 s p out c' = L2 at *
      simp (disch := first | (simp only [List.length_append, List.length_cons, List.length_nil]; omega) | (simp; done) | assumption) [AV.cells?, AV.isCell, Tryd.f14, q2, q3, hf]
end Go.Proofs.YtemggoaefohliaaDoor.LX

