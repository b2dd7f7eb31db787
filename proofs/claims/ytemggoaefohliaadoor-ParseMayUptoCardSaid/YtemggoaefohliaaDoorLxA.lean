/- Joined: DlA, DlB, DnA, DnB, DnC, DnD, DnE. No condition beyond those of its lemmas. -/
import Derived.Test.YtemggoaefohliaaDoorPxB
/- The lexer: its state, put, word, evaluated. No condition. -/
namespace Go.Proofs.YtemggoaefohliaaDoor.LX
set_option linter.unusedVariables false
set_option linter.unusedSimpArgs false
open Go AE EX PT NF
set_option maxRecDepth 100000

/-- outside, all that was there stands -/
structure Grows (S0 S' : St) : Prop where
  h : S'.H.take S0.H.length = S0.H
  t : S'.T.take S0.T.length = S0.T
theorem Grows.app (S0 : St) (h : List HBox) (t : List Nat) : Grows S0 ⟨S0.H ++ h, S0.T ++ t⟩ := ⟨by simp, by simp⟩
theorem Grows.len {S0 S' : St} (g : Grows S0 S') : S0.H.length ≤ S'.H.length := by
  have := congrArg List.length g.h
  simp at this
  omega
theorem Grows.push {S0 S' : St} (g : Grows S0 S') (h : List HBox) : Grows S0 ⟨S'.H ++ h, S'.T⟩ := ⟨by
  simp only
  rw [List.take_append_of_le_length g.len]
  exact g.h, g.t⟩
theorem fin_grow {S S' : St} (g : Grows S S') (v : AV) (h1 : v.sealed = true) (h2 : v.strip S.T.length = v) (h3 : v.low S.H.length S.T.length = true) : finish S v S' = some (v, S) := by
  have h4 := g.h
  have h5 := g.t
  unfold finish
  simp [h1, h2, h3, h4, h5, boxEqL_refl]

/-- a word -/
structure Tk where
  k : Int
  s : List UInt8
  n : Int
  p : Int
def Tk.cells (t : Tk) : List AV := [.int .i64 t.k, .str t.s, .int .i64 t.n, .int .i64 t.p]
def Tk.emb (t : Tk) : AV := .agg t.cells
def tkL (l : List Tk) : List AV := l.map Tk.emb
theorem tkL_length (l : List Tk) : (tkL l).length = l.length := by simp [tkL]
theorem tkL_append (a b : List Tk) : tkL (a ++ b) = tkL a ++ tkL b := by simp [tkL]
theorem tk_all (t : Tk) : t.cells.all AV.isCell = true := rfl
theorem tk_len (t : Tk) : t.cells.length = 4 := rfl
theorem tk_take (t : Tk) : List.take 4 t.cells = t.cells := rfl
theorem sizes_tk : ∀ l : List Tk, sizesOk 4 (tkL l) = true
  | [] => rfl
  | t :: l => by
    have := sizes_tk l
    simp only [tkL] at this
    simp [tkL, sizesOk, Tk.emb, Tk.cells, AV.cells?, AV.isCell, this]

theorem cq_int (k : IntKind) (n : Int) : (AV.int k n).cells? = some [.int k n] := rfl
theorem cq_bool (b : Bool) : (AV.bool b).cells? = some [.bool b] := rfl
theorem cq_str (s : List UInt8) : (AV.str s).cells? = some [.str s] := rfl
theorem cq_slice (e : List AV) (t : Tok) : (AV.slice e t).cells? = some [.slice e t] := rfl
theorem cq_ptr (a b : Nat) : (AV.ptr a b).cells? = some [.ptr a b] := rfl
theorem cq_iface (t : TypeId) (v : AV) : (AV.iface t v).cells? = some [.iface t v] := rfl
theorem cq_nilif : AV.nilif.cells? = some [.nilif] := rfl
theorem cq_agg (cs : List AV) (h : cs.all AV.isCell = true) : (AV.agg cs).cells? = some cs := by simp only [AV.cells?, h, if_true]

def lv (S0 : St) (out : List Tk) : AV := if out = [] then .slice (tkL out) .clip else .slice (tkL out) (.own S0.T.length (4 * out.length))
def lT (out : List Tk) : List Nat := if out = [] then [] else [4 * out.length]
def HS (S0 : St) (b : HBox) : List HBox := S0.H ++ [b]
theorem HS_get (S0 : St) (b : HBox) : (HS S0 b)[S0.H.length]? = some b := by simp [HS]
theorem HS_set (S0 : St) (b c : HBox) : (HS S0 b).set S0.H.length c = HS S0 c := by simp [HS]
theorem HS_len (S0 : St) (b : HBox) : (HS S0 b).length = S0.H.length + 1 := by simp [HS]
theorem HS_inj {S0 : St} {b c : HBox} (h : HS S0 b = HS S0 c) : b = c := by simpa [HS] using h
/-- the lexer's state: its box stands behind what was outside -/
def LSt (S0 : St) (s : List UInt8) (p : Nat) (out : List Tk) : St := ⟨HS S0 ⟨61, [.str s, .int .i64 p, lv S0 out]⟩, S0.T ++ lT out⟩

theorem tz39 : zeroQ Tryd.prog 39 = some [.slice [] .clip] := by kernel_rfl
theorem appT (S0 : St) (out : List Tk) (t : Tk) (H1 : List HBox) (h : out.length ≤ 1048576) :
    evAppend Tryd.prog [39, 39] (lv S0 out) (.slice [.agg t.cells] .clip) ⟨H1, S0.T ++ lT out⟩ = some (lv S0 (out ++ [t]), ⟨H1, S0.T ++ lT (out ++ [t])⟩) := by
  have hs := sizes_tk out
  have ht : sizesOk 4 [.agg t.cells] = true := sizes_tk [t]
  have hl := tkL_length out
  have he : tkL (out ++ [t]) = tkL out ++ [.agg t.cells] := tkL_append out [t]
  have hne : out ++ [t] ≠ [] := by simp
  simp only [evAppend, ts39, tu39, elemsOf, tz46, tc46, ty46, lv, lT, if_neg hne, he]
  by_cases h0 : out = []
  · subst h0
    simp [tkL, sizesOk, Tk.cells, AV.cells?, AV.isCell]
  · simp only [if_neg h0]
    simp [hs, ht, hl]
    omega

theorem fin_keep {S S' : St} {v : AV} (hv : v.sealed = true) (hH : S'.H.length = S.H.length) (c1 : S'.H ≠ S.H ∨ S'.T.take S.T.length ≠ S.T) (c2 : S'.T.take S.T.length ≠ S.T ∨ lowB S.H.length S.T.length S'.H = false) : finish S v S' = some (v, S') := by
  have e1 : S'.H.take S.H.length = S'.H := by rw [← hH, List.take_length]
  unfold finish
  rw [if_pos hv, e1, if_neg, if_neg]
  · split <;> rfl
  · simp only [Bool.and_eq_true, decide_eq_true_eq, beq_iff_eq]
    rintro ⟨⟨⟨_, h1⟩, h2⟩, _⟩
    rcases c2 with c | c
    · exact c h1
    · rw [c] at h2; cases h2
  · simp only [Bool.and_eq_true, beq_iff_eq]
    rintro ⟨⟨h1, h2⟩, _⟩
    rcases c1 with c | c
    · exact c (boxEqL_spec _ _ h1)
    · exact c h2
theorem lowB_append (h0 t0 : Nat) : ∀ a b : List HBox, lowB h0 t0 (a ++ b) = (lowB h0 t0 a && lowB h0 t0 b)
  | [], b => by simp [lowB]
  | x :: a, b => by simp only [List.cons_append, lowB, lowB_append h0 t0 a b, Bool.and_assoc]

theorem fin_putv (S0 : St) (s : List UInt8) (p q : Nat) (out : List Tk) (t : Tk) (v : AV) (hv : v.sealed = true) : finish (LSt S0 s p out) v (LSt S0 s q (out ++ [t])) = some (v, LSt S0 s q (out ++ [t])) := by
  have hne : out ++ [t] ≠ [] := by simp
  have hlv : lv S0 (out ++ [t]) ≠ lv S0 out := fun h => by
    have h1 : ∀ o : List Tk, (match lv S0 o with | .slice es _ => es.length | _ => 0) = o.length := fun o => by
      by_cases h0 : o = []
      · subst h0; simp [lv, tkL]
      · simp [lv, h0, tkL_length]
    have := h1 (out ++ [t])
    rw [h, h1] at this
    simp at this
  refine fin_keep hv (by simp [LSt, HS_len]) (.inl ?_) ?_
  · intro h
    have := HS_inj h
    simp at this
    exact hlv this.2
  · by_cases h0 : out = []
    · subst h0
      refine .inr ?_
      have : lv S0 ([] ++ [t]) = .slice (tkL [t]) (.own S0.T.length 4) := rfl
      simp only [LSt, HS, lowB_append, this]
      simp [lowB, AV.lowL, AV.low, lT]
    · refine .inl ?_
      simp only [LSt, lT, if_neg h0, if_neg hne]
      rw [List.take_of_length_le (by simp)]
      intro h
      have := List.append_cancel_left h
      simp at this
      omega

theorem fin_put (S0 : St) (s : List UInt8) (p q : Nat) (out : List Tk) (t : Tk) : finish (LSt S0 s p out) (.tup []) (LSt S0 s q (out ++ [t])) = some (.tup [], LSt S0 s q (out ++ [t])) := fin_putv S0 s p q out t _ rfl
theorem ev_put (n : Nat) (S0 : St) (s : List UInt8) (p : Nat) (out : List Tk) (t : Tk) (to : Nat) (hl : out.length ≤ 1048576) :
    ev Tryd.prog E (n + 1) 25 [.ptr S0.H.length 0, t.emb, .int .i64 to] (LSt S0 s p out) = some (.ret (.tup []), LSt S0 s to (out ++ [{ t with p := p }])) := by
  have hps : E.ps 25 2 = [(4, 5)] := rfl
  have ha := appT S0 out { t with p := p }
  have hf := fin_put S0 s p to out { t with p := p }
  obtain ⟨k, ts, tn, tp⟩ := t
  simp only [Tk.emb, Tk.cells] at ha hf ⊢
  simp only [LSt] at hf ⊢
  have hbs : ∀ t' : Tk, evBuildSlice Tryd.prog 39 1 [(0, .agg t'.cells)] = some (.slice [.agg t'.cells] .clip) := fun t' => by
    simp [evBuildSlice, ts39, tz46, tc46, ta46, evElems, Tk.cells, AV.cells?, AV.isCell]
  have hbs' := hbs ⟨k, ts, tn, p⟩
  simp only [Tk.cells] at hbs'
  have ha' := fun H1 => ha H1 hl
  clear ha hbs
  have hsl : (lv S0 out).isCell = true := by unfold lv; split <;> rfl
  have hsl' : (lv S0 (out ++ [{ k := k, s := ts, n := tn, p := p }])).isCell = true := by unfold lv; split <;> rfl
  have hcl : ∀ o, (lv S0 o).cells? = some [lv S0 o] := fun o => by unfold lv; split <;> rfl
  have hse : ∀ o : List Tk, (lv S0 o).sealed = true := fun o => by
    have : AV.sealedL (tkL o) = true := by
      induction o with
      | nil => rfl
      | cons a l ih => simpa [tkL, AV.sealedL, Tk.emb, Tk.cells, AV.sealed] using ih
    unfold lv; split <;> simp [AV.sealed, this]
  have hsp := hcl (out ++ [{ k := k, s := ts, n := tn, p := p }])
  have hse' := hse (out ++ [{ k := k, s := ts, n := tn, p := p }])
  generalize lv S0 (out ++ [{ k := k, s := ts, n := tn, p := p }]) = l2 at *
  generalize lT (out ++ [{ k := k, s := ts, n := tn, p := p }]) = T2 at *
  generalize lv S0 out = l1 at *
  generalize S0.T ++ lT out = T1 at *
  generalize S0.T ++ T2 = T3 at *
  rw [ev_enter (n := n) (show E.ok 25 = true from rfl) Tryd.func25 (fn := Tryd.f25) rfl (Nat.le_of_ble_eq_true rfl) (by decide +kernel)]
  simp (disch := first | (simp only [List.length_append, List.length_cons, List.length_nil]; omega) | (simp; done) | assumption) [↓evOp_build, ↓evOp_bslice, evB2_int, evB2_bool, evB2_str, evB2_eqi, evB2_nei, evB2_eqn, evB2_nen, evB2_peq, evB2_pne, evB2_req, evB2_rne, evB2_zeq, evB2_zne, isC_c, isC_t, evAssert, Bool.or_true, Bool.true_or, rhoP_nil, rhoP_cons, evCode_skip, evCode_region, evCode_draw, evCode_seq, evCode_cond, evCode_block, evCode_loop, evCode_exit, evCode_ret, seqK_ite, seqK_none, seqK_norm, seqK_ret, seqK_exit, seqK_pan, condK_true, condK_false, condK_bool, blockK_ite, blockK_none, blockK_norm, blockK_ret, blockK_exit, blockK_pan, stepK_ite, stepK_none, stepK_ok, stepK_pan, drawK_ite, drawK_none, drawK_ok, drawK_pan, opK_ite, opK_none, opK_val, opK_pan, wantK_true, wantK_false, wantK_some, afterRegion_ite, afterDraw_ite, fromBody_ite, ite_bool, ite_int, stepA_K, doOp, noOp, lexA_nil, lexA_cons, lexF_nil, lexF_cons, afterDraw, noClash, panIn, lostF, FP.clash, wantedA, evOp, rho, rhoL, ofC0, ofC, argsA, upd, afterRegion, putA, goOp, evBin_add, evBin_sub, evBin_mul, evBin_quo, evBin_rem, evBin_eql, evBin_neq, evBin_lss, evBin_leq, evBin_gtr, evBin_geq, evBin_eqlB, evBin_neqB, evBin_addS, evBin_eqlS, evBin_neqS, evBin_lssS, evBin_leqS, evUn, evConv, evIndex, evBuiltin, evLen, evMin2, evMax2, evCallee, evBox, evLoad, evStore, evFieldAddr, evField, evIndexAddr, evBuild, evBuildSlice, evElems, evSlice, nth, rdc, wrc, fromBody, resA, finRet, oneOf, AV.cells?, AV.isCell, fin_int, fin_bool, fin_str, -evBuildSlice, -AV.cells?, cq_int, cq_str, cq_slice, cq_agg, AV.sealed, AV.sealedL, wrc, Tryd.f25, E_esc, tc46, ta46, tk46, ti46, tz46, tq46_0, tq46_1, tq46_2, tq46_3, tc61, ta61, tk61, ti61, tq61_0, tq61_1, tq61_2, k3, c3, a3, i3, tc39, ta39, tk39, ti39, HS_get, HS_set, hbs', ha', hps, hsl, hcl, hsp, hse', hf]
end Go.Proofs.YtemggoaefohliaaDoor.LX

/- The lexer: how far a word goes; faults, evaluated. No condition. -/
namespace Go.Proofs.YtemggoaefohliaaDoor.LX
set_option linter.unusedVariables false
set_option linter.unusedSimpArgs false
open Go AE EX PT NF
set_option maxRecDepth 100000

theorem evCode_assoc {cx : Ctx} {call : Cal} {ps : Nat → List (Nat × Nat)} {L : Nat} (x y z : Code) (fs : FS) : evCode cx call ps L (.seq x (.seq y z)) fs = evCode cx call ps L (.seq (.seq x y) z) fs := by
  rw [evCode_seq, evCode_seq, evCode_seq]
  generalize evCode cx call ps L x fs = r
  match r with
  | none => rfl
  | some (.norm, fs') => rw [seqK_norm, seqK_norm, evCode_seq]
  | some (.ret, _) => rfl
  | some (.exit _, _) => rfl
  | some (.pan _, _) => rfl

/-- where a run of a name's letters ends -/
def far (s : List UInt8) (p : Nat) : Nat := p + ((s.drop p).takeWhile tl).length
theorem takeWhile_len (f : UInt8 → Bool) : ∀ (l : List UInt8) (i : Nat), (∀ j c, j < i → l[j]? = some c → f c = true) → i ≤ l.length → (∀ c, l[i]? = some c → f c = false) → (l.takeWhile f).length = i
  | [], i, _, h, _ => by simp at h; simp [h]
  | c :: l, 0, _, _, h => by
    have := h c rfl
    simp [List.takeWhile, this]
  | c :: l, i + 1, h1, h2, h3 => by
    have := h1 0 c (by omega) rfl
    have ih := takeWhile_len f l i (fun j c hj hc => h1 (j + 1) c (by omega) (by simpa using hc)) (by simpa using h2) (fun c hc => h3 c (by simpa using hc))
    simp [List.takeWhile, this, ih]
theorem far_eq {s : List UInt8} {p q : Nat} (hp : p ≤ q) (hq : q ≤ s.length) (h1 : ∀ j c, p ≤ j → j < q → s[j]? = some c → tl c = true) (h2 : ∀ c, s[q]? = some c → tl c = false) : far s p = q := by
  unfold far
  rw [takeWhile_len tl (s.drop p) (q - p) (fun j c hj hc => h1 (p + j) c (by omega) (by omega) (by simpa using hc)) (by simp; omega) (fun c hc => h2 c (by
    have : s[p + (q - p)]? = some c := by simpa using hc
    rwa [show p + (q - p) = q by omega] at this))]
  omega
theorem far_ge (s : List UInt8) (p : Nat) : p ≤ far s p := by unfold far; omega
theorem takeWhile_le (f : UInt8 → Bool) : ∀ l : List UInt8, (l.takeWhile f).length ≤ l.length
  | [] => by simp
  | c :: l => by
    have := takeWhile_le f l
    simp only [List.takeWhile]
    split <;> simp <;> omega
theorem far_le {s : List UInt8} {p : Nat} (h : p ≤ s.length) : far s p ≤ s.length := by
  unfold far
  have := takeWhile_le tl (s.drop p)
  simp at this
  omega

noncomputable def wdLoop : Code := cutC (bodyOf Tryd.f53) [1, 1, 0, 0, 0]
noncomputable def wd0 : Code := cutC (bodyOf Tryd.f53) [0]
noncomputable def wd1 : Code := cutC (bodyOf Tryd.f53) [1, 0]
noncomputable def wd2 : Code := cutC (bodyOf Tryd.f53) [1, 1, 1]
theorem f53b : Tryd.f53.body = some (.seq wd0 (.seq wd1 (.seq (.block 0 (.loop wdLoop)) wd2))) := rfl

def WDI (id : Nat) (s : List UInt8) (p : Nat) (L : St) (m : Nat) (fs : FS) : Prop :=
  ∃ q, q + m = s.length ∧ p ≤ q ∧ fs.t 0 = .ptr id 0 ∧ fs.t 3 = .int .i64 (q : Int) ∧ fs.S = L ∧ ∀ j c, p ≤ j → j < q → s[j]? = some c → tl c = true
def WDQ (s : List UInt8) (p : Nat) (L : St) (r : Out × FS) : Prop := r.2.S = L ∧ r.1 = .exit 0 ∧ r.2.t 3 = .int .i64 (far s p : Int)

theorem wd_round (n : Nat) (id : Nat) (s : List UInt8) (p : Nat) (v : AV) (L : St) (hL : L.H[id]? = some ⟨61, [.str s, .int .i64 p, v]⟩) (hs : s.length ≤ 1048576) (m : Nat) (fs : FS) (h : WDI id s p L m fs) :
    ∃ o fs', evCode ⟨Tryd.prog, E.esc 53, n + 1⟩ (ev Tryd.prog E (n + 1)) (E.ps 53) (n + 1) wdLoop fs = some (o, fs') ∧ ((o = .norm ∧ ∃ m', m' < m ∧ WDI id s p L m' fs') ∨ (o ≠ .norm ∧ WDQ s p L (o, fs'))) := by
  obtain ⟨t, b, c, S⟩ := fs
  obtain ⟨q, hq, hp, h0, h3, hS, hall⟩ := h
  simp only at h0 h3 hS
  subst hS
  cases m with
  | zero =>
    have hq' : q = s.length := by omega
    subst hq'
    have hfar : far s p = s.length := far_eq hp (Nat.le_refl _) hall (fun c hc => by simp at hc)
    refine ⟨.exit 0, _, by
      simp (disch := first | (simp only [List.length_append, List.length_cons, List.length_nil]; omega) | (simp; done) | assumption) [↓evOp_build, ↓evOp_bslice, evB2_int, evB2_bool, evB2_str, evB2_eqi, evB2_nei, evB2_eqn, evB2_nen, evB2_peq, evB2_pne, evB2_req, evB2_rne, evB2_zeq, evB2_zne, isC_c, isC_t, evAssert, Bool.or_true, Bool.true_or, rhoP_nil, rhoP_cons, evCode_skip, evCode_region, evCode_draw, evCode_seq, evCode_cond, evCode_block, evCode_loop, evCode_exit, evCode_ret, seqK_ite, seqK_none, seqK_norm, seqK_ret, seqK_exit, seqK_pan, condK_true, condK_false, condK_bool, blockK_ite, blockK_none, blockK_norm, blockK_ret, blockK_exit, blockK_pan, stepK_ite, stepK_none, stepK_ok, stepK_pan, drawK_ite, drawK_none, drawK_ok, drawK_pan, opK_ite, opK_none, opK_val, opK_pan, wantK_true, wantK_false, wantK_some, afterRegion_ite, afterDraw_ite, fromBody_ite, ite_bool, ite_int, stepA_K, doOp, noOp, lexA_nil, lexA_cons, lexF_nil, lexF_cons, afterDraw, noClash, panIn, lostF, FP.clash, wantedA, evOp, rho, rhoL, ofC0, ofC, argsA, upd, afterRegion, putA, goOp, evBin_add, evBin_sub, evBin_mul, evBin_quo, evBin_rem, evBin_eql, evBin_neq, evBin_lss, evBin_leq, evBin_gtr, evBin_geq, evBin_eqlB, evBin_neqB, evBin_addS, evBin_eqlS, evBin_neqS, evBin_lssS, evBin_leqS, evUn, evConv, evIndex, evBuiltin, evLen, evMin2, evMax2, evCallee, evBox, evLoad, evStore, evFieldAddr, evField, evIndexAddr, evBuild, evBuildSlice, evElems, evSlice, nth, rdc, wrc, fromBody, resA, finRet, oneOf, AV.cells?, AV.isCell, fin_int, fin_bool, fin_str, wdLoop, cutC, bodyOf, Tryd.f53, E_esc, h0, h3, hL, tq61_0, tk61, k9, c9, a9, sq9, bq3]
      rfl, .inr ⟨by simp, rfl, rfl, by rw [hfar]; simp [upd, h3]⟩⟩
  | succ m =>
    have hlt : q < s.length := by omega
    have hltz : (q : Int) < s.length := by omega
    have hxe : s[q]? = some s[q] := List.getElem?_eq_getElem hlt
    have hidx : evIndex Tryd.prog 9 (.str s) (.int .i64 (q : Int)) = some (.int .u8 (s[q].toNat : Int)) := by simp [evIndex, sq9, hlt]
    have hl := ev_letter n s[q] S
    have hd := ev_digit n (s[q].toNat : Int) S
    have hw : IntKind.i64.wrap ((q : Int) + 1) = ((q + 1 : Nat) : Int) := by rw [wrap64 _ (by omega)]; omega
    have htl : tl s[q] = (headB (s[q].toNat : Int) || digB (s[q].toNat : Int)) := rfl
    generalize s[q] = x at *
    have good : tl x = true → ∀ j c, p ≤ j → j < q + 1 → s[j]? = some c → tl c = true := fun ht j c h1 h2 hc => by
      by_cases hj : j = q
      · subst hj; rw [hxe] at hc; cases hc; exact ht
      · exact hall j c h1 (by omega) hc
    cases e1 : headB (x.toNat : Int)
    · rw [e1] at hl htl
      cases e2 : digB (x.toNat : Int)
      · rw [e2] at hd htl
        have hfar : far s p = q := far_eq hp (by omega) hall (fun c hc => by rw [hxe] at hc; cases hc; rw [htl]; rfl)
        refine ⟨.exit 0, _, by
          simp (disch := first | (simp only [List.length_append, List.length_cons, List.length_nil]; omega) | (simp; done) | assumption) [↓evOp_build, ↓evOp_bslice, evB2_int, evB2_bool, evB2_str, evB2_eqi, evB2_nei, evB2_eqn, evB2_nen, evB2_peq, evB2_pne, evB2_req, evB2_rne, evB2_zeq, evB2_zne, isC_c, isC_t, evAssert, Bool.or_true, Bool.true_or, rhoP_nil, rhoP_cons, evCode_skip, evCode_region, evCode_draw, evCode_seq, evCode_cond, evCode_block, evCode_loop, evCode_exit, evCode_ret, seqK_ite, seqK_none, seqK_norm, seqK_ret, seqK_exit, seqK_pan, condK_true, condK_false, condK_bool, blockK_ite, blockK_none, blockK_norm, blockK_ret, blockK_exit, blockK_pan, stepK_ite, stepK_none, stepK_ok, stepK_pan, drawK_ite, drawK_none, drawK_ok, drawK_pan, opK_ite, opK_none, opK_val, opK_pan, wantK_true, wantK_false, wantK_some, afterRegion_ite, afterDraw_ite, fromBody_ite, ite_bool, ite_int, stepA_K, doOp, noOp, lexA_nil, lexA_cons, lexF_nil, lexF_cons, afterDraw, noClash, panIn, lostF, FP.clash, wantedA, evOp, rho, rhoL, ofC0, ofC, argsA, upd, afterRegion, putA, goOp, evBin_add, evBin_sub, evBin_mul, evBin_quo, evBin_rem, evBin_eql, evBin_neq, evBin_lss, evBin_leq, evBin_gtr, evBin_geq, evBin_eqlB, evBin_neqB, evBin_addS, evBin_eqlS, evBin_neqS, evBin_lssS, evBin_leqS, evUn, evConv, evIndex, evBuiltin, evLen, evMin2, evMax2, evCallee, evBox, evLoad, evStore, evFieldAddr, evField, evIndexAddr, evBuild, evBuildSlice, evElems, evSlice, nth, rdc, wrc, fromBody, resA, finRet, oneOf, AV.cells?, AV.isCell, fin_int, fin_bool, fin_str, -evIndex, wdLoop, cutC, bodyOf, Tryd.f53, E_esc, h0, h3, hL, tq61_0, tk61, k9, c9, a9, sq9, bq3, hlt, hltz, hidx, hl, hd]
          rfl, .inr ⟨by simp, rfl, rfl, by rw [hfar]; simp [upd, h3]⟩⟩
      · rw [e2] at hd htl
        refine ⟨.norm, _, by
          simp (disch := first | (simp only [List.length_append, List.length_cons, List.length_nil]; omega) | (simp; done) | assumption) [↓evOp_build, ↓evOp_bslice, evB2_int, evB2_bool, evB2_str, evB2_eqi, evB2_nei, evB2_eqn, evB2_nen, evB2_peq, evB2_pne, evB2_req, evB2_rne, evB2_zeq, evB2_zne, isC_c, isC_t, evAssert, Bool.or_true, Bool.true_or, rhoP_nil, rhoP_cons, evCode_skip, evCode_region, evCode_draw, evCode_seq, evCode_cond, evCode_block, evCode_loop, evCode_exit, evCode_ret, seqK_ite, seqK_none, seqK_norm, seqK_ret, seqK_exit, seqK_pan, condK_true, condK_false, condK_bool, blockK_ite, blockK_none, blockK_norm, blockK_ret, blockK_exit, blockK_pan, stepK_ite, stepK_none, stepK_ok, stepK_pan, drawK_ite, drawK_none, drawK_ok, drawK_pan, opK_ite, opK_none, opK_val, opK_pan, wantK_true, wantK_false, wantK_some, afterRegion_ite, afterDraw_ite, fromBody_ite, ite_bool, ite_int, stepA_K, doOp, noOp, lexA_nil, lexA_cons, lexF_nil, lexF_cons, afterDraw, noClash, panIn, lostF, FP.clash, wantedA, evOp, rho, rhoL, ofC0, ofC, argsA, upd, afterRegion, putA, goOp, evBin_add, evBin_sub, evBin_mul, evBin_quo, evBin_rem, evBin_eql, evBin_neq, evBin_lss, evBin_leq, evBin_gtr, evBin_geq, evBin_eqlB, evBin_neqB, evBin_addS, evBin_eqlS, evBin_neqS, evBin_lssS, evBin_leqS, evUn, evConv, evIndex, evBuiltin, evLen, evMin2, evMax2, evCallee, evBox, evLoad, evStore, evFieldAddr, evField, evIndexAddr, evBuild, evBuildSlice, evElems, evSlice, nth, rdc, wrc, fromBody, resA, finRet, oneOf, AV.cells?, AV.isCell, fin_int, fin_bool, fin_str, -evIndex, wdLoop, cutC, bodyOf, Tryd.f53, E_esc, h0, h3, hL, tq61_0, tk61, k9, c9, a9, sq9, bq3, hlt, hltz, hidx, hl, hd]
          rfl, .inl ⟨rfl, m, by omega, q + 1, by omega, by omega, by simp [upd, h0], by simp [upd, hw], rfl, good (by rw [htl]; rfl)⟩⟩
    · rw [e1] at hl htl
      refine ⟨.norm, _, by
        simp (disch := first | (simp only [List.length_append, List.length_cons, List.length_nil]; omega) | (simp; done) | assumption) [↓evOp_build, ↓evOp_bslice, evB2_int, evB2_bool, evB2_str, evB2_eqi, evB2_nei, evB2_eqn, evB2_nen, evB2_peq, evB2_pne, evB2_req, evB2_rne, evB2_zeq, evB2_zne, isC_c, isC_t, evAssert, Bool.or_true, Bool.true_or, rhoP_nil, rhoP_cons, evCode_skip, evCode_region, evCode_draw, evCode_seq, evCode_cond, evCode_block, evCode_loop, evCode_exit, evCode_ret, seqK_ite, seqK_none, seqK_norm, seqK_ret, seqK_exit, seqK_pan, condK_true, condK_false, condK_bool, blockK_ite, blockK_none, blockK_norm, blockK_ret, blockK_exit, blockK_pan, stepK_ite, stepK_none, stepK_ok, stepK_pan, drawK_ite, drawK_none, drawK_ok, drawK_pan, opK_ite, opK_none, opK_val, opK_pan, wantK_true, wantK_false, wantK_some, afterRegion_ite, afterDraw_ite, fromBody_ite, ite_bool, ite_int, stepA_K, doOp, noOp, lexA_nil, lexA_cons, lexF_nil, lexF_cons, afterDraw, noClash, panIn, lostF, FP.clash, wantedA, evOp, rho, rhoL, ofC0, ofC, argsA, upd, afterRegion, putA, goOp, evBin_add, evBin_sub, evBin_mul, evBin_quo, evBin_rem, evBin_eql, evBin_neq, evBin_lss, evBin_leq, evBin_gtr, evBin_geq, evBin_eqlB, evBin_neqB, evBin_addS, evBin_eqlS, evBin_neqS, evBin_lssS, evBin_leqS, evUn, evConv, evIndex, evBuiltin, evLen, evMin2, evMax2, evCallee, evBox, evLoad, evStore, evFieldAddr, evField, evIndexAddr, evBuild, evBuildSlice, evElems, evSlice, nth, rdc, wrc, fromBody, resA, finRet, oneOf, AV.cells?, AV.isCell, fin_int, fin_bool, fin_str, -evIndex, wdLoop, cutC, bodyOf, Tryd.f53, E_esc, h0, h3, hL, tq61_0, tk61, k9, c9, a9, sq9, bq3, hlt, hltz, hidx, hl]
        rfl, .inl ⟨rfl, m, by omega, q + 1, by omega, by omega, by simp [upd, h0], by simp [upd, hw], rfl, good (by rw [htl]; rfl)⟩⟩

theorem ev_word (n : Nat) (id : Nat) (s : List UInt8) (p : Nat) (v : AV) (L : St) (hL : L.H[id]? = some ⟨61, [.str s, .int .i64 p, v]⟩) (hs : s.length ≤ 1048576) (hp : p ≤ s.length) (hn : s.length < n) :
    ev Tryd.prog E (n + 2) 53 [.ptr id 0] L = some (.ret (.int .i64 (far s p)), L) := by
  rw [show n + 2 = (n + 1) + 1 from rfl, ev_enter (n := n + 1) (show E.ok 53 = true from rfl) Tryd.func53 f53b (Nat.le_of_ble_eq_true rfl) (by decide +kernel)]
  obtain ⟨fs1, e1, p1⟩ : ∃ fs', evCode ⟨Tryd.prog, E.esc 53, n + 1⟩ (ev Tryd.prog E (n + 1)) (E.ps 53) (n + 1) (.seq wd0 wd1) ⟨argsA [.ptr id 0], fun _ => (0, []), 0, L⟩ = some (.norm, fs') ∧ WDI id s p L (s.length - p) fs' := by
    refine ⟨_, by
      simp (disch := first | (simp only [List.length_append, List.length_cons, List.length_nil]; omega) | (simp; done) | assumption) [↓evOp_build, ↓evOp_bslice, evB2_int, evB2_bool, evB2_str, evB2_eqi, evB2_nei, evB2_eqn, evB2_nen, evB2_peq, evB2_pne, evB2_req, evB2_rne, evB2_zeq, evB2_zne, isC_c, isC_t, evAssert, Bool.or_true, Bool.true_or, rhoP_nil, rhoP_cons, evCode_skip, evCode_region, evCode_draw, evCode_seq, evCode_cond, evCode_block, evCode_loop, evCode_exit, evCode_ret, seqK_ite, seqK_none, seqK_norm, seqK_ret, seqK_exit, seqK_pan, condK_true, condK_false, condK_bool, blockK_ite, blockK_none, blockK_norm, blockK_ret, blockK_exit, blockK_pan, stepK_ite, stepK_none, stepK_ok, stepK_pan, drawK_ite, drawK_none, drawK_ok, drawK_pan, opK_ite, opK_none, opK_val, opK_pan, wantK_true, wantK_false, wantK_some, afterRegion_ite, afterDraw_ite, fromBody_ite, ite_bool, ite_int, stepA_K, doOp, noOp, lexA_nil, lexA_cons, lexF_nil, lexF_cons, afterDraw, noClash, panIn, lostF, FP.clash, wantedA, evOp, rho, rhoL, ofC0, ofC, argsA, upd, afterRegion, putA, goOp, evBin_add, evBin_sub, evBin_mul, evBin_quo, evBin_rem, evBin_eql, evBin_neq, evBin_lss, evBin_leq, evBin_gtr, evBin_geq, evBin_eqlB, evBin_neqB, evBin_addS, evBin_eqlS, evBin_neqS, evBin_lssS, evBin_leqS, evUn, evConv, evIndex, evBuiltin, evLen, evMin2, evMax2, evCallee, evBox, evLoad, evStore, evFieldAddr, evField, evIndexAddr, evBuild, evBuildSlice, evElems, evSlice, nth, rdc, wrc, fromBody, resA, finRet, oneOf, AV.cells?, AV.isCell, fin_int, fin_bool, fin_str, wd0, wd1, cutC, bodyOf, Tryd.f53, E_esc, hL, tq61_1, tk61, k3, c3, a3]
      rfl, p, by omega, Nat.le_refl _, by simp [upd, argsA], by simp [upd], rfl, fun j c h1 h2 => by omega⟩
  obtain ⟨⟨o, fs2⟩, r1, r2, r3, r4⟩ := iter_meas (fun m' fs h => wd_round n id s p v L hL hs m' fs h) (s.length - p) (n + 1) fs1 (by omega) p1
  simp only at r2 r3 r4
  subst r3
  rw [evCode_assoc, evCode_seq, e1, seqK_norm, evCode_seq, evCode_block, evCode_loop, r1, blockK_exit, if_pos rfl, seqK_norm]
  obtain ⟨t, b, c, S⟩ := fs2
  simp only at r2 r4
  subst r2
  simp (disch := first | (simp only [List.length_append, List.length_cons, List.length_nil]; omega) | (simp; done) | assumption) [↓evOp_build, ↓evOp_bslice, evB2_int, evB2_bool, evB2_str, evB2_eqi, evB2_nei, evB2_eqn, evB2_nen, evB2_peq, evB2_pne, evB2_req, evB2_rne, evB2_zeq, evB2_zne, isC_c, isC_t, evAssert, Bool.or_true, Bool.true_or, rhoP_nil, rhoP_cons, evCode_skip, evCode_region, evCode_draw, evCode_seq, evCode_cond, evCode_block, evCode_loop, evCode_exit, evCode_ret, seqK_ite, seqK_none, seqK_norm, seqK_ret, seqK_exit, seqK_pan, condK_true, condK_false, condK_bool, blockK_ite, blockK_none, blockK_norm, blockK_ret, blockK_exit, blockK_pan, stepK_ite, stepK_none, stepK_ok, stepK_pan, drawK_ite, drawK_none, drawK_ok, drawK_pan, opK_ite, opK_none, opK_val, opK_pan, wantK_true, wantK_false, wantK_some, afterRegion_ite, afterDraw_ite, fromBody_ite, ite_bool, ite_int, stepA_K, doOp, noOp, lexA_nil, lexA_cons, lexF_nil, lexF_cons, afterDraw, noClash, panIn, lostF, FP.clash, wantedA, evOp, rho, rhoL, ofC0, ofC, argsA, upd, afterRegion, putA, goOp, evBin_add, evBin_sub, evBin_mul, evBin_quo, evBin_rem, evBin_eql, evBin_neq, evBin_lss, evBin_leq, evBin_gtr, evBin_geq, evBin_eqlB, evBin_neqB, evBin_addS, evBin_eqlS, evBin_neqS, evBin_lssS, evBin_leqS, evUn, evConv, evIndex, evBuiltin, evLen, evMin2, evMax2, evCallee, evBox, evLoad, evStore, evFieldAddr, evField, evIndexAddr, evBuild, evBuildSlice, evElems, evSlice, nth, rdc, wrc, fromBody, resA, finRet, oneOf, AV.cells?, AV.isCell, fin_int, fin_bool, fin_str, wd2, cutC, bodyOf, Tryd.f53, r4]

/-! ### faults -/
/-- a fault, new, outside -/
theorem ev_New (n : Nat) (c a : Int) (S : St) : ev Tryd.prog E (n + 1) 17 [.int .i64 c, .int .i64 a] S = some (.ret (.iface 55 (.ptr S.H.length 0)), ⟨S.H ++ [⟨58, [.int .i64 c, .int .i64 a, .nilif]⟩], S.T⟩) := by
  have he : E.esc 17 8 = true := rfl
  have hbd : evBuild Tryd.prog 58 [(0, .int .i64 c), (1, .int .i64 a)] = some (.agg [.int .i64 c, .int .i64 a, .nilif]) := by
    simp [evBuild, tp58, tz58, fillA, tl58_0, tl58_1, AV.cells?, wrc]
  have hf : finish S (.iface 55 (.ptr S.H.length 0)) ⟨S.H ++ [⟨58, [.int .i64 c, .int .i64 a, .nilif]⟩], S.T⟩ = some (.iface 55 (.ptr S.H.length 0), ⟨S.H ++ [⟨58, [.int .i64 c, .int .i64 a, .nilif]⟩], S.T⟩) := by
    unfold finish
    simp [AV.sealed, AV.strip, AV.low]
  rw [ev_enter (n := n) (show E.ok 17 = true from rfl) Tryd.func17 (fn := Tryd.f17) rfl (Nat.le_of_ble_eq_true rfl) (by decide +kernel)]
  simp (disch := first | (simp only [List.length_append, List.length_cons, List.length_nil]; omega) | (simp; done) | assumption) [↓evOp_build, ↓evOp_bslice, evB2_int, evB2_bool, evB2_str, evB2_eqi, evB2_nei, evB2_eqn, evB2_nen, evB2_peq, evB2_pne, evB2_req, evB2_rne, evB2_zeq, evB2_zne, isC_c, isC_t, evAssert, Bool.or_true, Bool.true_or, rhoP_nil, rhoP_cons, evCode_skip, evCode_region, evCode_draw, evCode_seq, evCode_cond, evCode_block, evCode_loop, evCode_exit, evCode_ret, seqK_ite, seqK_none, seqK_norm, seqK_ret, seqK_exit, seqK_pan, condK_true, condK_false, condK_bool, blockK_ite, blockK_none, blockK_norm, blockK_ret, blockK_exit, blockK_pan, stepK_ite, stepK_none, stepK_ok, stepK_pan, drawK_ite, drawK_none, drawK_ok, drawK_pan, opK_ite, opK_none, opK_val, opK_pan, wantK_true, wantK_false, wantK_some, afterRegion_ite, afterDraw_ite, fromBody_ite, ite_bool, ite_int, stepA_K, doOp, noOp, lexA_nil, lexA_cons, lexF_nil, lexF_cons, afterDraw, noClash, panIn, lostF, FP.clash, wantedA, evOp, rho, rhoL, ofC0, ofC, argsA, upd, afterRegion, putA, goOp, evBin_add, evBin_sub, evBin_mul, evBin_quo, evBin_rem, evBin_eql, evBin_neq, evBin_lss, evBin_leq, evBin_gtr, evBin_geq, evBin_eqlB, evBin_neqB, evBin_addS, evBin_eqlS, evBin_neqS, evBin_lssS, evBin_leqS, evUn, evConv, evIndex, evBuiltin, evLen, evMin2, evMax2, evCallee, evBox, evLoad, evStore, evFieldAddr, evField, evIndexAddr, evBuild, evBuildSlice, evElems, evSlice, nth, rdc, wrc, fromBody, resA, finRet, oneOf, AV.cells?, AV.isCell, fin_int, fin_bool, fin_str, -evBuild, Tryd.f17, he, hbd, AV.sealed, AV.sealedL, tn55, hf]
end Go.Proofs.YtemggoaefohliaaDoor.LX

/- Decimals, evaluated. No condition. -/
namespace Go.Proofs.YtemggoaefohliaaDoor.PT
set_option linter.unusedVariables false
set_option linter.unusedSimpArgs false
open Go AE EX
set_option maxRecDepth 100000

theorem by5 : Tryd.prog.bytesOf 5 = 1 := by kernel_rfl
theorem sq54 : sliceQ Tryd.prog 117 = some 5 := by kernel_rfl
theorem u54 : Tryd.prog.underlying 117 = some (.slice 5) := by kernel_rfl
theorem z5 : zeroQ Tryd.prog 5 = some [.int .u8 0] := by kernel_rfl
theorem iq52 : intQ Tryd.prog 113 = some .u64 := by kernel_rfl
theorem bq52 : boolQ Tryd.prog 113 = false := by kernel_rfl
theorem sl54 : sliceQ Tryd.prog 117 = some 5 := by kernel_rfl

theorem wrapu64 (n : Int) (h : 0 ≤ n ∧ n < 18446744073709551616) : IntKind.u64.wrap n = n := by
  simp [IntKind.wrap, IntKind.bits, IntKind.signed]; omega
theorem wrapu8 (n : Int) (h : 0 ≤ n ∧ n < 256) : IntKind.u8.wrap n = n := by
  simp [IntKind.wrap, IntKind.bits, IntKind.signed]; omega

/-- a number's size, as 64 bits -/
theorem ev_size (n : Nat) (a : Int) (S : St) (ha : in64 a) : ev Tryd.prog E (n + 1) 67 [.int .i64 a] S = some (.ret (.int .u64 a.natAbs), S) := by
  unfold in64 at ha
  rw [ev_enter (n := n) (show E.ok 67 = true from rfl) Tryd.func67 (fn := Tryd.f67) rfl (Nat.le_of_ble_eq_true rfl) (by decide +kernel)]
  by_cases h : a < 0
  · have w1 : IntKind.u64.wrap (0 - IntKind.u64.wrap a) = a.natAbs := by
      simp [IntKind.wrap, IntKind.bits, IntKind.signed]; omega
    have w1' : IntKind.u64.wrap (-IntKind.u64.wrap a) = a.natAbs := by
      simp [IntKind.wrap, IntKind.bits, IntKind.signed]; omega
    simp [↓evOp_build, ↓evOp_bslice, evB2_int, evB2_bool, evB2_str, evB2_eqi, evB2_nei, evB2_eqn, evB2_nen, evB2_peq, evB2_pne, evB2_req, evB2_rne, evB2_zeq, evB2_zne, isC_c, isC_t, evAssert, Bool.or_true, Bool.true_or, rhoP_nil, rhoP_cons, evCode_skip, evCode_region, evCode_draw, evCode_seq, evCode_cond, evCode_block, evCode_loop, evCode_exit, evCode_ret, seqK_ite, seqK_none, seqK_norm, seqK_ret, seqK_exit, seqK_pan, condK_true, condK_false, condK_bool, blockK_ite, blockK_none, blockK_norm, blockK_ret, blockK_exit, blockK_pan, stepK_ite, stepK_none, stepK_ok, stepK_pan, drawK_ite, drawK_none, drawK_ok, drawK_pan, opK_ite, opK_none, opK_val, opK_pan, wantK_true, wantK_false, wantK_some, afterRegion_ite, afterDraw_ite, fromBody_ite, ite_bool, ite_int, stepA_K, doOp, noOp, lexA_nil, lexA_cons, lexF_nil, lexF_cons, afterDraw, noClash, panIn, lostF, FP.clash, wantedA, evOp, rho, rhoL, ofC0, ofC, argsA, upd, afterRegion, putA, goOp, evBin_add, evBin_sub, evBin_mul, evBin_quo, evBin_rem, evBin_eql, evBin_neq, evBin_lss, evBin_leq, evBin_gtr, evBin_geq, evBin_eqlB, evBin_neqB, evBin_addS, evBin_eqlS, evBin_neqS, evBin_lssS, evBin_leqS, evUn, evConv, evIndex, evBuiltin, evLen, evMin2, evMax2, evCallee, evBox, evLoad, evStore, evFieldAddr, evField, evIndexAddr, evBuild, evBuildSlice, evElems, evSlice, nth, rdc, wrc, fromBody, resA, finRet, oneOf, AV.cells?, AV.isCell, fin_int, fin_bool, fin_str, Tryd.f67, bq2, iq2, iq52, h, w1, w1', fin_int]
  · have w1 : IntKind.u64.wrap a = a.natAbs := by
      simp [IntKind.wrap, IntKind.bits, IntKind.signed]; omega
    simp [↓evOp_build, ↓evOp_bslice, evB2_int, evB2_bool, evB2_str, evB2_eqi, evB2_nei, evB2_eqn, evB2_nen, evB2_peq, evB2_pne, evB2_req, evB2_rne, evB2_zeq, evB2_zne, isC_c, isC_t, evAssert, Bool.or_true, Bool.true_or, rhoP_nil, rhoP_cons, evCode_skip, evCode_region, evCode_draw, evCode_seq, evCode_cond, evCode_block, evCode_loop, evCode_exit, evCode_ret, seqK_ite, seqK_none, seqK_norm, seqK_ret, seqK_exit, seqK_pan, condK_true, condK_false, condK_bool, blockK_ite, blockK_none, blockK_norm, blockK_ret, blockK_exit, blockK_pan, stepK_ite, stepK_none, stepK_ok, stepK_pan, drawK_ite, drawK_none, drawK_ok, drawK_pan, opK_ite, opK_none, opK_val, opK_pan, wantK_true, wantK_false, wantK_some, afterRegion_ite, afterDraw_ite, fromBody_ite, ite_bool, ite_int, stepA_K, doOp, noOp, lexA_nil, lexA_cons, lexF_nil, lexF_cons, afterDraw, noClash, panIn, lostF, FP.clash, wantedA, evOp, rho, rhoL, ofC0, ofC, argsA, upd, afterRegion, putA, goOp, evBin_add, evBin_sub, evBin_mul, evBin_quo, evBin_rem, evBin_eql, evBin_neq, evBin_lss, evBin_leq, evBin_gtr, evBin_geq, evBin_eqlB, evBin_neqB, evBin_addS, evBin_eqlS, evBin_neqS, evBin_lssS, evBin_leqS, evUn, evConv, evIndex, evBuiltin, evLen, evMin2, evMax2, evCallee, evBox, evLoad, evStore, evFieldAddr, evField, evIndexAddr, evBuild, evBuildSlice, evElems, evSlice, nth, rdc, wrc, fromBody, resA, finRet, oneOf, AV.cells?, AV.isCell, fin_int, fin_bool, fin_str, Tryd.f67, bq2, iq2, iq52, h, w1, fin_int]

def dig (d : Nat) : UInt8 := UInt8.ofNat (48 + d)
/-- decimals -/
def dg (u : Nat) : List UInt8 := if h : u < 10 then [dig u] else dg (u / 10) ++ [dig (u % 10)]
theorem dg_lt {u : Nat} (h : u < 10) : dg u = [dig u] := by rw [dg, dif_pos h]
theorem dg_ge {u : Nat} (h : ¬ u < 10) : dg u = dg (u / 10) ++ [dig (u % 10)] := by rw [dg, dif_neg h]
theorem dg_len : ∀ (k u : Nat), u < 10 ^ (k + 1) → (dg u).length ≤ k + 1
  | 0, u, h => by rw [dg_lt (by simpa using h)]; simp
  | k + 1, u, h => by
    by_cases hu : u < 10
    · rw [dg_lt hu]; simp
    · rw [dg_ge hu]
      have := dg_len k (u / 10) (by rw [Nat.div_lt_iff_lt_mul (by omega)]; rw [Nat.pow_succ] at h; exact h)
      simp; omega
theorem dg_len20 {u : Nat} (h : u < 18446744073709551616) : (dg u).length ≤ 20 := dg_len 19 u (by omega)
theorem dg_pos (u : Nat) : 1 ≤ (dg u).length := by
  by_cases h : u < 10
  · rw [dg_lt h]; simp
  · rw [dg_ge h]; simp
theorem dig_nat {d : Nat} (h : d < 10) : (dig d).toNat = 48 + d := by
  unfold dig
  simp [UInt8.toNat_ofNat']
  omega

def dec (a : Int) : List UInt8 := if a < 0 then 45 :: dg a.natAbs else dg a.natAbs

def bav (l : List UInt8) : List AV := l.map fun b => .int .u8 b.toNat
theorem bav_sizes : ∀ l : List UInt8, sizesOk 1 (bav l) = true
  | [] => rfl
  | b :: l => by
    have := bav_sizes l
    simp only [bav] at this
    simp [bav, sizesOk, AV.cells?, this]
theorem bav_bytes : ∀ l : List UInt8, bytesOf (bav l) = some l
  | [] => rfl
  | b :: l => by
    have := bav_bytes l
    simp only [bav] at this
    simp [bav, bytesOf, this]
theorem bav_len (l : List UInt8) : (bav l).length = l.length := by simp [bav]

def apTok (xs : List AV) (S : St) : Tok := if xs = [] then .clip else .own S.T.length (1 + xs.length)
def apEx (xs : List AV) : List Nat := if xs = [] then [] else [1 + xs.length]
theorem appB (a : Int) (l : List UInt8) (tok : Tok) (S : St) (h : l.length ≤ 1000) : evAppend Tryd.prog [117, 117] (.slice [.int .u8 a] .clip) (.slice (bav l) tok) S = some (.slice (.int .u8 a :: bav l) (apTok (bav l) S), ⟨S.H, S.T ++ apEx (bav l)⟩) := by
  have hs := bav_sizes l
  have hl := bav_len l
  simp only [evAppend, sq54, u54, elemsOf, z5, c5, by5]
  by_cases hn : bav l = []
  · simp [hn, apTok, apEx, sizesOk, AV.cells?]
  · simp [hn, apTok, apEx, hs, sizesOk, AV.cells?, Nat.add_comm]
    omega
end Go.Proofs.YtemggoaefohliaaDoor.PT

/- Decimals, evaluated, of both. No condition. -/
namespace Go.Proofs.YtemggoaefohliaaDoor.PT
set_option linter.unusedVariables false
set_option linter.unusedSimpArgs false
open Go AE EX
set_option maxRecDepth 100000

noncomputable def dLoop : Code := cutC (bodyOf Tryd.f62) [1, 1, 1, 0, 0, 0]
noncomputable def d0 : Code := cutC (bodyOf Tryd.f62) [0]
noncomputable def d1 : Code := cutC (bodyOf Tryd.f62) [1, 0]
noncomputable def d2 : Code := cutC (bodyOf Tryd.f62) [1, 1, 0]
noncomputable def d3 : Code := cutC (bodyOf Tryd.f62) [1, 1, 1, 1]
theorem f30b : Tryd.f62.body = some (.seq d0 (.seq d1 (.seq d2 (.seq (.block 0 (.loop dLoop)) d3)))) := rfl

def DI (a : Int) (S0 : St) (m : Nat) (fs : FS) : Prop :=
  ∃ (u : Nat) (l : List UInt8) (tok : Tok) (ex : List Nat), fs.t 0 = .int .i64 a ∧ fs.t 3 = .int .u64 u ∧ u < 18446744073709551616 ∧ fs.t 4 = .slice (bav l) tok ∧ dg u ++ l = dg a.natAbs ∧ m = (dg u).length ∧ fs.S = ⟨S0.H, S0.T ++ ex⟩
def DQ (a : Int) (S0 : St) (r : Out × FS) : Prop :=
  r.1 = .exit 0 ∧ ∃ (u : Nat) (l : List UInt8) (tok : Tok) (ex : List Nat), r.2.t 0 = .int .i64 a ∧ r.2.t 3 = .int .u64 u ∧ u < 10 ∧ r.2.t 4 = .slice (bav l) tok ∧ dig u :: l = dg a.natAbs ∧ r.2.S = ⟨S0.H, S0.T ++ ex⟩

theorem dec_round (n : Nat) (a : Int) (ha : in64 a) (S0 : St) (m : Nat) (fs : FS) (h : DI a S0 m fs) :
    ∃ o fs', evCode ⟨Tryd.prog, E.esc 62, n⟩ (ev Tryd.prog E n) (E.ps 62) n dLoop fs = some (o, fs') ∧ ((o = .norm ∧ ∃ m', m' < m ∧ DI a S0 m' fs') ∨ (o ≠ .norm ∧ DQ a S0 (o, fs'))) := by
  obtain ⟨t, b, v, S⟩ := fs
  obtain ⟨u, l, tok, ex, h0, h1, h2, h3, h4, h5, h6⟩ := h
  simp at h0 h1 h3 h6
  subst h6
  unfold in64 at ha
  by_cases hu : u < 10
  · refine ⟨.exit 0, _, by
      simp [↓evOp_build, ↓evOp_bslice, evB2_int, evB2_bool, evB2_str, evB2_eqi, evB2_nei, evB2_eqn, evB2_nen, evB2_peq, evB2_pne, evB2_req, evB2_rne, evB2_zeq, evB2_zne, isC_c, isC_t, evAssert, Bool.or_true, Bool.true_or, rhoP_nil, rhoP_cons, evCode_skip, evCode_region, evCode_draw, evCode_seq, evCode_cond, evCode_block, evCode_loop, evCode_exit, evCode_ret, seqK_ite, seqK_none, seqK_norm, seqK_ret, seqK_exit, seqK_pan, condK_true, condK_false, condK_bool, blockK_ite, blockK_none, blockK_norm, blockK_ret, blockK_exit, blockK_pan, stepK_ite, stepK_none, stepK_ok, stepK_pan, drawK_ite, drawK_none, drawK_ok, drawK_pan, opK_ite, opK_none, opK_val, opK_pan, wantK_true, wantK_false, wantK_some, afterRegion_ite, afterDraw_ite, fromBody_ite, ite_bool, ite_int, stepA_K, doOp, noOp, lexA_nil, lexA_cons, lexF_nil, lexF_cons, afterDraw, noClash, panIn, lostF, FP.clash, wantedA, evOp, rho, rhoL, ofC0, ofC, argsA, upd, afterRegion, putA, goOp, evBin_add, evBin_sub, evBin_mul, evBin_quo, evBin_rem, evBin_eql, evBin_neq, evBin_lss, evBin_leq, evBin_gtr, evBin_geq, evBin_eqlB, evBin_neqB, evBin_addS, evBin_eqlS, evBin_neqS, evBin_lssS, evBin_leqS, evUn, evConv, evIndex, evBuiltin, evLen, evMin2, evMax2, evCallee, evBox, evLoad, evStore, evFieldAddr, evField, evIndexAddr, evBuild, evBuildSlice, evElems, evSlice, nth, rdc, wrc, fromBody, resA, finRet, oneOf, AV.cells?, AV.isCell, fin_int, fin_bool, fin_str, dLoop, cutC, bodyOf, Tryd.f62, h0, h1, show ¬ ((u : Int) ≥ 10) by omega, bq52]
      rfl, .inr ⟨by simp, rfl, u, l, tok, ex, by simp [upd, h0], by simp [upd, h1], hu, by simp [upd, h3], ?_, rfl⟩⟩
    rw [← h4, dg_lt hu]; rfl
  · have hl : l.length ≤ 1000 := by
      have := congrArg List.length h4
      have h7 := dg_len20 (u := a.natAbs) (by omega)
      simp at this
      omega
    have e1 : ((u : Int).tmod 10) = (u % 10 : Nat) := by rw [Int.tmod_eq_emod_of_nonneg (by omega)]; omega
    have e2 : ((u : Int).tdiv 10) = (u / 10 : Nat) := by rw [Int.tdiv_eq_ediv_of_nonneg (by omega)]; omega
    have w1 : IntKind.u64.wrap (48 + (u % 10 : Nat)) = (48 + (u % 10 : Nat) : Int) := wrapu64 _ (by omega)
    have w2 : IntKind.u8.wrap (48 + (u % 10 : Nat)) = ((dig (u % 10)).toNat : Int) := by
      rw [wrapu8 _ (by omega), dig_nat (by omega)]; omega
    have w3 : IntKind.u64.wrap ((u / 10 : Nat) : Int) = (u / 10 : Nat) := wrapu64 _ (by omega)
    have e3 : (10 : Int) ≤ u := by omega
    have hcons : ∀ x : UInt8, AV.int .u8 x.toNat :: bav l = bav (x :: l) := fun _ => rfl
    refine ⟨.norm, _, by
      simp [↓evOp_build, ↓evOp_bslice, evB2_int, evB2_bool, evB2_str, evB2_eqi, evB2_nei, evB2_eqn, evB2_nen, evB2_peq, evB2_pne, evB2_req, evB2_rne, evB2_zeq, evB2_zne, isC_c, isC_t, evAssert, Bool.or_true, Bool.true_or, rhoP_nil, rhoP_cons, evCode_skip, evCode_region, evCode_draw, evCode_seq, evCode_cond, evCode_block, evCode_loop, evCode_exit, evCode_ret, seqK_ite, seqK_none, seqK_norm, seqK_ret, seqK_exit, seqK_pan, condK_true, condK_false, condK_bool, blockK_ite, blockK_none, blockK_norm, blockK_ret, blockK_exit, blockK_pan, stepK_ite, stepK_none, stepK_ok, stepK_pan, drawK_ite, drawK_none, drawK_ok, drawK_pan, opK_ite, opK_none, opK_val, opK_pan, wantK_true, wantK_false, wantK_some, afterRegion_ite, afterDraw_ite, fromBody_ite, ite_bool, ite_int, stepA_K, doOp, noOp, lexA_nil, lexA_cons, lexF_nil, lexF_cons, afterDraw, noClash, panIn, lostF, FP.clash, wantedA, evOp, rho, rhoL, ofC0, ofC, argsA, upd, afterRegion, putA, goOp, evBin_add, evBin_sub, evBin_mul, evBin_quo, evBin_rem, evBin_eql, evBin_neq, evBin_lss, evBin_leq, evBin_gtr, evBin_geq, evBin_eqlB, evBin_neqB, evBin_addS, evBin_eqlS, evBin_neqS, evBin_lssS, evBin_leqS, evUn, evConv, evIndex, evBuiltin, evLen, evMin2, evMax2, evCallee, evBox, evLoad, evStore, evFieldAddr, evField, evIndexAddr, evBuild, evBuildSlice, evElems, evSlice, nth, rdc, wrc, fromBody, resA, finRet, oneOf, AV.cells?, AV.isCell, fin_int, fin_bool, fin_str, evElems, dLoop, cutC, bodyOf, Tryd.f62, h0, h1, h3, e3, bq52, e1, e2, -Int.natCast_emod, -Int.natCast_ediv, w1, w2, w3, iq52, iq5, sq54, z5, c5, a5, appB _ l tok _ hl]
      rfl, .inl ⟨rfl, (dg (u / 10)).length, ?_, u / 10, dig (u % 10) :: l, apTok (bav l) ⟨S0.H, S0.T ++ ex⟩, ex ++ apEx (bav l), ?_, ?_, ?_, ?_, ?_, rfl, ?_⟩⟩
    · rw [h5, dg_ge hu]; simp
    · simp [upd, h0]
    · simp [upd]
    · omega
    · simp [upd, hcons]
    · rw [← h4, dg_ge hu]; simp
    · simp

theorem fin_strT (s : List UInt8) (S : St) (ex : List Nat) : finish S (.str s) ⟨S.H, S.T ++ ex⟩ = some (.str s, S) := by
  unfold finish
  simp [AV.sealed, AV.strip, AV.low, boxEqL_refl]

theorem ev_dec (n : Nat) (hn : 30 ≤ n) (a : Int) (ha : in64 a) (S : St) : ev Tryd.prog E (n + 1) 62 [.int .i64 a] S = some (.ret (.str (dec a)), S) := by
  have hs := ev_size (n - 1) a S ha
  rw [show n - 1 + 1 = n by omega] at hs
  have ha' := ha
  unfold in64 at ha'
  have key : ∀ fs, DI a S (dg a.natAbs).length fs → ∃ r, iter n (evCode ⟨Tryd.prog, E.esc 62, n⟩ (ev Tryd.prog E n) (E.ps 62) n dLoop) fs = some r ∧ DQ a S r := fun fs h =>
    iter_meas (fun m fs h => dec_round n a ha S m fs h) (dg a.natAbs).length n fs (by have := dg_len20 (u := a.natAbs) (by omega); omega) h
  obtain ⟨r, hr, hq1, u, l, tok, ex, q0, q1, q2, q3, q4, q5⟩ := key ⟨upd 4 (.slice [] .clip) (upd 3 (.int .u64 a.natAbs) (upd 7 (.int .u64 a.natAbs) (upd 6 (.int .i64 a) (upd 2 (.str []) (argsA [.int .i64 a]))))), fun _ => (0, []), 5, S⟩
    ⟨a.natAbs, [], .clip, [], by simp [upd, argsA], by simp [upd], by omega, by simp [upd, bav], by simp, rfl, by simp⟩
  obtain ⟨o, t, b, v, S'⟩ := r
  simp at hq1 q0 q1 q3 q5
  subst hq1 q5
  have hl : l.length ≤ 1000 := by
    have := congrArg List.length q4
    have h7 := dg_len20 (u := a.natAbs) (by omega)
    simp at this
    omega
  have w1 : IntKind.u64.wrap (48 + (u : Int)) = (48 + u : Int) := wrapu64 _ (by omega)
  have w2 : IntKind.u8.wrap (48 + (u : Int)) = ((dig u).toNat : Int) := by
    rw [wrapu8 _ (by omega), dig_nat (by omega)]; omega
  have hbb : bytesOf (.int .u8 (dig u).toNat :: bav l) = some (dig u :: l) := bav_bytes (dig u :: l)
  have hf := fin_strT (dec a) S (ex ++ apEx (bav l))
  rw [ev_enter (n := n) (show E.ok 62 = true from rfl) Tryd.func62 f30b (Nat.le_of_ble_eq_true rfl) (by decide +kernel)]
  have hlen : (dg a.natAbs).length ≤ 20 := dg_len20 (by omega)
  by_cases h : a < 0
  · have hd : dec a = 45 :: dg a.natAbs := by simp [dec, h]
    rw [hd] at hf
    simp [↓evOp_build, ↓evOp_bslice, evB2_int, evB2_bool, evB2_str, evB2_eqi, evB2_nei, evB2_eqn, evB2_nen, evB2_peq, evB2_pne, evB2_req, evB2_rne, evB2_zeq, evB2_zne, isC_c, isC_t, evAssert, Bool.or_true, Bool.true_or, rhoP_nil, rhoP_cons, evCode_skip, evCode_region, evCode_draw, evCode_seq, evCode_cond, evCode_block, evCode_loop, evCode_exit, evCode_ret, seqK_ite, seqK_none, seqK_norm, seqK_ret, seqK_exit, seqK_pan, condK_true, condK_false, condK_bool, blockK_ite, blockK_none, blockK_norm, blockK_ret, blockK_exit, blockK_pan, stepK_ite, stepK_none, stepK_ok, stepK_pan, drawK_ite, drawK_none, drawK_ok, drawK_pan, opK_ite, opK_none, opK_val, opK_pan, wantK_true, wantK_false, wantK_some, afterRegion_ite, afterDraw_ite, fromBody_ite, ite_bool, ite_int, stepA_K, doOp, noOp, lexA_nil, lexA_cons, lexF_nil, lexF_cons, afterDraw, noClash, panIn, lostF, FP.clash, wantedA, evOp, rho, rhoL, ofC0, ofC, argsA, upd, afterRegion, putA, goOp, evBin_add, evBin_sub, evBin_mul, evBin_quo, evBin_rem, evBin_eql, evBin_neq, evBin_lss, evBin_leq, evBin_gtr, evBin_geq, evBin_eqlB, evBin_neqB, evBin_addS, evBin_eqlS, evBin_neqS, evBin_lssS, evBin_leqS, evUn, evConv, evIndex, evBuiltin, evLen, evMin2, evMax2, evCallee, evBox, evLoad, evStore, evFieldAddr, evField, evIndexAddr, evBuild, evBuildSlice, evElems, evSlice, nth, rdc, wrc, fromBody, resA, finRet, oneOf, AV.cells?, AV.isCell, fin_int, fin_bool, fin_str, evElems, d0, d1, d2, d3, cutC, bodyOf, Tryd.f62, hs, hr, q0, q1, q3, bq52, w1, w2, iq52, iq5, sq54, z5, c5, a5, appB _ l tok _ hl, sq9, hbb, q4, h, hf, hd, show (dg a.natAbs).length + 1 ≤ 4611686018427387904 by omega, show 1 + (dg a.natAbs).length ≤ 4611686018427387904 by omega]
  · have hd : dec a = dg a.natAbs := by simp [dec, h]
    rw [hd] at hf
    simp [↓evOp_build, ↓evOp_bslice, evB2_int, evB2_bool, evB2_str, evB2_eqi, evB2_nei, evB2_eqn, evB2_nen, evB2_peq, evB2_pne, evB2_req, evB2_rne, evB2_zeq, evB2_zne, isC_c, isC_t, evAssert, Bool.or_true, Bool.true_or, rhoP_nil, rhoP_cons, evCode_skip, evCode_region, evCode_draw, evCode_seq, evCode_cond, evCode_block, evCode_loop, evCode_exit, evCode_ret, seqK_ite, seqK_none, seqK_norm, seqK_ret, seqK_exit, seqK_pan, condK_true, condK_false, condK_bool, blockK_ite, blockK_none, blockK_norm, blockK_ret, blockK_exit, blockK_pan, stepK_ite, stepK_none, stepK_ok, stepK_pan, drawK_ite, drawK_none, drawK_ok, drawK_pan, opK_ite, opK_none, opK_val, opK_pan, wantK_true, wantK_false, wantK_some, afterRegion_ite, afterDraw_ite, fromBody_ite, ite_bool, ite_int, stepA_K, doOp, noOp, lexA_nil, lexA_cons, lexF_nil, lexF_cons, afterDraw, noClash, panIn, lostF, FP.clash, wantedA, evOp, rho, rhoL, ofC0, ofC, argsA, upd, afterRegion, putA, goOp, evBin_add, evBin_sub, evBin_mul, evBin_quo, evBin_rem, evBin_eql, evBin_neq, evBin_lss, evBin_leq, evBin_gtr, evBin_geq, evBin_eqlB, evBin_neqB, evBin_addS, evBin_eqlS, evBin_neqS, evBin_lssS, evBin_leqS, evUn, evConv, evIndex, evBuiltin, evLen, evMin2, evMax2, evCallee, evBox, evLoad, evStore, evFieldAddr, evField, evIndexAddr, evBuild, evBuildSlice, evElems, evSlice, nth, rdc, wrc, fromBody, resA, finRet, oneOf, AV.cells?, AV.isCell, fin_int, fin_bool, fin_str, evElems, d0, d1, d2, d3, cutC, bodyOf, Tryd.f62, hs, hr, q0, q1, q3, bq52, w1, w2, iq52, iq5, sq54, z5, c5, a5, appB _ l tok _ hl, sq9, hbb, q4, h, hf, hd]

/-! ### the page's -/
def RI (a : Int) (S0 : St) (m : Nat) (fs : FS) : Prop :=
  ∃ (u : Int) (l : List UInt8), fs.t 0 = .int .i64 a ∧ fs.t 4 = .int .i64 u ∧ in64 u ∧ fs.t 3 = .str l ∧ (if u = 0 then l else dg u.natAbs ++ l) = dg a.natAbs ∧ m = (if u = 0 then 0 else (dg u.natAbs).length) ∧ fs.S = S0
def RQ (a : Int) (S0 : St) (r : Out × FS) : Prop :=
  r.1 = .exit 0 ∧ r.2.t 0 = .int .i64 a ∧ r.2.t 3 = .str (dg a.natAbs) ∧ r.2.S = S0

end Go.Proofs.YtemggoaefohliaaDoor.PT

/- One text just where they are alike: small parts. No condition. -/
namespace Go.Proofs.YtemggoaefohliaaDoor.PT
set_option linter.unusedVariables false
set_option linter.unusedSimpArgs false
open Go AE EX
set_option maxRecDepth 100000

/-- it doesn't begin so -/
def stops (p : UInt8 → Bool) : List UInt8 → Prop
  | [] => True
  | c :: _ => p c = false
theorem span_inj (p : UInt8 → Bool) : ∀ (a b r s : List UInt8), a.all p = true → b.all p = true → stops p r → stops p s → a ++ r = b ++ s → a = b ∧ r = s
  | [], [], r, s, _, _, _, _, h => ⟨rfl, by simpa using h⟩
  | [], y :: b, r, s, _, hb, hr, _, h => by
    simp at h
    subst h
    simp [stops] at hr
    simp [hr] at hb
  | x :: a, [], r, s, ha, _, _, hs, h => by
    simp at h
    subst h
    simp [stops] at hs
    simp [hs] at ha
  | x :: a, y :: b, r, s, ha, hb, hr, hs, h => by
    simp at h ha hb
    obtain ⟨rfl, h⟩ := h
    obtain ⟨rfl, rfl⟩ := span_inj p a b r s (by simpa using ha.2) (by simpa using hb.2) hr hs h
    exact ⟨rfl, rfl⟩

def isDig (c : UInt8) : Bool := decide (48 ≤ c.toNat) && decide (c.toNat ≤ 57)
def val (l : List UInt8) : Nat := l.foldl (fun v c => v * 10 + (c.toNat - 48)) 0
theorem val_snoc (l : List UInt8) (c : UInt8) : val (l ++ [c]) = val l * 10 + (c.toNat - 48) := by simp [val]
theorem val_dg (u : Nat) : val (dg u) = u := by
  induction u using Nat.strongRecOn with
  | _ u ih =>
  by_cases h : u < 10
  · rw [dg_lt h]; simp [val, dig_nat h]
  · rw [dg_ge h, val_snoc, ih _ (by omega), dig_nat (by omega)]; omega
theorem dg_inj {u v : Nat} (h : dg u = dg v) : u = v := by rw [← val_dg u, ← val_dg v, h]
theorem dig_isDig {d : Nat} (h : d < 10) : isDig (dig d) = true := by
  unfold isDig; rw [dig_nat h]; simp; omega
theorem dg_all (u : Nat) : (dg u).all isDig = true := by
  induction u using Nat.strongRecOn with
  | _ u ih =>
  by_cases h : u < 10
  · rw [dg_lt h]; simp [dig_isDig h]
  · rw [dg_ge h, List.all_append, ih _ (by omega)]; simp [dig_isDig (show u % 10 < 10 by omega)]
theorem dec_pos {a : Int} (h : 0 ≤ a) : dec a = dg a.natAbs := by unfold dec; rw [if_neg (by omega)]
theorem dec_inj {a b : Int} (ha : 0 ≤ a) (hb : 0 ≤ b) {r s : List UInt8} (hr : stops isDig r) (hs : stops isDig s) (h : dec a ++ r = dec b ++ s) : a = b ∧ r = s := by
  rw [dec_pos ha, dec_pos hb] at h
  obtain ⟨h1, h2⟩ := span_inj isDig _ _ _ _ (dg_all _) (dg_all _) hr hs h
  have := dg_inj h1
  exact ⟨by omega, h2⟩

theorem head_tail {c : Int} (h : headB c = true) : tailB c = true := by simp [tailB, h]
theorem name_all {s : List UInt8} (h : nameB s = true) : s.all tl = true := by
  cases s with
  | nil => simp [nameB] at h
  | cons c r =>
    simp only [nameB, Bool.and_eq_true] at h
    rw [List.all_cons, h.2, Bool.and_true]
    exact head_tail h.1.2
theorem name_inj {a b r s : List UInt8} (ha : nameB a = true) (hb : nameB b = true) (hr : stops tl r) (hs : stops tl s) (h : a ++ r = b ++ s) : a = b ∧ r = s :=
  span_inj tl a b r s (name_all ha) (name_all hb) hr hs h
def notQ (c : UInt8) : Bool := c != 34
theorem plain_all {s : List UInt8} (h : plainB s = true) : s.all notQ = true := by
  simp only [plainB, Bool.and_eq_true] at h
  rw [List.all_eq_true] at h ⊢
  intro c hc
  have := h.2 c hc
  simp [badB] at this
  simp [notQ]
  intro e
  subst e
  exact this.1 rfl
theorem plain_inj {a b r s : List UInt8} (ha : plainB a = true) (hb : plainB b = true) (h : a ++ 34 :: r = b ++ 34 :: s) : a = b ∧ r = s := by
  obtain ⟨h1, h2⟩ := span_inj notQ a b (34 :: r) (34 :: s) (plain_all ha) (plain_all hb) rfl rfl h
  exact ⟨h1, by simpa using h2⟩

/-- what may stand behind an expression: nothing, or a blank, a comma, a bracket's end -/
def delim : List UInt8 → Prop
  | [] => True
  | c :: _ => c = 32 ∨ c = 41 ∨ c = 44 ∨ c = 125
theorem delim_tl {r : List UInt8} (h : delim r) : stops tl r := by
  cases r with
  | nil => trivial
  | cons c r => rcases h with rfl | rfl | rfl | rfl <;> rfl
theorem delim_dig {r : List UInt8} (h : delim r) : stops isDig r := by
  cases r with
  | nil => trivial
  | cons c r => rcases h with rfl | rfl | rfl | rfl <;> rfl
end Go.Proofs.YtemggoaefohliaaDoor.PT

/- Numbers read (num.Parse), evaluated. No condition. -/
namespace Go.Proofs.YtemggoaefohliaaDoor.LX
set_option linter.unusedVariables false
set_option linter.unusedSimpArgs false
open Go AE EX PT NF
set_option maxRecDepth 100000

theorem fin_ib (k : IntKind) (n : Int) (b : Bool) (S : St) : finish S (.tup [.int k n, .bool b]) S = some (.tup [.int k n, .bool b], S) := finish_same rfl rfl rfl rfl rfl
theorem tb113 : boolQ Tryd.prog 113 = false := by kernel_rfl
theorem iq113 : intQ Tryd.prog 113 = some .u64 := by kernel_rfl

theorem ev_mulX (n : Nat) (a b : Int) (ha : 0 ≤ a ∧ a < 18446744073709551616) (hb : 0 ≤ b ∧ b < 18446744073709551616) (S : St) :
    ev Tryd.prog E (n + 1) 66 [.int .u64 a, .int .u64 b] S = some (.ret (.tup [.int .u64 ((a.toNat * b.toNat / 18446744073709551616 : Nat) : Int), .int .u64 ((a.toNat * b.toNat % 18446744073709551616 : Nat) : Int)]), S) := by
  have : ev Tryd.prog E (n + 1) 66 [.int .u64 a, .int .u64 b] S = mulX [.int .u64 a, .int .u64 b] S := rfl
  rw [this, mulX, if_pos ⟨ha.1, ha.2, hb.1, hb.2⟩]

theorem mul_ok (n : Nat) (a hi lo u v : Int) (S : St) (g0 : ¬ a < 0) (h1 : ev Tryd.prog E (n + 1) 67 [.int .i64 a] S = some (.ret (.int .u64 u), S)) (h2 : ev Tryd.prog E (n + 1) 67 [.int .i64 10] S = some (.ret (.int .u64 v), S))
    (h3 : ev Tryd.prog E (n + 1) 66 [.int .u64 u, .int .u64 v] S = some (.ret (.tup [.int .u64 hi, .int .u64 lo]), S)) (r : Int) (c1 : ¬ 0 < hi) (c2 : ¬ 9223372036854775807 < lo) (c3 : ¬ 9223372036854775808 < lo) (hw : IntKind.i64.wrap lo = r) :
    ev Tryd.prog E (n + 2) 60 [.int .i64 a, .int .i64 10] S = some (.ret (.tup [.int .i64 r, .bool true]), S) := by
  rw [show n + 2 = (n + 1) + 1 from rfl, ev_enter (n := n + 1) (show E.ok 60 = true from rfl) Tryd.func60 (fn := Tryd.f60) rfl (Nat.le_of_ble_eq_true rfl) (by decide +kernel)]
  simp (disch := first | (simp only [List.length_append, List.length_cons, List.length_nil]; omega) | (simp; done) | assumption) [↓evOp_build, ↓evOp_bslice, evB2_int, evB2_bool, evB2_str, evB2_eqi, evB2_nei, evB2_eqn, evB2_nen, evB2_peq, evB2_pne, evB2_req, evB2_rne, evB2_zeq, evB2_zne, isC_c, isC_t, evAssert, Bool.or_true, Bool.true_or, rhoP_nil, rhoP_cons, evCode_skip, evCode_region, evCode_draw, evCode_seq, evCode_cond, evCode_block, evCode_loop, evCode_exit, evCode_ret, seqK_ite, seqK_none, seqK_norm, seqK_ret, seqK_exit, seqK_pan, condK_true, condK_false, condK_bool, blockK_ite, blockK_none, blockK_norm, blockK_ret, blockK_exit, blockK_pan, stepK_ite, stepK_none, stepK_ok, stepK_pan, drawK_ite, drawK_none, drawK_ok, drawK_pan, opK_ite, opK_none, opK_val, opK_pan, wantK_true, wantK_false, wantK_some, afterRegion_ite, afterDraw_ite, fromBody_ite, ite_bool, ite_int, stepA_K, doOp, noOp, lexA_nil, lexA_cons, lexF_nil, lexF_cons, afterDraw, noClash, panIn, lostF, FP.clash, wantedA, evOp, rho, rhoL, ofC0, ofC, argsA, upd, afterRegion, putA, goOp, evBin_add, evBin_sub, evBin_mul, evBin_quo, evBin_rem, evBin_eql, evBin_neq, evBin_lss, evBin_leq, evBin_gtr, evBin_geq, evBin_eqlB, evBin_neqB, evBin_addS, evBin_eqlS, evBin_neqS, evBin_lssS, evBin_leqS, evUn, evConv, evIndex, evBuiltin, evLen, evMin2, evMax2, evCallee, evBox, evLoad, evStore, evFieldAddr, evField, evIndexAddr, evBuild, evBuildSlice, evElems, evSlice, nth, rdc, wrc, fromBody, resA, finRet, oneOf, AV.cells?, AV.isCell, fin_int, fin_bool, fin_str, Tryd.f60, E_esc, h1, h2, h3, bq2, tb113, bq4, iq2, iq113, g0, c1, c2, c3, hw, fin_ib]
theorem mul_hi (n : Nat) (a hi lo u v : Int) (S : St) (g0 : ¬ a < 0) (h1 : ev Tryd.prog E (n + 1) 67 [.int .i64 a] S = some (.ret (.int .u64 u), S)) (h2 : ev Tryd.prog E (n + 1) 67 [.int .i64 10] S = some (.ret (.int .u64 v), S))
    (h3 : ev Tryd.prog E (n + 1) 66 [.int .u64 u, .int .u64 v] S = some (.ret (.tup [.int .u64 hi, .int .u64 lo]), S)) (c1 : 0 < hi) :
    ev Tryd.prog E (n + 2) 60 [.int .i64 a, .int .i64 10] S = some (.ret (.tup [.int .i64 0, .bool false]), S) := by
  rw [show n + 2 = (n + 1) + 1 from rfl, ev_enter (n := n + 1) (show E.ok 60 = true from rfl) Tryd.func60 (fn := Tryd.f60) rfl (Nat.le_of_ble_eq_true rfl) (by decide +kernel)]
  simp (disch := first | (simp only [List.length_append, List.length_cons, List.length_nil]; omega) | (simp; done) | assumption) [↓evOp_build, ↓evOp_bslice, evB2_int, evB2_bool, evB2_str, evB2_eqi, evB2_nei, evB2_eqn, evB2_nen, evB2_peq, evB2_pne, evB2_req, evB2_rne, evB2_zeq, evB2_zne, isC_c, isC_t, evAssert, Bool.or_true, Bool.true_or, rhoP_nil, rhoP_cons, evCode_skip, evCode_region, evCode_draw, evCode_seq, evCode_cond, evCode_block, evCode_loop, evCode_exit, evCode_ret, seqK_ite, seqK_none, seqK_norm, seqK_ret, seqK_exit, seqK_pan, condK_true, condK_false, condK_bool, blockK_ite, blockK_none, blockK_norm, blockK_ret, blockK_exit, blockK_pan, stepK_ite, stepK_none, stepK_ok, stepK_pan, drawK_ite, drawK_none, drawK_ok, drawK_pan, opK_ite, opK_none, opK_val, opK_pan, wantK_true, wantK_false, wantK_some, afterRegion_ite, afterDraw_ite, fromBody_ite, ite_bool, ite_int, stepA_K, doOp, noOp, lexA_nil, lexA_cons, lexF_nil, lexF_cons, afterDraw, noClash, panIn, lostF, FP.clash, wantedA, evOp, rho, rhoL, ofC0, ofC, argsA, upd, afterRegion, putA, goOp, evBin_add, evBin_sub, evBin_mul, evBin_quo, evBin_rem, evBin_eql, evBin_neq, evBin_lss, evBin_leq, evBin_gtr, evBin_geq, evBin_eqlB, evBin_neqB, evBin_addS, evBin_eqlS, evBin_neqS, evBin_lssS, evBin_leqS, evUn, evConv, evIndex, evBuiltin, evLen, evMin2, evMax2, evCallee, evBox, evLoad, evStore, evFieldAddr, evField, evIndexAddr, evBuild, evBuildSlice, evElems, evSlice, nth, rdc, wrc, fromBody, resA, finRet, oneOf, AV.cells?, AV.isCell, fin_int, fin_bool, fin_str, Tryd.f60, E_esc, h1, h2, h3, bq2, tb113, bq4, iq2, iq113, g0, c1, fin_ib]
theorem mul_lo (n : Nat) (a hi lo u v : Int) (S : St) (g0 : ¬ a < 0) (h1 : ev Tryd.prog E (n + 1) 67 [.int .i64 a] S = some (.ret (.int .u64 u), S)) (h2 : ev Tryd.prog E (n + 1) 67 [.int .i64 10] S = some (.ret (.int .u64 v), S))
    (h3 : ev Tryd.prog E (n + 1) 66 [.int .u64 u, .int .u64 v] S = some (.ret (.tup [.int .u64 hi, .int .u64 lo]), S)) (c1 : ¬ 0 < hi) (c2 : 9223372036854775807 < lo) :
    ev Tryd.prog E (n + 2) 60 [.int .i64 a, .int .i64 10] S = some (.ret (.tup [.int .i64 0, .bool false]), S) := by
  rw [show n + 2 = (n + 1) + 1 from rfl, ev_enter (n := n + 1) (show E.ok 60 = true from rfl) Tryd.func60 (fn := Tryd.f60) rfl (Nat.le_of_ble_eq_true rfl) (by decide +kernel)]
  simp (disch := first | (simp only [List.length_append, List.length_cons, List.length_nil]; omega) | (simp; done) | assumption) [↓evOp_build, ↓evOp_bslice, evB2_int, evB2_bool, evB2_str, evB2_eqi, evB2_nei, evB2_eqn, evB2_nen, evB2_peq, evB2_pne, evB2_req, evB2_rne, evB2_zeq, evB2_zne, isC_c, isC_t, evAssert, Bool.or_true, Bool.true_or, rhoP_nil, rhoP_cons, evCode_skip, evCode_region, evCode_draw, evCode_seq, evCode_cond, evCode_block, evCode_loop, evCode_exit, evCode_ret, seqK_ite, seqK_none, seqK_norm, seqK_ret, seqK_exit, seqK_pan, condK_true, condK_false, condK_bool, blockK_ite, blockK_none, blockK_norm, blockK_ret, blockK_exit, blockK_pan, stepK_ite, stepK_none, stepK_ok, stepK_pan, drawK_ite, drawK_none, drawK_ok, drawK_pan, opK_ite, opK_none, opK_val, opK_pan, wantK_true, wantK_false, wantK_some, afterRegion_ite, afterDraw_ite, fromBody_ite, ite_bool, ite_int, stepA_K, doOp, noOp, lexA_nil, lexA_cons, lexF_nil, lexF_cons, afterDraw, noClash, panIn, lostF, FP.clash, wantedA, evOp, rho, rhoL, ofC0, ofC, argsA, upd, afterRegion, putA, goOp, evBin_add, evBin_sub, evBin_mul, evBin_quo, evBin_rem, evBin_eql, evBin_neq, evBin_lss, evBin_leq, evBin_gtr, evBin_geq, evBin_eqlB, evBin_neqB, evBin_addS, evBin_eqlS, evBin_neqS, evBin_lssS, evBin_leqS, evUn, evConv, evIndex, evBuiltin, evLen, evMin2, evMax2, evCallee, evBox, evLoad, evStore, evFieldAddr, evField, evIndexAddr, evBuild, evBuildSlice, evElems, evSlice, nth, rdc, wrc, fromBody, resA, finRet, oneOf, AV.cells?, AV.isCell, fin_int, fin_bool, fin_str, Tryd.f60, E_esc, h1, h2, h3, bq2, tb113, bq4, iq2, iq113, g0, c1, c2, fin_ib]

theorem mul_arith (m : Nat) : (m : Int) ≤ 9223372036854775807 ∧ ((m / 18446744073709551616 : Nat) : Int) = 0 ∧ ((m % 18446744073709551616 : Nat) : Int) = m ∨ 0 < ((m / 18446744073709551616 : Nat) : Int) ∧ ¬ (m : Int) ≤ 9223372036854775807 ∨ ((m / 18446744073709551616 : Nat) : Int) = 0 ∧ 9223372036854775807 < ((m % 18446744073709551616 : Nat) : Int) ∧ ¬ (m : Int) ≤ 9223372036854775807 := by
  omega
theorem ev_Mul (n : Nat) (a : Nat) (ha : (a : Int) ≤ 9223372036854775807) (S : St) :
    ev Tryd.prog E (n + 2) 60 [.int .i64 (a : Int), .int .i64 10] S = some (.ret (.tup [.int .i64 (if ((a * 10 : Nat) : Int) ≤ 9223372036854775807 then ((a * 10 : Nat) : Int) else 0), .bool (decide (((a * 10 : Nat) : Int) ≤ 9223372036854775807))]), S) := by
  have h1 := ev_size n a S (by unfold in64; omega)
  have h2 := ev_size n 10 S (by unfold in64; omega)
  have h3 := ev_mulX n (((a : Int).natAbs : Nat) : Int) (((10 : Int).natAbs : Nat) : Int) ⟨by omega, by omega⟩ ⟨by omega, by omega⟩ S
  have hm : ((((a : Int).natAbs : Nat) : Int).toNat * (((10 : Int).natAbs : Nat) : Int).toNat) = a * 10 := by simp
  rw [hm] at h3
  generalize a * 10 = m at *
  have g0 : ¬ (a : Int) < 0 := by omega
  rcases mul_arith m with ⟨k1, k2, k3⟩ | ⟨k1, k2⟩ | ⟨k1, k2, k3⟩
  · rw [k2, k3] at h3
    rw [if_pos k1, decide_eq_true k1]
    exact mul_ok n a _ _ _ _ S g0 h1 h2 h3 m (by omega) (by omega) (by omega) (wrap64 _ (by omega))
  · rw [if_neg k2, decide_eq_false k2]
    exact mul_hi n a _ _ _ _ S g0 h1 h2 h3 k1
  · rw [if_neg k3, decide_eq_false k3]
    exact mul_lo n a _ _ _ _ S g0 h1 h2 h3 (by omega) k2

theorem ev_Add (n : Nat) (a b : Int) (ha : 0 ≤ a ∧ a ≤ 9223372036854775807) (hb : 0 ≤ b ∧ b ≤ 9223372036854775807) (S : St) :
    ev Tryd.prog E (n + 1) 61 [.int .i64 a, .int .i64 b] S = some (.ret (.tup [.int .i64 (if a + b ≤ 9223372036854775807 then a + b else 0), .bool (decide (a + b ≤ 9223372036854775807))]), S) := by
  have g0 : ¬ a < 0 := by omega
  have g1 : ¬ b < 0 := by omega
  rw [ev_enter (n := n) (show E.ok 61 = true from rfl) Tryd.func61 (fn := Tryd.f61) rfl (Nat.le_of_ble_eq_true rfl) (by decide +kernel)]
  by_cases hok : a + b ≤ 9223372036854775807
  · have hw : IntKind.i64.wrap (a + b) = a + b := wrap64 _ (by omega)
    have g2 : ¬ a + b < 0 := by omega
    simp (disch := first | (simp only [List.length_append, List.length_cons, List.length_nil]; omega) | (simp; done) | assumption) [↓evOp_build, ↓evOp_bslice, evB2_int, evB2_bool, evB2_str, evB2_eqi, evB2_nei, evB2_eqn, evB2_nen, evB2_peq, evB2_pne, evB2_req, evB2_rne, evB2_zeq, evB2_zne, isC_c, isC_t, evAssert, Bool.or_true, Bool.true_or, rhoP_nil, rhoP_cons, evCode_skip, evCode_region, evCode_draw, evCode_seq, evCode_cond, evCode_block, evCode_loop, evCode_exit, evCode_ret, seqK_ite, seqK_none, seqK_norm, seqK_ret, seqK_exit, seqK_pan, condK_true, condK_false, condK_bool, blockK_ite, blockK_none, blockK_norm, blockK_ret, blockK_exit, blockK_pan, stepK_ite, stepK_none, stepK_ok, stepK_pan, drawK_ite, drawK_none, drawK_ok, drawK_pan, opK_ite, opK_none, opK_val, opK_pan, wantK_true, wantK_false, wantK_some, afterRegion_ite, afterDraw_ite, fromBody_ite, ite_bool, ite_int, stepA_K, doOp, noOp, lexA_nil, lexA_cons, lexF_nil, lexF_cons, afterDraw, noClash, panIn, lostF, FP.clash, wantedA, evOp, rho, rhoL, ofC0, ofC, argsA, upd, afterRegion, putA, goOp, evBin_add, evBin_sub, evBin_mul, evBin_quo, evBin_rem, evBin_eql, evBin_neq, evBin_lss, evBin_leq, evBin_gtr, evBin_geq, evBin_eqlB, evBin_neqB, evBin_addS, evBin_eqlS, evBin_neqS, evBin_lssS, evBin_leqS, evUn, evConv, evIndex, evBuiltin, evLen, evMin2, evMax2, evCallee, evBox, evLoad, evStore, evFieldAddr, evField, evIndexAddr, evBuild, evBuildSlice, evElems, evSlice, nth, rdc, wrc, fromBody, resA, finRet, oneOf, AV.cells?, AV.isCell, fin_int, fin_bool, fin_str, Tryd.f61, E_esc, bq2, bq4, g0, g1, g2, hw, hok, fin_ib]
  · have g2 : IntKind.i64.wrap (a + b) < 0 := by
      simp [IntKind.wrap, IntKind.bits, IntKind.signed]; omega
    simp (disch := first | (simp only [List.length_append, List.length_cons, List.length_nil]; omega) | (simp; done) | assumption) [↓evOp_build, ↓evOp_bslice, evB2_int, evB2_bool, evB2_str, evB2_eqi, evB2_nei, evB2_eqn, evB2_nen, evB2_peq, evB2_pne, evB2_req, evB2_rne, evB2_zeq, evB2_zne, isC_c, isC_t, evAssert, Bool.or_true, Bool.true_or, rhoP_nil, rhoP_cons, evCode_skip, evCode_region, evCode_draw, evCode_seq, evCode_cond, evCode_block, evCode_loop, evCode_exit, evCode_ret, seqK_ite, seqK_none, seqK_norm, seqK_ret, seqK_exit, seqK_pan, condK_true, condK_false, condK_bool, blockK_ite, blockK_none, blockK_norm, blockK_ret, blockK_exit, blockK_pan, stepK_ite, stepK_none, stepK_ok, stepK_pan, drawK_ite, drawK_none, drawK_ok, drawK_pan, opK_ite, opK_none, opK_val, opK_pan, wantK_true, wantK_false, wantK_some, afterRegion_ite, afterDraw_ite, fromBody_ite, ite_bool, ite_int, stepA_K, doOp, noOp, lexA_nil, lexA_cons, lexF_nil, lexF_cons, afterDraw, noClash, panIn, lostF, FP.clash, wantedA, evOp, rho, rhoL, ofC0, ofC, argsA, upd, afterRegion, putA, goOp, evBin_add, evBin_sub, evBin_mul, evBin_quo, evBin_rem, evBin_eql, evBin_neq, evBin_lss, evBin_leq, evBin_gtr, evBin_geq, evBin_eqlB, evBin_neqB, evBin_addS, evBin_eqlS, evBin_neqS, evBin_lssS, evBin_leqS, evUn, evConv, evIndex, evBuiltin, evLen, evMin2, evMax2, evCallee, evBox, evLoad, evStore, evFieldAddr, evField, evIndexAddr, evBuild, evBuildSlice, evElems, evSlice, nth, rdc, wrc, fromBody, resA, finRet, oneOf, AV.cells?, AV.isCell, fin_int, fin_bool, fin_str, Tryd.f61, E_esc, bq2, bq4, g0, g1, g2, hok, fin_ib]
end Go.Proofs.YtemggoaefohliaaDoor.LX

/- Numbers read (num.Parse), evaluated (2). No condition. -/
namespace Go.Proofs.YtemggoaefohliaaDoor.LX
set_option linter.unusedVariables false
set_option linter.unusedSimpArgs false
open Go AE EX PT NF
set_option maxRecDepth 100000

/-- a number of its digits -/
def parseN (s : List UInt8) : Option Nat := if s.all isDig = true ∧ val s ≤ 9223372036854775807 ∧ dec (val s) = s then some (val s) else none
theorem val_ge : ∀ (r l : List UInt8), val l ≤ val (l ++ r)
  | [], l => by simp
  | c :: r, l => by
    have := val_ge r (l ++ [c])
    rw [val_snoc] at this
    have e : l ++ [c] ++ r = l ++ c :: r := by simp
    rw [e] at this
    omega
theorem val_take (s : List UInt8) (i : Nat) : val (s.take i) ≤ val s := by
  have := val_ge (s.drop i) (s.take i)
  rwa [List.take_append_drop] at this

noncomputable def npLoop : Code := cutC (bodyOf Tryd.f54) [1, 1, 0, 1, 0, 0]
noncomputable def np0 : Code := cutC (bodyOf Tryd.f54) [0]
noncomputable def np1 : Code := cutC (bodyOf Tryd.f54) [1, 0]
noncomputable def np2 : Code := cutC (bodyOf Tryd.f54) [1, 1, 0, 0]
noncomputable def np3 : Code := cutC (bodyOf Tryd.f54) [1, 1, 1]
theorem f54b : Tryd.f54.body = some (.seq np0 (.seq np1 (.seq (.seq np2 (.block 0 (.loop npLoop))) np3))) := rfl

def NPI (s : List UInt8) (S0 : St) (m : Nat) (fs : FS) : Prop :=
  ∃ i, i + m = s.length ∧ fs.t 0 = .str s ∧ fs.t 4 = .int .i64 (val (s.take i) : Int) ∧ fs.t 11 = .int .i64 s.length ∧ fs.t 12 = .int .i64 i ∧ fs.S = S0 ∧ (s.take i).all isDig = true ∧ val (s.take i) ≤ 9223372036854775807
def NPQ (s : List UInt8) (S0 : St) (r : Out × FS) : Prop :=
  r.2.S = S0 ∧ ((r.1 = .exit 0 ∧ r.2.t 0 = .str s ∧ r.2.t 4 = .int .i64 (val s : Int) ∧ s.all isDig = true ∧ val s ≤ 9223372036854775807) ∨ (r.1 = .ret ∧ r.2.t 2 = .int .i64 0 ∧ r.2.t 3 = .bool false ∧ ¬ (s.all isDig = true ∧ val s ≤ 9223372036854775807)))

set_option maxHeartbeats 4000000 in
theorem np_round (n : Nat) (s : List UInt8) (S0 : St) (hs : s.length ≤ 1048576) (m : Nat) (fs : FS) (h : NPI s S0 m fs) :
    ∃ o fs', evCode ⟨Tryd.prog, E.esc 54, n + 2⟩ (ev Tryd.prog E (n + 2)) (E.ps 54) (n + 2) npLoop fs = some (o, fs') ∧ ((o = .norm ∧ ∃ m', m' < m ∧ NPI s S0 m' fs') ∨ (o ≠ .norm ∧ NPQ s S0 (o, fs'))) := by
  obtain ⟨t, b, v, S⟩ := fs
  obtain ⟨i, hi, h0, h4, h11, h12, hS, hall, hval⟩ := h
  simp only at h0 h4 h11 h12 hS
  subst hS
  cases m with
  | zero =>
    have hi' : i = s.length := by omega
    subst hi'
    rw [List.take_length] at hall hval h4
    refine ⟨.exit 0, _, by
      simp (disch := first | (simp only [List.length_append, List.length_cons, List.length_nil]; omega) | (simp; done) | assumption) [↓evOp_build, ↓evOp_bslice, evB2_int, evB2_bool, evB2_str, evB2_eqi, evB2_nei, evB2_eqn, evB2_nen, evB2_peq, evB2_pne, evB2_req, evB2_rne, evB2_zeq, evB2_zne, isC_c, isC_t, evAssert, Bool.or_true, Bool.true_or, rhoP_nil, rhoP_cons, evCode_skip, evCode_region, evCode_draw, evCode_seq, evCode_cond, evCode_block, evCode_loop, evCode_exit, evCode_ret, seqK_ite, seqK_none, seqK_norm, seqK_ret, seqK_exit, seqK_pan, condK_true, condK_false, condK_bool, blockK_ite, blockK_none, blockK_norm, blockK_ret, blockK_exit, blockK_pan, stepK_ite, stepK_none, stepK_ok, stepK_pan, drawK_ite, drawK_none, drawK_ok, drawK_pan, opK_ite, opK_none, opK_val, opK_pan, wantK_true, wantK_false, wantK_some, afterRegion_ite, afterDraw_ite, fromBody_ite, ite_bool, ite_int, stepA_K, doOp, noOp, lexA_nil, lexA_cons, lexF_nil, lexF_cons, afterDraw, noClash, panIn, lostF, FP.clash, wantedA, evOp, rho, rhoL, ofC0, ofC, argsA, upd, afterRegion, putA, goOp, evBin_add, evBin_sub, evBin_mul, evBin_quo, evBin_rem, evBin_eql, evBin_neq, evBin_lss, evBin_leq, evBin_gtr, evBin_geq, evBin_eqlB, evBin_neqB, evBin_addS, evBin_eqlS, evBin_neqS, evBin_lssS, evBin_leqS, evUn, evConv, evIndex, evBuiltin, evLen, evMin2, evMax2, evCallee, evBox, evLoad, evStore, evFieldAddr, evField, evIndexAddr, evBuild, evBuildSlice, evElems, evSlice, nth, rdc, wrc, fromBody, resA, finRet, oneOf, AV.cells?, AV.isCell, fin_int, fin_bool, fin_str, npLoop, cutC, bodyOf, Tryd.f54, h0, h4, h11, h12, bq3]
      rfl, .inr ⟨by simp, rfl, .inl ⟨rfl, by simp [upd, h0], by simp [upd, h4], hall, hval⟩⟩⟩
  | succ m =>
    have hlt : i < s.length := by omega
    have hltz : (i : Int) < s.length := by omega
    have hxe : s[i]? = some s[i] := List.getElem?_eq_getElem hlt
    have hmem : s[i] ∈ s := List.getElem_mem hlt
    have hidx : evIndex Tryd.prog 9 (.str s) (.int .i64 (i : Int)) = some (.int .u8 (s[i].toNat : Int)) := by simp [evIndex, sq9, hlt]
    have htake : s.take (i + 1) = s.take i ++ [s[i]] := by rw [List.take_add_one, hxe]; rfl
    have hvs : val (s.take (i + 1)) = val (s.take i) * 10 + (s[i].toNat - 48) := by rw [htake, val_snoc]
    have hvle := val_take s (i + 1)
    have hw : IntKind.i64.wrap ((i : Int) + 1) = (i : Int) + 1 := wrap64 _ (by omega)
    generalize s[i] = x at *
    have hx256 := x.toNat_lt
    by_cases g1 : (x.toNat : Int) < 48
    · refine ⟨.ret, _, by
        simp (disch := first | (simp only [List.length_append, List.length_cons, List.length_nil]; omega) | (simp; done) | assumption) [↓evOp_build, ↓evOp_bslice, evB2_int, evB2_bool, evB2_str, evB2_eqi, evB2_nei, evB2_eqn, evB2_nen, evB2_peq, evB2_pne, evB2_req, evB2_rne, evB2_zeq, evB2_zne, isC_c, isC_t, evAssert, Bool.or_true, Bool.true_or, rhoP_nil, rhoP_cons, evCode_skip, evCode_region, evCode_draw, evCode_seq, evCode_cond, evCode_block, evCode_loop, evCode_exit, evCode_ret, seqK_ite, seqK_none, seqK_norm, seqK_ret, seqK_exit, seqK_pan, condK_true, condK_false, condK_bool, blockK_ite, blockK_none, blockK_norm, blockK_ret, blockK_exit, blockK_pan, stepK_ite, stepK_none, stepK_ok, stepK_pan, drawK_ite, drawK_none, drawK_ok, drawK_pan, opK_ite, opK_none, opK_val, opK_pan, wantK_true, wantK_false, wantK_some, afterRegion_ite, afterDraw_ite, fromBody_ite, ite_bool, ite_int, stepA_K, doOp, noOp, lexA_nil, lexA_cons, lexF_nil, lexF_cons, afterDraw, noClash, panIn, lostF, FP.clash, wantedA, evOp, rho, rhoL, ofC0, ofC, argsA, upd, afterRegion, putA, goOp, evBin_add, evBin_sub, evBin_mul, evBin_quo, evBin_rem, evBin_eql, evBin_neq, evBin_lss, evBin_leq, evBin_gtr, evBin_geq, evBin_eqlB, evBin_neqB, evBin_addS, evBin_eqlS, evBin_neqS, evBin_lssS, evBin_leqS, evUn, evConv, evIndex, evBuiltin, evLen, evMin2, evMax2, evCallee, evBox, evLoad, evStore, evFieldAddr, evField, evIndexAddr, evBuild, evBuildSlice, evElems, evSlice, nth, rdc, wrc, fromBody, resA, finRet, oneOf, AV.cells?, AV.isCell, fin_int, fin_bool, fin_str, -evIndex, npLoop, cutC, bodyOf, Tryd.f54, h0, h4, h11, h12, bq3, bq5, hlt, hltz, hidx, g1]
        rfl, .inr ⟨by simp, rfl, .inr ⟨rfl, by simp [upd], by simp [upd], fun ⟨ha, _⟩ => ?_⟩⟩⟩
      have := List.all_eq_true.1 ha x hmem
      simp [isDig] at this
      omega
    by_cases g2 : 57 < (x.toNat : Int)
    · refine ⟨.ret, _, by
        simp (disch := first | (simp only [List.length_append, List.length_cons, List.length_nil]; omega) | (simp; done) | assumption) [↓evOp_build, ↓evOp_bslice, evB2_int, evB2_bool, evB2_str, evB2_eqi, evB2_nei, evB2_eqn, evB2_nen, evB2_peq, evB2_pne, evB2_req, evB2_rne, evB2_zeq, evB2_zne, isC_c, isC_t, evAssert, Bool.or_true, Bool.true_or, rhoP_nil, rhoP_cons, evCode_skip, evCode_region, evCode_draw, evCode_seq, evCode_cond, evCode_block, evCode_loop, evCode_exit, evCode_ret, seqK_ite, seqK_none, seqK_norm, seqK_ret, seqK_exit, seqK_pan, condK_true, condK_false, condK_bool, blockK_ite, blockK_none, blockK_norm, blockK_ret, blockK_exit, blockK_pan, stepK_ite, stepK_none, stepK_ok, stepK_pan, drawK_ite, drawK_none, drawK_ok, drawK_pan, opK_ite, opK_none, opK_val, opK_pan, wantK_true, wantK_false, wantK_some, afterRegion_ite, afterDraw_ite, fromBody_ite, ite_bool, ite_int, stepA_K, doOp, noOp, lexA_nil, lexA_cons, lexF_nil, lexF_cons, afterDraw, noClash, panIn, lostF, FP.clash, wantedA, evOp, rho, rhoL, ofC0, ofC, argsA, upd, afterRegion, putA, goOp, evBin_add, evBin_sub, evBin_mul, evBin_quo, evBin_rem, evBin_eql, evBin_neq, evBin_lss, evBin_leq, evBin_gtr, evBin_geq, evBin_eqlB, evBin_neqB, evBin_addS, evBin_eqlS, evBin_neqS, evBin_lssS, evBin_leqS, evUn, evConv, evIndex, evBuiltin, evLen, evMin2, evMax2, evCallee, evBox, evLoad, evStore, evFieldAddr, evField, evIndexAddr, evBuild, evBuildSlice, evElems, evSlice, nth, rdc, wrc, fromBody, resA, finRet, oneOf, AV.cells?, AV.isCell, fin_int, fin_bool, fin_str, -evIndex, npLoop, cutC, bodyOf, Tryd.f54, h0, h4, h11, h12, bq3, bq5, hlt, hltz, hidx, g1, g2]
        rfl, .inr ⟨by simp, rfl, .inr ⟨rfl, by simp [upd], by simp [upd], fun ⟨ha, _⟩ => ?_⟩⟩⟩
      have := List.all_eq_true.1 ha x hmem
      simp [isDig] at this
      omega
    have hM := ev_Mul n (val (s.take i)) (by omega) S
    have hsub : IntKind.u8.wrap ((x.toNat : Int) - 48) = ((x.toNat - 48 : Nat) : Int) := by rw [wrapu8 _ (by omega)]; omega
    have hcv : IntKind.i64.wrap ((x.toNat - 48 : Nat) : Int) = ((x.toNat - 48 : Nat) : Int) := wrap64 _ (by omega)
    generalize hd : x.toNat - 48 = d at *
    have hdig : isDig x = true := by simp [isDig]; omega
    by_cases k1 : ((val (s.take i) * 10 : Nat) : Int) ≤ 9223372036854775807
    · rw [if_pos k1, decide_eq_true k1] at hM
      have hA := ev_Add (n + 1) ((val (s.take i) * 10 : Nat) : Int) (d : Int) (by omega) (by omega) S
      have hsum : ((val (s.take i) * 10 : Nat) : Int) + (d : Int) = (val (s.take (i + 1)) : Int) := by rw [hvs]; omega
      rw [hsum] at hA
      generalize hv2 : val (s.take (i + 1)) = v2 at *
      generalize val (s.take i) = v1 at *
      generalize v1 * 10 = v10 at *
      by_cases k2 : (v2 : Int) ≤ 9223372036854775807
      · rw [if_pos k2, decide_eq_true k2] at hA
        refine ⟨.norm, _, by
          simp (disch := first | (simp only [List.length_append, List.length_cons, List.length_nil]; omega) | (simp; done) | assumption) [↓evOp_build, ↓evOp_bslice, evB2_int, evB2_bool, evB2_str, evB2_eqi, evB2_nei, evB2_eqn, evB2_nen, evB2_peq, evB2_pne, evB2_req, evB2_rne, evB2_zeq, evB2_zne, isC_c, isC_t, evAssert, Bool.or_true, Bool.true_or, rhoP_nil, rhoP_cons, evCode_skip, evCode_region, evCode_draw, evCode_seq, evCode_cond, evCode_block, evCode_loop, evCode_exit, evCode_ret, seqK_ite, seqK_none, seqK_norm, seqK_ret, seqK_exit, seqK_pan, condK_true, condK_false, condK_bool, blockK_ite, blockK_none, blockK_norm, blockK_ret, blockK_exit, blockK_pan, stepK_ite, stepK_none, stepK_ok, stepK_pan, drawK_ite, drawK_none, drawK_ok, drawK_pan, opK_ite, opK_none, opK_val, opK_pan, wantK_true, wantK_false, wantK_some, afterRegion_ite, afterDraw_ite, fromBody_ite, ite_bool, ite_int, stepA_K, doOp, noOp, lexA_nil, lexA_cons, lexF_nil, lexF_cons, afterDraw, noClash, panIn, lostF, FP.clash, wantedA, evOp, rho, rhoL, ofC0, ofC, argsA, upd, afterRegion, putA, goOp, evBin_add, evBin_sub, evBin_mul, evBin_quo, evBin_rem, evBin_eql, evBin_neq, evBin_lss, evBin_leq, evBin_gtr, evBin_geq, evBin_eqlB, evBin_neqB, evBin_addS, evBin_eqlS, evBin_neqS, evBin_lssS, evBin_leqS, evUn, evConv, evIndex, evBuiltin, evLen, evMin2, evMax2, evCallee, evBox, evLoad, evStore, evFieldAddr, evField, evIndexAddr, evBuild, evBuildSlice, evElems, evSlice, nth, rdc, wrc, fromBody, resA, finRet, oneOf, AV.cells?, AV.isCell, fin_int, fin_bool, fin_str, -evIndex, npLoop, cutC, bodyOf, Tryd.f54, h0, h4, h11, h12, bq3, bq5, iq5, iq2, hlt, hltz, hidx, g1, g2, hM, hsub, hcv, hA]
          rfl, .inl ⟨rfl, m, by omega, i + 1, by omega, by simp [upd, h0], by rw [hv2]; simp [upd], by simp [upd, h11], by simp [upd, hw], rfl, by rw [htake, List.all_append, hall]; simp [hdig], by rw [hv2]; omega⟩⟩
      · rw [if_neg k2, decide_eq_false k2] at hA
        refine ⟨.ret, _, by
          simp (disch := first | (simp only [List.length_append, List.length_cons, List.length_nil]; omega) | (simp; done) | assumption) [↓evOp_build, ↓evOp_bslice, evB2_int, evB2_bool, evB2_str, evB2_eqi, evB2_nei, evB2_eqn, evB2_nen, evB2_peq, evB2_pne, evB2_req, evB2_rne, evB2_zeq, evB2_zne, isC_c, isC_t, evAssert, Bool.or_true, Bool.true_or, rhoP_nil, rhoP_cons, evCode_skip, evCode_region, evCode_draw, evCode_seq, evCode_cond, evCode_block, evCode_loop, evCode_exit, evCode_ret, seqK_ite, seqK_none, seqK_norm, seqK_ret, seqK_exit, seqK_pan, condK_true, condK_false, condK_bool, blockK_ite, blockK_none, blockK_norm, blockK_ret, blockK_exit, blockK_pan, stepK_ite, stepK_none, stepK_ok, stepK_pan, drawK_ite, drawK_none, drawK_ok, drawK_pan, opK_ite, opK_none, opK_val, opK_pan, wantK_true, wantK_false, wantK_some, afterRegion_ite, afterDraw_ite, fromBody_ite, ite_bool, ite_int, stepA_K, doOp, noOp, lexA_nil, lexA_cons, lexF_nil, lexF_cons, afterDraw, noClash, panIn, lostF, FP.clash, wantedA, evOp, rho, rhoL, ofC0, ofC, argsA, upd, afterRegion, putA, goOp, evBin_add, evBin_sub, evBin_mul, evBin_quo, evBin_rem, evBin_eql, evBin_neq, evBin_lss, evBin_leq, evBin_gtr, evBin_geq, evBin_eqlB, evBin_neqB, evBin_addS, evBin_eqlS, evBin_neqS, evBin_lssS, evBin_leqS, evUn, evConv, evIndex, evBuiltin, evLen, evMin2, evMax2, evCallee, evBox, evLoad, evStore, evFieldAddr, evField, evIndexAddr, evBuild, evBuildSlice, evElems, evSlice, nth, rdc, wrc, fromBody, resA, finRet, oneOf, AV.cells?, AV.isCell, fin_int, fin_bool, fin_str, -evIndex, npLoop, cutC, bodyOf, Tryd.f54, h0, h4, h11, h12, bq3, bq5, iq5, iq2, hlt, hltz, hidx, g1, g2, hM, hsub, hcv, hA]
          rfl, .inr ⟨by simp, rfl, .inr ⟨rfl, by simp [upd], by simp [upd], fun ⟨_, hv⟩ => by omega⟩⟩⟩
    · rw [if_neg k1, decide_eq_false k1] at hM
      have hA := ev_Add (n + 1) 0 (d : Int) (by omega) (by omega) S
      rw [Int.zero_add, if_pos (by omega), decide_eq_true (by omega)] at hA
      generalize val (s.take (i + 1)) = v2 at *
      generalize val (s.take i) = v1 at *
      refine ⟨.ret, _, by
        simp (disch := first | (simp only [List.length_append, List.length_cons, List.length_nil]; omega) | (simp; done) | assumption) [↓evOp_build, ↓evOp_bslice, evB2_int, evB2_bool, evB2_str, evB2_eqi, evB2_nei, evB2_eqn, evB2_nen, evB2_peq, evB2_pne, evB2_req, evB2_rne, evB2_zeq, evB2_zne, isC_c, isC_t, evAssert, Bool.or_true, Bool.true_or, rhoP_nil, rhoP_cons, evCode_skip, evCode_region, evCode_draw, evCode_seq, evCode_cond, evCode_block, evCode_loop, evCode_exit, evCode_ret, seqK_ite, seqK_none, seqK_norm, seqK_ret, seqK_exit, seqK_pan, condK_true, condK_false, condK_bool, blockK_ite, blockK_none, blockK_norm, blockK_ret, blockK_exit, blockK_pan, stepK_ite, stepK_none, stepK_ok, stepK_pan, drawK_ite, drawK_none, drawK_ok, drawK_pan, opK_ite, opK_none, opK_val, opK_pan, wantK_true, wantK_false, wantK_some, afterRegion_ite, afterDraw_ite, fromBody_ite, ite_bool, ite_int, stepA_K, doOp, noOp, lexA_nil, lexA_cons, lexF_nil, lexF_cons, afterDraw, noClash, panIn, lostF, FP.clash, wantedA, evOp, rho, rhoL, ofC0, ofC, argsA, upd, afterRegion, putA, goOp, evBin_add, evBin_sub, evBin_mul, evBin_quo, evBin_rem, evBin_eql, evBin_neq, evBin_lss, evBin_leq, evBin_gtr, evBin_geq, evBin_eqlB, evBin_neqB, evBin_addS, evBin_eqlS, evBin_neqS, evBin_lssS, evBin_leqS, evUn, evConv, evIndex, evBuiltin, evLen, evMin2, evMax2, evCallee, evBox, evLoad, evStore, evFieldAddr, evField, evIndexAddr, evBuild, evBuildSlice, evElems, evSlice, nth, rdc, wrc, fromBody, resA, finRet, oneOf, AV.cells?, AV.isCell, fin_int, fin_bool, fin_str, -evIndex, npLoop, cutC, bodyOf, Tryd.f54, h0, h4, h11, h12, bq3, bq5, iq5, iq2, hlt, hltz, hidx, g1, g2, hM, hsub, hcv, hA]
        rfl, .inr ⟨by simp, rfl, .inr ⟨rfl, by simp [upd], by simp [upd], fun ⟨_, hv⟩ => by omega⟩⟩⟩

theorem ev_Parse (n : Nat) (s : List UInt8) (hs : s.length ≤ 1048576) (hn : s.length < n) (hn2 : 40 ≤ n) (S : St) :
    ev Tryd.prog E (n + 3) 54 [.str s] S = some (.ret (match parseN s with | some v => .tup [.int .i64 (v : Int), .bool true] | none => .tup [.int .i64 0, .bool false]), S) := by
  rw [show n + 3 = (n + 2) + 1 from rfl, ev_enter (n := n + 2) (show E.ok 54 = true from rfl) Tryd.func54 f54b (Nat.le_of_ble_eq_true rfl) (by decide +kernel)]
  obtain ⟨⟨o, t, b, v, S'⟩, hr, hS, hq⟩ := iter_meas (fun m fs h => np_round n s S hs m fs h) s.length (n + 2)
    ⟨upd 12 (.int .i64 0) (upd 11 (.int .i64 s.length) (upd 10 (.str s) (upd 4 (.int .i64 0) (upd 3 (.bool false) (upd 2 (.int .i64 0) (argsA [.str s])))))), fun _ => (0, []), 6, S⟩ (by omega)
    ⟨0, by omega, by simp [upd, argsA], by simp [upd, val], by simp [upd], by simp [upd], rfl, by simp, by simp [val]⟩
  simp only at hS hq
  subst hS
  rcases hq with ⟨rfl, h0, h4, ha, hv⟩ | ⟨rfl, h2, h3, hno⟩
  · have hD : ev Tryd.prog E (n + 2) 62 [.int .i64 (val s : Int)] S' = some (.ret (.str (dec (val s))), S') := ev_dec (n + 1) (by omega) (val s) (by unfold in64; omega) S'
    cases e : (dec (val s) == s)
    · have hp : parseN s = none := by
        unfold parseN
        rw [if_neg]
        rintro ⟨_, _, h⟩
        rw [h] at e; simp at e
      rw [hp]
      generalize dec (val s) = ds at *
      simp (disch := first | (simp only [List.length_append, List.length_cons, List.length_nil]; omega) | (simp; done) | assumption) [↓evOp_build, ↓evOp_bslice, evB2_int, evB2_bool, evB2_str, evB2_eqi, evB2_nei, evB2_eqn, evB2_nen, evB2_peq, evB2_pne, evB2_req, evB2_rne, evB2_zeq, evB2_zne, isC_c, isC_t, evAssert, Bool.or_true, Bool.true_or, rhoP_nil, rhoP_cons, evCode_skip, evCode_region, evCode_draw, evCode_seq, evCode_cond, evCode_block, evCode_loop, evCode_exit, evCode_ret, seqK_ite, seqK_none, seqK_norm, seqK_ret, seqK_exit, seqK_pan, condK_true, condK_false, condK_bool, blockK_ite, blockK_none, blockK_norm, blockK_ret, blockK_exit, blockK_pan, stepK_ite, stepK_none, stepK_ok, stepK_pan, drawK_ite, drawK_none, drawK_ok, drawK_pan, opK_ite, opK_none, opK_val, opK_pan, wantK_true, wantK_false, wantK_some, afterRegion_ite, afterDraw_ite, fromBody_ite, ite_bool, ite_int, stepA_K, doOp, noOp, lexA_nil, lexA_cons, lexF_nil, lexF_cons, afterDraw, noClash, panIn, lostF, FP.clash, wantedA, evOp, rho, rhoL, ofC0, ofC, argsA, upd, afterRegion, putA, goOp, evBin_add, evBin_sub, evBin_mul, evBin_quo, evBin_rem, evBin_eql, evBin_neq, evBin_lss, evBin_leq, evBin_gtr, evBin_geq, evBin_eqlB, evBin_neqB, evBin_addS, evBin_eqlS, evBin_neqS, evBin_lssS, evBin_leqS, evUn, evConv, evIndex, evBuiltin, evLen, evMin2, evMax2, evCallee, evBox, evLoad, evStore, evFieldAddr, evField, evIndexAddr, evBuild, evBuildSlice, evElems, evSlice, nth, rdc, wrc, fromBody, resA, finRet, oneOf, AV.cells?, AV.isCell, fin_int, fin_bool, fin_str, np0, np1, np2, np3, cutC, bodyOf, Tryd.f54, sq9, bq9, hr, h0, h4, hD, bne, e, fin_ib]
    · have hp : parseN s = some (val s) := by
        unfold parseN
        rw [if_pos ⟨ha, hv, by simpa using e⟩]
      rw [hp]
      generalize dec (val s) = ds at *
      simp (disch := first | (simp only [List.length_append, List.length_cons, List.length_nil]; omega) | (simp; done) | assumption) [↓evOp_build, ↓evOp_bslice, evB2_int, evB2_bool, evB2_str, evB2_eqi, evB2_nei, evB2_eqn, evB2_nen, evB2_peq, evB2_pne, evB2_req, evB2_rne, evB2_zeq, evB2_zne, isC_c, isC_t, evAssert, Bool.or_true, Bool.true_or, rhoP_nil, rhoP_cons, evCode_skip, evCode_region, evCode_draw, evCode_seq, evCode_cond, evCode_block, evCode_loop, evCode_exit, evCode_ret, seqK_ite, seqK_none, seqK_norm, seqK_ret, seqK_exit, seqK_pan, condK_true, condK_false, condK_bool, blockK_ite, blockK_none, blockK_norm, blockK_ret, blockK_exit, blockK_pan, stepK_ite, stepK_none, stepK_ok, stepK_pan, drawK_ite, drawK_none, drawK_ok, drawK_pan, opK_ite, opK_none, opK_val, opK_pan, wantK_true, wantK_false, wantK_some, afterRegion_ite, afterDraw_ite, fromBody_ite, ite_bool, ite_int, stepA_K, doOp, noOp, lexA_nil, lexA_cons, lexF_nil, lexF_cons, afterDraw, noClash, panIn, lostF, FP.clash, wantedA, evOp, rho, rhoL, ofC0, ofC, argsA, upd, afterRegion, putA, goOp, evBin_add, evBin_sub, evBin_mul, evBin_quo, evBin_rem, evBin_eql, evBin_neq, evBin_lss, evBin_leq, evBin_gtr, evBin_geq, evBin_eqlB, evBin_neqB, evBin_addS, evBin_eqlS, evBin_neqS, evBin_lssS, evBin_leqS, evUn, evConv, evIndex, evBuiltin, evLen, evMin2, evMax2, evCallee, evBox, evLoad, evStore, evFieldAddr, evField, evIndexAddr, evBuild, evBuildSlice, evElems, evSlice, nth, rdc, wrc, fromBody, resA, finRet, oneOf, AV.cells?, AV.isCell, fin_int, fin_bool, fin_str, np0, np1, np2, np3, cutC, bodyOf, Tryd.f54, sq9, bq9, hr, h0, h4, hD, bne, e, fin_ib]
  · have hp : parseN s = none := by
      unfold parseN
      rw [if_neg fun h => hno ⟨h.1, h.2.1⟩]
    rw [hp]
    simp (disch := first | (simp only [List.length_append, List.length_cons, List.length_nil]; omega) | (simp; done) | assumption) [↓evOp_build, ↓evOp_bslice, evB2_int, evB2_bool, evB2_str, evB2_eqi, evB2_nei, evB2_eqn, evB2_nen, evB2_peq, evB2_pne, evB2_req, evB2_rne, evB2_zeq, evB2_zne, isC_c, isC_t, evAssert, Bool.or_true, Bool.true_or, rhoP_nil, rhoP_cons, evCode_skip, evCode_region, evCode_draw, evCode_seq, evCode_cond, evCode_block, evCode_loop, evCode_exit, evCode_ret, seqK_ite, seqK_none, seqK_norm, seqK_ret, seqK_exit, seqK_pan, condK_true, condK_false, condK_bool, blockK_ite, blockK_none, blockK_norm, blockK_ret, blockK_exit, blockK_pan, stepK_ite, stepK_none, stepK_ok, stepK_pan, drawK_ite, drawK_none, drawK_ok, drawK_pan, opK_ite, opK_none, opK_val, opK_pan, wantK_true, wantK_false, wantK_some, afterRegion_ite, afterDraw_ite, fromBody_ite, ite_bool, ite_int, stepA_K, doOp, noOp, lexA_nil, lexA_cons, lexF_nil, lexF_cons, afterDraw, noClash, panIn, lostF, FP.clash, wantedA, evOp, rho, rhoL, ofC0, ofC, argsA, upd, afterRegion, putA, goOp, evBin_add, evBin_sub, evBin_mul, evBin_quo, evBin_rem, evBin_eql, evBin_neq, evBin_lss, evBin_leq, evBin_gtr, evBin_geq, evBin_eqlB, evBin_neqB, evBin_addS, evBin_eqlS, evBin_neqS, evBin_lssS, evBin_leqS, evUn, evConv, evIndex, evBuiltin, evLen, evMin2, evMax2, evCallee, evBox, evLoad, evStore, evFieldAddr, evField, evIndexAddr, evBuild, evBuildSlice, evElems, evSlice, nth, rdc, wrc, fromBody, resA, finRet, oneOf, AV.cells?, AV.isCell, fin_int, fin_bool, fin_str, np0, np1, np2, np3, cutC, bodyOf, Tryd.f54, sq9, hr, h2, h3, fin_ib]
end Go.Proofs.YtemggoaefohliaaDoor.LX

