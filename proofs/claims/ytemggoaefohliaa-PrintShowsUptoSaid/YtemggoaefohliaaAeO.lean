/- From an input's reading to the evaluator's values; from its answer to the row's; rounds of a loop. No condition. -/
import Derived.Test.YtemggoaefohliaaAeN
import Derived.ChangeArms
import Derived.OpenShut
import Derived.Carry
import Derived.RowKit
namespace Go.Proofs.Ytemggoaefohliaa.AE
set_option linter.unusedVariables false
set_option linter.unusedSimpArgs false
open Go Go.RowKit Go.ChangeShapes

/-- what is known when a call begins: every cell reads as it does -/
def gh0 (W : World) : Gh := ⟨fun b o => W.cell? ⟨b, o, none⟩, fun _ => none, fun _ _ => none, fun _ => none, fun _ => none⟩
def st0 : St := ⟨[], []⟩

theorem inv0 (W : World) : Inv W W.heap.size (gh0 W) st0 W where
  below := Below.refl _ _
  base := Nat.le_refl _
  imm := fun _ _ _ h => h
  fr := fun t => by simp [gh0, st0]
  box := fun i bx h => by simp [st0] at h
  phid := fun i b h => by simp [gh0] at h
  phij := fun i j b h => by simp [gh0] at h
  tok := fun t n h => by simp [st0] at h
  taud := fun t x h => by simp [gh0] at h
  tauj := fun t u b m m' h => by simp [gh0] at h

/-- THE JOIN: an evaluation to a bool is what the call returns; below the heap's old size nothing turns. -/
theorem run_bool {P : Program} {E : Env} (hE : EnvOK P E) {n : Nat} {f : FuncId} {args : List AV} {S' : St} {b : Bool} (h : ev P E n f args st0 = some (.ret (.bool b), S'))
    {W : World} {vs : Array Value} (hv : VRL (gh0 W) args vs.toList) : Calls P f vs W fun e W' => e = .returned (.bool b) ∧ Below W.heap.size W W' := by
  refine ((ev_sound hE n f args st0 _ _ h).2 W W.heap.size (gh0 W) W vs (inv0 W) (fun _ _ _ => rfl) hv).mono fun e W' ⟨G', hi, _, _, hr⟩ => ?_
  cases e with
  | returned v => exact ⟨by rw [VR.inv_bool hr], hi.below⟩
  | _ => exact hr.elim

section
variable {H : Type} {enc : TypeId × Value → H} {P : Program} {W : World} {held : Bool}

theorem cells_I {b : Nat} {a : Addr} {n : Nat} {cs : List Value} (h : W.cells? b a n = some cs) (hn : 0 < n) (hs : a.spot = none ∨ a.spot ≠ none) :
    ∀ j u, cs[j]? = some u → (j = 0 → a.spot = none) ∧ (gh0 W).I a.block (a.off + j) = some u := by
  intro j u hj
  obtain ⟨_, hl, hc⟩ := World.cells?_some h
  have hlt := (List.getElem?_eq_some_iff.1 hj).1
  have h0 := hc 0 hn
  have hs0 : a.spot = none := by
    cases hsp : a.spot with
    | none => rfl
    | some x =>
      exfalso
      have h1 : (W.cell? (a.add 0)) = none := by
        simp only [Addr.add, if_pos, World.cell?, hsp]
        split <;> rfl
      rw [h1] at h0
      have := List.getElem?_eq_none_iff.1 h0.symm
      omega
  refine ⟨fun _ => hs0, ?_⟩
  have := hc j (by omega)
  rw [hj] at this
  show W.cell? ⟨a.block, a.off + j, none⟩ = some u
  rw [← this]
  congr 1
  obtain ⟨b, o, s⟩ := a
  simp at hs0
  subst hs0
  simp only [Addr.add]
  split <;> simp_all

theorem VRI_of {G : Gh} {l : List AV} {m : List Value} (h : VRL G l m) (b o : Nat) (hI : ∀ j u, m[j]? = some u → G.I b (o + j) = some u) : VRI G l b o := by
  induction l generalizing m o with
  | nil => exact .nil b o
  | cons a l ih =>
    cases h with
    | cons _ v _ m ha hl =>
      refine .cons a v l b o (by simpa using hI 0 v (by simp)) ha (ih hl (o + 1) fun j u hj => ?_)
      have := hI (j + 1) u (by simpa using hj)
      rw [show o + 1 + j = o + (j + 1) by omega]
      exact this

theorem VRI_append {G : Gh} {l m : List AV} {b o : Nat} (h : VRI G l b o) (k : VRI G m b (o + l.length)) : VRI G (l ++ m) b o := by
  induction l generalizing o with
  | nil => simpa using k
  | cons a l ih =>
    cases h with
    | cons _ v _ _ _ hI ha hl => exact .cons _ _ _ _ _ hI ha (ih hl (by rw [show o + 1 + l.length = o + (a :: l).length by simp; omega]; exact k))

/-- the elements of a row, one by one -/
theorem row_open {α : Type} {Q : α → DataW H × List MemPlace → Prop} {emb : α → AV} {cl : α → List AV} {sz : Nat} (hpos : 0 < sz) {b0 : Nat} {e n : Nat} {a : Addr}
    (hcl : ∀ x, (emb x).cells? = some (cl x) ∧ (cl x).length = sz)
    (hel : ∀ cs y, DataW.trod enc P W b0 (fun _ => true) held n e cs = some y → ∃ x, VRL (gh0 W) (cl x) cs ∧ Q x y) :
    ∀ (l : List (DataW H × List MemPlace)) (i0 : Nat), (∀ (i : Nat) (y : DataW H × List MemPlace), l[i]? = some y → (W.cells? b0 (a.add ((i0 + i) * sz)) sz).bind (DataW.trod enc P W b0 (fun _ => true) held n e) = some y) →
      ∃ xs : List α, xs.length = l.length ∧ (∀ (i : Nat) (x : α), xs[i]? = some x → ∃ y, l[i]? = some y ∧ Q x y) ∧ flatQ (xs.map emb) = some (xs.flatMap cl) ∧
        (xs ≠ [] → i0 = 0 → a.spot = none) ∧ VRI (gh0 W) (xs.flatMap cl) a.block (a.off + i0 * sz)
  | [], i0, _ => ⟨[], rfl, fun i x h => by simp at h, rfl, fun h => absurd rfl h, .nil _ _⟩
  | y :: l, i0, h => by
    obtain ⟨xs, h1, h2, h3, h4, h5⟩ := row_open hpos hcl hel l (i0 + 1) fun i y' hy => by
      have := h (i + 1) y' (by simpa using hy)
      rw [show i0 + 1 + i = i0 + (i + 1) by omega]
      exact this
    have hy := h 0 y (by simp)
    rw [Nat.add_zero, Option.bind_eq_some_iff] at hy
    obtain ⟨cs, hcs, hy⟩ := hy
    obtain ⟨x, hx, hq⟩ := hel cs y hy
    obtain ⟨c1, c2⟩ := hcl x
    have hI := cells_I hcs hpos (Decidable.em _)
    have hlen := hx.length
    have hb : (a.add (i0 * sz)).block = a.block := block_add _ _
    have ho : (a.add (i0 * sz)).off = a.off + i0 * sz := by
      simp only [Addr.add]; split <;> simp_all
    refine ⟨x :: xs, by simp [h1], fun i x' hx' => ?_, by simp [flatQ, c1, h3], fun _ hi => ?_, ?_⟩
    · cases i with
      | zero => simp at hx'; subst hx'; exact ⟨y, by simp, hq⟩
      | succ i => simpa using h2 i x' (by simpa using hx')
    · subst hi
      cases hcs0 : cs with
      | nil => rw [hcs0] at hlen; simp at hlen; omega
      | cons v cs' =>
        have := (hI 0 v (by rw [hcs0]; rfl)).1 rfl
        simpa [Addr.add] using this
    · simp only [List.flatMap_cons]
      refine VRI_append (VRI_of hx _ _ fun j u hj => ?_) ?_
      · have := (hI j u hj).2
        rw [hb, ho] at this
        exact this
      · rw [c2, Nat.add_assoc, show i0 * sz + sz = (i0 + 1) * sz by rw [Nat.add_mul, Nat.one_mul]]
        exact h5

/-- A SLICE: its elements, one by one; what lies behind them up to its room is read, and does not matter. -/
theorem slice_open {α : Type} {Q : α → DataW H × List MemPlace → Prop} {emb : α → AV} {cl : α → List AV} {sz : Nat} (hpos : 0 < sz) {b0 : Nat} {t e fuel : Nat} (ht : P.underlying t = some (.slice e)) (hsz : P.cellsOf e = sz)
    (hcl : ∀ x, (emb x).cells? = some (cl x) ∧ (cl x).length = sz)
    {cs : List Value} {x : DataW H × List MemPlace} (h : DataW.trod enc P W b0 (fun _ => true) held fuel t cs = some x)
    (hel : ∀ n cs y, n < fuel → DataW.trod enc P W b0 (fun _ => true) held n e cs = some y → ∃ x, VRL (gh0 W) (cl x) cs ∧ Q x y) :
    ∃ xs : List α, VRL (gh0 W) [.slice (xs.map emb) .non] cs ∧
      ((xs = [] ∧ x.1 = .nil) ∨ ∃ (ys : List (DataW H × List MemPlace)) (rest : List (DataW H)), x.1 = .slice (ys.map (·.1)) rest ∧ ys.length = xs.length ∧ ∀ (i : Nat) (x : α), xs[i]? = some x → ∃ y, ys[i]? = some y ∧ Q x y) := by
  subst hsz
  rcases DataW.trod_slice ht h with ⟨rfl, rfl⟩ | ⟨a, len, cap, elems, rest, n, hf, rfl, rfl, hb, hl, hm, hlen, hel1, hsp, _⟩
  · exact ⟨[], .cons _ _ _ _ (.nils _ _ (by simp)) .nil, .inl ⟨rfl, rfl⟩⟩
  obtain ⟨hrl, hr⟩ := hsp rfl
  have hel' := fun cs y h => hel n cs y (by omega) h
  obtain ⟨xs, h1, h2, h3, h4, h5⟩ := row_open hpos hcl hel' (elems ++ rest) 0 (a := a) fun i y hy => by
    rw [Nat.zero_add]
    by_cases hi : i < len
    · rw [List.getElem?_append_left (by omega)] at hy
      rw [hel1 i hi]; exact hy
    · rw [List.getElem?_append_right (by omega)] at hy
      have hlt := (List.getElem?_eq_some_iff.1 hy).1
      have := hr (i - len) (by omega)
      rw [show len + (i - len) = i by omega] at this
      rw [this, ← hy, hlen]
  simp only [List.length_append] at h1
  have hxl : (xs.take len).length = len := by simp; omega
  refine ⟨xs.take len, ?_, .inr ⟨elems, rest.map (·.1), rfl, by rw [hxl, hlen], fun i x hx => ?_⟩⟩
  · refine .cons _ _ _ _ ?_ .nil
    by_cases hcap : cap = 0
    · have : len = 0 := by omega
      subst this; subst hcap
      simpa using VR.nils .non (some a) (by simp)
    · have hs0 : a.spot = none := h4 (fun e => by subst e; simp at h1; omega) rfl
      obtain ⟨b, o, s⟩ := a
      simp at hs0
      subst hs0
      obtain ⟨f1, f2, g1, g2, g3⟩ := flatQ_split (a := (xs.take len).map emb) (b := (xs.drop len).map emb) (by rw [← List.map_append, List.take_append_drop]; exact h3)
      rw [g3] at h5
      have := VR.slice (G := gh0 W) ((xs.take len).map emb) .non f1 b o cap (P.cellsOf e) (by simp; omega) g1 (by simpa using h5.left) trivial
        (sizesOk_mem.2 fun z hz => by
          obtain ⟨x, _, rfl⟩ := List.mem_map.1 hz
          exact ⟨_, hcl x⟩)
      simpa [hxl, List.length_map, Nat.min_eq_left (show len ≤ xs.length by omega)] using this
  · have hi := (List.getElem?_eq_some_iff.1 hx).1
    rw [hxl] at hi
    rw [List.getElem?_take_of_lt hi] at hx
    obtain ⟨y, hy, hq⟩ := h2 i x hx
    rw [List.getElem?_append_left (by omega)] at hy
    exact ⟨y, hy, hq⟩
end

/-- what a call gives back where it has made nothing that stays -/
theorem finish_same {S S' : St} {v : AV} (hv : v.sealed = true) (hs : v.strip S.T.length = v) (hl : v.low S.H.length S.T.length = true) (hH : S'.H.length = S.H.length) (hT : S'.T = S.T) : finish S v S' = some (v, S') := by
  unfold finish
  rw [if_pos hv, hs]
  split
  · rename_i h
    simp only [Bool.and_eq_true] at h
    obtain ⟨⟨h1, _⟩, _⟩ := h
    have := boxEqL_spec _ _ h1
    rw [← hH, List.take_length] at this
    obtain ⟨H, T⟩ := S
    obtain ⟨H', T'⟩ := S'
    simp_all
  · rfl

/-- ROUNDS: what holds ahead of round i holds ahead of the next one; the last one ends the loop. -/
theorem iter_range {body : FS → Option (Out × FS)} {I : Nat → FS → Prop} {Q : Out × FS → Prop} {len : Nat} (hstep : ∀ i, i < len → ∀ fs, I i fs → ∃ fs', body fs = some (.norm, fs') ∧ I (i + 1) fs')
    (hend : ∀ fs, I len fs → ∃ o fs', body fs = some (o, fs') ∧ o ≠ .norm ∧ Q (o, fs')) : ∀ (k i L : Nat) (fs : FS), i + k = len → k < L → I i fs → ∃ r, iter L body fs = some r ∧ Q r
  | 0, i, L, fs, he, hL, hI => by
    obtain ⟨L, rfl⟩ : ∃ m, L = m + 1 := ⟨L - 1, by omega⟩
    simp at he
    subst he
    obtain ⟨o, fs', h1, h2, h3⟩ := hend fs hI
    refine ⟨(o, fs'), ?_, h3⟩
    simp only [iter, h1]
    cases o <;> first | rfl | exact absurd rfl h2
  | k + 1, i, L, fs, he, hL, hI => by
    obtain ⟨L, rfl⟩ : ∃ m, L = m + 1 := ⟨L - 1, by omega⟩
    obtain ⟨fs', h1, h2⟩ := hstep i (by omega) fs hI
    obtain ⟨r, h3, h4⟩ := iter_range hstep hend k (i + 1) L fs' (by omega) (by omega) h2
    exact ⟨r, by simp only [iter, h1]; exact h3, h4⟩

/-- into a function, its body in parts -/
theorem ev_enter {P : Program} {E : Env} {n : Nat} {f : FuncId} {args : List AV} {S : St} {fn : Func} {c : Code} (hok : E.ok f = true) (hf : P.funcs[f]? = some fn) (hb : fn.body = some c)
    (hn : args.length ≤ fn.ntmps) (hname : (fn.name == "runtime.NumGoroutine") = false) :
    ev P E (n + 1) f args S = fromBody P ⟨P, E.esc f, n⟩ S fn.results.toList (evCode ⟨P, E.esc f, n⟩ (ev P E n) (E.ps f) n c ⟨argsA args, fun _ => (0, []), 0, S⟩) := by
  rw [ev, if_pos hok, evFunc, hf]
  simp only [hb]
  rw [if_pos ⟨hn, hname⟩]

/-- an answer for each that it holds of: for a rewrite with a condition -/
theorem skolem {p : FS → Prop} {q : FS → FS → Prop} (h : ∀ x, p x → ∃ y, q x y) : ∃ F : FS → FS, ∀ x, p x → q x (F x) := by
  classical
  exact ⟨fun x => if h' : p x then (h x h').choose else x, fun x hx => by
    have := (h x hx).choose_spec
    simp only [dif_pos hx]
    exact this⟩

/-- a part of a text: the first or the second of two; what a block or a loop holds -/
def cutC (c : Code) : List Nat → Code
  | [] => c
  | i :: l => match c with
    | .seq x y => if i = 0 then cutC x l else cutC y l
    | .cond _ x y => if i = 0 then cutC x l else cutC y l
    | .block _ x => cutC x l
    | .loop x => cutC x l
    | _ => .skip
def bodyOf (fn : Func) : Code := match fn.body with
  | some c => c | none => .skip
theorem codeOk_body {fn fn' : Func} {c : Code} {ps : Nat → List (Nat × Nat)} (hf : some fn' = some fn) (hb : fn.body = some c) (h : codeOk fn'.ntmps ps (bodyOf fn') = true) : codeOk fn.ntmps ps c = true := by
  cases hf
  unfold bodyOf at h
  rw [hb] at h
  exact h

/-! ### the row -/
section
variable {H : Type} {enc : TypeId × Value → H} {P : Program}

theorem trodAll_stays (hl : laidOutB P = true) {W W' : World} (hb : Below W.heap.size W W') {sp : Nat → Bool} : ∀ {ts : List TypeId} {vs : List Value} {ds : List (DataW H)} {ps : List MemPlace}, (∀ t ∈ ts, P.readableRec t = true ∧ t < P.types.size) →
    DataW.TrodAll enc P W 0 (fun _ => true) true ts vs ds ps → (∀ x ∈ ps, x.block < W.heap.size) → (∀ x ∈ ps, sp x.block = true) → DataW.TrodAll enc P W' 0 sp true ts vs ds ps
  | [], _, _, _, _, h, _, _ => by
    obtain ⟨rfl, rfl, rfl⟩ := trodAll_nil h
    exact trodAll_mk0
  | t :: ts, _, _, _, hr, h, hlt, hsp => by
    obtain ⟨v, vs, d, ds, p, q, rfl, rfl, rfl, h0, r0⟩ := trodAll_cons h
    obtain ⟨h1, h2⟩ := hr t (by simp)
    exact trodAll_cons_mk (WideElems.Trod_stays hl h1 h2 h0 (fun x hx => hb.same (hlt x (by simp [hx]))) fun x hx => hsp x (by simp [hx]))
      (trodAll_stays hl hb (fun t ht => hr t (by simp [ht])) r0 (fun x hx => hlt x (by simp [hx])) fun x hx => hsp x (by simp [hx]))

/-- A LAW's ROW: it returned true; below the heap's old size nothing has turned; its variables are none. -/
theorem post_law {f : Func} {s : ChangeSpec} {apart fresh handsOn again : Bool} {W W' : World} {args : Array Value} {ds gs : List (DataW H)} {before : List MemPlace} {tb : TypeId} (hl : laidOutB P = true)
    (hW : DataW.Whole enc P f.params.toList s.vars apart W args.toList ds gs before) (hvars : s.vars = []) (hty : ∀ t ∈ f.params.toList, P.readableRec t = true ∧ t < P.types.size)
    (hres : f.resultTypes = #[tb]) (htb : P.underlying tb = some .bool) (hspec : s.fn H (ds ++ gs) = { results := [.lit (.bool true)], args := ds }) (hb : Below W.heap.size W W') :
    s.post enc P f apart fresh handsOn again W args (.bool true) W' := by
  have hlt := fun p hp => hW.lt p hp
  have hW0 := hW
  obtain ⟨p, q, hA, hV, rfl, hz, hn⟩ := hW
  rw [hvars] at hV
  obtain ⟨rfl, rfl⟩ := trodVars_none hV
  have hr : ∀ (b : Nat) (sp : Nat → Bool) (hd : Bool), DataW.TrodAll enc P W' b sp hd f.resultTypes.toList ((Value.bool true).resultList f.resultTypes.size) (s.fn H (ds ++ [])).results [] := fun b sp hd => by
    rw [hspec, hres]
    exact trodAll_cons_mk (shut_bool htb _) trodAll_mk0
  have ha : ∀ sp : Nat → Bool, (∀ x ∈ p ++ [], sp x.block = true) → DataW.TrodAll enc P W' 0 sp true f.params.toList args.toList (s.fn H (ds ++ [])).args p := fun sp hsp => by
    rw [hspec]
    exact trodAll_stays hl hb hty hA (fun x hx => hlt x (by simp [hx])) fun x hx => hsp x (by simp [hx])
  have hv : ∀ sp : Nat → Bool, DataW.TrodVars enc P W' sp s.vars (s.fn H (ds ++ [])).vars [] := fun sp => by
    rw [hspec, hvars]
    rfl
  have hold : ∀ x ∈ p ++ [], (fun b => decide (b < W.heap.size)) x.block = true := fun x hx => by simpa using hlt x hx
  refine ⟨ds, [], p ++ [], [], p, [], hW0, hr _ _ _, ha _ hold, hv _, World.keptBut_mono (fun x hx => ⟨hx, ?_⟩) (hb.frame (· ∈ p ++ [])), fun _ => ?_⟩
  · simpa using hx
  · refine ⟨ok_one hres rfl (okWide_bool_mk htb _), _, _, ([] ++ p) ++ [], ⟨[] ++ p, [], trodAll_append (ha _ (fun _ _ => rfl)) (hr _ _ _), hv _, rfl, ?_, ?_⟩, ?_⟩
    · intro b off hp
      have hp' : MemPlace.cell b off ∈ p ++ [] := by simpa using hp
      rw [hb.frozen (p := ⟨b, off, none⟩) (hlt _ hp')]
      exact hz b off hp'
    · intro h
      simpa using hn h
    · intro x hx _
      simpa using hx
end
end Go.Proofs.Ytemggoaefohliaa.AE
