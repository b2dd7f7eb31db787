/- Joined: AeO, AeP, AeQ, AeS. No condition beyond those of its lemmas. -/
import Derived.Test.YtanhmedeolhaoaaGreatJnC
import Derived.ChangeArms
import Derived.OpenShut
import Derived.Carry
import Derived.RowKit
/- From an input's reading to the evaluator's values; from its answer to the row's; rounds of a loop. No condition. -/
namespace Go.Proofs.YtanhmedeolhaoaaGreat.AE
set_option linter.unusedVariables false
set_option linter.unusedSimpArgs false
open Go Go.RowKit Go.ChangeShapes

/-- what is known when a call begins: every cell reads as it does -/
def gh0 (W : World) : Gh := ⟨fun b o => W.cell? ⟨b, o, none⟩, fun _ => none, fun _ _ => none, fun _ => none, fun _ => none, fun _ _ => none⟩
def st0 : St := ⟨[], []⟩

theorem inv0 {W : World} (hg : GL W W.heap.size) : Inv W W.heap.size (gh0 W) st0 W where
  gl := hg
  below := Below.refl _ _
  base := Nat.le_refl _
  imm := fun _ _ _ h => h
  fr := fun t => by simp [gh0, st0]
  box := fun i bx h => by simp [st0] at h
  phid := fun i b h => by simp [gh0] at h
  phij := fun i j b h => by simp [gh0] at h
  tok := fun t n h => by simp [st0] at h
  taud := fun t x h => by simp [gh0] at h
  tauj := fun t u b m m' h => by simp [gh0] at h
  phil := fun i b h => by simp [gh0] at h
  tel := fun i bx h => by simp [st0] at h
  ex := ⟨fun i bx h => by simp [st0] at h, fun i bx h => by simp [st0] at h, fun i v x h => by simp [gh0] at h, fun i v x h => by simp [gh0] at h, fun i j v u b m m' h => by simp [gh0] at h,
    fun i v b m j h => by simp [gh0] at h, fun i v b m t m' h => by simp [gh0] at h, fun i v b m o h => by simp [gh0] at h, fun t b m h => by simp [gh0] at h⟩

/-- THE JOIN: an evaluation to a bool is what the call returns; below the heap's old size nothing turns. -/
theorem run_bool {P : Program} {E : Env} (hE : EnvOK P E) {n : Nat} {f : FuncId} {args : List AV} {S' : St} {b : Bool} (h : ev P E n f args st0 = some (.ret (.bool b), S'))
    {W : World} (hg : GL W W.heap.size) {vs : Array Value} (hv : VRL (gh0 W) args vs.toList) : Calls P f vs W fun e W' => e = .returned (.bool b) ∧ Below W.heap.size W W' := by
  refine ((ev_sound hE n f args st0 _ _ h).2 W W.heap.size (gh0 W) W vs (inv0 hg) (fun _ _ _ => rfl) hv).mono fun e W' ⟨G', hi, _, _, hr⟩ => ?_
  cases e with
  | returned v => exact ⟨by rw [VR.inv_bool hr], hi.below⟩
  | _ => exact hr.elim

section
variable {H : Type} {enc : TypeId × Value → H} {P : Program} {W : World} {held : Bool}

theorem cells_I {b : Nat} {a : Addr} {n : Nat} {cs : List Value} (h : W.cells? b a n = some cs) (hn : 0 < n) (hs : a.spot = none ∨ a.spot ≠ none) :
    ∀ j u, cs[j]? = some u → (j = 0 → a.spot = none) ∧ (gh0 W).I a.block (a.off + j) = some u := by
  intro j u hj
  obtain ⟨_, hl, hc⟩ := World.cells?_some h
  have hlt := (List.getElem?_eq_some_iff.1 hj).1
  have h0 := hc 0 hn
  have hs0 : a.spot = none := by
    cases hsp : a.spot with
    | none => rfl
    | some x =>
      exfalso
      have h1 : (W.cell? (a.add 0)) = none := by
        simp only [Addr.add, if_pos, World.cell?, hsp]
        split <;> rfl
      rw [h1] at h0
      have := List.getElem?_eq_none_iff.1 h0.symm
      omega
  refine ⟨fun _ => hs0, ?_⟩
  have := hc j (by omega)
  rw [hj] at this
  show W.cell? ⟨a.block, a.off + j, none⟩ = some u
  rw [← this]
  congr 1
  obtain ⟨b, o, s⟩ := a
  simp at hs0
  subst hs0
  simp only [Addr.add]
  split <;> simp_all

theorem VRI_of {G : Gh} {l : List AV} {m : List Value} (h : VRL G l m) (b o : Nat) (hI : ∀ j u, m[j]? = some u → G.I b (o + j) = some u) : VRI G l b o := by
  induction l generalizing m o with
  | nil => exact .nil b o
  | cons a l ih =>
    cases h with
    | cons _ v _ m ha hl =>
      refine .cons a v l b o (by simpa using hI 0 v (by simp)) ha (ih hl (o + 1) fun j u hj => ?_)
      have := hI (j + 1) u (by simpa using hj)
      rw [show o + 1 + j = o + (j + 1) by omega]
      exact this

theorem VRI_append {G : Gh} {l m : List AV} {b o : Nat} (h : VRI G l b o) (k : VRI G m b (o + l.length)) : VRI G (l ++ m) b o := by
  induction l generalizing o with
  | nil => simpa using k
  | cons a l ih =>
    cases h with
    | cons _ v _ _ _ hI ha hl => exact .cons _ _ _ _ _ hI ha (ih hl (by rw [show o + 1 + l.length = o + (a :: l).length by simp; omega]; exact k))

/-- the elements of a row, one by one -/
theorem row_open {α : Type} {Q : α → DataW H × List MemPlace → Prop} {emb : α → AV} {cl : α → List AV} {sz : Nat} (hpos : 0 < sz) {b0 : Nat} {e n : Nat} {a : Addr}
    (hcl : ∀ x, (emb x).cells? = some (cl x) ∧ (cl x).length = sz)
    (hel : ∀ cs y, DataW.trod enc P W b0 (fun _ => true) held n e cs = some y → ∃ x, VRL (gh0 W) (cl x) cs ∧ Q x y) :
    ∀ (l : List (DataW H × List MemPlace)) (i0 : Nat), (∀ (i : Nat) (y : DataW H × List MemPlace), l[i]? = some y → (W.cells? b0 (a.add ((i0 + i) * sz)) sz).bind (DataW.trod enc P W b0 (fun _ => true) held n e) = some y) →
      ∃ xs : List α, xs.length = l.length ∧ (∀ (i : Nat) (x : α), xs[i]? = some x → ∃ y, l[i]? = some y ∧ Q x y) ∧ flatQ (xs.map emb) = some (xs.flatMap cl) ∧
        (xs ≠ [] → i0 = 0 → a.spot = none) ∧ VRI (gh0 W) (xs.flatMap cl) a.block (a.off + i0 * sz)
  | [], i0, _ => ⟨[], rfl, fun i x h => by simp at h, rfl, fun h => absurd rfl h, .nil _ _⟩
  | y :: l, i0, h => by
    obtain ⟨xs, h1, h2, h3, h4, h5⟩ := row_open hpos hcl hel l (i0 + 1) fun i y' hy => by
      have := h (i + 1) y' (by simpa using hy)
      rw [show i0 + 1 + i = i0 + (i + 1) by omega]
      exact this
    have hy := h 0 y (by simp)
    rw [Nat.add_zero, Option.bind_eq_some_iff] at hy
    obtain ⟨cs, hcs, hy⟩ := hy
    obtain ⟨x, hx, hq⟩ := hel cs y hy
    obtain ⟨c1, c2⟩ := hcl x
    have hI := cells_I hcs hpos (Decidable.em _)
    have hlen := hx.length
    have hb : (a.add (i0 * sz)).block = a.block := block_add _ _
    have ho : (a.add (i0 * sz)).off = a.off + i0 * sz := by
      simp only [Addr.add]; split <;> simp_all
    refine ⟨x :: xs, by simp [h1], fun i x' hx' => ?_, by simp [flatQ, c1, h3], fun _ hi => ?_, ?_⟩
    · cases i with
      | zero => simp at hx'; subst hx'; exact ⟨y, by simp, hq⟩
      | succ i => simpa using h2 i x' (by simpa using hx')
    · subst hi
      cases hcs0 : cs with
      | nil => rw [hcs0] at hlen; simp at hlen; omega
      | cons v cs' =>
        have := (hI 0 v (by rw [hcs0]; rfl)).1 rfl
        simpa [Addr.add] using this
    · simp only [List.flatMap_cons]
      refine VRI_append (VRI_of hx _ _ fun j u hj => ?_) ?_
      · have := (hI j u hj).2
        rw [hb, ho] at this
        exact this
      · rw [c2, Nat.add_assoc, show i0 * sz + sz = (i0 + 1) * sz by rw [Nat.add_mul, Nat.one_mul]]
        exact h5

/-- A SLICE: its elements, one by one; what lies behind them up to its room is read, and does not matter. -/
theorem slice_open {α : Type} {Q : α → DataW H × List MemPlace → Prop} {emb : α → AV} {cl : α → List AV} {sz : Nat} (hpos : 0 < sz) {b0 : Nat} {t e fuel : Nat} (ht : P.underlying t = some (.slice e)) (hsz : P.cellsOf e = sz)
    (hcl : ∀ x, (emb x).cells? = some (cl x) ∧ (cl x).length = sz)
    {cs : List Value} {x : DataW H × List MemPlace} (h : DataW.trod enc P W b0 (fun _ => true) held fuel t cs = some x)
    (hel : ∀ n cs y, n < fuel → DataW.trod enc P W b0 (fun _ => true) held n e cs = some y → ∃ x, VRL (gh0 W) (cl x) cs ∧ Q x y) :
    ∃ xs : List α, VRL (gh0 W) [.slice (xs.map emb) .non] cs ∧
      ((xs = [] ∧ x.1 = .nil) ∨ ∃ (ys : List (DataW H × List MemPlace)) (rest : List (DataW H)), x.1 = .slice (ys.map (·.1)) rest ∧ ys.length = xs.length ∧ ∀ (i : Nat) (x : α), xs[i]? = some x → ∃ y, ys[i]? = some y ∧ Q x y) := by
  subst hsz
  rcases DataW.trod_slice ht h with ⟨rfl, rfl⟩ | ⟨a, len, cap, elems, rest, n, hf, rfl, rfl, hb, hl, hm, hlen, hel1, hsp, _⟩
  · exact ⟨[], .cons _ _ _ _ (.nils _ _ (by simp)) .nil, .inl ⟨rfl, rfl⟩⟩
  obtain ⟨hrl, hr⟩ := hsp rfl
  have hel' := fun cs y h => hel n cs y (by omega) h
  obtain ⟨xs, h1, h2, h3, h4, h5⟩ := row_open hpos hcl hel' (elems ++ rest) 0 (a := a) fun i y hy => by
    rw [Nat.zero_add]
    by_cases hi : i < len
    · rw [List.getElem?_append_left (by omega)] at hy
      rw [hel1 i hi]; exact hy
    · rw [List.getElem?_append_right (by omega)] at hy
      have hlt := (List.getElem?_eq_some_iff.1 hy).1
      have := hr (i - len) (by omega)
      rw [show len + (i - len) = i by omega] at this
      rw [this, ← hy, hlen]
  simp only [List.length_append] at h1
  have hxl : (xs.take len).length = len := by simp; omega
  refine ⟨xs.take len, ?_, .inr ⟨elems, rest.map (·.1), rfl, by rw [hxl, hlen], fun i x hx => ?_⟩⟩
  · refine .cons _ _ _ _ ?_ .nil
    by_cases hcap : cap = 0
    · have : len = 0 := by omega
      subst this; subst hcap
      simpa using VR.nils .non (some a) (by simp)
    · have hs0 : a.spot = none := h4 (fun e => by subst e; simp at h1; omega) rfl
      obtain ⟨b, o, s⟩ := a
      simp at hs0
      subst hs0
      obtain ⟨f1, f2, g1, g2, g3⟩ := flatQ_split (a := (xs.take len).map emb) (b := (xs.drop len).map emb) (by rw [← List.map_append, List.take_append_drop]; exact h3)
      rw [g3] at h5
      have := VR.slice (G := gh0 W) ((xs.take len).map emb) .non f1 b o cap (P.cellsOf e) (by simp; omega) g1 (by simpa using h5.left) trivial
        (sizesOk_mem.2 fun z hz => by
          obtain ⟨x, _, rfl⟩ := List.mem_map.1 hz
          exact ⟨_, hcl x⟩)
      simpa [hxl, List.length_map, Nat.min_eq_left (show len ≤ xs.length by omega)] using this
  · have hi := (List.getElem?_eq_some_iff.1 hx).1
    rw [hxl] at hi
    rw [List.getElem?_take_of_lt hi] at hx
    obtain ⟨y, hy, hq⟩ := h2 i x hx
    rw [List.getElem?_append_left (by omega)] at hy
    exact ⟨y, hy, hq⟩
end

/-- what a call gives back where it has made nothing that stays -/
theorem finish_same {S S' : St} {v : AV} (hv : v.sealed = true) (hs : v.strip S.T.length = v) (hl : v.low S.H.length S.T.length = true) (hH : S'.H.length = S.H.length) (hT : S'.T = S.T) : finish S v S' = some (v, S') := by
  unfold finish
  rw [if_pos hv, hs]
  split
  · rename_i h
    simp only [Bool.and_eq_true] at h
    obtain ⟨⟨h1, _⟩, _⟩ := h
    have := boxEqL_spec _ _ h1
    rw [← hH, List.take_length] at this
    obtain ⟨H, T⟩ := S
    obtain ⟨H', T'⟩ := S'
    simp_all
  · have e1 : S'.H.take S.H.length = S'.H := by rw [← hH, List.take_length]
    rw [e1, ← hT]
    split
    · rfl
    · split <;> rfl

/-- ROUNDS: what holds ahead of round i holds ahead of the next one; the last one ends the loop. -/
theorem iter_range {body : FS → Option (Out × FS)} {I : Nat → FS → Prop} {Q : Out × FS → Prop} {len : Nat} (hstep : ∀ i, i < len → ∀ fs, I i fs → ∃ fs', body fs = some (.norm, fs') ∧ I (i + 1) fs')
    (hend : ∀ fs, I len fs → ∃ o fs', body fs = some (o, fs') ∧ o ≠ .norm ∧ Q (o, fs')) : ∀ (k i L : Nat) (fs : FS), i + k = len → k < L → I i fs → ∃ r, iter L body fs = some r ∧ Q r
  | 0, i, L, fs, he, hL, hI => by
    obtain ⟨L, rfl⟩ : ∃ m, L = m + 1 := ⟨L - 1, by omega⟩
    simp at he
    subst he
    obtain ⟨o, fs', h1, h2, h3⟩ := hend fs hI
    refine ⟨(o, fs'), ?_, h3⟩
    simp only [iter, h1]
    cases o <;> first | rfl | exact absurd rfl h2
  | k + 1, i, L, fs, he, hL, hI => by
    obtain ⟨L, rfl⟩ : ∃ m, L = m + 1 := ⟨L - 1, by omega⟩
    obtain ⟨fs', h1, h2⟩ := hstep i (by omega) fs hI
    obtain ⟨r, h3, h4⟩ := iter_range hstep hend k (i + 1) L fs' (by omega) (by omega) h2
    exact ⟨r, by simp only [iter, h1]; exact h3, h4⟩

/-- into a function, its body in parts -/
theorem ev_enter {P : Program} {E : Env} {n : Nat} {f : FuncId} {args : List AV} {S : St} {fn : Func} {c : Code} (hok : E.ok f = true) (hf : P.funcs[f]? = some fn) (hb : fn.body = some c)
    (hn : args.length ≤ fn.ntmps) (hname : (fn.name == "runtime.NumGoroutine") = false) (hdf : E.dfr f = false := by rfl) :
    ev P E (n + 1) f args S = fromBody P ⟨P, E.esc f, n⟩ S fn.results.toList (evCode ⟨P, E.esc f, n⟩ (ev P E n) (E.ps f) n c ⟨argsA args, fun _ => (0, []), 0, S⟩) := by
  have hev : ev P E (n + 1) f args S = (if E.ok f then (if E.dfr f then evFuncD P E (ev P E n) (evd P E n) n f args S else evFunc P E (ev P E n) n f args S) else E.ext f args S) := rfl
  rw [hev, if_pos hok, if_neg (by rw [hdf]; simp), evFunc, hf]
  simp only [hb]
  rw [if_pos ⟨hn, hname⟩]

/-- an answer for each that it holds of: for a rewrite with a condition -/
theorem skolem {p : FS → Prop} {q : FS → FS → Prop} (h : ∀ x, p x → ∃ y, q x y) : ∃ F : FS → FS, ∀ x, p x → q x (F x) := by
  classical
  exact ⟨fun x => if h' : p x then (h x h').choose else x, fun x hx => by
    have := (h x hx).choose_spec
    simp only [dif_pos hx]
    exact this⟩

/-- a part of a text: the first or the second of two; what a block or a loop holds -/
def cutC (c : Code) : List Nat → Code
  | [] => c
  | i :: l => match c with
    | .seq x y => if i = 0 then cutC x l else cutC y l
    | .cond _ x y => if i = 0 then cutC x l else cutC y l
    | .block _ x => cutC x l
    | .loop x => cutC x l
    | _ => .skip
def bodyOf (fn : Func) : Code := match fn.body with
  | some c => c | none => .skip
theorem codeOk_body {fn fn' : Func} {c : Code} {ps : Nat → List (Nat × Nat)} (hf : some fn' = some fn) (hb : fn.body = some c) (h : codeOk fn'.ntmps ps (bodyOf fn') = true) : codeOk fn.ntmps ps c = true := by
  cases hf
  unfold bodyOf at h
  rw [hb] at h
  exact h

/-! ### the row -/
section
variable {H : Type} {enc : TypeId × Value → H} {P : Program}

theorem trodAll_stays (hl : laidOutB P = true) {W W' : World} (hb : Below W.heap.size W W') {sp : Nat → Bool} : ∀ {ts : List TypeId} {vs : List Value} {ds : List (DataW H)} {ps : List MemPlace}, (∀ t ∈ ts, P.readableRec t = true ∧ t < P.types.size) →
    DataW.TrodAll enc P W 0 (fun _ => true) true ts vs ds ps → (∀ x ∈ ps, x.block < W.heap.size) → (∀ x ∈ ps, sp x.block = true) → DataW.TrodAll enc P W' 0 sp true ts vs ds ps
  | [], _, _, _, _, h, _, _ => by
    obtain ⟨rfl, rfl, rfl⟩ := trodAll_nil h
    exact trodAll_mk0
  | t :: ts, _, _, _, hr, h, hlt, hsp => by
    obtain ⟨v, vs, d, ds, p, q, rfl, rfl, rfl, h0, r0⟩ := trodAll_cons h
    obtain ⟨h1, h2⟩ := hr t (by simp)
    exact trodAll_cons_mk (WideElems.Trod_stays hl h1 h2 h0 (fun x hx => hb.same (hlt x (by simp [hx]))) fun x hx => hsp x (by simp [hx]))
      (trodAll_stays hl hb (fun t ht => hr t (by simp [ht])) r0 (fun x hx => hlt x (by simp [hx])) fun x hx => hsp x (by simp [hx]))

/-- A LAW's ROW: it returned true; below the heap's old size nothing has turned; its variables are none. -/
theorem post_law {f : Func} {s : ChangeSpec} {apart fresh handsOn again : Bool} {W W' : World} {args : Array Value} {ds gs : List (DataW H)} {before : List MemPlace} {tb : TypeId} (hl : laidOutB P = true)
    (hW : DataW.Whole enc P f.params.toList s.vars apart W args.toList ds gs before) (hvars : s.vars = []) (hty : ∀ t ∈ f.params.toList, P.readableRec t = true ∧ t < P.types.size)
    (hres : f.resultTypes = #[tb]) (htb : P.underlying tb = some .bool) (hspec : s.fn H (ds ++ gs) = { results := [.lit (.bool true)], args := ds }) (hb : Below W.heap.size W W') :
    s.post enc P f apart fresh handsOn again W args (.bool true) W' := by
  have hlt := fun p hp => hW.lt p hp
  have hW0 := hW
  obtain ⟨p, q, hA, hV, rfl, hz, hn⟩ := hW
  rw [hvars] at hV
  obtain ⟨rfl, rfl⟩ := trodVars_none hV
  have hr : ∀ (b : Nat) (sp : Nat → Bool) (hd : Bool), DataW.TrodAll enc P W' b sp hd f.resultTypes.toList ((Value.bool true).resultList f.resultTypes.size) (s.fn H (ds ++ [])).results [] := fun b sp hd => by
    rw [hspec, hres]
    exact trodAll_cons_mk (shut_bool htb _) trodAll_mk0
  have ha : ∀ sp : Nat → Bool, (∀ x ∈ p ++ [], sp x.block = true) → DataW.TrodAll enc P W' 0 sp true f.params.toList args.toList (s.fn H (ds ++ [])).args p := fun sp hsp => by
    rw [hspec]
    exact trodAll_stays hl hb hty hA (fun x hx => hlt x (by simp [hx])) fun x hx => hsp x (by simp [hx])
  have hv : ∀ sp : Nat → Bool, DataW.TrodVars enc P W' sp s.vars (s.fn H (ds ++ [])).vars [] := fun sp => by
    rw [hspec, hvars]
    rfl
  have hold : ∀ x ∈ p ++ [], (fun b => decide (b < W.heap.size)) x.block = true := fun x hx => by simpa using hlt x hx
  refine ⟨ds, [], p ++ [], [], p, [], hW0, hr _ _ _, ha _ hold, hv _, World.keptBut_mono (fun x hx => ⟨hx, ?_⟩) (hb.frame (· ∈ p ++ [])), fun _ => ?_⟩
  · simpa using hx
  · refine ⟨ok_one hres rfl (okWide_bool_mk htb _), _, _, ([] ++ p) ++ [], ⟨[] ++ p, [], trodAll_append (ha _ (fun _ _ => rfl)) (hr _ _ _), hv _, rfl, ?_, ?_⟩, ?_⟩
    · intro b off hp
      have hp' : MemPlace.cell b off ∈ p ++ [] := by simpa using hp
      rw [hb.frozen (p := ⟨b, off, none⟩) (hlt _ hp')]
      exact hz b off hp'
    · intro h
      simpa using hn h
    · intro x hx _
      simpa using hx
end
end Go.Proofs.YtanhmedeolhaoaaGreat.AE
/- An evaluation by rewriting: where a test is not known, both roads are gone, one behind 'if', one behind 'else'. No condition. -/
namespace Go.Proofs.YtanhmedeolhaoaaGreat.AE
set_option linter.unusedVariables false
set_option linter.unusedSimpArgs false
open Go

section
variable {cx : Ctx} {call : Cal} {ps : Nat → List (Nat × Nat)} {L : Nat} {fs : FS}

/-! ### what comes behind -/
def seqK (r : Option (Out × FS)) (k : FS → Option (Out × FS)) : Option (Out × FS) :=
  match r with
  | some (.norm, fs') => k fs'
  | r => r
def condK (c : AV) (f g : FS → Option (Out × FS)) (fs : FS) : Option (Out × FS) :=
  match c with
  | .bool true => f fs | .bool false => g fs | _ => none
def blockK (id : Nat) (r : Option (Out × FS)) : Option (Out × FS) :=
  match r with
  | some (.exit k, fs') => if k = id then some (.norm, fs') else some (.exit k, fs')
  | r => r
def stepK (r : Option OutS) (k : FS → Option OutS) : Option OutS :=
  match r with
  | some (.ok fs' _) => k fs'
  | r => r
def drawK (i : Nat) (fps : List FP) (r : Option OutS) (k : FS → List FP → Option DR) : Option DR :=
  match r with
  | some (.ok fs' fp) => k fs' (fps ++ [fp])
  | some (.pan v fs') => some (.pan v fs' i fps)
  | none => none
def opK (o : Oper) (r : Option OR) (fs : FS) : Option OutS :=
  match r with
  | some (.val v b S fp) => some (.ok ⟨putA fs.t o.dst v, b, fs.c, S⟩ fp)
  | some (.pan v S) => some (.pan v ⟨fs.t, fs.b, fs.c, S⟩)
  | none => none
def wantK (w : Option Bool) (f g : FS → Option OutS) (fs : FS) : Option OutS :=
  match w with
  | some true => f fs | some false => g fs | none => none

theorem seqK_ite (c : Prop) [Decidable c] (a b : Option (Out × FS)) (k : FS → Option (Out × FS)) : seqK (if c then a else b) k = if c then seqK a k else seqK b k := by split <;> rfl
theorem seqK_none (k : FS → Option (Out × FS)) : seqK none k = none := rfl
theorem seqK_norm (fs : FS) (k : FS → Option (Out × FS)) : seqK (some (.norm, fs)) k = k fs := rfl
theorem seqK_ret (fs : FS) (k : FS → Option (Out × FS)) : seqK (some (.ret, fs)) k = some (.ret, fs) := rfl
theorem seqK_exit (id : Nat) (fs : FS) (k : FS → Option (Out × FS)) : seqK (some (.exit id, fs)) k = some (.exit id, fs) := rfl
theorem seqK_pan (v : AV) (fs : FS) (k : FS → Option (Out × FS)) : seqK (some (.pan v, fs)) k = some (.pan v, fs) := rfl
theorem condK_bool (b : Bool) (f g : FS → Option (Out × FS)) (fs : FS) : condK (.bool b) f g fs = if b = true then f fs else g fs := by cases b <;> rfl
theorem condK_true (f g : FS → Option (Out × FS)) (fs : FS) : condK (.bool true) f g fs = f fs := rfl
theorem condK_false (f g : FS → Option (Out × FS)) (fs : FS) : condK (.bool false) f g fs = g fs := rfl
theorem blockK_ite (id : Nat) (c : Prop) [Decidable c] (a b : Option (Out × FS)) : blockK id (if c then a else b) = if c then blockK id a else blockK id b := by split <;> rfl
theorem blockK_none (id : Nat) : blockK id none = none := rfl
theorem blockK_norm (id : Nat) (fs : FS) : blockK id (some (.norm, fs)) = some (.norm, fs) := rfl
theorem blockK_ret (id : Nat) (fs : FS) : blockK id (some (.ret, fs)) = some (.ret, fs) := rfl
theorem blockK_exit (id k : Nat) (fs : FS) : blockK id (some (.exit k, fs)) = if k = id then some (.norm, fs) else some (.exit k, fs) := rfl
theorem blockK_pan (id : Nat) (v : AV) (fs : FS) : blockK id (some (.pan v, fs)) = some (.pan v, fs) := rfl
theorem stepK_ite (c : Prop) [Decidable c] (a b : Option OutS) (k : FS → Option OutS) : stepK (if c then a else b) k = if c then stepK a k else stepK b k := by split <;> rfl
theorem stepK_none (k : FS → Option OutS) : stepK none k = none := rfl
theorem stepK_ok (fs : FS) (fp : FP) (k : FS → Option OutS) : stepK (some (.ok fs fp)) k = k fs := rfl
theorem stepK_pan (v : AV) (fs : FS) (k : FS → Option OutS) : stepK (some (.pan v fs)) k = some (.pan v fs) := rfl
theorem drawK_ite (i : Nat) (fps : List FP) (c : Prop) [Decidable c] (a b : Option OutS) (k : FS → List FP → Option DR) : drawK i fps (if c then a else b) k = if c then drawK i fps a k else drawK i fps b k := by split <;> rfl
theorem drawK_none (i : Nat) (fps : List FP) (k : FS → List FP → Option DR) : drawK i fps none k = none := rfl
theorem drawK_ok (i : Nat) (fps : List FP) (fs : FS) (fp : FP) (k : FS → List FP → Option DR) : drawK i fps (some (.ok fs fp)) k = k fs (fps ++ [fp]) := rfl
theorem drawK_pan (i : Nat) (fps : List FP) (v : AV) (fs : FS) (k : FS → List FP → Option DR) : drawK i fps (some (.pan v fs)) k = some (.pan v fs i fps) := rfl
theorem opK_ite (o : Oper) (c : Prop) [Decidable c] (a b : Option OR) (fs : FS) : opK o (if c then a else b) fs = if c then opK o a fs else opK o b fs := by split <;> rfl
theorem opK_none (o : Oper) (fs : FS) : opK o none fs = none := rfl
theorem opK_val (o : Oper) (v : AV) (b : Nat → Nat × List AV) (S : St) (fp : FP) (fs : FS) : opK o (some (.val v b S fp)) fs = some (.ok ⟨putA fs.t o.dst v, b, fs.c, S⟩ fp) := rfl
theorem opK_pan (o : Oper) (v : AV) (S : St) (fs : FS) : opK o (some (.pan v S)) fs = some (.pan v ⟨fs.t, fs.b, fs.c, S⟩) := rfl
theorem wantK_some (b : Bool) (f g : FS → Option OutS) (fs : FS) : wantK (some b) f g fs = if b = true then f fs else g fs := by cases b <;> rfl
theorem wantK_true (f g : FS → Option OutS) (fs : FS) : wantK (some true) f g fs = f fs := rfl
theorem wantK_false (f g : FS → Option OutS) (fs : FS) : wantK (some false) f g fs = g fs := rfl
theorem afterRegion_ite (n : Nat) (c : Prop) [Decidable c] (a b : Option OutS) : afterRegion n (if c then a else b) = if c then afterRegion n a else afterRegion n b := by split <;> rfl
theorem afterDraw_ite (n : Nat) (qs : List (Nat × Nat)) (c : Prop) [Decidable c] (a b : Option DR) : afterDraw n qs (if c then a else b) = if c then afterDraw n qs a else afterDraw n qs b := by split <;> rfl
theorem fromBody_ite (P : Program) (S : St) (rs : List ResultVar) (c : Prop) [Decidable c] (a b : Option (Out × FS)) : fromBody P cx S rs (if c then a else b) = if c then fromBody P cx S rs a else fromBody P cx S rs b := by split <;> rfl
theorem ite_bool (c : Prop) [Decidable c] (a b : Bool) : (if c then AV.bool a else AV.bool b) = AV.bool (if c then a else b) := by split <;> rfl
theorem ite_int (c : Prop) [Decidable c] (k : IntKind) (a b : Int) : (if c then AV.int k a else AV.int k b) = AV.int k (if c then a else b) := by split <;> rfl

/-! ### a text, one step -/
def doOp (cx : Ctx) (call : Cal) (i : Nat) (o : Oper) (fs : FS) : Option OutS := opK o (evOp cx call i o fs) fs
def noOp (o : Oper) (fs : FS) : Option OutS := some (.ok ⟨putA fs.t o.dst .undef, fs.b, fs.c, fs.S⟩ .non)

theorem stepA_K (ops : Array Oper) (i : Nat) (o : Oper) : stepA cx call ops i o fs = wantK (wantedA o.guard ops fs.t) (doOp cx call i o) (noOp o) fs := by
  unfold stepA wantK doOp noOp opK
  generalize wantedA o.guard ops fs.t = w
  cases w with
  | none => rfl
  | some b => cases b <;> rfl
theorem lexA_nil (ops : Array Oper) (i : Nat) : lexA cx call ops i [] fs = some (.ok fs .non) := rfl
theorem lexA_cons (ops : Array Oper) (i : Nat) (o : Oper) (l : List Oper) : lexA cx call ops i (o :: l) fs = stepK (stepA cx call ops i o fs) (lexA cx call ops (i + 1) l) := by
  rw [lexA]
  generalize stepA cx call ops i o fs = r
  match r with
  | none => rfl
  | some (.ok _ _) => rfl
  | some (.pan _ _) => rfl
theorem lexF_nil (ops : Array Oper) (i : Nat) (fps : List FP) : lexF cx call ops i [] fs fps = some (.ok fs fps) := rfl
theorem lexF_cons (ops : Array Oper) (i : Nat) (o : Oper) (l : List Oper) (fps : List FP) : lexF cx call ops i (o :: l) fs fps = drawK i fps (stepA cx call ops i o fs) (lexF cx call ops (i + 1) l) := by
  rw [lexF]
  generalize stepA cx call ops i o fs = r
  match r with
  | none => rfl
  | some (.ok _ _) => rfl
  | some (.pan _ _) => rfl
theorem evCode_skip : evCode cx call ps L .skip fs = some (.norm, fs) := rfl
theorem evCode_region (id : Nat) (ops : Array Oper) : evCode cx call ps L (.region id ops false) fs = afterRegion ops.size (lexA cx call ops 0 ops.toList fs) := rfl
theorem evCode_draw (id : Nat) (ops : Array Oper) : evCode cx call ps L (.region id ops true) fs = afterDraw ops.size (ps id) (lexF cx call ops 0 ops.toList fs []) := rfl
theorem evCode_seq (x y : Code) : evCode cx call ps L (.seq x y) fs = seqK (evCode cx call ps L x fs) (evCode cx call ps L y) := by
  rw [evCode]
  generalize evCode cx call ps L x fs = r
  match r with
  | none => rfl
  | some (.norm, _) => rfl
  | some (.ret, _) => rfl
  | some (.exit _, _) => rfl
  | some (.pan _, _) => rfl
theorem evCode_cond (c : Operand) (x y : Code) : evCode cx call ps L (.cond c x y) fs = condK (rho fs.t c) (evCode cx call ps L x) (evCode cx call ps L y) fs := by
  rw [evCode]
  rfl
theorem evCode_block (id : Nat) (c : Code) : evCode cx call ps L (.block id c) fs = blockK id (evCode cx call ps L c fs) := by
  rw [evCode]
  generalize evCode cx call ps L c fs = r
  match r with
  | none => rfl
  | some (.norm, _) => rfl
  | some (.ret, _) => rfl
  | some (.exit _, _) => rfl
  | some (.pan _, _) => rfl
theorem evCode_loop (c : Code) : evCode cx call ps L (.loop c) fs = iter L (evCode cx call ps L c) fs := rfl
theorem evCode_exit (id : Nat) : evCode cx call ps L (.exit id) fs = some (.exit id, fs) := rfl
theorem evCode_ret : evCode cx call ps L .ret fs = some (.ret, fs) := rfl
end

/-! ### plain operations, one by one -/
section
variable {bq : Bool} {k : IntKind} {a b : Int} {p q : Bool} {s t : List UInt8}
theorem evBin_add : evBin bq .add (.int k a) (.int k b) = some (.int k (k.wrap (a + b))) := by simp [evBin]
theorem evBin_sub : evBin bq .sub (.int k a) (.int k b) = some (.int k (k.wrap (a - b))) := by simp [evBin]
theorem evBin_mul : evBin bq .mul (.int k a) (.int k b) = some (.int k (k.wrap (a * b))) := by simp [evBin]
theorem evBin_quo (h : b ≠ 0) : evBin bq .quo (.int k a) (.int k b) = some (.int k (k.wrap (a.tdiv b))) := by simp [evBin, h]
theorem evBin_rem (h : b ≠ 0) : evBin bq .rem (.int k a) (.int k b) = some (.int k (a.tmod b)) := by simp [evBin, h]
theorem evBin_eql : evBin bq .eql (.int k a) (.int k b) = some (.bool (a == b)) := by simp [evBin]
theorem evBin_neq : evBin bq .neq (.int k a) (.int k b) = some (.bool (a != b)) := by simp [evBin]
theorem evBin_lss : evBin bq .lss (.int k a) (.int k b) = some (.bool (decide (a < b))) := by simp [evBin]
theorem evBin_leq : evBin bq .leq (.int k a) (.int k b) = some (.bool (decide (a ≤ b))) := by simp [evBin]
theorem evBin_gtr : evBin bq .gtr (.int k a) (.int k b) = some (.bool (decide (b < a))) := by simp [evBin]
theorem evBin_geq : evBin bq .geq (.int k a) (.int k b) = some (.bool (decide (b ≤ a))) := by simp [evBin]
theorem evBin_eqlB : evBin true .eql (.bool p) (.bool q) = some (.bool (p == q)) := by simp [evBin]
theorem evBin_neqB : evBin true .neq (.bool p) (.bool q) = some (.bool (!(p == q))) := by simp [evBin]
theorem evBin_addS (h : s.length + t.length ≤ 4611686018427387904) : evBin bq .add (.str s) (.str t) = some (.str (s ++ t)) := by simp [evBin, h]
theorem evBin_eqlS : evBin bq .eql (.str s) (.str t) = some (.bool (s == t)) := by simp [evBin]
theorem evBin_neqS : evBin bq .neq (.str s) (.str t) = some (.bool (!(s == t))) := by simp [evBin]
theorem evBin_lssS : evBin bq .lss (.str s) (.str t) = some (.bool (Op.bytesLess s t)) := by simp [evBin]
theorem evBin_leqS : evBin bq .leq (.str s) (.str t) = some (.bool (Op.bytesLess s t || s == t)) := by simp [evBin]
end

/-! ### comparisons -/
section
variable {P : Program} {t : TypeId} {kc : Bool} {op : BinOp} {k k' : IntKind} {a b : Int} {p q : Bool} {s u : List UInt8} {ty : TypeId} {v : AV} {i o : Nat} {l : List AV}
theorem evB2_int : evB2 P t kc op (.int k a) (.int k' b) = evBin (boolQ P t) op (.int k a) (.int k' b) := rfl
theorem evB2_bool : evB2 P t kc op (.bool p) (.bool q) = evBin (boolQ P t) op (.bool p) (.bool q) := rfl
theorem evB2_str : evB2 P t kc op (.str s) (.str u) = evBin (boolQ P t) op (.str s) (.str u) := rfl
theorem evB2_eqi (h : ifcQ P t = true) : evB2 P t kc .eql (.iface ty v) .nilif = some (.bool false) := by simp [evB2, h, cmpN]
theorem evB2_nei (h : ifcQ P t = true) : evB2 P t kc .neq (.iface ty v) .nilif = some (.bool true) := by simp [evB2, h, cmpN]
theorem evB2_eqn (h : ifcQ P t = true) : evB2 P t true .eql .nilif .nilif = some (.bool true) := by simp [evB2, h, cmpN]
theorem evB2_nen (h : ifcQ P t = true) : evB2 P t true .neq .nilif .nilif = some (.bool false) := by simp [evB2, h, cmpN]
theorem evB2_peq (h : ptrQ P t = true) : evB2 P t kc .eql (.ptr i o) .nilp = some (.bool false) := by simp [evB2, h, cmpN]
theorem evB2_pne (h : ptrQ P t = true) : evB2 P t kc .neq (.ptr i o) .nilp = some (.bool true) := by simp [evB2, h, cmpN]
theorem evB2_req (h : ptrQ P t = true) : evB2 P t kc .eql (.ref l) .nilp = some (.bool false) := by simp [evB2, h, cmpN]
theorem evB2_rne (h : ptrQ P t = true) : evB2 P t kc .neq (.ref l) .nilp = some (.bool true) := by simp [evB2, h, cmpN]
theorem evB2_zeq (h : ptrQ P t = true) : evB2 P t kc .eql .nilp .nilp = some (.bool true) := by simp [evB2, h, cmpN]
theorem evB2_zne (h : ptrQ P t = true) : evB2 P t kc .neq .nilp .nilp = some (.bool false) := by simp [evB2, h, cmpN]
theorem isC_c (v : Value) : isC (.const v) = true := rfl
theorem isC_t (x : Tmp) : isC (.tmp x) = false := rfl
end
end Go.Proofs.YtanhmedeolhaoaaGreat.AE
/- A callee by its contract: what it leaves of the world is what it found; texts in a row. No condition. -/
namespace Go.Proofs.YtanhmedeolhaoaaGreat.AE
set_option linter.unusedVariables false
set_option linter.unusedSimpArgs false
open Go Go.RowKit

/-! ### parts of a struct or a slice, one by one (as a step ahead of the parts: simp would go under the map's binder and unfold all temporaries there) -/
def rhoP (t : Nat → AV) : List (Nat × Operand) → List (Nat × AV)
  | [] => []
  | (i, o) :: l => (i, rho t o) :: rhoP t l
theorem rhoP_nil (t : Nat → AV) : rhoP t [] = [] := rfl
theorem rhoP_cons (t : Nat → AV) (i : Nat) (o : Operand) (l : List (Nat × Operand)) : rhoP t ((i, o) :: l) = (i, rho t o) :: rhoP t l := rfl
theorem rhoP_map (t : Nat → AV) : ∀ l : List (Nat × Operand), (l.map fun p => (p.1, rho t p.2)) = rhoP t l
  | [] => rfl
  | (i, o) :: l => by rw [List.map_cons, rhoP_map t l, rhoP_cons]
section
variable {cx : Ctx} {call : Cal} {k : Nat} {fs : FS} {dst : Option Tmp} {ty0 : TypeId} {pos : String} {after : Array Edge} {guard : Option (Nat × Bool)}
theorem evOp_build (t : TypeId) (parts : Array (Nat × Operand)) : evOp cx call k { dst := dst, op := .build t parts, type := ty0, pos := pos, after := after, guard := guard } fs = goOp fs.S fs.b (evBuild cx.P t (rhoP fs.t parts.toList)) := by
  rw [← rhoP_map]; rfl
theorem evOp_bslice (t : TypeId) (len : Nat) (parts : Array (Nat × Operand)) : evOp cx call k { dst := dst, op := .buildSlice t len parts, type := ty0, pos := pos, after := after, guard := guard } fs = goOp fs.S fs.b (evBuildSlice cx.P t len (rhoP fs.t parts.toList)) := by
  rw [← rhoP_map]; rfl
end

/-- a world that has grown and turned nothing -/
theorem Inv.grow {w0 : World} {B : Nat} {G : Gh} {S : St} {w w' : World} (hi : Inv w0 B G S w) (hb : Below w.heap.size w w') : Inv w0 B G S w' ∧ Ext G w G w' := by
  have hlt : ∀ b o v, G.I b o = some v → b < w.heap.size := fun b o v h => World.block_lt_of_cell? w _ (hi.imm b o v h)
  have hbl : ∀ (k : Nat) o, w.heap[k]? = some o → w'.heap[k]? = some o := fun k o h => by
    rw [hb.block k (Array.getElem?_eq_some_iff.1 h).1, h]
  refine ⟨⟨hi.gl, hi.below.trans (hb.mono hi.base), Nat.le_trans hi.base hb.size, fun b o v h => ?_, hi.fr, fun i bx h hty => ?_, hi.phid, hi.phij, fun t n h => ?_, hi.taud, hi.tauj, fun i b h => ⟨(hi.phil i b h).1, Nat.lt_of_lt_of_le (hi.phil i b h).2 hb.size⟩, hi.tel, ?_⟩,
    ⟨.refl G, hb.size, fun _ _ h => .inl h, fun _ _ h => .inl h, fun _ _ _ h => .inl h, fun b h _ _ _ => hb.block b h, fun i v b m h => .inl ⟨v, m, h⟩⟩⟩
  · rw [hb.cell (p := ⟨b, o, none⟩) (hlt b o v h)]
    exact hi.imm b o v h
  · obtain ⟨b, vs, j1, j2, j3, j4, j5, j6, j7, j8⟩ := hi.box i bx h hty
    exact ⟨b, vs, j1, j2, hbl _ _ j3, j4, j5, j6, j7, j8⟩
  · obtain ⟨b, m, vs, ty, fz, j1, j2, j3, j4, j5, j6, j7⟩ := hi.tok t n h
    refine ⟨b, m, vs, ty, fz, j1, j2, hbl _ _ j3, j4, j5, fun o ho => ?_, j7⟩
    rw [hb.frozen (p := ⟨b, o, none⟩) (Array.getElem?_eq_some_iff.1 j3).1]
    exact j6 o ho
  · exact hi.ex.stay (.refl G) rfl (fun i bx _ h => h) (Nat.le_refl _) hb.size (fun b hs => hb.block b (hs.lt hi)) (fun b hs o => hs.I hi o) (fun i b h => .inl h) (fun t x h => .inl h)

/-- ROUNDS, each of less than the one ahead; any of them may end the loop. -/
theorem iter_meas {body : FS → Option (Out × FS)} {I : Nat → FS → Prop} {Q : Out × FS → Prop}
    (h : ∀ m fs, I m fs → ∃ o fs', body fs = some (o, fs') ∧ ((o = .norm ∧ ∃ m', m' < m ∧ I m' fs') ∨ (o ≠ .norm ∧ Q (o, fs')))) : ∀ (m L : Nat) (fs : FS), m < L → I m fs → ∃ r, iter L body fs = some r ∧ Q r := by
  intro m
  induction m using Nat.strongRecOn with
  | _ m ih =>
  intro L fs hL hI
  obtain ⟨L, rfl⟩ : ∃ k, L = k + 1 := ⟨L - 1, by omega⟩
  obtain ⟨o, fs', h1, h2⟩ := h m fs hI
  rcases h2 with ⟨rfl, m', hm, hI'⟩ | ⟨ho, hq⟩
  · obtain ⟨r, h3, h4⟩ := ih m' hm L fs' (by omega) hI'
    exact ⟨r, by simp only [iter, h1]; exact h3, h4⟩
  · refine ⟨(o, fs'), ?_, hq⟩
    simp only [iter, h1]
    cases o <;> first | rfl | exact absurd rfl ho

/-- likewise: for a rewrite with a condition -/
theorem skolemR {p : FS → Prop} {q : FS → Out × FS → Prop} (h : ∀ x, p x → ∃ y, q x y) : ∃ F : FS → Out × FS, ∀ x, p x → q x (F x) := by
  classical
  exact ⟨fun x => if h' : p x then (h x h').choose else (.norm, x), fun x hx => by
    have := (h x hx).choose_spec
    simp only [dif_pos hx]
    exact this⟩

def strsOf : List AV → Option (List (List UInt8))
  | [] => some []
  | .str s :: l => match strsOf l with
    | some r => some (s :: r) | none => none
  | _ :: _ => none

theorem strsOf_map : ∀ l : List (List UInt8), strsOf (l.map AV.str) = some l
  | [] => rfl
  | s :: l => by simp [strsOf, strsOf_map l]

theorem strsOf_inv : ∀ {es : List AV} {l : List (List UInt8)}, strsOf es = some l → es = l.map AV.str
  | [], l, h => by simp [strsOf] at h; subst h; rfl
  | .str s :: es, l, h => by
    simp only [strsOf] at h
    split at h
    · rename_i r hr
      cases h
      rw [strsOf_inv hr]; rfl
    · cases h
  | .junk :: _, _, h => by simp [strsOf] at h
  | .undef :: _, _, h => by simp [strsOf] at h
  | .bool _ :: _, _, h => by simp [strsOf] at h
  | .int _ _ :: _, _, h => by simp [strsOf] at h
  | .agg _ :: _, _, h => by simp [strsOf] at h
  | .tup _ :: _, _, h => by simp [strsOf] at h
  | .slice _ _ :: _, _, h => by simp [strsOf] at h
  | .nilp :: _, _, h => by simp [strsOf] at h
  | .ref _ :: _, _, h => by simp [strsOf] at h
  | .loc .. :: _, _, h => by simp [strsOf] at h
  | .ptr .. :: _, _, h => by simp [strsOf] at h
  | .fn .. :: _, _, h => by simp [strsOf] at h
  | .iface .. :: _, _, h => by simp [strsOf] at h
  | .nilif :: _, _, h => by simp [strsOf] at h

theorem flatQ_strs : ∀ l : List (List UInt8), flatQ (l.map AV.str) = some (l.map AV.str)
  | [] => rfl
  | s :: l => by simp [flatQ, AV.cells?, flatQ_strs l]

theorem VRL_strs {G : Gh} : ∀ {l : List (List UInt8)} {vs : List Value}, VRL G (l.map AV.str) vs → ∃ xs : List ByteArray, vs = xs.map Value.string ∧ xs.map (·.data.toList) = l
  | [], vs, h => by cases h; exact ⟨[], rfl, rfl⟩
  | s :: l, vs, h => by
    cases h with
    | cons _ v _ m ha hl =>
      obtain ⟨p, rfl, rfl⟩ := ha.inv_str
      obtain ⟨xs, rfl, rfl⟩ := VRL_strs hl
      exact ⟨p :: xs, rfl, rfl⟩

/-- into a function that defers -/
theorem ev_enterD {P : Program} {E : Env} {n : Nat} {f : FuncId} {args : List AV} {S : St} {fn : Func} {c A B : Code} {ops : Array Oper} {d : Call} (hok : E.ok f = true) (hdf : E.dfr f = true) (hf : P.funcs[f]? = some fn) (hb : fn.body = some c) (hc : cutD c = some (A, ops, d, B))
    (hn : args.length ≤ fn.ntmps) (hname : (fn.name == "runtime.NumGoroutine") = false) :
    ev P E (n + 1) f args S = (match evCode ⟨P, E.esc f, n⟩ (ev P E n) (E.ps f) n A ⟨argsA args, fun _ => (0, []), 0, S⟩ with
      | some (.norm, fs1) =>
        match seqA ⟨P, E.esc f, n⟩ (ev P E n) ops (List.range (ops.size - 1)) fs1 with
        | some (.ok fs2 _) =>
          match d.callee with
          | .value w =>
            match rho fs2.t w with
            | .fn g first cap => fromD P ⟨P, E.esc f, n⟩ (evd P E n) g (first ++ (rhoL fs2.t d.args ++ cap)) S fn.results.toList (evCode ⟨P, E.esc f, n⟩ (ev P E n) (E.ps f) n B ⟨fs2.t, fs2.b, fs2.c + ops.size, fs2.S⟩)
            | _ => none
          | _ => none
        | _ => none
      | some (.ret, fs1) => fromBody P ⟨P, E.esc f, n⟩ S fn.results.toList (some (.ret, fs1))
      | some (.pan v, fs1) => finPan S v fs1.S
      | _ => none) := by
  have hev : ev P E (n + 1) f args S = (if E.ok f then (if E.dfr f then evFuncD P E (ev P E n) (evd P E n) n f args S else evFunc P E (ev P E n) n f args S) else E.ext f args S) := rfl
  rw [hev, if_pos hok, if_pos hdf, evFuncD, hf]
  simp only [hb]
  rw [if_pos ⟨hn, hname⟩, hc]
  rfl
/-- into a deferred function -/
theorem evd_enter {P : Program} {E : Env} {n : Nat} {f : FuncId} {args : List AV} {S : St} {pv : Option AV} (hok : E.ok f = true) : evd P E (n + 1) f args S pv = evDefer P E (ev P E n) n f args S pv := by
  have hev : evd P E (n + 1) f args S pv = (if E.ok f then evDefer P E (ev P E n) n f args S pv else none) := rfl
  rw [hev, if_pos hok]
end Go.Proofs.YtanhmedeolhaoaaGreat.AE
/- The evaluator's rewriting lemmas, as one set for simp. No condition. -/
namespace Go.Proofs.YtanhmedeolhaoaaGreat.AE
open Go
attribute [simp ↓] evOp_build evOp_bslice
attribute [simp] evB2_int evB2_bool evB2_str evB2_eqi evB2_nei evB2_eqn evB2_nen evB2_peq evB2_pne evB2_req evB2_rne evB2_zeq evB2_zne isC_c isC_t evAssert rhoP_nil rhoP_cons evCode_skip evCode_region evCode_draw evCode_seq evCode_cond evCode_block evCode_loop evCode_exit evCode_ret seqK_ite seqK_none seqK_norm seqK_ret seqK_exit seqK_pan condK_true condK_false condK_bool blockK_ite blockK_none blockK_norm blockK_ret blockK_exit blockK_pan stepK_ite stepK_none stepK_ok stepK_pan drawK_ite drawK_none drawK_ok drawK_pan opK_ite opK_none opK_val opK_pan wantK_true wantK_false wantK_some afterRegion_ite afterDraw_ite fromBody_ite ite_bool ite_int stepA_K doOp noOp lexA_nil lexA_cons lexF_nil lexF_cons afterDraw noClash panIn lostF FP.clash wantedA evOp rho rhoL ofC0 ofC argsA upd afterRegion putA goOp evBin_add evBin_sub evBin_mul evBin_quo evBin_rem evBin_eql evBin_neq evBin_lss evBin_leq evBin_gtr evBin_geq evBin_eqlB evBin_neqB evBin_addS evBin_eqlS evBin_neqS evBin_lssS evBin_leqS evUn evConv evIndex evBuiltin evLen evMin2 evMax2 evCallee evBox evLoad evStore evFieldAddr evField evIndexAddr evBuild evBuildSlice evElems evSlice nth rdc wrc fromBody resA finRet oneOf
end Go.Proofs.YtanhmedeolhaoaaGreat.AE
