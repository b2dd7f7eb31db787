/- Steps and rows of operations: the evaluator's are the model's. No condition. -/
import Derived.Test.YtemggoaefohliaaAeI
import Derived.Orders
namespace Go.Proofs.Ytemggoaefohliaa.AE
set_option linter.unusedVariables false
set_option linter.unusedSimpArgs false
open Go Go.RowKit

structure FR (F : Fix) (nt : Nat) (D : Nat → Prop) (fs : FS) (G : Gh) (a : Act) (w : World) : Prop where
  pre : Pre F fs G w
  tm : ∀ x, VR G (fs.t x) (a.tmps.getD x undef)
  nt : a.tmps.size = nt
  df : a.defers = []
  nul : ∀ d v, d < F.cx.dep → G.nu d v = none
  nud : ∀ v, G.nu F.cx.dep v ≠ none → v ≤ fs.c ∨ ∃ j, D j ∧ v = fs.c + j + 1
  nue : ∀ d v, d ≠ F.cx.dep → G.nu d v = F.Ge.nu d v

theorem put_VR {G : Gh} {t : Nat → AV} {a : Act} {dst : Option Tmp} {v : AV} {v' : Value} (h : ∀ x, VR G (t x) (a.tmps.getD x undef)) (hv : VR G v v') (hd : ∀ d, dst = some d → d < a.tmps.size) : ∀ x, VR G (putA t dst v x) ((a.put dst v').tmps.getD x undef) := by
  intro x
  cases dst with
  | none => exact h x
  | some d =>
    have hlt := hd d rfl
    show VR G (upd d v t x) ((a.tmps.setIfInBounds d v').getD x undef)
    unfold upd
    split
    · rename_i hx
      subst hx
      simpa [Array.getD_eq_getD_getElem?, hlt] using hv
    · rename_i hx
      have := h x
      rw [Array.getD_eq_getD_getElem?] at this ⊢
      rw [Array.getElem?_setIfInBounds_ne (Ne.symm hx)]
      exact this
theorem put_size (a : Act) (dst : Option Tmp) (v : Value) : (a.put dst v).tmps.size = a.tmps.size := by
  cases dst <;> simp [Act.put]
theorem put_defers' (a : Act) (dst : Option Tmp) (v : Value) : (a.put dst v).defers = a.defers := by
  cases dst <;> rfl

theorem FR.put {F : Fix} {nt : Nat} {D : Nat → Prop} {fs : FS} {G G' : Gh} {a : Act} {w w' : World} (h : FR F nt D fs G a w) {i : Nat} {dst : Option Tmp} {v : AV} {v' : Value} {b : Nat → Nat × List AV} {S : St}
    (hd : ∀ d, dst = some d → d < nt) (hp : Post F fs.c i G b S v G' w' v') : FR F nt (fun j => D j ∨ j = i) ⟨putA fs.t dst v, b, fs.c, S⟩ G' (a.put dst v') w' where
  pre := ⟨hp.inv, hp.ext, hp.loc⟩
  tm := put_VR (fun x => (h.tm x).mono hp.le) hp.vr (by rw [h.nt]; exact hd)
  nt := by rw [put_size]; exact h.nt
  df := by rw [put_defers']; exact h.df
  nul d x hx := by
    cases hn : G'.nu d x with
    | none => rfl
    | some k =>
      have h1 := h.nul d x hx
      obtain ⟨e, _⟩ := hp.nu d x (by rw [hn, h1]; simp)
      omega
  nud x hx := by
    by_cases hc : G'.nu F.cx.dep x = G.nu F.cx.dep x
    · rw [hc] at hx
      rcases h.nud x hx with h' | ⟨j, h1, h2⟩
      · exact .inl h'
      · exact .inr ⟨j, .inl h1, h2⟩
    · exact .inr ⟨i, .inr rfl, (hp.nu _ _ hc).2⟩
  nue d x hd := by
    by_cases hc : G'.nu d x = G.nu d x
    · rw [hc]; exact h.nue d x hd
    · exact absurd (hp.nu _ _ hc).1 hd

theorem FR.drew {F : Fix} {nt : Nat} {D : Nat → Prop} {fs : FS} {G : Gh} {a : Act} {w : World} (h : FR F nt D fs G a w) : FR F nt D fs G a w.drew := ⟨h.pre.drew, h.tm, h.nt, h.df, h.nul, h.nud, h.nue⟩
theorem FR.weak {F : Fix} {nt : Nat} {D D' : Nat → Prop} {fs : FS} {G : Gh} {a : Act} {w : World} (h : FR F nt D fs G a w) (hD : ∀ j, D j → D' j) : FR F nt D' fs G a w :=
  ⟨h.pre, h.tm, h.nt, h.df, h.nul, fun v hv => (h.nud v hv).imp id fun ⟨j, h1, h2⟩ => ⟨j, hD j h1, h2⟩, h.nue⟩

theorem wantedA_spec {gd : Option (Nat × Bool)} {o : Oper} {ops : Array Oper} {t : Nat → AV} {G : Gh} {a : Act} {q : Bool} (hg : o.guard = gd) (htm : ∀ x, VR G (t x) (a.tmps.getD x undef)) (h : wantedA gd ops t = some q) : Region.wanted o (yielded ops a.tmps) = q := by
  unfold wantedA at h
  unfold Region.wanted
  rw [hg]
  split at h
  · cases h; rfl
  · rename_i j want
    split at h
    · rename_i d hd
      have ht := htm d
      split at h
      · rename_i b hb
        cases h
        rw [hb] at ht
        have := ht.inv_bool
        rw [Array.getD_eq_getD_getElem?] at this
        cases hh : a.tmps[d]? with
        | none => rw [hh] at this; simp [undef] at this
        | some v =>
          rw [hh] at this
          simp at this
          subst this
          simp [yielded, hd, hh]
      · rename_i hb
        cases h
        rw [hb] at ht
        have hu : a.tmps.getD d undef = .tuple #[] := by
          generalize a.tmps.getD d undef = z at ht
          cases ht; rfl
        rw [Array.getD_eq_getD_getElem?] at hu
        cases hh : a.tmps[d]? with
        | none => simp [yielded, hd, hh]
        | some v =>
          rw [hh] at hu
          simp at hu
          subst hu
          simp [yielded, hd, hh]
      · cases h
    · cases h

/-- what one step of a region gives -/
def StepOK (F : Fix) (nt : Nat) (D : Nat → Prop) (i : Nat) (P : Program) (ops : Array Oper) (a : Act) (w : World) : OutS → Prop
  | .ok fs' _ => ∀ (K : Act → World → Prop) (Q : Exit → Act → World → Prop), (∀ G' a' w', FR F nt (fun j => D j ∨ j = i) fs' G' a' w' → K a' w') → wpOp P ops Q i K a w
  | .pan v fs' => ∀ (K : Act → World → Prop) (Q : Exit → Act → World → Prop), (∀ G' w' v', FR F nt D fs' G' a w' → VR G' v v' → Q (.panic [{ v := v', recovered := false }]) a w') → wpOp P ops Q i K a w

theorem stepA_sound {F : Fix} {nt : Nat} {D : Nat → Prop} {call : Cal} {fs : FS} {G : Gh} {a : Act} {w : World} {ops : Array Oper} {i : Nat} {o : Oper} (hi : ops[i]? = some o) (h : FR F nt D fs G a w) (hD : ¬ D i)
    (hd : ∀ d, o.dst = some d → d < nt) (hc : CalOK F.cx.P call F.cx.dep) {r : OutS} (hs : stepA F.cx call ops i o fs = some r) : StepOK F nt D i F.cx.P ops a w r := by
  have hn : G.nu F.cx.dep (fs.c + i + 1) = none := by
    cases hn : G.nu F.cx.dep (fs.c + i + 1) with
    | none => rfl
    | some k =>
      rcases h.nud (fs.c + i + 1) (by rw [hn]; simp) with h' | ⟨j, h1, h2⟩
      · omega
      · have : j = i := by omega
        subst this
        exact absurd h1 hD
  unfold stepA at hs
  split at hs
  · rename_i hw
    have hw' := wantedA_spec rfl h.tm hw
    split at hs
    · rename_i v b S fp hev
      cases hs
      intro K Q hk
      unfold wpOp
      simp only [hi, hw', if_true]
      exact .inl (evOp_sound h.pre h.tm hn h.nul hc hev K Q fun G' w' v' hp => hk G' _ w' (h.put hd hp))
    · rename_i v S hev
      cases hs
      intro K Q hk
      unfold wpOp
      simp only [hi, hw', if_true]
      exact .inl (evOp_sound h.pre h.tm hn h.nul hc hev K Q fun G' w' v' hp => hk G' w' v'
        ⟨⟨hp.inv, hp.ext, hp.loc⟩, fun x => (h.tm x).mono hp.le, h.nt, h.df, fun d x hx => by rw [hp.nu]; exact h.nul d x hx, fun x hx => h.nud x (by rw [← hp.nu]; exact hx), fun d x hx => by rw [hp.nu]; exact h.nue d x hx⟩ hp.vr)
    · cases hs
  · rename_i hw
    have hw' := wantedA_spec rfl h.tm hw
    cases hs
    intro K Q hk
    unfold wpOp
    simp only [hi, hw', Bool.false_eq_true, if_false]
    exact hk G _ w (h.put (i := i) (v := .undef) (v' := undef) hd (Post.same h.pre .undef))
  · cases hs

/-- what a row of operations gives -/
def SeqOK (F : Fix) (nt : Nat) (D : Nat → Prop) (l : List Nat) (P : Program) (ops : Array Oper) (a : Act) (w : World) : OutS → Prop
  | .ok fs' _ => ∀ (Q : Exit → Act → World → Prop), (∀ G' a' w', FR F nt (fun j => D j ∨ j ∈ l) fs' G' a' w' → Q .normal a' w') → wpOps P ops Q l a w
  | .pan v fs' => ∀ (Q : Exit → Act → World → Prop), (∀ D' G' a' w' v', FR F nt D' fs' G' a' w' → VR G' v v' → Q (.panic [{ v := v', recovered := false }]) a' w') → wpOps P ops Q l a w

theorem seqA_sound {F : Fix} {nt : Nat} {call : Cal} {ops : Array Oper} (hd : ∀ (i : Nat) o, ops[i]? = some o → ∀ d, o.dst = some d → d < nt) (hc : CalOK F.cx.P call F.cx.dep) : ∀ (l : List Nat) (D : Nat → Prop) (fs : FS) (G : Gh) (a : Act) (w : World), l.Nodup → (∀ i ∈ l, ¬ D i) →
    FR F nt D fs G a w → ∀ r, seqA F.cx call ops l fs = some r → SeqOK F nt D l F.cx.P ops a w r
  | [], D, fs, G, a, w, _, _, h, r, hs => by
    cases hs
    intro Q hq
    exact hq G a w (h.weak fun j hj => .inl hj)
  | i :: l, D, fs, G, a, w, hn, hD, h, r, hs => by
    simp only [seqA] at hs
    split at hs
    · cases hs
    · rename_i o hi
      have hnd := List.nodup_cons.1 hn
      cases hst : stepA F.cx call ops i o fs with
      | none => rw [hst] at hs; cases hs
      | some s =>
        rw [hst] at hs
        have hok := stepA_sound hi h (hD i (by simp)) (hd i o hi) hc hst
        cases s with
        | ok fs' fp =>
          simp only at hs
          have ih := fun G' a' w' h' => seqA_sound hd hc l (fun j => D j ∨ j = i) fs' G' a' w' hnd.2 (fun j hj hj' => by
            rcases hj' with h1 | rfl
            · exact hD j (by simp [hj]) h1
            · exact hnd.1 hj) h' r hs
          cases r with
          | ok fs'' fp' =>
            intro Q hq
            rw [wpOps_cons]
            refine hok _ Q fun G' a' w' h' => ih G' a' w' h' Q fun G'' a'' w'' h'' => hq G'' a'' w'' (h''.weak fun j hj => ?_)
            rcases hj with (h1 | rfl) | h1
            · exact .inl h1
            · exact .inr (by simp)
            · exact .inr (by simp [h1])
          | pan v fs'' =>
            intro Q hq
            rw [wpOps_cons]
            exact hok _ Q fun G' a' w' h' => ih G' a' w' h' Q hq
        | pan v fs' =>
          cases hs
          intro Q hq
          rw [wpOps_cons]
          exact hok _ Q fun G' w' v' h' hv => hq D G' a w' v' h' hv

theorem lexA_seqA {cx : Ctx} {call : Cal} {ops : Array Oper} : ∀ (l : List Oper) (i : Nat) (fs : FS), (∀ j, l[j]? = ops[i + j]?) → lexA cx call ops i l fs = seqA cx call ops (List.range' i l.length) fs
  | [], i, fs, _ => rfl
  | o :: l, i, fs, h => by
    have h0 : ops[i]? = some o := by simpa using (h 0).symm
    rw [lexA, List.length_cons, List.range'_succ, seqA, h0]
    simp only
    have ih := fun fs' => lexA_seqA (cx := cx) (call := call) l (i + 1) fs' fun j => by
      have := h (j + 1)
      simpa [Nat.add_assoc, Nat.add_comm 1 j] using this
    cases stepA cx call ops i o fs with
    | none => rfl
    | some s => cases s with
      | ok fs' fp => exact ih fs'
      | pan v fs' => rfl
theorem lexA_range {cx : Ctx} {call : Cal} {ops : Array Oper} (fs : FS) : lexA cx call ops 0 ops.toList fs = seqA cx call ops (List.range ops.size) fs := by
  rw [lexA_seqA ops.toList 0 fs (by simp), List.range_eq_range']
  simp
end Go.Proofs.Ytemggoaefohliaa.AE
